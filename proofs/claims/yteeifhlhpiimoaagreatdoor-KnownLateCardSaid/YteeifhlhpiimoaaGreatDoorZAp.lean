/-
  What yardstickref18's Some makes of six integers, and what lies in memory while it does. No condition. The contract of yardstickref18's Some. Conditions: rows of six integers of 64 bits in memory. Slices of elements of several cells that read as a list: opened; a slice of slices of strings. Conditions: an argument is what the row's first reading says. A slice of rows of six integers, opened as an argument. Condition: the argument is what the row's first reading says. Plain laws of the encodings: what is read is what was written, and only that. No condition; no program is named here.
-/
import Derived.Test.YteeifhlhpiimoaaGreatDoorZAo
import Derived.Test.YteeifhlhpiimoaaGreatDoorZAk
import Derived.Test.YteeifhlhpiimoaaGreatDoorZAa
import Derived.Test.YteeifhlhpiimoaaGreatDoorZAi
set_option maxHeartbeats 4000000
set_option maxRecDepth 100000
section
namespace Go.Proofs.YteeifhlhpiimoaaGreatDoor
open Go Go.RowKit Go.Shelf
structure Six where
 y0:Int
 y1:Int
 y2:Int
 y3:Int
 y4:Int
 y5:Int
def Six.cells (y:Six):List Value:=[.int .i64 y.y0,.int .i64 y.y1,.int .i64 y.y2,.int .i64 y.y3,.int .i64 y.y4,.int .i64 y.y5]
structure Six.Ok (y:Six):Prop where
 h0:I64 y.y0
 h1:I64 y.y1
 h2:I64 y.y2
 h3:I64 y.y3
 h4:I64 y.y4
 h5:I64 y.y5
def headE (y:Six):Ent:={zeroE with kind:=1+pickZ y.y0 9,ver:=1+pickZ (Int.tdiv y.y0 9) 3,day:=pickZ y.y1 30,gone:=pickZ (Int.tdiv y.y1 30) 7==0}
def hdE (kd:Nat) (v d:Int) (g:Bool):Ent:={zeroE with kind:=(kd:Int),ver:=v,day:=d,gone:=g}
def loE (y:Six):Int:=pickZ y.y2 41-20
def hiE (y:Six):Int:=pickZ y.y2 41-20+pickZ y.y5 5
def denE (y:Six):Nat:=(1+pickZ (Int.tdiv y.y2 41) 4).toNat
def denR (y:Six):Nat:=(1+pickZ y.y4 9).toNat
def shE (y:Six) (k:Nat):Int:=y.y2/2^(2*k)
theorem sh_I64 {x:Int} (h:I64 x) {k:Nat} (hk:k≤4):I64 (x/2^(2*k)):=by
 obtain⟨h1,h2⟩:=h;unfold I64;rcases(show k=0∨k=1∨k=2∨k=3∨k=4 by omega) with rfl|rfl|rfl|rfl|rfl
 all_goals (simp only[Nat.mul_zero,Nat.mul_one,Nat.reduceMul,Int.reducePow];omega)
def stepE (y:Six) (k f:Nat) (e:Ent):Ent:=match f with
 |0=>{e with id:=1+pickZ y.y3 9}
 |1=>{e with frm:=pickZ y.y4 40}
 |2=>{e with til:=e.frm+pickZ y.y5 30}
 |7=>{e with ln:=rnB (loE y) (denE y),ld:=rdB (loE y) (denE y),hn:=rnB (hiE y) (denE y),hd:=rdB (hiE y) (denE y)}
 |8=>{e with rn:=rnB (pickZ y.y2 9) (denR y),rd:=rdB (pickZ y.y2 9) (denR y)}
 |9=>{e with text:=rootG y.y2}
 |f=>setE e f (1+pickZ (shE y k) 4)
def foldE (y:Six):Nat→List Nat→Ent→Ent
 |_,[],e=>e
 |k,f::fs,e=>foldE y (k+1) fs (stepE y k f e)
def kindOf (y:Six):Nat:=(1+pickZ y.y0 9).toNat
def someE (y:Six):Ent:=foldE y 0 (fieldsL (kindOf y)) (headE y)
theorem fold_drop {y:Six} {fs:List Nat} {k f:Nat} {e:Ent} (h:fs[k]?=some f):foldE y k (fs.drop k) e=foldE y (k+1) (fs.drop (k+1)) (stepE y k f e):=by
 obtain⟨h1,h2⟩:=List.getElem?_eq_some_iff.1 h;rw[List.drop_eq_getElem_cons h1,h2];rfl
structure SmI (w:World) (p b:Nat) (y:Six) (v7:Value) (fs:List Nat) (v3:Value) (out:List Ent) (e:Ent) (W:World):Prop where
 hy:W.heap[p]?=some (.cells y.cells.toArray 78 (0,0))
 he:EntAt W b e
 hf:LsAt W v7 fs
 hff:Fresh (b+1) v7
 ho:OL W w.heap.size 33 18 Ent.cells v3 out
 hol:∀g,v3.ownBlock=some g→g<p
 hpb:p<b
 hwp:w.heap.size≤p
 hB:Below w.heap.size w W
section
variable {w:World} {p b:Nat} {y:Six} {v7:Value} {fs:List Nat} {v3:Value} {out:List Ent} {e:Ent} {W:World}
theorem SmI.ycell (h:SmI w p b y v7 fs v3 out e W) {i:Nat} {v:Value} (hv:y.cells[i]?=some v):W.cell? ⟨p,i,none⟩=some v:=cells_i h.hy (by simpa using hv)
theorem SmI.step (h:SmI w p b y v7 fs v3 out e W) {W':World} (hb:Below W.heap.size W W'):SmI w p b y v7 fs v3 out e W':=
 ⟨below_at2 hb h.hy,h.he.below hb,h.hf.below hb,h.hff,h.ho.below hb (Nat.le_refl _),h.hol,h.hpb,h.hwp,h.hB.trans (hb.mono h.hB.size)⟩
theorem SmI.drew (h:SmI w p b y v7 fs v3 out e W):SmI w p b y v7 fs v3 out e W.drew:=h.step (Below.drew (Below.refl _ _))
theorem SmI.set (h:SmI w p b y v7 fs v3 out e W) {e':Ent} (i:Nat) (v:Value) (he:e.cells.toArray.setIfInBounds i v=e'.cells.toArray):SmI w p b y v7 fs v3 out e' (W.setCell ⟨b,i,none⟩ v):=by
 have hpb:=h.hpb;have hwp:=h.hwp;refine⟨(Below.heap_setCell _ _ _ _ (by show p≠b;omega)).trans h.hy,h.he.setc i v he,h.hf.set h.hff _ (Nat.lt_succ_self b) _,h.hff,h.ho.keep fun g hg=>Below.heap_setCell _ _ _ _ (by have:=h.hol g hg;show g≠b;omega),h.hol,h.hpb,h.hwp,h.hB.setCell (show w.heap.size≤b by omega) _⟩
theorem SmI.fcell {a7:Addr} {m c7 k f:Nat} (h:SmI w p b y (.slice (some a7) m c7) fs v3 out e W) (hf:fs[k]?=some f):W.cell? (a7.add k)=some (.int .i64 (f:Int)):=by
 obtain⟨A,c,e1,-,-,-,h4⟩:=h.hf;injection e1 with e1 _ _;subst e1;obtain⟨a,e2,-,hc⟩:=h4 k f hf;cases e2;exact hc
theorem SmI.set2 (h:SmI w p b y v7 fs v3 out e W) {e1 e2:Ent} (i:Nat) (u v:Value) (h1:e.cells.toArray.setIfInBounds i u=e1.cells.toArray) (h2:e1.cells.toArray.setIfInBounds (i+1) v=e2.cells.toArray):SmI w p b y v7 fs v3 out e2 ((W.setCell ⟨b,i,none⟩ u).setCell ⟨b,i+1,none⟩ v):=(h.set i u h1).set (i+1) v h2
theorem SmI.free (h:SmI w p b y v7 fs v3 out e W) (i:Nat):W.frozen? ⟨b,i,none⟩=false:=h.he.free i
end
structure SmZ (w:World) (p:Nat) (y:Six) (v3:Value) (out:List Ent) (W:World):Prop where
 hy:W.heap[p]?=some (.cells y.cells.toArray 78 (0,0))
 ho:OL W w.heap.size 33 18 Ent.cells v3 out
 hol:∀g,v3.ownBlock=some g→g<p
 hwp:w.heap.size≤p
 hB:Below w.heap.size w W
section
variable {w:World} {p b:Nat} {y:Six} {v7:Value} {fs:List Nat} {v3:Value} {out:List Ent} {e:Ent} {W:World}
theorem SmZ.ycell (h:SmZ w p y v3 out W) {i:Nat} {v:Value} (hv:y.cells[i]?=some v):W.cell? ⟨p,i,none⟩=some v:=cells_i h.hy (by simpa using hv)
theorem SmZ.step (h:SmZ w p y v3 out W) {W':World} (hb:Below W.heap.size W W'):SmZ w p y v3 out W':=
 ⟨below_at2 hb h.hy,h.ho.below hb (Nat.le_refl _),h.hol,h.hwp,h.hB.trans (hb.mono h.hB.size)⟩
theorem SmZ.drew (h:SmZ w p y v3 out W):SmZ w p y v3 out W.drew:=h.step (Below.drew (Below.refl _ _))
theorem SmZ.start (ho:OL W w.heap.size 33 18 Ent.cells v3 out) (hB:Below w.heap.size w W):SmZ w W.heap.size y v3 out (W.alloc (.cells y.cells.toArray 78)):=
 ⟨World.alloc_heap_new _ _,ho.alloc _,fun g hg=>(ho.lt g hg).2,hB.size,hB.trans ((below_new _ _).mono hB.size)⟩
theorem SmZ.alloc (h:SmZ w p y v3 out W):∃b V,W.heap.size=b∧W.alloc (.cells #[.int .i64 0,.int .i64 0,.int .i64 0,.int .i64 0,.bool false,.int .i64 0,.int .i64 0,.int .i64 0,.int .i64 0,.int .i64 0,.int .i64 0,.string ⟨#[]⟩,.string ⟨#[]⟩,.string ⟨#[]⟩,.string ⟨#[]⟩,.string ⟨#[]⟩,.string ⟨#[]⟩,.string ⟨#[]⟩] 33)=V∧SmZ w p y v3 out V∧EntAt V b zeroE∧p<b:=
 ⟨_,_,rfl,rfl,h.step (below_new _ _),Ent.new W zeroE,cells_lt h.hy⟩
theorem SmZ.row (h:SmZ w p y v3 out W) (hpb:p<b) (e:Ent):SmZ w p y v3 out (W.setRow b e.cells.toArray):=by
 obtain⟨h1,h2,h3,h4,h5⟩:=h
 have hs:∀k,k≠b→(W.setRow b e.cells.toArray).heap[k]?=W.heap[k]?:=fun k hk=>by
  simp only[World.setRow,Array.getElem?_modify];rw[if_neg (fun e=>hk e.symm)]
 exact⟨(hs p (by omega)).trans h1,h2.keep fun g hg=>hs g (by have:=h3 g hg;omega),h3,h4,h5.trans ⟨rfl,rfl,rfl,by simp[World.setRow],fun k hk=>hs k (by omega)⟩⟩
theorem SmZ.full (h:SmZ w p y v3 out W) (he:EntAt W b e) (hpb:p<b) (hf:LsAt W v7 fs) (hff:Fresh (b+1) v7):SmI w p b y v7 fs v3 out e W:=⟨h.hy,he,hf,hff,h.ho,h.hol,hpb,h.hwp,h.hB⟩
theorem SmI.row (h:SmI w p b y v7 fs v3 out e W) (e':Ent):SmI w p b y v7 fs v3 out e' (W.setRow b e'.cells.toArray):=by
 have hz:=SmZ.row (w:=w) (p:=p) (y:=y) (v3:=v3) (out:=out) ⟨h.hy,h.ho,h.hol,h.hwp,h.hB⟩ h.hpb e'
 have hs:∀k,k≠b→(W.setRow b e'.cells.toArray).heap[k]?=W.heap[k]?:=fun k hk=>by
  simp only[World.setRow,Array.getElem?_modify];rw[if_neg (fun e=>hk e.symm)]
 refine hz.full (set_ent h.he).1 h.hpb ?_ h.hff;obtain⟨A,c,rfl,q1,q2,q3,q4⟩:=h.hf;refine⟨A,c,rfl,q1,q2,q3,fun i x hx=> ?_⟩;obtain⟨a,rfl,hl,hc⟩:=q4 i x hx;have hb:=h.hff a _ _ rfl;refine⟨a,rfl,by simpa[World.setRow] using hl,?_⟩;unfold World.cell? at hc⊢;rw[hs _ (by rw[addr_add_block];omega)];exact hc
theorem step_store_ent {P:Program} {ops:Array Oper} {o:Oper} {a:Act} {V:World} {K:Act→World→Prop} {Q:Exit→Act→World→Prop} {D:Prop} {e0:Ent} (hgd:o.guard=none) (x y:Operand) (ho:o.op=.store 33 x y) (hd:o.dst=none) (b:Nat) (e:Ent)
 (hx:a.eval x=.pointer (some ⟨b,0,none⟩)) (hy:a.eval y=.agg e.cells.toArray) (hi:(P.info? 33).map (·.size)=some e.cells.toArray.size) (h0:EntAt V b e0) (hk:K a (V.setRow b e.cells.toArray)):
 if Region.wanted o (yielded ops a.tmps)=true then Oper.wp P o a V K Q else D:=by
 have hw:Region.wanted o (yielded ops a.tmps)=true:=by simp[Region.wanted,hgd]
 rw[if_pos hw];refine wp_store_row _ x y ho b _ hx hy 33 _ h0 hi rfl (one_cells e) ?_;rw[hd];exact hk
theorem step_yields {P:Program} {ops:Array Oper} {S:World→Prop} {o:Oper} {v:Value} {a:Act} {V:World} {K:Act→World→Prop} {Q:Exit→Act→World→Prop} {D:Prop} (hy:YieldsIf P ops S o v a) (hgd:o.guard=none) (hS:S V) (hk:K (a.put o.dst v) V):
 if Region.wanted o (yielded ops a.tmps)=true then Oper.wp P o a V K Q else D:=by
 have hw:Region.wanted o (yielded ops a.tmps)=true:=by simp[Region.wanted,hgd]
 rw[if_pos hw];rcases hy with⟨_,h⟩|⟨h,_⟩
 · unfold Oper.wp;rw[h V hS];exact hk
 · rw[hw] at h;cases h
theorem wpList_build_ent {ops:Array Oper} {rest:List Oper} {o:Oper} {a:Act} {V:World} {Q:Exit→Act→World→Prop} (hgd:o.guard=none) (x:Operand) (ho:o.op=.buildSlice 25 1 #[(0,x)]) (e:Ent) (hx:a.eval x=e.val)
 (hk:∀b V',V.heap.size=b→V.alloc (.cells e.cells.toArray 33)=V'→wpList Tryz.prog ops Q rest (a.put o.dst (.slice (some ⟨b,0,none⟩) 1 1)) V'):wpList Tryz.prog ops Q (o::rest) a V:=by
 refine wpList_plain hgd fun K hK=> ?_;have h:=hk _ _ rfl rfl;unfold Oper.wp execOp;have hr:=run_build_ent V e;obtain⟨z,hz⟩:=oQ (e.val);rw[hz] at hr hx;simp only[ho,List.map_toArray,List.map_cons,List.map_nil,hx,Sem.run_bind,hr,Result.andThen_ok];exact hK _ _ h
end
theorem fields_le (k:Nat):∀f∈fieldsL k,f≤9:=by
 intro f hf;unfold fieldsL at hf
 split at hf<;>simp at hf<;>omega
theorem fields_len (k:Nat):(fieldsL k).length≤5:=by unfold fieldsL;split<;>simp
def FrmOk (e:Ent):Prop:=0≤e.frm∧e.frm≤40
theorem step_frm (y:Six) (k f:Nat) {e:Ent} (h:FrmOk e):FrmOk (stepE y k f e):=by
 have hp:=pickZ_range y.y4 (n:=40) (by omega);unfold stepE
 split
 all_goals first
  |exact h
  |(unfold FrmOk;exact⟨hp.1,by have:=hp.2;show pickZ y.y4 40≤40;omega⟩)
  |(unfold setE;split<;>exact h)
end Go.Proofs.YteeifhlhpiimoaaGreatDoor
end
section
namespace Go.Proofs.YteeifhlhpiimoaaGreatDoor
open Go Go.RowKit Go.Shelf
attribute [local go_sem] Oper.semAt_some
def SixAt (w:World) (A:Option Addr) (l:List Six):Prop:=∀(i:Nat) (y:Six),l[i]?=some y→∃a,A=some a∧a.block<w.heap.size∧∀j v,y.cells[j]?=some v→w.cell? (a.add (i*6+j))=some v
theorem SixAt.below {w W:World} {A:Option Addr} {l:List Six} (h:SixAt w A l) (hb:Below w.heap.size w W):SixAt W A l:=fun i y hy=>by
 obtain⟨a,h1,h2,h3⟩:=h i y hy;exact⟨a,h1,Nat.lt_of_lt_of_le h2 hb.size,fun j v hv=>(hb.cell (p:=a.add (i*6+j)) (by rw[addr_add_block];exact h2)).trans (h3 j v hv)⟩
theorem wrap_of {x:Int} (h:I64 x):IntKind.i64.wrap x=x:=by obtain⟨h1,h2⟩:=h;rw[IntKind.wrap_i64];omega
theorem tdiv_I64 {x t d:Int} (h:I64 x) (hd:2≤d) (ht:Int.tdiv x d=t):I64 t:=by
 have h1:=Int.natAbs_tdiv x d;have h2:x.natAbs/d.natAbs≤x.natAbs/2:=Nat.div_le_div_left (by omega) (by omega);obtain⟨h3,h4⟩:=h;rw[ht] at h1;unfold I64;have h5:t.natAbs=x.natAbs/d.natAbs:=h1;omega
theorem pick_fact {x n k:Int} (h:I64 x) (hn:1≤n) (hn2:n≤9223372036854775807) (hk:pickZ x n=k):Hid (∀W,Calls Tryz.prog 51 #[.int .i64 x,.int .i64 n] W (fun e W'=>e=.returned (.int .i64 k)∧W=W')):=
 hZ fun W=>by rw[←hk];exact pick18_walk W x n h.1 h.2 hn hn2
theorem some_walk (l:List Six) (A:Option Addr) (n c:Nat) (hn:l.length=n) (hnm:n≤maxLen) (hok:∀y∈l,y.Ok) (w:World) (hA:SixAt w A l):
 Calls Tryz.prog 12 #[.slice A n c] w fun e w'=> ∃v,e=.returned v∧OL w' w.heap.size 33 18 Ent.cells v ((l.take 30).map someE)∧Below w.heap.size w w':=by
 have HA:=hZ hA;have HOK:=hZ hok;have HN:=hZ hn;have HNM:Hid (n≤9223372036854775807):=hZ (by unfold maxLen at hnm;omega);have IE:=fun e:Ent=>hZ (ientry (e:=e));have IS:=fun e:Ent=>hZ (show(Tryz.prog.info? 33).map (·.size)=some e.cells.toArray.size from ientry (e:=e));clear hA hok hn hnm
 go_enter Tryz.func12,Tryz.ntmps12
 go_wp2_with fail
 go_loopw [3,4] (fun ov iv wr=> ∃(v3:Value) (i:Nat),v3=ov∧iv=.int .i64 (i:Int)∧i≤n∧i≤30∧Hid (OL wr w.heap.size 33 18 Ent.cells v3 ((l.take i).map someE))∧Hid (Below w.heap.size w wr)) (fun _ i _=>30-(intOf i).toNat)
 case atStart=>exact⟨_,0,rfl,rfl,Nat.zero_le _,Nat.zero_le _,hZ OL.nil,hZ (Below.refl _ _)⟩
 case round=>
  obtain⟨v3,i,rfl,rfl,hi,hi30,HO,HB⟩:=hrel
  by_cases hlt:i<n∧i<30
  · have HLT:=hZ hlt
    obtain⟨y,hy⟩:∃y,l[i]?=some y:=⟨_,List.getElem?_eq_getElem (by rw[HN.out];exact hlt.1)⟩;have HYI:=hZ hy;have HYO:=hZ (HOK.out y (List.mem_of_getElem? hy));obtain⟨a,rfl,hab,hac⟩:=HA.out.below HB.out i y hy;obtain⟨q,hq⟩:=oQ (a.add (i*6));(have c0:wr.cell? q=some (.int .i64 y.y0):=by have h:=hac 0 _ rfl;rw[Nat.add_zero,hq] at h;exact h);(have c1:wr.cell? ⟨q.block,q.off+1,none⟩=some (.int .i64 y.y1):=by have h:=hac 1 _ rfl;rw[←addr_add_add,hq] at h;exact h);(have c2:wr.cell? ⟨q.block,q.off+2,none⟩=some (.int .i64 y.y2):=by have h:=hac 2 _ rfl;rw[←addr_add_add,hq] at h;exact h);(have c3:wr.cell? ⟨q.block,q.off+3,none⟩=some (.int .i64 y.y3):=by have h:=hac 3 _ rfl;rw[←addr_add_add,hq] at h;exact h);(have c4:wr.cell? ⟨q.block,q.off+4,none⟩=some (.int .i64 y.y4):=by have h:=hac 4 _ rfl;rw[←addr_add_add,hq] at h;exact h);(have c5:wr.cell? ⟨q.block,q.off+5,none⟩=some (.int .i64 y.y5):=by have h:=hac 5 _ rfl;rw[←addr_add_add,hq] at h;exact h);(have d1:decide (i<n)=true:=by simp[hlt.1]);(have d2:decide ((i:Int)<30)=true:=by simp;omega);(have z1:(0:Int)≤(i:Int):=by omega);(have z2:(i:Int)<(n:Int):=by omega);obtain⟨k0,hk0⟩:=oQ (pickZ y.y0 9);obtain⟨t1,ht1⟩:=oQ (Int.tdiv y.y0 9);obtain⟨k1,hk1⟩:=oQ (pickZ t1 3);obtain⟨k2,hk2⟩:=oQ (pickZ y.y1 30);obtain⟨t3,ht3⟩:=oQ (Int.tdiv y.y1 30);obtain⟨k3,hk3⟩:=oQ (pickZ t3 7);obtain⟨g,hg⟩:=oQ ((k3==0));have hI1:I64 t1:=tdiv_I64 HYO.out.h0 (by omega) ht1;have hI3:I64 t3:=tdiv_I64 HYO.out.h1 (by omega) ht3;have PK0:=pick_fact HYO.out.h0 (n:=9) (by omega) (by omega) hk0;have PK1:=pick_fact hI1 (n:=3) (by omega) (by omega) hk1;have PK2:=pick_fact HYO.out.h1 (n:=30) (by omega) (by omega) hk2;have PK3:=pick_fact hI3 (n:=7) (by omega) (by omega) hk3;have wt1:IntKind.i64.wrap t1=t1:=wrap_of hI1;have wt3:IntKind.i64.wrap t3=t3:=wrap_of hI3
    have r0:=pickZ_range y.y0 (n:=9) (by omega);have r1:=pickZ_range t1 (n:=3) (by omega);rw[hk0] at r0;rw[hk1] at r1;obtain⟨kd,hkd⟩:∃kd:Nat,1+k0=(kd:Int):=⟨(1+k0).toNat,by omega⟩;obtain⟨a1,ha1⟩:=oQ (1+k1);(have wa0:IntKind.i64.wrap (kd:Int)=(kd:Int):=by rw[IntKind.wrap_i64];omega);(have wa1:IntKind.i64.wrap a1=a1:=by rw[IntKind.wrap_i64];omega);have HKD:Hid (1≤kd∧kd≤9∧kd=kindOf y):=hZ ⟨by omega,by omega,by unfold kindOf;rw[hk0];omega⟩;have HE0:Hid (headE y=hdE kd a1 k2 g):=hZ (by unfold headE hdE;rw[hk0,ht1,hk1,hk2,ht3,hk3,hg,hkd,ha1]);have HYC:Hid (y.cells=[.int .i64 y.y0,.int .i64 y.y1,.int .i64 y.y2,.int .i64 y.y3,.int .i64 y.y4,.int .i64 y.y5]):=hZ rfl;obtain⟨p,hp⟩:=oQ (wr.heap.size);obtain⟨W0,hW0⟩:=oQ (wr.alloc (.cells #[.int .i64 y.y0,.int .i64 y.y1,.int .i64 y.y2,.int .i64 y.y3,.int .i64 y.y4,.int .i64 y.y5] 78));(have hz:SmZ w p y v3 ((l.take i).map someE) W0.drew:=by rw[←hW0,←hp];exact(SmZ.start HO.out HB.out).drew);have HZ:=hZ hz;clear hy hac hz hI1 hI3 r0 r1 hk0 hk1 hk2 hk3;go_wp2_with fail;refine wp_region_noPanic ?_;refine wp_region_held_drew (S:=fun U=>U.cell? ⟨p,0,none⟩=some (.int .i64 y.y0)∧U.cell? ⟨p,1,none⟩=some (.int .i64 y.y1)) (by kernel_rfl) ⟨HZ.out.ycell rfl,HZ.out.ycell rfl⟩ (fun hHeld=> ?_);obtain⟨U0,hU0⟩:=oQ (W0.drew);rw[hU0] at HZ hHeld⊢;clear hU0;refine tk 0 ?_;refine tk 1 ?_;refine tk 4 ?_;refine tk 5 ?_;refine tk 6 ?_;refine tk 9 ?_;refine tk 10 ?_;refine tk 12 ?_;refine tk 13 ?_;refine tk 14 ?_;apply share2;intro N0;apply share2;intro N1;apply share2;intro N2;apply share2;intro N3
    ·
     refine rd [2,18] ?_;refine rc (fun K hK=> ?_) ?_
     ·
      go_simp;refine(PK0.out U0).mono ?_;rintro e2 W2 ⟨rfl,rfl⟩;refine kk hK (⟨HZ.out.ycell rfl,HZ.out.ycell rfl⟩) (fun hHeld=> ?_);clear hK K;refine tk 3 ?_;refine rd [7,18] ?_;refine rc (fun K hK=> ?_) ?_
      ·
       go_simp;refine(PK1.out U0).mono ?_;rintro e2 W2 ⟨rfl,rfl⟩;refine kk hK (⟨HZ.out.ycell rfl,HZ.out.ycell rfl⟩) (fun hHeld=> ?_);clear hK K;refine tk 8 ?_;refine rd [11,18] ?_;refine rc (fun K hK=> ?_) ?_
       ·
        go_simp;refine(PK2.out U0).mono ?_;rintro e2 W2 ⟨rfl,rfl⟩;refine kk hK (⟨HZ.out.ycell rfl,HZ.out.ycell rfl⟩) (fun hHeld=> ?_);clear hK K;refine rd [15,18] ?_;refine rc (fun K hK=> ?_) ?_
        ·
         go_simp;refine(PK3.out U0).mono ?_;rintro e2 W2 ⟨rfl,rfl⟩;refine kk hK (⟨HZ.out.ycell rfl,HZ.out.ycell rfl⟩) (fun hHeld=> ?_);clear hK K;refine tk 16 ?_;refine tk 17 ?_;refine rd [18] ?_;refine rcE fun K hK=> ?_;go_simp;obtain⟨b,V6,q1,q2,hz,he,hpb⟩:=HZ.out.alloc;rw[q1,q2];have HZ:=hZ hz;have HE:=hZ (And.intro he hpb);clear q1 q2 hz he hpb;refine kk hK (⟨HZ.out.ycell rfl,HZ.out.ycell rfl⟩) (fun hHeld=> ?_);clear hK K;have HX:=(And.intro HZ (And.intro HE hHeld));exact N0 V6 b HX
        refine rcE fun K hK=> ?_;go_simp;obtain⟨b,V6,q1,q2,hz,he,hpb⟩:=HZ.out.alloc;rw[q1,q2];have HZ:=hZ hz;have HE:=hZ (And.intro he hpb);clear q1 q2 hz he hpb;refine kk hK (⟨HZ.out.ycell rfl,HZ.out.ycell rfl⟩) (fun hHeld=> ?_);clear hK K;have HX:=(And.intro HZ (And.intro HE hHeld));exact N1 V6 b HX
       refine rcE fun K hK=> ?_;go_simp;obtain⟨b,V6,q1,q2,hz,he,hpb⟩:=HZ.out.alloc;rw[q1,q2];have HZ:=hZ hz;have HE:=hZ (And.intro he hpb);clear q1 q2 hz he hpb;refine kk hK (⟨HZ.out.ycell rfl,HZ.out.ycell rfl⟩) (fun hHeld=> ?_);clear hK K;have HX:=(And.intro HZ (And.intro HE hHeld));exact N2 V6 b HX
      refine rcE fun K hK=> ?_;go_simp;obtain⟨b,V6,q1,q2,hz,he,hpb⟩:=HZ.out.alloc;rw[q1,q2];have HZ:=hZ hz;have HE:=hZ (And.intro he hpb);clear q1 q2 hz he hpb;refine kk hK (⟨HZ.out.ycell rfl,HZ.out.ycell rfl⟩) (fun hHeld=> ?_);clear hK K;have HX:=(And.intro HZ (And.intro HE hHeld));exact N3 V6 b HX
     refine rcE fun K hK=> ?_;go_simp;obtain⟨b,V6,q1,q2,hz,he,hpb⟩:=HZ.out.alloc;rw[q1,q2];have HZ:=hZ hz;have HE:=hZ (And.intro he hpb);clear q1 q2 hz he hpb;refine kk hK (⟨HZ.out.ycell rfl,HZ.out.ycell rfl⟩) (fun hHeld=> ?_);clear hK K;refine rd [2] ?_;refine rcE fun K hK=> ?_;go_simp;refine(PK0.out V6).mono ?_;rintro e2 W2 ⟨rfl,rfl⟩;refine kk hK (⟨HZ.out.ycell rfl,HZ.out.ycell rfl⟩) (fun hHeld=> ?_);clear hK K;refine tk 3 ?_;exact N3 V6 b ⟨HZ,HE,hHeld⟩
    ·
     rintro XN3 b ⟨HZ,HE,hHeld⟩;refine rd [7] ?_;refine rcE fun K hK=> ?_;go_simp;refine(PK1.out XN3).mono ?_;rintro e2 W2 ⟨rfl,rfl⟩;refine kk hK (⟨HZ.out.ycell rfl,HZ.out.ycell rfl⟩) (fun hHeld=> ?_);clear hK K;refine tk 8 ?_;exact N2 XN3 b ⟨HZ,HE,hHeld⟩
    ·
     rintro XN2 b ⟨HZ,HE,hHeld⟩;refine rd [11] ?_;refine rcE fun K hK=> ?_;go_simp;refine(PK2.out XN2).mono ?_;rintro e2 W2 ⟨rfl,rfl⟩;refine kk hK (⟨HZ.out.ycell rfl,HZ.out.ycell rfl⟩) (fun hHeld=> ?_);clear hK K;exact N1 XN2 b ⟨HZ,HE,hHeld⟩
    ·
     rintro XN1 b ⟨HZ,HE,hHeld⟩;refine rd [15] ?_;refine rcE fun K hK=> ?_;go_simp;refine(PK3.out XN1).mono ?_;rintro e2 W2 ⟨rfl,rfl⟩;refine kk hK (⟨HZ.out.ycell rfl,HZ.out.ycell rfl⟩) (fun hHeld=> ?_);clear hK K;refine tk 16 ?_;refine tk 17 ?_;exact N0 XN1 b ⟨HZ,HE,hHeld⟩
    ·
     rintro XN0 b ⟨HZ,HE,hHeld⟩;refine rd [19] ?_;refine rcE fun K hK=> ?_;refine step_store_ent (by rfl) (.tmp 6) (.tmp 40) (by rfl) (by rfl) b (hdE kd a1 k2 g) (by rfl) (by rfl) (IS _).out HE.out.1 ?_;have HZ2:=hZ (HZ.out.row HE.out.2 (hdE kd a1 k2 g));have HE2:=hZ (And.intro (set_ent (e:=hdE kd a1 k2 g) HE.out.1).1 HE.out.2);obtain⟨W7,hW7⟩:=oQ (XN0.setRow b (hdE kd a1 k2 g).cells.toArray);rw[hW7] at HZ2 HE2⊢;clear hW7;refine kk hK (⟨HZ2.out.ycell rfl,HZ2.out.ycell rfl⟩) (fun hHeld=> ?_);clear hK K;refine dn ?_;clear hHeld;have x0:=HE2.out.1.cell (i:=0) rfl;have x0':W7.cell? ⟨b,0,none⟩=some (.int .i64 (kd:Int)):=x0;clear x0 PK0 PK1 PK2 PK3 wt1 wt3 wa0 wa1 ht1 ht3 hg hkd ha1 HZ HE hW0 hp
     go_wp2_with (first
      |(go_at_call 52;refine(fields_walk kd HKD.out.1 HKD.out.2.1 W7).mono ?_;rintro e2 W8 ⟨v7,rfl,hf,hff,hb⟩;have HI:=hZ ((HZ2.out.step hb).full (HE2.out.1.below hb) HE2.out.2 hf (hff.base (cells_lt HE2.out.1)));obtain⟨A7,c7,rfl,-⟩:=hf;clear hff hb)
      |fail)
     obtain⟨fs,hfs⟩:=oQ (fieldsL kd);rw[hfs] at HI⊢;obtain⟨m,hm⟩:=oQ (fs.length);have HM:Hid (fs.length=m∧m≤5∧∀f∈fs,f≤9):=hZ ⟨hm,by rw[←hm,←hfs];exact fields_len kd,by rw[←hfs];exact fields_le kd⟩;rw[hm] at HI⊢;have HF0:Hid (foldE y 0 (fs.drop 0) (hdE kd a1 k2 g)=someE y):=hZ (by unfold someE;rw[HE0.out,←HKD.out.2.2,hfs];rfl);clear hfs hm HZ2 HE2 x0'
     go_loopw [8] (fun kv wr=> ∃(k:Nat) (e:Ent),kv=.int .i64 (k:Int)∧k≤m∧Hid (foldE y k (fs.drop k) e=someE y)∧Hid (FrmOk e)∧Hid (SmI w p b y (.slice A7 m c7) fs v3 ((l.take i).map someE) e wr)) (fun kv _=>m-(intOf kv).toNat)
     case atStart=>exact⟨0,_,rfl,Nat.zero_le _,HF0,hZ ⟨Int.le_refl _,(show(0:Int)≤40 by decide)⟩,HI⟩
     case round=>
      clear HI HF0;obtain⟨k,e,rfl,hk,HFO,HFR,HI⟩:=hrel;rcases Nat.lt_or_ge k m with hkm|hkm
      · have d3:decide (k<m)=true:=by simp[hkm]
        (have hk2:k<fs.length:=by rw[HM.out.1];exact hkm);obtain⟨A,cc,e9,q1,q2,q3,q4⟩:=HI.out.hf;injection e9 with e91 e92 e93;subst e91 e93;obtain⟨a7,rfl,ha7,hc7⟩:=q4.get hk2;obtain⟨f,hf⟩:=oQ (fs[k]);rw[hf] at hc7;unfold nv at hc7;have HFK:Hid (fs[k]?=some f):=hZ (by rw[←hf];exact List.getElem?_eq_getElem hk2);have hf9:=HM.out.2.2 f (List.mem_of_getElem? HFK.out);(have y1:(0:Int)≤(k:Int):=by omega);(have y2:(k:Int)<(m:Int):=by omega);(have wk:IntKind.i64.wrap ((k:Int)+1)=((k+1:Nat):Int):=by have:=HM.out.2.1;rw[IntKind.wrap_i64];omega);clear hf e92 q1 q2 q3 q4 hk2;rcases(show f=0∨f=1∨f=2∨f=3∨f=4∨f=5∨f=6∨f=7∨f=8∨f=9 by omega) with rfl|rfl|rfl|rfl|rfl|rfl|rfl|rfl|rfl|rfl
        all_goals clear hf9
        · obtain⟨u,hu⟩:=oQ (pickZ y.y3 9)
          have PK:=pick_fact HYO.out.h3 (n:=9) (by omega) (by omega) hu;have ru:=pickZ_range y.y3 (n:=9) (by omega);rw[hu] at ru;obtain⟨v,hv⟩:=oQ (1+u);(have wv:IntKind.i64.wrap v=v:=by rw[IntKind.wrap_i64];omega);have c3:=HI.out.ycell (i:=3) rfl;have x1:=HI.out.he.cell (i:=1) rfl;have x2:=HI.out.free 1;have HI2:=hZ (HI.out.set (e':=stepE y k 0 e) 1 (.int .i64 v) (by unfold stepE;rw[hu,hv];rfl));clear ru hu
          go_wp2_with (first|(go_at_call 51;refine(PK.out _).mono ?_;rintro e2 W2 ⟨rfl,rfl⟩)|fail)
          go_round
          case rel=>exact⟨k+1,_,rfl,by omega,hZ (by rw[←fold_drop HFK.out];exact HFO.out),hZ (step_frm y k 0 HFR.out),HI2⟩
          case measure=>simp[intOf];omega
        · obtain⟨u,hu⟩:=oQ (pickZ y.y4 40)
          have PK:=pick_fact HYO.out.h4 (n:=40) (by omega) (by omega) hu;have ru:=pickZ_range y.y4 (n:=40) (by omega);rw[hu] at ru;have c4:=HI.out.ycell (i:=4) rfl;have x1:=HI.out.he.cell (i:=5) rfl;have x2:=HI.out.free 5;have HI2:=hZ (HI.out.set (e':=stepE y k 1 e) 5 (.int .i64 u) (by unfold stepE;rw[hu];rfl));clear ru hu
          go_wp2_with (first|(go_at_call 51;refine(PK.out _).mono ?_;rintro e2 W2 ⟨rfl,rfl⟩)|fail)
          go_round
          case rel=>exact⟨k+1,_,rfl,by omega,hZ (by rw[←fold_drop HFK.out];exact HFO.out),hZ (step_frm y k 1 HFR.out),HI2⟩
          case measure=>simp[intOf];omega
        · obtain⟨u,hu⟩:=oQ (pickZ y.y5 30)
          have PK:=pick_fact HYO.out.h5 (n:=30) (by omega) (by omega) hu;have ru:=pickZ_range y.y5 (n:=30) (by omega);rw[hu] at ru;obtain⟨v,hv⟩:=oQ (e.frm+u);(have wv:IntKind.i64.wrap v=v:=by have:=HFR.out.1;have:=HFR.out.2;rw[IntKind.wrap_i64];omega);have HID:=hZ HI.out.drew;have x1:=HID.out.he.cell (i:=6) rfl;have x2:=HID.out.free 6;have HI2:=hZ (HID.out.set (e':=stepE y k 2 e) 6 (.int .i64 v) (by unfold stepE;rw[hu,hv];rfl));clear ru hu;go_wp2_with fail;refine wp_region_noPanic ?_;refine wp_region_held_drew (S:=fun U=>U.cell? ⟨b,5,none⟩=some (.int .i64 e.frm)∧U.cell? ⟨p,5,none⟩=some (.int .i64 y.y5)) (by kernel_rfl) ⟨HID.out.he.cell rfl,HID.out.ycell rfl⟩ (fun hHeld=> ?_);refine tk 0 ?_;refine tk 1 ?_;refine tk 2 ?_;refine tk 3 ?_;refine rd [4] ?_;refine rcE fun K hK=> ?_;go_simp;refine(PK.out _).mono ?_;rintro e2 W2 ⟨rfl,rfl⟩;refine kk hK (hHeld) (fun hHeld=> ?_);clear hK K;refine tk 5 ?_;refine tk 6 ?_;refine rd [7] ?_;refine rcE fun K hK=> ?_;go_simp;refine kk hK (⟨HI2.out.he.cell rfl,HI2.out.ycell rfl⟩) (fun hHeld=> ?_);clear hK K;refine dn ?_;clear hHeld;go_wp2_with fail
          go_round
          case rel=>exact⟨k+1,_,rfl,by omega,hZ (by rw[←fold_drop HFK.out];exact HFO.out),hZ (step_frm y k 2 HFR.out),HI2⟩
          case measure=>simp[intOf];omega
        · obtain⟨j,hj⟩:=oQ (2*k)
          (have hk4:k≤4:=by have:=HM.out.2.1;omega);have hIs:=sh_I64 HYO.out.h2 hk4;obtain⟨sv,hsv⟩:=oQ (y.y2/2^j);rw[hj,hsv] at hIs;obtain⟨u,hu⟩:=oQ (pickZ sv 4);have PK:=pick_fact hIs (n:=4) (by omega) (by omega) hu;have ru:=pickZ_range sv (n:=4) (by omega);rw[hu] at ru;obtain⟨v,hv⟩:=oQ (1+u);(have wv:IntKind.i64.wrap v=v:=by rw[IntKind.wrap_i64];omega);(have wj:IntKind.i64.wrap (2*(k:Int))=(j:Int):=by rw[IntKind.wrap_i64];omega);(have j0:(0:Int)≤(j:Int):=by omega);(have j1:(j:Int)≤64:=by omega);(have j2:j≤64:=by omega);have HSE:Hid (stepE y k 3 e=setE e 3 v):=hZ (by show setE e 3 (1+pickZ (shE y k) 4)=_;unfold shE;rw[hj,hsv,hu,hv]);have PS:Hid (∀W,Calls Tryz.prog 54 #[e.val,.int .i64 (3:Int),.int .i64 v] W fun x w'=>x=.returned (setE e 3 v).val∧Below W.heap.size W w'):=hZ fun W=>set_walk e 3 (by omega) v W;have HID:=hZ HI.out.drew;clear ru hu hIs hj;go_wp2_with fail;refine wp_region_noPanic ?_;refine wp_region_held_drew (S:=fun U=>U.cell? (a7.add k)=some (.int .i64 (3:Int))∧U.cell? ⟨p,2,none⟩=some (.int .i64 y.y2)) (by kernel_rfl) ⟨HID.out.fcell HFK.out,HID.out.ycell rfl⟩ (fun hHeld=> ?_);obtain⟨U0,hU0⟩:=oQ (wr.drew);rw[hU0] at HID hHeld⊢;clear hU0;refine tk 1 ?_;refine tk 2 ?_;refine tk 3 ?_;refine tk 4 ?_;refine tk 5 ?_;refine tk 6 ?_;refine tk 7 ?_;refine tk 8 ?_;refine tk 9 ?_;refine rd [0,10] ?_;refine rc (fun K hK=> ?_) ?_
          ·
           refine step_yields (S:=fun U=>EntAt U b e) (yieldsIf_load_mid (by rfl) 33 (.tmp 6) rfl b 0 (by rfl) e.cells _ (fun w hw=>range_of hw) Tryz.underlying33 rfl (IE _).out) (by rfl) HID.out.he ?_;refine kk hK (hHeld) (fun hHeld=> ?_);clear hK K;refine rd [10] ?_;refine rcE fun K hK=> ?_;go_simp;refine(PK.out _).mono ?_;rintro e2 W2 ⟨rfl,rfl⟩;refine kk hK (hHeld) (fun hHeld=> ?_);clear hK K;refine tk 11 ?_;refine rd [12] ?_;refine rcE fun K hK=> ?_;go_simp;refine(PS.out _).mono ?_;rintro e2 W8 ⟨rfl,hb⟩;have HI8:=hZ (HID.out.step hb);clear hb;refine kk hK (⟨HI8.out.fcell HFK.out,HI8.out.ycell rfl⟩) (fun hHeld=> ?_);clear hK K;refine rd [13] ?_;refine rcE fun K hK=> ?_;refine step_store_ent (by rfl) (.tmp 6) (.tmp 66) (by rfl) (by rfl) b (setE e 3 v) (by rfl) (by rfl) (IS _).out HI8.out.he ?_;have HI9:=hZ (HI8.out.row (setE e 3 v));refine kk hK (⟨HI9.out.fcell HFK.out,HI9.out.ycell rfl⟩) (fun hHeld=> ?_);clear hK K;refine dn ?_;have HI2:Hid (SmI w p b y (.slice (some a7) m c7) fs v3 ((l.take i).map someE) (stepE y k 3 e) _):=hZ (by rw[HSE.out];exact HI9.out);clear hHeld;go_wp2_with fail
           go_round
           case rel=>exact⟨k+1,_,rfl,by omega,hZ (by rw[←fold_drop HFK.out];exact HFO.out),hZ (step_frm y k 3 HFR.out),HI2⟩
           case measure=>simp[intOf];omega
          refine rcE fun K hK=> ?_;go_simp;refine(PK.out _).mono ?_;rintro e2 W2 ⟨rfl,rfl⟩;refine kk hK (hHeld) (fun hHeld=> ?_);clear hK K;refine tk 11 ?_;refine rd [0] ?_;refine rcE fun K hK=> ?_;refine step_yields (S:=fun U=>EntAt U b e) (yieldsIf_load_mid (by rfl) 33 (.tmp 6) rfl b 0 (by rfl) e.cells _ (fun w hw=>range_of hw) Tryz.underlying33 rfl (IE _).out) (by rfl) HID.out.he ?_;refine kk hK (hHeld) (fun hHeld=> ?_);clear hK K;refine rd [12] ?_;refine rcE fun K hK=> ?_;go_simp;refine(PS.out _).mono ?_;rintro e2 W8 ⟨rfl,hb⟩;have HI8:=hZ (HID.out.step hb);clear hb;refine kk hK (⟨HI8.out.fcell HFK.out,HI8.out.ycell rfl⟩) (fun hHeld=> ?_);clear hK K;refine rd [13] ?_;refine rcE fun K hK=> ?_;refine step_store_ent (by rfl) (.tmp 6) (.tmp 66) (by rfl) (by rfl) b (setE e 3 v) (by rfl) (by rfl) (IS _).out HI8.out.he ?_;have HI9:=hZ (HI8.out.row (setE e 3 v));refine kk hK (⟨HI9.out.fcell HFK.out,HI9.out.ycell rfl⟩) (fun hHeld=> ?_);clear hK K;refine dn ?_;have HI2:Hid (SmI w p b y (.slice (some a7) m c7) fs v3 ((l.take i).map someE) (stepE y k 3 e) _):=hZ (by rw[HSE.out];exact HI9.out);clear hHeld;go_wp2_with fail
          go_round
          case rel=>exact⟨k+1,_,rfl,by omega,hZ (by rw[←fold_drop HFK.out];exact HFO.out),hZ (step_frm y k 3 HFR.out),HI2⟩
          case measure=>simp[intOf];omega
        · obtain⟨j,hj⟩:=oQ (2*k)
          (have hk4:k≤4:=by have:=HM.out.2.1;omega);have hIs:=sh_I64 HYO.out.h2 hk4;obtain⟨sv,hsv⟩:=oQ (y.y2/2^j);rw[hj,hsv] at hIs;obtain⟨u,hu⟩:=oQ (pickZ sv 4);have PK:=pick_fact hIs (n:=4) (by omega) (by omega) hu;have ru:=pickZ_range sv (n:=4) (by omega);rw[hu] at ru;obtain⟨v,hv⟩:=oQ (1+u);(have wv:IntKind.i64.wrap v=v:=by rw[IntKind.wrap_i64];omega);(have wj:IntKind.i64.wrap (2*(k:Int))=(j:Int):=by rw[IntKind.wrap_i64];omega);(have j0:(0:Int)≤(j:Int):=by omega);(have j1:(j:Int)≤64:=by omega);(have j2:j≤64:=by omega);have HSE:Hid (stepE y k 4 e=setE e 4 v):=hZ (by show setE e 4 (1+pickZ (shE y k) 4)=_;unfold shE;rw[hj,hsv,hu,hv]);have PS:Hid (∀W,Calls Tryz.prog 54 #[e.val,.int .i64 (4:Int),.int .i64 v] W fun x w'=>x=.returned (setE e 4 v).val∧Below W.heap.size W w'):=hZ fun W=>set_walk e 4 (by omega) v W;have HID:=hZ HI.out.drew;clear ru hu hIs hj;go_wp2_with fail;refine wp_region_noPanic ?_;refine wp_region_held_drew (S:=fun U=>U.cell? (a7.add k)=some (.int .i64 (4:Int))∧U.cell? ⟨p,2,none⟩=some (.int .i64 y.y2)) (by kernel_rfl) ⟨HID.out.fcell HFK.out,HID.out.ycell rfl⟩ (fun hHeld=> ?_);obtain⟨U0,hU0⟩:=oQ (wr.drew);rw[hU0] at HID hHeld⊢;clear hU0;refine tk 1 ?_;refine tk 2 ?_;refine tk 3 ?_;refine tk 4 ?_;refine tk 5 ?_;refine tk 6 ?_;refine tk 7 ?_;refine tk 8 ?_;refine tk 9 ?_;refine rd [0,10] ?_;refine rc (fun K hK=> ?_) ?_
          ·
           refine step_yields (S:=fun U=>EntAt U b e) (yieldsIf_load_mid (by rfl) 33 (.tmp 6) rfl b 0 (by rfl) e.cells _ (fun w hw=>range_of hw) Tryz.underlying33 rfl (IE _).out) (by rfl) HID.out.he ?_;refine kk hK (hHeld) (fun hHeld=> ?_);clear hK K;refine rd [10] ?_;refine rcE fun K hK=> ?_;go_simp;refine(PK.out _).mono ?_;rintro e2 W2 ⟨rfl,rfl⟩;refine kk hK (hHeld) (fun hHeld=> ?_);clear hK K;refine tk 11 ?_;refine rd [12] ?_;refine rcE fun K hK=> ?_;go_simp;refine(PS.out _).mono ?_;rintro e2 W8 ⟨rfl,hb⟩;have HI8:=hZ (HID.out.step hb);clear hb;refine kk hK (⟨HI8.out.fcell HFK.out,HI8.out.ycell rfl⟩) (fun hHeld=> ?_);clear hK K;refine rd [13] ?_;refine rcE fun K hK=> ?_;refine step_store_ent (by rfl) (.tmp 6) (.tmp 66) (by rfl) (by rfl) b (setE e 4 v) (by rfl) (by rfl) (IS _).out HI8.out.he ?_;have HI9:=hZ (HI8.out.row (setE e 4 v));refine kk hK (⟨HI9.out.fcell HFK.out,HI9.out.ycell rfl⟩) (fun hHeld=> ?_);clear hK K;refine dn ?_;have HI2:Hid (SmI w p b y (.slice (some a7) m c7) fs v3 ((l.take i).map someE) (stepE y k 4 e) _):=hZ (by rw[HSE.out];exact HI9.out);clear hHeld;go_wp2_with fail
           go_round
           case rel=>exact⟨k+1,_,rfl,by omega,hZ (by rw[←fold_drop HFK.out];exact HFO.out),hZ (step_frm y k 4 HFR.out),HI2⟩
           case measure=>simp[intOf];omega
          refine rcE fun K hK=> ?_;go_simp;refine(PK.out _).mono ?_;rintro e2 W2 ⟨rfl,rfl⟩;refine kk hK (hHeld) (fun hHeld=> ?_);clear hK K;refine tk 11 ?_;refine rd [0] ?_;refine rcE fun K hK=> ?_;refine step_yields (S:=fun U=>EntAt U b e) (yieldsIf_load_mid (by rfl) 33 (.tmp 6) rfl b 0 (by rfl) e.cells _ (fun w hw=>range_of hw) Tryz.underlying33 rfl (IE _).out) (by rfl) HID.out.he ?_;refine kk hK (hHeld) (fun hHeld=> ?_);clear hK K;refine rd [12] ?_;refine rcE fun K hK=> ?_;go_simp;refine(PS.out _).mono ?_;rintro e2 W8 ⟨rfl,hb⟩;have HI8:=hZ (HID.out.step hb);clear hb;refine kk hK (⟨HI8.out.fcell HFK.out,HI8.out.ycell rfl⟩) (fun hHeld=> ?_);clear hK K;refine rd [13] ?_;refine rcE fun K hK=> ?_;refine step_store_ent (by rfl) (.tmp 6) (.tmp 66) (by rfl) (by rfl) b (setE e 4 v) (by rfl) (by rfl) (IS _).out HI8.out.he ?_;have HI9:=hZ (HI8.out.row (setE e 4 v));refine kk hK (⟨HI9.out.fcell HFK.out,HI9.out.ycell rfl⟩) (fun hHeld=> ?_);clear hK K;refine dn ?_;have HI2:Hid (SmI w p b y (.slice (some a7) m c7) fs v3 ((l.take i).map someE) (stepE y k 4 e) _):=hZ (by rw[HSE.out];exact HI9.out);clear hHeld;go_wp2_with fail
          go_round
          case rel=>exact⟨k+1,_,rfl,by omega,hZ (by rw[←fold_drop HFK.out];exact HFO.out),hZ (step_frm y k 4 HFR.out),HI2⟩
          case measure=>simp[intOf];omega
        · obtain⟨j,hj⟩:=oQ (2*k)
          (have hk4:k≤4:=by have:=HM.out.2.1;omega);have hIs:=sh_I64 HYO.out.h2 hk4;obtain⟨sv,hsv⟩:=oQ (y.y2/2^j);rw[hj,hsv] at hIs;obtain⟨u,hu⟩:=oQ (pickZ sv 4);have PK:=pick_fact hIs (n:=4) (by omega) (by omega) hu;have ru:=pickZ_range sv (n:=4) (by omega);rw[hu] at ru;obtain⟨v,hv⟩:=oQ (1+u);(have wv:IntKind.i64.wrap v=v:=by rw[IntKind.wrap_i64];omega);(have wj:IntKind.i64.wrap (2*(k:Int))=(j:Int):=by rw[IntKind.wrap_i64];omega);(have j0:(0:Int)≤(j:Int):=by omega);(have j1:(j:Int)≤64:=by omega);(have j2:j≤64:=by omega);have HSE:Hid (stepE y k 5 e=setE e 5 v):=hZ (by show setE e 5 (1+pickZ (shE y k) 4)=_;unfold shE;rw[hj,hsv,hu,hv]);have PS:Hid (∀W,Calls Tryz.prog 54 #[e.val,.int .i64 (5:Int),.int .i64 v] W fun x w'=>x=.returned (setE e 5 v).val∧Below W.heap.size W w'):=hZ fun W=>set_walk e 5 (by omega) v W;have HID:=hZ HI.out.drew;clear ru hu hIs hj;go_wp2_with fail;refine wp_region_noPanic ?_;refine wp_region_held_drew (S:=fun U=>U.cell? (a7.add k)=some (.int .i64 (5:Int))∧U.cell? ⟨p,2,none⟩=some (.int .i64 y.y2)) (by kernel_rfl) ⟨HID.out.fcell HFK.out,HID.out.ycell rfl⟩ (fun hHeld=> ?_);obtain⟨U0,hU0⟩:=oQ (wr.drew);rw[hU0] at HID hHeld⊢;clear hU0;refine tk 1 ?_;refine tk 2 ?_;refine tk 3 ?_;refine tk 4 ?_;refine tk 5 ?_;refine tk 6 ?_;refine tk 7 ?_;refine tk 8 ?_;refine tk 9 ?_;refine rd [0,10] ?_;refine rc (fun K hK=> ?_) ?_
          ·
           refine step_yields (S:=fun U=>EntAt U b e) (yieldsIf_load_mid (by rfl) 33 (.tmp 6) rfl b 0 (by rfl) e.cells _ (fun w hw=>range_of hw) Tryz.underlying33 rfl (IE _).out) (by rfl) HID.out.he ?_;refine kk hK (hHeld) (fun hHeld=> ?_);clear hK K;refine rd [10] ?_;refine rcE fun K hK=> ?_;go_simp;refine(PK.out _).mono ?_;rintro e2 W2 ⟨rfl,rfl⟩;refine kk hK (hHeld) (fun hHeld=> ?_);clear hK K;refine tk 11 ?_;refine rd [12] ?_;refine rcE fun K hK=> ?_;go_simp;refine(PS.out _).mono ?_;rintro e2 W8 ⟨rfl,hb⟩;have HI8:=hZ (HID.out.step hb);clear hb;refine kk hK (⟨HI8.out.fcell HFK.out,HI8.out.ycell rfl⟩) (fun hHeld=> ?_);clear hK K;refine rd [13] ?_;refine rcE fun K hK=> ?_;refine step_store_ent (by rfl) (.tmp 6) (.tmp 66) (by rfl) (by rfl) b (setE e 5 v) (by rfl) (by rfl) (IS _).out HI8.out.he ?_;have HI9:=hZ (HI8.out.row (setE e 5 v));refine kk hK (⟨HI9.out.fcell HFK.out,HI9.out.ycell rfl⟩) (fun hHeld=> ?_);clear hK K;refine dn ?_;have HI2:Hid (SmI w p b y (.slice (some a7) m c7) fs v3 ((l.take i).map someE) (stepE y k 5 e) _):=hZ (by rw[HSE.out];exact HI9.out);clear hHeld;go_wp2_with fail
           go_round
           case rel=>exact⟨k+1,_,rfl,by omega,hZ (by rw[←fold_drop HFK.out];exact HFO.out),hZ (step_frm y k 5 HFR.out),HI2⟩
           case measure=>simp[intOf];omega
          refine rcE fun K hK=> ?_;go_simp;refine(PK.out _).mono ?_;rintro e2 W2 ⟨rfl,rfl⟩;refine kk hK (hHeld) (fun hHeld=> ?_);clear hK K;refine tk 11 ?_;refine rd [0] ?_;refine rcE fun K hK=> ?_;refine step_yields (S:=fun U=>EntAt U b e) (yieldsIf_load_mid (by rfl) 33 (.tmp 6) rfl b 0 (by rfl) e.cells _ (fun w hw=>range_of hw) Tryz.underlying33 rfl (IE _).out) (by rfl) HID.out.he ?_;refine kk hK (hHeld) (fun hHeld=> ?_);clear hK K;refine rd [12] ?_;refine rcE fun K hK=> ?_;go_simp;refine(PS.out _).mono ?_;rintro e2 W8 ⟨rfl,hb⟩;have HI8:=hZ (HID.out.step hb);clear hb;refine kk hK (⟨HI8.out.fcell HFK.out,HI8.out.ycell rfl⟩) (fun hHeld=> ?_);clear hK K;refine rd [13] ?_;refine rcE fun K hK=> ?_;refine step_store_ent (by rfl) (.tmp 6) (.tmp 66) (by rfl) (by rfl) b (setE e 5 v) (by rfl) (by rfl) (IS _).out HI8.out.he ?_;have HI9:=hZ (HI8.out.row (setE e 5 v));refine kk hK (⟨HI9.out.fcell HFK.out,HI9.out.ycell rfl⟩) (fun hHeld=> ?_);clear hK K;refine dn ?_;have HI2:Hid (SmI w p b y (.slice (some a7) m c7) fs v3 ((l.take i).map someE) (stepE y k 5 e) _):=hZ (by rw[HSE.out];exact HI9.out);clear hHeld;go_wp2_with fail
          go_round
          case rel=>exact⟨k+1,_,rfl,by omega,hZ (by rw[←fold_drop HFK.out];exact HFO.out),hZ (step_frm y k 5 HFR.out),HI2⟩
          case measure=>simp[intOf];omega
        · obtain⟨j,hj⟩:=oQ (2*k)
          (have hk4:k≤4:=by have:=HM.out.2.1;omega);have hIs:=sh_I64 HYO.out.h2 hk4;obtain⟨sv,hsv⟩:=oQ (y.y2/2^j);rw[hj,hsv] at hIs;obtain⟨u,hu⟩:=oQ (pickZ sv 4);have PK:=pick_fact hIs (n:=4) (by omega) (by omega) hu;have ru:=pickZ_range sv (n:=4) (by omega);rw[hu] at ru;obtain⟨v,hv⟩:=oQ (1+u);(have wv:IntKind.i64.wrap v=v:=by rw[IntKind.wrap_i64];omega);(have wj:IntKind.i64.wrap (2*(k:Int))=(j:Int):=by rw[IntKind.wrap_i64];omega);(have j0:(0:Int)≤(j:Int):=by omega);(have j1:(j:Int)≤64:=by omega);(have j2:j≤64:=by omega);have HSE:Hid (stepE y k 6 e=setE e 6 v):=hZ (by show setE e 6 (1+pickZ (shE y k) 4)=_;unfold shE;rw[hj,hsv,hu,hv]);have PS:Hid (∀W,Calls Tryz.prog 54 #[e.val,.int .i64 (6:Int),.int .i64 v] W fun x w'=>x=.returned (setE e 6 v).val∧Below W.heap.size W w'):=hZ fun W=>set_walk e 6 (by omega) v W;have HID:=hZ HI.out.drew;clear ru hu hIs hj;go_wp2_with fail;refine wp_region_noPanic ?_;refine wp_region_held_drew (S:=fun U=>U.cell? (a7.add k)=some (.int .i64 (6:Int))∧U.cell? ⟨p,2,none⟩=some (.int .i64 y.y2)) (by kernel_rfl) ⟨HID.out.fcell HFK.out,HID.out.ycell rfl⟩ (fun hHeld=> ?_);obtain⟨U0,hU0⟩:=oQ (wr.drew);rw[hU0] at HID hHeld⊢;clear hU0;refine tk 1 ?_;refine tk 2 ?_;refine tk 3 ?_;refine tk 4 ?_;refine tk 5 ?_;refine tk 6 ?_;refine tk 7 ?_;refine tk 8 ?_;refine tk 9 ?_;refine rd [0,10] ?_;refine rc (fun K hK=> ?_) ?_
          ·
           refine step_yields (S:=fun U=>EntAt U b e) (yieldsIf_load_mid (by rfl) 33 (.tmp 6) rfl b 0 (by rfl) e.cells _ (fun w hw=>range_of hw) Tryz.underlying33 rfl (IE _).out) (by rfl) HID.out.he ?_;refine kk hK (hHeld) (fun hHeld=> ?_);clear hK K;refine rd [10] ?_;refine rcE fun K hK=> ?_;go_simp;refine(PK.out _).mono ?_;rintro e2 W2 ⟨rfl,rfl⟩;refine kk hK (hHeld) (fun hHeld=> ?_);clear hK K;refine tk 11 ?_;refine rd [12] ?_;refine rcE fun K hK=> ?_;go_simp;refine(PS.out _).mono ?_;rintro e2 W8 ⟨rfl,hb⟩;have HI8:=hZ (HID.out.step hb);clear hb;refine kk hK (⟨HI8.out.fcell HFK.out,HI8.out.ycell rfl⟩) (fun hHeld=> ?_);clear hK K;refine rd [13] ?_;refine rcE fun K hK=> ?_;refine step_store_ent (by rfl) (.tmp 6) (.tmp 66) (by rfl) (by rfl) b (setE e 6 v) (by rfl) (by rfl) (IS _).out HI8.out.he ?_;have HI9:=hZ (HI8.out.row (setE e 6 v));refine kk hK (⟨HI9.out.fcell HFK.out,HI9.out.ycell rfl⟩) (fun hHeld=> ?_);clear hK K;refine dn ?_;have HI2:Hid (SmI w p b y (.slice (some a7) m c7) fs v3 ((l.take i).map someE) (stepE y k 6 e) _):=hZ (by rw[HSE.out];exact HI9.out);clear hHeld;go_wp2_with fail
           go_round
           case rel=>exact⟨k+1,_,rfl,by omega,hZ (by rw[←fold_drop HFK.out];exact HFO.out),hZ (step_frm y k 6 HFR.out),HI2⟩
           case measure=>simp[intOf];omega
          refine rcE fun K hK=> ?_;go_simp;refine(PK.out _).mono ?_;rintro e2 W2 ⟨rfl,rfl⟩;refine kk hK (hHeld) (fun hHeld=> ?_);clear hK K;refine tk 11 ?_;refine rd [0] ?_;refine rcE fun K hK=> ?_;refine step_yields (S:=fun U=>EntAt U b e) (yieldsIf_load_mid (by rfl) 33 (.tmp 6) rfl b 0 (by rfl) e.cells _ (fun w hw=>range_of hw) Tryz.underlying33 rfl (IE _).out) (by rfl) HID.out.he ?_;refine kk hK (hHeld) (fun hHeld=> ?_);clear hK K;refine rd [12] ?_;refine rcE fun K hK=> ?_;go_simp;refine(PS.out _).mono ?_;rintro e2 W8 ⟨rfl,hb⟩;have HI8:=hZ (HID.out.step hb);clear hb;refine kk hK (⟨HI8.out.fcell HFK.out,HI8.out.ycell rfl⟩) (fun hHeld=> ?_);clear hK K;refine rd [13] ?_;refine rcE fun K hK=> ?_;refine step_store_ent (by rfl) (.tmp 6) (.tmp 66) (by rfl) (by rfl) b (setE e 6 v) (by rfl) (by rfl) (IS _).out HI8.out.he ?_;have HI9:=hZ (HI8.out.row (setE e 6 v));refine kk hK (⟨HI9.out.fcell HFK.out,HI9.out.ycell rfl⟩) (fun hHeld=> ?_);clear hK K;refine dn ?_;have HI2:Hid (SmI w p b y (.slice (some a7) m c7) fs v3 ((l.take i).map someE) (stepE y k 6 e) _):=hZ (by rw[HSE.out];exact HI9.out);clear hHeld;go_wp2_with fail
          go_round
          case rel=>exact⟨k+1,_,rfl,by omega,hZ (by rw[←fold_drop HFK.out];exact HFO.out),hZ (step_frm y k 6 HFR.out),HI2⟩
          case measure=>simp[intOf];omega
        · obtain⟨ka,hka⟩:=oQ (pickZ y.y2 41)
          have PA:=pick_fact HYO.out.h2 (n:=41) (by omega) (by omega) hka;have rka:=pickZ_range y.y2 (n:=41) (by omega);rw[hka] at rka;obtain⟨tb,htb⟩:=oQ (Int.tdiv y.y2 41);have hIb:I64 tb:=tdiv_I64 HYO.out.h2 (by omega) htb;have wtb:IntKind.i64.wrap tb=tb:=wrap_of hIb;obtain⟨kb,hkb⟩:=oQ (pickZ tb 4);have PB:=pick_fact hIb (n:=4) (by omega) (by omega) hkb;have rkb:=pickZ_range tb (n:=4) (by omega);rw[hkb] at rkb;obtain⟨kc,hkc⟩:=oQ (pickZ y.y5 5);have PC:=pick_fact HYO.out.h5 (n:=5) (by omega) (by omega) hkc;have rkc:=pickZ_range y.y5 (n:=5) (by omega);rw[hkc] at rkc;obtain⟨den,hden⟩:∃d:Nat,1+kb=(d:Int):=⟨(1+kb).toNat,by omega⟩;(have wden:IntKind.i64.wrap (den:Int)=(den:Int):=by rw[IntKind.wrap_i64];omega);obtain⟨la,hla⟩:=oQ (ka-20);obtain⟨ha,hha⟩:=oQ (la+kc);(have wla:IntKind.i64.wrap la=la:=by rw[IntKind.wrap_i64];omega);(have wha:IntKind.i64.wrap ha=ha:=by rw[IntKind.wrap_i64];omega);have PO:Hid (∀W,Calls Tryz.prog 53 #[.int .i64 (la),.int .i64 (den:Int)] W (RtP (la) den W)):=hZ fun W=>rof_walk (la) den (by omega) (by show _<1000000000000000000;omega) (by show _<1000000000000000000;omega) W;unfold RtP at PO;obtain⟨s1,hs1⟩:=oQ (rnB (la) den);obtain⟨s2,hs2⟩:=oQ (rdB (la) den);rw[hs1,hs2] at PO;have PQ:Hid (∀W,Calls Tryz.prog 53 #[.int .i64 (ha),.int .i64 (den:Int)] W (RtP (ha) den W)):=hZ fun W=>rof_walk (ha) den (by omega) (by show _<1000000000000000000;omega) (by show _<1000000000000000000;omega) W;unfold RtP at PQ;obtain⟨s3,hs3⟩:=oQ (rnB (ha) den);obtain⟨s4,hs4⟩:=oQ (rdB (ha) den);rw[hs3,hs4] at PQ
          have HSE:Hid (stepE y k 7 e={e with ln:=s1,ld:=s2,hn:=s3,hd:=s4}):=hZ (by
           (have e1:loE y=la:=by unfold loE;rw[hka];exact hla);(have e2:hiE y=ha:=by unfold hiE;rw[hka,hkc,hla];exact hha);(have e3:denE y=den:=by unfold denE;rw[htb,hkb,hden];rfl);show({e with ln:=rnB (loE y) (denE y),ld:=rdB (loE y) (denE y),hn:=rnB (hiE y) (denE y),hd:=rdB (hiE y) (denE y)}:Ent)=_
           rw[e1,e2,e3,hs1,hs2,hs3,hs4])
          have HID:=hZ HI.out.drew;clear rka rkb rkc hka hkb hkc hIb hs1 hs2 hs3 hs4;go_wp2_with fail;refine wp_region_noPanic ?_;refine wp_region_held_drew (S:=fun U=>U.cell? ⟨p,2,none⟩=some (.int .i64 y.y2)) (by kernel_rfl) (HID.out.ycell rfl) (fun hHeld=> ?_);refine tk 0 ?_;refine tk 1 ?_;refine tk 4 ?_;refine tk 5 ?_;refine tk 6 ?_;refine rd [2] ?_;refine rcE fun K hK=> ?_;go_simp;refine(PA.out _).mono ?_;rintro e2 W2 ⟨rfl,rfl⟩;refine kk hK (hHeld) (fun hHeld=> ?_);clear hK K;refine tk 3 ?_;refine rd [7] ?_;refine rcE fun K hK=> ?_;go_simp;refine(PB.out _).mono ?_;rintro e2 W2 ⟨rfl,rfl⟩;refine kk hK (hHeld) (fun hHeld=> ?_);clear hK K;refine tk 8 ?_;refine rd [9] ?_;refine rcE fun K hK=> ?_;go_simp;refine(PO.out _).mono ?_;rintro e2 W8 ⟨rfl,hb⟩;have HI8:=hZ (HID.out.step hb);clear hb;have x1:=HI8.out.he.cell (i:=11) rfl;have x2:=HI8.out.he.cell (i:=12) rfl;have x3:=HI8.out.free 11;have x4:=HI8.out.free 12;refine kk hK (HI8.out.ycell rfl) (fun hHeld=> ?_);clear hK K;refine tk 10 ?_;refine tk 11 ?_;refine tk 12 ?_;refine tk 13 ?_;refine tk 14 ?_;refine rd [15] ?_;refine rcE fun K hK=> ?_;go_simp;have HI9:=hZ (HI8.out.set2 (e1:={e with ln:=s1}) (e2:={e with ln:=s1,ld:=s2}) 11 (.string s1) (.string s2) rfl rfl);refine kk hK (HI9.out.ycell rfl) (fun hHeld=> ?_);clear hK K;refine dn ?_;have HIE:=hZ HI9.out.drew;clear hHeld x1 x2 x3 x4;go_wp2_with fail;refine wp_region_noPanic ?_;refine wp_region_held_drew (S:=fun U=>U.cell? ⟨p,2,none⟩=some (.int .i64 y.y2)∧U.cell? ⟨p,5,none⟩=some (.int .i64 y.y5)) (by kernel_rfl) ⟨HIE.out.ycell rfl,HIE.out.ycell rfl⟩ (fun hHeld=> ?_);refine tk 0 ?_;refine tk 1 ?_;refine tk 4 ?_;refine tk 5 ?_;refine tk 8 ?_;refine tk 9 ?_;refine tk 10 ?_;refine rd [2] ?_;refine rcE fun K hK=> ?_;go_simp;refine(PA.out _).mono ?_;rintro e2 W2 ⟨rfl,rfl⟩;refine kk hK (hHeld) (fun hHeld=> ?_);clear hK K;refine tk 3 ?_
          refine rd [6] ?_;refine rcE fun K hK=> ?_;go_simp;refine(PC.out _).mono ?_;rintro e2 W2 ⟨rfl,rfl⟩;refine kk hK (hHeld) (fun hHeld=> ?_);clear hK K;refine tk 7 ?_;refine rd [11] ?_;refine rcE fun K hK=> ?_;go_simp;refine(PB.out _).mono ?_;rintro e2 W2 ⟨rfl,rfl⟩;refine kk hK (hHeld) (fun hHeld=> ?_);clear hK K;refine tk 12 ?_;refine rd [13] ?_;refine rcE fun K hK=> ?_;go_simp;refine(PQ.out _).mono ?_;rintro e2 W8 ⟨rfl,hb⟩;have HIF:=hZ (HIE.out.step hb);clear hb;have x1:=HIF.out.he.cell (i:=13) rfl;have x2:=HIF.out.he.cell (i:=14) rfl;have x3:=HIF.out.free 13;have x4:=HIF.out.free 14;refine kk hK (⟨HIF.out.ycell rfl,HIF.out.ycell rfl⟩) (fun hHeld=> ?_);clear hK K;refine tk 14 ?_;refine tk 15 ?_;refine tk 16 ?_;refine tk 17 ?_;refine tk 18 ?_;refine rd [19] ?_;refine rcE fun K hK=> ?_;go_simp;have HIG:=hZ (HIF.out.set2 (e1:={e with ln:=s1,ld:=s2,hn:=s3}) (e2:={e with ln:=s1,ld:=s2,hn:=s3,hd:=s4}) 13 (.string s3) (.string s4) rfl rfl);refine kk hK (⟨HIG.out.ycell rfl,HIG.out.ycell rfl⟩) (fun hHeld=> ?_);clear hK K;refine dn ?_;have HI2:Hid (SmI w p b y (.slice (some a7) m c7) fs v3 ((l.take i).map someE) (stepE y k 7 e) _):=hZ (by rw[HSE.out];exact HIG.out);clear hHeld;go_wp2_with fail
          go_round
          case rel=>exact⟨k+1,_,rfl,by omega,hZ (by rw[←fold_drop HFK.out];exact HFO.out),hZ (step_frm y k 7 HFR.out),HI2⟩
          case measure=>simp[intOf];omega
        · obtain⟨ka,hka⟩:=oQ (pickZ y.y2 9)
          have PA:=pick_fact HYO.out.h2 (n:=9) (by omega) (by omega) hka;have rka:=pickZ_range y.y2 (n:=9) (by omega);rw[hka] at rka;obtain⟨kb,hkb⟩:=oQ (pickZ y.y4 9);have PB:=pick_fact HYO.out.h4 (n:=9) (by omega) (by omega) hkb;have rkb:=pickZ_range y.y4 (n:=9) (by omega);rw[hkb] at rkb;obtain⟨den,hden⟩:∃d:Nat,1+kb=(d:Int):=⟨(1+kb).toNat,by omega⟩;(have wden:IntKind.i64.wrap (den:Int)=(den:Int):=by rw[IntKind.wrap_i64];omega);have PO:Hid (∀W,Calls Tryz.prog 53 #[.int .i64 (ka),.int .i64 (den:Int)] W (RtP (ka) den W)):=hZ fun W=>rof_walk (ka) den (by omega) (by show _<1000000000000000000;omega) (by show _<1000000000000000000;omega) W;unfold RtP at PO;obtain⟨s1,hs1⟩:=oQ (rnB (ka) den);obtain⟨s2,hs2⟩:=oQ (rdB (ka) den);rw[hs1,hs2] at PO
          have HSE:Hid (stepE y k 8 e={e with rn:=s1,rd:=s2}):=hZ (by
           (have e3:denR y=den:=by unfold denR;rw[hkb,hden];rfl);show({e with rn:=rnB (pickZ y.y2 9) (denR y),rd:=rdB (pickZ y.y2 9) (denR y)}:Ent)=_
           rw[e3,hka,hs1,hs2])
          have HID:=hZ HI.out.drew;clear rka rkb hka hkb hs1 hs2;go_wp2_with fail;refine wp_region_noPanic ?_;refine wp_region_held_drew (S:=fun U=>U.cell? ⟨p,2,none⟩=some (.int .i64 y.y2)∧U.cell? ⟨p,4,none⟩=some (.int .i64 y.y4)) (by kernel_rfl) ⟨HID.out.ycell rfl,HID.out.ycell rfl⟩ (fun hHeld=> ?_);refine tk 0 ?_;refine tk 1 ?_;refine tk 3 ?_;refine tk 4 ?_;refine rd [2] ?_;refine rcE fun K hK=> ?_;go_simp;refine(PA.out _).mono ?_;rintro e2 W2 ⟨rfl,rfl⟩;refine kk hK (hHeld) (fun hHeld=> ?_);clear hK K;refine rd [5] ?_;refine rcE fun K hK=> ?_;go_simp;refine(PB.out _).mono ?_;rintro e2 W2 ⟨rfl,rfl⟩;refine kk hK (hHeld) (fun hHeld=> ?_);clear hK K;refine tk 6 ?_;refine rd [7] ?_;refine rcE fun K hK=> ?_;go_simp;refine(PO.out _).mono ?_;rintro e2 W8 ⟨rfl,hb⟩;have HI8:=hZ (HID.out.step hb);clear hb;have x1:=HI8.out.he.cell (i:=15) rfl;have x2:=HI8.out.he.cell (i:=16) rfl;have x3:=HI8.out.free 15;have x4:=HI8.out.free 16;refine kk hK (⟨HI8.out.ycell rfl,HI8.out.ycell rfl⟩) (fun hHeld=> ?_);clear hK K;refine tk 8 ?_;refine tk 9 ?_;refine tk 10 ?_;refine tk 11 ?_;refine rd [12] ?_;refine rcE fun K hK=> ?_;go_simp;have HI9:=hZ (HI8.out.set2 (e1:={e with rn:=s1}) (e2:={e with rn:=s1,rd:=s2}) 15 (.string s1) (.string s2) rfl rfl);refine kk hK (⟨HI9.out.ycell rfl,HI9.out.ycell rfl⟩) (fun hHeld=> ?_);clear hK K;refine dn ?_;have HI2:Hid (SmI w p b y (.slice (some a7) m c7) fs v3 ((l.take i).map someE) (stepE y k 8 e) _):=hZ (by rw[HSE.out];exact HI9.out);clear hHeld;go_wp2_with fail
          go_round
          case rel=>exact⟨k+1,_,rfl,by omega,hZ (by rw[←fold_drop HFK.out];exact HFO.out),hZ (step_frm y k 8 HFR.out),HI2⟩
          case measure=>simp[intOf];omega
        · have PR:=hZ (fun W=>rootG_walk y.y2 W)
          have c2:=HI.out.ycell (i:=2) rfl;obtain⟨rt,hrt⟩:=oQ (rootG y.y2);rw[hrt] at PR;have HRT:=hZ hrt;clear hrt
          go_wp2_with (first
           |(go_at_call 43;refine(PR.out _).mono ?_;rintro e2 W2 ⟨rfl,hb⟩;have HI1:=hZ (HI.out.step hb);clear hb;have x1:=HI1.out.he.cell (i:=17) rfl;have x2:=HI1.out.free 17;have HI2:=hZ (HI1.out.set (e':=stepE y k 9 e) 17 (.string rt) (by unfold stepE;rw[HRT.out];rfl)))
           |fail)
          go_round
          case rel=>exact⟨k+1,_,rfl,by omega,hZ (by rw[←fold_drop HFK.out];exact HFO.out),hZ (step_frm y k 9 HFR.out),HI2⟩
          case measure=>simp[intOf];omega
      · obtain rfl:k=m:=by omega
        (have d3:decide (k<k)=false:=by simp);(have he:e=someE y:=by have:=HFO.out;rwa[List.drop_of_length_le (by rw[HM.out.1];exact Nat.le_refl _)] at this);subst he;have HRG:=hZ (range_of (cs:=(someE y).cells) HI.out.he);have HLEN:Hid (((l.take i).map someE).length=i):=hZ (by rw[List.length_map,List.length_take,HN.out];omega);have HBs:=hZ HI.out.hB.size;have hbb:w.heap.size≤wr.heap.size:=HBs.out;(have w1:IntKind.i64.wrap ((i:Int)+1)=((i+1:Nat):Int):=by rw[IntKind.wrap_i64];omega);have HTK:Hid ((l.take i).map someE++[someE y]=(l.take (i+1)).map someE):=hZ (by rw[List.take_add_one,HYI.out,List.map_append];rfl)
        go_wp2_with (first
         |((with_reducible refine wpList_load_mid rfl 33 (.tmp 6) rfl b 0 ?hx (someE y).cells _ HRG.out Tryz.underlying33 rfl (IE _).out ?_);(case hx=>rfl))
         |((with_reducible refine wpList_build_ent rfl (.tmp 146) rfl (someE y) ?hx ?_);(case hx=>rfl);intro bn V9 hbn hV9;have HV9:=hZ (show V9.heap[bn]?=some (.cells (someE y).cells.toArray 33 (0,0)) from by rw[←hV9,←hbn];exact World.alloc_heap_new _ _);have HBV:=hZ (show Below wr.heap.size wr V9 from by rw[←hV9];exact below_new _ _);clear hbn hV9)
         |(at_builtin;refine wpList_app rfl (.tmp 145) (.tmp 147) 25 rfl elemEnt _ ((l.take i).map someE) i HLEN.out rfl (HI.out.ho.below HBV.out (Nat.le_refl _)) (someE y) bn (someE y).cells.toArray rfl HV9.out rfl rfl (one_cells' _) (by have:=HLEN.out;unfold maxLen;omega) (by have:=HLEN.out;omega) (Nat.le_trans HBs.out HBV.out.size) ?_;intro g3 c3 w3 h3 _ _ _ hb3;have HO3:=hZ h3;have HB3:=hZ (HI.out.hB.trans ((HBV.out.mono HBs.out).trans hb3));clear h3 hb3)
         |fail)
        go_roundw
        case rel=>exact⟨_,i+1,rfl,by go_num,by have:=HLT.out;omega,by have:=HLT.out;omega,hZ (by have:=HO3.out;rwa[HTK.out] at this),HB3⟩
        case measure=>simp[intOf];have:=HLT.out;omega
  · have HEND:Hid (l.take i=l.take 30):=hZ (by
     rcases Nat.lt_or_ge i n with h|h
     · rw[show i=30 by omega]
     · rw[List.take_of_length_le (by rw[HN.out];exact h),List.take_of_length_le (by rw[HN.out];omega)])
    by_cases h1:i<n
    · have d1:decide (i<n)=true:=by simp[h1]
      (obtain rfl:i=30:=by omega);(have d2:decide (((30:Nat):Int)<30)=false:=by decide);go_wp2_with fail;go_ret;exact⟨_,rfl,by rw[←List.map_take];exact HO.out,HB.out⟩
    · have d1:decide (i<n)=false:=by simp;omega
      go_wp2_with fail;go_ret;exact⟨_,rfl,by have:=HO.out;rwa[HEND.out] at this,HB.out⟩
end Go.Proofs.YteeifhlhpiimoaaGreatDoor
end
section
namespace Go.Proofs.YteeifhlhpiimoaaGreatDoor
open Go Go.RowKit Go.ChangeShapes Go.WideShapes Go.Deep
def CAt {α:Type} (w:World) (B:Nat) (A:Option Addr) (size:Nat) (f:α→List Value) (l:List α):Prop:=
 ∀i x,l[i]?=some x→∃a,A=some a∧a.block<B∧∀j v,(f x)[j]?=some v→w.cell? (a.add (i*size+j))=some v
theorem list_choose {α:Type} {p:Nat→α→Prop}:∀n,(∀i,i<n→∃y,p i y)→∃l:List α,l.length=n∧∀i y,l[i]?=some y→p i y
 |0,_=>⟨[],rfl,fun i y h=>by simp at h⟩
 | n +1,h=>by
   obtain⟨l,hl,hp⟩:=list_choose n (fun i hi=>h i (by omega));obtain⟨y,hy⟩:=h n (by omega);refine⟨l++[y],by simp[hl],fun i z hz=> ?_⟩;rcases Nat.lt_or_ge i l.length with q|q
   · rw[List.getElem?_append_left q] at hz;exact hp i z hz
   · rw[List.getElem?_append_right q] at hz
     have:i-l.length=0:=by
      rcases Nat.eq_zero_or_pos (i-l.length) with e|e
      · exact e
      · rw[List.getElem?_eq_none (by show 1≤_;omega)] at hz;cases hz
     rw[this] at hz;(obtain rfl:y=z:=by simpa using hz);rw[show i=n by omega];exact hy
section
variable {H:Type} {enc:TypeId×Value→H} {P:Program} {W:World} {base:Nat} {sp:Nat→Bool} {held:Bool} {b0:Nat} {r:Reach}
theorem open_rowsAt {α:Type} (f:α→List Value) (ok:α→Prop) {t e:TypeId} {v:Value} {d:DataW H} {p:List MemPlace} (ht:P.underlying t=some (.slice e)) (size:Nat) (hc:P.cellsOf e=size) (hpos:0<size)
 (hop:∀n cs x,cs.length=size→DataW.trod enc P W base sp held n e cs=some x→∃y,cs=f y∧ok y)
 (hv:Value.okWide P W r b0 t v) (h:DataW.Trod enc P W base sp held t v d p):
 ∃(A:Option Addr) (l:List α) (cap:Nat),v=.slice A l.length cap∧l.length≤cap∧cap≤maxLen∧CAt W W.heap.size A size f l∧∀y∈l,ok y:=by
 obtain⟨fuel,hf⟩:=h;have hcs:=open_slice_value ht hv;rcases open_slice ht hf with⟨e1,_⟩|⟨a,len,cap,m,n,D,Pl,e1,_,hl,hm,hmm,_,hi⟩
 · rw[hcs] at e1
   injection e1 with e1;exact⟨none,[],0,e1,Nat.le_refl _,by unfold maxLen;omega,fun i x hx=>by simp at hx,fun s hs=>by cases hs⟩
 · rw[hcs] at e1
   injection e1 with e1;have hlm:len≤m:=by rw[hmm];split<;>omega
   obtain⟨l,hll,hp⟩:=list_choose (p:=fun i (y:α)=>ok y∧∀j v,(f y)[j]?=some v→W.cell? (a.add (i*size+j))=some v) len (fun i hil=>by
    obtain⟨cs,hcc,ht'⟩:=hi i (by omega);rw[hc] at hcc;obtain⟨_,h2,h3⟩:=World.cells?_some hcc;obtain⟨y,rfl,hok⟩:=hop n cs _ h2 ht';refine⟨y,hok,fun j v hj=> ?_⟩;(have hjl:j<size:=by rw[←h2];exact(List.getElem?_eq_some_iff.1 hj).1);have:=h3 j hjl;rw[addr_add_add] at this
    rw[this,hj])
   refine⟨some a,l,cap,by rw[hll];exact e1,by omega,hm,fun i x hx=> ?_,fun y hy=> ?_⟩
   · have hq:=hp i x hx
     refine⟨a,rfl,?_,hq.2⟩;(have hil:i<len:=by rw[←hll];exact(List.getElem?_eq_some_iff.1 hx).1);obtain⟨cs,hcc,_⟩:=hi i (by omega);rw[hc] at hcc;obtain⟨_,h2,h3⟩:=World.cells?_some hcc;have:=h3 0 hpos;rw[List.getElem?_eq_getElem (by omega)] at this;have:=cell_lt this
     rwa[addr_add_block,addr_add_block] at this
   · obtain⟨i,hil,rfl⟩:=List.getElem_of_mem hy
     exact(hp i _ (List.getElem?_eq_getElem hil)).1
end
theorem open_sixAt {H:Type} {enc:TypeId×Value→H} {W:World} {base:Nat} {sp:Nat→Bool} {held:Bool} {b0:Nat} {r:Reach} {v:Value} {d:DataW H} {p:List MemPlace}
 (hv:Value.okWide Tryz.prog W r b0 22 v) (h:DataW.Trod enc Tryz.prog W base sp held 22 v d p):
 ∃(A:Option Addr) (l:List Six) (cap:Nat),v=.slice A l.length cap∧l.length≤maxLen∧SixAt W A l∧∀y∈l,y.Ok:=by
 have key:=open_rowsAt (e:=78) Six.cells Six.Ok Tryz.underlying22 6 (by kernel_rfl) (by decide) (fun n cs x hl ht=>by
  obtain⟨xs,m,_,_,_,hxl,hi⟩:=DataW.trod_array Tryz.underlying78 ht;have hc:Tryz.prog.cellsOf 3=1:=by kernel_rfl
  match cs,hl with
  | [c0,c1,c2,c3,c4,c5],_=>
    match xs,hxl with
    | [x0,x1,x2,x3,x4,x5],_=>
      have h0:=hi 0 (by decide);have h1:=hi 1 (by decide);have h2:=hi 2 (by decide);have h3:=hi 3 (by decide);have h4:=hi 4 (by decide);have h5:=hi 5 (by decide);simp[hc] at h0 h1 h2 h3 h4 h5;obtain⟨z0,e0,_,w0⟩:=DataW.trod_int Tryz.underlying3 (x:=x0) (cs:=[c0]) h0;obtain⟨z1,e1,_,w1⟩:=DataW.trod_int Tryz.underlying3 (x:=x1) (cs:=[c1]) h1;obtain⟨z2,e2,_,w2⟩:=DataW.trod_int Tryz.underlying3 (x:=x2) (cs:=[c2]) h2;obtain⟨z3,e3,_,w3⟩:=DataW.trod_int Tryz.underlying3 (x:=x3) (cs:=[c3]) h3;obtain⟨z4,e4,_,w4⟩:=DataW.trod_int Tryz.underlying3 (x:=x4) (cs:=[c4]) h4;obtain⟨z5,e5,_,w5⟩:=DataW.trod_int Tryz.underlying3 (x:=x5) (cs:=[c5]) h5;simp only[List.cons.injEq,and_true] at e0 e1 e2 e3 e4 e5;subst e0 e1 e2 e3 e4 e5
      exact⟨⟨z0,z1,z2,z3,z4,z5⟩,rfl,⟨bounds_i64 w0,bounds_i64 w1,bounds_i64 w2,bounds_i64 w3,bounds_i64 w4,bounds_i64 w5⟩⟩) hv h
 obtain⟨A,l,cap,h1,h2,h3,h4,h5⟩:=key;exact⟨A,l,cap,h1,by omega,h4,h5⟩
end Go.Proofs.YteeifhlhpiimoaaGreatDoor
end
section
namespace Go.Proofs.YteeifhlhpiimoaaGreatDoor.Wr
open Go
theorem lebF_short {f z k:Nat} (hk:0<k) (hz:z<128^k) (hf:z<128^(f+1)):(lebF f z).length≤k:=by
 induction k generalizing f z with
 |zero=>omega
 | succ k ih=>
   by_cases h:z<128
   · simp[lebF_last h]
   · obtain⟨g,rfl,e,hg⟩:=lebF_more (by omega) hf
     cases k with
     |zero=>simp at hz;omega
     | succ k=>
       have:=ih (f:=g) (z:=z/128) (by omega) (by rw[Nat.pow_succ] at hz;exact Nat.div_lt_of_lt_mul (by rw[Nat.mul_comm];exact hz)) hg;rw[e];simp;omega
theorem scan_leb {g y i z f:Nat} (rest:List UInt8) (hy:y<128^(g+1)) (h0:0<y∨i=0) (hz:z+y*128^i<9223372036854775807) (hf:(lebF g y).length≤f):
 scan f i z (lebF g y++rest)=some (z+y*128^i,i+(lebF g y).length):=by
 induction g generalizing y i z f with
 | zero=>
   (have hy':y<128:=by simpa using hy);rw[lebF_last hy'] at hf⊢
   cases f with
   |zero=>simp at hf
   | succ f=>
     (have e:(UInt8.ofNat y).toNat=y:=by simp;omega);simp only[List.cons_append,List.nil_append,scan,e];rw[if_neg (by omega),if_neg (by omega),if_neg (by omega)]
     simp
 | succ g ih=>
   by_cases hy':y<128
   · rw[lebF_last hy'] at hf⊢
     cases f with
     |zero=>simp at hf
     | succ f=>
       (have e:(UInt8.ofNat y).toNat=y:=by simp;omega);simp only[List.cons_append,List.nil_append,scan,e];rw[if_neg (by omega),if_neg (by omega),if_neg (by omega)];simp
   · obtain⟨g',hg',e,hlt⟩:=lebF_more (f:=g+1) (by omega) hy
     (obtain rfl:g=g':=by omega);rw[e] at hf⊢
     cases f with
     |zero=>simp at hf
     | succ f=>
       have e1:(UInt8.ofNat (y%128+128)).toNat=y%128+128:=by simp;omega
       have e2:z+(y%128+128-128)*128^i+y/128*128^(i+1)=z+y*128^i:=by
        rw[Nat.add_sub_cancel,Nat.pow_succ,Nat.mul_comm (128^i) 128,←Nat.mul_assoc,Nat.add_assoc,←Nat.add_mul]
        congr 2;omega
       simp only[List.cons_append,scan,e1];rw[if_pos (by omega),ih hlt (.inl (by omega)) (by rw[e2];exact hz) (by simpa using hf),e2];simp;omega
theorem leb_length {y:Nat} (h:y<9223372036854775807):(leb y).length≤9:=lebF_short (k:=9) (by decide) (Nat.lt_of_lt_of_le h (by decide)) (Nat.lt_of_lt_of_le h (by decide))
theorem decI_leb {y:Nat} (h:y<9223372036854775807) (rest:List UInt8):decI (leb y++rest)=some (y,(leb y).length):=by
 have:=scan_leb (g:=9) (y:=y) (i:=0) (z:=0) (f:=9) rest (Nat.lt_of_lt_of_le h (by decide)) (.inr rfl) (by omega) (leb_length h);unfold decI leb;rw[this];simp
theorem decI_putI {n:Int} (h1: -maxI≤n) (h2:n≤maxI) (rest:List UInt8):decI (putI n++rest)=some (zig n,(putI n).length):=decI_leb (zig_lt h1 h2) rest
theorem zig_inj {a b:Int} (h:zig a=zig b):a=b:=by rw[←unzig_zig a,h,unzig_zig]
end Go.Proofs.YteeifhlhpiimoaaGreatDoor.Wr
end
