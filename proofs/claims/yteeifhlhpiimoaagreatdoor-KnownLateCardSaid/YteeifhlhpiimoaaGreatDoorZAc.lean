/-
  The contract of package integer's division of absolute values, walked. Conditions: the divisor is not 0; numbers of at most 900 groups. The shelf of this program. Conditions: each contract's own. Decimal texts of numbers: plainly. No condition. Integers as texts: which are valid, their values, their groups. No condition. The text of groups is the text of their value. No condition. Which texts are integers. No condition.
-/
import Derived.Test.YteeifhlhpiimoaaGreatDoorZAa
import Derived.Test.YteeifhlhpiimoaaGreatDoorZAb
import Derived.Laws.EntriesVeiled
import Derived.Shelf.Strings.Builder1
import Derived.Shelf.Strings.Builder2
import Derived.Shelf.Strings.Trim
import Derived.Shelf.Small.Utf8
import Derived.Shelf.Small.Bits
import Derived.Shelf.Small.Strs
import Derived.Shelf.Strings.BuilderF
import Derived.Shelf.Strings.BuilderK
import Derived.Shelf.Strconv.Atoi
import Derived.Shelf.Strconv.Itoa0
import Derived.Shelf.Strconv.Itoa1
import Derived.Shelf.LaysM
import Derived.Shelf.Strconv.Itoa2
import Derived.Shelf.Strconv.Itoa3
import Derived.Shelf.Strings.Search1
import Derived.Shelf.Sort.Plain
import Derived.Shelf.Strings.Prefix
import Derived.Shelf.Strings.Runes
import Derived.Shelf.Strings.AsciiSet
import Derived.Shelf.Bits.Mul64
import Derived.Shelf.Strings.Repeat
import Derived.Shelf.Unicode.DecodeSlow
import Derived.Ground.Names2Prog
import Derived.Shelf.Slices.CompactI
import Derived.Shelf.Slices.In.SortNone
import Derived.Test.YteeifhlhpiimoaaGreatDoorProg
set_option maxHeartbeats 8000000
set_option maxRecDepth 100000
section
namespace Go.Proofs.YteeifhlhpiimoaaGreatDoor
open Go Go.RowKit Go.Shelf
attribute [local go_sem] Oper.semAt_some
def OverP (w:World) (q r:Nat) (e:Ending) (w':World):Prop:=∃vq vr,e=.returned (.tuple #[vq,vr])∧LsAt w' vq (ofN q)∧LsAt w' vr (ofN r)∧Below w.heap.size w w'
theorem mkNums (n:Nat) (hn:n≤1000000) (w:World):(Instr.makeSlice 230 (.int .i64 (n:Int)) (.int .i64 (n:Int))).run Tryz.prog w=.ok (.slice (some ⟨w.heap.size,0,none⟩) n n) (w.alloc (.cells (madeCells #[.int .i64 0] n) 3)):=
 run_make_row' (P:=Tryz.prog) 230 3 (.int .i64 0) 8 Tryz.underlying230 (by kernel_rfl) rfl .i64 .i64 n (by omega) (by omega) w
theorem made_nums (n:Nat):(madeCells #[.int .i64 0] n).toList=(List.replicate n (0:Nat)).map nv:=by
 refine List.ext_getElem (by simp[madeCells]) fun i h1 h2=> ?_;simp[madeCells,nv,Nat.mod_one]
theorem LAt.catN {w:World} {B:Nat} {A:Option Addr} {l:List Nat} (h:LAt w B A nv l) {w':World} (hb:Below B w w'):∀j x,(l.flatMap (one nv))[j]?=some x→∃a,A=some a∧w'.cell? (a.add j)=some x:=by
 intro j x hx;rw[flatMap_one,List.getElem?_map] at hx;obtain⟨y,hy,rfl⟩:=Option.map_eq_some_iff.1 hx;obtain⟨a,e,hl,hc⟩:=h.below hb j y hy;exact⟨a,e,hc⟩
theorem OL.lit1N {B:Nat} (W:World) (y:Nat) (hB:B≤W.heap.size):OL (W.alloc (.cells #[.int .i64 (y:Int)] 3)) B 3 1 (one nv) (.slice (some ⟨W.heap.size,0,none⟩) 1 1) [y]:=
 ⟨rfl,.inr ⟨W.heap.size,1,_,rfl,hB,World.alloc_heap_new W _,Nat.le_refl _,by unfold maxLen;omega,rfl,rfl⟩⟩
theorem LsAt.set {w:World} {v:Value} {l:List Nat} (h:LsAt w v l) {B:Nat} (hf:Fresh B v) (p:Addr) (hp:p.block<B) (u:Value):LsAt (w.setCell p u) v l:=by
 obtain⟨A,c,rfl,h1,h2,h3,h4⟩:=h;refine⟨A,c,rfl,h1,h2,h3,fun i x hx=> ?_⟩;obtain⟨a,rfl,hl,hc⟩:=h4 i x hx;have hb:=hf a _ _ rfl;refine⟨a,rfl,by simpa[World.setCell] using hl,?_⟩;rw[World.cell?_setCell_other _ _ _ _ (fun e=> ?_)]
 · exact hc
 · have:(a.add i).block=p.block:=by rw[e]
   rw[addr_add_block] at this;omega
structure OvI (w:World) (b3 b4 b5 g n:Nat) (vm vr:Value) (ql:List Nat) (R:Nat) (W:World):Prop where
 bm:Boxed W b3 230 vm
 bq:Boxed W b4 230 (.slice (some ⟨g,0,none⟩) n n)
 br:Boxed W b5 230 vr
 row:RAt W g nv ql
 rd:LsAt W vr (ofN R)
 fr:Fresh (g+4) vr
 below:Below w.heap.size w W
theorem LsAt.turns {U V:World} {v:Value} {l:List Nat} {Z:Nat→Prop} {B:Nat} (h:LsAt U v l) (t:Turns Z U V) (hf:Fresh B v) (hz:∀k,Z k→k<B):LsAt V v l:=by
 obtain⟨A,c,rfl,h1,h2,h3,h4⟩:=h;refine⟨A,c,rfl,h1,h2,h3,fun i x hx=> ?_⟩;obtain⟨a,rfl,hl,hc⟩:=h4 i x hx;have hb:=hf a _ _ rfl;refine⟨a,rfl,Nat.lt_of_lt_of_le hl t.size,?_⟩;rw[t.cell (by rw[addr_add_block];exact hl) (fun e=>by rw[addr_add_block] at e;have:=hz _ e;omega)];exact hc
theorem RAt.turns {W W':World} {g:Nat} {α:Type} {f:α→Value} {l:List α} {Z:Nat→Prop} (h:RAt W g f l) (t:Turns Z W W') (hz:¬Z g):RAt W' g f l:=
 ⟨Nat.lt_of_lt_of_le h.lt t.size,fun i x hx=>(t.cell (p:=⟨g,i,none⟩) h.lt hz).trans (h.cell i x hx),fun i hi=>(t.frozen (p:=⟨g,i,none⟩) h.lt hz).trans (h.free i hi)⟩
theorem OvI.turns {w U V:World} {b3 b4 b5 g n:Nat} {vm vr:Value} {ql:List Nat} {R:Nat} {Z:Nat→Prop} (h:OvI w b3 b4 b5 g n vm vr ql R U) (t:Turns Z U V) (hz:∀k,Z k→g+2≤k∧k<g+4) (hb:b3≤g∧b4≤g∧b5≤g∧w.heap.size≤g):OvI w b3 b4 b5 g n vm vr ql R V:=
 ⟨t.boxed h.bm (fun e=>by have:=hz _ e;omega),t.boxed h.bq (fun e=>by have:=hz _ e;omega),t.boxed h.br (fun e=>by have:=hz _ e;omega),h.row.turns t (fun e=>by have:=hz _ e;omega),
   h.rd.turns t h.fr (fun k e=>(hz k e).2),h.fr,t.below h.below (Nat.le_refl _) (fun k e=>by have:=hz _ e;omega)⟩
theorem KeepsFrom.of_turns {B:Nat} {W W':World} {Z:Nat→Prop} (t:Turns Z W W') (hz:∀k,Z k→k<B):KeepsFrom B W W':=
 ⟨t.size,fun j _ hj hj2 _=>(t.block j (Array.getElem?_eq_some_iff.1 hj2).1 (fun e=>by have:=hz _ e;omega)).trans hj2⟩
theorem KpB.of_turns {b1:Nat} {A:Option Addr} {U V:World} {Z:Nat→Prop} (t:Turns Z U V) (hb:b1<U.heap.size∧¬Z b1) (hA:∀a,A=some a→a.block<U.heap.size∧¬Z a.block):KpB b1 A U V:=
 ⟨t.block _ hb.1 hb.2,fun a ha=>t.block _ (hA a ha).1 (hA a ha).2⟩
theorem results_cell2 {P:Program} {fn:Func} {p q:Tmp} {ty ty2:TypeId} {a b:Addr} {v u:Value} (h:fn.results=#[.cell p ty,.cell q ty2]) (tmps:Array Value) (w:World) (hp:tmps.getD p undef=.pointer (some a)) (hq:tmps.getD q undef=.pointer (some b))
 (ha:∀w,(isAgg ty).run P w=.ok false w) (hb:∀w,(isAgg ty2).run P w=.ok false w) (hc:w.cell? a=some v) (hd:w.cell? b=some u):(results fn tmps).run P w=.ok (.tuple #[v,u]) w:=by
 have hp':tmps[p]?.getD undef=.pointer (some a):=by simpa using hp
 have hq':tmps[q]?.getD undef=.pointer (some b):=by simpa using hq
 simp[results,h,hp',hq',asAddr,loadVar,ha,hb,hc,hd,go_sem]
theorem LsAt.putObj {W:World} {v:Value} {l:List Nat} (h:LsAt W v l) {k:Nat} {x:Option (List Deferred)} (hk:W.heap[k]?=some (.deferred x)) (o:Obj):LsAt (W.putObj k o) v l:=by
 obtain⟨A,c,rfl,h1,h2,h3,h4⟩:=h;refine⟨A,c,rfl,h1,h2,h3,fun i y hy=> ?_⟩;obtain⟨a,rfl,hl,hc⟩:=h4 i y hy
 have hne:(a.add i).block≠k:=fun e=>by
  unfold World.cell? at hc;rw[e,hk] at hc;cases hc
 refine⟨a,rfl,by simpa using hl,?_⟩;rw[←hc];exact World.cell?_of_block (World.putObj_heap_other hne)
theorem over_end {w W:World} {b3 b4 b5 g n D:Nat} {vm vr v9:Value} {ql l9:List Nat} {R:Nat} (HI:OvI w b3 b4 b5 g n vm vr ql R W) (hb:b4<g∧b5<g∧b4≠b5∧w.heap.size≤b4∧w.heap.size≤b5∧w.heap.size≤D) (h9:LsAt W.drew v9 l9) (hf:Fresh g v9) (hK:W.heap[D]?=some (.deferred (some []))) (V:World)
 (hV:V=(W.drew.setCell ⟨b4,0,none⟩ v9).setCell ⟨b5,0,none⟩ vr∨V=(W.drew.setCell ⟨b5,0,none⟩ vr).setCell ⟨b4,0,none⟩ v9):
 V.heap[D]?=some (.deferred (some []))∧(V.putObj D (.deferred none)).cell? ⟨b4,0,none⟩=some v9∧(V.putObj D (.deferred none)).cell? ⟨b5,0,none⟩=some vr∧LsAt (V.putObj D (.deferred none)) v9 l9∧LsAt (V.putObj D (.deferred none)) vr (ofN R)∧Below w.heap.size w (V.putObj D (.deferred none)):=by
 obtain⟨h1,h2,h3,h4,h5,h6⟩:=hb;have d4:b4≠D:=fun e=>by have:=HI.bq;rw[e] at this;rw[Boxed,hK] at this;cases this
 have d5:b5≠D:=fun e=>by have:=HI.br;rw[e] at this;rw[Boxed,hK] at this;cases this
 have hfr:Fresh g vr:=HI.fr.base (by omega);have x4:Boxed W.drew b4 230 (.slice (some ⟨g,0,none⟩) n n):=HI.bq;have x5:Boxed W.drew b5 230 vr:=HI.br;have hbel:Below w.heap.size w W.drew:=Below.drew HI.below
 have key:V.heap[D]?=some (.deferred (some []))∧Boxed V b4 230 v9∧Boxed V b5 230 vr∧LsAt V v9 l9∧LsAt V vr (ofN R)∧Below w.heap.size w V:=by
  rcases hV with rfl|rfl
  · refine⟨?_,(x4.set v9).other h3 vr,?_,(h9.set hf ⟨b4,0,none⟩ h1 v9).set hf ⟨b5,0,none⟩ h2 vr,((HI.rd).set (w:=W.drew) hfr ⟨b4,0,none⟩ h1 v9).set hfr ⟨b5,0,none⟩ h2 vr,(hbel.setCell h4 v9).setCell h5 vr⟩
    · exact(Below.heap_setCell _ _ _ _ (fun e=>d5 e.symm)).trans ((Below.heap_setCell _ _ _ _ (fun e=>d4 e.symm)).trans hK)
    · exact(x5.other h3.symm v9).set vr
  · refine⟨?_,(x4.other h3 vr).set v9,(x5.set vr).other h3.symm v9,(h9.set hf ⟨b5,0,none⟩ h2 vr).set hf ⟨b4,0,none⟩ h1 v9,((HI.rd).set (w:=W.drew) hfr ⟨b5,0,none⟩ h2 vr).set hfr ⟨b4,0,none⟩ h1 v9,(hbel.setCell h5 vr).setCell h4 v9⟩
    exact(Below.heap_setCell _ _ _ _ (fun e=>d4 e.symm)).trans ((Below.heap_setCell _ _ _ _ (fun e=>d5 e.symm)).trans hK)
 obtain⟨k1,k2,k3,k4,k5,k6⟩:=key;have t:=Turns.putObj (Z:=fun k=>k=D) V D (.deferred none) rfl;exact⟨k1,(t.boxed k2 d4).cell,(t.boxed k3 d5).cell,k4.putObj k1 _,k5.putObj k1 _,t.below k6 (Nat.le_refl _) (fun k e=>by omega)⟩
theorem over_walk (X M:Nat) (hM:0<M) (v1 v2:Value) (w:World) (h1:LsAt w v1 (ofN X)) (h2:LsAt w v2 (ofN M)) (hlX:(ofN X).length≤900) (hlM:(ofN M).length≤900):
 Calls Tryz.prog 204 #[v1,v2] w (OverP w (X/M) (X%M)):=by
 obtain⟨A,c,rfl,hc1,hc2,hc3,hA⟩:=h1;obtain⟨n,hn⟩:=oQ ((ofN X).length);rw[hn] at hlX;rw[hn];have HA:=hZ hA;have HN:=hZ hn;have H2:=hZ h2;have hmk:=mkNums n (by omega);obtain⟨C,hC⟩:=oQ (madeCells #[.int .i64 0] n);rw[hC] at hmk;have HC:=hZ (show C.toList=(List.replicate n (0:Nat)).map nv by rw[←hC];exact made_nums n);obtain⟨Bm,dm,rfl,-⟩:=h2;obtain⟨km,hkm⟩:=oQ ((ofN M).length);rw[hkm] at H2;rw[hkm];obtain⟨vm,hvm⟩:=oQ (Value.slice Bm km dm);have HVM:=hZ hvm;clear hA hn hC hkm hvm;refine(callsIn_wide (n:=3)).1 ?_;refine callsIn_of_wp_marks Tryz.func204 rfl trivial ?_ rfl;simp only[Tryz.ntmps204,List.size_toArray,List.length_cons,List.length_nil,Nat.reduceAdd,Nat.reduceSub,Array.replicate_succ,Array.replicate_zero,List.push_toArray,List.append_toArray,List.nil_append,List.cons_append];refine wpIn_wide.2 ?_
 go_wp2_with (first
  |(go_at_call 244;refine(backN_any _ _ _ _).mono ?_;rintro e w5 ⟨rfl,rfl⟩)
  |fail)
 rw[HVM.out] at H2⊢;obtain⟨b3,hb3⟩:=oQ (w.heap.size);rw[hb3];obtain⟨b4,hb4⟩:=oQ (b3+1);rw[hb4];obtain⟨b5,hb5⟩:=oQ (b4+1);rw[hb5];obtain⟨g,hg⟩:=oQ (b5+1);rw[hg];obtain⟨b1,hb1⟩:=oQ (g+1);rw[hb1];obtain⟨l,hl⟩:=oQ (ofN X);obtain⟨W1,hW1⟩:=oQ (((((w.alloc (.cells #[vm] 230)).alloc (.cells #[.slice (some ⟨g,0,none⟩) n n] 230)).alloc (.cells #[.slice none 0 0] 230)).alloc (.cells C 3)).alloc (.cells #[.slice A n c] 230));have hl0:l.length=n:=by rw[←hl];exact HN.out
 have hI1:OvI w b3 b4 b5 g n vm (.slice none 0 0) (ovF l M []).1 (ovF l M []).2 W1∧Boxed W1 b1 230 (.slice A n c)∧W1.heap.size=b1+1:=by
  have s1:(w.alloc (.cells #[vm] 230)).heap.size=b4:=by rw[World.size_alloc,hb3,hb4]
  obtain⟨u1,hu1⟩:=oQ (w.alloc (.cells #[vm] 230));have y1:Boxed u1 b3 230 vm:=by rw[←hu1,←hb3];exact Boxed.new w _ _
  have c1:Below w.heap.size w u1:=by rw[←hu1];exact below_box _ _ _
  rw[hu1] at s1 hW1;obtain⟨u2,hu2⟩:=oQ (u1.alloc (.cells #[.slice (some ⟨g,0,none⟩) n n] 230));have s2:u2.heap.size=b5:=by rw[←hu2,World.size_alloc,s1,hb5]
  have y2:Boxed u2 b4 230 (.slice (some ⟨g,0,none⟩) n n):=by rw[←hu2,←s1];exact Boxed.new u1 _ _
  have c2:Below u1.heap.size u1 u2:=by rw[←hu2];exact below_box _ _ _
  rw[hu2] at hW1;obtain⟨u3,hu3⟩:=oQ (u2.alloc (.cells #[.slice none 0 0] 230));have s3:u3.heap.size=g:=by rw[←hu3,World.size_alloc,s2,hg]
  have y3:Boxed u3 b5 230 (.slice none 0 0):=by rw[←hu3,←s2];exact Boxed.new u2 _ _
  have c3:Below u2.heap.size u2 u3:=by rw[←hu3];exact below_box _ _ _
  rw[hu3] at hW1;obtain⟨u4,hu4⟩:=oQ (u3.alloc (.cells C 3));have s4:u4.heap.size=b1:=by rw[←hu4,World.size_alloc,s3,hb1]
  have y4:RAt u4 g nv (List.replicate n 0):=by rw[←hu4,←s3];exact RAt.alloc_new u3 C 3 HC.out
  have c4:Below u3.heap.size u3 u4:=by rw[←hu4];exact(Below.refl _ _).alloc (Nat.le_refl _) _
  rw[hu4] at hW1;have s5:W1.heap.size=b1+1:=by rw[←hW1,World.size_alloc,s4]
  have y5:Boxed W1 b1 230 (.slice A n c):=by rw[←hW1,←s4];exact Boxed.new u4 _ _
  have c5:Below u4.heap.size u4 W1:=by rw[←hW1];exact below_box _ _ _
  refine⟨⟨?_,?_,?_,?_,?_,Fresh.nil _,?_⟩,y5,s5⟩
  · exact(c5.block b3 (by omega)).trans ((c4.block b3 (by omega)).trans ((c3.block b3 (by omega)).trans ((c2.block b3 (by omega)).trans y1)))
  · exact(c5.block b4 (by omega)).trans ((c4.block b4 (by omega)).trans ((c3.block b4 (by omega)).trans y2))
  · exact(c5.block b5 (by omega)).trans ((c4.block b5 (by omega)).trans y3)
  · have:=y4.below c5 (by omega)
    show RAt W1 g nv (List.replicate l.length 0);rw[hl0];exact this
  · show LsAt W1 (.slice none 0 0) (ofN 0)
    rw[ofN_zero];exact LsAt.nil W1
  · exact(((c1.trans (c2.mono (by omega))).trans (c3.mono (by omega))).trans (c4.mono (by omega))).trans (c5.mono (by omega))
 have HI1:=hZ hI1.1;have x4:=hI1.2.1;have hs1:=hI1.2.2;obtain⟨A0,hA0,hA1⟩:=HA.out.addr;rw[HN.out] at hA0;have HA1:=hZ ((HA.out.below HI1.out.below).more HI1.out.below.size);have hgl:Grp l:=by rw[←hl];exact ofN_grp X
 rw[hl] at HA1;have HGL:=hZ hgl;have HL:=hZ hl;have HL0:=hZ hl0;have HBL:Hid (w.heap.size=b3∧b3+1=b4∧b4+1=b5∧b5+1=g∧g+1=b1):=hZ ⟨hb3,hb4,hb5,hg,hb1⟩;rw[hW1];clear hW1 hI1 hgl hl hl0 hmk;refine(wpIn_wide (n:=3)).1 ?_
 refine wp_rangeZ (gf:=265) (lb:=#[.pointer (some ⟨b1,0,none⟩)]) rfl (enters_of Tryz.func265 (by kernel_rfl) rfl)
  (backN_iter A A0 l n HL0.out hA0 c b1 (by omega) W1 x4 HA1.out) (Below.refl _ _) (fun k hk=>hk.elim) (fun _=>rfl) (fun h k=>h.trans k)
  (fun W o=>KpB.put (n:=b1+1) (by omega) (fun q hq=>by have:=hA1 q hq;omega) (by omega) W o)
  (fun pre W=> ∃vr,OvI w b3 b4 b5 g n vm vr (ovF l M pre).1 (ovF l M pre).2 W)
  (fun _ _ _=>False)
  (fun s U V h t=>by
    obtain⟨vr,h⟩:=h
    exact⟨vr,h.turns t (fun k e=>by rcases e with e|e|e;exact(e:False).elim;all_goals (have:=hs1;omega)) ⟨by omega,by omega,by omega,by omega⟩⟩)
  (fun _ _ _ _ h _=>h.elim)
  ⟨_,HI1.out⟩ ?a1 ?assign ?body ?done ?stop
 case assign=>
  intro l x W K hK
  dsimp only[encB]
  gi_wp2
  exact hK
 case body=>
  rintro l0 pre x W hW ⟨vr,hI⟩ hlt2;have hxl:x.val<n:=by have:=x.isLt;have:=HL0.out;omega
  have hR:=(ovF_lt hM pre).1;have hq:=(ovF_lt hM pre).2;obtain⟨ql,hql⟩:=oQ ((ovF l M pre).1);obtain⟨R,hRR⟩:=oQ ((ovF l M pre).2);have hsn:=ovF_snoc l M pre x;rw[hql] at hq hI hsn;rw[hRR] at hR hI hsn;obtain⟨d,hd⟩:=oQ (l.getD x.val 0);have hd9:=getD_grp HGL.out x.val;rw[←getD_get x.isLt];rw[hd] at hd9 hsn⊢;have HSN:=hZ hsn;obtain⟨xi,hxi⟩:=oQ (x.val);rw[hxi] at hxl HSN⊢;have HXI:=hZ hxi;have HHR:=hZ hR;have HI:=hZ hI;have HQL:=hZ hq;have cr:=hI.br.cell;have fr:=hI.br.frozen;obtain⟨Ar,cr',hvr,q1,q2,q3,q4⟩:=hI.rd;obtain⟨kr,hkr⟩:=oQ ((ofN R).length);rw[hkr] at hvr;have hkr2:kr≤900:=by rw[←hkr];have:=ofN_len_mono (Nat.le_of_lt hR);omega
  subst hvr;have HQ4:=hZ q4;have HKR:=hZ hkr;have HQ3:=hZ q3;have hbs:=hI.below.size;have HSZ1:=hZ (And.intro hs1 hW);have HA0:=hZ hA1;clear hql hRR hsn hd hxi hI hR hq q1 q2 q3 q4 hkr hA0 hA1 HA1 HI1 x4 HC HA hb3 hb4 hb5 hg hb1;have cr2:(W.alloc (.cells #[.int .i64 (d:Int)] 3)).cell? ⟨b5,0,none⟩=some (.slice Ar kr cr'):=((HI.out.br).alloc _).cell
  gi_wp2_with (first
   |(gi_at_builtin;refine wpListIn_cat rfl (.tmp 18) (.tmp 19) 230 rfl elemNum (fun _=>rfl) _ [d] rfl (OL.lit1N W d (Nat.le_refl _)) Ar (ofN R) kr cr' HKR.out rfl HQ3.out (HQ4.out.catN (below_box _ _ _)) (fun x _ u hu=>by simp[one,nv] at hu;subst hu;rfl) (by simp;unfold maxLen;omega) (by simp;omega) (by simp) ?_;intro v' w' ho hgr hb')
   |fail)
  have hbx:∀b,b<W.heap.size→w'.heap[b]?=W.heap[b]?:=fun b hb=>(hb'.block b hb).trans ((below_box W (.int .i64 (d:Int)) 3).block b hb);have hbw:Below W.heap.size W w':=(below_box W (.int .i64 (d:Int)) 3).trans hb';have hle:b5<W.heap.size∧g+4≤W.heap.size:=by have:=HBL.out;omega
  obtain⟨A5,c5,hv5,r1,r2,r3,r4⟩:=LsAt.of_ol ho;have hf5:=ho.fresh;have hlen5:([d]++ofN R).length=kr+1:=by simp[HKR.out]
  rw[hlen5] at hv5;subst hv5;have b5w:Boxed w' b5 230 (.slice Ar kr cr'):=(hbx b5 hle.1).trans HI.out.br;have b3w:Boxed w' b3 230 vm:=(hbx b3 (by have:=HBL.out;omega)).trans HI.out.bm;have HTR:=hZ (trimmed_walk A5 c5 ([d]++ofN R) (kr+1) hlen5 (by omega) r2 r3 w' r4 (by omega));have htrim:trimN ([d]++ofN R)=ofN (d+10000*R):=trim_cons hd9;rw[htrim] at HTR;have HBW:=hZ hbw;have HF5:=hZ hf5;have HLE:=hZ hle;have f5:=b5w.frozen;have c5':=b5w.cell;have HB5:=hZ b5w;have hne:b3≠b5:=by have:=HBL.out;omega
  have c3:∀v,(w'.setCell ⟨b5,0,none⟩ v).cell? ⟨b3,0,none⟩=some vm:=fun v=>(World.cell?_setCell_other _ _ _ _ (fun e=>hne (by cases e;rfl))).trans b3w.cell;have HBX:=hZ hbx;clear ho hgr hb' hbx hbw hle hf5 r1 r2 r3 r4 hlen5 htrim b5w b3w cr cr2 fr hne;refine⟨trivial,CallsIn.mono (F:=Fence.wide) (n:=0) (callsIn_wide.2 HTR.out) ?_⟩;rintro e w6 ⟨⟨v2,rfl,hv2,hfr2⟩,rfl⟩;have HFR2:=hZ (hfr2 _ HF5.out);have HV2:=hZ hv2;obtain⟨A2,k2,hv2e,-⟩:=hv2;obtain⟨n2,hn2⟩:=oQ ((ofN (d+10000*R)).length);rw[hn2] at hv2e;subst hv2e;have HN2:=hZ hn2;have c3':=c3 (.slice A2 n2 k2);clear hfr2 c3 hn2 HTR
  gi_wp2_with fail
  obtain⟨W7,hW7⟩:=oQ ((w6.setCell ⟨b5,0,none⟩ (.slice A2 n2 k2)).alloc (.cells #[.func (.func 246) #[vm] #[]] 272));obtain⟨b8,hb8⟩:=oQ (w6.heap.size);have hs6:(w6.setCell ⟨b5,0,none⟩ (.slice A2 n2 k2)).heap.size=b8:=by rw[←hb8];simp[World.setCell]
  have hs7:W7.heap.size=b8+1:=by rw[←hW7,World.size_alloc,hs6]
  have hbb:W.heap.size≤b8:=by rw[←hb8];exact HBW.out.size
  have y8:Boxed W7 b8 272 (.func (.func 246) #[vm] #[]):=by rw[←hW7,←hs6];exact Boxed.new _ _ _
  have y5:Boxed W7 b5 230 (.slice A2 n2 k2):=by rw[←hW7];exact(HB5.out.set _).alloc _
  have ht7:Turns (fun k=>k=b5) W W7:=by
   rw[←hW7];exact((Turns.of_below HBW.out).trans (Turns.setCell (Z:=fun k=>k=b5) w6 ⟨b5,0,none⟩ (.slice A2 n2 k2) rfl)).trans (Turns.alloc _ _)
  have hr7:LsAt W7 (.slice A2 n2 k2) (ofN (d+10000*R)):=by
   rw[←hW7];exact(HV2.out.set HFR2.out ⟨b5,0,none⟩ HLE.out.1 _).below (below_box _ _ _)
  rw[hW7,hb8];clear hW7 hb8 c3' f5 c5' HB5 HBX HV2 HF5 HQ4 HKR HQ3 hs6;have hq4:Boxed W7 b4 230 (.slice (some ⟨g,0,none⟩) n n):=ht7.boxed HI.out.bq (by have:=HBL.out;omega);have hrow:RAt W7 g nv ql:=HI.out.row.turns ht7 (by have:=HBL.out;omega);have hbl7:Below w.heap.size w W7:=ht7.below HI.out.below (Nat.le_refl _) (fun k e=>by have:=HBL.out;omega);have hRlt:=HHR.out;have hR9:(d+10000*R)/M<10000:=(over_step (X:=R) (Q:=0) (R:=R) hM (by omega) hRlt hd9).2.1
  have hlen9:(ofN (d+10000*R)).length≤1000:=by
   have h1:(ofN (R*10000)).length≤(ofN R).length+1:=ofN_len_mul R (Nat.le_refl _);have h2:=ofN_len_mono (Nat.le_of_lt hRlt);have h3:(ofN d).length≤1:=ofN_len_pow (by omega);have h4:=ofN_len_add d (R*10000);rw[Nat.mul_comm 10000 R];omega
  have hse:Calls Tryz.prog 248 #[.int .i64 9999,.func (.func 247) #[] #[.pointer (some ⟨b8,0,none⟩),.pointer (some ⟨b5,0,none⟩)]] W7.drew (SearchP W7.drew 9999 (tooB (d+10000*R) M)):=
   search_walk 9999 (by omega) (tooB (d+10000*R) M) tooB_mono 247 #[.pointer (some ⟨b8,0,none⟩),.pointer (some ⟨b5,0,none⟩)] (enters_of Tryz.func247 (by kernel_rfl) rfl) W7.drew (fun V i hV hi=>by
    have hV':Below W7.heap.size W7 V:=⟨hV.os,hV.tape,hV.output,hV.size,hV.block⟩
    exact over1_walk i M (d+10000*R) (by omega) vm (.slice A2 n2 k2) b8 b5 V ((hV'.cell (p:=⟨b8,0,none⟩) y8.lt).trans y8.cell) ((hV'.cell (p:=⟨b5,0,none⟩) y5.lt).trans y5.cell)
     (((H2.out.below hbl7)).below hV') (hr7.below hV') hlM hlen9)
  have HSE:=hZ hse;have HQ4:=hZ hq4;have HROW:=hZ hrow;have HBL7:=hZ hbl7;have HY8:=hZ y8;have HY5:=hZ y5;have HT7:=hZ ht7;have HR7:=hZ hr7;have HR9:=hZ hR9;have HS7:=hZ (And.intro hs7 hbb)
  have HQX:Hid (∀V,Below W7.heap.size W7 V→V.cell? ⟨b4,0,none⟩=some (.slice (some ⟨g,0,none⟩) n n)∧V.cell? ⟨g,xi,none⟩=some (.int .i64 ((ql.getD xi 0:Nat):Int))∧V.frozen? ⟨g,xi,none⟩=false):=hZ (fun V hV=>by
   (have hql:xi<ql.length:=by rw[HQL.out,HL0.out];exact hxl);refine⟨(hV.cell (p:=⟨b4,0,none⟩) (by have:=hq4.lt;exact this)).trans hq4.cell,?_,?_⟩
   · rw[getD_get hql];exact(hV.cell (p:=⟨g,xi,none⟩) hrow.lt).trans (hrow.get hql)
   · exact(hV.frozen (p:=⟨g,xi,none⟩) hrow.lt).trans (hrow.free xi hql))
  have z1:(0:Int)≤(xi:Int):=by omega
  have z2:(xi:Int)<(n:Int):=by omega
  have cq:=(HQX.out W7 (Below.refl _ _)).1;clear hq4 hrow hbl7 hRlt hR9 hlen9 hse y8 y5 ht7 hr7 hs7 hbb hs1 hW hlt2;have hs8:∀V,Below W7.heap.size W7 V→V.cell? ⟨b4,0,none⟩=some (.slice (some ⟨g,0,none⟩) n n):=fun V hV=>(HQX.out V hV).1;have hs8s:∀V u,Below W7.heap.size W7 V→(V.setCell ⟨g,xi,none⟩ u).cell? ⟨b4,0,none⟩=some (.slice (some ⟨g,0,none⟩) n n):=fun V u hV=>(World.cell?_setCell_other _ _ _ _ (fun e=>by have:=HBL.out;cases e;omega)).trans (HQX.out V hV).1;have HS8:=hZ hs8;have HS8s:=hZ hs8s;clear hs8 hs8s cq;refine wpIn_region_held (S:=fun V=>V.cell? ⟨b4,0,none⟩=some (.slice (some ⟨g,0,none⟩) n n)) (by kernel_rfl) (by kernel_rfl) (HS8.out _ (Below.drew (Below.refl _ _))) (fun hHeld=> ?_);refine tk 0 ?_;refine tk 1 ?_;refine tk 2 ?_;refine rd [3] ?_;refine rcE fun K hK=> ?_;go_simp;refine HSE.out.mono ?_;rintro e w9 ⟨q,rfl,hq1,hq2,hq3,hq4⟩;have hq4':Below W7.heap.size W7 w9:=⟨hq4.os,hq4.tape,hq4.output,hq4.size,hq4.block⟩;have HQS:=hZ (And.intro hq1 (And.intro hq2 hq3));have HB9:=hZ hq4';obtain⟨c9,c10,f10⟩:=HQX.out w9 hq4';clear hq1 hq2 hq3 hq4 hq4';refine kk hK (HS8.out _ HB9.out) (fun hHeld=> ?_);clear hK K;refine tk 4 ?_;refine rd [5] ?_;refine rcE fun K hK=> ?_;go_simp;refine kk hK (HS8s.out _ _ HB9.out) (fun hHeld=> ?_);clear hK K;refine wpAnyH_done (by kernel_rfl) ?_ _;refine Tight.normal ?_;have hq9:q≤9999:=HQS.out.1;have hqe:q=(d+10000*R)/M:=over_digit hM HR9.out HQS.out.2.1 HQS.out.2.2 hq9;obtain⟨W10,hW10⟩:=oQ (w9.setCell ⟨g,xi,none⟩ (.int .i64 (q:Int)));have ht9:Turns (fun k=>k=b5∨k=g) W w9:=(HT7.out.mono (fun k e=>Or.inl e)).trans (Turns.of_below HB9.out);have ht10:Turns (fun k=>k=b5∨k=g) W W10:=by rw[←hW10];exact ht9.trans (Turns.setCell (Z:=fun k=>k=b5∨k=g) w9 ⟨g,xi,none⟩ (.int .i64 (q:Int)) (.inr rfl))
  have hs10:W10.heap.size=w9.heap.size:=by rw[←hW10];simp[World.setCell]
  have hg5:g≠b5∧g≠b8∧g≠b4:=by have:=HBL.out;have:=HS7.out;have:=HLE.out;omega
  have hoth:∀b,b≠g→W10.heap[b]?=w9.heap[b]?:=fun b hb=>by rw[←hW10];exact Below.heap_setCell _ _ _ _ hb
  have y5:Boxed W10 b5 230 (.slice A2 n2 k2):=(hoth b5 (fun e=>hg5.1 e.symm)).trans ((HB9.out.block b5 HY5.out.lt).trans HY5.out);have y8:Boxed W10 b8 272 (.func (.func 246) #[vm] #[]):=(hoth b8 (fun e=>hg5.2.1 e.symm)).trans ((HB9.out.block b8 HY8.out.lt).trans HY8.out);have y4:Boxed W10 b4 230 (.slice (some ⟨g,0,none⟩) n n):=(hoth b4 (fun e=>hg5.2.2 e.symm)).trans ((HB9.out.block b4 HQ4.out.lt).trans HQ4.out);have hql:xi<ql.length:=by rw[HQL.out,HL0.out];exact hxl
  have hrow:RAt W10 g nv (ql.set xi q):=by rw[←hW10];exact(HROW.out.below HB9.out HROW.out.lt).setv xi hql q _ rfl
  have cgx:W10.cell? ⟨g,xi,none⟩=some (.int .i64 (q:Int)):=by
   have:=hrow.get (i:=xi) (by simpa using hql);rw[List.getElem_set_self] at this;exact this
  have hbl10:Below w.heap.size w W10:=ht10.below HI.out.below (Nat.le_refl _) (fun k e=>by have:=HBL.out;omega)
  have hr10:LsAt W10 (.slice A2 n2 k2) (ofN (d+10000*R)):=by
   rw[←hW10];exact(HR7.out.below HB9.out).set HFR2.out ⟨g,xi,none⟩ (by have:=HLE.out;show g<_;omega) _
  have hMq:M*q≤d+10000*R:=by rw[hqe];exact Nat.mul_div_le _ _
  have HBY:=hZ (by_walk M q (by omega) vm W10.drew (LsAt.drewN (H2.out.below hbl10) 1) (by omega))
  have HMI:Hid (∀V v,Below W10.heap.size W10 V→LsAt V v (ofN (M*q))→Calls Tryz.prog 207 #[.slice A2 n2 k2,v] V (NumP V (d+10000*R-M*q))):=hZ (fun V v hV hv=>
   minus_walk _ _ hMq _ v V (hr10.below hV) hv (by
    have h1:(ofN (R*10000)).length≤(ofN R).length+1:=ofN_len_mul R (Nat.le_refl _);have h2:=ofN_len_mono (Nat.le_of_lt HHR.out);have h3:=ofN_len_mono (show d≤9999 by omega);have h3':(ofN 9999).length≤1:=ofN_len_pow (by omega);have h4:=ofN_len_add d (R*10000);rw[Nat.mul_comm 10000 R]
    omega))
  have HQY:Hid (∀V,Below W10.heap.size W10 V→V.cell? ⟨b4,0,none⟩=some (.slice (some ⟨g,0,none⟩) n n)∧V.cell? ⟨g,xi,none⟩=some (.int .i64 (q:Int))∧V.cell? ⟨b5,0,none⟩=some (.slice A2 n2 k2)∧V.cell? ⟨b8,0,none⟩=some (.func (.func 246) #[vm] #[])∧V.frozen? ⟨b5,0,none⟩=false∧Boxed V b5 230 (.slice A2 n2 k2)):=hZ (fun V hV=>by
   have y5':Boxed V b5 230 (.slice A2 n2 k2):=(hV.block b5 y5.lt).trans y5
   exact⟨(hV.cell (p:=⟨b4,0,none⟩) y4.lt).trans y4.cell,(hV.cell (p:=⟨g,xi,none⟩) hrow.lt).trans cgx,y5'.cell,(hV.cell (p:=⟨b8,0,none⟩) y8.lt).trans y8.cell,y5'.frozen,y5'⟩)
  obtain⟨k4,kg,k5,k8,-,-⟩:=HQY.out W10 (Below.refl _ _);have HTT:=hZ ht10;have HROW2:=hZ hrow;have HQE:=hZ hqe;have HQ9:=hZ hq9;rw[hW10];clear hq9 hqe hW10 ht9 ht10 hs10 hg5 hoth y5 y8 y4 hql hrow cgx hbl10 hr10 hMq c9 c10 f10 HSE HROW HY8 HY5 HQ4 HT7 HR7 HQX HBL7 hHeld HS8 HS8s
  gi_wp2_with fail
  have hs9:∀V,Below W10.heap.size W10 V→V.cell? ⟨b8,0,none⟩=some (.func (.func 246) #[vm] #[])∧V.cell? ⟨b4,0,none⟩=some (.slice (some ⟨g,0,none⟩) n n)∧V.cell? ⟨g,xi,none⟩=some (.int .i64 (q:Int)):=fun V hV=>by
   obtain⟨i4,ig,-,i8,-,-⟩:=HQY.out V hV;exact⟨i8,i4,ig⟩
  have hs9s:∀V u,Below W10.heap.size W10 V→(V.setCell ⟨b5,0,none⟩ u).cell? ⟨b8,0,none⟩=some (.func (.func 246) #[vm] #[])∧(V.setCell ⟨b5,0,none⟩ u).cell? ⟨b4,0,none⟩=some (.slice (some ⟨g,0,none⟩) n n)∧(V.setCell ⟨b5,0,none⟩ u).cell? ⟨g,xi,none⟩=some (.int .i64 (q:Int)):=fun V u hV=>by
   obtain⟨i4,ig,-,i8,-,-⟩:=HQY.out V hV;have:=HBL.out;have:=HS7.out;have:=HLE.out;exact⟨(World.cell?_setCell_other _ _ _ _ (fun e=>by cases e;omega)).trans i8,(World.cell?_setCell_other _ _ _ _ (fun e=>by cases e;omega)).trans i4,(World.cell?_setCell_other _ _ _ _ (fun e=>by cases e;omega)).trans ig⟩
  have HS9:=hZ hs9;have HS9s:=hZ hs9s;clear hs9 hs9s k4 kg k8;refine wpIn_region_held (S:=fun V=>V.cell? ⟨b8,0,none⟩=some (.func (.func 246) #[vm] #[])∧V.cell? ⟨b4,0,none⟩=some (.slice (some ⟨g,0,none⟩) n n)∧V.cell? ⟨g,xi,none⟩=some (.int .i64 (q:Int))) (by kernel_rfl) (by kernel_rfl) (HS9.out _ (Below.drew (Below.refl _ _))) (fun hHeld=> ?_);refine tk 1 ?_;refine tk 2 ?_;refine tk 3 ?_;refine tk 4 ?_;refine tk 5 ?_;refine rd [0,6] ?_;refine rc (fun K hK=> ?_) ?_
  ·
   go_simp;refine kk hK (HS9.out _ (Below.drew (Below.refl _ _))) (fun hHeld=> ?_);clear hK K;refine rd [6] ?_;refine rcE fun K hK=> ?_;go_simp;refine HBY.out.mono ?_;rintro e w11 ⟨v3,rfl,hv3,-,hb11⟩;have hb11':Below W10.heap.size W10 w11:=⟨hb11.os,hb11.tape,hb11.output,hb11.size,hb11.block⟩;have HB11:=hZ hb11';have HV3:=hZ hv3;obtain⟨-,-,j5,-,-,-⟩:=HQY.out w11 hb11';clear hb11 hb11' hv3;refine kk hK (HS9.out _ HB11.out) (fun hHeld=> ?_);clear hK K;refine rd [7] ?_;refine rcE fun K hK=> ?_;go_simp;refine(HMI.out _ _ HB11.out HV3.out).mono ?_;rintro e w12 ⟨v4,rfl,hv4,hf4,hb12⟩;have HB12:=bTr HB11 hb12;have HV4:=hZ hv4;have HF4:=hZ (hf4.base (B':=W10.heap.size) HB11.out.size);obtain⟨-,-,i5,-,g5,-⟩:=HQY.out w12 HB12.out;clear hf4 hb12;obtain⟨A4,c4,hv4e,-⟩:=hv4;obtain⟨n4,hn4⟩:=oQ ((ofN (d+10000*R-M*q)).length);rw[hn4] at hv4e;subst hv4e;have HN4:=hZ hn4;clear hn4;refine kk hK (HS9.out _ HB12.out) (fun hHeld=> ?_);clear hK K;refine rd [8] ?_;refine rcE fun K hK=> ?_;go_simp;refine kk hK (HS9s.out _ _ HB12.out) (fun hHeld=> ?_);clear hK K;refine wpAnyH_done (by kernel_rfl) ?_ _;refine Tight.normal ?_
   gi_wp2_with fail
   have ht13:Turns (fun k=>k=b5∨k=g) W (w12.setCell ⟨b5,0,none⟩ (.slice A4 n4 c4)):=(HTT.out.trans (Turns.of_below HB12.out)).trans (Turns.setCell (Z:=fun k=>k=b5∨k=g) w12 ⟨b5,0,none⟩ _ (.inl rfl));have hbl:=HBL.out;have hle:=HLE.out;refine⟨KeepsFrom.of_turns ht13 (fun k e=>by have:=HSZ1.out;omega),KpB.of_turns ht13 ⟨by omega,by omega⟩ (fun q hq=>by have:=HA0.out q hq;exact⟨by omega,by omega⟩),.slice A4 n4 c4,?_⟩;rw[HSN.out];refine⟨ht13.boxed HI.out.bm (by omega),ht13.boxed HI.out.bq (by omega),((HQY.out w12 HB12.out).2.2.2.2.2).set _,?_,?_,HF4.out.base (by have:=HTT.out.size;omega),ht13.below HI.out.below (Nat.le_refl _) (fun k e=>by omega)⟩
   · have:=(HROW2.out.below HB12.out HROW2.out.lt).other ⟨b5,0,none⟩ (by show b5≠g;omega) (.slice A4 n4 c4)
     rw[HQE.out] at this;exact this
   · have e:d+10000*R-M*q=(d+10000*R)%M:=by
      rw[HQE.out];have:=Nat.div_add_mod (d+10000*R) M;omega
     rw[e] at HV4;exact HV4.out.set HF4.out ⟨b5,0,none⟩ (by show b5<W10.heap.size;have:=HTT.out.size;omega) _
  refine rcE fun K hK=> ?_;go_simp;refine HBY.out.mono ?_;rintro e w11 ⟨v3,rfl,hv3,-,hb11⟩;have hb11':Below W10.heap.size W10 w11:=⟨hb11.os,hb11.tape,hb11.output,hb11.size,hb11.block⟩;have HB11:=hZ hb11';have HV3:=hZ hv3;obtain⟨-,-,j5,-,-,-⟩:=HQY.out w11 hb11';clear hb11 hb11' hv3;refine kk hK (HS9.out _ HB11.out) (fun hHeld=> ?_);clear hK K;refine rd [0] ?_;refine rcE fun K hK=> ?_;go_simp;refine kk hK (HS9.out _ HB11.out) (fun hHeld=> ?_);clear hK K;refine rd [7] ?_;refine rcE fun K hK=> ?_;go_simp;refine(HMI.out _ _ HB11.out HV3.out).mono ?_;rintro e w12 ⟨v4,rfl,hv4,hf4,hb12⟩;have HB12:=bTr HB11 hb12;have HV4:=hZ hv4;have HF4:=hZ (hf4.base (B':=W10.heap.size) HB11.out.size);obtain⟨-,-,i5,-,g5,-⟩:=HQY.out w12 HB12.out;clear hf4 hb12;obtain⟨A4,c4,hv4e,-⟩:=hv4;obtain⟨n4,hn4⟩:=oQ ((ofN (d+10000*R-M*q)).length);rw[hn4] at hv4e;subst hv4e;have HN4:=hZ hn4;clear hn4;refine kk hK (HS9.out _ HB12.out) (fun hHeld=> ?_);clear hK K;refine rd [8] ?_;refine rcE fun K hK=> ?_;go_simp;refine kk hK (HS9s.out _ _ HB12.out) (fun hHeld=> ?_);clear hK K;refine wpAnyH_done (by kernel_rfl) ?_ _;refine Tight.normal ?_
  gi_wp2_with fail
  have ht13:Turns (fun k=>k=b5∨k=g) W (w12.setCell ⟨b5,0,none⟩ (.slice A4 n4 c4)):=(HTT.out.trans (Turns.of_below HB12.out)).trans (Turns.setCell (Z:=fun k=>k=b5∨k=g) w12 ⟨b5,0,none⟩ _ (.inl rfl));have hbl:=HBL.out;have hle:=HLE.out;refine⟨KeepsFrom.of_turns ht13 (fun k e=>by have:=HSZ1.out;omega),KpB.of_turns ht13 ⟨by omega,by omega⟩ (fun q hq=>by have:=HA0.out q hq;exact⟨by omega,by omega⟩),.slice A4 n4 c4,?_⟩;rw[HSN.out];refine⟨ht13.boxed HI.out.bm (by omega),ht13.boxed HI.out.bq (by omega),((HQY.out w12 HB12.out).2.2.2.2.2).set _,?_,?_,HF4.out.base (by have:=HTT.out.size;omega),ht13.below HI.out.below (Nat.le_refl _) (fun k e=>by omega)⟩
  · have:=(HROW2.out.below HB12.out HROW2.out.lt).other ⟨b5,0,none⟩ (by show b5≠g;omega) (.slice A4 n4 c4)
    rw[HQE.out] at this;exact this
  · have e:d+10000*R-M*q=(d+10000*R)%M:=by
     rw[HQE.out];have:=Nat.div_add_mod (d+10000*R) M;omega
    rw[e] at HV4;exact HV4.out.set HF4.out ⟨b5,0,none⟩ (by show b5<W10.heap.size;have:=HTT.out.size;omega) _
 case done=>
  rintro xs W hS ⟨vr,hI⟩ hK;have hinv:=ovF_inv HGL.out hM _ 0 xs rfl (by simpa using hS);obtain⟨hq,hr⟩:=hinv.done hM;obtain⟨ql,hql⟩:=oQ ((ovF l M xs).1);obtain⟨R,hRR⟩:=oQ ((ovF l M xs).2);have hlen:=(ovF_lt hM xs).2;rw[hql] at hq hI hlen;rw[hRR] at hr hI;have hX:valN l=X:=by rw[←HL.out,valN_ofN]
  rw[hX] at hq hr;have c5:=hI.br.cell;have c4:=hI.bq.cell;have f5:=hI.br.frozen;have f4:=hI.bq.frozen;obtain⟨Ar,cr',hvr,-⟩:=hI.rd;obtain⟨kr,hkr⟩:=oQ ((ofN R).length);rw[hkr] at hvr;subst hvr;have hqn:ql.length=n:=by rw[hlen];exact HL0.out
  have HTRM:=hZ (trimmed_walk (some ⟨g,0,none⟩) n ql n hqn (Nat.le_refl _) (by unfold maxLen;omega) (fun e=>by cases e) W.drew (show LAt W.drew W.drew.heap.size (some ⟨g,0,none⟩) nv ql from hI.row.sl hI.row.lt) (by omega));have HI:=hZ hI;have HQ:=hZ hq;have HR:=hZ hr;have HKK:=hZ hK;have hne:b4≠b5:=by have:=HBL.out;omega
  have HNE:=hZ hne;have HS1:=hZ hs1;clear hS hI hinv hq hr hql hRR hlen hX hkr hqn hK hne hA0 hA1 HA1 HI1 x4 HC HA hb3 hb4 hb5 hg hb1 hs1;go_wp2_with fail;have HSA:Hid (∀v,(W.drew.setCell ⟨b4,0,none⟩ v).cell? ⟨b5,0,none⟩=some (.slice Ar kr cr')):=hZ (fun v=>(World.cell?_setCell_other _ _ _ _ (fun e=>HNE.out (by cases e;rfl))).trans c5);have HSD:Hid (∀v,((W.drew.setCell ⟨b4,0,none⟩ v).setCell ⟨b5,0,none⟩ (.slice Ar kr cr')).cell? ⟨b5,0,none⟩=some (.slice Ar kr cr')):=hZ (fun v=>World.cell?_setCell_same' _ _ _ (by rw[HSA.out v];rfl));refine wp_region_noPanic ?_;refine wp_region_held_drew (S:=fun V=>V.cell? ⟨b5,0,none⟩=some (.slice Ar kr cr')) (by kernel_rfl) c5 (fun hHeld=> ?_);refine tk 2 ?_;refine rd [0] ?_;refine rcE fun K hK=> ?_;go_simp;refine kk hK (c5) (fun hHeld=> ?_);clear hK K;refine rd [1] ?_;refine rcE fun K hK=> ?_;go_simp
  go_at_call 245
  refine HTRM.out.mono ?_;rintro e w9 ⟨⟨v9,rfl,hv9,hf9⟩,rfl⟩;have HV9:=hZ hv9;obtain⟨A9,c9,hv9e,-⟩:=hv9;obtain⟨n9,hn9⟩:=oQ ((trimN ql).length);rw[hn9] at hv9e;subst hv9e;have HF9:=hZ (hf9 g (fun a n c e=>by cases e;exact Nat.le_refl _));clear hn9 hf9;refine kk hK (c5) (fun hHeld=> ?_);clear hK K;refine rd [3] ?_;refine rcE fun K hK=> ?_;go_simp;refine kk hK (HSA.out (.slice A9 n9 c9)) (fun hHeld=> ?_);clear hK K;refine rd [4] ?_;refine rcE fun K hK=> ?_;go_simp;refine kk hK (HSD.out (.slice A9 n9 c9)) (fun hHeld=> ?_);clear hK K;refine dn ?_;go_wp2_with fail;have hE:=over_end (v9:=.slice A9 n9 c9) (HI:=HI.out) (hb:=⟨by have:=HBL.out;omega,by have:=HBL.out;omega,HNE.out,by have:=HBL.out;omega,by have:=HBL.out;omega,by have:=HS1.out;have:=HBL.out;omega⟩) HV9.out HF9.out HKK.out;refine⟨by simp,.inl ⟨_,_,rfl,run_takeDeferred (hE _ (by first|exact .inl rfl|exact .inr rfl)).1,?_⟩⟩;obtain⟨-,e4,e5,e9,er,eb⟩:=hE _ (by first|exact Or.inl rfl|exact Or.inr rfl);refine⟨_,results_cell2 rfl _ _ rfl rfl Tryz.isAgg230 Tryz.isAgg230 e4 e5,_,_,rfl,?_,?_,eb⟩
  · rw[←HQ.out];exact e9
  · rw[←HR.out];exact er
 case stop=>
  rintro c pre W _ h _;exact h.elim
end Go.Proofs.YteeifhlhpiimoaaGreatDoor
end
section
namespace Go.Proofs
open Go.Shelf
open Go.RowKit in
def Tryz.lays169_ren:Go.Shelf.Ren:=⟨fun|169=>65|n=>n,fun|70=>115|9=>9|0=>0|72=>118|37=>116|127=>174|3=>3|5=>5|n=>n,fun|n=>n⟩
theorem Tryz.lays169:Go.Proofs.Lays.n169 Tryz.prog Tryz.lays169_ren:={
 mixed:=by kernel_rfl
 f169:=Tryz.func65.trans (congrArg some (by kernel_rfl))
 t0:=Tryz.underlying0
 a0:=Tryz.isAgg0
 z0:=Tryz.sizeOf0
 v0:=Tryz.zeroValue0
 t3:=Tryz.underlying3
 a3:=Tryz.isAgg3
 z3:=Tryz.sizeOf3
 v3:=Tryz.zeroValue3
 t9:=Tryz.underlying9
 a9:=Tryz.isAgg9
 z9:=Tryz.sizeOf9
 v9:=Tryz.zeroValue9
 t37:=Tryz.underlying116
 a37:=Tryz.isAgg116
 z37:=Tryz.sizeOf116
 v37:=Tryz.zeroValue116
 t70:=Tryz.underlying115
 a70:=Tryz.isAgg115
 z70:=Tryz.sizeOf115
 v70:=Tryz.zeroValue115
 t72:=Tryz.underlying118
 a72:=Tryz.isAgg118
 z72:=Tryz.sizeOf118
 v72:=Tryz.zeroValue118
 t127:=Tryz.underlying174
 a127:=Tryz.isAgg174
 z127:=Tryz.sizeOf174
 v127:=Tryz.zeroValue174}
theorem Tryz.Builder_Extra_169:Builder.Extra Tryz.prog Tryz.lays169_ren:={
 sizeBuilder:=by kernel_rfl
 liesBuilder:=by kernel_rfl
 t5:=Tryz.underlying5
 a5:=Tryz.isAgg5
 z5:=Tryz.sizeOf5
 v5:=Tryz.zeroValue5
 infoByte:=by kernel_rfl
 cellsByte:=by kernel_rfl
 sizeByte:=by kernel_rfl
 neB5:=by decide}
open Go.RowKit in
open Go.RowKit in
open Go.RowKit in
open Go.RowKit in
open Go.RowKit in
open Go.RowKit in
open Go.RowKit in
def Tryz.lays160_ren:Go.Shelf.Ren:=⟨fun|160=>263|232=>275|231=>274|227=>276|234=>278|233=>277|236=>280|235=>279|228=>287|271=>290|151=>289|197=>288|120=>303|152=>302|260=>301|137=>311|119=>312|224=>313|225=>314|217=>319|266=>320|n=>n,fun|9=>9|4=>4|3=>3|5=>5|117=>289|116=>288|0=>0|124=>292|21=>21|105=>300|46=>163|119=>322|139=>325|138=>324|n=>n,fun|3=>4|4=>5|n=>n⟩
theorem Tryz.lays160:Go.Proofs.Lays.n160 Tryz.prog Tryz.lays160_ren:={
 mixed:=by kernel_rfl
 f119:=Tryz.func312.trans (congrArg some (by kernel_rfl))
 f120:=Tryz.func303.trans (congrArg some (by kernel_rfl))
 f137:=Tryz.func311.trans (congrArg some (by kernel_rfl))
 f151:=Tryz.func289.trans (congrArg some (by kernel_rfl))
 f152:=Tryz.func302.trans (congrArg some (by kernel_rfl))
 f160:=Tryz.func263.trans (congrArg some (by kernel_rfl))
 f197:=Tryz.func288.trans (congrArg some (by kernel_rfl))
 f217:=Tryz.func319.trans (congrArg some (by kernel_rfl))
 f224:=Tryz.func313.trans (congrArg some (by kernel_rfl))
 f225:=Tryz.func314.trans (congrArg some (by kernel_rfl))
 f227:=Tryz.func276.trans (congrArg some (by kernel_rfl))
 f228:=Tryz.func287.trans (congrArg some (by kernel_rfl))
 f231:=Tryz.func274.trans (congrArg some (by kernel_rfl))
 f232:=Tryz.func275.trans (congrArg some (by kernel_rfl))
 f233:=Tryz.func277.trans (congrArg some (by kernel_rfl))
 f234:=Tryz.func278.trans (congrArg some (by kernel_rfl))
 f235:=Tryz.func279.trans (congrArg some (by kernel_rfl))
 f236:=Tryz.func280.trans (congrArg some (by kernel_rfl))
 f260:=Tryz.func301.trans (congrArg some (by kernel_rfl))
 f266:=Tryz.func320.trans (congrArg some (by kernel_rfl))
 f271:=Tryz.func290.trans (congrArg some (by kernel_rfl))
 t0:=Tryz.underlying0
 a0:=Tryz.isAgg0
 z0:=Tryz.sizeOf0
 v0:=Tryz.zeroValue0
 t3:=Tryz.underlying3
 a3:=Tryz.isAgg3
 z3:=Tryz.sizeOf3
 v3:=Tryz.zeroValue3
 t4:=Tryz.underlying4
 a4:=Tryz.isAgg4
 z4:=Tryz.sizeOf4
 v4:=Tryz.zeroValue4
 t5:=Tryz.underlying5
 a5:=Tryz.isAgg5
 z5:=Tryz.sizeOf5
 v5:=Tryz.zeroValue5
 t9:=Tryz.underlying9
 a9:=Tryz.isAgg9
 z9:=Tryz.sizeOf9
 v9:=Tryz.zeroValue9
 t21:=Tryz.underlying21
 a21:=Tryz.isAgg21
 z21:=Tryz.sizeOf21
 v21:=Tryz.zeroValue21
 t46:=Tryz.underlying163
 a46:=Tryz.isAgg163
 z46:=Tryz.sizeOf163
 v46:=Tryz.zeroValue163
 t105:=Tryz.underlying300
 a105:=Tryz.isAgg300
 z105:=Tryz.sizeOf300
 v105:=Tryz.zeroValue300
 t116:=Tryz.underlying288
 a116:=Tryz.isAgg288
 z116:=Tryz.sizeOf288
 t117:=Tryz.underlying289
 a117:=Tryz.isAgg289
 z117:=Tryz.sizeOf289
 v117:=Tryz.zeroValue289
 t119:=Tryz.underlying322
 a119:=Tryz.isAgg322
 z119:=Tryz.sizeOf322
 t124:=Tryz.underlying292
 a124:=Tryz.isAgg292
 z124:=Tryz.sizeOf292
 v124:=Tryz.zeroValue292
 t138:=Tryz.underlying324
 a138:=Tryz.isAgg324
 z138:=Tryz.sizeOf324
 v138:=Tryz.zeroValue324
 t139:=Tryz.underlying325
 a139:=Tryz.isAgg325
 z139:=Tryz.sizeOf325
 v139:=Tryz.zeroValue325
 g3:=by kernel_rfl
 g4:=by kernel_rfl}
open Go.RowKit in
open Go.RowKit in
open Go.RowKit in
open Go.RowKit in
open Go.RowKit in
open Go.RowKit in
open Go.RowKit in
open Go.RowKit in
open Go.RowKit in
theorem Tryz.Builder_String_any_k (B b:Nat) (l:List UInt8) (w:World) (h:Lib.IsBuilderF 118 5 B b (Lib.byteCells l) w) (hBw:B≤w.heap.size):
 Calls Tryz.prog 65 #[.pointer (some ⟨b,0,none⟩)] w fun e w'=>e=.returned (.string ⟨l.toArray⟩)∧(Lib.IsBuilderF 118 5 B b (Lib.byteCells l) w'∧Below B w w'∧Lib.OthersKept 5 (some b) w w'):=Any.Builder_String_any_k Tryz.lays169 Tryz.Builder_Extra_169 B b l w h hBw
open Go.RowKit in
def Tryz.lays172_ren:Go.Shelf.Ren:=⟨fun|172=>264|244=>281|245=>282|247=>291|279=>292|280=>293|281=>294|282=>295|287=>304|316=>305|171=>253|205=>306|321=>315|322=>316|243=>267|246=>283|283=>296|284=>297|285=>298|286=>299|129=>165|317=>307|318=>308|319=>309|320=>310|337=>317|338=>318|n=>n,fun|9=>9|3=>3|75=>170|76=>171|4=>4|5=>5|167=>303|37=>116|0=>0|85=>304|2=>2|168=>306|53=>203|175=>315|46=>163|210=>318|127=>174|145=>331|143=>329|21=>21|171=>309|173=>311|212=>320|51=>201|20=>20|213=>321|232=>332|233=>333|80=>123|n=>n,fun|15=>0|16=>1|17=>2|18=>6|19=>7|n=>n⟩
theorem Tryz.lays172:Go.Proofs.Lays.n172 Tryz.prog Tryz.lays172_ren:={
 mixed:=by kernel_rfl
 f129:=Tryz.func165.trans (congrArg some (by kernel_rfl))
 f171:=Tryz.func253.trans (congrArg some (by kernel_rfl))
 f172:=Tryz.func264.trans (congrArg some (by kernel_rfl))
 f205:=Tryz.func306.trans (congrArg some (by kernel_rfl))
 f243:=Tryz.func267.trans (congrArg some (by kernel_rfl))
 f244:=Tryz.func281.trans (congrArg some (by kernel_rfl))
 f245:=Tryz.func282.trans (congrArg some (by kernel_rfl))
 f246:=Tryz.func283.trans (congrArg some (by kernel_rfl))
 f247:=Tryz.func291.trans (congrArg some (by kernel_rfl))
 f279:=Tryz.func292.trans (congrArg some (by kernel_rfl))
 f280:=Tryz.func293.trans (congrArg some (by kernel_rfl))
 f281:=Tryz.func294.trans (congrArg some (by kernel_rfl))
 f282:=Tryz.func295.trans (congrArg some (by kernel_rfl))
 f283:=Tryz.func296.trans (congrArg some (by kernel_rfl))
 f284:=Tryz.func297.trans (congrArg some (by kernel_rfl))
 f285:=Tryz.func298.trans (congrArg some (by kernel_rfl))
 f286:=Tryz.func299.trans (congrArg some (by kernel_rfl))
 f287:=Tryz.func304.trans (congrArg some (by kernel_rfl))
 f316:=Tryz.func305.trans (congrArg some (by kernel_rfl))
 f317:=Tryz.func307.trans (congrArg some (by kernel_rfl))
 f318:=Tryz.func308.trans (congrArg some (by kernel_rfl))
 f319:=Tryz.func309.trans (congrArg some (by kernel_rfl))
 f320:=Tryz.func310.trans (congrArg some (by kernel_rfl))
 f321:=Tryz.func315.trans (congrArg some (by kernel_rfl))
 f322:=Tryz.func316.trans (congrArg some (by kernel_rfl))
 f337:=Tryz.func317.trans (congrArg some (by kernel_rfl))
 f338:=Tryz.func318.trans (congrArg some (by kernel_rfl))
 t0:=Tryz.underlying0
 a0:=Tryz.isAgg0
 z0:=Tryz.sizeOf0
 v0:=Tryz.zeroValue0
 t2:=Tryz.underlying2
 a2:=Tryz.isAgg2
 z2:=Tryz.sizeOf2
 v2:=Tryz.zeroValue2
 t3:=Tryz.underlying3
 a3:=Tryz.isAgg3
 z3:=Tryz.sizeOf3
 v3:=Tryz.zeroValue3
 t4:=Tryz.underlying4
 a4:=Tryz.isAgg4
 z4:=Tryz.sizeOf4
 v4:=Tryz.zeroValue4
 t5:=Tryz.underlying5
 a5:=Tryz.isAgg5
 z5:=Tryz.sizeOf5
 v5:=Tryz.zeroValue5
 t9:=Tryz.underlying9
 a9:=Tryz.isAgg9
 z9:=Tryz.sizeOf9
 v9:=Tryz.zeroValue9
 t20:=Tryz.underlying20
 a20:=Tryz.isAgg20
 z20:=Tryz.sizeOf20
 v20:=Tryz.zeroValue20
 t21:=Tryz.underlying21
 a21:=Tryz.isAgg21
 z21:=Tryz.sizeOf21
 v21:=Tryz.zeroValue21
 t37:=Tryz.underlying116
 a37:=Tryz.isAgg116
 z37:=Tryz.sizeOf116
 v37:=Tryz.zeroValue116
 t46:=Tryz.underlying163
 a46:=Tryz.isAgg163
 z46:=Tryz.sizeOf163
 v46:=Tryz.zeroValue163
 t51:=Tryz.underlying201
 a51:=Tryz.isAgg201
 z51:=Tryz.sizeOf201
 v51:=Tryz.zeroValue201
 t53:=Tryz.underlying203
 a53:=Tryz.isAgg203
 z53:=Tryz.sizeOf203
 v53:=Tryz.zeroValue203
 t75:=Tryz.underlying170
 a75:=Tryz.isAgg170
 z75:=Tryz.sizeOf170
 v75:=Tryz.zeroValue170
 t76:=Tryz.underlying171
 a76:=Tryz.isAgg171
 z76:=Tryz.sizeOf171
 v76:=Tryz.zeroValue171
 t85:=Tryz.underlying304
 a85:=Tryz.isAgg304
 z85:=Tryz.sizeOf304
 v85:=Tryz.zeroValue304
 t127:=Tryz.underlying174
 a127:=Tryz.isAgg174
 z127:=Tryz.sizeOf174
 v127:=Tryz.zeroValue174
 t143:=Tryz.underlying329
 a143:=Tryz.isAgg329
 z143:=Tryz.sizeOf329
 v143:=Tryz.zeroValue329
 t145:=Tryz.underlying331
 a145:=Tryz.isAgg331
 z145:=Tryz.sizeOf331
 v145:=Tryz.zeroValue331
 t167:=Tryz.underlying303
 a167:=Tryz.isAgg303
 z167:=Tryz.sizeOf303
 v167:=Tryz.zeroValue303
 t168:=Tryz.underlying306
 a168:=Tryz.isAgg306
 z168:=Tryz.sizeOf306
 v168:=Tryz.zeroValue306
 t171:=Tryz.underlying309
 a171:=Tryz.isAgg309
 z171:=Tryz.sizeOf309
 v171:=Tryz.zeroValue309
 t173:=Tryz.underlying311
 a173:=Tryz.isAgg311
 z173:=Tryz.sizeOf311
 v173:=Tryz.zeroValue311
 t175:=Tryz.underlying315
 a175:=Tryz.isAgg315
 z175:=Tryz.sizeOf315
 v175:=Tryz.zeroValue315
 t210:=Tryz.underlying318
 a210:=Tryz.isAgg318
 z210:=Tryz.sizeOf318
 v210:=Tryz.zeroValue318
 t212:=Tryz.underlying320
 a212:=Tryz.isAgg320
 z212:=Tryz.sizeOf320
 v212:=Tryz.zeroValue320
 t213:=Tryz.underlying321
 a213:=Tryz.isAgg321
 z213:=Tryz.sizeOf321
 t232:=Tryz.underlying332
 a232:=Tryz.isAgg332
 z232:=Tryz.sizeOf332
 v232:=Tryz.zeroValue332
 t233:=Tryz.underlying333
 a233:=Tryz.isAgg333
 z233:=Tryz.sizeOf333
 v233:=Tryz.zeroValue333
 g15:=by kernel_rfl
 g16:=by kernel_rfl
 g17:=by kernel_rfl
 g18:=by kernel_rfl
 g19:=by kernel_rfl}
open Go.RowKit in
theorem Tryz.strconv_Atoi (s:ByteArray) (n:Int) (hl:s.size≤18) (h:Lib.atoi s.data.toList=some n) (w:World):
 Calls Tryz.prog 264 #[.string s] w fun e w'=>e=.returned (.tuple #[.int .i64 n,.nilIface])∧∃t,w'=Lib.bytesWorld w 5 t:=Any.strconv_Atoi Tryz.lays172 s n hl h w
open Go.Lib in
open Go.Lib in
open Go.Lib in
open Go.Lib in
open Go.RowKit Go.Sort Go.Lib in
open Go.RowKit Go.Sort Go.Lib in
open Go.RowKit Go.Sort Go.Lib in
open Go.RowKit Go.Sort Go.Lib in
open Go.RowKit Go.Sort Go.Lib in
def Tryz.laysM171_ren:Go.Shelf.Ren:=⟨fun|171=>253|243=>267|246=>283|283=>296|284=>297|285=>298|286=>299|129=>165|317=>307|318=>308|319=>309|320=>310|337=>317|338=>318|n=>n,fun|3=>3|9=>9|2=>2|4=>4|171=>309|0=>0|53=>203|37=>116|5=>5|173=>311|212=>320|51=>201|20=>20|213=>321|46=>163|232=>332|233=>333|n=>n,fun|17=>2|18=>6|19=>7|n=>n⟩
theorem Tryz.laysM171:Go.Proofs.LaysM.n171 Tryz.prog Tryz.laysM171_ren:={
 mixed:=by kernel_rfl
 f129:=Tryz.func165.trans (congrArg some (by kernel_rfl))
 f171:=Tryz.func253.trans (congrArg some (by kernel_rfl))
 f243:=Tryz.func267.trans (congrArg some (by kernel_rfl))
 f246:=Tryz.func283.trans (congrArg some (by kernel_rfl))
 f283:=Tryz.func296.trans (congrArg some (by kernel_rfl))
 f284:=Tryz.func297.trans (congrArg some (by kernel_rfl))
 f285:=Tryz.func298.trans (congrArg some (by kernel_rfl))
 f286:=Tryz.func299.trans (congrArg some (by kernel_rfl))
 f317:=Tryz.func307.trans (congrArg some (by kernel_rfl))
 f318:=Tryz.func308.trans (congrArg some (by kernel_rfl))
 f319:=Tryz.func309.trans (congrArg some (by kernel_rfl))
 f320:=Tryz.func310.trans (congrArg some (by kernel_rfl))
 f337:=Tryz.func317.trans (congrArg some (by kernel_rfl))
 f338:=Tryz.func318.trans (congrArg some (by kernel_rfl))
 t0:=Tryz.underlying0
 a0:=Tryz.isAgg0
 z0:=Tryz.sizeOf0
 v0:=Tryz.zeroValue0
 t2:=Tryz.underlying2
 a2:=Tryz.isAgg2
 z2:=Tryz.sizeOf2
 v2:=Tryz.zeroValue2
 t3:=Tryz.underlying3
 a3:=Tryz.isAgg3
 z3:=Tryz.sizeOf3
 v3:=Tryz.zeroValue3
 t4:=Tryz.underlying4
 a4:=Tryz.isAgg4
 z4:=Tryz.sizeOf4
 v4:=Tryz.zeroValue4
 t5:=Tryz.underlying5
 a5:=Tryz.isAgg5
 z5:=Tryz.sizeOf5
 v5:=Tryz.zeroValue5
 t9:=Tryz.underlying9
 a9:=Tryz.isAgg9
 z9:=Tryz.sizeOf9
 v9:=Tryz.zeroValue9
 t20:=Tryz.underlying20
 a20:=Tryz.isAgg20
 z20:=Tryz.sizeOf20
 v20:=Tryz.zeroValue20
 t37:=Tryz.underlying116
 a37:=Tryz.isAgg116
 z37:=Tryz.sizeOf116
 v37:=Tryz.zeroValue116
 t46:=Tryz.underlying163
 a46:=Tryz.isAgg163
 z46:=Tryz.sizeOf163
 v46:=Tryz.zeroValue163
 t51:=Tryz.underlying201
 a51:=Tryz.isAgg201
 z51:=Tryz.sizeOf201
 v51:=Tryz.zeroValue201
 t53:=Tryz.underlying203
 a53:=Tryz.isAgg203
 z53:=Tryz.sizeOf203
 v53:=Tryz.zeroValue203
 t171:=Tryz.underlying309
 a171:=Tryz.isAgg309
 z171:=Tryz.sizeOf309
 v171:=Tryz.zeroValue309
 t173:=Tryz.underlying311
 a173:=Tryz.isAgg311
 z173:=Tryz.sizeOf311
 v173:=Tryz.zeroValue311
 t212:=Tryz.underlying320
 a212:=Tryz.isAgg320
 z212:=Tryz.sizeOf320
 v212:=Tryz.zeroValue320
 t213:=Tryz.underlying321
 a213:=Tryz.isAgg321
 z213:=Tryz.sizeOf321
 t232:=Tryz.underlying332
 a232:=Tryz.isAgg332
 z232:=Tryz.sizeOf332
 v232:=Tryz.zeroValue332
 t233:=Tryz.underlying333
 a233:=Tryz.isAgg333
 z233:=Tryz.sizeOf333
 v233:=Tryz.zeroValue333
 g17:=by kernel_rfl
 g18:=by kernel_rfl
 g19:=by kernel_rfl
 i0:=by kernel_rfl
 i2:=by kernel_rfl
 i3:=by kernel_rfl
 i4:=by kernel_rfl
 i5:=by kernel_rfl
 i9:=by kernel_rfl
 i20:=by kernel_rfl
 i37:=by kernel_rfl
 i46:=by kernel_rfl
 i51:=by kernel_rfl
 i53:=by kernel_rfl
 i171:=by kernel_rfl
 i173:=by kernel_rfl
 i212:=by kernel_rfl
 i232:=by kernel_rfl
 i233:=by kernel_rfl
 m17:=by kernel_rfl
 m18:=by kernel_rfl
 m19:=by kernel_rfl}
open Go.RowKit Go.Sort Go.Lib in
theorem Tryz.strconv_Itoa (n:Int) (h0: -9223372036854775808≤n) (h1:n≤9223372036854775807) (w:World) (htab:Lib.TabIs Tryz.prog w "internal/strconv.uint64pow10" .u64 Lib.pow10Tab):
 Calls Tryz.prog 253 #[.int .i64 n] w fun e w'=>e=.returned (.string ⟨(Lib.itoa n).toArray⟩)∧∃k os,w'=grow (w.drewN k) os:=Any.strconv_Itoa Tryz.laysM171 n h0 h1 w htab
open Go.RowKit Go.Sort Go.Lib in
open Go.RowKit Go.Lib in
open Go.RowKit Go.Lib in
def Tryz.lays189_ren:Go.Shelf.Ren:=⟨fun|189=>82|125=>103|257=>134|128=>164|129=>165|294=>181|295=>182|296=>183|297=>184|298=>185|299=>186|216=>187|300=>188|301=>189|328=>236|329=>225|330=>226|331=>237|332=>238|215=>104|343=>261|n=>n,fun|28=>23|3=>3|46=>163|0=>0|51=>201|53=>203|4=>4|183=>194|182=>193|131=>198|5=>5|9=>9|218=>255|222=>130|228=>276|229=>277|n=>n,fun|n=>n⟩
theorem Tryz.lays189:Go.Proofs.Lays.n189 Tryz.prog Tryz.lays189_ren:={
 mixed:=by kernel_rfl
 f125:=Tryz.func103.trans (congrArg some (by kernel_rfl))
 f128:=Tryz.func164.trans (congrArg some (by kernel_rfl))
 f129:=Tryz.func165.trans (congrArg some (by kernel_rfl))
 f189:=Tryz.func82.trans (congrArg some (by kernel_rfl))
 f215:=Tryz.func104.trans (congrArg some (by kernel_rfl))
 f216:=Tryz.func187.trans (congrArg some (by kernel_rfl))
 f257:=Tryz.func134.trans (congrArg some (by kernel_rfl))
 f294:=Tryz.func181.trans (congrArg some (by kernel_rfl))
 f295:=Tryz.func182.trans (congrArg some (by kernel_rfl))
 f296:=Tryz.func183.trans (congrArg some (by kernel_rfl))
 f297:=Tryz.func184.trans (congrArg some (by kernel_rfl))
 f298:=Tryz.func185.trans (congrArg some (by kernel_rfl))
 f299:=Tryz.func186.trans (congrArg some (by kernel_rfl))
 f300:=Tryz.func188.trans (congrArg some (by kernel_rfl))
 f301:=Tryz.func189.trans (congrArg some (by kernel_rfl))
 f328:=Tryz.func236.trans (congrArg some (by kernel_rfl))
 f329:=Tryz.func225.trans (congrArg some (by kernel_rfl))
 f330:=Tryz.func226.trans (congrArg some (by kernel_rfl))
 f331:=Tryz.func237.trans (congrArg some (by kernel_rfl))
 f332:=Tryz.func238.trans (congrArg some (by kernel_rfl))
 f343:=Tryz.func261.trans (congrArg some (by kernel_rfl))
 t0:=Tryz.underlying0
 a0:=Tryz.isAgg0
 z0:=Tryz.sizeOf0
 v0:=Tryz.zeroValue0
 t3:=Tryz.underlying3
 a3:=Tryz.isAgg3
 z3:=Tryz.sizeOf3
 v3:=Tryz.zeroValue3
 t4:=Tryz.underlying4
 a4:=Tryz.isAgg4
 z4:=Tryz.sizeOf4
 v4:=Tryz.zeroValue4
 t5:=Tryz.underlying5
 a5:=Tryz.isAgg5
 z5:=Tryz.sizeOf5
 v5:=Tryz.zeroValue5
 t9:=Tryz.underlying9
 a9:=Tryz.isAgg9
 z9:=Tryz.sizeOf9
 v9:=Tryz.zeroValue9
 t28:=Tryz.underlying23
 a28:=Tryz.isAgg23
 z28:=Tryz.sizeOf23
 v28:=Tryz.zeroValue23
 t46:=Tryz.underlying163
 a46:=Tryz.isAgg163
 z46:=Tryz.sizeOf163
 v46:=Tryz.zeroValue163
 t51:=Tryz.underlying201
 a51:=Tryz.isAgg201
 z51:=Tryz.sizeOf201
 v51:=Tryz.zeroValue201
 t53:=Tryz.underlying203
 a53:=Tryz.isAgg203
 z53:=Tryz.sizeOf203
 v53:=Tryz.zeroValue203
 t131:=Tryz.underlying198
 a131:=Tryz.isAgg198
 z131:=Tryz.sizeOf198
 v131:=Tryz.zeroValue198
 t182:=Tryz.underlying193
 a182:=Tryz.isAgg193
 z182:=Tryz.sizeOf193
 v182:=Tryz.zeroValue193
 t183:=Tryz.underlying194
 a183:=Tryz.isAgg194
 z183:=Tryz.sizeOf194
 v183:=Tryz.zeroValue194
 t218:=Tryz.underlying255
 a218:=Tryz.isAgg255
 z218:=Tryz.sizeOf255
 v218:=Tryz.zeroValue255
 t222:=Tryz.underlying130
 a222:=Tryz.isAgg130
 z222:=Tryz.sizeOf130
 v222:=Tryz.zeroValue130
 t228:=Tryz.underlying276
 a228:=Tryz.isAgg276
 z228:=Tryz.sizeOf276
 v228:=Tryz.zeroValue276
 t229:=Tryz.underlying277
 a229:=Tryz.isAgg277
 z229:=Tryz.sizeOf277
 v229:=Tryz.zeroValue277}
open Go.Sort Go.RowKit in
theorem Tryz.slices_Sort_int (blk off cap:Nat) (zs:List Int) (w:World) (hH:Holds (Value.int .i64) w blk off zs.toArray) (hblk:blk<w.heap.size) (hsz:zs.length<4611686018427387904):
 Calls Tryz.prog 82 #[.slice (some ⟨blk,off,none⟩) zs.length cap] w fun e w'=>
  e=.returned (.tuple #[])∧∃n os,w'=grow (putRow (Value.int .i64) (Sort.ahead w n) blk off (zs.mergeSort fun x y=>decide (x≤y)).toArray) os:=Any.slices_Sort_int Tryz.lays189 blk off cap zs w hH hblk hsz
open Go.RowKit Go.Lib in
def Tryz.lays99_ren:Go.Shelf.Ren:=⟨fun|99=>168|206=>229|n=>n,fun|9=>9|4=>4|3=>3|n=>n,fun|n=>n⟩
theorem Tryz.lays99:Go.Proofs.Lays.n99 Tryz.prog Tryz.lays99_ren:={
 mixed:=by kernel_rfl
 f99:=Tryz.func168.trans (congrArg some (by kernel_rfl))
 f206:=Tryz.func229.trans (congrArg some (by kernel_rfl))
 t3:=Tryz.underlying3
 a3:=Tryz.isAgg3
 z3:=Tryz.sizeOf3
 v3:=Tryz.zeroValue3
 t4:=Tryz.underlying4
 a4:=Tryz.isAgg4
 z4:=Tryz.sizeOf4
 v4:=Tryz.zeroValue4
 t9:=Tryz.underlying9
 a9:=Tryz.isAgg9
 z9:=Tryz.sizeOf9
 v9:=Tryz.zeroValue9}
open Go.RowKit Go.Lib in
theorem Tryz.strings_HasPrefix (s p:ByteArray) (w:World):
 Calls Tryz.prog 168 #[.string s,.string p] w fun e w'=>e=.returned (.bool (Lib.hasPrefix s.data.toList p.data.toList))∧w'=w:=Any.strings_HasPrefix Tryz.lays99 s p w
open Go.RowKit Go.Lib in
def Tryz.lays101_ren:Go.Shelf.Ren:=⟨fun|101=>139|208=>202|206=>229|n=>n,fun|9=>9|4=>4|3=>3|n=>n,fun|n=>n⟩
theorem Tryz.lays101:Go.Proofs.Lays.n101 Tryz.prog Tryz.lays101_ren:={
 mixed:=by kernel_rfl
 f101:=Tryz.func139.trans (congrArg some (by kernel_rfl))
 f206:=Tryz.func229.trans (congrArg some (by kernel_rfl))
 f208:=Tryz.func202.trans (congrArg some (by kernel_rfl))
 t3:=Tryz.underlying3
 a3:=Tryz.isAgg3
 z3:=Tryz.sizeOf3
 v3:=Tryz.zeroValue3
 t4:=Tryz.underlying4
 a4:=Tryz.isAgg4
 z4:=Tryz.sizeOf4
 v4:=Tryz.zeroValue4
 t9:=Tryz.underlying9
 a9:=Tryz.isAgg9
 z9:=Tryz.sizeOf9
 v9:=Tryz.zeroValue9}
open Go.RowKit Go.Lib in
theorem Tryz.strings_TrimPrefix (s p:ByteArray) (w:World):
 Calls Tryz.prog 139 #[.string s,.string p] w fun e w'=>e=.returned (.string ⟨(Lib.trimPrefix s.data.toList p.data.toList).toArray⟩)∧w'=w:=Any.strings_TrimPrefix Tryz.lays101 s p w
open Go.RowKit Go.Lib in
open Go.RowKit Go.Lib in
open Go.RowKit Go.Lib in
open Go.RowKit Go.Lib in
open Go.RowKit Go.Lib in
open Go.RowKit Go.Lib in
def Tryz.lays105_ren:Go.Shelf.Ren:=⟨fun|105=>254|212=>268|99=>168|165=>269|166=>123|170=>270|169=>65|263=>284|264=>285|206=>229|240=>170|241=>286|276=>231|277=>300|n=>n,fun|9=>9|3=>3|4=>4|20=>20|0=>0|46=>163|109=>282|5=>5|72=>118|76=>171|51=>201|146=>295|53=>203|148=>297|70=>115|37=>116|75=>170|127=>174|164=>261|80=>123|n=>n,fun|n=>n⟩
theorem Tryz.lays105:Go.Proofs.Lays.n105 Tryz.prog Tryz.lays105_ren:={
 mixed:=by kernel_rfl
 f99:=Tryz.func168.trans (congrArg some (by kernel_rfl))
 f105:=Tryz.func254.trans (congrArg some (by kernel_rfl))
 f165:=Tryz.func269.trans (congrArg some (by kernel_rfl))
 f166:=Tryz.func123.trans (congrArg some (by kernel_rfl))
 f169:=Tryz.func65.trans (congrArg some (by kernel_rfl))
 f170:=Tryz.func270.trans (congrArg some (by kernel_rfl))
 f206:=Tryz.func229.trans (congrArg some (by kernel_rfl))
 f212:=Tryz.func268.trans (congrArg some (by kernel_rfl))
 f240:=Tryz.func170.trans (congrArg some (by kernel_rfl))
 f241:=Tryz.func286.trans (congrArg some (by kernel_rfl))
 f263:=Tryz.func284.trans (congrArg some (by kernel_rfl))
 f264:=Tryz.func285.trans (congrArg some (by kernel_rfl))
 f276:=Tryz.func231.trans (congrArg some (by kernel_rfl))
 f277:=Tryz.func300.trans (congrArg some (by kernel_rfl))
 t0:=Tryz.underlying0
 a0:=Tryz.isAgg0
 z0:=Tryz.sizeOf0
 v0:=Tryz.zeroValue0
 t3:=Tryz.underlying3
 a3:=Tryz.isAgg3
 z3:=Tryz.sizeOf3
 v3:=Tryz.zeroValue3
 t4:=Tryz.underlying4
 a4:=Tryz.isAgg4
 z4:=Tryz.sizeOf4
 v4:=Tryz.zeroValue4
 t5:=Tryz.underlying5
 a5:=Tryz.isAgg5
 z5:=Tryz.sizeOf5
 v5:=Tryz.zeroValue5
 t9:=Tryz.underlying9
 a9:=Tryz.isAgg9
 z9:=Tryz.sizeOf9
 v9:=Tryz.zeroValue9
 t20:=Tryz.underlying20
 a20:=Tryz.isAgg20
 z20:=Tryz.sizeOf20
 v20:=Tryz.zeroValue20
 t37:=Tryz.underlying116
 a37:=Tryz.isAgg116
 z37:=Tryz.sizeOf116
 v37:=Tryz.zeroValue116
 t46:=Tryz.underlying163
 a46:=Tryz.isAgg163
 z46:=Tryz.sizeOf163
 v46:=Tryz.zeroValue163
 t51:=Tryz.underlying201
 a51:=Tryz.isAgg201
 z51:=Tryz.sizeOf201
 v51:=Tryz.zeroValue201
 t53:=Tryz.underlying203
 a53:=Tryz.isAgg203
 z53:=Tryz.sizeOf203
 v53:=Tryz.zeroValue203
 t70:=Tryz.underlying115
 a70:=Tryz.isAgg115
 z70:=Tryz.sizeOf115
 v70:=Tryz.zeroValue115
 t72:=Tryz.underlying118
 a72:=Tryz.isAgg118
 z72:=Tryz.sizeOf118
 v72:=Tryz.zeroValue118
 t75:=Tryz.underlying170
 a75:=Tryz.isAgg170
 z75:=Tryz.sizeOf170
 v75:=Tryz.zeroValue170
 t76:=Tryz.underlying171
 a76:=Tryz.isAgg171
 z76:=Tryz.sizeOf171
 v76:=Tryz.zeroValue171
 t109:=Tryz.underlying282
 a109:=Tryz.isAgg282
 z109:=Tryz.sizeOf282
 v109:=Tryz.zeroValue282
 t127:=Tryz.underlying174
 a127:=Tryz.isAgg174
 z127:=Tryz.sizeOf174
 v127:=Tryz.zeroValue174
 t146:=Tryz.underlying295
 a146:=Tryz.isAgg295
 z146:=Tryz.sizeOf295
 v146:=Tryz.zeroValue295
 t148:=Tryz.underlying297
 a148:=Tryz.isAgg297
 z148:=Tryz.sizeOf297
 v148:=Tryz.zeroValue297
 t164:=Tryz.underlying261
 a164:=Tryz.isAgg261
 z164:=Tryz.sizeOf261
 v164:=Tryz.zeroValue261}
theorem Tryz.Builder_Extra_105:Builder.Extra Tryz.prog Tryz.lays105_ren:={
 sizeBuilder:=by kernel_rfl
 liesBuilder:=by kernel_rfl
 t5:=Tryz.underlying5
 a5:=Tryz.isAgg5
 z5:=Tryz.sizeOf5
 v5:=Tryz.zeroValue5
 infoByte:=by kernel_rfl
 cellsByte:=by kernel_rfl
 sizeByte:=by kernel_rfl
 neB5:=by decide}
open Go.RowKit Go.Lib in
open Go.RowKit Go.Lib in
open Go.RowKit Go.Lib in
open Go.RowKit Go.Lib in
open Go.RowKit Go.Lib in
open Go.RowKit Go.Lib in
open Go.RowKit Go.Lib in
theorem Tryz.strings_Repeat (s:ByteArray) (c:Nat) (w:World) (hc:c≤9223372036854775807) (hlen:s.size*c≤140737488355328):
 Calls Tryz.prog 254 #[.string s,.int .i64 c] w fun e w'=>e=.returned (.string ⟨(Lib.repeatL s.data.toList c).toArray⟩)∧Below w.heap.size w w':=Any.strings_Repeat Tryz.lays105 Tryz.Builder_Extra_105 s c w hc hlen
open Go.RowKit Go.Lib in
def Tryz.laysNm220_ren:Go.Shelf.Ren:=⟨fun|20=>83|n=>n,fun|22=>23|3=>3|4=>4|0=>0|n=>n,fun|n=>n⟩
theorem Tryz.laysNm220:Go.Proofs.Lays2.n20 Tryz.prog Tryz.laysNm220_ren:={
 mixed:=by kernel_rfl
 f20:=Tryz.func83.trans (congrArg some (by kernel_rfl))
 t0:=Tryz.underlying0
 a0:=Tryz.isAgg0
 z0:=Tryz.sizeOf0
 v0:=Tryz.zeroValue0
 t3:=Tryz.underlying3
 a3:=Tryz.isAgg3
 z3:=Tryz.sizeOf3
 v3:=Tryz.zeroValue3
 t4:=Tryz.underlying4
 a4:=Tryz.isAgg4
 z4:=Tryz.sizeOf4
 v4:=Tryz.zeroValue4
 t22:=Tryz.underlying23
 a22:=Tryz.isAgg23
 z22:=Tryz.sizeOf23
 v22:=Tryz.zeroValue23
 i3:=by kernel_rfl}
open Go.RowKit Go.Lib Go.Sort in
open Go.RowKit Go.Lib Go.Sort in
theorem Tryz.slices_Compact_int (blk off cap:Nat) (zs:List Int) (w:World) (hH:Holds (Value.int .i64) w blk off zs.toArray) (hsz:zs.length≤9223372036854775807) (hcap:zs.length≤cap):
 Calls Tryz.prog 83 #[.slice (some ⟨blk,off,none⟩) zs.length cap] w fun e w'=>e=.returned (.slice (some ⟨blk,off,none⟩) (Lib.compact zs).length cap)∧∃q,w'=putRow (Value.int .i64) (Sort.ahead w q) blk off (Lib.compact zs++List.replicate (zs.length-(Lib.compact zs).length) 0).toArray:=Any.slices_Compact_int Tryz.laysNm220 blk off cap zs w hH hsz hcap
open Go.RowKit Go.Lib Go.Sort in
theorem Tryz.slices_Compact_int_empty (a:Option Addr) (cap:Nat) (w:World):
 Calls Tryz.prog 83 #[.slice a 0 cap] w fun e w'=>e=.returned (.slice a 0 cap)∧w'=w:=Any.slices_Compact_int_empty Tryz.laysNm220 a cap w
open Go.RowKit Go.Sort in
theorem Tryz.slices_Sort_int_none (p:Option Addr) (cap:Nat) (w:World):
 Calls Tryz.prog 82 #[.slice p 0 cap] w fun e w'=>e=.returned (.tuple #[])∧w'=w:=Any.slices_Sort_int_none Tryz.lays189 p cap w
end Go.Proofs
end
section
namespace Go.Proofs.YteeifhlhpiimoaaGreatDoor
open Go
def dig10 (c:UInt8):Bool:=decide (48≤c.toNat∧c.toNat≤57)
def digN (c:UInt8):Nat:=c.toNat%48
def decV:Nat→List UInt8→Nat
 |a,[]=>a
 |a,c::l=>decV (a*10+digN c) l
def decS (n:Nat):List UInt8:=if n<10 then[UInt8.ofNat (48+n)] else decS (n/10)++[UInt8.ofNat (48+n%10)]
termination_by n
decreasing_by omega
theorem decV_app (a:Nat) (l m:List UInt8):decV a (l++m)=decV (decV a l) m:=by
 induction l generalizing a with
 |nil=>rfl
 |cons c l ih=>exact ih _
theorem decV_split (a:Nat) (l:List UInt8):decV a l=a*10^l.length+decV 0 l:=by
 induction l generalizing a with
 |nil=>simp[decV]
 | cons c l ih=>
   rw[decV,ih,decV,ih (0*10+digN c),List.length_cons,Nat.pow_succ];simp only[Nat.add_mul,Nat.zero_mul,Nat.zero_add,Nat.mul_assoc,Nat.mul_comm (10^l.length) 10,Nat.add_assoc]
theorem toNat_dig {n:Nat} (h:n<10):(UInt8.ofNat (48+n)).toNat=48+n:=by
 rw[UInt8.toNat_ofNat'];omega
theorem digN_of {n:Nat} (h:n<10):digN (UInt8.ofNat (48+n))=n:=by unfold digN;rw[toNat_dig h];omega
theorem decS_lt {n:Nat} (h:n<10):decS n=[UInt8.ofNat (48+n)]:=by rw[decS,if_pos h]
theorem decS_ge {n:Nat} (h:10≤n):decS n=decS (n/10)++[UInt8.ofNat (48+n%10)]:=by rw[decS,if_neg (by omega)]
theorem decV_decS (n:Nat):decV 0 (decS n)=n:=by
 induction n using Nat.strongRecOn with
 | ind n ih=>
   rcases Nat.lt_or_ge n 10 with h|h
   · rw[decS_lt h,decV,digN_of h,decV];omega
   · rw[decS_ge h,decV_app,ih (n/10) (by omega),decV,digN_of (by omega),decV];omega
theorem decS_dig (n:Nat):∀c∈decS n,dig10 c=true:=by
 induction n using Nat.strongRecOn with
 | ind n ih=>
   intro c hc;rcases Nat.lt_or_ge n 10 with h|h
   · rw[decS_lt h] at hc
     rw[List.mem_singleton.1 hc];unfold dig10;rw[toNat_dig h];simp;omega
   · rw[decS_ge h] at hc
     rcases List.mem_append.1 hc with q|q
     · exact ih (n/10) (by omega) c q
     · rw[List.mem_singleton.1 q]
       unfold dig10;rw[toNat_dig (by omega)];simp;omega
theorem decS_decV:∀(k:Nat) (l:List UInt8),l.length=k→l≠[]→(∀c∈l,dig10 c=true)→(l.length=1∨∀c∈l.head?,c≠48)→decS (decV 0 l)=l:=by
 intro k
 induction k with
 |zero=>intro l h hn;exact(hn (List.length_eq_zero_iff.1 h)).elim
 | succ k ih=>
   intro l hl hn hd hz;obtain⟨m,c,rfl⟩:∃m c,l=m++[c]:=⟨l.dropLast,l.getLast hn,(List.dropLast_concat_getLast hn).symm⟩;have hc:=hd c (by simp);unfold dig10 at hc;simp only[decide_eq_true_eq] at hc;have hq9:digN c≤9:=by unfold digN;omega
   have ec:UInt8.ofNat (48+digN c)=c:=by
    apply UInt8.toNat_inj.1;rw[UInt8.toNat_ofNat'];unfold digN;omega
   rw[decV_app,decV,decV]
   by_cases hm:m=[]
   · subst hm
     rw[decV,Nat.zero_mul,Nat.zero_add,decS_lt (by omega),ec];rfl
   · have hml:0<m.length:=List.length_pos_iff.2 hm
     have hhead:∀b∈m.head?,b≠48:=fun b hb=>by
      rcases hz with q|q
      · rw[List.length_append] at q;simp only[List.length_cons,List.length_nil] at q;omega
      · refine q b ?_
        cases m with
        |nil=>exact(hm rfl).elim
        |cons x m=>exact hb
     have ihm:=ih m (by simp at hl;omega) hm (fun b hb=>hd b (by simp[hb])) (.inr hhead)
     have hpos:0<decV 0 m:=by
      cases m with
      |nil=>exact(hm rfl).elim
      | cons x m=>
        have hx:=hd x (by simp);have hx48:=hhead x rfl;unfold dig10 at hx;simp only[decide_eq_true_eq] at hx;have:x.toNat≠48:=fun e=>hx48 (UInt8.toNat_inj.1 e);rw[decV,decV_split];have:0<10^m.length:=Nat.pow_pos (by decide);have h3:1*10^m.length≤(0*10+digN x)*10^m.length:=Nat.mul_le_mul_right _ (by unfold digN;omega);omega
     rw[decS_ge (by omega),show(decV 0 m*10+digN c)/10=decV 0 m by omega,ihm,show(decV 0 m*10+digN c)%10=digN c by omega,ec]
def grp4 (l:List UInt8):List Nat:=if l.length=0 then[] else decV 0 (l.drop (l.length-4))::grp4 (l.take (l.length-4))
termination_by l.length
decreasing_by rw[List.length_take];omega
theorem decV_lt (l:List UInt8) (h:∀c∈l,dig10 c=true):decV 0 l<10^l.length:=by
 induction l with
 |nil=>rw[decV];decide
 | cons c l ih=>
   have hc:=h c (by simp);unfold dig10 at hc;simp only[decide_eq_true_eq] at hc;have:=ih fun d hd=>h d (by simp[hd]);rw[decV,decV_split,List.length_cons,Nat.pow_succ];(have h9:digN c≤9:=by unfold digN;omega);have h3:(0*10+digN c)*10^l.length≤9*10^l.length:=Nat.mul_le_mul_right _ (by omega);omega
theorem grp4_val:∀(k:Nat) (l:List UInt8),l.length=k→(∀c∈l,dig10 c=true)→valN (grp4 l)=decV 0 l∧Grp (grp4 l):=by
 intro k
 induction k using Nat.strongRecOn with
 | ind k ih=>
   intro l hl hd;rw[grp4]
   by_cases h0:l.length=0
   · rw[if_pos h0]
     obtain rfl:=List.length_eq_zero_iff.1 h0;exact⟨rfl,fun d hd=>by cases hd⟩
   · rw [if_neg h0]
     (have ht:(l.take (l.length-4)).length=l.length-4:=by rw[List.length_take];omega);obtain⟨i1,i2⟩:=ih (l.length-4) (by omega) (l.take (l.length-4)) ht fun c hc=>hd c (List.mem_of_mem_take hc);have hdd:∀c∈l.drop (l.length-4),dig10 c=true:=fun c hc=>hd c (List.mem_of_mem_drop hc);have hb:=decV_lt _ hdd;have hlen:(l.drop (l.length-4)).length=l.length-(l.length-4):=List.length_drop;have hb4:decV 0 (l.drop (l.length-4))<10000:=Nat.lt_of_lt_of_le hb (Nat.le_trans (Nat.pow_le_pow_right (by decide) (show _≤4 by rw[hlen];omega)) (by decide));refine⟨?_,fun d hd'=> ?_⟩
     · rw[valN,i1]
       have e:decV 0 l=decV 0 (l.take (l.length-4))*10^(l.length-(l.length-4))+decV 0 (l.drop (l.length-4)):=by
        conv=>lhs;rw[←List.take_append_drop (l.length-4) l]
        rw[decV_app,decV_split,hlen]
       rw[e]
       by_cases h4:4≤l.length
       · rw[show l.length-(l.length-4)=4 by omega];omega
       · have:l.take (l.length-4)=[]:=by rw[show l.length-4=0 by omega];rfl
         rw[this,decV];omega
     · rcases List.mem_cons.1 hd' with rfl|q
       · exact hb4
       · exact i2 d q
theorem grp4_of {l:List UInt8} (hd:∀c∈l,dig10 c=true):trimN (grp4 l)=ofN (decV 0 l):=by
 obtain⟨h1,h2⟩:=grp4_val _ l rfl hd;rw[←ofN_valN h2,h1]
def intS (z:Int):List UInt8:=if z<0 then 45::decS z.natAbs else decS z.natAbs
theorem decS_ne (n:Nat):decS n≠[]:=by
 intro h;rcases Nat.lt_or_ge n 10 with q|q
 · rw[decS_lt q] at h;cases h
 · rw[decS_ge q] at h;simp at h
theorem decS_head {n:Nat} (h:0<n):∀c∈(decS n).head?,c≠48:=by
 induction n using Nat.strongRecOn with
 | ind n ih=>
   intro c hc;rcases Nat.lt_or_ge n 10 with q|q
   · rw[decS_lt q] at hc
     cases hc;intro e;have:=congrArg UInt8.toNat e;rw[toNat_dig q] at this;have h48:(48:UInt8).toNat=48:=rfl;omega
   · rw[decS_ge q] at hc
     refine ih (n/10) (by omega) (by omega) c ?_
     cases hd:decS (n/10) with
     |nil=>exact(decS_ne _ hd).elim
     |cons x m=>rw[hd] at hc;exact hc
def pad4 (d:Nat):List UInt8:=List.replicate (4-(decS d).length) 48++decS d
theorem decS_len:∀(k n:Nat),0<k→n<10^k→(decS n).length≤k:=by
 intro k
 induction k with
 |zero=>intro n h;omega
 | succ k ih=>
   intro n _ h;rcases Nat.lt_or_ge n 10 with q|q
   · rw[decS_lt q];simp
   · have hk:0<k:=by
      rcases Nat.eq_zero_or_pos k with rfl|hk
      · simp at h;omega
      · exact hk
     rw[Nat.pow_succ] at h;have:=ih (n/10) hk (by omega);rw[decS_ge q,List.length_append];simp only[List.length_cons,List.length_nil];omega
theorem decV_zeros (a k:Nat):decV a (List.replicate k 48)=a*10^k:=by
 induction k generalizing a with
 |zero=>rw[List.replicate_zero,decV,Nat.pow_zero,Nat.mul_one]
 | succ k ih=>
   (have h0:digN 48=0:=by decide);rw[List.replicate_succ,decV,ih,h0,Nat.add_zero,Nat.pow_succ,Nat.mul_assoc,Nat.mul_comm 10]
theorem decV_pad4 (a:Nat) {d:Nat} (hd:d<10000):decV a (pad4 d)=a*10000+d:=by
 have hl:=decS_len 4 d (by decide) (by omega);unfold pad4;rw[decV_app,decV_zeros,decV_split,decV_decS,Nat.mul_assoc,←Nat.pow_add,show 4-(decS d).length+(decS d).length=4 by omega]
theorem pad4_dig (d:Nat):∀c∈pad4 d,dig10 c=true:=fun c hc=>by
 unfold pad4 at hc;rcases List.mem_append.1 hc with q|q
 · rw[List.eq_of_mem_replicate q];decide
 · exact decS_dig d c q
def downV (a:Nat):List Nat→Nat
 |[]=>a
 |d::l=>downV (a*10000+d) l
theorem decV_down (a:Nat) {l:List Nat} (h:Grp l):decV a (l.flatMap pad4)=downV a l:=by
 induction l generalizing a with
 |nil=>rw[List.flatMap_nil,decV,downV]
 |cons d l ih=>rw[List.flatMap_cons,decV_app,decV_pad4 a (h d (by simp)),downV,ih _ (fun x hx=>h x (by simp[hx]))]
theorem valN_rev (l:List Nat):∀a,downV a l=a*10000^l.length+valN l.reverse:=by
 induction l with
 |nil=>intro a;rw[downV];simp[valN]
 | cons d l ih=>
   intro a;rw[downV,ih,List.reverse_cons,valN_append,List.length_reverse,List.length_cons,Nat.pow_succ,valN,valN,Nat.add_mul,Nat.mul_zero,Nat.add_zero,Nat.mul_assoc,Nat.mul_comm 10000,Nat.mul_comm d];omega
theorem text_eq {top:Nat} {rest:List Nat} (h0:0<top) (h:Grp rest):decS top++rest.flatMap pad4=decS (valN (top::rest).reverse):=by
 have hv:decV 0 (decS top++rest.flatMap pad4)=valN (top::rest).reverse:=by
  rw[decV_app,decV_decS,decV_down _ h];have:=valN_rev (top::rest) 0;rw[downV,Nat.zero_mul,Nat.zero_add,Nat.zero_mul,Nat.zero_add] at this;exact this
 have hne:decS top++rest.flatMap pad4≠[]:=fun e=>decS_ne top (List.append_eq_nil_iff.1 e).1
 have hd:∀c∈decS top++rest.flatMap pad4,dig10 c=true:=fun c hc=>by
  rcases List.mem_append.1 hc with q|q
  · exact decS_dig top c q
  · obtain⟨d,-,q2⟩:=List.mem_flatMap.1 q
    exact pad4_dig d c q2
 rw[←hv];refine(decS_decV _ _ rfl hne hd (.inr fun c hc=> ?_)).symm;refine decS_head h0 c ?_
 cases e:decS top with
 |nil=>exact(decS_ne _ e).elim
 |cons x m=>rw[e] at hc;exact hc
def stripM:List UInt8→List UInt8
 |[]=>[]
 |c::l=>if c=45 then l else c::l
theorem strip_cons (c:UInt8) (l:List UInt8):stripM (c::l)=if c=45 then l else c::l:=rfl
def validI (l:List UInt8):Bool:=decide (stripM l≠[])&&decide ((stripM l).length≤200)&&(stripM l).all dig10&&(decide (l=[48])||decide ((stripM l).head?≠some 48))
def valI (l:List UInt8):Int:=if l.head?=some 45 then -(decV 0 (stripM l):Int) else decV 0 (stripM l)
theorem decV_pos {l:List UInt8} (hn:l≠[]) (hd:∀c∈l,dig10 c=true) (hh:l.head?≠some 48):0<decV 0 l:=by
 cases l with
 |nil=>exact(hn rfl).elim
 | cons x m=>
   have hx:=hd x (by simp);unfold dig10 at hx;simp only[decide_eq_true_eq] at hx;have:x.toNat≠48:=fun e=>hh (by rw[List.head?_cons];congr 1;exact UInt8.toNat_inj.1 e);rw[decV,decV_split];have h0:0<10^m.length:=Nat.pow_pos (by decide);have h3:1*10^m.length≤(0*10+digN x)*10^m.length:=Nat.mul_le_mul_right _ (by unfold digN;omega);omega
theorem decS_of {l:List UInt8} (hn:l≠[]) (hd:∀c∈l,dig10 c=true) (hh:l.head?≠some 48):decS (decV 0 l)=l:=
 decS_decV _ l rfl hn hd (.inr fun c hc e=>hh (by rw[e] at hc;exact hc))
theorem digits_head {l:List UInt8} (hd:∀c∈l,dig10 c=true):l.head?≠some 45:=fun h=>by
 cases l with
 |nil=>cases h
 | cons x m=>
   rw[List.head?_cons] at h;have:=hd x (by simp);rw[Option.some.inj h] at this;exact absurd this (by decide)
theorem strip_digits {l:List UInt8} (hd:∀c∈l,dig10 c=true):stripM l=l:=by
 cases l with
 |nil=>rfl
 | cons x m=>
   rw[strip_cons,if_neg];rintro rfl;exact digits_head hd rfl
theorem valid_text {l:List UInt8} (h:validI l=true):intS (valI l)=l∧(decS (valI l).natAbs).length≤200:=by
 unfold validI at h;simp only[Bool.and_eq_true,Bool.or_eq_true,decide_eq_true_eq,List.all_eq_true] at h;obtain⟨⟨⟨h1,h2⟩,h3⟩,h4⟩:=h;unfold valI intS
 by_cases hm:l.head?=some 45
 · rw[if_pos hm]
   obtain⟨m,rfl⟩:∃m,l=45::m:=by
    cases l with
    |nil=>cases hm
    |cons x m=>rw[List.head?_cons] at hm;exact⟨m,by rw[Option.some.inj hm]⟩
   (have hs:stripM (45::m)=m:=by rw[strip_cons,if_pos rfl]);rw[hs] at h1 h2 h3 h4⊢
   have hh:m.head?≠some 48:=by
    rcases h4 with e|e
    · cases e
    · exact e
   have hp:=decV_pos h1 h3 hh;rw[if_pos (by omega),show(-(decV 0 m:Int)).natAbs=decV 0 m by omega,decS_of h1 h3 hh];exact⟨rfl,h2⟩
 · rw [if_neg hm]
   have hs:stripM l=l:=by
    cases l with
    |nil=>rfl
    | cons x m=>
      rw[strip_cons,if_neg];rintro rfl;exact hm rfl
   rw[hs] at h1 h2 h3 h4⊢;rw[if_neg (by omega),Int.natAbs_natCast];rcases h4 with rfl|e
   · have:decV 0 [48]=0:=by rw[decV,decV];decide
     rw[this,decS_lt (by decide)];exact⟨rfl,by decide⟩
   · rw[decS_of h1 h3 e]
     exact⟨rfl,h2⟩
theorem text_valid {z:Int} (h:(decS z.natAbs).length≤200):validI (intS z)=true∧valI (intS z)=z:=by
 have hd:=decS_dig z.natAbs;have hn:=decS_ne z.natAbs;unfold intS
 by_cases hz:z<0
 · rw[if_pos hz]
   (have hs:stripM (45::decS z.natAbs)=decS z.natAbs:=by rw[strip_cons,if_pos rfl]);have hh:(decS z.natAbs).head?≠some 48:=fun e=>decS_head (n:=z.natAbs) (by omega) 48 e rfl;unfold validI valI;rw[hs];refine⟨?_,?_⟩
   · simp only[Bool.and_eq_true,Bool.or_eq_true,decide_eq_true_eq,List.all_eq_true]
     exact⟨⟨⟨hn,h⟩,hd⟩,.inr hh⟩
   · rw[List.head?_cons,if_pos rfl,decV_decS];omega
 · rw[if_neg hz]
   unfold validI valI;rw[strip_digits hd];refine⟨?_,?_⟩
   · simp only[Bool.and_eq_true,Bool.or_eq_true,decide_eq_true_eq,List.all_eq_true]
     refine⟨⟨⟨hn,h⟩,hd⟩,?_⟩;rcases Nat.eq_zero_or_pos z.natAbs with q|q
     · left;rw[q,decS_lt (by decide)];rfl
     · right;exact fun e=>decS_head q 48 e rfl
   · rw[if_neg (digits_head hd),decV_decS];omega
end Go.Proofs.YteeifhlhpiimoaaGreatDoor
end
