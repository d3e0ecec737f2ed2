/-
  Towards package drift's At: the tightest bounds, plainly; a store of a ratio into an interval. Contract of package drift's At at histories of twelfths. What Some makes is valid: plainly. Conditions: integers of 64 bits. What Some makes is a valid entry: plainly. Condition: none. What Some makes is a valid entry: plainly, the kinds with fractions. Condition: none. A further entry with the greatest version replaces the one with its key: plainly. No condition. More of what Some makes; a list's elements found: plainly. No condition.
-/
import Derived.Test.YteeifhlhpiimoaaGreatDoorZAs
import Derived.Test.YteeifhlhpiimoaaGreatDoorZAa
import Derived.Test.YteeifhlhpiimoaaGreatDoorZAq
set_option maxHeartbeats 8000000
set_option maxRecDepth 100000
section
namespace Go.Proofs.YteeifhlhpiimoaaGreatDoor
open Go Go.RowKit Go.Shelf
attribute [local go_sem] Oper.semAt_some
def loF (t:Int) (d:D3):Int:=d.lo-3*((t-d.tm).natAbs:Int)
def hiF (t:Int) (d:D3):Int:=d.hi+3*((t-d.tm).natAbs:Int)
theorem loF_s {t:Int} {d:D3} (h:d.Ok) (h0:0≤t) (h1:t≤1000):S12 (loF t d):=by have:=h.lo;have:=h.t0;have:=h.t1;unfold loF S12;omega
theorem hiF_s {t:Int} {d:D3} (h:d.Ok) (h0:0≤t) (h1:t≤1000):S12 (hiF t d):=by have:=h.hi;have:=h.t0;have:=h.t1;unfold hiF S12;omega
structure AccI (t:Int) (l:List D3) (L H:Int):Prop where
 lo1:∃d∈l,L=loF t d
 lo2:∀d∈l,loF t d≤L
 hi1:∃d∈l,H=hiF t d
 hi2:∀d∈l,H≤hiF t d
theorem AccI.one (t:Int) (d:D3):AccI t [d] (loF t d) (hiF t d):=⟨⟨d,by simp,rfl⟩,by simp,⟨d,by simp,rfl⟩,by simp⟩
theorem AccI.snoc {t L H:Int} {l:List D3} (h:AccI t l L H) (d:D3):AccI t (l++[d]) (if decide (L<loF t d) then loF t d else L) (if decide (hiF t d<H) then hiF t d else H):=by
 obtain⟨⟨a,ha,ea⟩,h2,⟨b,hb,eb⟩,h4⟩:=h;refine⟨?_,fun x hx=> ?_,?_,fun x hx=> ?_⟩
 · by_cases hc:L<loF t d
   · exact⟨d,by simp,by simp[hc]⟩
   · exact⟨a,by simp[ha],by rw[if_neg (by simpa using hc)];exact ea⟩
 · rcases List.mem_append.1 hx with hx|hx
   · have:=h2 x hx;by_cases hc:L<loF t d<;>simp[hc]<;>omega
   · rw[List.mem_singleton.1 hx];by_cases hc:L<loF t d<;>simp[hc];omega
 · by_cases hc:hiF t d<H
   · exact⟨d,by simp,by simp[hc]⟩
   · exact⟨b,by simp[hb],by rw[if_neg (by simpa using hc)];exact eb⟩
 · rcases List.mem_append.1 hx with hx|hx
   · have:=h4 x hx;by_cases hc:hiF t d<H<;>simp[hc]<;>omega
   · rw[List.mem_singleton.1 hx];by_cases hc:hiF t d<H<;>simp[hc];omega
theorem AccI.sl {t L H:Int} {l:List D3} (h:AccI t l L H) (hk:∀d∈l,d.Ok) (h0:0≤t) (h1:t≤1000):S12 L∧S12 H:=by
 obtain⟨⟨a,ha,ea⟩,h2,⟨b,hb,eb⟩,h4⟩:=h;exact⟨ea▸loF_s (hk a ha) h0 h1,eb▸hiF_s (hk b hb) h0 h1⟩
theorem set2_lo {V:World} {b:Nat} {c0 c1 c2 c3:Value} {T:TypeId} (h:V.heap[b]?=some (.cells #[c0,c1,c2,c3] T (0,0))) (u v:Value):(V.setCells b 0 [u,v]).heap[b]?=some (.cells #[u,v,c2,c3] T (0,0))∧Turns (fun k=>k=b) V (V.setCells b 0 [u,v]):=by
 have h1:=heap_setCell_same V b 0 _ _ u h;have h2:=heap_setCell_same (V.setCell ⟨b,0,none⟩ u) b 1 _ _ v h1;have t1:Turns (fun k=>k=b) V (V.setCell ⟨b,0,none⟩ u):=Turns.setCell _ _ _ rfl;have t2:Turns (fun k=>k=b) (V.setCell ⟨b,0,none⟩ u) ((V.setCell ⟨b,0,none⟩ u).setCell ⟨b,1,none⟩ v):=Turns.setCell _ _ _ rfl;exact⟨h2,t1.trans t2⟩
theorem set2_hi {V:World} {b:Nat} {c0 c1 c2 c3:Value} {T:TypeId} (h:V.heap[b]?=some (.cells #[c0,c1,c2,c3] T (0,0))) (u v:Value):(V.setCells b 2 [u,v]).heap[b]?=some (.cells #[c0,c1,u,v] T (0,0))∧Turns (fun k=>k=b) V (V.setCells b 2 [u,v]):=by
 have h1:=heap_setCell_same V b 2 _ _ u h;have h2:=heap_setCell_same (V.setCell ⟨b,2,none⟩ u) b 3 _ _ v h1;have t1:Turns (fun k=>k=b) V (V.setCell ⟨b,2,none⟩ u):=Turns.setCell _ _ _ rfl;have t2:Turns (fun k=>k=b) (V.setCell ⟨b,2,none⟩ u) ((V.setCell ⟨b,2,none⟩ u).setCell ⟨b,3,none⟩ v):=Turns.setCell _ _ _ rfl;exact⟨h2,t1.trans t2⟩
theorem there4 {V:World} {b i:Nat} {c0 c1 c2 c3:Value} {T:TypeId} (h:V.heap[b]?=some (.cells #[c0,c1,c2,c3] T (0,0))) (hi:i≤2):V.there b i 2:=fun j hj=>by
 have hl:i+j<4:=by omega
 have h4:#[c0,c1,c2,c3][i+j]?=some (#[c0,c1,c2,c3][i+j]'(by simp;omega)):=Array.getElem?_eq_getElem _;refine⟨by rw[cells_i h (i:=i+j) h4];rfl,cells_free h _⟩
theorem step_store_rat {P:Program} {ops:Array Oper} {o:Oper} {a:Act} {V:World} {K:Act→World→Prop} {Q:Exit→Act→World→Prop} {D:Prop} (hgd:o.guard=none) (x y:Operand) (ho:o.op=.store 29 x y) (hd:o.dst=none) (b i:Nat) (n d:ByteArray)
 (hx:a.eval x=.pointer (some ⟨b,i,none⟩)) (hy:a.eval y=.agg #[.string n,.string d]) (hi:(P.info? 29).map (·.size)=some 2) (ht:V.there b i 2) (hk:K a (V.setCells b i [.string n,.string d])):
 if Region.wanted o (yielded ops a.tmps)=true then Oper.wp P o a V K Q else D:=by
 have hw:Region.wanted o (yielded ops a.tmps)=true:=by simp[Region.wanted,hgd]
 rw[if_pos hw];refine wp_store_mid 29 x y ho b i #[.string n,.string d] hx hy ht hi (by simp[Value.oneCell']) ?_;rw[hd];exact hk
abbrev zI:Value:=.agg #[.string ⟨#[]⟩,.string ⟨#[]⟩,.string ⟨#[]⟩,.string ⟨#[]⟩]
def AtP (w:World) (l:List D3) (n:Nat) (t:Int) (e:Ending) (w':World):Prop:=((n=0∨∃i k,Cf l i k)∧e=.returned (.tuple #[zI,.int .i64 120])∨(0<n∧∀i k,¬Cf l i k)∧∃L H,AccI t l L H∧e=.returned (.tuple #[iV L H,.int .i64 0]))∧Below w.heap.size w w'
theorem Nw.turnsY {w V A B:World} {L:List (Nat×Obj)} (h:Nw w A L) (hL:∀p∈L,p.1<V.heap.size) (hV:w.heap.size≤V.heap.size) (t:Turns (books V) A B):Nw w B L:=
 ⟨⟨t.below h.at_.below (Nat.le_refl _) (far_booksY hV),fun p hp=>(t.block p.1 (h.at_.lt (b:=p.1) (o:=p.2) hp) (not_booksL (hL p hp))).trans (h.at_.has p hp)⟩,h.nd,h.hi⟩
theorem Nw.fresh {w V V5:World} {L:List (Nat×Obj)} {o:Obj} (h:Nw w V L) (hb:Below V.heap.size V V5) (hc:V5.heap[V.heap.size]?=some o):Nw w V5 ((V.heap.size,o)::L):=by
 refine⟨(h.at_.step hb).cons hc,?_,fun p hp=> ?_⟩
 · rw[List.map_cons,List.nodup_cons]
   refine⟨fun hm=> ?_,h.nd⟩;obtain⟨p,hp,e⟩:=List.mem_map.1 hm;have:=h.at_.lt (b:=p.1) (o:=p.2) hp;omega
 · rcases List.mem_cons.1 hp with rfl|hp
   · exact h.at_.below.size
   · exact h.hi p hp
section
variable {P:Program} {ops:Array Oper} {rest:List Oper} {o:Oper} {a:Act} {w:World} {Q:Exit→Act→World→Prop} {F:Fence} {n:Nat}
theorem wpListIn_store_rowN (hgd:o.guard=none) (T:TypeId) (x y:Operand) (ho:o.op=.store T x y) (hd:o.dst=none) (b:Nat) (cs old:Array Value)
 (hx:a.eval x=.pointer (some ⟨b,0,none⟩)) (hy:a.eval y=.agg cs) (hi:(P.info? T).map (·.size)=some cs.size) (h0:w.heap[b]?=some (.cells old T (0,0))) (hold:old.size=cs.size) (h1:cs.all (·.oneCell')=true)
 (h:∀w',w'.heap[b]?=some (.cells cs T (0,0))→Turns (fun k=>k=b) w w'→wpListIn F n P ops Q rest a w'):wpListIn F n P ops Q (o::rest) a w:=by
 have h2:=h _ (set_row h0 cs).1 (set_row h0 cs).2;refine wpListIn_plain hgd fun K hK=> ?_;unfold Oper.wpIn;refine⟨?_,?_⟩
 · simp[Oper.about,ho]
 · rw[Oper.semAt_plain F _ _ (by rw[ho];intro c hc';cases hc')]
   have hr:=run_storeVar_row (P:=P) w b T T old cs h0 hi hold h1;have h3:=hK _ _ h2;unfold execOp;simp only[ho,hx,hy,Instr.storeAt,Instr.sureAddr,Sem.run_bind,Sem.run_pure,Result.andThen_ok,hr];show K (a.put o.dst undef) _;rw[hd];exact h3
end
theorem Nw.tail {w V:World} {L:List (Nat×Obj)} {x:Nat×Obj} (h:Nw w V (x::L)):Nw w V L:=⟨h.at_.less fun p hp=>List.mem_cons_of_mem _ hp,(List.nodup_cons.1 (by simpa using h.nd)).2,fun p hp=>h.hi p (List.mem_cons_of_mem _ hp)⟩
theorem Nw.upd {w V V':World} (L1:List (Nat×Obj)) {L2:List (Nat×Obj)} {b:Nat} {o o':Obj} (h:Nw w V (L1++(b,o)::L2)) (hc:V'.heap[b]?=some o') (t:Turns (fun k=>k=b) V V'):Nw w V' (L1++(b,o')::L2):=by
 have hn:=h.nd;rw[List.map_append,List.map_cons,List.nodup_append] at hn;obtain⟨n1,n2,n3⟩:=hn;rw[List.nodup_cons] at n2
 have hm:∀p∈L1++L2,p∈L1++(b,o)::L2∧p.1≠b:=fun p hp=>by
  rcases List.mem_append.1 hp with hp|hp
  · exact⟨List.mem_append_left _ hp,n3 p.1 (List.mem_map_of_mem (f:=(·.1)) hp) b (List.mem_cons_self ..)⟩
  · exact⟨List.mem_append_right _ (List.mem_cons_of_mem _ hp),fun e=>n2.1 (e▸List.mem_map_of_mem (f:=(·.1)) hp)⟩
 have hb:=h.hi (b,o) (by simp);have h2:=(h.at_.turn (M:=L1++L2) t hb hm).cons hc;refine⟨h2.less fun p hp=> ?_,?_,fun p hp=> ?_⟩
 · rcases List.mem_append.1 hp with hp|hp
   · exact List.mem_cons_of_mem _ (List.mem_append_left _ hp)
   · rcases List.mem_cons.1 hp with rfl|hp
     · exact List.mem_cons_self ..
     · exact List.mem_cons_of_mem _ (List.mem_append_right _ hp)
 · have:=h.nd
   rw[List.map_append,List.map_cons] at this⊢;exact this
 · rcases List.mem_append.1 hp with hp|hp
   · exact h.hi p (List.mem_append_left _ hp)
   · rcases List.mem_cons.1 hp with rfl|hp
     · exact hb
     · exact h.hi p (List.mem_append_right _ (List.mem_cons_of_mem _ hp))
theorem Nw.drew {w V:World} {L:List (Nat×Obj)} (h:Nw w V L):Nw w V.drew L:=⟨h.at_.drew,h.nd,h.hi⟩
theorem rng_lo {V:World} {b:Nat} {c0 c1 c2 c3:Value} {T:TypeId} (h:V.heap[b]?=some (.cells #[c0,c1,c2,c3] T (0,0))):V.rangeAt b 0 [c0,c1]:=fun j v hv=>by
 match j,hv with
 |0,hv=>exact cells_i h (i:=0+0) (by simpa using hv)
 |1,hv=>exact cells_i h (i:=0+1) (by simpa using hv)
theorem rng_hi {V:World} {b:Nat} {c0 c1 c2 c3:Value} {T:TypeId} (h:V.heap[b]?=some (.cells #[c0,c1,c2,c3] T (0,0))):V.rangeAt b 2 [c2,c3]:=fun j v hv=>by
 match j,hv with
 |0,hv=>exact cells_i h (i:=2+0) (by simpa using hv)
 |1,hv=>exact cells_i h (i:=2+1) (by simpa using hv)
theorem step_yieldsW {P:Program} {ops:Array Oper} {S:World→Prop} {o:Oper} {v:Value} {a:Act} {V:World} {K:Act→World→Prop} {Q:Exit→Act→World→Prop} {D:Prop} (hy:YieldsIf P ops S o v a) (hw:Region.wanted o (yielded ops a.tmps)=true) (hS:S V) (hk:K (a.put o.dst v) V):
 if Region.wanted o (yielded ops a.tmps)=true then Oper.wp P o a V K Q else D:=by
 rw[if_pos hw];rcases hy with⟨_,h⟩|⟨h,_⟩
 · unfold Oper.wp;rw[h V hS];exact hk
 · rw[hw] at h;cases h
theorem at_res {w V:World} {b4 b5:Nat} {c0 c1 c2 c3:ByteArray} {v:Int} {tmps:Array Value} (h:Nw w V [(b5,.cells #[.int .i64 v] 80 (0,0)),(b4,.cells #[.string c0,.string c1,.string c2,.string c3] 31 (0,0))]) (h4:tmps.getD 4 undef=.pointer (some ⟨b4,0,none⟩)) (h5:tmps.getD 5 undef=.pointer (some ⟨b5,0,none⟩)):
 (results Tryz.f45 tmps).run Tryz.prog V=.ok (.tuple #[.agg #[.string c0,.string c1,.string c2,.string c3],.int .i64 v]) V:=
 results_cells2 rfl _ _ b4 b5 [.string c0,.string c1,.string c2,.string c3] (.int .i64 v) _ h4 h5 (range_of (h.at_.has (b4,.cells #[.string c0,.string c1,.string c2,.string c3] 31 (0,0)) (by simp))) (cells_i (h.at_.has (b5,.cells #[.int .i64 v] 80 (0,0)) (by simp)) rfl) Tryz.underlying31 rfl (by kernel_rfl) Tryz.isAgg80
theorem driftAt_walk (l:List D3) (A:Option Addr) (n c:Nat) (t:Int) (w:World) (h:HiAt w A n l) (hp:Pow10 w) (ht0:0≤t) (ht1:t≤1000):Calls Tryz.prog 45 #[hV A n c,.int .i64 t] w (AtP w l n t):=by
 have HVA:=hZ (fun W h q=>dvalid_walk l A n c W h q);have HH:=hZ h;have HP:=hZ hp;have HIT:=hZ (fun b1 W=>pairs_iter l A n c b1 w W h hp);unfold hV at HVA⊢;obtain⟨gn,e1⟩:=oQ (nB 3);obtain⟨gd,e2⟩:=oQ (dB 3);rw[e1,e2] at HVA HIT⊢;have HRT:=hZ (And.intro e1 e2);have d1:decide (t<0)=false:=by simp;omega
 have d2:decide (1000000<t)=false:=by simp;omega
 have HT:=hZ (And.intro ht0 ht1);obtain⟨R,hR⟩:=oQ (AtP w l n t);have HRR:=hZ hR;rw[hR];clear e1 e2 h hp ht0 ht1 hR;refine(callsIn_wide (n:=3)).1 ?_;refine callsIn_of_wp_marks Tryz.func45 rfl trivial ?_ rfl;simp only[Tryz.ntmps45,List.size_toArray,List.length_cons,List.length_nil,Nat.reduceAdd,Nat.reduceSub,Array.replicate_succ,Array.replicate_zero,List.push_toArray,List.append_toArray,List.nil_append,List.cons_append];refine wpIn_wide.2 ?_;obtain⟨b2,w1,q1,q2,hf1⟩:=(Nw.start w).alloc (.cells #[.string gn,.string gd,.slice A n c] 58);obtain⟨b4,w2,r1,r2,hf2⟩:=hf1.alloc (.cells #[.string ⟨#[]⟩,.string ⟨#[]⟩,.string ⟨#[]⟩,.string ⟨#[]⟩] 31);obtain⟨b5,w3,s1,s2,hf3⟩:=hf2.alloc (.cells #[.int .i64 0] 80);have h4:w.heap.size+1=b4:=by rw[←r1,←q2];simp
 have HQ:=hZ (And.intro q1 (And.intro h4 (And.intro (show w.heap.size+1+1=b5 by rw[←s1,←r2,←q2];simp) (show((w.alloc (.cells #[.string gn,.string gd,.slice A n c] 58)).alloc (.cells #[.string ⟨#[]⟩,.string ⟨#[]⟩,.string ⟨#[]⟩,.string ⟨#[]⟩] 31)).alloc (.cells #[.int .i64 0] 80)=w3 by rw[q2,r2,s2]))));have HF:=hZ hf3
 have HX:Hid (∀U L,Nw w U L→(b2,Obj.cells #[.string gn,.string gd,.slice A n c] 58 (0,0))∈L→U.cell? ⟨b2,0,none⟩=some (.string gn)∧U.cell? ⟨b2,1,none⟩=some (.string gd)∧U.cell? ⟨b2,2,none⟩=some (.slice A n c)):=hZ fun U L h hm=>by
  have k1:=h.at_.has _ hm;exact⟨cells_i k1 rfl,cells_i k1 rfl,cells_i k1 rfl⟩
 clear q1 q2 hf1 r1 r2 hf2 s1 s2 hf3 h4
 by_cases hn:n=0
 · subst hn
   go_wp2_with (first
    | (go_at_call 44;obtain⟨q0,q1,q2,q3⟩:=HQ.out;(rw[q3,q2,q1,q0]);((with_reducible refine(HVA.out _ (HH.out.below HF.out.at_.below) (HP.out.below HF.out.at_.below)).mono ?_));rintro e V1 ⟨rfl,hb⟩
       have HF1:=hZ (HF.out.step hb);obtain⟨y0,y1,y2⟩:=HX.out _ _ HF1.out (by simp)
       clear q0 q1 q2 q3 hb)
    | ((with_reducible refine wpList_store_rowN rfl 31 (.tmp 4) (.tmp 32) rfl rfl b4 #[.string ⟨#[]⟩,.string ⟨#[]⟩,.string ⟨#[]⟩,.string ⟨#[]⟩] #[.string ⟨#[]⟩,.string ⟨#[]⟩,.string ⟨#[]⟩,.string ⟨#[]⟩] ?hx ?hy ?hi (HF1.out.at_.has (b4,.cells #[.string ⟨#[]⟩,.string ⟨#[]⟩,.string ⟨#[]⟩,.string ⟨#[]⟩] 31 (0,0)) (by simp)) rfl ?h1 ?_);(case hx=>rfl);(case hy=>rfl);(case hi=>kernel_rfl);(case h1=>simp[Value.oneCell']);intro V2 h5 t5
       have HF2:Hid (Nw w V2 [(b4,.cells #[.string ⟨#[]⟩,.string ⟨#[]⟩,.string ⟨#[]⟩,.string ⟨#[]⟩] 31 (0,0)),(b5,.cells #[.int .i64 0] 80 (0,0)),(b2,.cells #[.string gn,.string gd,.slice A 0 c] 58 (0,0))]):=hZ ((HF1.out.re (M:=[(b4,.cells #[.string ⟨#[]⟩,.string ⟨#[]⟩,.string ⟨#[]⟩,.string ⟨#[]⟩] 31 (0,0)),(b5,.cells #[.int .i64 0] 80 (0,0)),(b2,.cells #[.string gn,.string gd,.slice A 0 c] 58 (0,0))]) (by simp) (by have h:=HF1.out.nd;simp at h⊢ <;>omega)).put h5 t5);have c5:=HF2.out.at_.cell (b:=b5) (cs:=#[.int .i64 0]) (t:=80) (i:=0) (by simp) rfl;have f5:=cells_free (HF2.out.at_.has (b5,.cells #[.int .i64 0] 80 (0,0)) (by simp)) 0
       clear h5 t5)
    |fail)
   have hl:Nw w (V2.setCell ⟨b5,0,none⟩ (.int .i64 120)) [(b5,.cells #[.int .i64 120] 80 (0,0)),(b4,.cells #[.string ⟨#[]⟩,.string ⟨#[]⟩,.string ⟨#[]⟩,.string ⟨#[]⟩] 31 (0,0))]:=
    (HF2.out.re (M:=[(b5,.cells #[.int .i64 0] 80 (0,0)),(b4,.cells #[.string ⟨#[]⟩,.string ⟨#[]⟩,.string ⟨#[]⟩,.string ⟨#[]⟩] 31 (0,0))]) (by simp) (by have h:=HF2.out.nd;simp at h⊢ <;>omega)).put (heap_setCell_same V2 b5 0 _ _ _ (HF2.out.at_.has (b5,.cells #[.int .i64 0] 80 (0,0)) (by simp))) (Turns.setCell _ _ _ rfl)
   refine⟨_,at_res hl rfl rfl,?_⟩;rw[←HRR.out];exact⟨.inl ⟨.inl rfl,rfl⟩,hl.at_.below⟩
 · have d3 :decide ((n:Int)=0)=false:=by simp[hn]
   have d4:((n:Int)==0)=false:=by simp[hn]
   go_wp2_with (first
    | (go_at_call 44;obtain⟨q0,q1,q2,q3⟩:=HQ.out;(rw[q3,q2,q1,q0]);((with_reducible refine(HVA.out _ (HH.out.below HF.out.at_.below) (HP.out.below HF.out.at_.below)).mono ?_));rintro e V1 ⟨rfl,hb⟩
       have HF1:=hZ (HF.out.step hb);obtain⟨y0,y1,y2⟩:=HX.out _ _ HF1.out (by simp)
       clear q0 q1 q2 q3 hb)
    | (go_at_call 92;((with_reducible refine(pairs_at gn gd A n c HF1.out).mono ?_));rintro e V2 ⟨bp,rfl,hf3⟩
       have HF2:=hZ hf3
       clear hf3 y0 y1 y2)
    |fail)
   have HBP:=hZ (HIT.out bp V2 HF2.out.at_.below (HF2.out.at_.has (bp,.cells #[.string gn,.string gd,.slice A n c] 58 (0,0)) (by simp)));have HBV:Hid (Below w.heap.size w V2):=hZ HF2.out.at_.below;have hf4:Nw w V2 [(b5,.cells #[.int .i64 0] 80 (0,0)),(b4,.cells #[.string ⟨#[]⟩,.string ⟨#[]⟩,.string ⟨#[]⟩,.string ⟨#[]⟩] 31 (0,0)),(b2,.cells #[.string gn,.string gd,.slice A n c] 58 (0,0))]:=HF2.out.re (by simp) (by have h:=HF2.out.nd;simp at h⊢ <;>omega);have HLT:Hid (bp<V2.heap.size∧b5<V2.heap.size∧b4<V2.heap.size∧b2<V2.heap.size):=hZ ⟨HF2.out.at_.lt (b:=bp) (o:=.cells #[.string gn,.string gd,.slice A n c] 58 (0,0)) (by simp),HF2.out.at_.lt (b:=b5) (o:=.cells #[.int .i64 0] 80 (0,0)) (by simp),HF2.out.at_.lt (b:=b4) (o:=.cells #[.string ⟨#[]⟩,.string ⟨#[]⟩,.string ⟨#[]⟩,.string ⟨#[]⟩] 31 (0,0)) (by simp),HF2.out.at_.lt (b:=b2) (o:=.cells #[.string gn,.string gd,.slice A n c] 58 (0,0)) (by simp)⟩;clear HIT HVA HF HF1 HF2 HQ;refine(wpIn_wide (n:=3)).1 ?_
   refine wp_rangeY0 (gf:=142) (lb:=#[.pointer (some ⟨bp,0,none⟩)]) rfl (enters_of Tryz.func142 (by kernel_rfl) rfl)
    HBP.out (Below.refl _ _) (fun _=>rfl) (fun h k=>h.trans k) ?hKb
    (fun pre W=>pre=[]∧Nw w W [(b5,.cells #[.int .i64 0] 80 (0,0)),(b4,.cells #[.string ⟨#[]⟩,.string ⟨#[]⟩,.string ⟨#[]⟩,.string ⟨#[]⟩] 31 (0,0)),(b2,.cells #[.string gn,.string gd,.slice A n c] 58 (0,0))])
    (fun c pre W=>c=.ret∧Nw w W [(b5,.cells #[.int .i64 120] 80 (0,0)),(b4,.cells #[.string ⟨#[]⟩,.string ⟨#[]⟩,.string ⟨#[]⟩,.string ⟨#[]⟩] 31 (0,0))])
    ?hI ?hIx ⟨rfl,hf4⟩ ?hKB ?body ?done ?stop
   case hKb=>
    intro W o;have:=HLT.out;have:=HBV.out.size;exact⟨by simp,fun k hk=>World.putObj_heap_other (by omega),fun k cs hk ho=>(World.putObj_heap_other (fun e=>hk e)).trans ho⟩
   case hI=>
    rintro s A' B' ⟨h1,h2⟩ tt;exact⟨h1,h2.turnsY (by have:=HLT.out;simp;omega) HBV.out.size tt⟩
   case hIx=>
    rintro c s A' B' ⟨h1,h2⟩ tt;exact⟨h1,h2.turnsY (by have:=HLT.out;simp;omega) HBV.out.size tt⟩
   case hKB=>
    intro A' B' hs hb;have:=HLT.out;have:=HBV.out.size;exact⟨hb.size,fun k hk=>hb.block k (by omega),fun k cs _ ho=>(hb.block k (Array.getElem?_eq_some_iff.1 ho).1).trans ho⟩
   case body=>
    rintro l0 pre x W hle ⟨rfl,hf⟩ hl;have HF3:=hZ hf;clear hf
    dsimp only[encP]
    gi_wp2_with (first
     | ((with_reducible refine wpListIn_store_rowN rfl 31 (.tmp 4) (.tmp 37) rfl rfl b4 #[.string ⟨#[]⟩,.string ⟨#[]⟩,.string ⟨#[]⟩,.string ⟨#[]⟩] #[.string ⟨#[]⟩,.string ⟨#[]⟩,.string ⟨#[]⟩,.string ⟨#[]⟩] ?hx ?hy ?hi (HF3.out.at_.has (b4,.cells #[.string ⟨#[]⟩,.string ⟨#[]⟩,.string ⟨#[]⟩,.string ⟨#[]⟩] 31 (0,0)) (by simp)) rfl ?h1 ?_);(case hx=>rfl);(case hy=>rfl);(case hi=>kernel_rfl);(case h1=>simp[Value.oneCell']);intro V4 h5 t5
        have HF4:Hid (Nw w V4 [(b4,.cells #[.string ⟨#[]⟩,.string ⟨#[]⟩,.string ⟨#[]⟩,.string ⟨#[]⟩] 31 (0,0)),(b5,.cells #[.int .i64 0] 80 (0,0))]):=hZ ((HF3.out.re (M:=[(b4,.cells #[.string ⟨#[]⟩,.string ⟨#[]⟩,.string ⟨#[]⟩,.string ⟨#[]⟩] 31 (0,0)),(b5,.cells #[.int .i64 0] 80 (0,0))]) (by simp) (by have h:=HF3.out.nd;simp at h⊢ <;>omega)).put h5 t5);have T5:=hZ t5;have c5:=HF4.out.at_.cell (b:=b5) (cs:=#[.int .i64 0]) (t:=80) (i:=0) (by simp) rfl;have f5:=cells_free (HF4.out.at_.has (b5,.cells #[.int .i64 0] 80 (0,0)) (by simp)) 0
        clear h5 t5)
     |fail)
    have hT:Turns (fun q=>q=b5) V4 (V4.setCell ⟨b5,0,none⟩ (.int .i64 120)):=Turns.setCell _ _ _ rfl;have hlt:=HLT.out;refine⟨(KeepsFrom.of_turns T5.out (by omega)).trans (KeepsFrom.of_turns hT (by omega)),rfl,?_⟩;exact(HF4.out.re (M:=[(b5,.cells #[.int .i64 0] 80 (0,0)),(b4,.cells #[.string ⟨#[]⟩,.string ⟨#[]⟩,.string ⟨#[]⟩,.string ⟨#[]⟩] 31 (0,0))]) (by simp) (by have h:=HF4.out.nd;simp at h⊢ <;>omega)).put (heap_setCell_same V4 b5 0 _ _ _ (HF4.out.at_.has (b5,.cells #[.int .i64 0] 80 (0,0)) (by simp))) hT
   case done=>
    rintro xs W hS ⟨rfl,hf⟩ hK;have HNC:Hid (∀i k,¬Cf l i k):=hZ (hS.1 rfl);have hL0:Nw w W [(V2.heap.size,.deferred (some [])),(b5,.cells #[.int .i64 0] 80 (0,0)),(b4,.cells #[.string ⟨#[]⟩,.string ⟨#[]⟩,.string ⟨#[]⟩,.string ⟨#[]⟩] 31 (0,0)),(b2,.cells #[.string gn,.string gd,.slice A n c] 58 (0,0))]:=⟨hf.at_.cons hK,by have h:=hf.nd;have:=HLT.out;simp at h⊢;omega,by have h:=hf.hi;have:=HBV.out.size;simp at h⊢;omega⟩;obtain⟨b6,W6,q1,q2,hf6⟩:=hL0.alloc (.cells #[.string ⟨#[]⟩,.string ⟨#[]⟩,.string ⟨#[]⟩,.string ⟨#[]⟩] 31);have HQ:=hZ (And.intro q1 q2);have HF6:=hZ hf6;obtain⟨y0,y1,y2⟩:=HX.out W6 _ hf6 (by simp);rw[←q2] at y2;clear q1 q2 hf6 hL0 hf hK hS y0 y1;go_wp2_with fail;obtain⟨q1,q2⟩:=HQ.out;rw[q1,q2];clear q1 q2 y2 HQ
    go_loopw [41] (fun u wr=> ∃(i:Nat) (ln ld hn hd:ByteArray),u=.int .i64 (i:Int)∧i≤n∧Hid (i=0∨∃L H,AccI t (l.take i) L H∧ln=nB L∧ld=dB L∧hn=nB H∧hd=dB H)∧Hid (Nw w wr [(b6,.cells #[.string ln,.string ld,.string hn,.string hd] 31 (0,0)),(V2.heap.size,.deferred (some [])),(b5,.cells #[.int .i64 0] 80 (0,0)),(b4,.cells #[.string ⟨#[]⟩,.string ⟨#[]⟩,.string ⟨#[]⟩,.string ⟨#[]⟩] 31 (0,0)),(b2,.cells #[.string gn,.string gd,.slice A n c] 58 (0,0))])) (fun u _=>n-(intOf u).toNat)
    case atStart=>exact⟨0,_,_,_,_,rfl,by omega,hZ (.inl rfl),HF6⟩
    case round=>
     clear HF6;obtain⟨i,ln,ld,hn,hd,rfl,hi,HACC,HF⟩:=hrel
     by_cases hlt:i<n
     · obtain⟨d,b,hdd,hok,hA,hrg⟩:=(HH.out.below HF.out.at_.below).get hlt
       subst hA;(have hkd:((t-d.tm).natAbs:Nat)<10000:=by have:=hok.t0;have:=hok.t1;have:=HT.out;omega);(have hk3:S12 (3*((t-d.tm).natAbs:Int)):=by unfold S12;omega);have HREa:=fun W (q:Pow10 W)=>reach12 (t-d.tm).natAbs W hkd q;have HSUa:=fun W (q:Pow10 W)=>sub12 d.lo (3*((t-d.tm).natAbs:Int)) W hok.slo hk3 q;have HADa:=fun W (q:Pow10 W)=>add12 d.hi (3*((t-d.tm).natAbs:Int)) W hok.shi hk3 q;have HDD:=hZ hdd;have HOKD:=hZ hok;have hrg0:=hrg wr (Below.refl _ _);have HC:ptC d.pt=[.int .i64 d.tm,.string (nB d.lo),.string (dB d.lo),.string (nB d.hi),.string (dB d.hi)]:=rfl;rw[HC] at hrg0;obtain⟨xz,ex⟩:=oQ (loF t d);obtain⟨uz,eu⟩:=oQ (hiF t d);have ex':d.lo-3*((t-d.tm).natAbs:Int)=xz:=ex;have eu':d.hi+3*((t-d.tm).natAbs:Int)=uz:=eu;have HXU:=hZ (And.intro ex eu);rw[ex'] at HSUa;rw[eu'] at HADa;(have w1':IntKind.i64.wrap (t-d.tm)=t-d.tm:=by have:=hok.t0;have:=hok.t1;have:=HT.out;rw[IntKind.wrap_i64];omega);(have w2':IntKind.i64.wrap (d.tm-t)=d.tm-t:=by have:=hok.t0;have:=hok.t1;have:=HT.out;rw[IntKind.wrap_i64];omega);obtain⟨kk',ek⟩:∃k:Nat,(t-d.tm).natAbs=k:=⟨_,rfl⟩;(have mx:max (t-d.tm) (d.tm-t)=(kk':Int):=by omega);rw[ek] at HREa HSUa HADa;unfold tV at HREa HSUa HADa;obtain⟨tm,e1⟩:=oQ (d.tm);obtain⟨pn,e2⟩:=oQ (nB d.lo);obtain⟨pd,e3⟩:=oQ (dB d.lo);obtain⟨qn,e4⟩:=oQ (nB d.hi);obtain⟨qd,e5⟩:=oQ (dB d.hi);obtain⟨kn,e6⟩:=oQ (nB (3*(kk':Int)));obtain⟨kd,e7⟩:=oQ (dB (3*(kk':Int)));obtain⟨xn,e8⟩:=oQ (nB xz);obtain⟨xd,e9⟩:=oQ (dB xz);obtain⟨un,e10⟩:=oQ (nB uz);obtain⟨ud,e11⟩:=oQ (dB uz);rw[HRT.out.1,HRT.out.2,e6,e7] at HREa;rw[e2,e3,e6,e7,e8,e9] at HSUa;rw[e4,e5,e6,e7,e10,e11] at HADa;rw[e1,e2,e3,e4,e5] at hrg0;rw[e1] at w1' w2' mx;have HRE:=hZ HREa;have HSU:=hZ HSUa;have HAD:=hZ HADa;have HRG:=hZ hrg0;have HST:=hZ (And.intro e8 (And.intro e9 (And.intro e10 e11)));have IL:=hZ (show(Tryz.prog.info? 86).map (·.size)=some [Value.int .i64 tm,Value.string pn,Value.string pd,Value.string qn,Value.string qd].length by kernel_rfl)
       have IR:=hZ (show(Tryz.prog.info? 29).map (·.size)=some [Value.string xn,Value.string xd].length by kernel_rfl);(have d5:decide (i<n)=true:=by simp[hlt]);(have z1:(0:Int)≤(i:Int):=by omega);(have z2:(i:Int)<(n:Int):=by omega);(have wk:IntKind.i64.wrap ((i:Int)+1)=((i+1:Nat):Int):=by have:=HH.out.few;rw[IntKind.wrap_i64];omega);clear hkd hk3 HREa HSUa HADa hdd hok hrg hrg0 HC ex eu ex' eu' ek e1 e2 e3 e4 e5 e6 e7 e8 e9 e10 e11
       go_wp2_with (first
        |((with_reducible refine wpList_load_mid rfl 86 (.tmp 44) rfl b (i*5) ?hx [.int .i64 tm,.string pn,.string pd,.string qn,.string qd] _ HRG.out Tryz.underlying86 rfl IL.out ?_);(case hx=>first|rfl|simp[Addr.add]))
        | ((with_reducible refine wpList_store_rowN rfl 86 (.tmp 8) (.tmp 45) rfl rfl _ #[.int .i64 tm,.string pn,.string pd,.string qn,.string qd] #[.int .i64 0,.string ⟨#[]⟩,.string ⟨#[]⟩,.string ⟨#[]⟩,.string ⟨#[]⟩] ?hx ?hy ?hi (World.alloc_heap_new _ _) rfl ?h1 ?_);(case hx=>rfl);(case hy=>rfl);(case hi=>kernel_rfl);(case h1=>simp[Value.oneCell']);intro V5 h5 t5
           have hf:=HF.out.fresh (t5.below (below_new wr _) (Nat.le_refl _) (fun k hk=>by omega)) h5;obtain⟨b8,hbb⟩:=oQ (wr.heap.size);rw[hbb] at hf⊢;have HF5:=hZ hf;obtain⟨y0,y1,y2⟩:=HX.out _ _ HF5.out (by simp);have y80:=HF5.out.at_.cell (b:=b8) (cs:=#[.int .i64 tm,.string pn,.string pd,.string qn,.string qd]) (t:=86) (i:=0) (by simp) rfl
           clear h5 t5 hf hbb)
        | (go_at_call 93;((with_reducible refine(HRE.out _ (HP.out.below HF5.out.at_.below)).mono ?_));rintro e V6 ⟨rfl,hb⟩
           have HF6:=hZ (HF5.out.step hb)
           clear hb HRE y0 y1 y2 y80)
        | ((with_reducible refine wpList_store_rowN rfl 29 (.tmp 9) (.tmp 59) rfl rfl _ #[.string kn,.string kd] #[.string ⟨#[]⟩,.string ⟨#[]⟩] ?hx ?hy ?hi (World.alloc_heap_new _ _) rfl ?h1 ?_);(case hx=>rfl);(case hy=>rfl);(case hi=>kernel_rfl);(case h1=>simp[Value.oneCell']);intro V7 h5 t5
           have hf:=HF6.out.fresh (t5.below (below_new V6 _) (Nat.le_refl _) (fun k hk=>by omega)) h5;obtain⟨b9,hbb⟩:=oQ (V6.heap.size);rw[hbb] at hf⊢;have HF7:=hZ hf;have y81:=HF7.out.at_.cell (b:=b8) (cs:=#[.int .i64 tm,.string pn,.string pd,.string qn,.string qd]) (t:=86) (i:=1) (by simp) rfl;have y82:=HF7.out.at_.cell (b:=b8) (cs:=#[.int .i64 tm,.string pn,.string pd,.string qn,.string qd]) (t:=86) (i:=2) (by simp) rfl;have y90:=HF7.out.at_.cell (b:=b9) (cs:=#[.string kn,.string kd]) (t:=29) (i:=0) (by simp) rfl;have y91:=HF7.out.at_.cell (b:=b9) (cs:=#[.string kn,.string kd]) (t:=29) (i:=1) (by simp) rfl
           clear h5 t5 hf hbb)
        | (go_at_call 94;((with_reducible refine(HSU.out _ (HP.out.below HF7.out.at_.below)).mono ?_));rintro e V8 ⟨rfl,hb⟩
           have HF8:=hZ (HF7.out.step hb)
           clear hb HSU y81 y82 y90 y91)
        | ((with_reducible refine wpList_store_rowN rfl 29 (.tmp 11) (.tmp 67) rfl rfl _ #[.string xn,.string xd] #[.string ⟨#[]⟩,.string ⟨#[]⟩] ?hx ?hy ?hi (World.alloc_heap_new _ _) rfl ?h1 ?_);(case hx=>rfl);(case hy=>rfl);(case hi=>kernel_rfl);(case h1=>simp[Value.oneCell']);intro V9 h5 t5
           have hf:=HF8.out.fresh (t5.below (below_new V8 _) (Nat.le_refl _) (fun k hk=>by omega)) h5;obtain⟨b11,hbb⟩:=oQ (V8.heap.size);rw[hbb] at hf⊢;have HF9:=hZ hf;have y83:=HF9.out.at_.cell (b:=b8) (cs:=#[.int .i64 tm,.string pn,.string pd,.string qn,.string qd]) (t:=86) (i:=3) (by simp) rfl;have y84:=HF9.out.at_.cell (b:=b8) (cs:=#[.int .i64 tm,.string pn,.string pd,.string qn,.string qd]) (t:=86) (i:=4) (by simp) rfl;have y90:=HF9.out.at_.cell (b:=b9) (cs:=#[.string kn,.string kd]) (t:=29) (i:=0) (by simp) rfl;have y91:=HF9.out.at_.cell (b:=b9) (cs:=#[.string kn,.string kd]) (t:=29) (i:=1) (by simp) rfl
           clear h5 t5 hf hbb)
        | (go_at_call 95;((with_reducible refine(HAD.out _ (HP.out.below HF9.out.at_.below)).mono ?_));rintro e V10 ⟨rfl,hb⟩
           have HF10:=hZ (HF9.out.step hb)
           clear hb HAD y83 y84 y90 y91)
        |fail)
       obtain⟨b13,V11,q1,q2,hf11⟩:=HF10.out.alloc (.cells #[.string un,.string ud] 29);rw[q1,q2];have HF11:=hZ hf11;clear q1 q2 hf11;clear HF HF5 HF6 HF7 HF8 HF9 HF10 HRG;have HI2:=hZ (show(Tryz.prog.info? 29).map (·.size)=some 2 by kernel_rfl)
       by_cases hi0:i=0
       · subst hi0
         have hS14:World.rangeAt V11.drew b11 0 [.string xn,.string xd]:=range_of (cs:=[.string xn,.string xd]) (HF11.out.at_.has (b11,.cells #[.string xn,.string xd] 29 (0,0)) (by simp));refine wp_region_noPanic ?_;refine wp_region_held_drew (S:=fun U=>U.rangeAt b11 0 [.string xn,.string xd]) (by kernel_rfl) hS14 (fun hHeld=> ?_);have hu:=HF11.out.drew;obtain⟨U14,hU⟩:=oQ (V11.drew);rw[hU] at hu hHeld⊢;have HU14:=hZ hu;clear hu hU hS14;refine tl 0 rfl (yieldsIf_load_mid (by rfl) 29 (.tmp 11) rfl b11 0 (by rfl) [.string xn,.string xd] _ (fun w hw=>hw) Tryz.underlying29 rfl HI2.out) ?_;refine tk 1 ?_;refine tk 3 ?_;refine tk 4 ?_;refine tk 5 ?_;refine tn 6 ?_;refine tn 7 ?_;refine tn 8 ?_;refine tn 9 ?_;refine tn 10 ?_;refine tk 11 ?_;refine rd [2] ?_;refine rcE fun K hK=> ?_;refine step_yieldsW (S:=fun U=>U.rangeAt b6 0 [.string ln,.string ld]) (yieldsIf_load_mid (by rfl) 29 (.tmp 89) rfl b6 0 (by rfl) [.string ln,.string ld] _ (fun w hw=>hw) Tryz.underlying29 rfl HI2.out) (by rfl) (rng_lo (HU14.out.at_.has (b6,.cells #[.string ln,.string ld,.string hn,.string hd] 31 (0,0)) (by simp))) ?_;refine kk hK (range_of (cs:=[.string xn,.string xd]) (HU14.out.at_.has (b11,.cells #[.string xn,.string xd] 29 (0,0)) (by simp))) (fun hHeld=> ?_);clear hK K;refine rd [12] ?_;refine rcE fun K hK=> ?_;go_simp
         (with_reducible refine(betterS xn xd ln ld true U14).mono ?_)
         rintro e VB14 ⟨rfl,hb⟩;have HB14:=hZ (HU14.out.step hb);clear hb;simp only[if_true];refine kk hK (range_of (cs:=[.string xn,.string xd]) (HB14.out.at_.has (b11,.cells #[.string xn,.string xd] 29 (0,0)) (by simp))) (fun hHeld=> ?_);clear hK K;refine tk 13 ?_;refine rd [14] ?_;refine rcE fun K hK=> ?_;refine step_store_rat (by rfl) (.tmp 101) (.tmp 100) (by rfl) (by rfl) b6 0 xn xd (by rfl) (by rfl) HI2.out (there4 (HB14.out.at_.has (b6,.cells #[.string ln,.string ld,.string hn,.string hd] 31 (0,0)) (by simp)) (by decide)) ?_;have hh:=set2_lo (HB14.out.at_.has (b6,.cells #[.string ln,.string ld,.string hn,.string hd] 31 (0,0)) (by simp)) (.string xn) (.string xd);have he:Nw w _ [(b13,.cells #[.string un,.string ud] 29 (0,0)),(b11,.cells #[.string xn,.string xd] 29 (0,0)),(b9,.cells #[.string kn,.string kd] 29 (0,0)),(b8,.cells #[.int .i64 tm,.string pn,.string pd,.string qn,.string qd] 86 (0,0)),(b6,.cells #[.string xn,.string xd,.string hn,.string hd] 31 (0,0)),(V2.heap.size,.deferred (some [])),(b5,.cells #[.int .i64 0] 80 (0,0)),(b4,.cells #[.string ⟨#[]⟩,.string ⟨#[]⟩,.string ⟨#[]⟩,.string ⟨#[]⟩] 31 (0,0)),(b2,.cells #[.string gn,.string gd,.slice (some ⟨b,0,none⟩) n c] 58 (0,0))]:=Nw.upd [(b13,.cells #[.string un,.string ud] 29 (0,0)),(b11,.cells #[.string xn,.string xd] 29 (0,0)),(b9,.cells #[.string kn,.string kd] 29 (0,0)),(b8,.cells #[.int .i64 tm,.string pn,.string pd,.string qn,.string qd] 86 (0,0))] HB14.out hh.1 hh.2;obtain⟨VE14,hW⟩:=oQ (VB14.setCells b6 0 [.string xn,.string xd]);rw[hW] at he⊢;have HE14:=hZ he;clear hW hh he;refine kk hK (range_of (cs:=[.string xn,.string xd]) (HE14.out.at_.has (b11,.cells #[.string xn,.string xd] 29 (0,0)) (by simp))) (fun hHeld=> ?_);clear hK K;refine dn ?_;go_wp2_with fail;have hS15:World.rangeAt VE14.drew b13 0 [.string un,.string ud]:=range_of (cs:=[.string un,.string ud]) (HE14.out.at_.has (b13,.cells #[.string un,.string ud] 29 (0,0)) (by simp))
         refine wp_region_noPanic ?_;refine wp_region_held_drew (S:=fun U=>U.rangeAt b13 0 [.string un,.string ud]) (by kernel_rfl) hS15 (fun hHeld=> ?_);have hu:=HE14.out.drew;obtain⟨U15,hU⟩:=oQ (VE14.drew);rw[hU] at hu hHeld⊢;have HU15:=hZ hu;clear hu hU hS15;refine tl 0 rfl (yieldsIf_load_mid (by rfl) 29 (.tmp 13) rfl b13 0 (by rfl) [.string un,.string ud] _ (fun w hw=>hw) Tryz.underlying29 rfl HI2.out) ?_;refine tk 1 ?_;refine tk 3 ?_;refine tk 4 ?_;refine tk 5 ?_;refine tn 6 ?_;refine tn 7 ?_;refine tn 8 ?_;refine tn 9 ?_;refine tn 10 ?_;refine tk 11 ?_;refine rd [2] ?_;refine rcE fun K hK=> ?_;refine step_yieldsW (S:=fun U=>U.rangeAt b6 2 [.string hn,.string hd]) (yieldsIf_load_mid (by rfl) 29 (.tmp 103) rfl b6 2 (by rfl) [.string hn,.string hd] _ (fun w hw=>hw) Tryz.underlying29 rfl HI2.out) (by rfl) (rng_hi (HU15.out.at_.has (b6,.cells #[.string xn,.string xd,.string hn,.string hd] 31 (0,0)) (by simp))) ?_;refine kk hK (range_of (cs:=[.string un,.string ud]) (HU15.out.at_.has (b13,.cells #[.string un,.string ud] 29 (0,0)) (by simp))) (fun hHeld=> ?_);clear hK K;refine rd [12] ?_;refine rcE fun K hK=> ?_;go_simp
         (with_reducible refine(betterS un ud hn hd true U15).mono ?_)
         rintro e VB15 ⟨rfl,hb⟩;have HB15:=hZ (HU15.out.step hb);clear hb;simp only[if_true];refine kk hK (range_of (cs:=[.string un,.string ud]) (HB15.out.at_.has (b13,.cells #[.string un,.string ud] 29 (0,0)) (by simp))) (fun hHeld=> ?_);clear hK K;refine tk 13 ?_;refine rd [14] ?_;refine rcE fun K hK=> ?_;refine step_store_rat (by rfl) (.tmp 115) (.tmp 114) (by rfl) (by rfl) b6 2 un ud (by rfl) (by rfl) HI2.out (there4 (HB15.out.at_.has (b6,.cells #[.string xn,.string xd,.string hn,.string hd] 31 (0,0)) (by simp)) (by decide)) ?_;have hh:=set2_hi (HB15.out.at_.has (b6,.cells #[.string xn,.string xd,.string hn,.string hd] 31 (0,0)) (by simp)) (.string un) (.string ud);have he:Nw w _ [(b13,.cells #[.string un,.string ud] 29 (0,0)),(b11,.cells #[.string xn,.string xd] 29 (0,0)),(b9,.cells #[.string kn,.string kd] 29 (0,0)),(b8,.cells #[.int .i64 tm,.string pn,.string pd,.string qn,.string qd] 86 (0,0)),(b6,.cells #[.string xn,.string xd,.string un,.string ud] 31 (0,0)),(V2.heap.size,.deferred (some [])),(b5,.cells #[.int .i64 0] 80 (0,0)),(b4,.cells #[.string ⟨#[]⟩,.string ⟨#[]⟩,.string ⟨#[]⟩,.string ⟨#[]⟩] 31 (0,0)),(b2,.cells #[.string gn,.string gd,.slice (some ⟨b,0,none⟩) n c] 58 (0,0))]:=Nw.upd [(b13,.cells #[.string un,.string ud] 29 (0,0)),(b11,.cells #[.string xn,.string xd] 29 (0,0)),(b9,.cells #[.string kn,.string kd] 29 (0,0)),(b8,.cells #[.int .i64 tm,.string pn,.string pd,.string qn,.string qd] 86 (0,0))] HB15.out hh.1 hh.2;obtain⟨VE15,hW⟩:=oQ (VB15.setCells b6 2 [.string un,.string ud]);rw[hW] at he⊢;have HE15:=hZ he;clear hW hh he;refine kk hK (range_of (cs:=[.string un,.string ud]) (HE15.out.at_.has (b13,.cells #[.string un,.string ud] 29 (0,0)) (by simp))) (fun hHeld=> ?_);clear hK K;refine dn ?_;clear hHeld;go_wp2_with fail
         go_roundw
         case rel=>
          have ht1:l.take (0+1)=[d]:=by
           have h:=HDD.out
           cases l with
           |nil=>cases h
           |cons x xs=>simp at h;simp[h]
          have hac:=AccI.one t d;rw[HXU.out.1,HXU.out.2,←ht1] at hac;obtain⟨s1,s2,s3,s4⟩:=HST.out;exact⟨0+1,xn,xd,un,ud,rfl,by omega,hZ (.inr ⟨xz,uz,hac,s1.symm,s2.symm,s3.symm,s4.symm⟩),hZ HE15.out.tail.tail.tail.tail⟩
         case measure=>simp[intOf];omega
       · obtain⟨L,H,hac,rfl,rfl,rfl,rfl⟩:=HACC.out.resolve_left hi0
         (have d6:decide ((i:Int)=0)=false:=by simp[hi0]);(have d7:((i:Int)==0)=false:=by simp[hi0]);have hsl:=hac.sl (fun e he=>HH.out.ok e (List.mem_of_mem_take he)) HT.out.1 HT.out.2;have hxs:S12 xz:=HXU.out.1▸loF_s HOKD.out HT.out.1 HT.out.2;have hus:S12 uz:=HXU.out.2▸hiF_s HOKD.out HT.out.1 HT.out.2;have hc1:=fun W (q:Pow10 W)=>cmp12 xz L W hxs hsl.1 q;have hc2:=fun W (q:Pow10 W)=>cmp12 uz H W hus hsl.2 q;obtain⟨q14,h14⟩:=oQ (decide (0<cmpZ xz L));obtain⟨q15,h15⟩:=oQ (decide (cmpZ uz H<0));have HAC:=hZ (And.intro hac (And.intro h14 h15));obtain⟨s1,s2,s3,s4⟩:=HST.out;unfold tV at hc1 hc2;rw[s1,s2] at hc1;rw[s3,s4] at hc2;obtain⟨z14,e14⟩:=oQ (cmpZ xz L);obtain⟨z15,e15⟩:=oQ (cmpZ uz H);rw[e14] at hc1 h14;rw[e15] at hc2 h15;obtain⟨ln,f1⟩:=oQ (nB L);obtain⟨ld,f2⟩:=oQ (dB L);obtain⟨hn',f3⟩:=oQ (nB H);obtain⟨hd',f4⟩:=oQ (dB H);have hf11:=HF11.out;rw[f1,f2] at hc1;rw[f3,f4] at hc2;rw[f1,f2,f3,f4] at hf11;have HF11:=hZ hf11;have HCA:=hZ hc1;have HCB:=hZ hc2;obtain⟨r14n,g1⟩:=oQ ((if q14 then xn else ln));obtain⟨r14d,g2⟩:=oQ ((if q14 then xd else ld));obtain⟨r15n,g3⟩:=oQ ((if q15 then un else hn'));obtain⟨r15d,g4⟩:=oQ ((if q15 then ud else hd'));have HR14:=hZ (And.intro g1 g2);have HR15:=hZ (And.intro g3 g4);have HFF:=hZ (And.intro f1 (And.intro f2 (And.intro f3 f4)));clear hac hsl hxs hus hc1 hc2 s1 s2 s3 s4 e14 e15 f1 f2 f3 f4 hf11 g1 g2 g3 g4 HACC;have hS14:World.rangeAt V11.drew b11 0 [.string xn,.string xd]:=range_of (cs:=[.string xn,.string xd]) (HF11.out.at_.has (b11,.cells #[.string xn,.string xd] 29 (0,0)) (by simp));refine wp_region_noPanic ?_;refine wp_region_held_drew (S:=fun U=>U.rangeAt b11 0 [.string xn,.string xd]) (by kernel_rfl) hS14 (fun hHeld=> ?_);have hu:=HF11.out.drew;obtain⟨U14,hU⟩:=oQ (V11.drew);rw[hU] at hu hHeld⊢;have HF:=hZ hu;clear hu hU hS14
         refine tl 0 rfl (yieldsIf_load_mid (by rfl) 29 (.tmp 11) rfl b11 0 (by rfl) [.string xn,.string xd] _ (fun w hw=>hw) Tryz.underlying29 rfl HI2.out) ?_;refine tk 1 ?_;refine tk 3 ?_;refine tk 4 ?_;refine tk 5 ?_;refine tl 6 rfl (yieldsIf_load_mid (by rfl) 29 (.tmp 11) rfl b11 0 (by rfl) [.string xn,.string xd] _ (fun w hw=>hw) Tryz.underlying29 rfl HI2.out) ?_;refine tk 7 ?_;apply sh1;intro N140;apply sh1;intro N141
         ·
          refine rd [2,8] ?_;refine rc (fun K hK=> ?_) ?_
          ·
           refine step_yieldsW (S:=fun U=>U.rangeAt b6 0 [.string ln,.string ld]) (yieldsIf_load_mid (by rfl) 29 (.tmp 89) rfl b6 0 (by rfl) [.string ln,.string ld] _ (fun w hw=>hw) Tryz.underlying29 rfl HI2.out) (by rfl) (rng_lo (HF.out.at_.has (b6,.cells #[.string ln,.string ld,.string hn',.string hd'] 31 (0,0)) (by simp))) ?_;have hq:=HF.out;obtain⟨V14a,hV⟩:=oQ (U14);rw[hV] at hq⊢;have HF:=hZ hq;clear hq hV;refine kk hK (range_of (cs:=[.string xn,.string xd]) (HF.out.at_.has (b11,.cells #[.string xn,.string xd] 29 (0,0)) (by simp))) (fun hHeld=> ?_);clear hK K;refine rd [8] ?_;refine rcE fun K hK=> ?_;refine step_yieldsW (S:=fun U=>U.rangeAt b6 0 [.string ln,.string ld]) (yieldsIf_load_mid (by rfl) 29 (.tmp 95) rfl b6 0 (by rfl) [.string ln,.string ld] _ (fun w hw=>hw) Tryz.underlying29 rfl HI2.out) (by rfl) (rng_lo (HF.out.at_.has (b6,.cells #[.string ln,.string ld,.string hn',.string hd'] 31 (0,0)) (by simp))) ?_;have hq:=HF.out;obtain⟨V14b,hV⟩:=oQ (V14a);rw[hV] at hq⊢;have HF:=hZ hq;clear hq hV;refine kk hK (range_of (cs:=[.string xn,.string xd]) (HF.out.at_.has (b11,.cells #[.string xn,.string xd] 29 (0,0)) (by simp))) (fun hHeld=> ?_);clear hK K;have HX:=(And.intro HF hHeld);exact N141 V14b HX
          refine rcE fun K hK=> ?_;refine step_yieldsW (S:=fun U=>U.rangeAt b6 0 [.string ln,.string ld]) (yieldsIf_load_mid (by rfl) 29 (.tmp 95) rfl b6 0 (by rfl) [.string ln,.string ld] _ (fun w hw=>hw) Tryz.underlying29 rfl HI2.out) (by rfl) (rng_lo (HF.out.at_.has (b6,.cells #[.string ln,.string ld,.string hn',.string hd'] 31 (0,0)) (by simp))) ?_;have hq:=HF.out;obtain⟨V14b,hV⟩:=oQ (U14);rw[hV] at hq⊢;have HF:=hZ hq;clear hq hV;refine kk hK (range_of (cs:=[.string xn,.string xd]) (HF.out.at_.has (b11,.cells #[.string xn,.string xd] 29 (0,0)) (by simp))) (fun hHeld=> ?_);clear hK K;refine rd [2,9] ?_;refine rc (fun K hK=> ?_) ?_
          ·
           refine step_yieldsW (S:=fun U=>U.rangeAt b6 0 [.string ln,.string ld]) (yieldsIf_load_mid (by rfl) 29 (.tmp 89) rfl b6 0 (by rfl) [.string ln,.string ld] _ (fun w hw=>hw) Tryz.underlying29 rfl HI2.out) (by rfl) (rng_lo (HF.out.at_.has (b6,.cells #[.string ln,.string ld,.string hn',.string hd'] 31 (0,0)) (by simp))) ?_;have hq:=HF.out;obtain⟨V14a,hV⟩:=oQ (V14b);rw[hV] at hq⊢;have HF:=hZ hq;clear hq hV;refine kk hK (range_of (cs:=[.string xn,.string xd]) (HF.out.at_.has (b11,.cells #[.string xn,.string xd] 29 (0,0)) (by simp))) (fun hHeld=> ?_);clear hK K;exact N141 V14a ⟨HF,hHeld⟩
          refine rcE fun K hK=> ?_;go_simp
          (with_reducible refine(HCA.out _ (HP.out.below HF.out.at_.below)).mono ?_)
          rintro e V14c ⟨rfl,hb⟩;have HF:=hZ (HF.out.step hb);clear hb;refine kk hK (range_of (cs:=[.string xn,.string xd]) (HF.out.at_.has (b11,.cells #[.string xn,.string xd] 29 (0,0)) (by simp))) (fun hHeld=> ?_);clear hK K;refine tk 10 ?_;refine tk 11 ?_;refine rd [2] ?_;refine rcE fun K hK=> ?_;refine step_yieldsW (S:=fun U=>U.rangeAt b6 0 [.string ln,.string ld]) (yieldsIf_load_mid (by rfl) 29 (.tmp 89) rfl b6 0 (by rfl) [.string ln,.string ld] _ (fun w hw=>hw) Tryz.underlying29 rfl HI2.out) (by rfl) (rng_lo (HF.out.at_.has (b6,.cells #[.string ln,.string ld,.string hn',.string hd'] 31 (0,0)) (by simp))) ?_;have hq:=HF.out;obtain⟨V14a,hV⟩:=oQ (V14c);rw[hV] at hq⊢;have HF:=hZ hq;clear hq hV;refine kk hK (range_of (cs:=[.string xn,.string xd]) (HF.out.at_.has (b11,.cells #[.string xn,.string xd] 29 (0,0)) (by simp))) (fun hHeld=> ?_);clear hK K;have HX:=(And.intro HF hHeld);exact N140 V14a HX
         ·
          rintro XN141 ⟨HF,hHeld⟩;refine rd [9] ?_;refine rcE fun K hK=> ?_;go_simp
          (with_reducible refine(HCA.out _ (HP.out.below HF.out.at_.below)).mono ?_)
          rintro e V14c ⟨rfl,hb⟩;have HF:=hZ (HF.out.step hb);clear hb;refine kk hK (range_of (cs:=[.string xn,.string xd]) (HF.out.at_.has (b11,.cells #[.string xn,.string xd] 29 (0,0)) (by simp))) (fun hHeld=> ?_);clear hK K;refine tk 10 ?_;refine tk 11 ?_;exact N140 V14c ⟨HF,hHeld⟩
         ·
          rintro XN140 ⟨HF,hHeld⟩;refine rd [12] ?_;refine rcE fun K hK=> ?_;go_simp
          (with_reducible refine(betterS xn xd ln ld q14 XN140).mono ?_)
          rintro e VB14 ⟨rfl,hb⟩;have HB14:=hZ (HF.out.step hb);clear hb;rw[HR14.out.1,HR14.out.2];refine kk hK (range_of (cs:=[.string xn,.string xd]) (HB14.out.at_.has (b11,.cells #[.string xn,.string xd] 29 (0,0)) (by simp))) (fun hHeld=> ?_);clear hK K;refine tk 13 ?_;refine rd [14] ?_;refine rcE fun K hK=> ?_;refine step_store_rat (by rfl) (.tmp 101) (.tmp 100) (by rfl) (by rfl) b6 0 r14n r14d (by rfl) (by rfl) HI2.out (there4 (HB14.out.at_.has (b6,.cells #[.string ln,.string ld,.string hn',.string hd'] 31 (0,0)) (by simp)) (by decide)) ?_;have hh:=set2_lo (HB14.out.at_.has (b6,.cells #[.string ln,.string ld,.string hn',.string hd'] 31 (0,0)) (by simp)) (.string r14n) (.string r14d);have he:Nw w _ [(b13,.cells #[.string un,.string ud] 29 (0,0)),(b11,.cells #[.string xn,.string xd] 29 (0,0)),(b9,.cells #[.string kn,.string kd] 29 (0,0)),(b8,.cells #[.int .i64 tm,.string pn,.string pd,.string qn,.string qd] 86 (0,0)),(b6,.cells #[.string r14n,.string r14d,.string hn',.string hd'] 31 (0,0)),(V2.heap.size,.deferred (some [])),(b5,.cells #[.int .i64 0] 80 (0,0)),(b4,.cells #[.string ⟨#[]⟩,.string ⟨#[]⟩,.string ⟨#[]⟩,.string ⟨#[]⟩] 31 (0,0)),(b2,.cells #[.string gn,.string gd,.slice (some ⟨b,0,none⟩) n c] 58 (0,0))]:=Nw.upd [(b13,.cells #[.string un,.string ud] 29 (0,0)),(b11,.cells #[.string xn,.string xd] 29 (0,0)),(b9,.cells #[.string kn,.string kd] 29 (0,0)),(b8,.cells #[.int .i64 tm,.string pn,.string pd,.string qn,.string qd] 86 (0,0))] HB14.out hh.1 hh.2;obtain⟨VE14,hW⟩:=oQ (VB14.setCells b6 0 [.string r14n,.string r14d]);rw[hW] at he⊢;have HE14:=hZ he;clear hW hh he;refine kk hK (range_of (cs:=[.string xn,.string xd]) (HE14.out.at_.has (b11,.cells #[.string xn,.string xd] 29 (0,0)) (by simp))) (fun hHeld=> ?_);clear hK K;refine dn ?_;go_wp2_with fail;have hS15:World.rangeAt VE14.drew b13 0 [.string un,.string ud]:=range_of (cs:=[.string un,.string ud]) (HE14.out.at_.has (b13,.cells #[.string un,.string ud] 29 (0,0)) (by simp))
          refine wp_region_noPanic ?_;refine wp_region_held_drew (S:=fun U=>U.rangeAt b13 0 [.string un,.string ud]) (by kernel_rfl) hS15 (fun hHeld=> ?_);have hu:=HE14.out.drew;obtain⟨U15,hU⟩:=oQ (VE14.drew);rw[hU] at hu hHeld⊢;have HF:=hZ hu;clear hu hU hS15;refine tl 0 rfl (yieldsIf_load_mid (by rfl) 29 (.tmp 13) rfl b13 0 (by rfl) [.string un,.string ud] _ (fun w hw=>hw) Tryz.underlying29 rfl HI2.out) ?_;refine tk 1 ?_;refine tk 3 ?_;refine tk 4 ?_;refine tk 5 ?_;refine tl 6 rfl (yieldsIf_load_mid (by rfl) 29 (.tmp 13) rfl b13 0 (by rfl) [.string un,.string ud] _ (fun w hw=>hw) Tryz.underlying29 rfl HI2.out) ?_;refine tk 7 ?_;apply sh1;intro N150;apply sh1;intro N151
          ·
           refine rd [2,8] ?_;refine rc (fun K hK=> ?_) ?_
           ·
            refine step_yieldsW (S:=fun U=>U.rangeAt b6 2 [.string hn',.string hd']) (yieldsIf_load_mid (by rfl) 29 (.tmp 103) rfl b6 2 (by rfl) [.string hn',.string hd'] _ (fun w hw=>hw) Tryz.underlying29 rfl HI2.out) (by rfl) (rng_hi (HF.out.at_.has (b6,.cells #[.string r14n,.string r14d,.string hn',.string hd'] 31 (0,0)) (by simp))) ?_;have hq:=HF.out;obtain⟨V15a,hV⟩:=oQ (U15);rw[hV] at hq⊢;have HF:=hZ hq;clear hq hV;refine kk hK (range_of (cs:=[.string un,.string ud]) (HF.out.at_.has (b13,.cells #[.string un,.string ud] 29 (0,0)) (by simp))) (fun hHeld=> ?_);clear hK K;refine rd [8] ?_;refine rcE fun K hK=> ?_;refine step_yieldsW (S:=fun U=>U.rangeAt b6 2 [.string hn',.string hd']) (yieldsIf_load_mid (by rfl) 29 (.tmp 109) rfl b6 2 (by rfl) [.string hn',.string hd'] _ (fun w hw=>hw) Tryz.underlying29 rfl HI2.out) (by rfl) (rng_hi (HF.out.at_.has (b6,.cells #[.string r14n,.string r14d,.string hn',.string hd'] 31 (0,0)) (by simp))) ?_;have hq:=HF.out;obtain⟨V15b,hV⟩:=oQ (V15a);rw[hV] at hq⊢;have HF:=hZ hq;clear hq hV;refine kk hK (range_of (cs:=[.string un,.string ud]) (HF.out.at_.has (b13,.cells #[.string un,.string ud] 29 (0,0)) (by simp))) (fun hHeld=> ?_);clear hK K;have HX:=(And.intro HF hHeld);exact N151 V15b HX
           refine rcE fun K hK=> ?_;refine step_yieldsW (S:=fun U=>U.rangeAt b6 2 [.string hn',.string hd']) (yieldsIf_load_mid (by rfl) 29 (.tmp 109) rfl b6 2 (by rfl) [.string hn',.string hd'] _ (fun w hw=>hw) Tryz.underlying29 rfl HI2.out) (by rfl) (rng_hi (HF.out.at_.has (b6,.cells #[.string r14n,.string r14d,.string hn',.string hd'] 31 (0,0)) (by simp))) ?_;have hq:=HF.out;obtain⟨V15b,hV⟩:=oQ (U15);rw[hV] at hq⊢;have HF:=hZ hq;clear hq hV;refine kk hK (range_of (cs:=[.string un,.string ud]) (HF.out.at_.has (b13,.cells #[.string un,.string ud] 29 (0,0)) (by simp))) (fun hHeld=> ?_);clear hK K;refine rd [2,9] ?_;refine rc (fun K hK=> ?_) ?_
           ·
            refine step_yieldsW (S:=fun U=>U.rangeAt b6 2 [.string hn',.string hd']) (yieldsIf_load_mid (by rfl) 29 (.tmp 103) rfl b6 2 (by rfl) [.string hn',.string hd'] _ (fun w hw=>hw) Tryz.underlying29 rfl HI2.out) (by rfl) (rng_hi (HF.out.at_.has (b6,.cells #[.string r14n,.string r14d,.string hn',.string hd'] 31 (0,0)) (by simp))) ?_;have hq:=HF.out;obtain⟨V15a,hV⟩:=oQ (V15b);rw[hV] at hq⊢;have HF:=hZ hq;clear hq hV;refine kk hK (range_of (cs:=[.string un,.string ud]) (HF.out.at_.has (b13,.cells #[.string un,.string ud] 29 (0,0)) (by simp))) (fun hHeld=> ?_);clear hK K;exact N151 V15a ⟨HF,hHeld⟩
           refine rcE fun K hK=> ?_;go_simp
           (with_reducible refine(HCB.out _ (HP.out.below HF.out.at_.below)).mono ?_)
           rintro e V15c ⟨rfl,hb⟩;have HF:=hZ (HF.out.step hb);clear hb;refine kk hK (range_of (cs:=[.string un,.string ud]) (HF.out.at_.has (b13,.cells #[.string un,.string ud] 29 (0,0)) (by simp))) (fun hHeld=> ?_);clear hK K;refine tk 10 ?_;refine tk 11 ?_;refine rd [2] ?_;refine rcE fun K hK=> ?_;refine step_yieldsW (S:=fun U=>U.rangeAt b6 2 [.string hn',.string hd']) (yieldsIf_load_mid (by rfl) 29 (.tmp 103) rfl b6 2 (by rfl) [.string hn',.string hd'] _ (fun w hw=>hw) Tryz.underlying29 rfl HI2.out) (by rfl) (rng_hi (HF.out.at_.has (b6,.cells #[.string r14n,.string r14d,.string hn',.string hd'] 31 (0,0)) (by simp))) ?_;have hq:=HF.out;obtain⟨V15a,hV⟩:=oQ (V15c);rw[hV] at hq⊢;have HF:=hZ hq;clear hq hV;refine kk hK (range_of (cs:=[.string un,.string ud]) (HF.out.at_.has (b13,.cells #[.string un,.string ud] 29 (0,0)) (by simp))) (fun hHeld=> ?_);clear hK K;have HX:=(And.intro HF hHeld);exact N150 V15a HX
          ·
           rintro XN151 ⟨HF,hHeld⟩;refine rd [9] ?_;refine rcE fun K hK=> ?_;go_simp
           (with_reducible refine(HCB.out _ (HP.out.below HF.out.at_.below)).mono ?_)
           rintro e V15c ⟨rfl,hb⟩;have HF:=hZ (HF.out.step hb);clear hb;refine kk hK (range_of (cs:=[.string un,.string ud]) (HF.out.at_.has (b13,.cells #[.string un,.string ud] 29 (0,0)) (by simp))) (fun hHeld=> ?_);clear hK K;refine tk 10 ?_;refine tk 11 ?_;exact N150 V15c ⟨HF,hHeld⟩
          ·
           rintro XN150 ⟨HF,hHeld⟩;refine rd [12] ?_;refine rcE fun K hK=> ?_;go_simp
           (with_reducible refine(betterS un ud hn' hd' q15 XN150).mono ?_)
           rintro e VB15 ⟨rfl,hb⟩;have HB15:=hZ (HF.out.step hb);clear hb;rw[HR15.out.1,HR15.out.2];refine kk hK (range_of (cs:=[.string un,.string ud]) (HB15.out.at_.has (b13,.cells #[.string un,.string ud] 29 (0,0)) (by simp))) (fun hHeld=> ?_);clear hK K;refine tk 13 ?_;refine rd [14] ?_;refine rcE fun K hK=> ?_;refine step_store_rat (by rfl) (.tmp 115) (.tmp 114) (by rfl) (by rfl) b6 2 r15n r15d (by rfl) (by rfl) HI2.out (there4 (HB15.out.at_.has (b6,.cells #[.string r14n,.string r14d,.string hn',.string hd'] 31 (0,0)) (by simp)) (by decide)) ?_;have hh:=set2_hi (HB15.out.at_.has (b6,.cells #[.string r14n,.string r14d,.string hn',.string hd'] 31 (0,0)) (by simp)) (.string r15n) (.string r15d);have he:Nw w _ [(b13,.cells #[.string un,.string ud] 29 (0,0)),(b11,.cells #[.string xn,.string xd] 29 (0,0)),(b9,.cells #[.string kn,.string kd] 29 (0,0)),(b8,.cells #[.int .i64 tm,.string pn,.string pd,.string qn,.string qd] 86 (0,0)),(b6,.cells #[.string r14n,.string r14d,.string r15n,.string r15d] 31 (0,0)),(V2.heap.size,.deferred (some [])),(b5,.cells #[.int .i64 0] 80 (0,0)),(b4,.cells #[.string ⟨#[]⟩,.string ⟨#[]⟩,.string ⟨#[]⟩,.string ⟨#[]⟩] 31 (0,0)),(b2,.cells #[.string gn,.string gd,.slice (some ⟨b,0,none⟩) n c] 58 (0,0))]:=Nw.upd [(b13,.cells #[.string un,.string ud] 29 (0,0)),(b11,.cells #[.string xn,.string xd] 29 (0,0)),(b9,.cells #[.string kn,.string kd] 29 (0,0)),(b8,.cells #[.int .i64 tm,.string pn,.string pd,.string qn,.string qd] 86 (0,0))] HB15.out hh.1 hh.2;obtain⟨VE15,hW⟩:=oQ (VB15.setCells b6 2 [.string r15n,.string r15d]);rw[hW] at he⊢;have HE15:=hZ he;clear hW hh he;refine kk hK (range_of (cs:=[.string un,.string ud]) (HE15.out.at_.has (b13,.cells #[.string un,.string ud] 29 (0,0)) (by simp))) (fun hHeld=> ?_);clear hK K;refine dn ?_;clear hHeld;go_wp2_with fail
           go_roundw
           case rel=>
            (have ht1:l.take (i+1)=l.take i++[d]:=by rw[List.take_add_one,HDD.out];rfl);have hac:=HAC.out.1.snoc d;rw[HXU.out.1,HXU.out.2,←ht1] at hac;(have k1:decide (L<xz)=q14:=by have h:=HAC.out.2.1;rw[←h];unfold cmpZ;split<;>(try split)<;>simp<;>omega);(have k2:decide (uz<H)=q15:=by have h:=HAC.out.2.2;rw[←h];unfold cmpZ;split<;>(try split)<;>simp<;>omega);rw[k1,k2] at hac;obtain⟨s1,s2,s3,s4⟩:=HST.out;obtain⟨f1,f2,f3,f4⟩:=HFF.out;refine⟨i+1,r14n,r14d,r15n,r15d,by simp,by omega,hZ (.inr ⟨_,_,hac,?_,?_,?_,?_⟩),hZ HE15.out.tail.tail.tail.tail⟩
            · rw[←HR14.out.1,←s1,←f1];cases q14<;>rfl
            · rw[←HR14.out.2,←s2,←f2];cases q14<;>rfl
            · rw[←HR15.out.1,←s3,←f3];cases q15<;>rfl
            · rw[←HR15.out.2,←s4,←f4];cases q15<;>rfl
           case measure=>simp[intOf];omega
     · have d5:decide (i<n)=false:=by simp;omega
       (obtain rfl:i=n:=by omega);rcases HACC.out with h0|⟨L,H,hac,rfl,rfl,rfl,rfl⟩
       · omega
       have HAC:=hZ hac;clear hac HACC;have y60:=HF.out.at_.cell (b:=b6) (cs:=#[.string (nB L),.string (dB L),.string (nB H),.string (dB H)]) (t:=31) (i:=0) (by simp) rfl;have y61:=HF.out.at_.cell (b:=b6) (cs:=#[.string (nB L),.string (dB L),.string (nB H),.string (dB H)]) (t:=31) (i:=1) (by simp) rfl;have y62:=HF.out.at_.cell (b:=b6) (cs:=#[.string (nB L),.string (dB L),.string (nB H),.string (dB H)]) (t:=31) (i:=2) (by simp) rfl;have y63:=HF.out.at_.cell (b:=b6) (cs:=#[.string (nB L),.string (dB L),.string (nB H),.string (dB H)]) (t:=31) (i:=3) (by simp) rfl
       go_wp2_with (first
        | ((with_reducible refine wpList_store_rowN rfl 31 (.tmp 4) (.tmp 117) rfl rfl b4 #[.string (nB L),.string (dB L),.string (nB H),.string (dB H)] #[.string ⟨#[]⟩,.string ⟨#[]⟩,.string ⟨#[]⟩,.string ⟨#[]⟩] ?hx ?hy ?hi (HF.out.at_.has (b4,.cells #[.string ⟨#[]⟩,.string ⟨#[]⟩,.string ⟨#[]⟩,.string ⟨#[]⟩] 31 (0,0)) (by simp)) rfl ?h1 ?_);(case hx=>rfl);(case hy=>rfl);(case hi=>kernel_rfl);(case h1=>simp[Value.oneCell']);intro V4 h5 t5
           have HF4:=hZ (Nw.upd [(b6,.cells #[.string (nB L),.string (dB L),.string (nB H),.string (dB H)] 31 (0,0)),(V2.heap.size,.deferred (some [])),(b5,.cells #[.int .i64 0] 80 (0,0))] HF.out h5 t5);have c5:=HF4.out.at_.cell (b:=b5) (cs:=#[.int .i64 0]) (t:=80) (i:=0) (by simp) rfl;have f5:=cells_free (HF4.out.at_.has (b5,.cells #[.int .i64 0] 80 (0,0)) (by simp)) 0
           clear h5 t5)
        |fail)
       have hl:=Nw.upd [(b6,.cells #[.string (nB L),.string (dB L),.string (nB H),.string (dB H)] 31 (0,0)),(V2.heap.size,.deferred (some []))] HF4.out (heap_setCell_same V4 b5 0 _ _ (.int .i64 0) (HF4.out.at_.has (b5,.cells #[.int .i64 0] 80 (0,0)) (by simp))) (Turns.setCell _ _ _ rfl);have hd:=hl.at_.has (V2.heap.size,.deferred (some [])) (by simp);refine⟨by simp,.inl ⟨_,_,rfl,run_takeDeferred hd,?_⟩⟩;have hl2:=Nw.upd [(b6,.cells #[.string (nB L),.string (dB L),.string (nB H),.string (dB H)] 31 (0,0))] hl (World.putObj_heap_same (o:=.deferred none) (Array.getElem?_eq_some_iff.1 hd).1) (Turns.putObj _ _ _ rfl);have hl3:=hl2.tail.tail.re (M:=[(b5,.cells #[.int .i64 0] 80 (0,0)),(b4,.cells #[.string (nB L),.string (dB L),.string (nB H),.string (dB H)] 31 (0,0))]) (by simp) (by have h:=hl2.tail.tail.nd;simp at h⊢ <;>omega);refine⟨_,at_res hl3 rfl rfl,?_⟩;rw[←HRR.out];have hac':=HAC.out;rw[List.take_of_length_le (Nat.le_of_eq HH.out.len)] at hac';exact⟨.inr ⟨⟨by omega,HNC.out⟩,L,H,hac',rfl⟩,hl3.at_.below⟩
   case stop=>
    rintro c' pre W ⟨i,k,hc⟩ ⟨rfl,hf⟩ hK;have HF3:=hZ hf;have HKK:=hZ hK;clear hf hK
    gi_wp2_with fail
    refine⟨by simp,.inl ⟨_,_,rfl,run_takeDeferred HKK.out,?_⟩⟩;have hT:Turns (fun k=>k=V2.heap.size) W (W.putObj V2.heap.size (.deferred none)):=Turns.putObj _ _ _ rfl;have hb:=hT.below HF3.out.at_.below (Nat.le_refl _) (fun k hk=>by have:=HBV.out.size;omega);have hl:Nw w (W.putObj V2.heap.size (.deferred none)) [(b5,.cells #[.int .i64 120] 80 (0,0)),(b4,.cells #[.string ⟨#[]⟩,.string ⟨#[]⟩,.string ⟨#[]⟩,.string ⟨#[]⟩] 31 (0,0))]:=HF3.out.turnsY (V:=V2) (by have:=HLT.out;simp;omega) HBV.out.size (hT.mono fun k hk=>.inl hk);refine⟨_,at_res hl rfl rfl,?_⟩;rw[←HRR.out];exact⟨.inl ⟨.inr ⟨i,k,hc⟩,rfl⟩,hb⟩
end Go.Proofs.YteeifhlhpiimoaaGreatDoor
end
section
namespace Go.Proofs.YteeifhlhpiimoaaGreatDoor
open Go Go.RowKit Go.Shelf Wr
theorem txtL_int {neg:Bool} {n:Nat} (h:neg=true→0<n):txtL neg n=intS (if neg=true then -(n:Int) else(n:Int)):=by
 cases neg with
 | false=>
   have:=txt_int (n:Int);rw[decide_eq_false (show ¬(n:Int)<0 by omega)] at this
   exact this
 | true=>
   have h0:=h rfl;have:=txt_int (-(n:Int));rw[decide_eq_true (show -(n:Int)<0 by omega),show(-(n:Int)).natAbs=n by omega] at this;exact this
theorem rat_ok {x:Int} {y:Nat} (h0:0<y) (hx:x.natAbs<1000000000000000000) (hy:y<1000000000000000000):ratOk (rnB x y).data.toList (rdB x y).data.toList=true:=by
 have hg:0<Nat.gcd x.natAbs y:=Nat.gcd_pos_of_pos_right _ h0;have dn:Nat.gcd x.natAbs y∣x.natAbs:=Nat.gcd_dvd_left _ _;have dd:Nat.gcd x.natAbs y∣y:=Nat.gcd_dvd_right _ _;obtain⟨g,hgg⟩:=oQ (Nat.gcd x.natAbs y)
 have e1:(rnB x y).data.toList=intS (if decide (x<0)=true then -((x.natAbs/g:Nat):Int) else((x.natAbs/g:Nat):Int)):=by
  have:(rnB x y).data.toList=txtL (decide (x<0)) (x.natAbs/Nat.gcd x.natAbs y):=rfl;rw[this,hgg];refine txtL_int (fun h=> ?_);have hx0:0<x.natAbs:=by have:=of_decide_eq_true h;omega
  rw[hgg] at hg dn;exact Nat.div_pos (Nat.le_of_dvd hx0 dn) hg
 have e2:(rdB x y).data.toList=intS ((y/g:Nat):Int):=by
  have:(rdB x y).data.toList=txtL false (y/Nat.gcd x.natAbs y):=rfl;rw[this,hgg];exact txtL_int (fun h=>by cases h)
 have hny:0<y/g:=by rw[hgg] at hg dd;exact Nat.div_pos (Nat.le_of_dvd h0 dd) hg
 have l1:(x.natAbs/g)<10^18:=Nat.lt_of_le_of_lt (Nat.div_le_self _ _) hx;have l2:(y/g)<10^18:=Nat.lt_of_le_of_lt (Nat.div_le_self _ _) hy;have s1:∀n:Nat,n<10^18→(decS n).length≤200:=fun n hn=>by rw[decS_len_dg];have:=dg_len_le hn;omega
 obtain⟨z,hz⟩:=oQ ((if decide (x<0)=true then -((x.natAbs/g:Nat):Int) else((x.natAbs/g:Nat):Int)));have hza:z.natAbs=x.natAbs/g:=by rw[←hz];split;exact(Int.natAbs_neg _).trans (Int.natAbs_natCast _);exact Int.natAbs_natCast _
 have t1:=text_valid (z:=z) (by rw[hza];exact s1 _ l1);have t2:=text_valid (z:=((y/g:Nat):Int)) (s1 _ l2);rw[e1,e2,hz];unfold ratOk;rw[t1.1,t1.2,t2.1,t2.2,hza]
 have hc:Nat.gcd (x.natAbs/g) (y/g)=1:=by
  rw[hgg] at dn dd hg;rw[Nat.gcd_div dn dd,hgg];exact Nat.div_self hg
 have hna:(((y/g:Nat):Int)).natAbs=y/g:=rfl;rw[hna];simp only[Bool.true_and,Bool.and_eq_true,decide_eq_true_eq];exact⟨by omega,hc⟩
theorem txtL_len {neg:Bool} {n:Nat} (h:n<1000000000000000000):(txtL neg n).length≤19:=by
 have h2:(dg n).length≤18:=dg_len_le h;have h3:=decS_len_dg n;unfold txtL
 split
 · simp
 · rw[List.length_append]
   (have:(if neg=true then([45]:List UInt8) else[]).length≤1:=by split<;>simp);omega
theorem strip_len_le (l:List UInt8):(stripM l).length≤l.length:=by
 cases l with
 |nil=>exact Nat.le_refl _
 |cons c l=>rw[strip_cons];split<;>simp
theorem short_ok {x:Int} {y:Nat} (hx:x.natAbs<1000000000000000000) (hy:y<1000000000000000000):shortS (rnB x y).data.toList (rdB x y).data.toList=true:=by
 have l1:(rnB x y).data.toList.length≤19:=txtL_len (Nat.lt_of_le_of_lt (Nat.div_le_self _ _) hx);have l2:(rdB x y).data.toList.length≤19:=txtL_len (Nat.lt_of_le_of_lt (Nat.div_le_self _ _) hy);have l3:=strip_len_le (rnB x y).data.toList;unfold shortS;simp only[Bool.and_eq_true,decide_eq_true_eq];omega
theorem kind_some (y:Six):(1+pickZ y.y0 9:Int)=(kindOf y:Int)∧1≤kindOf y∧kindOf y≤9:=by
 have h:=pickZ_range y.y0 (n:=9) (by omega);unfold kindOf;omega
theorem head_ok (y:Six) {e:Ent} (hv:e.ver=1+pickZ (Int.tdiv y.y0 9) 3) (hd:e.day=pickZ y.y1 30):headQ e=true:=by
 have h1:=pickZ_range (Int.tdiv y.y0 9) (n:=3) (by omega);have h2:=pickZ_range y.y1 (n:=30) (by omega);unfold headQ;rw[hv,hd];simp only[Bool.and_eq_true,decide_eq_true_eq];omega
theorem some_valid_plain (y:Six) (h:kindOf y≠1∧kindOf y≠2∧kindOf y≠8):validE (someE y)=true:=by
 obtain⟨k1,k2,k3⟩:=kind_some y;have p3:=pickZ_range y.y3 (n:=9) (by omega);have p4:=pickZ_range y.y4 (n:=40) (by omega);have p5:=pickZ_range y.y5 (n:=30) (by omega);have s0:=pickZ_range (shE y 0) (n:=4) (by omega);have s1:=pickZ_range (shE y 1) (n:=4) (by omega);have s2:=pickZ_range (shE y 2) (n:=4) (by omega);have s3:=pickZ_range (shE y 3) (n:=4) (by omega);have s4:=pickZ_range (shE y 4) (n:=4) (by omega);have hr:=root_size y.y2;have hnil:(⟨#[]⟩:ByteArray).toList=[]:=by rw[ByteArray.toList_eq]
 rcases(show kindOf y=3∨kindOf y=4∨kindOf y=5∨kindOf y=6∨kindOf y=7∨kindOf y=9 by omega) with e|e|e|e|e|e
 all_goals
  rw[e] at k1;have hh:=head_ok y (e:=someE y) (by unfold someE;rw[e];rfl) (by unfold someE;rw[e];rfl);have hkk:(someE y).kind=1+pickZ y.y0 9:=by unfold someE;rw[e];rfl
  unfold validE condQ;rw[hkk,k1];simp only[shapeQ,hh];unfold someE;rw[e];simp[fieldsL,foldE,stepE,setE,headE,checks,Ent.num,Ent.clr,zeroE,hnil,hr]
  try omega
theorem low_terms {x:Int} {y:Nat} (h0:0<y) (hx:x.natAbs<1000000000000000000) (hy:y<1000000000000000000):
 ∃(n:Int) (g d:Nat),0<g∧n*g=x∧d*g=y∧valI (rnB x y).data.toList=n∧valI (rdB x y).data.toList=(d:Int):=by
 have hg:0<Nat.gcd x.natAbs y:=Nat.gcd_pos_of_pos_right _ h0;have dn:Nat.gcd x.natAbs y∣x.natAbs:=Nat.gcd_dvd_left _ _;have dd:Nat.gcd x.natAbs y∣y:=Nat.gcd_dvd_right _ _;have e0:(rnB x y).data.toList=txtL (decide (x<0)) (x.natAbs/Nat.gcd x.natAbs y):=rfl;have e3:(rdB x y).data.toList=txtL false (y/Nat.gcd x.natAbs y):=rfl;obtain⟨g,hgg⟩:=oQ (Nat.gcd x.natAbs y);rw[hgg] at hg dn dd e0 e3;obtain⟨q,hq⟩:=dn;obtain⟨d,hd⟩:=dd;have hq1:x.natAbs/g=q:=by rw[hq,Nat.mul_div_cancel_left _ hg]
 have hd1:y/g=d:=by rw[hd,Nat.mul_div_cancel_left _ hg]
 rw[hq1] at e0;rw[hd1] at e3;have s1:∀n:Nat,n<10^18→(decS n).length≤200:=fun n hn=>by rw[decS_len_dg];have:=dg_len_le hn;omega
 have l1:q<10^18:=by rw[←hq1];exact Nat.lt_of_le_of_lt (Nat.div_le_self _ _) hx
 have l2:d<10^18:=by rw[←hd1];exact Nat.lt_of_le_of_lt (Nat.div_le_self _ _) hy
 have hqp:x<0→0<q:=fun h=>by
  rcases Nat.eq_zero_or_pos q with r|r
  · rw[r] at hq;simp at hq;omega
  · exact r
 obtain⟨z,hz⟩:=oQ ((if decide (x<0)=true then -(q:Int) else(q:Int)));have hza:z.natAbs=q:=by rw[←hz];split;exact(Int.natAbs_neg _).trans (Int.natAbs_natCast _);exact Int.natAbs_natCast _
 refine⟨z,g,d,hg,?_,by rw[hd,Nat.mul_comm],?_,?_⟩
 · have h1:((g*q:Nat):Int)=(x.natAbs:Int):=by rw[hq]
   rw[Int.natCast_mul] at h1;rw[←hz]
   by_cases h:x<0
   · rw[if_pos (decide_eq_true h),Int.neg_mul,Int.mul_comm];omega
   · rw[if_neg (by simpa using h),Int.mul_comm];omega
 · rw[e0,txtL_int (fun h=>hqp (of_decide_eq_true h)),hz]
   exact(text_valid (by rw[hza];exact s1 _ l1)).2
 · rw[e3,txtL_int (fun h=>by cases h)]
   exact(text_valid (z:=(d:Int)) (s1 _ l2)).2
theorem value_ok {x1 x2:Int} {d:Nat} (h0:0<d) (h1:x1.natAbs<1000000000000000000) (h2:x2.natAbs<1000000000000000000) (hd:d<1000000000000000000) (hle:x1≤x2):
 encOk (rnB x1 d).data.toList (rdB x1 d).data.toList (rnB x2 d).data.toList (rdB x2 d).data.toList=true:=by
 obtain⟨n1,g1,d1,p1,q1,r1,a1,b1⟩:=low_terms h0 h1 hd;obtain⟨n2,g2,d2,p2,q2,r2,a2,b2⟩:=low_terms h0 h2 hd;unfold encOk;rw[rat_ok h0 h1 hd,rat_ok h0 h2 hd,a1,b1,a2,b2];simp only[Bool.true_and,decide_eq_true_eq]
 have key:n1*(d2:Int)≤n2*(d1:Int):=by
  have hp:(0:Int)<(g1:Int)*(g2:Int):=Int.mul_pos (by omega) (by omega);refine Int.le_of_mul_le_mul_right ?_ hp
  have e1:n1*(d2:Int)*((g1:Int)*(g2:Int))=x1*(d:Int):=by
   rw[←q1,←r2,Int.natCast_mul];simp only[Int.mul_assoc,Int.mul_comm,Int.mul_left_comm]
  have e2:n2*(d1:Int)*((g1:Int)*(g2:Int))=x2*(d:Int):=by
   rw[←q2,←r1,Int.natCast_mul];simp only[Int.mul_assoc,Int.mul_comm,Int.mul_left_comm]
  rw[e1,e2];exact Int.mul_le_mul_of_nonneg_right hle (by omega)
 unfold cmpZ
 split
 · omega
 · rw[if_neg (by omega)];exact Int.le_refl _
theorem rn_prefix {x:Int} {y:Nat} (h:0≤x):Lib.hasPrefix (rnB x y).data.toList [45]=false:=by
 have e0:(rnB x y).data.toList=txtL (decide (x<0)) (x.natAbs/Nat.gcd x.natAbs y):=rfl;rw[e0,decide_eq_false (by omega)]
 have hd:∀c∈txtL false (x.natAbs/Nat.gcd x.natAbs y),dig10 c=true:=by
  unfold txtL
  split
  · intro c hc;rw[List.mem_singleton.1 hc];decide
  · intro c hc;exact decS_dig _ c (by simpa using hc)
 have hh:=digits_head hd;unfold Lib.hasPrefix
 cases hl:txtL false (x.natAbs/Nat.gcd x.natAbs y) with
 |nil=>rfl
 | cons c l=>
   rw[hl] at hh;simp only[List.head?_cons,ne_eq,Option.some.injEq] at hh;simp only[List.isPrefixOf,Bool.and_true];exact beq_eq_false_iff_ne.2 (fun e=>hh e.symm)
theorem some_valid (y:Six):validE (someE y)=true:=by
 by_cases hp:kindOf y≠1∧kindOf y≠2∧kindOf y≠8
 · exact some_valid_plain y hp
 obtain⟨k1,k2,k3⟩:=kind_some y;have p3:=pickZ_range y.y3 (n:=9) (by omega);have p4:=pickZ_range y.y4 (n:=40) (by omega);have p41:=pickZ_range y.y2 (n:=41) (by omega);have p5:=pickZ_range y.y5 (n:=5) (by omega);have p9:=pickZ_range y.y2 (n:=9) (by omega);have pd:=pickZ_range (Int.tdiv y.y2 41) (n:=4) (by omega);have q9:=pickZ_range y.y4 (n:=9) (by omega);have s0:=pickZ_range (shE y 0) (n:=4) (by omega);have s2:=pickZ_range (shE y 2) (n:=4) (by omega);have s3:=pickZ_range (shE y 3) (n:=4) (by omega);have hl:(loE y).natAbs<1000000000000000000:=by unfold loE;omega
 have hh:(hiE y).natAbs<1000000000000000000:=by unfold hiE;omega
 have hd:denE y<1000000000000000000∧0<denE y:=by unfold denE;omega
 have hr:denR y<1000000000000000000∧0<denR y:=by unfold denR;omega
 have hp9:(pickZ y.y2 9).natAbs<1000000000000000000:=by omega
 have hle:loE y≤hiE y:=by unfold loE hiE;omega
 have hnil:(⟨#[]⟩:ByteArray).toList=[]:=by rw[ByteArray.toList_eq]
 have V:=value_ok hd.2 hl hh hd.1 hle;have V1:=short_ok (x:=loE y) (y:=denE y) hl hd.1;have V2:=short_ok (x:=hiE y) (y:=denE y) hh hd.1;have R:=rat_ok (x:=pickZ y.y2 9) (y:=denR y) hr.2 hp9 hr.1;have R1:=short_ok (x:=pickZ y.y2 9) (y:=denR y) hp9 hr.1;have R2:=rn_prefix (x:=pickZ y.y2 9) (y:=denR y) p9.1;rcases(show kindOf y=1∨kindOf y=2∨kindOf y=8 by omega) with e|e|e
 all_goals
  rw[e] at k1;have hh:=head_ok y (e:=someE y) (by unfold someE;rw[e];rfl) (by unfold someE;rw[e];rfl);have hkk:(someE y).kind=1+pickZ y.y0 9:=by unfold someE;rw[e];rfl
  unfold validE condQ;rw[hkk,k1];simp only[shapeQ,hh];unfold someE;rw[e];simp[fieldsL,foldE,stepE,setE,headE,checks,Ent.num,Ent.clr,zeroE,hnil,Ent.valueOk,Ent.rateOk,V,V1,V2,R,R1,R2]
  try omega
theorem corr_mem {l:List Ent} {e:Ent} {day:Int} (he:okD day e=true) (hv:∀x∈l,x.ver<e.ver) (x:Ent):x∈effD (l++[e]) day↔(x=e∧e.gone=false)∨(keyE x≠keyE e∧x∈effD l day):=by
 have mem:∀z,z∈l++[e]↔z∈l∨z=e:=fun z=>by simp
 have ve:=(okD_iff.1 he).1;rw[effD_mem,effD_mem];constructor
 · rintro⟨⟨h1,h2,_,h4⟩,hg⟩
   by_cases hk:keyE x=keyE e
   · left
     rcases h4 e ((mem e).2 (.inr rfl)) he hk.symm with q|q
     · subst q;exact⟨rfl,hg⟩
     · exfalso
       have h:=(prev_iff.1 q).2.2.2;rcases(mem x).1 h1 with r|r
       · have:=hv x r;omega
       · subst r;have:=(prev_ranks day).irr x;rw[q] at this;cases this
   · right
     refine⟨hk,⟨?_,h2,rfl,fun z hz a b=>h4 z ((mem z).2 (.inl hz)) a b⟩,hg⟩;rcases(mem x).1 h1 with r|r
     · exact r
     · subst r;exact(hk rfl).elim
 · rintro(⟨rfl,hg⟩|⟨hk,⟨h1,h2,_,h4⟩,hg⟩)
   · refine⟨⟨(mem x).2 (.inr rfl),he,rfl,fun z hz a b=> ?_⟩,hg⟩
     rcases(mem z).1 hz with r|r
     · right;exact prev_iff.2 ⟨ve,(okD_iff.1 a).1,b.symm,.inl (hv z r)⟩
     · exact .inl r
   · refine⟨⟨(mem x).2 (.inl h1),h2,rfl,fun z hz a b=> ?_⟩,hg⟩
     rcases(mem z).1 hz with r|r
     · exact h4 z r a b
     · subst r;exact(hk b.symm).elim
theorem corr_early {l:List Ent} {e:Ent} {day:Int} (h:day<e.day) (j:Nat):knownL l day j=knownL (l++[e]) day j:=known_same (fun x hx=>by
 rw[List.mem_append,List.mem_singleton];constructor
 · exact .inl
 · rintro(q|rfl)
   · exact q
   · have:=(okD_iff.1 hx).2;omega) j
theorem known_mem {l:List Ent} {day:Int} {j:Nat} {x:Ent}:x∈knownL l day j↔x∈effD l day∧x.kind=((j+1:Nat):Int):=by
 unfold knownL;rw[sortB_mem,List.mem_filter];simp
theorem ver_step (y:Six) (k f:Nat) (e:Ent):(stepE y k f e).ver=e.ver:=by
 unfold stepE
 split<;>first|rfl|(unfold setE;split<;>rfl)
theorem ver_fold (y:Six):∀(fs:List Nat) (k:Nat) (e:Ent),(foldE y k fs e).ver=e.ver
 |[],_,_=>rfl
 |f::fs,k,e=>(ver_fold y fs (k+1) _).trans (ver_step y k f e)
theorem some_ver (y:Six):1≤(someE y).ver∧(someE y).ver≤3:=by
 have h:(someE y).ver=1+pickZ (Int.tdiv y.y0 9) 3:=ver_fold y _ 0 _;have:=pickZ_range (Int.tdiv y.y0 9) (n:=3) (by omega);rw[h];omega
end Go.Proofs.YteeifhlhpiimoaaGreatDoor
end
