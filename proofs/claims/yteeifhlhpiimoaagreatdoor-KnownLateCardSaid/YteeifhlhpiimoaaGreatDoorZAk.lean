/-
  Known's number, its comparison, and the sorting of entries by it. Conditions: each contract's own. slices.SortFunc at an owned row of structs, told as a list. Conditions: the comparison's contract, a strict weak order. Contract of known.lists. Condition: the base's block. A base that a call builds: nine owned rows apart from each other; what Of's lists are, plainly. No condition. Contract of known.Of. Conditions: a list of at most 1000000 entries whose texts have at most 65536 bytes; the table of powers stands. Entries compared whole; slices.Equal at them; known.Same. Conditions: the lists' bounds. Contracts of slices.Equal at entries and of known.Same. Conditions: the lists' bounds.
-/
import Derived.Test.YteeifhlhpiimoaaGreatDoorZAa
import Derived.Test.YteeifhlhpiimoaaGreatDoorZAj
import Derived.Shelf.SlSortCmp.NoneTotal
import Derived.Laws.StructEq
set_option maxHeartbeats 8000000
set_option maxRecDepth 100000
section
namespace Go.Proofs.YteeifhlhpiimoaaGreatDoor
open Go Go.RowKit Go.Shelf Go.Maps Wr
attribute [local go_sem] Oper.semAt_some
def numE (e:Ent):Int:=if e.kind=2∨e.kind=8∨e.kind=6 then e.item else e.id
def Grows (W w':World):Prop:=∃(q:Nat) (os:Array Obj),w'=Go.Sort.grow (W.drewN q) os
theorem Grows.trans {A B C:World} (h:Grows A B) (k:Grows B C):Grows A C:=by
 obtain⟨q,os,rfl⟩:=h;obtain⟨q',os',rfl⟩:=k;exact⟨q+q',os++os',by simp[Go.Sort.grow,World.drewN,Nat.add_assoc]⟩
theorem Grows.alloc (W:World) (o:Obj):Grows W (W.alloc o):=⟨0,#[o],by rw[Go.Sort.alloc_eq_grow];rfl⟩
theorem Grows.drew (W:World):Grows W W.drew:=⟨1,#[],by rw[Go.Sort.grow_empty];rfl⟩
theorem Grows.below {W V:World} (h:Grows W V):Below W.heap.size W V:=by
 obtain⟨q,os,rfl⟩:=h;refine⟨rfl,rfl,rfl,by simp[Go.Sort.grow,World.drewN],fun k hk=> ?_⟩;simp[Go.Sort.grow,World.drewN,Array.getElem?_append_left hk]
theorem box_entg {P:Program} {ops:Array Oper} {rest:List Oper} {op:Oper} {a:Act} {w:World} {Q:Exit→Act→World→Prop} (hgd:op.guard=none) (x:Operand) (ho:op.op=.box 33 x) (e:Ent) (hx:a.eval x=.agg e.cells.toArray)
 (h:∀w',EntAt w' w.heap.size e→Grows w w'→wpList P ops Q rest (a.put op.dst (.pointer (some ⟨w.heap.size,0,none⟩))) w'):wpList P ops Q (op::rest) a w:=
 wpList_plain hgd fun _ hK=>by
  have h2:=hK _ _ (h (w.alloc (.cells e.cells.toArray 33)) (World.alloc_heap_new w _) (Grows.alloc _ _));obtain⟨cs,hcs⟩:=oQ (e.cells.toArray);rw[hcs] at hx h2;unfold Oper.wp execOp;simp only[ho,hx,Instr.box,Sem.run_bind,Sem.run_pure,newVar,newRow,Value.cells];simpa[go_sem] using h2
theorem number_walk (e:Ent) (w:World):Calls Tryz.prog 61 #[e.val] w fun r w'=>r=.returned (.int .i64 (numE e))∧Grows w w':=by
 obtain⟨a,ha⟩:=oQ ((e.kind==2));obtain⟨b,hb⟩:=oQ ((e.kind==8));obtain⟨c,hc⟩:=oQ ((e.kind==6))
 have hn:numE e=if a=true∨b=true∨c=true then e.item else e.id:=by
  unfold numE;rw[←ha,←hb,←hc];simp
 rw[hn];clear hn
 cases a<;>cases b<;>cases c<;>
 · simp only[Bool.false_eq_true,or_self,or_true,true_or,if_true,if_false]
   go_enter Tryz.func61,Tryz.ntmps61
   go_wp2_with (first
    | ((with_reducible refine box_entg rfl (.tmp 0) rfl e ?hx ?_);(case hx=>rfl);intro w1 he1 hg1
       have x0:=he1.cell (i:=0) rfl;have x1:=he1.cell (i:=1) rfl;have x8:=he1.cell (i:=8) rfl;have HG:=hZ hg1
       clear he1 hg1)
    |fail)
   go_ret;exact⟨rfl,HG.out⟩
theorem of1_walk (x y:Ent) (w:World):Calls Tryz.prog 59 #[x.val,y.val] w fun r w'=>r=.returned (.int .i64 (cmpZ' (numE x) (numE y)))∧Grows w w':=by
 have IE:=fun e:Ent=>hZ (ientry (e:=e));obtain⟨p,hp⟩:=oQ (numE x);obtain⟨q,hq⟩:=oQ (numE y);have HP:=hZ hp;have HQ:=hZ hq;rw[hp,hq];clear hp hq
 go_enter Tryz.func59,Tryz.ntmps59
 go_wp2_with (first
  | ((with_reducible refine box_entg rfl (.tmp 0) rfl x ?hx ?_);(case hx=>rfl);intro w1 he1 hg1
     obtain⟨b1,hb1⟩:=oQ (w.heap.size);rw[hb1] at he1;rw[hb1];have HE1:=hZ he1;have HG1:=hZ hg1
     clear he1 hg1 hb1)
  | ((with_reducible refine box_entg rfl (.tmp 1) rfl y ?hx ?_);(case hx=>rfl);intro w2 he2 hg2
     have HX2:=hZ (HE1.out.below hg2.below);obtain⟨b2,hb2⟩:=oQ (w1.heap.size);rw[hb2] at he2;rw[hb2];have HE2:=hZ he2;have HG2:=hZ (HG1.out.trans hg2)
     clear he2 hg2 hb2)
  |fail)
 have hS0:EntAt w2.drew b1 x∧EntAt w2.drew b2 y:=⟨HX2.out,HE2.out⟩;have HG3:Hid (Grows w w2.drew):=hZ (HG2.out.trans (Grows.drew _));refine wp_region_noPanic ?_;refine wp_region_held_drew (S:=fun U=>EntAt U b1 x∧EntAt U b2 y) (by kernel_rfl) hS0 (fun hHeld=> ?_);refine tl 0 rfl (yieldsIf_load_mid (by rfl) 33 (.tmp 2) rfl b1 0 (by rfl) x.cells _ (fun w hw=>range_of hw.1) Tryz.underlying33 rfl (IE x).out) ?_;refine tl 2 rfl (yieldsIf_load_mid (by rfl) 33 (.tmp 3) rfl b2 0 (by rfl) y.cells _ (fun w hw=>range_of hw.2) Tryz.underlying33 rfl (IE y).out) ?_;refine rd [1] ?_;refine rcE fun K hK=> ?_;go_simp
 (with_reducible refine(number_walk x _).mono ?_)
 rintro e5 w5 ⟨rfl,hg5⟩;have HG5:=hZ (HG3.out.trans hg5);have HB5:=hZ hg5.below;rw[HP.out];clear hg5;refine kk hK (⟨hS0.1.below HB5.out,hS0.2.below HB5.out⟩) (fun hHeld=> ?_);clear hK K;refine rd [3] ?_;refine rcE fun K hK=> ?_;go_simp
 (with_reducible refine(number_walk y _).mono ?_)
 rintro e6 w6 ⟨rfl,hg6⟩;have HG6:=hZ (HG5.out.trans hg6);have HB6:=hZ hg6.below;rw[HQ.out];clear hg6;refine kk hK (⟨(hS0.1.below HB5.out).below HB6.out,(hS0.2.below HB5.out).below HB6.out⟩) (fun hHeld=> ?_);clear hK K;refine rd [4] ?_;refine rcE fun K hK=> ?_;go_simp
 (with_reducible refine(cmp_walk _ _ _).mono ?_)
 rintro e7 w7 ⟨rfl,rfl⟩;refine kk hK (⟨(hS0.1.below HB5.out).below HB6.out,(hS0.2.below HB5.out).below HB6.out⟩) (fun hHeld=> ?_);clear hK K;refine tk 5 ?_;refine dn ?_;clear hHeld;go_wp2;go_ret;exact⟨rfl,HG6.out⟩
end Go.Proofs.YteeifhlhpiimoaaGreatDoor
end
section
namespace Go.Proofs.YteeifhlhpiimoaaGreatDoor
open Go Go.RowKit Go.Shelf Go.Maps Go.Sort Wr
attribute [local go_sem] Oper.semAt_some
instance entInh:Inhabited Ent:=⟨zeroE⟩
theorem div_at {α:Type} {f:α→List Value} {k:Nat} (hk0:0<k) (hf:∀x,(f x).length=k) (l:List α) {t:Nat} (ht:t<l.length*k):∃x,l[t/k]?=some x∧(l.flatMap f)[t]?=(f x)[t%k]?:=by
 have h1:t/k<l.length:=(Nat.div_lt_iff_lt_mul hk0).2 ht;refine⟨l[t/k],List.getElem?_eq_getElem h1,?_⟩;have h2:=flat_at hf l (t/k) l[t/k] (List.getElem?_eq_getElem h1) (t%k) (Nat.mod_lt _ hk0)
 rwa[Nat.mul_comm,Nat.div_add_mod] at h2
theorem row_holds {α:Type} [Inhabited α] {f:α→List Value} {k:Nat} (hk0:0<k) (hf:∀x,(f x).length=k) {w:World} {N:Nat} {T:TypeId} {g n cap:Nat} {l:List α} (h:OL w N T k f (.slice (some ⟨g,0,none⟩) n cap) l):HoldsK f k w g 0 l.toArray:=by
 intro t ht;have ht':t<l.length*k:=by simpa using ht
 obtain⟨x,hx,he⟩:=div_at hk0 hf l ht';have hlen:(l.flatMap f).length=l.length*k:=flatMap_length hf
 have hn:n=l.length:=by
  rcases h.2 with⟨he,_⟩|⟨g',cap',cur',he,_⟩
  · cases he
  · injection he
 subst hn;have hc:=World.ownsRow.cellAt h t (by omega);have hz:=World.ownsRow.frozenAt h t;rw[Nat.zero_add];refine⟨?_,hz⟩;rw[hc,he,get_flatK _ _ _ _ (by simpa using ht')];have hl:t/k<l.length:=(List.getElem?_eq_some_iff.1 hx).1
 have h3:l.toArray[t/k]! =x:=by
  rw[getElem!_pos _ _ (by simpa using hl)];simpa using(List.getElem?_eq_some_iff.1 hx).2
 have hm:t%k<(f x).length:=by rw[hf];exact Nat.mod_lt _ hk0
 rw[h3,List.getElem?_eq_getElem hm,getElem!_pos (f x) (t%k) hm];rfl
theorem sorted_block {α:Type} [Inhabited α] {f:α→List Value} {k g m:Nat} {w:World} {T:TypeId} {cur:Array Value} (h:w.heap[g]?=some (.cells cur T (0,0))) (d:Array α) (os:Array Obj):
 (∃cur',(sortWorldK f k w g 0 m d os).heap[g]?=some (.cells cur' T (0,0))∧cur'.size=cur.size)∧Turns (fun q=>q=g) w (sortWorldK f k w g 0 m d os):=by
 have hlt:g<w.heap.size:=(Array.getElem?_eq_some_iff.1 h).1;unfold sortWorldK putRowK putRow mapBlock Go.Sort.grow Go.Sort.ahead;refine⟨⟨putCells id 0 (flatK f k d) cur,?_,by simp[putCells]⟩,rfl,rfl,rfl,by simp,fun q hq hz=> ?_⟩
 · rw[Array.getElem?_append_left (by simpa using hlt),Array.getElem?_modify,if_pos rfl,h]
   rfl
 · rw[Array.getElem?_append_left (by simpa using hq),Array.getElem?_modify,if_neg (fun e=>hz e.symm)]
theorem sorted_ol {α:Type} [Inhabited α] {f:α→List Value} {k:Nat} (hk0:0<k) (hf:∀x,(f x).length=k) {w:World} {N:Nat} {T:TypeId} {g n cap m:Nat} {l:List α} (h:OL w N T k f (.slice (some ⟨g,0,none⟩) n cap) l) (d:Array α) (hd:d.size=l.length) (os:Array Obj):
 OL (sortWorldK f k w g 0 m d os) N T k f (.slice (some ⟨g,0,none⟩) n cap) d.toList:=by
 have hh:=holdsK_sortWorldK f k w g 0 m l.toArray d os (by
  rcases h.2 with⟨he,_⟩|⟨g',cap',cur',he,_,hc,_⟩
  · cases he
  · cases he;exact(Array.getElem?_eq_some_iff.1 hc).1) (row_holds hk0 hf h) (by simpa using hd)
 rcases h.2 with⟨he,_⟩|⟨g',cap',cur,he,hb,hc,h4,h5,h6,h7⟩
 · cases he
 · cases he
   obtain⟨⟨cur',hc',hs'⟩,-⟩:=sorted_block (f:=f) (k:=k) (m:=m) hc d os;(have hdl:d.toList.length=l.length:=by rw[Array.length_toList];exact hd);(have hlen:(d.toList.flatMap f).length=l.length*k:=by rw[flatMap_length hf,hdl]);refine⟨by rw[hlen,hdl],.inr ⟨g,cap,cur',by rw[hdl],hb,hc',by rw[hdl];exact h4,h5,by rw[hs'];exact h6,?_⟩⟩;rw[hdl];(have hcap:l.length*k≤cur'.size:=by rw[hs',h6];exact Nat.mul_le_mul_right _ h4);apply List.ext_getElem?;intro t
   by_cases ht:t<l.length*k
   · have ht':t<d.toList.length*k:=by rw[hdl];exact ht
     obtain⟨x,hx,he⟩:=div_at hk0 hf d.toList ht';have h1:=(hh t (by rw[size_flatK,hd];exact ht)).1;rw[Nat.zero_add,get_flatK _ _ _ _ (by rw[hd];exact ht)] at h1
     have hdx:d[t/k]! =x:=by
      obtain⟨h8,h9⟩:=List.getElem?_eq_some_iff.1 hx;rw[getElem!_pos _ _ (by simpa using h8)];simpa using h9
     (have hm:t%k<(f x).length:=by rw[hf];exact Nat.mod_lt _ hk0);(have h2:(sortWorldK f k w g 0 m d os).cell? ⟨g,t,none⟩=cur'[t]?:=by simp[World.cell?,hc']);rw[List.getElem?_take,if_pos ht,Array.getElem?_toList,←h2,h1,hdx,he,List.getElem?_eq_getElem hm,getElem!_pos (f x) (t%k) hm];rfl
   · rw[List.getElem?_eq_none (by simp;omega),List.getElem?_eq_none (by omega)]
theorem perm_lists {α:Type} [Inhabited α] {d d':Array α} (h:PermIn 0 d.size d d'):d'.size=d.size∧d'.toList.Perm d.toList:=by
 refine⟨h.1,?_⟩;have h2:=h.2.2;have e1:d'.extract 0 d.size=d':=by rw[←h.1];simp
 have e2:d.extract 0 d.size=d:=by simp
 rwa[e1,e2] at h2
theorem sorted_up {α:Type} [Inhabited α] {lt:α→α→Bool} {d:Array α} {n:Nat} (hn:n=d.size) (h:SortedIn lt 0 n d):Up lt d.toList:=by
 subst hn;unfold Up;rw[List.pairwise_iff_getElem];intro i j hi hj hij;have:=h i j (Nat.zero_le _) hij (by simpa using hj);rw[getElem!_pos d j (by simpa using hj),getElem!_pos d i (by simpa using hi)] at this;simpa using this
theorem sort_ol {α:Type} [Inhabited α] {ρ:Ren} (L:SlLaysF0.n6 Tryz.prog ρ) (k:Nat) (hk0:0<k) (aE:∀w,(isAgg (ρ.t 24)).run Tryz.prog w=.ok true w) (zE:∀w,(Go.sizeOf (ρ.t 24)).run Tryz.prog w=.ok k w) (enc:α→List Value) (hk:∀x,(enc x).length=k) (h1:∀x,∀v∈enc x,v.oneCell'=true) (cf:α→α→Int) (hO:SWO (ltOf cf)) (g:Nat)
 (eg:∀args w,(callFunc g args).run Tryz.prog w=.ok (.enter g args) w) (hcmp:∀x y W,Calls Tryz.prog g #[.agg (enc x).toArray,.agg (enc y).toArray] W fun e w'=>e=.returned (.int .i64 (cf x y))∧Grows W w')
 (hnone:∀w,Calls Tryz.prog (ρ.f 6) #[.slice none 0 0,.func (.func g) #[] #[]] w fun e w'=>e=.returned (.tuple #[])∧w'=w)
 {w:World} {N:Nat} {T:TypeId} {v:Value} {l:List α} (h:OL w N T k enc v l) (hl:l.length<4611686018427387904):
 Calls Tryz.prog (ρ.f 6) #[v,.func (.func g) #[] #[]] w fun r w'=>r=.returned (.tuple #[])∧∃l',OL w' N T k enc v l'∧l'.Perm l∧Up (ltOf cf) l'∧Turns (fun q=>v.ownBlock=some q) w w':=by
 rcases h.2 with⟨he,hz⟩|⟨b,cap,cur,he,hb,hc,h4,h5,h6,h7⟩
 · subst he
   have:l=[]:=List.eq_nil_of_length_eq_zero hz;subst this;refine(hnone w).mono fun e w' q=>⟨q.1,[],?_,List.Perm.refl _,List.Pairwise.nil,?_⟩
   · rw[q.2];exact h
   · rw[q.2];exact Turns.refl _ _
 · subst he
   have hcl:CmpLays Tryz.prog g #[] enc k cf b 0 l.toArray.size w:=fun m os dk hs x y=>(hcmp x y _).mono fun e w' q=>⟨q.1,q.2⟩;have hs:=AnyQ.slices_SortFunc L k aE zE enc hk h1 cf hO g #[] b 0 cap l.toArray w eg hcl (row_holds hk0 hk h) ((Array.getElem?_eq_some_iff.1 hc).1) (by simpa using hl);rw[List.size_toArray] at hs;refine hs.mono fun e w' q=> ?_;obtain⟨rfl,d',m,os,hp,hso,rfl⟩:=q;have hpp:=perm_lists (d:=l.toArray) (by simpa using hp);refine⟨rfl,d'.toList,sorted_ol hk0 hk h d' (by simpa using hpp.1) os,by simpa using hpp.2,sorted_up (by simpa using hpp.1.symm) hso,(sorted_block hc d' os).2.mono fun q hq=> ?_⟩;subst hq;rfl
end Go.Proofs.YteeifhlhpiimoaaGreatDoor
end
section
namespace Go.Proofs.YteeifhlhpiimoaaGreatDoor
open Go Go.RowKit Go.Shelf Go.Maps Wr
attribute [local go_sem] Oper.semAt_some
theorem set_row {W:World} {b:Nat} {old:Array Value} {T:TypeId} (h:W.heap[b]?=some (.cells old T (0,0))) (cs:Array Value):(W.setRow b cs).heap[b]?=some (.cells cs T (0,0))∧Turns (fun k=>k=b) W (W.setRow b cs):=by
 refine⟨?_,⟨rfl,rfl,rfl,by simp[World.setRow],fun k hk hz=> ?_⟩⟩
 · simp only[World.setRow,Array.getElem?_modify,h]
   simp
 · simp only[World.setRow,Array.getElem?_modify]
   rw[if_neg (fun e=>hz e.symm)]
theorem step_store_row {P:Program} {ops:Array Oper} {o:Oper} {a:Act} {V:World} {K:Act→World→Prop} {Q:Exit→Act→World→Prop} {D:Prop} (hgd:o.guard=none) (T:TypeId) (x y:Operand) (ho:o.op=.store T x y) (hd:o.dst=none) (b:Nat) (cs old:Array Value)
 (hx:a.eval x=.pointer (some ⟨b,0,none⟩)) (hy:a.eval y=.agg cs) (hi:(P.info? T).map (·.size)=some cs.size) (h:V.heap[b]?=some (.cells old T (0,0))) (hold:old.size=cs.size) (h1:cs.all (·.oneCell')=true)
 (hk:∀V',V'.heap[b]?=some (.cells cs T (0,0))→Turns (fun k=>k=b) V V'→K a V'):
 if Region.wanted o (yielded ops a.tmps)=true then Oper.wp P o a V K Q else D:=by
 have hw:Region.wanted o (yielded ops a.tmps)=true:=by simp[Region.wanted,hgd]
 rw[if_pos hw];refine wp_store_row _ x y ho b _ hx hy T _ h hi hold h1 ?_;rw[hd];exact hk _ (set_row h cs).1 (set_row h cs).2
theorem wpList_store_rowN {P:Program} {ops:Array Oper} {rest:List Oper} {o:Oper} {a:Act} {V:World} {Q:Exit→Act→World→Prop} (hgd:o.guard=none) (T:TypeId) (x y:Operand) (ho:o.op=.store T x y) (hd:o.dst=none) (b:Nat) (cs old:Array Value)
 (hx:a.eval x=.pointer (some ⟨b,0,none⟩)) (hy:a.eval y=.agg cs) (hi:(P.info? T).map (·.size)=some cs.size) (h:V.heap[b]?=some (.cells old T (0,0))) (hold:old.size=cs.size) (h1:cs.all (·.oneCell')=true)
 (hk:∀V',V'.heap[b]?=some (.cells cs T (0,0))→Turns (fun k=>k=b) V V'→wpList P ops Q rest a V'):wpList P ops Q (o::rest) a V:=
 wpList_store_rowTo hgd T x y ho hd b cs hx hy T old h hi hold h1 (hk _ (set_row h cs).1 (set_row h cs).2)
theorem results_cellN {P:Program} {fn:Func} {p:Tmp} {ty:TypeId} (h:fn.results=#[.cell p ty]) (tmps:Array Value) (w:World) (b:Nat) (cs:List Value) (d:TypeDesc)
 (hp:tmps.getD p undef=.pointer (some ⟨b,0,none⟩)) (hc:w.rangeAt b 0 cs) (hu:P.underlying ty=some d) (hr:d.isRow=true)
 (hi:(P.info? ty).map (·.size)=some cs.length):(results fn tmps).run P w=.ok (.agg cs.toArray) w:=by
 have hp':tmps[p]?.getD undef=.pointer (some ⟨b,0,none⟩):=by simpa using hp
 simp[results,h,hp',asAddr,run_loadVar_mid w b 0 ty cs d hc hu hr hi]
def ptrs (b:Nat):List Value:=[.pointer none,.pointer (some ⟨b,0,none⟩),.pointer (some ⟨b,1,none⟩),.pointer (some ⟨b,2,none⟩),.pointer (some ⟨b,3,none⟩),.pointer (some ⟨b,4,none⟩),.pointer (some ⟨b,5,none⟩),.pointer (some ⟨b,6,none⟩),.pointer (some ⟨b,7,none⟩),.pointer (some ⟨b,8,none⟩)]
theorem ptrs_at (b j:Nat) (h:j<9):(ptrs b)[j+1]?=some (.pointer (some ⟨b,j,none⟩)):=by
 match j,h with
 |0,_=>rfl
 |1,_=>rfl
 |2,_=>rfl
 |3,_=>rfl
 |4,_=>rfl
 |5,_=>rfl
 |6,_=>rfl
 |7,_=>rfl
 |8,_=>rfl
theorem lists_walk (b:Nat) (w:World):Calls Tryz.prog 55 #[.pointer (some ⟨b,0,none⟩)] w fun r w'=>r=.returned (.agg (ptrs b).toArray)∧Below w.heap.size w w':=by
 go_enter Tryz.func55,Tryz.ntmps55
 go_wp2;obtain⟨V,hV⟩:=oQ (w.alloc (.cells #[.pointer none,.pointer none,.pointer none,.pointer none,.pointer none,.pointer none,.pointer none,.pointer none,.pointer none,.pointer none] 96));have hc:Hid (V.heap[w.heap.size]?=some (.cells #[.pointer none,.pointer none,.pointer none,.pointer none,.pointer none,.pointer none,.pointer none,.pointer none,.pointer none,.pointer none] 96 (0,0))):=hZ (by rw[←hV];exact World.alloc_heap_new _ _);have hB:Hid (Below w.heap.size w V):=hZ (by rw[←hV];exact below_new _ _);rw[hV];clear hV;have hS0:True:=trivial;refine wp_region_noPanic ?_;refine wp_region_held_drew (S:=fun _=>True) (by kernel_rfl) hS0 (fun hHeld=> ?_);refine tk 0 ?_;refine tk 1 ?_;refine tk 2 ?_;refine tk 3 ?_;refine tk 4 ?_;refine tk 5 ?_;refine tk 6 ?_;refine tk 7 ?_;refine tk 8 ?_;refine tk 9 ?_;refine tk 10 ?_;refine tk 11 ?_;refine tk 12 ?_;refine tk 13 ?_;refine tk 14 ?_;refine tk 15 ?_;refine tk 16 ?_;refine tk 17 ?_;refine tk 18 ?_;refine tk 19 ?_;refine tk 20 ?_;refine tk 21 ?_;refine tk 22 ?_;refine tk 23 ?_;refine tk 24 ?_;refine tk 25 ?_;refine tk 26 ?_;refine tk 27 ?_;refine rd [28] ?_;refine rcE fun K hK=> ?_;refine step_store_row (by rfl) 96 (.tmp 2) (.tmp 30) (by rfl) (by rfl) w.heap.size (ptrs b).toArray _ (by rfl) (by rfl) (by kernel_rfl) hc.out (by rfl) (by simp[ptrs,Value.oneCell']) ?_;intro V' hc' ht';have HC':=hZ hc';have HT':=hZ ht';clear hc' ht';refine kk hK (trivial) (fun hHeld=> ?_);clear hK K;refine dn ?_;go_wp2;refine bodyPost_ret (results_cellN rfl _ _ w.heap.size (ptrs b) _ rfl (range_of HC'.out) Tryz.underlying96 rfl (by kernel_rfl)) rfl ?_;exact⟨rfl,HT'.out.below (Below.drew hB.out) (Nat.le_refl _) (fun k hk=>by omega)⟩
def upd {α:Type} (f:Nat→α) (j:Nat) (x:α) (i:Nat):α:=if i=j then x else f i
theorem upd_same {α:Type} (f:Nat→α) (j:Nat) (x:α):upd f j x j=x:=by unfold upd;rw[if_pos rfl]
theorem upd_other {α:Type} (f:Nat→α) {j i:Nat} (x:α) (h:i≠j):upd f j x i=f i:=by unfold upd;rw[if_neg h]
def nine (vf:Nat→Value):Array Value:=#[vf 0,vf 1,vf 2,vf 3,vf 4,vf 5,vf 6,vf 7,vf 8]
theorem nine_at (vf:Nat→Value) {j:Nat} (h:j<9):(nine vf)[j]?=some (vf j):=by
 match j,h with
 |0,_=>rfl
 |1,_=>rfl
 |2,_=>rfl
 |3,_=>rfl
 |4,_=>rfl
 |5,_=>rfl
 |6,_=>rfl
 |7,_=>rfl
 |8,_=>rfl
theorem nine_set (vf:Nat→Value) {j:Nat} (h:j<9) (v:Value):(nine vf).setIfInBounds j v=nine (upd vf j v):=by
 match j,h with
 |0,_=>rfl
 |1,_=>rfl
 |2,_=>rfl
 |3,_=>rfl
 |4,_=>rfl
 |5,_=>rfl
 |6,_=>rfl
 |7,_=>rfl
 |8,_=>rfl
structure BasO (w:World) (N bB:Nat) (vf:Nat→Value) (lf:Nat→List Ent):Prop where
 blk:w.heap[bB]?=some (.cells (nine vf) 36 (0,0))
 row:∀j,j<9→OL w N 33 18 Ent.cells (vf j) (lf j)
 apart:∀i j,i<9→j<9→i≠j→∀g,(vf i).ownBlock=some g→(vf j).ownBlock≠some g
theorem ol_ne {w:World} {B:Nat} {e t:TypeId} {size:Nat} {f:Ent→List Value} {v:Value} {l:List Ent} (h:OL w B e size f v l) {b:Nat} {cs:Array Value} {fz:Nat×Nat} (hb:w.heap[b]?=some (.cells cs t fz)) (ht:t≠e):v.ownBlock≠some b:=fun q=>by
 rcases h.2 with⟨rfl,_⟩|⟨g,cap,cur,rfl,_,hg,_⟩
 · cases q
 · have:g=b:=by injection q
   subst this;rw[hb] at hg;injection hg with hg;injection hg with h1 h2 h3;exact ht h2
theorem BasO.below {w w':World} {N bB:Nat} {vf:Nat→Value} {lf:Nat→List Ent} (h:BasO w N bB vf lf) (hb:Below w.heap.size w w'):BasO w' N bB vf lf:=
 ⟨(hb.block _ (Array.getElem?_eq_some_iff.1 h.blk).1).trans h.blk,fun j hj=>(h.row j hj).below hb (Nat.le_refl _),h.apart⟩
theorem BasO.put {w w1:World} {N bB:Nat} {vf:Nat→Value} {lf:Nat→List Ent} (h:BasO w N bB vf lf) {j:Nat} (hj:j<9) {v':Value} {l':List Ent} (hg:Turns (fun q=>(vf j).ownBlock=some q) w w1) (ho:OL w1 N 33 18 Ent.cells v' l')
 (hv':∀g,v'.ownBlock=some g→(vf j).ownBlock=some g∨w.heap.size≤g):BasO (w1.setCell ⟨bB,j,none⟩ v') N bB (upd vf j v') (upd lf j l'):=by
 have hlt:bB<w.heap.size:=(Array.getElem?_eq_some_iff.1 h.blk).1;have hb1:w1.heap[bB]?=some (.cells (nine vf) 36 (0,0)):=(hg.block bB hlt (ol_ne (h.row j hj) h.blk (by decide))).trans h.blk
 have hb2:(w1.setCell ⟨bB,j,none⟩ v').heap[bB]?=some (.cells (nine (upd vf j v')) 36 (0,0)):=by
  rw[←nine_set vf hj v'];simp only[World.setCell,Array.getElem?_modify,hb1];simp
 have keep:∀{v l},OL w1 N 33 18 Ent.cells v l→OL (w1.setCell ⟨bB,j,none⟩ v') N 33 18 Ent.cells v l:=fun{v l} q=>q.keep fun g hgv=>Below.heap_setCell _ _ _ _ fun e=>ol_ne q hb1 (by decide) (by rw[hgv,e]);refine⟨hb2,fun i hi=> ?_,fun i k hi hk hne g hgi=> ?_⟩
 · by_cases hij:i=j
   · subst hij;rw[upd_same,upd_same];exact keep ho
   · rw[upd_other vf v' hij,upd_other lf l' hij]
     refine keep ((h.row i hi).keep fun g hgv=>hg.block g ((h.row i hi).lt g hgv).2 fun e=> ?_);exact h.apart i j hi hj hij g hgv e
 · by_cases hij:i=j
   · subst hij
     rw[upd_same] at hgi;rw[upd_other vf v' (fun e=>hne e.symm)];intro e;rcases hv' g hgi with q|q
     · exact h.apart i k hi hk hne g q e
     · have:=((h.row k hk).lt g e).2;omega
   · rw[upd_other vf v' hij] at hgi
     by_cases hkj:k=j
     · subst hkj
       rw[upd_same];intro e;rcases hv' g e with q|q
       · exact h.apart i k hi hk hij g hgi q
       · have:=((h.row i hi).lt g hgi).2;omega
     · rw[upd_other vf v' hkj]
       exact h.apart i k hi hk hne g hgi
theorem BasO.turn {w w1:World} {N bB:Nat} {vf:Nat→Value} {lf:Nat→List Ent} (h:BasO w N bB vf lf) {j:Nat} (hj:j<9) {l':List Ent} (hg:Turns (fun q=>(vf j).ownBlock=some q) w w1) (ho:OL w1 N 33 18 Ent.cells (vf j) l'):BasO w1 N bB vf (upd lf j l'):=by
 have hlt:bB<w.heap.size:=(Array.getElem?_eq_some_iff.1 h.blk).1;refine⟨(hg.block bB hlt (ol_ne (h.row j hj) h.blk (by decide))).trans h.blk,fun i hi=> ?_,h.apart⟩
 by_cases hij:i=j
 · subst hij;rw[upd_same];exact ho
 · rw[upd_other lf l' hij]
   exact(h.row i hi).keep fun g hgv=>hg.block g ((h.row i hi).lt g hgv).2 fun e=>h.apart i j hi hj hij g hgv e
def addrOf:Value→Option Addr
 |.slice A _ _=>A
 |_=>none
def capOf:Value→Nat
 |.slice _ _ c=>c
 |_=>0
theorem OL.nilcap {α:Type} {w:World} {B n c size:Nat} {T:TypeId} {f:α→List Value} {A:Option Addr} {l:List α} (h:OL w B T size f (.slice A n c) l):A=none→c=0:=by
 intro e;rcases h.2 with⟨h1,_⟩|⟨g,cap,cur,h1,_⟩
 · injection h1
 · injection h1 with h1 _ _;rw[e] at h1;cases h1
def mkBas (vf:Nat→Value) (lf:Nat→List Ent):Bas:=⟨lf,fun i=>addrOf (vf i),fun i=>capOf (vf i)⟩
theorem BasO.bas {w:World} {N bB:Nat} {vf:Nat→Value} {lf:Nat→List Ent} (h:BasO w N bB vf lf):(mkBas vf lf).val=.agg (nine vf)∧BasAt w (Old w) (mkBas vf lf):=by
 have hv:∀j,j<9→Value.slice (addrOf (vf j)) (lf j).length (capOf (vf j))=vf j:=fun j hj=>by
  obtain⟨A,cap,e,_,_⟩:=(h.row j hj).slice;rw[e];rfl
 refine⟨?_,⟨fun i hi=> ?_,fun i hi=> ?_,fun i hi=> ?_⟩⟩
 · unfold Bas.val Bas.cells mkBas nine
   simp only[hv 0 (by decide),hv 1 (by decide),hv 2 (by decide),hv 3 (by decide),hv 4 (by decide),hv 5 (by decide),hv 6 (by decide),hv 7 (by decide),hv 8 (by decide)]
 · have hr:=h.row i hi
   obtain⟨A,cap,e,_,_⟩:=hr.slice;show EAt w (Old w) (addrOf (vf i)) (lf i);rw[e] at hr⊢;refine EAt.of_ol hr fun b hb=> ?_;exact(hr.lt b (by show Value.ownBlock (Value.slice A _ _)=some b;rw[show A=some ⟨b,0,none⟩ from hb];rfl)).2
 · have hr:=h.row i hi
   obtain⟨A,cap,e,h1,h2⟩:=hr.slice;show(lf i).length≤capOf (vf i)∧capOf (vf i)≤maxLen;rw[e];exact⟨h1,h2⟩
 · have hr:=h.row i hi
   obtain⟨A,cap,e,_,_⟩:=hr.slice;show addrOf (vf i)=none→capOf (vf i)=0;rw[e] at hr⊢;exact hr.nilcap
def knownL (l:List Ent) (day:Int) (j:Nat):List Ent:=sortB (byNum numE) ((effD l day).filter fun e=>decide (e.kind=((j+1:Nat):Int)))
theorem numE_key (e:Ent):numE e=e.num (keyIx e.kind):=by
 unfold numE keyIx
 by_cases h:e.kind=2∨e.kind=8∨e.kind=6
 · rw[if_pos h,if_pos (by omega)];rfl
 · rw[if_neg h,if_neg (by omega)];rfl
theorem key_of_num {e f:Ent} (he:validE e=true) (hf:validE f=true) (hk:e.kind=f.kind) (hn:numE e=numE f):keyE e=keyE f:=by
 unfold keyE;rw[if_pos he,if_pos hf,hk];rw[numE_key,numE_key,hk] at hn;rw[hn]
theorem apart_kind {l:List Ent} {k:Int} (hd:Keyd keyE l) (hv:∀e∈l,validE e=true∧e.kind=k):Apart (byNum numE) l:=by
 unfold Apart Keyd at*;refine(List.pairwise_iff_forall_sublist.2 fun{a b} hab=> ?_);have ha:=hv a (hab.subset (by simp));have hb:=hv b (hab.subset (by simp));have hne:=(List.pairwise_iff_forall_sublist.1 hd) hab;have:numE a≠numE b:=fun e=>hne (key_of_num ha.1 hb.1 (ha.2.trans hb.2.symm) e);unfold byNum;simp only[decide_eq_true_eq];omega
theorem effD_ok (l:List Ent) (day:Int):∀e∈effD l day,e∈l∧validE e=true∧e.day≤day∧e.gone=false:=fun e he=>by
 unfold effD at he;obtain⟨h1,h2⟩:=List.mem_filter.1 he;obtain⟨h3,h4⟩:=effL_ok (ok:=okD day) (key:=keyE) (prev:=prevE) l e h1;unfold okD at h4;simp only[Bool.and_eq_true,decide_eq_true_eq] at h4;exact⟨h3,h4.1,h4.2,by simpa using h2⟩
theorem effD_keyd (l:List Ent) (day:Int):Keyd keyE (effD l day):=List.Pairwise.filter _ (effL_keyd l)
theorem known_of {l:List Ent} {day:Int} {j:Nat} {m m':List Ent} (hd:Keyd keyE m) (hm:∀e,e∈m↔e∈effD l day∧e.kind=((j+1:Nat):Int)) (hp:m'.Perm m) (hu:Up (byNum numE) m'):m'=knownL l day j:=by
 have a1:Apart (byNum numE) m:=apart_kind (k:=((j+1:Nat):Int)) hd fun e he=>⟨(effD_ok l day e ((hm e).1 he).1).2.1,((hm e).1 he).2⟩;rw[sorted_unique (byNum_weak numE) hu hp a1];refine sortB_same (byNum_weak numE) a1 ?_ fun x=> ?_
 · refine apart_kind (k:=((j+1:Nat):Int)) (List.Pairwise.filter _ (effD_keyd l day)) fun e he=> ?_
   obtain⟨h1,h2⟩:=List.mem_filter.1 he;exact⟨(effD_ok l day e h1).2.1,by simpa using h2⟩
 · rw[hm x,List.mem_filter];simp
theorem MapAt.size_le {w:World} {b n:Nat} {D:DataW Ent} (h:w.ownsMap Tryz.prog 9 rdE b n D):Maps.size D≤n:=by
 obtain⟨es,clock,_,_,hs,rfl⟩:=h;show((es.toList.map _).foldr DataW.insert []).length≤n;rw[length_sorted];simpa using hs
theorem elemEnt:Elem Tryz.prog 25 33 18 200:=Elem.mk' (z:=zeroE.val) Tryz.underlying25 (by kernel_rfl) rfl (by decide)
def Part1 (acc:List Ent) (left:Lit→Bool) (lf:Nat→List Ent):Prop:=∀j,j<9→Keyd keyE (lf j)∧∀e,e∈lf j↔e∈acc∧e.kind=((j+1:Nat):Int)∧left (klit (keyE e))=false
theorem Part1.step {acc:List Ent} {left:Lit→Bool} {lf:Nat→List Ent} (h:Part1 acc left lf) (hk:Keyd keyE acc) {c:Ent} (hc:c∈acc) {j:Nat} (hj:c.kind=((j+1:Nat):Int)) (hl:left (klit (keyE c))=true):
 Part1 acc (fun z=>left z&& !z.sameKey (klit (keyE c))) (upd lf j (lf j++[c])):=by
 have hn:∀i,i<9→∀e∈lf i,keyE e≠keyE c:=fun i hi e he q=>by
  obtain⟨h1,_,h3⟩:=((h i hi).2 e).1 he;rw[q,hl] at h3;cases h3
 have hleft:∀e∈acc,((left (klit (keyE e))&& !(klit (keyE e)).sameKey (klit (keyE c)))=false↔e=c∨left (klit (keyE e))=false):=fun e he=>by
  by_cases hec:keyE e=keyE c
  · obtain rfl:=hk.one he hc hec
    rw[strike_same];simp
  · rw[strike left _ (fun q=>hec (klit_inj q))]
    constructor
    · exact .inr
    · rintro(q|q)
      · exact(hec (by rw[q])).elim
      · exact q
 intro i hi
 by_cases hij:i=j
 · subst hij
   rw[upd_same];refine⟨List.pairwise_append.2 ⟨(h i hi).1,List.pairwise_singleton _ _,fun a ha b hb=> ?_⟩,fun e=> ?_⟩
   · rw[List.mem_singleton.1 hb];exact hn i hi a ha
   · rw[List.mem_append,List.mem_singleton,(h i hi).2 e]
     constructor
     · rintro(⟨h1,h2,h3⟩|rfl)
       · exact⟨h1,h2,(hleft e h1).2 (.inr h3)⟩
       · exact⟨hc,hj,(hleft e hc).2 (.inl rfl)⟩
     · rintro⟨h1,h2,h3⟩
       rcases(hleft e h1).1 h3 with rfl|q
       · exact .inr rfl
       · exact .inl ⟨h1,h2,q⟩
 · rw[upd_other _ _ hij]
   refine⟨(h i hi).1,fun e=> ?_⟩;rw[(h i hi).2 e];constructor
   · rintro⟨h1,h2,h3⟩
     exact⟨h1,h2,(hleft e h1).2 (.inr h3)⟩
   · rintro⟨h1,h2,h3⟩
     refine⟨h1,h2,?_⟩;rcases(hleft e h1).1 h3 with rfl|q
     · rw[hj] at h2;exact(hij (by omega)).elim
     · exact q
theorem ranges_ne {w:World} {b r n:Nat} {D:DataW Ent} {left:Lit→Bool} {cnt:Nat} (h:w.ranges Tryz.prog 9 rdE b r n D left cnt) {g:Nat} {cs:Array Value} {t:TypeId} {fz:Nat×Nat} (hg:w.heap[g]?=some (.cells cs t fz)):b≠g∧r≠g:=by
 obtain⟨es,clock,since,seen,c0,h1,_,_,_,h2,_⟩:=h;constructor
 · intro e;subst e;rw[h1] at hg;cases hg
 · intro e;subst e;rw[h2] at hg;cases hg
theorem own_cells {w:World} {N:Nat} {v:Value} {l:List Ent} (h:OL w N 33 18 Ent.cells v l) {g:Nat} (hg:v.ownBlock=some g):∃cs,w.heap[g]?=some (.cells cs 33 (0,0)):=by
 rcases h.2 with⟨rfl,_⟩|⟨g',cap,cur,rfl,_,h2,_⟩
 · cases hg
 · have:g'=g:=by injection hg
   subst this;exact⟨_,h2⟩
theorem grown_turns {w w':World} {row:Option Nat} (h:w.grownBy w' row):Turns (fun q=>row=some q) w w':=⟨h.os,h.tape,h.output,h.size,fun k hk hz=>h.block k hk (fun e=>hz e.symm)⟩
theorem BasO.turns {w w':World} {N bB:Nat} {vf:Nat→Value} {lf:Nat→List Ent} {Z:Nat→Prop} (h:BasO w N bB vf lf) (t:Turns Z w w') (hz:∀k cs T fz,w.heap[k]?=some (.cells cs T fz)→¬Z k):BasO w' N bB vf lf:=
 ⟨(t.block _ (Array.getElem?_eq_some_iff.1 h.blk).1 (hz _ _ _ _ h.blk)).trans h.blk,fun j hj=>(h.row j hj).keep fun g hg=>by
   obtain⟨cs,hc⟩:=own_cells (h.row j hj) hg
   exact t.block g ((h.row j hj).lt g hg).2 (hz _ _ _ _ hc),h.apart⟩
theorem one_cells' (e:Ent):∀u∈e.cells,u.oneCell'=true:=fun u hu=>by
 have:=one_cells e;rw[Array.all_eq_true_iff_forall_mem] at this;exact this u (by simpa using hu)
theorem run_build_ent (w:World) (e:Ent):(Instr.buildSlice 25 1 #[(0,e.val)]).run Tryz.prog w=.ok (.slice (some ⟨w.heap.size,0,none⟩) 1 1) (w.alloc (.cells e.cells.toArray 33)):=by
 obtain⟨i,h1,h2,h3,h4⟩:=info_parts (show(Tryz.prog.info? 33).map (fun i=>(i.zero,i.size,i.bytes))=some (some zeroE.val,18,200) by kernel_rfl);refine run_buildSlice w 25 33 1 _ e.cells.toArray i zeroE.val Tryz.underlying25 h1 h2 (by rw[h3];decide) (by rw[h3];decide) ?_;rw[h3]
 kernel_rfl
theorem step_build_ent {ops:Array Oper} {o:Oper} {a:Act} {w:World} {K:Act→World→Prop} {Q:Exit→Act→World→Prop} {D:Prop} (hgd:o.guard=none) (x:Operand) (ho:o.op=.buildSlice 25 1 #[(0,x)]) (e:Ent) (hx:a.eval x=e.val)
 (hk:∀b V,w.heap.size=b→Below b w V→V.heap[b]?=some (.cells e.cells.toArray 33 (0,0))→K (a.put o.dst (.slice (some ⟨b,0,none⟩) 1 1)) V):
 if Region.wanted o (yielded ops a.tmps)=true then Oper.wp Tryz.prog o a w K Q else D:=by
 have hw:Region.wanted o (yielded ops a.tmps)=true:=by simp[Region.wanted,hgd]
 rw[if_pos hw];have h:=hk _ _ rfl (below_new w (.cells e.cells.toArray 33)) (World.alloc_heap_new w _);unfold Oper.wp execOp;have hr:=run_build_ent w e;obtain⟨z,hz⟩:=oQ (e.val);rw[hz] at hr hx;simp only[ho,List.map_toArray,List.map_cons,List.map_nil,hx,Sem.run_bind,hr,Result.andThen_ok];exact h
def nilBase:Array Value:=nine fun _=>.slice none 0 0
theorem ltOf_num (x y:Ent):ltOf (fun x y:Ent=>cmpZ' (numE x) (numE y)) x y=byNum numE x y:=by
 unfold ltOf cmpZ' byNum
 by_cases h1:numE x<numE y
 · simp[h1]
 · by_cases h2:numE y<numE x<;>simp[h1,h2]
theorem swo_num:Go.Sort.SWO (ltOf fun x y:Ent=>cmpZ' (numE x) (numE y)) where
 irrefl x:=by rw[ltOf_num];simp[byNum]
 trans x y z h1 h2:=by rw[ltOf_num] at*;simp[byNum] at*;omega
 ntrans x y z h1 h2:=by rw[ltOf_num] at*;simp[byNum] at*;omega
theorem sort_num {w:World} {N:Nat} {v:Value} {l:List Ent} (h:OL w N 33 18 Ent.cells v l) (hl:l.length≤1000000):
 Calls Tryz.prog 58 #[v,.func (.func 59) #[] #[]] w fun r w'=>r=.returned (.tuple #[])∧∃l',OL w' N 33 18 Ent.cells v l'∧l'.Perm l∧Up (ltOf fun x y=>cmpZ' (numE x) (numE y)) l'∧Turns (fun q=>v.ownBlock=some q) w w':=
 sort_ol Tryz.sortEnt 18 (by decide) Tryz.isAgg33 Tryz.sizeOf33 Ent.cells (fun _=>rfl) (fun x u hu=>one_cells' x u hu) (fun x y=>cmpZ' (numE x) (numE y)) swo_num 59
  (enters_of Tryz.func59 (by kernel_rfl) rfl) (fun x y W=>of1_walk x y W) (fun w=>AnyF.slices_SortFunc_none Tryz.sortEnt none 0 _ w) h (by omega)
theorem knownOf_walk (l:List Ent) (day:Int) (A:Option Addr) (n c:Nat) (hn:l.length=n) (hm:n≤1000000) (w:World) (hA:EAt w (Old w) A l) (hw:∀e∈l,e.Wire) (hp:Pow10 w):
 Calls Tryz.prog 15 #[.slice A n c,.int .i64 day] w fun e w'=> ∃B:Bas,e=.returned B.val∧BasAt w' (Old w') B∧(∀j,j<9→B.ls j=knownL l day j)∧Below w.heap.size w w':=by
 have HA:=hZ hA;have HWL:=hZ hw;have HP:=hZ hp;have HN:=hZ hn;have HM:=hZ hm;have IE:=fun e:Ent=>hZ (ientry (e:=e));clear hA hw hp hn
 go_enter Tryz.func15,Tryz.ntmps15
 go_wp2_with fail;have HF0:=hZ (At.start w);obtain⟨b0,w0,q1,q2,q3,hf,hs0⟩:=HF0.out.alloc2 (.cells nilBase 36);obtain⟨bB,w1,r1,r2,r3,hf2,hs1⟩:=hf.alloc2 (.cells nilBase 36);rw[hs0] at r1;simp only[nilBase,nine] at q2 r2;rw[q1,q2,r1,r2];have HF1:=hZ hf2;have HBB:Hid (w.heap.size≤bB∧w.heap.size≤b0):=hZ ⟨r3,q3⟩;have HNE:Hid (b0≠bB):=hZ (by omega);clear HF0 q1 q2 q3 hf hs0 r1 r2 r3 hf2 hs1
 go_wp2_with (first
  | (go_at_call 55;(with_reducible refine(lists_walk bB _).mono ?_);rintro e2 w2 ⟨rfl,hb2⟩
     have HF2:=hZ (HF1.out.step hb2)
     clear hb2)
  | ((with_reducible refine wpList_store_rowN rfl 96 (.tmp 6) (.tmp 11) rfl rfl w2.heap.size (ptrs bB).toArray _ rfl rfl ?hi (World.alloc_heap_new w2 _) ?ho ?h1 ?_);(case hi=>kernel_rfl);(case ho=>rfl);(case h1=>simp[ptrs,Value.oneCell']);intro w3 hc3 ht3
     have hb3:Below w2.heap.size w2 w3:=ht3.below (below_new w2 _) (Nat.le_refl _) (fun k hk=>by omega);have HF3:=hZ ((HF2.out.step hb3).cons hc3);obtain⟨b6,hb6⟩:=oQ (w2.heap.size);rw[hb6] at HF3;rw[hb6]
     clear hc3 ht3 hb3 hb6)
  | (go_at_call 57;(with_reducible refine(effect_walk l day A n c HN.out HM.out w3 (HA.out.below HF3.out.below) HWL.out (HP.out.below HF3.out.below)).mono ?_);rintro e4 w4 ⟨bm,rfl,-,hm4,hb4⟩
     have HF4:=hZ (HF3.out.step hb4);obtain⟨D,hown,hrep⟩:=hm4;have HREP:=hZ hrep;have HSZ:=hZ (MapAt.size_le hown)
     clear hb4 hrep)
  | (at_range;refine wpList_range_own _ rfl _ 100 rfl 9 33 keyedS Tryz.underlying100 rdE bm n _ rfl hown ?_;intro w5 hrg5 hg5 hs5
     have HF5:=hZ (HF4.out.step (V':=w5) ⟨hg5.os,hg5.tape,hg5.output,hg5.size,fun k hk=>hg5.block k hk (by simp)⟩);have HRG5:=hZ hrg5
     clear hrg5 hg5 hs5)
  |fail)
 obtain⟨r,hr⟩:=oQ (w4.heap.size);rw[hr] at HRG5;have HR:Hid (w.heap.size≤r):=hZ (by rw[←hr];exact HF4.out.below.size);rw[hr];clear hr
 go_frame
 have hB0:BasO w5 w.heap.size bB (fun _=>.slice none 0 0) (fun _=>[]):=⟨HF5.out.has (bB,.cells nilBase 36 (0,0)) (by simp),fun _ _=>OL.nil,fun _ _ _ _ _ g hg=>by cases hg⟩
 have hP0:Part1 (effD l day) (has D) (fun _=>[]):=fun j hj=>⟨List.Pairwise.nil,fun e=>by
  constructor
  · intro h;cases h
  · rintro⟨h1,h2,h3⟩
    rw[HREP.out.has h1] at h3;cases h3⟩
 have HB0:=hZ hB0;have HP0:=hZ hP0;obtain⟨C,hC⟩:=oQ (Maps.size D);rw[hC] at HRG5 HSZ;have HC:Hid (C≤n):=HSZ;have HT5:Hid (w5.heap[b6]?=some (.cells (ptrs bB).toArray 96 (0,0))):=hZ (HF5.out.has (b6,_) (by simp));have HZ5:Hid (w5.heap[b0]?=some (.cells nilBase 36 (0,0))):=hZ (HF5.out.has (b0,.cells nilBase 36 (0,0)) (by simp));have HB5:Hid (Below w.heap.size w w5):=hZ HF5.out.below;clear hB0 hP0 hC HF1 HF2 HF3 HF4 HF5 HSZ hown
 go_loopw [16] (fun _ wr=> ∃(vf:Nat→Value) (lf:Nat→List Ent) (left:Lit→Bool) (cnt:Nat),wr.ranges Tryz.prog 9 rdE bm r n D left cnt∧BasO wr w.heap.size bB vf lf∧Part1 (effD l day) left lf∧(∀j,j<9→(lf j).length+cnt≤C)∧wr.heap[b6]?=some (.cells (ptrs bB).toArray 96 (0,0))∧wr.heap[b0]?=some (.cells nilBase 36 (0,0))∧Below w.heap.size w wr)
  (fun _ wr=>wr.rangeLeft bm r)
 case atStart=>exact⟨_,_,_,_,HRG5.out,HB0.out,HP0.out,fun j hj=>by simp,HT5.out,HZ5.out,HB5.out⟩
 case round=>
  obtain⟨vf,lf,left,cnt,hrg,hbo,hpt,hln,htb,hz0,hbw⟩:=hrel;have HBO:=hZ hbo;have HPT:=hZ hpt;have HLN:=hZ hln;have HTB:=hZ htb;have HZ0:=hZ hz0;have HBW:=hZ hbw;clear hbo hpt hln htb hz0 hbw HRG5 HB0 HP0 HT5 HZ5 HB5
  go_wp2_with (first
   |(at_next;refine wpList_next_ranges _ rfl _ rfl 9 keyedS rdE Value.string Ent.val (fun _ _ q=>key_inv q) (fun v y q=>(rdE_inv q).imp fun _ q=>q.1) bm r n _ _ _ rfl hrg ?_ ?_)
   |fail)
  · intro _ hl0
    have hfin:∀j,j<9→Keyd keyE (lf j)∧∀e,e∈lf j↔e∈effD l day∧e.kind=((j+1:Nat):Int):=fun j hj=>⟨(HPT.out j hj).1,fun e=>by rw[(HPT.out j hj).2 e];simp[hl0]⟩;(have hlens:∀j,j<9→(lf j).length≤1000000:=fun j hj=>by have:=HLN.out j hj;have:=HC.out;have:=HM.out;omega);have HFN:=hZ hfin;have HLE:=hZ hlens;clear hfin hlens hl0 hrg;go_wp2_with fail;obtain⟨wo,rfl⟩:∃wo:World,wo=wr:=⟨_,rfl⟩
    go_loopw [36] (fun v wr'=> ∃(i:Nat) (lf':Nat→List Ent),v=.int .i64 (i:Int)∧i≤9∧BasO wr' w.heap.size bB vf lf'∧(∀j,j<9→lf' j=if j<i then knownL l day j else lf j)∧wr'.heap[b6]?=some (.cells (ptrs bB).toArray 96 (0,0))∧wr'.heap[b0]?=some (.cells nilBase 36 (0,0))∧Below w.heap.size w wr') (fun v _=>match v with|.int _ k=>9-k.toNat|_=>0)
    case atStart=>exact⟨0,lf,rfl,by omega,HBO.out,fun j hj=>by rw[if_neg (by omega)],HTB.out,HZ0.out,HBW.out⟩
    case round=>
     obtain⟨i,lf',rfl,hi,hbo,heq,htb,hz0,hbw⟩:=hrel;have HBO2:=hZ hbo;have HEQ:=hZ heq;have HTB2:=hZ htb;have HZ2:=hZ hz0;have HBW2:=hZ hbw;clear hbo heq htb hz0 hbw
     by_cases hlt:i<9
     · have d1:decide (i<9)=true:=by simp[hlt]
       (have z1:(0:Int)≤(i:Int):=by omega);(have z2:(i:Int)<9:=by omega);(have w2':IntKind.i64.wrap ((i:Int)+1)=((i+1:Nat):Int):=by rw[IntKind.wrap_i64];omega);(have c1:wr.cell? ⟨b6,1+i,none⟩=some (.pointer (some ⟨bB,i,none⟩)):=by rw[Nat.add_comm];exact cells_i HTB2.out (by simpa using ptrs_at bB i hlt));have c2:=cells_i HBO2.out.blk (nine_at vf hlt);obtain⟨Ai,ci,hvi,-,-⟩:=(HBO2.out.row i hlt).slice;obtain⟨ni,hni⟩:=oQ ((lf' i).length);rw[hni] at hvi;rw[hvi] at c2;have HS:Hid (Calls Tryz.prog 58 #[.slice Ai ni ci,.func (.func 59) #[] #[]] wr fun e w'=>e=.returned (.tuple #[])∧∃l',OL w' w.heap.size 33 18 Ent.cells (.slice Ai ni ci) l'∧l'.Perm (lf' i)∧Up (ltOf fun x y=>cmpZ' (numE x) (numE y)) l'∧Turns (fun q=>(Value.slice Ai ni ci).ownBlock=some q) wr w'):=hZ (sort_num (by rw[←hvi];exact HBO2.out.row i hlt) (by rw[HEQ.out i hlt,if_neg (by omega)];have:=HLE.out i hlt;omega));have HVI:=hZ hvi;clear hvi hni
       go_wp2_with (first
        | (go_at_call 58;(with_reducible refine HS.out.mono ?_);rintro e3 w3 ⟨rfl,l',ho3,hp3,hu3,ht3⟩
           have HO3:=hZ ho3;have HP3:=hZ hp3;have HU3:=hZ hu3;have HT3:=hZ ht3
           clear ho3 hp3 hu3 ht3)
        |fail)
       have hrow:=HBO2.out.row i hlt;(have ht3:Turns (fun q=>(vf i).ownBlock=some q) wr w3:=by rw[HVI.out];exact HT3.out);have hbt:=HBO2.out.turn hlt ht3 (by rw[HVI.out];exact HO3.out);have htb3:=(ht3.block b6 (cells_lt HTB2.out) (ol_ne hrow HTB2.out (by decide))).trans HTB2.out;have hz3:=(ht3.block b0 (cells_lt HZ2.out) (ol_ne hrow HZ2.out (by decide))).trans HZ2.out;have hb3:=ht3.below HBW2.out (Nat.le_refl _) (fun k hk=>(hrow.lt k hk).1)
       have heq3:l'=knownL l day i:=by
        (have h0:lf' i=lf i:=by rw[HEQ.out i hlt,if_neg (by omega)]);refine known_of (HFN.out i hlt).1 (HFN.out i hlt).2 (by rw[←h0];exact HP3.out) ?_;exact List.Pairwise.imp (fun{a b} q=>by rw[ltOf_num] at q;exact q) HU3.out
       have HFIN:=hZ (And.intro hbt (And.intro htb3 (And.intro hz3 (And.intro hb3 heq3))));clear hrow ht3 hbt htb3 hz3 hb3 heq3
       go_round
       case rel=>
        refine⟨i+1,_,rfl,by omega,HFIN.out.1,fun j hj=> ?_,HFIN.out.2.1,HFIN.out.2.2.1,HFIN.out.2.2.2.1⟩
        by_cases hji:j=i
        · subst hji;rw[upd_same,if_pos (by omega)];exact HFIN.out.2.2.2.2
        · rw[upd_other _ _ hji,HEQ.out j hj]
          by_cases hlt2:j<i
          · rw[if_pos hlt2,if_pos (by omega)]
          · rw[if_neg hlt2,if_neg (by omega)]
       case measure=>simp;omega
     · have d1:decide (i<9)=false:=by simp;omega
       (obtain rfl:i=9:=by omega);have hrb:wr.rangeAt bB 0 (nine vf).toList:=fun k v hv=>cells_i HBO2.out.blk (by simpa using hv);have hne:=HNE.out
       have hgood:∀u∈(nine vf),u.oneCell'=true:=fun u hu=>by
        have hv:∀j,j<9→(vf j).oneCell'=true:=fun j hj=>by
         obtain⟨A,cap,e,_,_⟩:=(HBO2.out.row j hj).slice;rw[e];rfl
        simp only[nine,List.mem_toArray,List.mem_cons,List.not_mem_nil,or_false] at hu;rcases hu with h|h|h|h|h|h|h|h|h
        · rw[h];exact hv 0 (by decide)
        · rw[h];exact hv 1 (by decide)
        · rw[h];exact hv 2 (by decide)
        · rw[h];exact hv 3 (by decide)
        · rw[h];exact hv 4 (by decide)
        · rw[h];exact hv 5 (by decide)
        · rw[h];exact hv 6 (by decide)
        · rw[h];exact hv 7 (by decide)
        · rw[h];exact hv 8 (by decide)
       have HRB:=hZ hrb;have HGD:=hZ hgood;clear hrb hgood
       go_wp2_with (first
        |((with_reducible refine wpList_load_mid rfl 36 (.tmp 5) rfl bB 0 ?hx (nine vf).toList _ HRB.out Tryz.underlying36 rfl ?hi ?_);(case hx=>rfl);(case hi=>kernel_rfl))
        | ((with_reducible refine wpList_store_rowN rfl 36 (.tmp 4) (.tmp 45) rfl rfl b0 (nine vf) nilBase rfl ?hy ?hi HZ2.out ?ho ?h1 ?_);(case hy=>rfl);(case hi=>kernel_rfl);(case ho=>rfl);(case h1=>rw[Array.all_eq_true_iff_forall_mem];exact HGD.out);intro w9 hc9 ht9
           have HC9:=hZ hc9;have HT9:=hZ ht9
           clear hc9 ht9)
        |fail)
       have hbo9:BasO w9 w.heap.size bB vf lf':=⟨(HT9.out.block bB (cells_lt HBO2.out.blk) (fun e=>HNE.out e.symm)).trans HBO2.out.blk,fun j hj=>(HBO2.out.row j hj).keep fun g hg=>HT9.out.block g ((HBO2.out.row j hj).lt g hg).2 (fun e=>ol_ne (HBO2.out.row j hj) HZ2.out (by decide) (by rw[hg,e])),HBO2.out.apart⟩;have hb9:Below w.heap.size w w9:=HT9.out.below HBW2.out (Nat.le_refl _) (fun k hk=>by have:=HBB.out.2;omega);have hr9:w9.rangeAt b0 0 (nine vf).toList:=fun k v hv=>cells_i HC9.out (by simpa using hv);refine bodyPost_ret (results_cellN rfl _ _ b0 (nine vf).toList _ rfl hr9 Tryz.underlying36 rfl (by kernel_rfl)) rfl ?_;refine⟨mkBas vf lf',?_,hbo9.bas.2,fun j hj=> ?_,hb9⟩
       · rw[hbo9.bas.1]
       · show lf' j=_
         rw[HEQ.out j hj,if_pos (by omega)]
  · intro x ce kl yd yp w6 cnt1 hkey hlx hv hat hrg1 hlt hg1 hs1 hen
    obtain⟨e,he,rfl,hye⟩:=HREP.out.out hat;obtain⟨c2,hc2,hy2⟩:=rdE_inv hv;obtain rfl:ce=c2:=Ent.val_inj hc2
    have hce:ce=e:=by
     have:=congrArg Prod.fst hy2;simp only at this;rw[hye] at this;injection this with this;exact this.symm
    subst hce;have hval:=(effD_ok l day ce he).2.1
    obtain⟨j,hj9,hkj⟩:∃j:Nat,j<9∧ce.kind=((j+1:Nat):Int):=by
     have:=valid_kind hval;exact⟨(ce.kind-1).toNat,by omega,by omega⟩
    have ht1:=grown_turns hg1;have hzr:∀k cs T fz,wr.heap[k]?=some (.cells cs T fz)→¬(some r=some k):=fun k cs T fz hk e=>(ranges_ne hrg hk).2 (by injection e);have HRG6:=hZ hrg1;have HBO6:=hZ (HBO.out.turns ht1 hzr);have HTB6:Hid (w6.heap[b6]?=some (.cells (ptrs bB).toArray 96 (0,0))):=hZ ((ht1.block _ (Array.getElem?_eq_some_iff.1 HTB.out).1 (hzr _ _ _ _ HTB.out)).trans HTB.out);have HZ6:Hid (w6.heap[b0]?=some (.cells nilBase 36 (0,0))):=hZ ((ht1.block _ (Array.getElem?_eq_some_iff.1 HZ0.out).1 (hzr _ _ _ _ HZ0.out)).trans HZ0.out);have HBW6:=hZ (ht1.below HBW.out (Nat.le_refl _) (fun k e=>by injection e with e;have:=HR.out;omega));have HPT6:=hZ (HPT.out.step HREP.out.keyd he hkj hlx);have HLT:=hZ hlt;have HRG0:=hZ hrg;have HJ:=hZ (And.intro hj9 hkj);clear hkey hlx hv hat hrg1 hlt hg1 hs1 hc2 hy2 hye he hrg hval ht1 hzr;obtain⟨Aj,cj,hvj,-,-⟩:=(HBO6.out.row j hj9).slice;obtain⟨nj,hnj⟩:=oQ ((lf j).length);rw[hnj] at hvj;have HVJ:=hZ (And.intro hvj hnj);(have hnb:nj<C:=by have:=HLN.out j hj9;have:=HLT.out;omega);have HNB:Hid (nj+1≤1000000):=hZ (by have:=HC.out;have:=HM.out;omega);obtain⟨kN,hkN⟩:=oQ (j+1);have HKN:=hZ hkN;(have z1:(0:Int)≤(kN:Int):=by omega);(have z2:(kN:Int)<10:=by omega);clear hvj hnj hnb hkN hj9 hkj
    go_wp2_with (first
     | ((with_reducible refine store_new rfl (.tmp 8) (.tmp 19) rfl rfl ce rfl rfl ?hi ?ho ?_);(case hi=>exact(IE ce).out);(case ho=>rfl);intro w7 he7 hb7 hs7
        have HRG7:=hZ (HRG6.out.kept (grown_of_below hb7) (by simp) (by simp));have HBO7:=hZ (HBO6.out.below hb7);have HTB7:=bAt hb7 HTB6;have HZ7:=bAt hb7 HZ6;have HBW7:=bTr HBW6 hb7;obtain⟨b8,hb8⟩:=oQ (w6.heap.size);have HLO:Hid (∀i,i<9→∀g,(vf i).ownBlock=some g→g<b8):=hZ (fun i hi g hg=>by have:=((HBO6.out.row i hi).lt g hg).2;omega);rw[hb8] at he7;rw[hb8];have HE8:=hZ he7
        clear he7 hb7 hs7 hb8)
     |fail)
    obtain⟨U,hU⟩:=oQ (w7.drew);(have hbU:Below w7.heap.size w7 U:=by rw[←hU];exact Below.drew (Below.refl _ _));have HRG:=hZ (HRG7.out.kept (grown_of_below hbU) (by simp) (by simp));have HBA:=hZ (HBO7.out.below hbU);have HTA:=bAt hbU HTB7;have HZA:=bAt hbU HZ7;have HBB':=bTr HBW7 hbU;have HEA:=hZ (HE8.out.below hbU)
    have hcell:∀V:World,EntAt V b8 ce→V.cell? ⟨b8,0,none⟩=some (.int .i64 (kN:Int)):=fun V q=>by
     have:=q.cell (i:=0) rfl;rw[HJ.out.2,HKN.out] at this;exact this
    have htab:∀V:World,V.heap[b6]?=some (.cells (ptrs bB).toArray 96 (0,0))→V.cell? ⟨b6,kN,none⟩=some (.pointer (some ⟨bB,j,none⟩)):=fun V q=>cells_i q (by rw[←HKN.out];simpa using ptrs_at bB j HJ.out.1);have HCE:=hZ hcell;have HTT:=hZ htab;(have hS0:EntAt w7.drew b8 ce∧w7.drew.cell? ⟨b8,0,none⟩=some (.int .i64 (kN:Int))∧w7.drew.cell? ⟨b6,kN,none⟩=some (.pointer (some ⟨bB,j,none⟩)):=by rw[hU];exact⟨HEA.out,hcell _ HEA.out,htab _ HTA.out⟩);clear HRG6 HBO6 HTB6 HZ6 HBW6 HRG7 HBO7 HTB7 HZ7 HBW7 HE8 hbU hcell htab;refine wp_region_noPanic ?_;refine wp_region_held_drew (S:=fun V=>EntAt V b8 ce∧V.cell? ⟨b8,0,none⟩=some (.int .i64 (kN:Int))∧V.cell? ⟨b6,kN,none⟩=some (.pointer (some ⟨bB,j,none⟩))) (by kernel_rfl) hS0 (fun hHeld=> ?_);rw[hU] at hHeld⊢;clear hS0 hU;refine tk 0 ?_;refine tk 1 ?_;refine tk 2 ?_;refine tk 3 ?_;refine tk 4 ?_;refine tk 5 ?_;refine tk 6 ?_;refine tk 7 ?_;refine tk 8 ?_;refine tl 10 rfl (yieldsIf_load_mid (by rfl) 33 (.tmp 8) rfl b8 0 (by rfl) ce.cells _ (fun w hw=>range_of hw.1) Tryz.underlying33 rfl (IE ce).out) ?_;refine rd [9,11] ?_;refine rc (fun K hK=> ?_) ?_
    ·
     have c9:=cells_i HBA.out.blk (nine_at vf HJ.out.1);rw[HVJ.out.1] at c9;go_simp;clear c9;refine kk hK (hHeld) (fun hHeld=> ?_);clear hK K;refine rd [11] ?_;refine rcE fun K hK=> ?_;refine step_build_ent (by rfl) (.tmp 30) (by rfl) ce (by rfl) ?_;intro b11 V11 hb11 hbl hn11;subst hb11;have HN11:=hZ hn11;have HRG:=hZ (HRG.out.kept (grown_of_below hbl) (by simp) (by simp));have HBA:=hZ (HBA.out.below hbl);have HTA:=bAt hbl HTA;have HZA:=bAt hbl HZA;have HBB':=hZ (HBB'.out.trans (hbl.mono HBB'.out.size));have HEA:=hZ (HEA.out.below hbl);clear hn11 hbl;refine kk hK (⟨HEA.out,HCE.out _ HEA.out,HTT.out _ HTA.out⟩) (fun hHeld=> ?_);clear hK K;refine rd [12] ?_;refine rcE fun K hK=> ?_;refine step_app (by rfl) (.tmp 29) (.tmp 31) 25 (by rfl) elemEnt (.slice Aj nj cj) (lf j) nj HVJ.out.2 (by rfl) ?hol ce U.heap.size ce.cells.toArray (by rfl) HN11.out (by simp) rfl (one_cells' ce) (by have:=HNB.out;have:=HVJ.out.2;unfold maxLen;omega) (by have:=HNB.out;have:=HVJ.out.2;omega) HBB'.out.size ?_
     case hol=>have:=HBA.out.row j HJ.out.1;rw[HVJ.out.1] at this;exact this
     intro g' cap' w12 ho12 hgr12 hown12 hlt12 hb12;have HO12:=hZ ho12;have HG12:=hZ hgr12;have HW12:=hZ hown12;have HB12:=hZ hb12;(have hne8:(Value.slice Aj nj cj).ownBlock≠some b8:=fun e=>by have:=HLO.out j HJ.out.1 b8 (by rw[HVJ.out.1];exact e);omega);(have hne6:(Value.slice Aj nj cj).ownBlock≠some b6:=by rw[←HVJ.out.1];exact ol_ne (HBA.out.row j HJ.out.1) HTA.out (by decide));(have hneB:(Value.slice Aj nj cj).ownBlock≠some bB:=by rw[←HVJ.out.1];exact ol_ne (HBA.out.row j HJ.out.1) HBA.out.blk (by decide));have he12:EntAt w12 b8 ce:=(hgr12.block b8 (cells_lt HEA.out) (fun e=>hne8 e.symm)).trans HEA.out;have hc12:w12.heap[b6]?=some (.cells (ptrs bB).toArray 96 (0,0)):=(hgr12.block b6 (cells_lt HTA.out) (fun e=>hne6 e.symm)).trans HTA.out;have hB12:w12.heap[bB]?=some (.cells (nine vf) 36 (0,0)):=(hgr12.block bB (cells_lt HBA.out.blk) (fun e=>hneB e.symm)).trans HBA.out.blk;have HE12:=hZ he12;have HC12:=hZ hc12;have HB12':=hZ hB12;clear ho12 hgr12 hown12 hlt12 hb12 hne8 hne6 hneB he12 hc12 hB12;refine kk hK (⟨HE12.out,HCE.out _ HE12.out,HTT.out _ HC12.out⟩) (fun hHeld=> ?_);clear hK K;refine tk 13 ?_;refine rd [14] ?_;refine rcE fun K hK=> ?_;have c14:=cells_i HB12'.out (nine_at vf HJ.out.1);have f14:=cells_free HB12'.out j;go_simp;clear c14 f14;obtain⟨w14,hw14⟩:=oQ (w12.setCell ⟨bB,j,none⟩ (.slice (some ⟨g',0,none⟩) (nj+1) cap'));have HPUT:Hid (BasO w14 w.heap.size bB (upd vf j (.slice (some ⟨g',0,none⟩) (nj+1) cap')) (upd lf j (lf j++[ce]))):=hZ (by rw[←hw14];exact HBA.out.put HJ.out.1 (by rw[HVJ.out.1];exact grown_turns HG12.out) HO12.out (fun g hg=>by injection hg with hg;subst hg;rw[HVJ.out.1];rcases HW12.out with q|q;exact .inl q;exact .inr (by rw[q];exact Nat.le_refl _)));(have hT14:Turns (fun k=>k=bB) w12 w14:=by rw[←hw14];exact Turns.setCell _ _ _ rfl);have HT14:=hZ hT14
     rw[hw14];(have hb6B:b6≠bB:=fun e=>by have q:=HTA.out;rw[e,HBA.out.blk] at q;injection q with q;injection q with q1 q2 q3;exact absurd q2 (by decide));(have hb8B:b8≠bB:=fun e=>by have q:=HEA.out;unfold EntAt at q;rw[e,HBA.out.blk] at q;injection q with q;injection q with q1 q2 q3;exact absurd q2 (by decide));have HC14:Hid (w14.heap[b6]?=some (.cells (ptrs bB).toArray 96 (0,0))):=hZ ((hT14.block b6 (cells_lt HC12.out) hb6B).trans HC12.out);have HE14:Hid (EntAt w14 b8 ce):=hZ ((hT14.block b8 (cells_lt HE12.out) hb8B).trans HE12.out);clear hw14 hT14 hb6B hb8B;refine kk hK (⟨HE14.out,HCE.out _ HE14.out,HTT.out _ HC14.out⟩) (fun hHeld=> ?_);clear hK K;refine dn ?_;clear hHeld;go_wp2;have hoc:∀g,(Value.slice Aj nj cj).ownBlock=some g→∃cs,V11.heap[g]?=some (.cells cs 33 (0,0)):=fun g hg=>own_cells (HBA.out.row j HJ.out.1) (by rw[HVJ.out.1];exact hg);have hrg12:=HRG.out.kept HG12.out (fun e=>by obtain⟨cs,hcs⟩:=hoc bm e.symm;exact(ranges_ne HRG.out hcs).1 rfl) (fun e=>by obtain⟨cs,hcs⟩:=hoc r e.symm;exact(ranges_ne HRG.out hcs).2 rfl);have hgB:w12.grownBy w14 (some bB):=⟨HT14.out.os,HT14.out.tape,HT14.out.output,HT14.out.size,fun k hk hz=>HT14.out.block k hk (fun e=>hz (by rw[e]))⟩;have hrg14:=hrg12.kept hgB (fun e=>(ranges_ne hrg12 HB12'.out).1 (by injection e)) (fun e=>(ranges_ne hrg12 HB12'.out).2 (by injection e));have hz12:=(HG12.out.block b0 (cells_lt HZA.out) (fun e=>(by rw[←HVJ.out.1];exact ol_ne (HBA.out.row j HJ.out.1) HZA.out (by decide):(Value.slice Aj nj cj).ownBlock≠some b0) e.symm)).trans HZA.out;have hz14:=(HT14.out.block b0 (cells_lt hz12) HNE.out).trans hz12;have hb14:Below w.heap.size w w14:=HT14.out.below (HBB'.out.trans HB12.out) (Nat.le_refl _) (fun k hk=>by have:=HBB.out.1;omega);have HFIN:=hZ (And.intro hrg14 (And.intro hz14 hb14));clear hoc hrg12 hgB hrg14 hz12 hz14 hb14
     go_roundw
     case rel=>
      refine⟨_,_,_,_,HFIN.out.1,HPUT.out,HPT6.out,fun i hi=> ?_,HC14.out,HFIN.out.2.1,HFIN.out.2.2⟩;have h1:=HLN.out i hi;have h2:=HLT.out
      by_cases hij:i=j
      · subst hij;rw[upd_same,List.length_append,List.length_singleton];omega
      · rw[upd_other _ _ hij];omega
     case measure=>rw[HFIN.out.1.left_eq,HRG0.out.left_eq];exact HLT.out
    refine rcE fun K hK=> ?_;refine step_build_ent (by rfl) (.tmp 30) (by rfl) ce (by rfl) ?_;intro b11 V11 hb11 hbl hn11;subst hb11;have HN11:=hZ hn11;have HRG:=hZ (HRG.out.kept (grown_of_below hbl) (by simp) (by simp));have HBA:=hZ (HBA.out.below hbl);have HTA:=bAt hbl HTA;have HZA:=bAt hbl HZA;have HBB':=hZ (HBB'.out.trans (hbl.mono HBB'.out.size));have HEA:=hZ (HEA.out.below hbl);clear hn11 hbl;refine kk hK (⟨HEA.out,HCE.out _ HEA.out,HTT.out _ HTA.out⟩) (fun hHeld=> ?_);clear hK K;refine rd [9] ?_;refine rcE fun K hK=> ?_;have c9:=cells_i HBA.out.blk (nine_at vf HJ.out.1);rw[HVJ.out.1] at c9;go_simp;clear c9;refine kk hK (hHeld) (fun hHeld=> ?_);clear hK K;refine rd [12] ?_;refine rcE fun K hK=> ?_;refine step_app (by rfl) (.tmp 29) (.tmp 31) 25 (by rfl) elemEnt (.slice Aj nj cj) (lf j) nj HVJ.out.2 (by rfl) ?hol ce U.heap.size ce.cells.toArray (by rfl) HN11.out (by simp) rfl (one_cells' ce) (by have:=HNB.out;have:=HVJ.out.2;unfold maxLen;omega) (by have:=HNB.out;have:=HVJ.out.2;omega) HBB'.out.size ?_
    case hol=>have:=HBA.out.row j HJ.out.1;rw[HVJ.out.1] at this;exact this
    intro g' cap' w12 ho12 hgr12 hown12 hlt12 hb12;have HO12:=hZ ho12;have HG12:=hZ hgr12;have HW12:=hZ hown12;have HB12:=hZ hb12;(have hne8:(Value.slice Aj nj cj).ownBlock≠some b8:=fun e=>by have:=HLO.out j HJ.out.1 b8 (by rw[HVJ.out.1];exact e);omega);(have hne6:(Value.slice Aj nj cj).ownBlock≠some b6:=by rw[←HVJ.out.1];exact ol_ne (HBA.out.row j HJ.out.1) HTA.out (by decide));(have hneB:(Value.slice Aj nj cj).ownBlock≠some bB:=by rw[←HVJ.out.1];exact ol_ne (HBA.out.row j HJ.out.1) HBA.out.blk (by decide));have he12:EntAt w12 b8 ce:=(hgr12.block b8 (cells_lt HEA.out) (fun e=>hne8 e.symm)).trans HEA.out;have hc12:w12.heap[b6]?=some (.cells (ptrs bB).toArray 96 (0,0)):=(hgr12.block b6 (cells_lt HTA.out) (fun e=>hne6 e.symm)).trans HTA.out;have hB12:w12.heap[bB]?=some (.cells (nine vf) 36 (0,0)):=(hgr12.block bB (cells_lt HBA.out.blk) (fun e=>hneB e.symm)).trans HBA.out.blk;have HE12:=hZ he12;have HC12:=hZ hc12;have HB12':=hZ hB12;clear ho12 hgr12 hown12 hlt12 hb12 hne8 hne6 hneB he12 hc12 hB12;refine kk hK (⟨HE12.out,HCE.out _ HE12.out,HTT.out _ HC12.out⟩) (fun hHeld=> ?_);clear hK K;refine tk 13 ?_;refine rd [14] ?_;refine rcE fun K hK=> ?_;have c14:=cells_i HB12'.out (nine_at vf HJ.out.1);have f14:=cells_free HB12'.out j;go_simp;clear c14 f14;obtain⟨w14,hw14⟩:=oQ (w12.setCell ⟨bB,j,none⟩ (.slice (some ⟨g',0,none⟩) (nj+1) cap'));have HPUT:Hid (BasO w14 w.heap.size bB (upd vf j (.slice (some ⟨g',0,none⟩) (nj+1) cap')) (upd lf j (lf j++[ce]))):=hZ (by rw[←hw14];exact HBA.out.put HJ.out.1 (by rw[HVJ.out.1];exact grown_turns HG12.out) HO12.out (fun g hg=>by injection hg with hg;subst hg;rw[HVJ.out.1];rcases HW12.out with q|q;exact .inl q;exact .inr (by rw[q];exact Nat.le_refl _)));(have hT14:Turns (fun k=>k=bB) w12 w14:=by rw[←hw14];exact Turns.setCell _ _ _ rfl);have HT14:=hZ hT14
    rw[hw14];(have hb6B:b6≠bB:=fun e=>by have q:=HTA.out;rw[e,HBA.out.blk] at q;injection q with q;injection q with q1 q2 q3;exact absurd q2 (by decide));(have hb8B:b8≠bB:=fun e=>by have q:=HEA.out;unfold EntAt at q;rw[e,HBA.out.blk] at q;injection q with q;injection q with q1 q2 q3;exact absurd q2 (by decide));have HC14:Hid (w14.heap[b6]?=some (.cells (ptrs bB).toArray 96 (0,0))):=hZ ((hT14.block b6 (cells_lt HC12.out) hb6B).trans HC12.out);have HE14:Hid (EntAt w14 b8 ce):=hZ ((hT14.block b8 (cells_lt HE12.out) hb8B).trans HE12.out);clear hw14 hT14 hb6B hb8B;refine kk hK (⟨HE14.out,HCE.out _ HE14.out,HTT.out _ HC14.out⟩) (fun hHeld=> ?_);clear hK K;refine dn ?_;clear hHeld;go_wp2;have hoc:∀g,(Value.slice Aj nj cj).ownBlock=some g→∃cs,V11.heap[g]?=some (.cells cs 33 (0,0)):=fun g hg=>own_cells (HBA.out.row j HJ.out.1) (by rw[HVJ.out.1];exact hg);have hrg12:=HRG.out.kept HG12.out (fun e=>by obtain⟨cs,hcs⟩:=hoc bm e.symm;exact(ranges_ne HRG.out hcs).1 rfl) (fun e=>by obtain⟨cs,hcs⟩:=hoc r e.symm;exact(ranges_ne HRG.out hcs).2 rfl);have hgB:w12.grownBy w14 (some bB):=⟨HT14.out.os,HT14.out.tape,HT14.out.output,HT14.out.size,fun k hk hz=>HT14.out.block k hk (fun e=>hz (by rw[e]))⟩;have hrg14:=hrg12.kept hgB (fun e=>(ranges_ne hrg12 HB12'.out).1 (by injection e)) (fun e=>(ranges_ne hrg12 HB12'.out).2 (by injection e));have hz12:=(HG12.out.block b0 (cells_lt HZA.out) (fun e=>(by rw[←HVJ.out.1];exact ol_ne (HBA.out.row j HJ.out.1) HZA.out (by decide):(Value.slice Aj nj cj).ownBlock≠some b0) e.symm)).trans HZA.out;have hz14:=(HT14.out.block b0 (cells_lt hz12) HNE.out).trans hz12;have hb14:Below w.heap.size w w14:=HT14.out.below (HBB'.out.trans HB12.out) (Nat.le_refl _) (fun k hk=>by have:=HBB.out.1;omega);have HFIN:=hZ (And.intro hrg14 (And.intro hz14 hb14));clear hoc hrg12 hgB hrg14 hz12 hz14 hb14
    go_roundw
    case rel=>
     refine⟨_,_,_,_,HFIN.out.1,HPUT.out,HPT6.out,fun i hi=> ?_,HC14.out,HFIN.out.2.1,HFIN.out.2.2⟩;have h1:=HLN.out i hi;have h2:=HLT.out
     by_cases hij:i=j
     · subst hij;rw[upd_same,List.length_append,List.length_singleton];omega
     · rw[upd_other _ _ hij];omega
    case measure=>rw[HFIN.out.1.left_eq,HRG0.out.left_eq];exact HLT.out
def eqE (e f:Ent):Bool:=decide (e.kind=f.kind∧e.id=f.id∧e.ver=f.ver∧e.day=f.day∧e.gone=f.gone∧e.frm=f.frm∧e.til=f.til∧e.lab=f.lab∧e.item=f.item∧e.person=f.person∧e.skill=f.skill∧e.ln.toList=f.ln.toList∧e.ld.toList=f.ld.toList∧e.hn.toList=f.hn.toList∧e.hd.toList=f.hd.toList∧e.rn.toList=f.rn.toList∧e.rd.toList=f.rd.toList∧e.text.toList=f.text.toList)
theorem toList_inj {a b:ByteArray} (h:a.toList=b.toList):a=b:=by
 rw[ByteArray.toList_eq,ByteArray.toList_eq] at h;exact bytes_ext (Array.toList_inj.1 h)
theorem eqE_iff (e f:Ent):eqE e f=true↔e=f:=by
 unfold eqE;rw[decide_eq_true_eq];constructor
 · rintro⟨h0,h1,h2,h3,h4,h5,h6,h7,h8,h9,h10,h11,h12,h13,h14,h15,h16,h17⟩
   cases e;cases f;simp only[Ent.mk.injEq];exact⟨h0,h1,h2,h3,h4,h5,h6,h7,h8,h9,h10,toList_inj h11,toList_inj h12,toList_inj h13,toList_inj h14,toList_inj h15,toList_inj h16,toList_inj h17⟩
 · rintro rfl
   simp
theorem neq_ents (e f:Ent) (W:World):(binOp .neq 33 (.agg e.cells.toArray) (.agg f.cells.toArray)).run Tryz.prog W=.ok (.bool (!eqE e f)) W:=by
 obtain⟨a0,a1,a2,a3,a4,a5,a6,a7,a8,a9,a10,a11,a12,a13,a14,a15,a16,a17⟩:=e;obtain⟨b0,b1,b2,b3,b4,b5,b6,b7,b8,b9,b10,b11,b12,b13,b14,b15,b16,b17⟩:=f;unfold Ent.cells eqE;simp only[];go_simp
 by_cases h0:a0=b0
 case neg=>simp[h0]
 rw[if_pos h0]
 by_cases h1:a1=b1
 case neg=>simp[h1]
 rw[if_pos h1]
 by_cases h2:a2=b2
 case neg=>simp[h2]
 rw[if_pos h2]
 by_cases h3:a3=b3
 case neg=>simp[h3]
 rw[if_pos h3]
 by_cases h4:a4=b4
 case neg=>simp[h4]
 rw[if_pos h4]
 by_cases h5:a5=b5
 case neg=>simp[h5]
 rw[if_pos h5]
 by_cases h6:a6=b6
 case neg=>simp[h6]
 rw[if_pos h6]
 by_cases h7:a7=b7
 case neg=>simp[h7]
 rw[if_pos h7]
 by_cases h8:a8=b8
 case neg=>simp[h8]
 rw[if_pos h8]
 by_cases h9:a9=b9
 case neg=>simp[h9]
 rw[if_pos h9]
 by_cases h10:a10=b10
 case neg=>simp[h10]
 rw[if_pos h10]
 by_cases h11:a11.toList=b11.toList
 case neg=>simp[h11]
 rw[if_pos h11]
 by_cases h12:a12.toList=b12.toList
 case neg=>simp[h12]
 rw[if_pos h12]
 by_cases h13:a13.toList=b13.toList
 case neg=>simp[h13]
 rw[if_pos h13]
 by_cases h14:a14.toList=b14.toList
 case neg=>simp[h14]
 rw[if_pos h14]
 by_cases h15:a15.toList=b15.toList
 case neg=>simp[h15]
 rw[if_pos h15]
 by_cases h16:a16.toList=b16.toList
 case neg=>simp[h16]
 rw[if_pos h16]
 by_cases h17:a17.toList=b17.toList
 case neg=>simp[h17]
 simp[h0,h1,h2,h3,h4,h5,h6,h7,h8,h9,h10,h11,h12,h13,h14,h15,h16,h17]
instance entDec:DecidableEq Ent:=fun a b=>decidable_of_iff (eqE a b=true) (eqE_iff a b)
theorem guard_neq (x y:Operand) (cs ds:Array Value) (W:World):(eqGuard .neq 33 x y (.agg cs) (.agg ds)).run Tryz.prog W=.ok () W:=by kernel_rfl
theorem yields_neq {P:Program} {ops:Array Oper} {S:World→Prop} {o:Oper} {a:Act} (hw:Region.wanted o (yielded ops a.tmps)=true) (t t':TypeId) (x y:Operand) (ho:o.op=.binOp .neq t x y t') (u v:Value) (hx:a.eval x=u) (hy:a.eval y=v) (b:Bool)
 (hgr:∀w,(eqGuard .neq t x y u v).run P w=.ok () w) (hr:∀w,(binOp .neq t u v).run P w=.ok (.bool b) w):YieldsIf P ops S o (.bool b) a:=
 .inl ⟨hw,fun w _=>by
  unfold execOp;simp only[ho,hx,hy]
  simp only[Sem.run_bind,Sem.run_pure,hgr,hr,Result.andThen_ok]⟩
theorem yields_eql {P:Program} {ops:Array Oper} {S:World→Prop} {o:Oper} {a:Act} (hw:Region.wanted o (yielded ops a.tmps)=true) (t t':TypeId) (x y:Operand) (ho:o.op=.binOp .eql t x y t') (u v:Value) (hx:a.eval x=u) (hy:a.eval y=v) (b:Bool)
 (hgr:∀w,(eqGuard .eql t x y u v).run P w=.ok () w) (hr:∀w,(binOp .eql t u v).run P w=.ok (.bool b) w):YieldsIf P ops S o (.bool b) a:=
 .inl ⟨hw,fun w _=>by
  unfold execOp;simp only[ho,hx,hy]
  simp only[Sem.run_bind,Sem.run_pure,hgr,hr,Result.andThen_ok]⟩
theorem equal_walk (l m:List Ent) (A A2:Option Addr) (n c n2 c2:Nat) (hn:l.length=n) (hn2:m.length=n2) (hm:n≤maxLen) (w:World) (hA:EAt w (Old w) A l) (hA2:EAt w (Old w) A2 m):
 Calls Tryz.prog 56 #[.slice A n c,.slice A2 n2 c2] w (ValP w (decide (l=m))):=by
 have hm':n≤9223372036854775807:=by unfold maxLen at hm;omega
 have HA:=hZ hA;have HA2:=hZ hA2;have HN:=hZ hn;have HN2:=hZ hn2;have IE:=fun e:Ent=>hZ (ientry (e:=e));clear hA hA2 hm
 by_cases hnn:n=n2
 · subst hnn
   clear hn hn2;have d0:((n:Int) !=(n:Int))=false:=by simp
   go_enter Tryz.func56,Tryz.ntmps56
   go_wp2_with fail
   go_loopw [5,13] (fun _ v wr=> ∃i:Nat,v=.int .i64 (i:Int)∧i≤n∧Hid (l.take i=m.take i)∧Below w.heap.size w wr) (fun _ v _=>match v with|.int _ k=>n-k.toNat|_=>0)
   case atStart=>exact⟨0,rfl,Nat.zero_le _,hZ rfl,Below.refl _ _⟩
   case round=>
    obtain⟨i,rfl,hi,HT,hB⟩:=hrel;have HB:=hZ hB;clear hB
    by_cases hlt:i<n
    · obtain⟨e,he⟩:∃e,l[i]?=some e:=⟨_,List.getElem?_eq_getElem (by rw[HN.out];exact hlt)⟩
      obtain⟨f,hf⟩:∃f,m[i]?=some f:=⟨_,List.getElem?_eq_getElem (by rw[HN2.out];exact hlt)⟩;obtain⟨b,hAb,-,hrg⟩:=(HA.out.below HB.out) i e he;obtain⟨b',hAb',-,hrg'⟩:=(HA2.out.below HB.out) i f hf;subst hAb hAb';have HE:=hZ (And.intro he hf);(have d1:decide (i<n)=true:=by simp[hlt]);(have z1:(0:Int)≤(i:Int):=by omega);(have z2:(i:Int)<(n:Int):=by omega);(have w1:IntKind.i64.wrap ((i:Int)+1)=((i+1:Nat):Int):=by rw[IntKind.wrap_i64];omega);obtain⟨q,hq⟩:=oQ (eqE e f);have HQ:=hZ hq;have HNE:Hid (∀W,(binOp .neq 33 (.agg e.cells.toArray) (.agg f.cells.toArray)).run Tryz.prog W=.ok (.bool (!q)) W):=hZ (fun W=>by rw[←hq];exact neq_ents e f W);have hS0:World.rangeAt wr.drew b (i*18) e.cells∧World.rangeAt wr.drew b' (i*18) f.cells:=⟨hrg,hrg'⟩;clear he hf hrg hrg' hq;go_wp2_with fail;refine wp_region_noPanic ?_;refine wp_region_held_drew (S:=fun U=>World.rangeAt U b (i*18) e.cells∧World.rangeAt U b' (i*18) f.cells) (by kernel_rfl) hS0 (fun hHeld=> ?_);refine tk 0 ?_;refine tk 1 ?_;refine tk 2 ?_;refine tl 3 rfl (yieldsIf_load_mid (by rfl) 33 (.tmp 18) rfl b (i*18) (by rfl) e.cells _ (fun w hw=>hw.1) Tryz.underlying33 rfl (IE e).out) ?_;refine tk 4 ?_;refine tk 5 ?_;refine tk 6 ?_;refine tl 7 rfl (yieldsIf_load_mid (by rfl) 33 (.tmp 22) rfl b' (i*18) (by rfl) f.cells _ (fun w hw=>hw.2) Tryz.underlying33 rfl (IE f).out) ?_;refine tl 8 rfl (yields_neq (by rfl) 33 33 (.tmp 19) (.tmp 23) (by rfl) (.agg e.cells.toArray) (.agg f.cells.toArray) (by rfl) (by rfl) (!q) (fun w=>guard_neq _ _ _ _ w) HNE.out) ?_;refine dn ?_;have HBd:Hid (Below w.heap.size w wr.drew):=hZ (Below.drew HB.out);clear hHeld hS0;cases q
      · go_wp2
        go_ret
        have hne:l≠m:=fun h=>by
         have h1:=HE.out.1;rw[h,HE.out.2] at h1;have h2:f=e:=Option.some.inj h1;have h3:=HQ.out;rw[h2,(eqE_iff e e).2 rfl] at h3;cases h3
        rw[decide_eq_false hne];exact⟨rfl,HBd.out⟩
      · go_wp2
        have hef:=(eqE_iff e f).1 HQ.out;(have ht:l.take (i+1)=m.take (i+1):=by rw[List.take_add_one,List.take_add_one,HT.out,HE.out.1,HE.out.2,hef]);have HTT:=hZ ht;clear ht hef
        go_round
        case rel=>exact⟨i+1,rfl,by omega,HTT,HBd.out⟩
        case measure=>simp;omega
    · have d1:decide (i<n)=false:=by simp;omega
      obtain rfl:i=n:=by omega
      have hlm:l=m:=by
       have:=HT.out
       rwa[List.take_of_length_le (by rw[HN.out];omega),List.take_of_length_le (by rw[HN2.out];omega)] at this
      have HLM:=hZ hlm;clear hlm;go_wp2_with fail;go_ret;rw[decide_eq_true HLM.out];exact⟨rfl,HB.out⟩
 · have d0:((n:Int) !=(n2:Int))=true:=by simp;omega
   have hlm:l≠m:=fun h=>hnn (by rw[←hn,←hn2,h]);rw[decide_eq_false hlm];clear hn hn2 hlm
   go_enter Tryz.func56,Tryz.ntmps56
   go_wp2;go_ret;exact⟨rfl,Below.refl _ _⟩
def sameB (A B:Bas):Bool:=(List.range 9).all fun j=>decide (A.ls j=B.ls j)
theorem sameB_iff (A B:Bas):sameB A B=true↔ ∀j,j<9→A.ls j=B.ls j:=by
 unfold sameB;rw[List.all_eq_true];constructor
 · intro h j hj;simpa using h j (List.mem_range.2 hj)
 · intro h j hj;simpa using h j (List.mem_range.1 hj)
theorem bas_at (B:Bas) {j:Nat} (h:j<9):B.cells.toArray[j]?=some (.slice (B.ad j) (B.ls j).length (B.cp j)):=by
 match j,h with
 |0,_=>rfl
 |1,_=>rfl
 |2,_=>rfl
 |3,_=>rfl
 |4,_=>rfl
 |5,_=>rfl
 |6,_=>rfl
 |7,_=>rfl
 |8,_=>rfl
def nilPtrs:Array Value:=#[.pointer none,.pointer none,.pointer none,.pointer none,.pointer none,.pointer none,.pointer none,.pointer none,.pointer none,.pointer none]
theorem same_walk (A B:Bas) (w:World) (hA:BasAt w (Old w) A) (hB:BasAt w (Old w) B):Calls Tryz.prog 14 #[A.val,B.val] w (ValP w (sameB A B)):=by
 have HA:=hZ hA;have HB:=hZ hB;clear hA hB
 go_enter Tryz.func14,Tryz.ntmps14
 go_wp2_with fail;have HF0:=hZ (At.start w);obtain⟨b0,w0,q1,q2,q3,hf,hs0⟩:=HF0.out.alloc2 (.cells A.cells.toArray 36);obtain⟨b1,w1,r1,r2,r3,hf2,hs1⟩:=hf.alloc2 (.cells B.cells.toArray 36);rw[hs0] at r1;rw[q1,q2,r1,r2];have HF1:=hZ hf2;clear HF0 q1 q2 q3 hf hs0 r1 r2 r3 hf2 hs1
 go_wp2_with (first
  | (go_at_call 55;(with_reducible refine(lists_walk b0 _).mono ?_);rintro e2 w2 ⟨rfl,hb2⟩
     have HF2:=hZ (HF1.out.step hb2)
     clear hb2)
  | (go_at_call 55;(with_reducible refine(lists_walk b1 _).mono ?_);rintro e3 w3 ⟨rfl,hb3⟩
     have HF3:=hZ (HF2.out.step hb3)
     clear hb3)
  | ((with_reducible refine wpList_store_rowN rfl 96 (.tmp 5) (.tmp 8) rfl rfl w3.heap.size (ptrs b0).toArray nilPtrs rfl rfl ?hi ?hh ?ho ?h1 ?_);(case hi=>kernel_rfl);(case hh=>exact((below_new (w3.alloc (.cells nilPtrs 96)) (.cells nilPtrs 96)).block _ (by simp)).trans (World.alloc_heap_new w3 _));(case ho=>rfl);(case h1=>simp[ptrs,Value.oneCell']);intro w4 hc4 ht4
     have hb4:Below w3.heap.size w3 w4:=ht4.below ((below_new w3 _).trans ((below_new (w3.alloc (.cells nilPtrs 96)) _).mono (by simp))) (Nat.le_refl _) (fun k hk=>by omega);have hn4:w4.heap[w3.heap.size+1]?=some (.cells nilPtrs 96 (0,0)):=(ht4.block _ (by simp) (by omega)).trans (by have:=World.alloc_heap_new (w3.alloc (.cells nilPtrs 96)) (.cells nilPtrs 96);rwa[World.size_alloc] at this);have HF4:=hZ ((HF3.out.step hb4).cons hc4);have HN4:=hZ hn4;have hw3:w.heap.size≤w3.heap.size:=HF3.out.below.size;obtain⟨b5,hb5⟩:=oQ (w3.heap.size);rw[hb5] at HF4 HN4 hw3;have HW3:=hZ hw3;rw[hb5]
     clear hc4 ht4 hb4 hn4 hb5 hw3)
  | ((with_reducible refine wpList_store_rowN rfl 96 (.tmp 6) (.tmp 9) rfl rfl (b5+1) (ptrs b1).toArray nilPtrs rfl rfl ?hi HN4.out ?ho ?h1 ?_);(case hi=>kernel_rfl);(case ho=>rfl);(case h1=>simp[ptrs,Value.oneCell']);intro w5 hc5 ht5
     have HC5:=hZ hc5;have HT5:=hZ ht5
     clear hc5 ht5)
  |fail)
 obtain⟨b6,hb6⟩:=oQ (b5+1);rw[hb6] at HC5 HT5 HN4;rw[hb6]
 have hf5:At w w5 [(b6,.cells (ptrs b1).toArray 96 (0,0)),(b5,.cells (ptrs b0).toArray 96 (0,0)),(b1,.cells B.cells.toArray 36 (0,0)),(b0,.cells A.cells.toArray 36 (0,0))]:=by
  have hne:∀k cs,(k,Obj.cells cs 36 (0,0))∈[(b5,Obj.cells (ptrs b0).toArray 96 (0,0)),(b1,.cells B.cells.toArray 36 (0,0)),(b0,.cells A.cells.toArray 36 (0,0))]→w5.heap[k]?=some (Obj.cells cs 36 (0,0)):=fun k cs hm=>by
   have h4:=HF4.out.has _ hm;refine(HT5.out.block k (HF4.out.lt hm) (fun e=> ?_)).trans h4;rw[e] at h4;have:=HN4.out;rw[h4] at this;injection this with this;injection this with _ q2 _;exact absurd q2 (by decide)
  refine⟨HT5.out.below HF4.out.below (Nat.le_refl _) (fun k hk=>by have:=HW3.out;omega),fun p hp=> ?_⟩;simp only[List.mem_cons,List.not_mem_nil,or_false] at hp;rcases hp with rfl|rfl|rfl|rfl
  · exact HC5.out
  · exact(HT5.out.block b5 (HF4.out.lt (o:=.cells (ptrs b0).toArray 96 (0,0)) (by simp)) (by omega)).trans (HF4.out.has (b5,.cells (ptrs b0).toArray 96 (0,0)) (by simp))
  · exact hne _ _ (by simp)
  · exact hne _ _ (by simp)
 have HF5:=hZ hf5;clear hf5 hb6 HF1 HF2 HF3 HF4 HN4 HC5 HT5
 go_loopw [7] (fun v wr=> ∃k:Nat,v=.int .i64 (k:Int)∧1≤k∧k≤10∧Hid (∀j,j+1<k→A.ls j=B.ls j)∧At w wr [(b6,.cells (ptrs b1).toArray 96 (0,0)),(b5,.cells (ptrs b0).toArray 96 (0,0)),(b1,.cells B.cells.toArray 36 (0,0)),(b0,.cells A.cells.toArray 36 (0,0))]) (fun v _=>match v with|.int _ k=>10-k.toNat|_=>0)
 case atStart=>exact⟨1,rfl,by omega,by omega,hZ (fun j hj=>by omega),HF5.out⟩
 case round=>
  obtain⟨k,rfl,hk1,hk2,HT,hat⟩:=hrel;have HAT:=hZ hat;clear hat HF5
  by_cases hlt:k<10
  · obtain⟨j,rfl⟩:∃j,k=j+1:=⟨k-1,by omega⟩
    (have hj:j<9:=by omega);obtain⟨kN,hkN⟩:=oQ (j+1);have HKN:=hZ (And.intro hkN hj)
    have hS0:World.cell? wr.drew ⟨b5,kN,none⟩=some (.pointer (some ⟨b0,j,none⟩))∧World.cell? wr.drew ⟨b0,j,none⟩=some (.slice (A.ad j) (A.ls j).length (A.cp j))∧World.cell? wr.drew ⟨b6,kN,none⟩=some (.pointer (some ⟨b1,j,none⟩))∧World.cell? wr.drew ⟨b1,j,none⟩=some (.slice (B.ad j) (B.ls j).length (B.cp j)):=by
     refine⟨HAT.out.cell (cs:=(ptrs b0).toArray) (t:=96) (by simp) (by rw[←hkN];simpa using ptrs_at b0 j hj),HAT.out.cell (cs:=A.cells.toArray) (t:=36) (by simp) (bas_at A hj),HAT.out.cell (cs:=(ptrs b1).toArray) (t:=96) (by simp) (by rw[←hkN];simpa using ptrs_at b1 j hj),HAT.out.cell (cs:=B.cells.toArray) (t:=36) (by simp) (bas_at B hj)⟩
    obtain⟨na,hna⟩:=oQ ((A.ls j).length);obtain⟨nb,hnb⟩:=oQ ((B.ls j).length);have hEQ:=fun V (hV:Below w.heap.size w V)=>equal_walk (A.ls j) (B.ls j) (A.ad j) (B.ad j) na (A.cp j) nb (B.cp j) hna hnb (by rw[←hna];exact Nat.le_trans (HA.out.cap j hj).1 (HA.out.cap j hj).2) V ((HA.out.below hV).at_ j hj) ((HB.out.below hV).at_ j hj);have HEQ:=hZ hEQ;obtain⟨q,hq⟩:=oQ (decide (A.ls j=B.ls j));rw[hq] at HEQ;have HQ:=hZ hq;rw[hna,hnb] at hS0;(have z1:(0:Int)≤(kN:Int):=by omega);(have z2:(kN:Int)<10:=by omega);(have d1:decide (kN<10)=true:=by simp;omega);(have w1':IntKind.i64.wrap ((kN:Int)+1)=((kN+1:Nat):Int):=by rw[IntKind.wrap_i64];omega);have HSS:=hZ hS0;rw[hkN];clear hkN hj hna hnb hEQ hq hk1 hk2 hlt;go_wp2_with fail;have HAD:Hid (At w wr.drew _):=hZ HAT.out.drew;refine wp_region_noPanic ?_;refine wp_region_held_drew (S:=fun U=>World.cell? U ⟨b5,kN,none⟩=some (.pointer (some ⟨b0,j,none⟩))∧World.cell? U ⟨b0,j,none⟩=some (.slice (A.ad j) na (A.cp j))∧World.cell? U ⟨b6,kN,none⟩=some (.pointer (some ⟨b1,j,none⟩))∧World.cell? U ⟨b1,j,none⟩=some (.slice (B.ad j) nb (B.cp j))) (by kernel_rfl) hS0 (fun hHeld=> ?_);refine tk 0 ?_;refine tk 1 ?_;refine tk 2 ?_;refine tk 3 ?_;refine tk 4 ?_;refine tk 5 ?_;refine tk 6 ?_;refine tk 7 ?_;refine tk 8 ?_;refine tk 9 ?_;refine rd [10] ?_;refine rcE fun K hK=> ?_;go_simp
    (with_reducible refine(HEQ.out _ HAD.out.below).mono ?_)
    rintro e8 w8 ⟨rfl,hb8⟩;have HA8:=hZ (HAD.out.step hb8);have HB8:=hZ hb8;clear hb8;refine kk hK (⟨(HB8.out.cell (HAD.out.lt (b:=b5) (o:=.cells (ptrs b0).toArray 96 (0,0)) (by simp))).trans hHeld.1,(HB8.out.cell (HAD.out.lt (b:=b0) (o:=.cells A.cells.toArray 36 (0,0)) (by simp))).trans hHeld.2.1,(HB8.out.cell (HAD.out.lt (b:=b6) (o:=.cells (ptrs b1).toArray 96 (0,0)) (by simp))).trans hHeld.2.2.1,(HB8.out.cell (HAD.out.lt (b:=b1) (o:=.cells B.cells.toArray 36 (0,0)) (by simp))).trans hHeld.2.2.2⟩) (fun hHeld=> ?_);clear hK K;refine tk 11 ?_;refine dn ?_;clear hHeld hS0;cases q
    · go_wp2
      go_ret
      have hs:sameB A B=false:=by
       cases hs:sameB A B with
       |false=>rfl
       | true=>
         have:=(sameB_iff A B).1 hs j HKN.out.2;have hq:=HQ.out;rw[decide_eq_true this] at hq;cases hq
      rw[hs];exact⟨rfl,HA8.out.below⟩
    · go_wp2
      have ht:∀i,i+1<kN+1→A.ls i=B.ls i:=fun i hi=>by
       by_cases hij:i=j
       · subst hij;simpa using HQ.out
       · exact HT.out i (by have:=HKN.out.1;omega)
      have HTT:=hZ ht;clear ht;have hkk:=HKN.out
      go_roundw
      case rel=>exact⟨kN+1,rfl,by omega,by omega,HTT,HA8.out⟩
      case measure=>simp;omega
  · have d1:decide (k<10)=false:=by simp;omega
    have hs:sameB A B=true:=(sameB_iff A B).2 fun j hj=>HT.out j (by omega);have HS:=hZ hs;clear hs;go_wp2_with fail;go_ret;rw[HS.out];exact⟨rfl,HAT.out.below⟩
end Go.Proofs.YteeifhlhpiimoaaGreatDoor
end
