/-
  Known's comparison of points; slices.SortedStableFunc of fewer than 20 entries. Conditions: each contract's own. Contracts of known.Wrong, known.Budget, known.Skilled. Conditions: the lists' bounds. Contract of known.History, where fewer than 20 points are about the item. Conditions: the lists' bounds. Contracts of the law's small functions: pick, Root, n. Conditions: each contract's own.
-/
import Derived.Test.YteeifhlhpiimoaaGreatDoorZAa
import Derived.Test.YteeifhlhpiimoaaGreatDoorZAl
import Derived.Shelf.SlSortCmp.InsertionK
import Derived.Test.YteeifhlhpiimoaaGreatDoorZAf
import Derived.Laws.Tables
import Derived.Deep.CutRange
set_option maxHeartbeats 8000000
set_option maxRecDepth 100000
section
namespace Go.Proofs.YteeifhlhpiimoaaGreatDoor
open Go Go.RowKit Go.Shelf Go.Sort
attribute [local go_sem] Oper.semAt_some
def cmpH (x y:Ent):Int:=orI (cmpZ' x.frm y.frm) (cmpZ' x.id y.id)
theorem hist1_walk (x y:Ent) (W:World):Calls Tryz.prog 78 #[x.val,y.val] W fun e w'=>e=.returned (.int .i64 (cmpH x y))∧Grows W w':=by
 go_enter Tryz.func78,Tryz.ntmps78
 go_wp2_with (first
  | ((with_reducible refine box_entg rfl (.tmp 0) rfl x ?hx ?_);(case hx=>rfl);intro w1 he1 hg1
     obtain⟨b1,hb1⟩:=oQ (W.heap.size);rw[hb1] at he1;rw[hb1];have HE1:=hZ he1;have HG1:=hZ hg1
     clear he1 hg1 hb1)
  | ((with_reducible refine box_entg rfl (.tmp 1) rfl y ?hx ?_);(case hx=>rfl);intro w2 he2 hg2
     have HX2:=hZ (HE1.out.below hg2.below);obtain⟨b2,hb2⟩:=oQ (w1.heap.size);rw[hb2] at he2;rw[hb2];have HE2:=hZ he2;have HG2:=hZ (HG1.out.trans hg2)
     clear he2 hg2 hb2)
  |fail)
 obtain⟨U,hU⟩:=oQ (w2.drew);have HGU:Hid (Grows W U):=hZ (by rw[←hU];exact HG2.out.trans (Grows.drew _));have hE1:EntAt U b1 x:=by rw[←hU];exact HX2.out
 have hE2:EntAt U b2 y:=by rw[←hU];exact HE2.out
 have HLT:Hid (b1<U.heap.size∧b2<U.heap.size):=hZ ⟨(Array.getElem?_eq_some_iff.1 hE1).1,(Array.getElem?_eq_some_iff.1 hE2).1⟩
 have hS0:w2.drew.cell? ⟨b1,5,none⟩=some (.int .i64 x.frm)∧w2.drew.cell? ⟨b2,5,none⟩=some (.int .i64 y.frm)∧w2.drew.cell? ⟨b1,1,none⟩=some (.int .i64 x.id)∧w2.drew.cell? ⟨b2,1,none⟩=some (.int .i64 y.id):=by
  rw[hU];exact⟨hE1.cell (i:=5) rfl,hE2.cell (i:=5) rfl,hE1.cell (i:=1) rfl,hE2.cell (i:=1) rfl⟩
 clear hE1 hE2;refine wp_region_noPanic ?_;refine wp_region_held_drew (S:=fun U=>U.cell? ⟨b1,5,none⟩=some (.int .i64 x.frm)∧U.cell? ⟨b2,5,none⟩=some (.int .i64 y.frm)∧U.cell? ⟨b1,1,none⟩=some (.int .i64 x.id)∧U.cell? ⟨b2,1,none⟩=some (.int .i64 y.id)) (by kernel_rfl) hS0 (fun hHeld=> ?_);rw[hU] at hHeld⊢;clear hU;refine tk 0 ?_;refine tk 1 ?_;refine tk 2 ?_;refine tk 3 ?_;refine tk 5 ?_;refine tk 6 ?_;refine tk 7 ?_;refine tk 8 ?_;refine rd [4] ?_;refine rcE fun K hK=> ?_;go_simp
 (with_reducible refine(cmp_walk _ _ _).mono ?_)
 rintro e7 w7 ⟨rfl,rfl⟩;refine kk hK (hHeld) (fun hHeld=> ?_);clear hK K;refine rd [9] ?_;refine rcE fun K hK=> ?_;go_simp
 (with_reducible refine(cmp_walk _ _ _).mono ?_)
 rintro e8 w8 ⟨rfl,rfl⟩;refine kk hK (hHeld) (fun hHeld=> ?_);clear hK K;refine rd [10] ?_;refine rcE fun K hK=> ?_;go_simp;obtain⟨bo,hbo⟩:=oQ (U.heap.size);obtain⟨U1,hU1⟩:=oQ (U.alloc (.cells #[.int .i64 (cmpZ' x.frm y.frm),.int .i64 (cmpZ' x.id y.id)] 3));have hn1:U1.heap[bo]?=some (.cells #[.int .i64 (cmpZ' x.frm y.frm),.int .i64 (cmpZ' x.id y.id)] 3 (0,0)):=by rw[←hU1,←hbo];exact World.alloc_heap_new _ _
 have hb1:Below U.heap.size U U1:=by rw[←hU1];exact below_new _ _
 have hg1:Grows W U1:=by rw[←hU1];exact HGU.out.trans (Grows.alloc _ _)
 rw[hbo,hU1];have HN1:=hZ hn1;have HG1:=hZ hg1;have HS1:Hid (U1.cell? ⟨b1,5,none⟩=some (.int .i64 x.frm)∧U1.cell? ⟨b2,5,none⟩=some (.int .i64 y.frm)∧U1.cell? ⟨b1,1,none⟩=some (.int .i64 x.id)∧U1.cell? ⟨b2,1,none⟩=some (.int .i64 y.id)):=hZ ⟨(hb1.cell HLT.out.1).trans hHeld.1,(hb1.cell HLT.out.2).trans hHeld.2.1,(hb1.cell HLT.out.1).trans hHeld.2.2.1,(hb1.cell HLT.out.2).trans hHeld.2.2.2⟩;clear hbo hU1 hn1 hb1 hg1;refine kk hK (HS1.out) (fun hHeld=> ?_);clear hK K;refine rd [11] ?_;refine rcE fun K hK=> ?_;go_simp
 (with_reducible refine(or_walk bo 2 (cmpZ' x.frm y.frm) (cmpZ' x.id y.id) U1 (cells_i HN1.out rfl) (cells_i HN1.out rfl)).mono ?_)
 rintro e9 w9 ⟨rfl,rfl⟩;refine kk hK (HS1.out) (fun hHeld=> ?_);clear hK K;refine tk 12 ?_;refine dn ?_;clear hHeld hS0;go_wp2;go_ret;exact⟨rfl,HG1.out⟩
theorem ltOf_hist (x y:Ent):ltOf cmpH x y=byNum2 Ent.frm Ent.id x y:=by
 unfold ltOf cmpH orI cmpZ' byNum2
 by_cases h1:x.frm<y.frm
 · simp[h1]
 · by_cases h2:y.frm<x.frm
   · have:¬x.frm=y.frm:=by omega
     simp[h1,h2,this]
   · have h3:x.frm=y.frm:=by omega
     by_cases h4:x.id<y.id
     · simp[h3,h4]
     · by_cases h5:y.id<x.id<;>simp[h3,h4,h5]
theorem swo_hist:SWO (ltOf cmpH) where
 irrefl x:=by rw[ltOf_hist];simp[byNum2]
 trans x y z h1 h2:=by rw[ltOf_hist] at*;simp[byNum2] at*;omega
 ntrans x y z h1 h2:=by rw[ltOf_hist] at*;simp[byNum2] at*;omega
def histL (l:List Ent):List Ent:=(insertionSort (ltOf cmpH) l.toArray 0 l.length).toList
theorem histL_spec (l:List Ent):(histL l).Perm l∧Up (ltOf cmpH) (histL l)∧(insertionSort (ltOf cmpH) l.toArray 0 l.length).size=l.length:=by
 have h:=insertionSort_holds swo_hist l.toArray 0 l.length (Nat.zero_le _) (by simp);have hp:=perm_lists (d:=l.toArray) (d':=insertionSort (ltOf cmpH) l.toArray 0 l.length) (by simpa using h.1);exact⟨by unfold histL;simpa using hp.2,sorted_up (by simpa using hp.1.symm) h.2,by simpa using hp.1⟩
theorem insE_walk {w:World} {N:Nat} {v:Value} {l:List Ent} (h:OL w N 33 18 Ent.cells v l) (hl:l.length≤1000000):
 Calls Tryz.prog 156 #[v,.int .i64 0,.int .i64 l.length,.func (.func 78) #[] #[]] w fun r w'=>r=.returned (.tuple #[])∧OL w' N 33 18 Ent.cells v (histL l)∧Turns (fun q=>v.ownBlock=some q) w w':=by
 rcases h.2 with⟨he,hz⟩|⟨b,cap,cur,he,hb,hc,h4,h5,h6,h7⟩
 · subst he
   have:l=[]:=List.eq_nil_of_length_eq_zero hz;subst this;have hn:=AnyF.insertionSortCmpFunc_none (P:=Tryz.prog) {Tryz.sortEnt with} none 0 (.func (.func 78) #[] #[]) w;refine Calls.mono (show Calls Tryz.prog 156 _ _ _ from hn) fun e w' q=> ?_;have h0:histL []=[]:=List.Perm.eq_nil (histL_spec []).1;rw[q.2,h0];exact⟨q.1,h,Turns.refl _ _⟩
 · subst he
   have hcl:CmpLays Tryz.prog 78 #[] Ent.cells 18 cmpH b 0 l.toArray.size w:=fun m os dk hs x y=>(hist1_walk x y _).mono fun e w' q=>⟨q.1,q.2⟩
   have hs:=AnyQ.insertionSortCmpFunc (P:=Tryz.prog) (α:=Ent) {Tryz.sortEnt with} 18 Tryz.isAgg33 Tryz.sizeOf33 Ent.cells (fun _=>rfl) (fun x=>one_cells' x) cmpH 78 #[] b 0 cap 0 l.length l.toArray w
    (enters_of Tryz.func78 (by kernel_rfl) rfl) hcl (row_holds (f:=Ent.cells) (k:=18) (by decide) (fun _=>rfl) h) ((Array.getElem?_eq_some_iff.1 hc).1) (Nat.zero_le _) (by simp) (by simp;omega)
   rw[List.size_toArray] at hs;refine Calls.mono (show Calls Tryz.prog 156 _ _ _ from hs) fun e w' q=> ?_;obtain⟨rfl,m,os,rfl⟩:=q;refine⟨rfl,sorted_ol (f:=Ent.cells) (k:=18) (by decide) (fun _=>rfl) h _ (histL_spec l).2.2 os,(sorted_block hc _ os).2.mono fun q hq=> ?_⟩;subst hq;rfl
theorem stable_walk {w:World} {N:Nat} {v:Value} {l:List Ent} (h:OL w N 33 18 Ent.cells v l) (hl:l.length<20):
 Calls Tryz.prog 172 #[v,.int .i64 l.length,.func (.func 78) #[] #[]] w fun r w'=>r=.returned (.tuple #[])∧OL w' N 33 18 Ent.cells v (histL l)∧Turns (fun q=>v.ownBlock=some q) w w':=by
 have HW:=hZ (insE_walk h (by omega));obtain⟨n,hn⟩:=oQ (l.length);rw[hn] at HW hl⊢;clear h hn
 go_enter Tryz.func172,Tryz.ntmps172
 go_wp2;refine wp_loop_rounds 1 ?_;rw[rounds_succ];have d1:decide (20≤n)=false:=by simp;omega
 have d2:decide (20<n)=false:=by simp;omega
 go_wp2_with (go_at_call 156;(with_reducible refine HW.out.mono ?_);rintro e1 w1 ⟨rfl,ho1,ht1⟩;have HO:=hZ ho1;have HT:=hZ ht1;clear ho1 ht1)
 refine wp_loop_rounds 1 ?_;rw[rounds_succ];go_wp2
 go_end0
 exact⟨rfl,HO.out,HT.out⟩
theorem sortStable_walk {w:World} {N:Nat} {v:Value} {l:List Ent} (h:OL w N 33 18 Ent.cells v l) (hl:l.length<20):
 Calls Tryz.prog 132 #[v,.func (.func 78) #[] #[]] w fun r w'=>r=.returned (.tuple #[])∧OL w' N 33 18 Ent.cells v (histL l)∧Turns (fun q=>v.ownBlock=some q) w w':=by
 obtain⟨A,c,rfl,-,-⟩:=h.slice;have HW:=hZ (stable_walk h hl);obtain⟨n,hn⟩:=oQ (l.length);rw[hn] at HW⊢;clear h hn hl
 go_enter Tryz.func132,Tryz.ntmps132
 go_wp2_with (go_at_call 172;(with_reducible refine HW.out.mono ?_);rintro e1 w1 ⟨rfl,ho1,ht1⟩)
 go_end0
 exact⟨rfl,ho1,ht1⟩
theorem sortedStable_walk (b1 b2 N:Nat) (L:List Ent) (Sp:List Ent→Prop) (w:World) (hI:IterZ Tryz.prog 127 #[.pointer (some ⟨b1,0,none⟩),.pointer (some ⟨b2,0,none⟩)] encE1 (fun _=>False) (Keeps (Old w)) (fun xs=>xs=L) Sp N w) (hN:N≤1000000) (hL:L.length<20):
 Calls Tryz.prog 77 #[.func (.func 127) #[] #[.pointer (some ⟨b1,0,none⟩),.pointer (some ⟨b2,0,none⟩)],.func (.func 78) #[] #[]] w fun e w'=> ∃v,e=.returned v∧OL w' w.heap.size 33 18 Ent.cells v (histL L)∧Below w.heap.size w w':=by
 have HC:=hZ (collectE_walk b1 b2 N L Sp w hI hN);clear hI hN
 go_enter Tryz.func77,Tryz.ntmps77
 go_wp2_with (first
  |(go_at_call 131;(with_reducible refine HC.out.mono ?_);rintro e1 w1 ⟨v1,rfl,ho1,hb1⟩;have HO:=hZ ho1;have HB:=hZ hb1;clear ho1 hb1)
  |(go_at_call 132;(with_reducible refine(sortStable_walk HO.out hL).mono ?_);rintro e2 w2 ⟨rfl,ho2,ht2⟩;have HO2:=hZ ho2;have HT2:=hZ ht2;clear ho2 ht2)
  |fail)
 go_ret;exact⟨v1,rfl,HO2.out,HT2.out.below HB.out (Nat.le_refl _) (fun q hq=>(HO.out.lt q hq).1)⟩
end Go.Proofs.YteeifhlhpiimoaaGreatDoor
end
section
namespace Go.Proofs.YteeifhlhpiimoaaGreatDoor
open Go Go.RowKit Go.Shelf
attribute [local go_sem] Oper.semAt_some
def budgetE (l:List Ent) (p:Int):Ent:=(l.filter fun e=>decide (e.item=p)).headD zeroE
theorem budget_walk (B:Bas) (p:Int) (w:World) (hB:BasAt w (Old w) B):Calls Tryz.prog 24 #[B.val,.int .i64 p] w (fun e w'=>e=.returned (.tuple #[.agg #[.string (budgetE (B.ls 7) p).rn,.string (budgetE (B.ls 7) p).rd],.bool ((B.ls 7).any fun e=>decide (e.item=p))])∧Below w.heap.size w w'):=by
 have HB:=hZ hB;have IE:=fun e:Ent=>hZ (ientry (e:=e));clear hB
 go_enter Tryz.func24,Tryz.ntmps24
 go_wp2;have HF0:=hZ (At.start w);obtain⟨b0,w0,q1,q2,q3,hf,hs0⟩:=HF0.out.alloc2 (.cells B.cells.toArray 36);rw[q1,q2];have HF0:=hZ hf;have Hb0:=hZ q3;clear hf q1 q2 q3;obtain⟨b4,w1,q1,q2,q3,hf,hs1⟩:=HF0.out.alloc2 (.cells #[.string ⟨#[]⟩,.string ⟨#[]⟩] 29);rw[hs0] at q1;rw[q1,q2];have HF0:=hZ hf;have Hb4:=hZ q3;clear hf q1 q2 q3 hs0;clear hs1;have HF:=hZ HF0.out.drew;clear HF0;refine wp_region_noPanic ?_;refine wp_region_held_drew (S:=fun U=>U.cell? ⟨b0,7,none⟩=some (.slice (B.ad 7) (B.ls 7).length (B.cp 7))) (by kernel_rfl) (At.cell HF.out (b:=b0) (cs:=B.cells.toArray) (t:=36) (i:=7) (by simp) rfl) (fun hHeld=> ?_);obtain⟨U0,hU0⟩:=oQ (w1.drew);rw[hU0] at HF hHeld⊢;clear hU0;refine tk 0 ?_;refine tk 1 ?_;refine tk 2 ?_;refine rd [3,10] ?_;refine rc (fun K hK=> ?_) ?_
 ·
  go_simp
  (with_reducible refine(about_at (p) HF.out).mono ?_)
  rintro e1 V1 ⟨ba,rfl,HF1⟩;have HF:=hZ HF1;clear HF1;refine kk hK (At.cell HF.out (b:=b0) (cs:=B.cells.toArray) (t:=36) (i:=7) (by simp) rfl) (fun hHeld=> ?_);clear hK K;refine rd [4,10] ?_;refine rc (fun K hK=> ?_) ?_
  ·
   go_simp;obtain⟨bc,V3,q1,q2,-,HF1⟩:=HF.out.alloc (.cells #[.func (.func 129) #[] #[.pointer (some ⟨ba,0,none⟩)]] 45);rw[q1,q2];have HF:=hZ HF1;clear HF1 q1 q2;refine kk hK (At.cell HF.out (b:=b0) (cs:=B.cells.toArray) (t:=36) (i:=7) (by simp) rfl) (fun hHeld=> ?_);clear hK K;refine rd [5,10] ?_;refine rc (fun K hK=> ?_) ?_
   ·
    go_simp
    (with_reducible refine(where_at (B.ad 7) (B.ls 7).length (B.cp 7) (some ⟨bc,0,none⟩) 1 1 HF.out).mono ?_)
    rintro e1 V4 ⟨b1,b2,rfl,HF1⟩;have HF:=hZ HF1;clear HF1;refine kk hK (At.cell HF.out (b:=b0) (cs:=B.cells.toArray) (t:=36) (i:=7) (by simp) rfl) (fun hHeld=> ?_);clear hK K;refine rd [6,10] ?_;refine rc (fun K hK=> ?_) ?_
    ·
     go_simp
     (with_reducible refine(first_at HF.out [⟨129,#[.pointer (some ⟨ba,0,none⟩)],fun e=>decide (e.item=p)⟩] (B.ls 7) (B.ad 7) (some ⟨bc,0,none⟩) _ (B.cp 7) 1 1 b1 b2 rfl (Nat.le_trans (HB.out.cap 7 (by decide)).1 (HB.out.cap 7 (by decide)).2) rfl (by decide) (by simp) (by simp) (HB.out.at_ 7 (by decide)) bc rfl 45 (by simp[CndD.val]) ?hc).mono ?_)
     case hc=>intro c hc;simp only[List.mem_cons,List.not_mem_nil,or_false] at hc;obtain rfl:=hc;exact HF.out.about (by simp)
     rintro e1 V5 ⟨rfl,HF1⟩;have HF:=hZ HF1;unfold firstR;obtain⟨ev,hev⟩:=oQ ((List.filter (allP [⟨129,#[.pointer (some ⟨ba,0,none⟩)],fun e=>decide (e.item=p)⟩]) (B.ls 7)).headD zeroE);obtain⟨qv,hqv⟩:=oQ ((!(List.filter (allP [⟨129,#[.pointer (some ⟨ba,0,none⟩)],fun e=>decide (e.item=p)⟩]) (B.ls 7)).isEmpty));rw[hev,hqv];have HEV:=hZ hev;have HQV:=hZ hqv;clear HF1 hev hqv;refine kk hK (At.cell HF.out (b:=b0) (cs:=B.cells.toArray) (t:=36) (i:=7) (by simp) rfl) (fun hHeld=> ?_);clear hK K;refine tk 7 ?_;refine tk 8 ?_;refine tk 9 ?_;refine rd [10] ?_;refine rcE fun K hK=> ?_;go_simp;obtain⟨bv,V6,q1,q2,q3,HF1⟩:=HF.out.alloc (.cells zeroE.cells.toArray 33);have q2':V6=V6:=rfl;simp only[zeroE,Ent.cells] at q2;rw[q1,q2];have HF:=hZ HF1;have HV:=hZ q3;clear HF1 q1 q2 q2' q3;refine kk hK (At.cell HF.out (b:=b0) (cs:=B.cells.toArray) (t:=36) (i:=7) (by simp) rfl) (fun hHeld=> ?_);clear hK K;refine rd [11] ?_;refine rcE fun K hK=> ?_;refine step_store_at (by rfl) (.tmp 6) (.tmp 16) (by rfl) (by rfl) bv ev (by rfl) (by rfl) (IE _).out HF.out HV.out (by simp[zeroE,Ent.cells]) ?_;intro V7 hb7 he7 hk7;have HST:=hZ (And.intro hb7 he7);have HK7:=hZ hk7;clear hb7 he7 hk7;refine kk hK (cells_i (HK7.out b0 B.cells.toArray 36 (by simp) (by decide)) (i:=7) rfl) (fun hHeld=> ?_);clear hK K;refine tk 12 ?_;refine dn ?_;have HB4:=hZ (HK7.out b4 #[.string ⟨#[]⟩,.string ⟨#[]⟩] 29 (by simp) (by decide));have x1:=HST.out.2.cell (i:=15) rfl;have x2:=HST.out.2.cell (i:=16) rfl;have y1:=cells_i (i:=0) HB4.out rfl;have y2:=cells_i (i:=1) HB4.out rfl;have f1:=cells_free HB4.out 0;have f2:=cells_free HB4.out 1;clear hHeld;go_wp2;(have hq:qv=(B.ls 7).any fun e=>decide (e.item=p):=by rw[←HQV.out,any_first];congr 1;funext e;simp[allP]);have he:ev=budgetE (B.ls 7) p:=by rw[←HEV.out];unfold budgetE;congr 2;funext e;simp[allP]
     rw[←hq,←he];have hR:=put2 HB4.out (.string ev.rn) (.string ev.rd);refine bodyPost_ret (results_celltmp rfl _ _ b4 [.string ev.rn,.string ev.rd] _ rfl (range_of hR) Tryz.underlying29 rfl (by kernel_rfl)) rfl ?_;exact⟨rfl,below_put2 HST.out.1 Hb4.out _ _⟩
    refine rcE fun K hK=> ?_;go_simp;obtain⟨bv,V6,q1,q2,q3,HF1⟩:=HF.out.alloc (.cells zeroE.cells.toArray 33);have q2':V6=V6:=rfl;simp only[zeroE,Ent.cells] at q2;rw[q1,q2];have HF:=hZ HF1;have HV:=hZ q3;clear HF1 q1 q2 q2' q3;refine kk hK (At.cell HF.out (b:=b0) (cs:=B.cells.toArray) (t:=36) (i:=7) (by simp) rfl) (fun hHeld=> ?_);clear hK K;refine rd [6] ?_;refine rcE fun K hK=> ?_;go_simp
    (with_reducible refine(first_at HF.out [⟨129,#[.pointer (some ⟨ba,0,none⟩)],fun e=>decide (e.item=p)⟩] (B.ls 7) (B.ad 7) (some ⟨bc,0,none⟩) _ (B.cp 7) 1 1 b1 b2 rfl (Nat.le_trans (HB.out.cap 7 (by decide)).1 (HB.out.cap 7 (by decide)).2) rfl (by decide) (by simp) (by simp) (HB.out.at_ 7 (by decide)) bc rfl 45 (by simp[CndD.val]) ?hc).mono ?_)
    case hc=>intro c hc;simp only[List.mem_cons,List.not_mem_nil,or_false] at hc;obtain rfl:=hc;exact HF.out.about (by simp)
    rintro e1 V5 ⟨rfl,HF1⟩;have HF:=hZ HF1;unfold firstR;obtain⟨ev,hev⟩:=oQ ((List.filter (allP [⟨129,#[.pointer (some ⟨ba,0,none⟩)],fun e=>decide (e.item=p)⟩]) (B.ls 7)).headD zeroE);obtain⟨qv,hqv⟩:=oQ ((!(List.filter (allP [⟨129,#[.pointer (some ⟨ba,0,none⟩)],fun e=>decide (e.item=p)⟩]) (B.ls 7)).isEmpty));rw[hev,hqv];have HEV:=hZ hev;have HQV:=hZ hqv;clear HF1 hev hqv;refine kk hK (At.cell HF.out (b:=b0) (cs:=B.cells.toArray) (t:=36) (i:=7) (by simp) rfl) (fun hHeld=> ?_);clear hK K;refine tk 7 ?_;refine tk 8 ?_;refine tk 9 ?_;refine rd [11] ?_;refine rcE fun K hK=> ?_;refine step_store_at (by rfl) (.tmp 6) (.tmp 16) (by rfl) (by rfl) bv ev (by rfl) (by rfl) (IE _).out HF.out HV.out (by simp[zeroE,Ent.cells]) ?_;intro V7 hb7 he7 hk7;have HST:=hZ (And.intro hb7 he7);have HK7:=hZ hk7;clear hb7 he7 hk7;refine kk hK (cells_i (HK7.out b0 B.cells.toArray 36 (by simp) (by decide)) (i:=7) rfl) (fun hHeld=> ?_);clear hK K;refine tk 12 ?_;refine dn ?_;have HB4:=hZ (HK7.out b4 #[.string ⟨#[]⟩,.string ⟨#[]⟩] 29 (by simp) (by decide));have x1:=HST.out.2.cell (i:=15) rfl;have x2:=HST.out.2.cell (i:=16) rfl;have y1:=cells_i (i:=0) HB4.out rfl;have y2:=cells_i (i:=1) HB4.out rfl;have f1:=cells_free HB4.out 0;have f2:=cells_free HB4.out 1;clear hHeld;go_wp2;(have hq:qv=(B.ls 7).any fun e=>decide (e.item=p):=by rw[←HQV.out,any_first];congr 1;funext e;simp[allP]);(have he:ev=budgetE (B.ls 7) p:=by rw[←HEV.out];unfold budgetE;congr 2;funext e;simp[allP]);rw[←hq,←he];have hR:=put2 HB4.out (.string ev.rn) (.string ev.rd);refine bodyPost_ret (results_celltmp rfl _ _ b4 [.string ev.rn,.string ev.rd] _ rfl (range_of hR) Tryz.underlying29 rfl (by kernel_rfl)) rfl ?_;exact⟨rfl,below_put2 HST.out.1 Hb4.out _ _⟩
   refine rcE fun K hK=> ?_;go_simp;obtain⟨bv,V6,q1,q2,q3,HF1⟩:=HF.out.alloc (.cells zeroE.cells.toArray 33);have q2':V6=V6:=rfl;simp only[zeroE,Ent.cells] at q2;rw[q1,q2];have HF:=hZ HF1;have HV:=hZ q3;clear HF1 q1 q2 q2' q3;refine kk hK (At.cell HF.out (b:=b0) (cs:=B.cells.toArray) (t:=36) (i:=7) (by simp) rfl) (fun hHeld=> ?_);clear hK K;refine rd [5] ?_;refine rcE fun K hK=> ?_;go_simp
   (with_reducible refine(where_at (B.ad 7) (B.ls 7).length (B.cp 7) (some ⟨bc,0,none⟩) 1 1 HF.out).mono ?_)
   rintro e1 V4 ⟨b1,b2,rfl,HF1⟩;have HF:=hZ HF1;clear HF1;refine kk hK (At.cell HF.out (b:=b0) (cs:=B.cells.toArray) (t:=36) (i:=7) (by simp) rfl) (fun hHeld=> ?_);clear hK K;refine rd [6] ?_;refine rcE fun K hK=> ?_;go_simp
   (with_reducible refine(first_at HF.out [⟨129,#[.pointer (some ⟨ba,0,none⟩)],fun e=>decide (e.item=p)⟩] (B.ls 7) (B.ad 7) (some ⟨bc,0,none⟩) _ (B.cp 7) 1 1 b1 b2 rfl (Nat.le_trans (HB.out.cap 7 (by decide)).1 (HB.out.cap 7 (by decide)).2) rfl (by decide) (by simp) (by simp) (HB.out.at_ 7 (by decide)) bc rfl 45 (by simp[CndD.val]) ?hc).mono ?_)
   case hc=>intro c hc;simp only[List.mem_cons,List.not_mem_nil,or_false] at hc;obtain rfl:=hc;exact HF.out.about (by simp)
   rintro e1 V5 ⟨rfl,HF1⟩;have HF:=hZ HF1;unfold firstR;obtain⟨ev,hev⟩:=oQ ((List.filter (allP [⟨129,#[.pointer (some ⟨ba,0,none⟩)],fun e=>decide (e.item=p)⟩]) (B.ls 7)).headD zeroE);obtain⟨qv,hqv⟩:=oQ ((!(List.filter (allP [⟨129,#[.pointer (some ⟨ba,0,none⟩)],fun e=>decide (e.item=p)⟩]) (B.ls 7)).isEmpty));rw[hev,hqv];have HEV:=hZ hev;have HQV:=hZ hqv;clear HF1 hev hqv;refine kk hK (At.cell HF.out (b:=b0) (cs:=B.cells.toArray) (t:=36) (i:=7) (by simp) rfl) (fun hHeld=> ?_);clear hK K;refine tk 7 ?_;refine tk 8 ?_;refine tk 9 ?_;refine rd [11] ?_;refine rcE fun K hK=> ?_;refine step_store_at (by rfl) (.tmp 6) (.tmp 16) (by rfl) (by rfl) bv ev (by rfl) (by rfl) (IE _).out HF.out HV.out (by simp[zeroE,Ent.cells]) ?_;intro V7 hb7 he7 hk7;have HST:=hZ (And.intro hb7 he7);have HK7:=hZ hk7;clear hb7 he7 hk7;refine kk hK (cells_i (HK7.out b0 B.cells.toArray 36 (by simp) (by decide)) (i:=7) rfl) (fun hHeld=> ?_);clear hK K;refine tk 12 ?_;refine dn ?_;have HB4:=hZ (HK7.out b4 #[.string ⟨#[]⟩,.string ⟨#[]⟩] 29 (by simp) (by decide));have x1:=HST.out.2.cell (i:=15) rfl;have x2:=HST.out.2.cell (i:=16) rfl;have y1:=cells_i (i:=0) HB4.out rfl;have y2:=cells_i (i:=1) HB4.out rfl;have f1:=cells_free HB4.out 0;have f2:=cells_free HB4.out 1;clear hHeld;go_wp2;(have hq:qv=(B.ls 7).any fun e=>decide (e.item=p):=by rw[←HQV.out,any_first];congr 1;funext e;simp[allP]);(have he:ev=budgetE (B.ls 7) p:=by rw[←HEV.out];unfold budgetE;congr 2;funext e;simp[allP]);rw[←hq,←he];have hR:=put2 HB4.out (.string ev.rn) (.string ev.rd);refine bodyPost_ret (results_celltmp rfl _ _ b4 [.string ev.rn,.string ev.rd] _ rfl (range_of hR) Tryz.underlying29 rfl (by kernel_rfl)) rfl ?_;exact⟨rfl,below_put2 HST.out.1 Hb4.out _ _⟩
  refine rcE fun K hK=> ?_;go_simp;obtain⟨bv,V6,q1,q2,q3,HF1⟩:=HF.out.alloc (.cells zeroE.cells.toArray 33);have q2':V6=V6:=rfl;simp only[zeroE,Ent.cells] at q2;rw[q1,q2];have HF:=hZ HF1;have HV:=hZ q3;clear HF1 q1 q2 q2' q3;refine kk hK (At.cell HF.out (b:=b0) (cs:=B.cells.toArray) (t:=36) (i:=7) (by simp) rfl) (fun hHeld=> ?_);clear hK K;refine rd [4] ?_;refine rcE fun K hK=> ?_;go_simp;obtain⟨bc,V3,q1,q2,-,HF1⟩:=HF.out.alloc (.cells #[.func (.func 129) #[] #[.pointer (some ⟨ba,0,none⟩)]] 45);rw[q1,q2];have HF:=hZ HF1;clear HF1 q1 q2;refine kk hK (At.cell HF.out (b:=b0) (cs:=B.cells.toArray) (t:=36) (i:=7) (by simp) rfl) (fun hHeld=> ?_);clear hK K;refine rd [5] ?_;refine rcE fun K hK=> ?_;go_simp
  (with_reducible refine(where_at (B.ad 7) (B.ls 7).length (B.cp 7) (some ⟨bc,0,none⟩) 1 1 HF.out).mono ?_)
  rintro e1 V4 ⟨b1,b2,rfl,HF1⟩;have HF:=hZ HF1;clear HF1;refine kk hK (At.cell HF.out (b:=b0) (cs:=B.cells.toArray) (t:=36) (i:=7) (by simp) rfl) (fun hHeld=> ?_);clear hK K;refine rd [6] ?_;refine rcE fun K hK=> ?_;go_simp
  (with_reducible refine(first_at HF.out [⟨129,#[.pointer (some ⟨ba,0,none⟩)],fun e=>decide (e.item=p)⟩] (B.ls 7) (B.ad 7) (some ⟨bc,0,none⟩) _ (B.cp 7) 1 1 b1 b2 rfl (Nat.le_trans (HB.out.cap 7 (by decide)).1 (HB.out.cap 7 (by decide)).2) rfl (by decide) (by simp) (by simp) (HB.out.at_ 7 (by decide)) bc rfl 45 (by simp[CndD.val]) ?hc).mono ?_)
  case hc=>intro c hc;simp only[List.mem_cons,List.not_mem_nil,or_false] at hc;obtain rfl:=hc;exact HF.out.about (by simp)
  rintro e1 V5 ⟨rfl,HF1⟩;have HF:=hZ HF1;unfold firstR;obtain⟨ev,hev⟩:=oQ ((List.filter (allP [⟨129,#[.pointer (some ⟨ba,0,none⟩)],fun e=>decide (e.item=p)⟩]) (B.ls 7)).headD zeroE);obtain⟨qv,hqv⟩:=oQ ((!(List.filter (allP [⟨129,#[.pointer (some ⟨ba,0,none⟩)],fun e=>decide (e.item=p)⟩]) (B.ls 7)).isEmpty));rw[hev,hqv];have HEV:=hZ hev;have HQV:=hZ hqv;clear HF1 hev hqv;refine kk hK (At.cell HF.out (b:=b0) (cs:=B.cells.toArray) (t:=36) (i:=7) (by simp) rfl) (fun hHeld=> ?_);clear hK K;refine tk 7 ?_;refine tk 8 ?_;refine tk 9 ?_;refine rd [11] ?_;refine rcE fun K hK=> ?_;refine step_store_at (by rfl) (.tmp 6) (.tmp 16) (by rfl) (by rfl) bv ev (by rfl) (by rfl) (IE _).out HF.out HV.out (by simp[zeroE,Ent.cells]) ?_;intro V7 hb7 he7 hk7;have HST:=hZ (And.intro hb7 he7);have HK7:=hZ hk7;clear hb7 he7 hk7;refine kk hK (cells_i (HK7.out b0 B.cells.toArray 36 (by simp) (by decide)) (i:=7) rfl) (fun hHeld=> ?_);clear hK K;refine tk 12 ?_;refine dn ?_;have HB4:=hZ (HK7.out b4 #[.string ⟨#[]⟩,.string ⟨#[]⟩] 29 (by simp) (by decide));have x1:=HST.out.2.cell (i:=15) rfl;have x2:=HST.out.2.cell (i:=16) rfl;have y1:=cells_i (i:=0) HB4.out rfl;have y2:=cells_i (i:=1) HB4.out rfl;have f1:=cells_free HB4.out 0;have f2:=cells_free HB4.out 1;clear hHeld;go_wp2;have hq:qv=(B.ls 7).any fun e=>decide (e.item=p):=by rw[←HQV.out,any_first];congr 1;funext e;simp[allP]
  have he:ev=budgetE (B.ls 7) p:=by rw[←HEV.out];unfold budgetE;congr 2;funext e;simp[allP]
  rw[←hq,←he];have hR:=put2 HB4.out (.string ev.rn) (.string ev.rd);refine bodyPost_ret (results_celltmp rfl _ _ b4 [.string ev.rn,.string ev.rd] _ rfl (range_of hR) Tryz.underlying29 rfl (by kernel_rfl)) rfl ?_;exact⟨rfl,below_put2 HST.out.1 Hb4.out _ _⟩
 refine rcE fun K hK=> ?_;go_simp;obtain⟨bv,V6,q1,q2,q3,HF1⟩:=HF.out.alloc (.cells zeroE.cells.toArray 33);have q2':V6=V6:=rfl;simp only[zeroE,Ent.cells] at q2;rw[q1,q2];have HF:=hZ HF1;have HV:=hZ q3;clear HF1 q1 q2 q2' q3;refine kk hK (At.cell HF.out (b:=b0) (cs:=B.cells.toArray) (t:=36) (i:=7) (by simp) rfl) (fun hHeld=> ?_);clear hK K;refine rd [3] ?_;refine rcE fun K hK=> ?_;go_simp
 (with_reducible refine(about_at (p) HF.out).mono ?_)
 rintro e1 V1 ⟨ba,rfl,HF1⟩;have HF:=hZ HF1;clear HF1;refine kk hK (At.cell HF.out (b:=b0) (cs:=B.cells.toArray) (t:=36) (i:=7) (by simp) rfl) (fun hHeld=> ?_);clear hK K;refine rd [4] ?_;refine rcE fun K hK=> ?_;go_simp;obtain⟨bc,V3,q1,q2,-,HF1⟩:=HF.out.alloc (.cells #[.func (.func 129) #[] #[.pointer (some ⟨ba,0,none⟩)]] 45);rw[q1,q2];have HF:=hZ HF1;clear HF1 q1 q2;refine kk hK (At.cell HF.out (b:=b0) (cs:=B.cells.toArray) (t:=36) (i:=7) (by simp) rfl) (fun hHeld=> ?_);clear hK K;refine rd [5] ?_;refine rcE fun K hK=> ?_;go_simp
 (with_reducible refine(where_at (B.ad 7) (B.ls 7).length (B.cp 7) (some ⟨bc,0,none⟩) 1 1 HF.out).mono ?_)
 rintro e1 V4 ⟨b1,b2,rfl,HF1⟩;have HF:=hZ HF1;clear HF1;refine kk hK (At.cell HF.out (b:=b0) (cs:=B.cells.toArray) (t:=36) (i:=7) (by simp) rfl) (fun hHeld=> ?_);clear hK K;refine rd [6] ?_;refine rcE fun K hK=> ?_;go_simp
 (with_reducible refine(first_at HF.out [⟨129,#[.pointer (some ⟨ba,0,none⟩)],fun e=>decide (e.item=p)⟩] (B.ls 7) (B.ad 7) (some ⟨bc,0,none⟩) _ (B.cp 7) 1 1 b1 b2 rfl (Nat.le_trans (HB.out.cap 7 (by decide)).1 (HB.out.cap 7 (by decide)).2) rfl (by decide) (by simp) (by simp) (HB.out.at_ 7 (by decide)) bc rfl 45 (by simp[CndD.val]) ?hc).mono ?_)
 case hc=>intro c hc;simp only[List.mem_cons,List.not_mem_nil,or_false] at hc;obtain rfl:=hc;exact HF.out.about (by simp)
 rintro e1 V5 ⟨rfl,HF1⟩;have HF:=hZ HF1;unfold firstR;obtain⟨ev,hev⟩:=oQ ((List.filter (allP [⟨129,#[.pointer (some ⟨ba,0,none⟩)],fun e=>decide (e.item=p)⟩]) (B.ls 7)).headD zeroE);obtain⟨qv,hqv⟩:=oQ ((!(List.filter (allP [⟨129,#[.pointer (some ⟨ba,0,none⟩)],fun e=>decide (e.item=p)⟩]) (B.ls 7)).isEmpty));rw[hev,hqv];have HEV:=hZ hev;have HQV:=hZ hqv;clear HF1 hev hqv;refine kk hK (At.cell HF.out (b:=b0) (cs:=B.cells.toArray) (t:=36) (i:=7) (by simp) rfl) (fun hHeld=> ?_);clear hK K;refine tk 7 ?_;refine tk 8 ?_;refine tk 9 ?_;refine rd [11] ?_;refine rcE fun K hK=> ?_;refine step_store_at (by rfl) (.tmp 6) (.tmp 16) (by rfl) (by rfl) bv ev (by rfl) (by rfl) (IE _).out HF.out HV.out (by simp[zeroE,Ent.cells]) ?_;intro V7 hb7 he7 hk7;have HST:=hZ (And.intro hb7 he7);have HK7:=hZ hk7;clear hb7 he7 hk7;refine kk hK (cells_i (HK7.out b0 B.cells.toArray 36 (by simp) (by decide)) (i:=7) rfl) (fun hHeld=> ?_);clear hK K;refine tk 12 ?_;refine dn ?_;have HB4:=hZ (HK7.out b4 #[.string ⟨#[]⟩,.string ⟨#[]⟩] 29 (by simp) (by decide));have x1:=HST.out.2.cell (i:=15) rfl;have x2:=HST.out.2.cell (i:=16) rfl;have y1:=cells_i (i:=0) HB4.out rfl;have y2:=cells_i (i:=1) HB4.out rfl;have f1:=cells_free HB4.out 0;have f2:=cells_free HB4.out 1;clear hHeld;go_wp2;have hq:qv=(B.ls 7).any fun e=>decide (e.item=p):=by rw[←HQV.out,any_first];congr 1;funext e;simp[allP]
 have he:ev=budgetE (B.ls 7) p:=by rw[←HEV.out];unfold budgetE;congr 2;funext e;simp[allP]
 rw[←hq,←he];have hR:=put2 HB4.out (.string ev.rn) (.string ev.rd);refine bodyPost_ret (results_celltmp rfl _ _ b4 [.string ev.rn,.string ev.rd] _ rfl (range_of hR) Tryz.underlying29 rfl (by kernel_rfl)) rfl ?_;exact⟨rfl,below_put2 HST.out.1 Hb4.out _ _⟩
theorem wpList_build {P:Program} {ops:Array Oper} {rest:List Oper} {o:Oper} {a:Act} {w:World} {Q:Exit→Act→World→Prop} (hgd:o.guard=none) (t:TypeId) (parts:Array (Nat×Operand)) (ho:o.op=.build t parts) (cells:Array Value)
 (hb:P.built t (parts.map fun(i,x)=>(i,a.eval x)).toList=some cells) (h:wpList P ops Q rest (a.put o.dst (.agg cells)) w):wpList P ops Q (o::rest) a w:=
 wpList_plain hgd fun _ hK=>by
  have:=hK _ _ h;refine wp_build t parts ho (by rw[hb];rfl) ?_;rw[hb];exact this
structure Pt where
 tm:Int
 ln:ByteArray
 ld:ByteArray
 hn:ByteArray
 hd:ByteArray
def ptC (p:Pt):List Value:=[.int .i64 p.tm,.string p.ln,.string p.ld,.string p.hn,.string p.hd]
def ptOf (e:Ent):Pt:=⟨e.frm,e.ln,e.ld,e.hn,e.hd⟩
theorem elemPt:Elem Tryz.prog 56 86 5 72:=Elem.mk' (z:=.agg #[.int .i64 0,.string ⟨#[]⟩,.string ⟨#[]⟩,.string ⟨#[]⟩,.string ⟨#[]⟩]) Tryz.underlying56 (by kernel_rfl) rfl (by decide)
def aboutL (l:List Ent) (p:Int):List Ent:=l.filter fun e=>decide (e.item=p)
theorem aboutL_eq (l:List Ent) (p:Int) (b:Nat):l.filter (allP [⟨129,#[.pointer (some ⟨b,0,none⟩)],fun e=>decide (e.item=p)⟩])=aboutL l p:=by
 unfold aboutL;congr 1;funext e;simp[allP]
abbrev nilHist:Array Value:=#[.string ⟨#[]⟩,.string ⟨#[]⟩,.slice none 0 0]
theorem one_hist (a b:ByteArray) (v:Value) (hv:v.oneCell'=true):(#[Value.string a,.string b,v]:Array Value).all (·.oneCell')=true:=by
 simp[Value.oneCell'] at hv⊢;exact hv
theorem put_hist {W:World} {r:Nat} {T:TypeId} {a0 a1 a2:Value} (h:W.heap[r]?=some (.cells #[a0,a1,a2] T (0,0))) (v:Value):(W.setCell ⟨r,2,none⟩ v).heap[r]?=some (.cells #[a0,a1,v] T (0,0)):=by
 simp[World.setCell,Array.getElem?_modify,h]
theorem run_build_pt (w:World) (p:Pt):(Instr.buildSlice 56 1 #[(0,.agg (ptC p).toArray)]).run Tryz.prog w=.ok (.slice (some ⟨w.heap.size,0,none⟩) 1 1) (w.alloc (.cells (ptC p).toArray 86)):=by
 obtain⟨i,h1,h2,h3,h4⟩:=info_parts (show(Tryz.prog.info? 86).map (fun i=>(i.zero,i.size,i.bytes))=some (some (.agg #[.int .i64 0,.string ⟨#[]⟩,.string ⟨#[]⟩,.string ⟨#[]⟩,.string ⟨#[]⟩]),5,72) by kernel_rfl);refine run_buildSlice w 56 86 1 _ (ptC p).toArray i _ Tryz.underlying56 h1 h2 (by rw[h3];decide) (by rw[h3];decide) ?_;rw[h3]
 kernel_rfl
theorem wpList_build_pt {ops:Array Oper} {rest:List Oper} {o:Oper} {a:Act} {w:World} {Q:Exit→Act→World→Prop} (hgd:o.guard=none) (x:Operand) (ho:o.op=.buildSlice 56 1 #[(0,x)]) (p:Pt) (hx:a.eval x=.agg (ptC p).toArray)
 (hk:∀b V,w.heap.size=b→Below b w V→V.heap[b]?=some (.cells (ptC p).toArray 86 (0,0))→V.heap.size=b+1→wpList Tryz.prog ops Q rest (a.put o.dst (.slice (some ⟨b,0,none⟩) 1 1)) V):wpList Tryz.prog ops Q (o::rest) a w:=by
 refine wpList_plain hgd fun K hK=> ?_;have h:=hK _ _ (hk _ _ rfl (below_new w (.cells (ptC p).toArray 86)) (World.alloc_heap_new w _) (by simp));unfold Oper.wp execOp;have hr:=run_build_pt w p;obtain⟨z,hz⟩:=oQ (Value.agg (ptC p).toArray);rw[hz] at hr hx;simp only[ho,List.map_toArray,List.map_cons,List.map_nil,hx,Sem.run_bind,hr,Result.andThen_ok];exact h
def histPts (B:Bas) (p:Int):List Pt:=if (B.ls 1).any fun e=>decide (e.item=p) then(histL (aboutL (B.ls 0) p)).map ptOf else[]
def HistP (B:Bas) (p:Int) (w:World) (e:Ending) (w':World):Prop:=∃v,e=.returned (.agg #[.string (budgetE (B.ls 1) p).rn,.string (budgetE (B.ls 1) p).rd,v])∧OL w' w.heap.size 86 5 ptC v (histPts B p)∧Below w.heap.size w w'
theorem history_walk (B:Bas) (p:Int) (w:World) (hB:BasAt w (Old w) B) (hl:(B.ls 0).length≤1000000) (h20:(aboutL (B.ls 0) p).length<20):Calls Tryz.prog 27 #[B.val,.int .i64 p] w (HistP B p w):=by
 have HB:=hZ hB;have HL:=hZ (And.intro hl h20);have IE:=fun e:Ent=>hZ (ientry (e:=e));clear hB hl h20
 go_enter Tryz.func27,Tryz.ntmps27
 go_wp2;have HF0:=hZ (At.start w);obtain⟨b0,w0,q1,q2,q3,hf,hs0⟩:=HF0.out.alloc2 (.cells B.cells.toArray 36);rw[q1,q2];have HF0:=hZ hf;have Hb0:=hZ q3;clear hf q1 q2 q3;obtain⟨b4,w1,q1,q2,q3,hf,hs1⟩:=HF0.out.alloc2 (.cells #[.string ⟨#[]⟩,.string ⟨#[]⟩,.slice none 0 0] 58);rw[hs0] at q1;rw[q1,q2];have HF0:=hZ hf;have Hb4:=hZ q3;clear hf q1 q2 q3 hs0;clear hs1;have HF:=hZ HF0.out.drew;clear HF0
 go_cut [5,6] from 11 to 20 (fun v5 v6 U=> ∃(bv:Nat) (ev:Ent) (qv:Bool),v5=.pointer (some ⟨bv,0,none⟩)∧v6=.bool qv∧Below w.heap.size w U∧EntAt U bv ev∧U.heap[b4]?=some (.cells nilHist 58 (0,0))∧U.heap[b0]?=some (.cells B.cells.toArray 36 (0,0))∧(qv=(B.ls 1).any fun e=>decide (e.item=p))∧ev=budgetE (B.ls 1) p)
 case first=>
  refine wp_region_noPanic ?_;refine wp_region_held_drew (S:=fun U=>U.cell? ⟨b0,1,none⟩=some (.slice (B.ad 1) (B.ls 1).length (B.cp 1))) (by kernel_rfl) (At.cell HF.out (b:=b0) (cs:=B.cells.toArray) (t:=36) (i:=1) (by simp) rfl) (fun hHeld=> ?_);obtain⟨U0,hU0⟩:=oQ (w1.drew);rw[hU0] at HF hHeld⊢;clear hU0;refine tk 0 ?_;refine tk 1 ?_;refine tk 2 ?_;refine rd [3,10] ?_;refine rc (fun K hK=> ?_) ?_
  ·
   go_simp
   (with_reducible refine(about_at (p) HF.out).mono ?_)
   rintro e1 V1 ⟨ba,rfl,HF1⟩;have HF:=hZ HF1;clear HF1;refine kk hK (At.cell HF.out (b:=b0) (cs:=B.cells.toArray) (t:=36) (i:=1) (by simp) rfl) (fun hHeld=> ?_);clear hK K;refine rd [4,10] ?_;refine rc (fun K hK=> ?_) ?_
   ·
    go_simp;obtain⟨bc,V3,q1,q2,-,HF1⟩:=HF.out.alloc (.cells #[.func (.func 129) #[] #[.pointer (some ⟨ba,0,none⟩)]] 45);rw[q1,q2];have HF:=hZ HF1;clear HF1 q1 q2;refine kk hK (At.cell HF.out (b:=b0) (cs:=B.cells.toArray) (t:=36) (i:=1) (by simp) rfl) (fun hHeld=> ?_);clear hK K;refine rd [5,10] ?_;refine rc (fun K hK=> ?_) ?_
    ·
     go_simp
     (with_reducible refine(where_at (B.ad 1) (B.ls 1).length (B.cp 1) (some ⟨bc,0,none⟩) 1 1 HF.out).mono ?_)
     rintro e1 V4 ⟨b1,b2,rfl,HF1⟩;have HF:=hZ HF1;clear HF1;refine kk hK (At.cell HF.out (b:=b0) (cs:=B.cells.toArray) (t:=36) (i:=1) (by simp) rfl) (fun hHeld=> ?_);clear hK K;refine rd [6,10] ?_;refine rc (fun K hK=> ?_) ?_
     ·
      go_simp
      (with_reducible refine(first_at HF.out [⟨129,#[.pointer (some ⟨ba,0,none⟩)],fun e=>decide (e.item=p)⟩] (B.ls 1) (B.ad 1) (some ⟨bc,0,none⟩) _ (B.cp 1) 1 1 b1 b2 rfl (Nat.le_trans (HB.out.cap 1 (by decide)).1 (HB.out.cap 1 (by decide)).2) rfl (by decide) (by simp) (by simp) (HB.out.at_ 1 (by decide)) bc rfl 45 (by simp[CndD.val]) ?hc).mono ?_)
      case hc=>intro c hc;simp only[List.mem_cons,List.not_mem_nil,or_false] at hc;obtain rfl:=hc;exact HF.out.about (by simp)
      rintro e1 V5 ⟨rfl,HF1⟩;have HF:=hZ HF1;unfold firstR;obtain⟨ev,hev⟩:=oQ ((List.filter (allP [⟨129,#[.pointer (some ⟨ba,0,none⟩)],fun e=>decide (e.item=p)⟩]) (B.ls 1)).headD zeroE);obtain⟨qv,hqv⟩:=oQ ((!(List.filter (allP [⟨129,#[.pointer (some ⟨ba,0,none⟩)],fun e=>decide (e.item=p)⟩]) (B.ls 1)).isEmpty));rw[hev,hqv];have HEV:=hZ hev;have HQV:=hZ hqv;clear HF1 hev hqv;refine kk hK (At.cell HF.out (b:=b0) (cs:=B.cells.toArray) (t:=36) (i:=1) (by simp) rfl) (fun hHeld=> ?_);clear hK K;refine tk 7 ?_;refine tk 8 ?_;refine tk 9 ?_;refine rd [10] ?_;refine rcE fun K hK=> ?_;go_simp;obtain⟨bv,V6,q1,q2,q3,HF1⟩:=HF.out.alloc (.cells zeroE.cells.toArray 33);have q2':V6=V6:=rfl;simp only[zeroE,Ent.cells] at q2;rw[q1,q2];have HF:=hZ HF1;have HV:=hZ q3;clear HF1 q1 q2 q2' q3;refine kk hK (At.cell HF.out (b:=b0) (cs:=B.cells.toArray) (t:=36) (i:=1) (by simp) rfl) (fun hHeld=> ?_);clear hK K;refine rd [11] ?_;refine rcE fun K hK=> ?_;refine step_store_at (by rfl) (.tmp 5) (.tmp 19) (by rfl) (by rfl) bv ev (by rfl) (by rfl) (IE _).out HF.out HV.out (by simp[zeroE,Ent.cells]) ?_;intro V7 hb7 he7 hk7;have HST:=hZ (And.intro hb7 he7);have HK7:=hZ hk7;clear hb7 he7 hk7;refine kk hK (cells_i (HK7.out b0 B.cells.toArray 36 (by simp) (by decide)) (i:=1) rfl) (fun hHeld=> ?_);clear hK K;refine tk 12 ?_;refine dn ?_;have HB4:=hZ (HK7.out b4 #[.string ⟨#[]⟩,.string ⟨#[]⟩,.slice none 0 0] 58 (by simp) (by decide));have HB0:=hZ (HK7.out b0 B.cells.toArray 36 (by simp) (by decide));have HQ:Hid (qv=(B.ls 1).any fun e=>decide (e.item=p)):=hZ (by rw[←HQV.out,any_first];congr 1;funext e;simp[allP]);have HE:Hid (ev=budgetE (B.ls 1) p):=hZ (by rw[←HEV.out];unfold budgetE;congr 2;funext e;simp[allP]);clear hHeld;go_wp2
      go_meet
      case rel=>exact⟨bv,ev,qv,rfl,rfl,HST.out.1,HST.out.2,HB4.out,HB0.out,HQ.out,HE.out⟩
     refine rcE fun K hK=> ?_;go_simp;obtain⟨bv,V6,q1,q2,q3,HF1⟩:=HF.out.alloc (.cells zeroE.cells.toArray 33);have q2':V6=V6:=rfl;simp only[zeroE,Ent.cells] at q2;rw[q1,q2];have HF:=hZ HF1;have HV:=hZ q3;clear HF1 q1 q2 q2' q3;refine kk hK (At.cell HF.out (b:=b0) (cs:=B.cells.toArray) (t:=36) (i:=1) (by simp) rfl) (fun hHeld=> ?_);clear hK K;refine rd [6] ?_;refine rcE fun K hK=> ?_;go_simp
     (with_reducible refine(first_at HF.out [⟨129,#[.pointer (some ⟨ba,0,none⟩)],fun e=>decide (e.item=p)⟩] (B.ls 1) (B.ad 1) (some ⟨bc,0,none⟩) _ (B.cp 1) 1 1 b1 b2 rfl (Nat.le_trans (HB.out.cap 1 (by decide)).1 (HB.out.cap 1 (by decide)).2) rfl (by decide) (by simp) (by simp) (HB.out.at_ 1 (by decide)) bc rfl 45 (by simp[CndD.val]) ?hc).mono ?_)
     case hc=>intro c hc;simp only[List.mem_cons,List.not_mem_nil,or_false] at hc;obtain rfl:=hc;exact HF.out.about (by simp)
     rintro e1 V5 ⟨rfl,HF1⟩;have HF:=hZ HF1;unfold firstR;obtain⟨ev,hev⟩:=oQ ((List.filter (allP [⟨129,#[.pointer (some ⟨ba,0,none⟩)],fun e=>decide (e.item=p)⟩]) (B.ls 1)).headD zeroE);obtain⟨qv,hqv⟩:=oQ ((!(List.filter (allP [⟨129,#[.pointer (some ⟨ba,0,none⟩)],fun e=>decide (e.item=p)⟩]) (B.ls 1)).isEmpty));rw[hev,hqv];have HEV:=hZ hev;have HQV:=hZ hqv;clear HF1 hev hqv;refine kk hK (At.cell HF.out (b:=b0) (cs:=B.cells.toArray) (t:=36) (i:=1) (by simp) rfl) (fun hHeld=> ?_);clear hK K;refine tk 7 ?_;refine tk 8 ?_;refine tk 9 ?_;refine rd [11] ?_;refine rcE fun K hK=> ?_;refine step_store_at (by rfl) (.tmp 5) (.tmp 19) (by rfl) (by rfl) bv ev (by rfl) (by rfl) (IE _).out HF.out HV.out (by simp[zeroE,Ent.cells]) ?_;intro V7 hb7 he7 hk7;have HST:=hZ (And.intro hb7 he7);have HK7:=hZ hk7;clear hb7 he7 hk7;refine kk hK (cells_i (HK7.out b0 B.cells.toArray 36 (by simp) (by decide)) (i:=1) rfl) (fun hHeld=> ?_);clear hK K;refine tk 12 ?_;refine dn ?_;have HB4:=hZ (HK7.out b4 #[.string ⟨#[]⟩,.string ⟨#[]⟩,.slice none 0 0] 58 (by simp) (by decide));have HB0:=hZ (HK7.out b0 B.cells.toArray 36 (by simp) (by decide));have HQ:Hid (qv=(B.ls 1).any fun e=>decide (e.item=p)):=hZ (by rw[←HQV.out,any_first];congr 1;funext e;simp[allP]);have HE:Hid (ev=budgetE (B.ls 1) p):=hZ (by rw[←HEV.out];unfold budgetE;congr 2;funext e;simp[allP]);clear hHeld;go_wp2
     go_meet
     case rel=>exact⟨bv,ev,qv,rfl,rfl,HST.out.1,HST.out.2,HB4.out,HB0.out,HQ.out,HE.out⟩
    refine rcE fun K hK=> ?_;go_simp;obtain⟨bv,V6,q1,q2,q3,HF1⟩:=HF.out.alloc (.cells zeroE.cells.toArray 33);have q2':V6=V6:=rfl;simp only[zeroE,Ent.cells] at q2;rw[q1,q2];have HF:=hZ HF1;have HV:=hZ q3;clear HF1 q1 q2 q2' q3;refine kk hK (At.cell HF.out (b:=b0) (cs:=B.cells.toArray) (t:=36) (i:=1) (by simp) rfl) (fun hHeld=> ?_);clear hK K;refine rd [5] ?_;refine rcE fun K hK=> ?_;go_simp
    (with_reducible refine(where_at (B.ad 1) (B.ls 1).length (B.cp 1) (some ⟨bc,0,none⟩) 1 1 HF.out).mono ?_)
    rintro e1 V4 ⟨b1,b2,rfl,HF1⟩;have HF:=hZ HF1;clear HF1;refine kk hK (At.cell HF.out (b:=b0) (cs:=B.cells.toArray) (t:=36) (i:=1) (by simp) rfl) (fun hHeld=> ?_);clear hK K;refine rd [6] ?_;refine rcE fun K hK=> ?_;go_simp
    (with_reducible refine(first_at HF.out [⟨129,#[.pointer (some ⟨ba,0,none⟩)],fun e=>decide (e.item=p)⟩] (B.ls 1) (B.ad 1) (some ⟨bc,0,none⟩) _ (B.cp 1) 1 1 b1 b2 rfl (Nat.le_trans (HB.out.cap 1 (by decide)).1 (HB.out.cap 1 (by decide)).2) rfl (by decide) (by simp) (by simp) (HB.out.at_ 1 (by decide)) bc rfl 45 (by simp[CndD.val]) ?hc).mono ?_)
    case hc=>intro c hc;simp only[List.mem_cons,List.not_mem_nil,or_false] at hc;obtain rfl:=hc;exact HF.out.about (by simp)
    rintro e1 V5 ⟨rfl,HF1⟩;have HF:=hZ HF1;unfold firstR;obtain⟨ev,hev⟩:=oQ ((List.filter (allP [⟨129,#[.pointer (some ⟨ba,0,none⟩)],fun e=>decide (e.item=p)⟩]) (B.ls 1)).headD zeroE);obtain⟨qv,hqv⟩:=oQ ((!(List.filter (allP [⟨129,#[.pointer (some ⟨ba,0,none⟩)],fun e=>decide (e.item=p)⟩]) (B.ls 1)).isEmpty));rw[hev,hqv];have HEV:=hZ hev;have HQV:=hZ hqv;clear HF1 hev hqv;refine kk hK (At.cell HF.out (b:=b0) (cs:=B.cells.toArray) (t:=36) (i:=1) (by simp) rfl) (fun hHeld=> ?_);clear hK K;refine tk 7 ?_;refine tk 8 ?_;refine tk 9 ?_;refine rd [11] ?_;refine rcE fun K hK=> ?_;refine step_store_at (by rfl) (.tmp 5) (.tmp 19) (by rfl) (by rfl) bv ev (by rfl) (by rfl) (IE _).out HF.out HV.out (by simp[zeroE,Ent.cells]) ?_;intro V7 hb7 he7 hk7;have HST:=hZ (And.intro hb7 he7);have HK7:=hZ hk7;clear hb7 he7 hk7;refine kk hK (cells_i (HK7.out b0 B.cells.toArray 36 (by simp) (by decide)) (i:=1) rfl) (fun hHeld=> ?_);clear hK K;refine tk 12 ?_;refine dn ?_;have HB4:=hZ (HK7.out b4 #[.string ⟨#[]⟩,.string ⟨#[]⟩,.slice none 0 0] 58 (by simp) (by decide));have HB0:=hZ (HK7.out b0 B.cells.toArray 36 (by simp) (by decide));have HQ:Hid (qv=(B.ls 1).any fun e=>decide (e.item=p)):=hZ (by rw[←HQV.out,any_first];congr 1;funext e;simp[allP]);have HE:Hid (ev=budgetE (B.ls 1) p):=hZ (by rw[←HEV.out];unfold budgetE;congr 2;funext e;simp[allP]);clear hHeld;go_wp2
    go_meet
    case rel=>exact⟨bv,ev,qv,rfl,rfl,HST.out.1,HST.out.2,HB4.out,HB0.out,HQ.out,HE.out⟩
   refine rcE fun K hK=> ?_;go_simp;obtain⟨bv,V6,q1,q2,q3,HF1⟩:=HF.out.alloc (.cells zeroE.cells.toArray 33);have q2':V6=V6:=rfl;simp only[zeroE,Ent.cells] at q2;rw[q1,q2];have HF:=hZ HF1;have HV:=hZ q3;clear HF1 q1 q2 q2' q3;refine kk hK (At.cell HF.out (b:=b0) (cs:=B.cells.toArray) (t:=36) (i:=1) (by simp) rfl) (fun hHeld=> ?_);clear hK K;refine rd [4] ?_;refine rcE fun K hK=> ?_;go_simp;obtain⟨bc,V3,q1,q2,-,HF1⟩:=HF.out.alloc (.cells #[.func (.func 129) #[] #[.pointer (some ⟨ba,0,none⟩)]] 45);rw[q1,q2];have HF:=hZ HF1;clear HF1 q1 q2;refine kk hK (At.cell HF.out (b:=b0) (cs:=B.cells.toArray) (t:=36) (i:=1) (by simp) rfl) (fun hHeld=> ?_);clear hK K;refine rd [5] ?_;refine rcE fun K hK=> ?_;go_simp
   (with_reducible refine(where_at (B.ad 1) (B.ls 1).length (B.cp 1) (some ⟨bc,0,none⟩) 1 1 HF.out).mono ?_)
   rintro e1 V4 ⟨b1,b2,rfl,HF1⟩;have HF:=hZ HF1;clear HF1;refine kk hK (At.cell HF.out (b:=b0) (cs:=B.cells.toArray) (t:=36) (i:=1) (by simp) rfl) (fun hHeld=> ?_);clear hK K;refine rd [6] ?_;refine rcE fun K hK=> ?_;go_simp
   (with_reducible refine(first_at HF.out [⟨129,#[.pointer (some ⟨ba,0,none⟩)],fun e=>decide (e.item=p)⟩] (B.ls 1) (B.ad 1) (some ⟨bc,0,none⟩) _ (B.cp 1) 1 1 b1 b2 rfl (Nat.le_trans (HB.out.cap 1 (by decide)).1 (HB.out.cap 1 (by decide)).2) rfl (by decide) (by simp) (by simp) (HB.out.at_ 1 (by decide)) bc rfl 45 (by simp[CndD.val]) ?hc).mono ?_)
   case hc=>intro c hc;simp only[List.mem_cons,List.not_mem_nil,or_false] at hc;obtain rfl:=hc;exact HF.out.about (by simp)
   rintro e1 V5 ⟨rfl,HF1⟩;have HF:=hZ HF1;unfold firstR;obtain⟨ev,hev⟩:=oQ ((List.filter (allP [⟨129,#[.pointer (some ⟨ba,0,none⟩)],fun e=>decide (e.item=p)⟩]) (B.ls 1)).headD zeroE);obtain⟨qv,hqv⟩:=oQ ((!(List.filter (allP [⟨129,#[.pointer (some ⟨ba,0,none⟩)],fun e=>decide (e.item=p)⟩]) (B.ls 1)).isEmpty));rw[hev,hqv];have HEV:=hZ hev;have HQV:=hZ hqv;clear HF1 hev hqv;refine kk hK (At.cell HF.out (b:=b0) (cs:=B.cells.toArray) (t:=36) (i:=1) (by simp) rfl) (fun hHeld=> ?_);clear hK K;refine tk 7 ?_;refine tk 8 ?_;refine tk 9 ?_;refine rd [11] ?_;refine rcE fun K hK=> ?_;refine step_store_at (by rfl) (.tmp 5) (.tmp 19) (by rfl) (by rfl) bv ev (by rfl) (by rfl) (IE _).out HF.out HV.out (by simp[zeroE,Ent.cells]) ?_;intro V7 hb7 he7 hk7;have HST:=hZ (And.intro hb7 he7);have HK7:=hZ hk7;clear hb7 he7 hk7;refine kk hK (cells_i (HK7.out b0 B.cells.toArray 36 (by simp) (by decide)) (i:=1) rfl) (fun hHeld=> ?_);clear hK K;refine tk 12 ?_;refine dn ?_;have HB4:=hZ (HK7.out b4 #[.string ⟨#[]⟩,.string ⟨#[]⟩,.slice none 0 0] 58 (by simp) (by decide));have HB0:=hZ (HK7.out b0 B.cells.toArray 36 (by simp) (by decide));have HQ:Hid (qv=(B.ls 1).any fun e=>decide (e.item=p)):=hZ (by rw[←HQV.out,any_first];congr 1;funext e;simp[allP]);have HE:Hid (ev=budgetE (B.ls 1) p):=hZ (by rw[←HEV.out];unfold budgetE;congr 2;funext e;simp[allP]);clear hHeld;go_wp2
   go_meet
   case rel=>exact⟨bv,ev,qv,rfl,rfl,HST.out.1,HST.out.2,HB4.out,HB0.out,HQ.out,HE.out⟩
  refine rcE fun K hK=> ?_;go_simp;obtain⟨bv,V6,q1,q2,q3,HF1⟩:=HF.out.alloc (.cells zeroE.cells.toArray 33);have q2':V6=V6:=rfl;simp only[zeroE,Ent.cells] at q2;rw[q1,q2];have HF:=hZ HF1;have HV:=hZ q3;clear HF1 q1 q2 q2' q3;refine kk hK (At.cell HF.out (b:=b0) (cs:=B.cells.toArray) (t:=36) (i:=1) (by simp) rfl) (fun hHeld=> ?_);clear hK K;refine rd [3] ?_;refine rcE fun K hK=> ?_;go_simp
  (with_reducible refine(about_at (p) HF.out).mono ?_)
  rintro e1 V1 ⟨ba,rfl,HF1⟩;have HF:=hZ HF1;clear HF1;refine kk hK (At.cell HF.out (b:=b0) (cs:=B.cells.toArray) (t:=36) (i:=1) (by simp) rfl) (fun hHeld=> ?_);clear hK K;refine rd [4] ?_;refine rcE fun K hK=> ?_;go_simp;obtain⟨bc,V3,q1,q2,-,HF1⟩:=HF.out.alloc (.cells #[.func (.func 129) #[] #[.pointer (some ⟨ba,0,none⟩)]] 45);rw[q1,q2];have HF:=hZ HF1;clear HF1 q1 q2;refine kk hK (At.cell HF.out (b:=b0) (cs:=B.cells.toArray) (t:=36) (i:=1) (by simp) rfl) (fun hHeld=> ?_);clear hK K;refine rd [5] ?_;refine rcE fun K hK=> ?_;go_simp
  (with_reducible refine(where_at (B.ad 1) (B.ls 1).length (B.cp 1) (some ⟨bc,0,none⟩) 1 1 HF.out).mono ?_)
  rintro e1 V4 ⟨b1,b2,rfl,HF1⟩;have HF:=hZ HF1;clear HF1;refine kk hK (At.cell HF.out (b:=b0) (cs:=B.cells.toArray) (t:=36) (i:=1) (by simp) rfl) (fun hHeld=> ?_);clear hK K;refine rd [6] ?_;refine rcE fun K hK=> ?_;go_simp
  (with_reducible refine(first_at HF.out [⟨129,#[.pointer (some ⟨ba,0,none⟩)],fun e=>decide (e.item=p)⟩] (B.ls 1) (B.ad 1) (some ⟨bc,0,none⟩) _ (B.cp 1) 1 1 b1 b2 rfl (Nat.le_trans (HB.out.cap 1 (by decide)).1 (HB.out.cap 1 (by decide)).2) rfl (by decide) (by simp) (by simp) (HB.out.at_ 1 (by decide)) bc rfl 45 (by simp[CndD.val]) ?hc).mono ?_)
  case hc=>intro c hc;simp only[List.mem_cons,List.not_mem_nil,or_false] at hc;obtain rfl:=hc;exact HF.out.about (by simp)
  rintro e1 V5 ⟨rfl,HF1⟩;have HF:=hZ HF1;unfold firstR;obtain⟨ev,hev⟩:=oQ ((List.filter (allP [⟨129,#[.pointer (some ⟨ba,0,none⟩)],fun e=>decide (e.item=p)⟩]) (B.ls 1)).headD zeroE);obtain⟨qv,hqv⟩:=oQ ((!(List.filter (allP [⟨129,#[.pointer (some ⟨ba,0,none⟩)],fun e=>decide (e.item=p)⟩]) (B.ls 1)).isEmpty));rw[hev,hqv];have HEV:=hZ hev;have HQV:=hZ hqv;clear HF1 hev hqv;refine kk hK (At.cell HF.out (b:=b0) (cs:=B.cells.toArray) (t:=36) (i:=1) (by simp) rfl) (fun hHeld=> ?_);clear hK K;refine tk 7 ?_;refine tk 8 ?_;refine tk 9 ?_;refine rd [11] ?_;refine rcE fun K hK=> ?_;refine step_store_at (by rfl) (.tmp 5) (.tmp 19) (by rfl) (by rfl) bv ev (by rfl) (by rfl) (IE _).out HF.out HV.out (by simp[zeroE,Ent.cells]) ?_;intro V7 hb7 he7 hk7;have HST:=hZ (And.intro hb7 he7);have HK7:=hZ hk7;clear hb7 he7 hk7;refine kk hK (cells_i (HK7.out b0 B.cells.toArray 36 (by simp) (by decide)) (i:=1) rfl) (fun hHeld=> ?_);clear hK K;refine tk 12 ?_;refine dn ?_;have HB4:=hZ (HK7.out b4 #[.string ⟨#[]⟩,.string ⟨#[]⟩,.slice none 0 0] 58 (by simp) (by decide));have HB0:=hZ (HK7.out b0 B.cells.toArray 36 (by simp) (by decide));have HQ:Hid (qv=(B.ls 1).any fun e=>decide (e.item=p)):=hZ (by rw[←HQV.out,any_first];congr 1;funext e;simp[allP]);have HE:Hid (ev=budgetE (B.ls 1) p):=hZ (by rw[←HEV.out];unfold budgetE;congr 2;funext e;simp[allP]);clear hHeld;go_wp2
  go_meet
  case rel=>exact⟨bv,ev,qv,rfl,rfl,HST.out.1,HST.out.2,HB4.out,HB0.out,HQ.out,HE.out⟩
 case rest=>
 obtain⟨bv,ev,qv,rfl,rfl,hst1,hst2,hb4',hb0',hq',he'⟩:=hcut;have HST:=hZ (And.intro hst1 hst2);have HB4:=hZ hb4';have HB0:=hZ hb0';have HQ:=hZ hq';have HE:=hZ he';clear hst1 hst2 hb4' hb0' hq' he';cases qv
 · go_wp2_with (first
    |(refine wpList_build rfl 58 #[] rfl nilHist (by kernel_rfl) ?_)
    | ((with_reducible refine wpList_store_rowN rfl 58 (.tmp 4) (.tmp 23) rfl rfl b4 nilHist nilHist rfl ?hy ?hi HB4.out ?ho ?h1 ?_);(case hy=>rfl);(case hi=>kernel_rfl);(case ho=>rfl);(case h1=>exact one_hist _ _ _ rfl);intro w9 hc9 ht9
       have HC9:=hZ hc9;have HT9:=hZ ht9
       clear hc9 ht9)
    |fail)
   have hr9:w9.rangeAt b4 0 nilHist.toList:=fun k v hv=>cells_i HC9.out (by simpa using hv);refine bodyPost_ret (results_cellN rfl _ _ b4 nilHist.toList _ rfl hr9 Tryz.underlying58 rfl (by kernel_rfl)) rfl ?_
   have hn:budgetE (B.ls 1) p=zeroE:=by
    unfold budgetE;have h1:=HQ.out
    have:(B.ls 1).filter (fun e=>decide (e.item=p))=[]:=by
     rw[List.filter_eq_nil_iff];intro e he q;rw[eq_comm,List.any_eq_false] at h1;exact h1 e he q
    rw[this];rfl
   refine⟨.slice none 0 0,?_,?_,HT9.out.below HST.out.1 (Nat.le_refl _) (fun k hk=>by have:=Hb4.out;omega)⟩
   · rw[hn];rfl
   · unfold histPts
     rw[←HQ.out,if_neg (by decide)];exact OL.nil
 · have hF:At w wc.drew [(b0,.cells B.cells.toArray 36 (0,0)),(b4,.cells nilHist 58 (0,0)),(bv,.cells ev.cells.toArray 33 (0,0))]:=((((At.start w).below.trans HST.out.1|>fun hb=>(⟨hb,fun p h=>by cases h⟩:At w wc [])).cons HST.out.2).cons HB4.out|>.cons HB0.out).drew
   clear HF;have HF:=hZ hF;clear hF;go_wp2;refine wp_region_noPanic ?_;refine wp_region_held_drew (S:=fun U=>U.cell? ⟨b0,0,none⟩=some (.slice (B.ad 0) (B.ls 0).length (B.cp 0))) (by kernel_rfl) (At.cell HF.out (b:=b0) (cs:=B.cells.toArray) (t:=36) (i:=0) (by simp) rfl) (fun hHeld=> ?_);obtain⟨U0,hU0⟩:=oQ (wc.drew);rw[hU0] at HF hHeld⊢;clear hU0;refine tk 0 ?_;refine tk 1 ?_;refine tk 2 ?_;refine rd [3] ?_;refine rcE fun K hK=> ?_;go_simp
   (with_reducible refine(about_at (p) HF.out).mono ?_)
   rintro e1 V1 ⟨ba,rfl,HF1⟩;have HF:=hZ HF1;clear HF1;refine kk hK (At.cell HF.out (b:=b0) (cs:=B.cells.toArray) (t:=36) (i:=0) (by simp) rfl) (fun hHeld=> ?_);clear hK K;refine rd [4] ?_;refine rcE fun K hK=> ?_;go_simp;obtain⟨bc,V3,q1,q2,-,HF1⟩:=HF.out.alloc (.cells #[.func (.func 129) #[] #[.pointer (some ⟨ba,0,none⟩)]] 45);rw[q1,q2];have HF:=hZ HF1;clear HF1 q1 q2;refine kk hK (At.cell HF.out (b:=b0) (cs:=B.cells.toArray) (t:=36) (i:=0) (by simp) rfl) (fun hHeld=> ?_);clear hK K;refine rd [5] ?_;refine rcE fun K hK=> ?_;go_simp
   (with_reducible refine(where_at (B.ad 0) (B.ls 0).length (B.cp 0) (some ⟨bc,0,none⟩) 1 1 HF.out).mono ?_)
   rintro e1 V4 ⟨b1,b2,rfl,HF1⟩;have HF:=hZ HF1;clear HF1;refine kk hK (At.cell HF.out (b:=b0) (cs:=B.cells.toArray) (t:=36) (i:=0) (by simp) rfl) (fun hHeld=> ?_);clear hK K;refine rd [6] ?_;refine rcE fun K hK=> ?_;go_simp
   (with_reducible refine(sortedStable_walk b1 b2 _ _ _ _ (iter_at HF.out [⟨129,#[.pointer (some ⟨ba,0,none⟩)],fun e=>decide (e.item=p)⟩] (B.ls 0) (B.ad 0) (some ⟨bc,0,none⟩) (B.ls 0).length (B.cp 0) 1 1 b1 b2 rfl (Nat.le_trans (HB.out.cap 0 (by decide)).1 (HB.out.cap 0 (by decide)).2) rfl (by decide) (by simp) (by simp) (HB.out.at_ 0 (by decide)) bc rfl 45 (by simp[CndD.val]) ?hc) HL.out.1 ?hL).mono ?_)
   case hc=>intro c hc;simp only[List.mem_cons,List.not_mem_nil,or_false] at hc;obtain rfl:=hc;exact HF.out.about (by simp)
   case hL=>rw[aboutL_eq];exact HL.out.2
   rintro e1 V8 ⟨v8,rfl,ho8,hb8⟩;rw[aboutL_eq] at ho8;have HO8:=hZ (ho8.base HF.out.below.size);have HF1:=HF.out.step hb8;have HF:=hZ HF1;clear HF1 ho8 hb8;refine kk hK (At.cell HF.out (b:=b0) (cs:=B.cells.toArray) (t:=36) (i:=0) (by simp) rfl) (fun hHeld=> ?_);clear hK K;refine tk 7 ?_;refine dn ?_;obtain⟨hs,hhs⟩:=oQ (histL (aboutL (B.ls 0) p));(have hlen:hs.length<20:=by rw[←hhs,(histL_spec _).1.length_eq];exact HL.out.2);rw[hhs] at HO8;have HHS:=hZ hhs;obtain⟨A8,c8,rfl,hle8,hmax8⟩:=HO8.out.slice;obtain⟨n8,hn8⟩:=oQ (hs.length);rw[hn8] at HO8 hlen hle8⊢;have HN8:=hZ hn8;have HBV:Hid (EntAt V8 bv ev):=hZ (HF.out.has (bv,.cells ev.cells.toArray 33 (0,0)) (by simp));have HB48:Hid (V8.heap[b4]?=some (.cells nilHist 58 (0,0))):=hZ (HF.out.has (b4,.cells nilHist 58 (0,0)) (by simp));have HBW:Hid (Below w.heap.size w V8):=hZ HF.out.below;have x15:=HBV.out.cell (i:=15) rfl;have x16:=HBV.out.cell (i:=16) rfl;clear hhs hn8 hHeld HF HST HB4 HB0;have w1':IntKind.i64.wrap ((n8:Int)-64)=(n8:Int)-64:=by rw[IntKind.wrap_i64];omega
   by_cases hc0:c8=0
   · obtain rfl:n8=0:=by omega
     subst hc0;have hnil:hs=[]:=List.eq_nil_of_length_eq_zero HN8.out
     go_wp2_with (first
      |(refine wpList_build rfl 58 #[(0,.tmp 32)] rfl #[.string ev.rn,.string ev.rd,.slice none 0 0] (by kernel_rfl) ?_)
      | ((with_reducible refine wpList_store_rowN rfl 58 (.tmp 8) (.tmp 33) rfl rfl V8.heap.size #[.string ev.rn,.string ev.rd,.slice none 0 0] nilHist rfl ?hy ?hi (World.alloc_heap_new _ _) ?ho ?h1 ?_);(case hy=>rfl);(case hi=>kernel_rfl);(case ho=>rfl);(case h1=>exact one_hist _ _ _ rfl);intro w9 hc9 ht9
         have hb9:Below V8.heap.size V8 w9:=ht9.below (below_new V8 _) (Nat.le_refl _) (fun k hk=>by omega);obtain⟨b8,hb8⟩:=oQ (V8.heap.size);have HO9:=hZ (HO8.out.below hb9 (Nat.le_refl _));rw[hb8] at hc9 hb9⊢;have HC9:=hZ hc9;have HB9:=hZ hb9;have HB8:=hZ hb8
         clear hc9 ht9 hb9 hb8)
      |fail)
     all_goals
      refine wp_loop_rounds 1 ?_;rw[rounds_succ];obtain⟨v,hv⟩:=oQ (Value.slice none 0 0);have HOP:Hid (OL w9 (b8+1) 86 5 ptC v (hs.map ptOf)):=hZ (by rw[←hv,hnil];exact OL.nil);have HCC:Hid (w9.heap[b8]?=some (.cells #[.string ev.rn,.string ev.rd,v] 58 (0,0))):=hZ (by rw[←hv];exact HC9.out);have HBL:Hid (Below b8 V8 w9):=HB9;clear hv hnil
      have hsl:v.oneCell'=true:=by
       obtain⟨A9,c9,e9,_,_⟩:=HOP.out.slice;rw[e9];rfl
      have HSL:=hZ hsl;have HB44:Hid (w9.heap[b4]?=some (.cells nilHist 58 (0,0))):=hZ ((HBL.out.block b4 (by have:=HB8.out;have:=(Array.getElem?_eq_some_iff.1 HB48.out).1;omega)).trans HB48.out);have HL8:Hid (w9.rangeAt b8 0 [.string ev.rn,.string ev.rd,v]):=hZ (fun k u hv=>cells_i HCC.out (by simpa using hv));clear hsl
      go_wp2_with (first
       |((with_reducible refine wpList_load_mid rfl 58 (.tmp 8) rfl b8 0 ?hx [.string ev.rn,.string ev.rd,v] _ HL8.out Tryz.underlying58 rfl ?hi ?_);(case hx=>rfl);(case hi=>kernel_rfl))
       | ((with_reducible refine wpList_store_rowN rfl 58 (.tmp 4) (.tmp 56) rfl rfl b4 #[.string ev.rn,.string ev.rd,v] nilHist rfl ?hy ?hi HB44.out ?ho ?h1 ?_);(case hy=>rfl);(case hi=>kernel_rfl);(case ho=>rfl);(case h1=>exact one_hist _ _ _ HSL.out);intro w10 hc10 ht10
          have HC10:=hZ hc10;have HT10:=hZ ht10
          clear hc10 ht10)
       |fail)
      have hr10:w10.rangeAt b4 0 [.string ev.rn,.string ev.rd,v]:=fun k u hv=>cells_i HC10.out (by simpa using hv);refine bodyPost_ret (results_cellN rfl _ _ b4 [.string ev.rn,.string ev.rd,v] _ rfl hr10 Tryz.underlying58 rfl (by kernel_rfl)) rfl ?_;have hb48:=(Array.getElem?_eq_some_iff.1 HB48.out).1;have hb8:=HB8.out;have hbw:=HBW.out.size;have hb4w:=Hb4.out;refine⟨v,?_,?_,?_⟩
      · rw[←HE.out]
      · unfold histPts
        rw[←HQ.out,if_pos rfl,HHS.out];exact(HOP.out.keep fun g hg=>HT10.out.block g (HOP.out.lt g hg).2 (fun e=>by have:=(HOP.out.lt g hg).1;omega)).base (by omega)
      · exact HT10.out.below (HBW.out.trans (HBL.out.mono (by omega))) (Nat.le_refl _) (fun k hk=>by omega)
   · obtain ⟨g8,rfl⟩:∃g8,A8=some ⟨g8,0,none⟩:=by
      rcases HO8.out.2 with⟨e,_⟩|⟨g8,cap,cur,e,_⟩
      · injection e with _ _ e;exact absurd e hc0
      · injection e with e _ _;exact⟨g8,e⟩
     have hmx:max 0 ((n8:Int)-64)=0:=by omega
     go_wp2_with (first
      |(refine wpList_build rfl 58 #[(0,.tmp 32)] rfl #[.string ev.rn,.string ev.rd,.slice none 0 0] (by kernel_rfl) ?_)
      | ((with_reducible refine wpList_store_rowN rfl 58 (.tmp 8) (.tmp 33) rfl rfl V8.heap.size #[.string ev.rn,.string ev.rd,.slice none 0 0] nilHist rfl ?hy ?hi (World.alloc_heap_new _ _) ?ho ?h1 ?_);(case hy=>rfl);(case hi=>kernel_rfl);(case ho=>rfl);(case h1=>exact one_hist _ _ _ rfl);intro w9 hc9 ht9
         have hb9:Below V8.heap.size V8 w9:=ht9.below (below_new V8 _) (Nat.le_refl _) (fun k hk=>by omega);obtain⟨b8,hb8⟩:=oQ (V8.heap.size);have HO9:=hZ (HO8.out.below hb9 (Nat.le_refl _));rw[hb8] at hc9 hb9⊢;have HC9:=hZ hc9;have HB9:=hZ hb9;have HB8:=hZ hb8
         clear hc9 ht9 hb9 hb8)
      |fail)
     clear x15 x16 w1' hmx;(have hg8:g8<b8:=by have:=(HO8.out.lt g8 rfl).2;have:=HB8.out;omega);have HG8:=hZ hg8;clear hg8
     go_loopw [41] (fun vi wr=> ∃(k:Nat) (v:Value),vi=.int .i64 (k:Int)∧k≤n8∧wr.heap[b8]?=some (.cells #[.string ev.rn,.string ev.rd,v] 58 (0,0))∧OL wr (b8+1) 86 5 ptC v ((hs.take k).map ptOf)∧Below b8 V8 wr) (fun vi _=>match vi with|.int _ k=>n8-k.toNat|_=>0)
     case atStart=>exact⟨0,_,rfl,by omega,HC9.out,OL.nil,HB9.out⟩
     case round=>
      obtain⟨k,v,rfl,hk,hcc,hop,hbl⟩:=hrel;have HCC:=hZ hcc;have HOP:=hZ hop;have HBL:=hZ hbl;clear hcc hop hbl
      by_cases hlt:k<n8
      · have z1:(0:Int)≤(k:Int):=by omega
        (have z2:(k:Int)<(n8:Int):=by omega);(have w2':IntKind.i64.wrap ((k:Int)+1)=((k+1:Nat):Int):=by rw[IntKind.wrap_i64];omega);(have d1:decide (k<n8)=true:=by simp[hlt]);obtain⟨e,he⟩:∃e,hs[k]?=some e:=⟨_,List.getElem?_eq_getElem (by rw[HN8.out];exact hlt)⟩
        have hrg:wr.rangeAt g8 (k*18) e.cells:=by
         have h1:=EAt.of_ol (Y:=fun _=>True) (HO8.out.below (HBL.out.mono (by have:=HB8.out;omega)) (Nat.le_refl _)) (fun _ _=>trivial);obtain⟨b,hb,-,h2⟩:=h1 k e he;injection hb with hb;injection hb with hb _ _;rw[hb];exact h2
        have HRG:=hZ hrg;(have hlk:((hs.take k).map ptOf).length=k:=by rw[List.length_map,List.length_take,HN8.out];omega);have HLK:=hZ hlk;(have htk:(hs.take (k+1)).map ptOf=(hs.take k).map ptOf++[ptOf e]:=by rw[List.take_add_one,he];simp);have HTK:=hZ htk;obtain⟨A9,c9,rfl,-,-⟩:=HOP.out.slice;rw[hlk] at HOP HCC;clear hrg he hlk htk
        go_wp2_with (first
         |((with_reducible refine wpList_load_mid rfl 33 (.tmp 43) rfl g8 (k*18) ?hx e.cells _ HRG.out Tryz.underlying33 rfl (IE e).out ?_);(case hx=>rfl))
         | ((with_reducible refine store_new rfl (.tmp 10) (.tmp 44) rfl rfl e rfl rfl ?hi ?ho ?_);(case hi=>exact(IE e).out);(case ho=>rfl);intro w7 he7 hb7 hs7
            obtain⟨be,hbe⟩:=oQ (wr.heap.size);rw[hbe] at he7⊢;have HBE:=hZ hbe;have HB7:=hZ hb7;have HCC7:=bAt hb7 HCC;have HOP7:=hZ (HOP.out.below hb7 (Nat.le_refl _));have y0:=cells_i (i:=2) HCC7.out rfl;have y5:=he7.cell (i:=5) rfl;have y11:=he7.cell (i:=11) rfl;have y12:=he7.cell (i:=12) rfl;have y13:=he7.cell (i:=13) rfl;have y14:=he7.cell (i:=14) rfl;have HSZ7:Hid (b8<w7.heap.size):=hZ (Array.getElem?_eq_some_iff.1 HCC7.out).1
            clear hbe hb7 hs7 he7)
         |(refine wpList_build rfl 86 #[(0,.tmp 48),(1,.tmp 50)] rfl (ptC (ptOf e)).toArray (by kernel_rfl) ?_)
         | ((with_reducible refine wpList_build_pt rfl (.tmp 51) rfl (ptOf e) ?hx ?_);(case hx=>rfl)
            intro bn V hbn hbl hnv hsv;have HBNE:=hZ hbn;have HBN:=hZ hbl;have HNV:=hZ hnv;have HSV:=hZ hsv
            clear hbn hbl hnv hsv)
         | (at_builtin;refine wpList_app rfl (.tmp 46) (.tmp 52) 56 rfl elemPt (.slice A9 k c9) ((hs.take k).map ptOf) k HLK.out rfl (HOP7.out.below (HBN.out.mono (by have:=HBNE.out;omega)) (Nat.le_refl _)) (ptOf e) bn (ptC (ptOf e)).toArray rfl HNV.out rfl rfl (fun u hu=>by simp[ptC] at hu;rcases hu with rfl|rfl|rfl|rfl|rfl<;>rfl) (by have:=HLK.out;unfold maxLen;omega) (by have:=HLK.out;omega) (by have:=HSV.out;have:=HBNE.out;have:=HSZ7.out;omega) ?_
            intro g' cap' w1' ho1 hg1 hw1 hl1 hb1;have HO1:=hZ ho1;have hcc1:w1'.heap[b8]?=some (.cells #[.string ev.rn,.string ev.rd,.slice A9 k c9] 58 (0,0)):=(hb1.block b8 (by omega)).trans ((HBN.out.block b8 (by have:=HBNE.out;have:=HSZ7.out;omega)).trans HCC7.out);have HCC1:=hZ hcc1;have HB1:=hZ hb1;have HG1':=hZ hl1;have HW1:=hZ hw1;have c1:=cells_i (i:=2) hcc1 rfl;have f1:=cells_free hcc1 2
            clear ho1 hg1 hw1 hl1 hb1 hcc1)
         |fail)
        have hb17:Below b8 V8 (w1'.setCell ⟨b8,2,none⟩ (.slice (some ⟨g',0,none⟩) (k+1) cap')):=by
         have h1:=HBL.out.trans ((HB7.out.mono (by have:=HBE.out;have:=(Array.getElem?_eq_some_iff.1 HCC.out).1;omega)).trans ((HBN.out.mono (by have:=HBNE.out;have:=HSZ7.out;omega)).trans (HB1.out.mono (by omega))));exact h1.setCell (p:=⟨b8,2,none⟩) (Nat.le_refl _) _
        have ho17:OL (w1'.setCell ⟨b8,2,none⟩ (.slice (some ⟨g',0,none⟩) (k+1) cap')) (b8+1) 86 5 ptC (.slice (some ⟨g',0,none⟩) (k+1) cap') ((hs.take (k+1)).map ptOf):=by
         rw[HTK.out];exact HO1.out.keep fun q hq=>Below.heap_setCell _ _ _ _ (fun e=>by have:=(HO1.out.lt q hq).1;simp only at e;omega)
        have HFIN:=hZ (And.intro (put_hist HCC1.out (.slice (some ⟨g',0,none⟩) (k+1) cap')) (And.intro ho17 hb17));clear hb17 ho17
        go_round
        case rel=>exact⟨k+1,_,rfl,by omega,HFIN.out.1,HFIN.out.2.1,HFIN.out.2.2⟩
        case measure=>simp;omega
      · have d1:decide (k<n8)=false:=by simp;omega
        (obtain rfl:k=n8:=by omega);rw[List.take_of_length_le (by rw[HN8.out];omega)] at HOP
        have hsl:v.oneCell'=true:=by
         obtain⟨A9,c9,e9,_,_⟩:=HOP.out.slice;rw[e9];rfl
        have HSL:=hZ hsl;have HB44:Hid (wr.heap[b4]?=some (.cells nilHist 58 (0,0))):=hZ ((HBL.out.block b4 (by have:=HB8.out;have:=(Array.getElem?_eq_some_iff.1 HB48.out).1;omega)).trans HB48.out);have HL8:Hid (wr.rangeAt b8 0 [.string ev.rn,.string ev.rd,v]):=hZ (fun k u hv=>cells_i HCC.out (by simpa using hv));clear hsl
        go_wp2_with (first
         |((with_reducible refine wpList_load_mid rfl 58 (.tmp 8) rfl b8 0 ?hx [.string ev.rn,.string ev.rd,v] _ HL8.out Tryz.underlying58 rfl ?hi ?_);(case hx=>rfl);(case hi=>kernel_rfl))
         | ((with_reducible refine wpList_store_rowN rfl 58 (.tmp 4) (.tmp 56) rfl rfl b4 #[.string ev.rn,.string ev.rd,v] nilHist rfl ?hy ?hi HB44.out ?ho ?h1 ?_);(case hy=>rfl);(case hi=>kernel_rfl);(case ho=>rfl);(case h1=>exact one_hist _ _ _ HSL.out);intro w10 hc10 ht10
            have HC10:=hZ hc10;have HT10:=hZ ht10
            clear hc10 ht10)
         |fail)
        have hr10:w10.rangeAt b4 0 [.string ev.rn,.string ev.rd,v]:=fun k u hv=>cells_i HC10.out (by simpa using hv);refine bodyPost_ret (results_cellN rfl _ _ b4 [.string ev.rn,.string ev.rd,v] _ rfl hr10 Tryz.underlying58 rfl (by kernel_rfl)) rfl ?_;have hb48:=(Array.getElem?_eq_some_iff.1 HB48.out).1;have hb8:=HB8.out;have hbw:=HBW.out.size;have hb4w:=Hb4.out;refine⟨v,?_,?_,?_⟩
        · rw[←HE.out]
        · unfold histPts
          rw[←HQ.out,if_pos rfl,HHS.out];exact(HOP.out.keep fun g hg=>HT10.out.block g (HOP.out.lt g hg).2 (fun e=>by have:=(HOP.out.lt g hg).1;omega)).base (by omega)
        · exact HT10.out.below (HBW.out.trans (HBL.out.mono (by omega))) (Nat.le_refl _) (fun k hk=>by omega)
def pickZ (x n:Int):Int:=Int.tmod (if x<0 then -(x+1) else x) n
theorem pickZ_range (x:Int) {n:Int} (h:1≤n):0≤pickZ x n∧pickZ x n<n:=by
 unfold pickZ
 split
 · exact⟨Int.tmod_nonneg n (by omega),Int.tmod_lt_of_pos _ (by omega)⟩
 · exact⟨Int.tmod_nonneg n (by omega),Int.tmod_lt_of_pos _ (by omega)⟩
theorem pickZ_nat (a b:Nat):pickZ (a:Int) (b:Int)=((a%b:Nat):Int):=by
 unfold pickZ;rw[if_neg (by omega)];exact(Int.ofNat_tmod a b).symm▸rfl
theorem pick19_walk (W:World) (x n:Int) (h1: -9223372036854775808≤x) (h2:x≤9223372036854775807) (hn:1≤n) (hn2:n≤9223372036854775807):
 Calls Tryz.prog 13 #[.int .i64 x,.int .i64 n] W fun e W'=>e=.returned (.int .i64 (pickZ x n))∧W=W':=by
 have e0:(n==0)=false:=by simp;omega
 unfold pickZ
 by_cases h:x<0
 · have d1:decide (x<0)=true:=by simp[h]
   rw[if_pos h];(have w1:IntKind.i64.wrap (x+1)=x+1:=by rw[IntKind.wrap_i64];omega);have w2:IntKind.i64.wrap (-(x+1))=-(x+1):=by rw[IntKind.wrap_i64];omega
   have w3:IntKind.i64.wrap (Int.tmod (-(x+1)) n)=Int.tmod (-(x+1)) n:=by
    have q1:=Int.tmod_nonneg n (show 0≤ -(x+1) by omega);have q2:=Int.tmod_lt_of_pos (-(x+1)) (show 0<n by omega);rw[IntKind.wrap_i64];omega
   go_enter Tryz.func13,Tryz.ntmps13
   go_wp2_with fail;go_ret;rw[Int.neg_tmod];exact⟨rfl,rfl⟩
 · have d1:decide (x<0)=false:=by simp;omega
   rw[if_neg h]
   have w3:IntKind.i64.wrap (Int.tmod x n)=Int.tmod x n:=by
    have q1:=Int.tmod_nonneg n (show 0≤x by omega);have q2:=Int.tmod_lt_of_pos x (show 0<n by omega);rw[IntKind.wrap_i64];omega
   go_enter Tryz.func13,Tryz.ntmps13
   go_wp2_with fail;go_ret;rw[Int.tmod_eq_emod_of_nonneg (by omega)];exact⟨rfl,rfl⟩
theorem pick18_walk (W:World) (x n:Int) (h1: -9223372036854775808≤x) (h2:x≤9223372036854775807) (hn:1≤n) (hn2:n≤9223372036854775807):
 Calls Tryz.prog 51 #[.int .i64 x,.int .i64 n] W fun e W'=>e=.returned (.int .i64 (pickZ x n))∧W=W':=by
 have e0:(n==0)=false:=by simp;omega
 unfold pickZ
 by_cases h:x<0
 · have d1:decide (x<0)=true:=by simp[h]
   rw[if_pos h];(have w1:IntKind.i64.wrap (x+1)=x+1:=by rw[IntKind.wrap_i64];omega);have w2:IntKind.i64.wrap (-(x+1))=-(x+1):=by rw[IntKind.wrap_i64];omega
   have w3:IntKind.i64.wrap (Int.tmod (-(x+1)) n)=Int.tmod (-(x+1)) n:=by
    have q1:=Int.tmod_nonneg n (show 0≤ -(x+1) by omega);have q2:=Int.tmod_lt_of_pos (-(x+1)) (show 0<n by omega);rw[IntKind.wrap_i64];omega
   go_enter Tryz.func51,Tryz.ntmps51
   go_wp2_with fail;go_ret;rw[Int.neg_tmod];exact⟨rfl,rfl⟩
 · have d1:decide (x<0)=false:=by simp;omega
   rw[if_neg h]
   have w3:IntKind.i64.wrap (Int.tmod x n)=Int.tmod x n:=by
    have q1:=Int.tmod_nonneg n (show 0≤x by omega);have q2:=Int.tmod_lt_of_pos x (show 0<n by omega);rw[IntKind.wrap_i64];omega
   go_enter Tryz.func51,Tryz.ntmps51
   go_wp2_with fail;go_ret;rw[Int.tmod_eq_emod_of_nonneg (by omega)];exact⟨rfl,rfl⟩
def zero32:Array Value:=(List.replicate 32 (Value.int .u8 0)).toArray
theorem mk32 (W:World):(Instr.makeSlice 116 (.int .i64 32) (.int .i64 32)).run Tryz.prog W=.ok (.slice (some ⟨W.heap.size,0,none⟩) 32 32) (W.alloc (.cells zero32 5)):=by kernel_rfl
theorem zero32_row:zero32.toList=(List.replicate 32 (0:UInt8)).map bv:=by
 unfold zero32;rw[List.map_replicate];rfl
def letter (n i:Nat):UInt8:=UInt8.ofNat (97+(n+i)%26)
def rootL (n:Nat):List UInt8:=(List.range 32).map (letter n)
def rootB (n:Nat):ByteArray:=⟨(rootL n).toArray⟩
def rootK (n k:Nat):List UInt8:=(List.range k).map (letter n)++List.replicate (32-k) 0
theorem rootK_len (n k:Nat) (h:k≤32):(rootK n k).length=32:=by unfold rootK;simp;omega
theorem rootK_set (n k:Nat) (h:k<32):(rootK n k).set k (letter n k)=rootK n (k+1):=by
 unfold rootK;have h1:((List.range k).map (letter n)).length=k:=by simp
 rw[List.set_append_right _ _ (by omega),h1,Nat.sub_self,List.range_succ,List.map_append,List.append_assoc]
 congr 1
 obtain⟨m,hm⟩:∃m,32-k=m+1:=⟨31-k,by omega⟩;rw[hm,show 32-(k+1)=m by omega,List.replicate_succ];rfl
theorem root_walk (n:Nat) (hn:n≤1000000) (w:World):Calls Tryz.prog 43 #[.int .i64 (n:Int)] w fun e w'=>e=.returned (.string (rootB n))∧Below w.heap.size w w':=by
 have hmk:=mk32 w
 go_enter Tryz.func43,Tryz.ntmps43
 go_wp2;have h0:RAt (w.alloc (.cells zero32 5)) w.heap.size bv (rootK n 0):=RAt.alloc_new w _ _ (by rw[zero32_row];rfl);obtain⟨w1,hw1⟩:=oQ (w.alloc (.cells zero32 5));have hb1:Below w.heap.size w w1:=by rw[←hw1];exact below_new _ _
 rw[hw1] at h0⊢;clear hw1 hmk
 go_loopw [4] (fun i wr=> ∃k:Nat,k≤32∧i=.int .i64 (k:Int)∧RAt wr w.heap.size bv (rootK n k)∧Below w.heap.size w wr) (fun i _=>match i with|.int _ k=>32-k.toNat|_=>0)
 case atStart=>exact⟨0,by omega,rfl,h0,hb1⟩
 case round=>
  obtain⟨k,hk,rfl,hR,hB⟩:=hrel;have HR:=hZ hR;have HB:=hZ hB;clear h0 hb1 hR hB
  by_cases hlt:k<32
  · obtain⟨j,hj⟩:=oQ (n+k)
    obtain⟨m,hm⟩:=oQ (j%26);obtain⟨c,hc⟩:=oQ (97+m);(have hm26:m<26:=by omega);(have d1:decide (k<32)=true:=by simp[hlt]);(have d2:decide ((k:Int)<32)=true:=by simp;omega);(have z1:(0:Int)≤(k:Int):=by omega);(have z2:(k:Int)<32:=by omega);(have w1':IntKind.i64.wrap ((n:Int)+(k:Int))=(j:Int):=by rw[IntKind.wrap_i64];omega);(have w2':IntKind.i64.wrap ((k:Int)+1)=((k+1:Nat):Int):=by rw[IntKind.wrap_i64];omega);(have w3':IntKind.i64.wrap (97+(m:Int))=(c:Int):=by rw[IntKind.wrap_i64];omega);(have w4':IntKind.u8.wrap (c:Int)=(c:Int):=by rw[IntKind.wrap_u8];omega);(have hp:pickZ (j:Int) 26=(m:Int):=by rw[←hm];exact pickZ_nat j 26);have hl:=rootK_len n k hk;have hcl:=HR.out.get (i:=k) (by omega);have hfz:=HR.out.free k (by omega);obtain⟨q,hq⟩:=oQ ((rootK n k)[k]'(by omega));rw[hq] at hcl;have hset:=HR.out.setv k (by omega) (letter n k) (.int .u8 (c:Int)) (by unfold letter bv;rw[hj,hm,hc,UInt8.toNat_ofNat'];congr 1;omega);rw[rootK_set n k hlt] at hset;have HSET:=hZ hset;have HP:=hZ hp;clear hset hq hl hp
    go_wp2_with (first|(go_at_call 51;(with_reducible refine(pick18_walk _ _ _ (by omega) (by omega) (by omega) (by omega)).mono ?_);rintro e2 w2 ⟨rfl,rfl⟩;rw[HP.out])|fail)
    go_round
    case rel=>exact⟨k+1,by omega,rfl,HSET.out,HB.out.setCell (p:=⟨w.heap.size,k,none⟩) (Nat.le_refl _) _⟩
    case measure=>simp;omega
  · have d1:decide (k<32)=false:=by simp;omega
    (obtain rfl:k=32:=by omega);have hcv:=HR.out.convert (P:=Tryz.prog) (cap:=32) (rootK_len n 32 (Nat.le_refl _)) 116 9 5 Tryz.underlying116 Tryz.underlying5 Tryz.underlying9;(have hr:rootK n 32=rootL n:=by unfold rootK rootL;simp);rw[hr] at hcv;go_wp2;go_ret;exact⟨rfl,HB.out⟩
theorem n_walk (s:ByteArray) (w:World):Calls Tryz.prog 50 #[.string s] w fun e w'=>e=.returned (.agg #[.string s,.string ⟨#[49]⟩])∧Below w.heap.size w w':=by
 go_enter Tryz.func50,Tryz.ntmps50
 go_wp2_with (first
  |(refine wpList_build rfl 29 #[(0,.tmp 3),(1,.const (.string ⟨#[49]⟩))] rfl #[.string s,.string ⟨#[49]⟩] (by kernel_rfl) ?_)
  |((with_reducible refine wpList_store_rowN rfl 29 (.tmp 2) (.tmp 4) rfl rfl w.heap.size #[.string s,.string ⟨#[49]⟩] #[.string ⟨#[]⟩,.string ⟨#[]⟩] rfl ?hy ?hi (World.alloc_heap_new _ _) ?ho ?h1 ?_);(case hy=>rfl);(case hi=>kernel_rfl);(case ho=>rfl);(case h1=>simp[Value.oneCell']);intro w9 hc9 ht9)
  |fail)
 have hr:w9.rangeAt w.heap.size 0 [.string s,.string ⟨#[49]⟩]:=fun k u hv=>cells_i hc9 (by simpa using hv);refine bodyPost_ret (results_cellN rfl _ _ w.heap.size [.string s,.string ⟨#[49]⟩] _ rfl hr Tryz.underlying29 rfl (by kernel_rfl)) rfl ?_;exact⟨rfl,ht9.below (below_new w _) (Nat.le_refl _) (fun k hk=>by omega)⟩
end Go.Proofs.YteeifhlhpiimoaaGreatDoor
end
