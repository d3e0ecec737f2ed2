/-
  cmp.Or at two integers; known.Key's conditions. Conditions: each contract's own. Contract of known.Key. Conditions: the lists' bounds. Contracts of slices.Sort and slices.Compact at []int on slices of the call's own. Conditions: at most 1000000 elements. Contract of known.Customers. Conditions: the list's bound. Contract of known.Faults where at most one fault is about the item. Conditions: the list's bound. Contracts of slices.AppendSeq, slices.Collect at an iterator of entries. Conditions: the iterator's contract, at most 1000000 elements.
-/
import Derived.Test.YteeifhlhpiimoaaGreatDoorZAa
import Derived.Test.YteeifhlhpiimoaaGreatDoorZAk
import Derived.Test.YteeifhlhpiimoaaGreatDoorZAc
import Derived.Sort.OwnSortedInts
import Derived.Lib.RowBridge
import Derived.Test.YteeifhlhpiimoaaGreatDoorZAj
set_option maxHeartbeats 8000000
set_option maxRecDepth 100000
section
namespace Go.Proofs.YteeifhlhpiimoaaGreatDoor
open Go Go.RowKit Go.Shelf
attribute [local go_sem] Oper.semAt_some
def orI (a b:Int):Int:=if a=0 then b else a
theorem or_walk (g c:Nat) (a b:Int) (w:World) (h0:w.cell? ⟨g,0,none⟩=some (.int .i64 a)) (h1:w.cell? ⟨g,1,none⟩=some (.int .i64 b)):Calls Tryz.prog 76 #[.slice (some ⟨g,0,none⟩) 2 c] w fun e w'=>e=.returned (.int .i64 (orI a b))∧w=w':=by
 obtain⟨p,hp⟩:=oQ ((a !=0));obtain⟨q,hq⟩:=oQ ((b !=0))
 have ho:orI a b=if p=true then a else if q=true then b else 0:=by
  unfold orI;rw[←hp,←hq]
  by_cases ha:a=0
  · by_cases hb:b=0
    · simp[ha,hb]
    · simp[ha,hb]
  · simp[ha]
 rw[ho];clear ho
 cases p<;>cases q<;>
 · simp only[if_true,if_false,Bool.false_eq_true]
   go_enter Tryz.func76,Tryz.ntmps76
   go_wp2;refine wp_loop_rounds 3 ?_;rw[rounds_succ];go_wp2
   all_goals (try (rw[rounds_succ];go_wp2))
   all_goals (try (rw[rounds_succ];go_wp2))
   all_goals (go_ret;exact⟨rfl,rfl⟩)
theorem since_walk (e:Ent) (n:Int) (b:Nat) (w:World) (hb:Boxed w b 3 (.int .i64 n)):Calls Tryz.prog 74 #[e.val,.pointer (some ⟨b,0,none⟩)] w (ValP w (decide (e.frm≤n))):=by
 have HB:=hZ hb;clear hb
 go_enter Tryz.func74,Tryz.ntmps74
 go_wp2_with (first
  | ((with_reducible refine box_ent rfl (.tmp 0) rfl e ?hx ?_);(case hx=>rfl);intro w1 he1 hb1 hs1
     have x1:=he1.cell (i:=5) rfl;have hbx:Boxed w1 b 3 (.int .i64 n):=(hb1.block b HB.out.lt).trans HB.out;have x2:=hbx.cell;have HB1:=hZ hb1
     clear he1 hb1 hs1 hbx)
  |fail)
 go_ret;exact⟨rfl,HB1.out⟩
theorem At.since {w V:World} {L:List (Nat×Obj)} {n:Int} {b:Nat} (h:At w V L) (hm:(b,.cells #[.int .i64 n] 3 (0,0))∈L):Cond V (Old V) ⟨74,#[.pointer (some ⟨b,0,none⟩)],fun e=>decide (e.frm≤n)⟩:=
 ⟨enters_of Tryz.func74 (by kernel_rfl) rfl,fun e W k=>since_walk e n b W (k.boxed (h.boxed hm) (h.lt hm))⟩
theorem step_store_at2 {P:Program} {ops:Array Oper} {o:Oper} {a:Act} {w V:World} {L:List (Nat×Obj)} {K:Act→World→Prop} {Q:Exit→Act→World→Prop} {D:Prop} (hgd:o.guard=none) (x y:Operand) (ho:o.op=.store 33 x y) (hd:o.dst=none) (b:Nat) (e:Ent)
 (hx:a.eval x=.pointer (some ⟨b,0,none⟩)) (hy:a.eval y=.agg e.cells.toArray) (hi:(P.info? 33).map (·.size)=some e.cells.toArray.size) (h:At w V L) (hb:w.heap.size≤b) (hm:(b,.cells zeroE.cells.toArray 33 (0,0))∈L)
 (hk:∀V',Below w.heap.size w V'→EntAt V' b e→(∀b0 o,(b0,o)∈L→b0≠b→V'.heap[b0]?=some o)→K a V'):
 if Region.wanted o (yielded ops a.tmps)=true then Oper.wp P o a V K Q else D:=by
 have hw:Region.wanted o (yielded ops a.tmps)=true:=by simp[Region.wanted,hgd]
 rw[if_pos hw];have h0:EntAt V b zeroE:=h.has _ hm;refine wp_store_row _ x y ho b _ hx hy 33 _ h0 hi rfl (one_cells e) ?_;rw[hd];exact hk _ (h.store hb hm).1 (h.store hb hm).2 (fun b0 o hm0 ht=>((set_ent (e:=e) h0).2.block b0 (h.lt hm0) ht).trans (h.has _ hm0))
def revoked (l:List Ent) (id t:Int):Bool:=l.any fun r=>decide (r.item=id)&&decide (r.frm≤t)
theorem trusted_walk (B:Bas) (e:Ent) (bB bT bL:Nat) (t lab:Int) (w:World) (hB:BasAt w (Old w) B) (h1:w.heap[bB]?=some (.cells B.cells.toArray 36 (0,0))) (h2:Boxed w bT 3 (.int .i64 t)) (h3:Boxed w bL 3 (.int .i64 lab)):
 Calls Tryz.prog 70 #[e.val,.pointer (some ⟨bB,0,none⟩),.pointer (some ⟨bT,0,none⟩),.pointer (some ⟨bL,0,none⟩)] w (ValP w (decide (e.lab=lab)&& !(revoked (B.ls 5) e.id t))):=by
 have HB:=hZ hB;have IE:=fun e:Ent=>hZ (ientry (e:=e));have HF0:Hid (At w w [(bL,.cells #[.int .i64 lab] 3 (0,0)),(bT,.cells #[.int .i64 t] 3 (0,0)),(bB,.cells B.cells.toArray 36 (0,0))]):=hZ ((((At.start w).cons h1).cons h2).cons h3);clear hB h1 h2 h3
 go_enter Tryz.func70,Tryz.ntmps70
 go_wp2_with (first
  | ((with_reducible refine box_ent rfl (.tmp 0) rfl e ?hx ?_);(case hx=>rfl);intro w0 he0 hb0 hs0
     have HF1:=hZ ((HF0.out.step hb0).cons he0);obtain⟨b4,hb4⟩:=oQ (w.heap.size);rw[hb4] at HF1;rw[hb4]
     clear he0 hb0 hs0 hb4)
  |fail)
 have HF:Hid (At w w0.drew _):=hZ HF1.out.drew;clear HF0 HF1;refine wp_region_noPanic ?_;refine wp_region_held_drew (S:=fun U=>U.cell? ⟨bB,5,none⟩=some (.slice (B.ad 5) (B.ls 5).length (B.cp 5))∧U.cell? ⟨b4,1,none⟩=some (.int .i64 e.id)) (by kernel_rfl) (⟨At.cell HF.out (b:=bB) (cs:=B.cells.toArray) (t:=36) (i:=5) (by simp) rfl,At.cell HF.out (b:=b4) (cs:=e.cells.toArray) (t:=33) (i:=1) (by simp) rfl⟩) (fun hHeld=> ?_);obtain⟨U0,hU0⟩:=oQ (w0.drew);rw[hU0] at HF hHeld⊢;clear hU0;refine tk 0 ?_;refine tk 1 ?_;refine tk 2 ?_;refine tk 3 ?_;refine tk 5 ?_;refine rd [4,12] ?_;refine rc (fun K hK=> ?_) ?_
 ·
  go_simp
  (with_reducible refine(about_at (e.id) HF.out).mono ?_)
  rintro e1 V1 ⟨ba,rfl,HF1⟩;have HF:=hZ HF1;clear HF1;refine kk hK (⟨At.cell HF.out (b:=bB) (cs:=B.cells.toArray) (t:=36) (i:=5) (by simp) rfl,At.cell HF.out (b:=b4) (cs:=e.cells.toArray) (t:=33) (i:=1) (by simp) rfl⟩) (fun hHeld=> ?_);clear hK K;refine rd [6,12] ?_;refine rc (fun K hK=> ?_) ?_
  ·
   go_simp;obtain⟨bc,V3,q1,q2,-,HF1⟩:=HF.out.alloc (.cells #[.func (.func 129) #[] #[.pointer (some ⟨ba,0,none⟩)],.func (.func 74) #[] #[.pointer (some ⟨bT,0,none⟩)]] 45);rw[q1,q2];have HF:=hZ HF1;clear HF1 q1 q2;refine kk hK (⟨At.cell HF.out (b:=bB) (cs:=B.cells.toArray) (t:=36) (i:=5) (by simp) rfl,At.cell HF.out (b:=b4) (cs:=e.cells.toArray) (t:=33) (i:=1) (by simp) rfl⟩) (fun hHeld=> ?_);clear hK K;refine rd [7,12] ?_;refine rc (fun K hK=> ?_) ?_
   ·
    go_simp
    (with_reducible refine(where_at (B.ad 5) (B.ls 5).length (B.cp 5) (some ⟨bc,0,none⟩) 2 2 HF.out).mono ?_)
    rintro e1 V4 ⟨b1,b2,rfl,HF1⟩;have HF:=hZ HF1;clear HF1;refine kk hK (⟨At.cell HF.out (b:=bB) (cs:=B.cells.toArray) (t:=36) (i:=5) (by simp) rfl,At.cell HF.out (b:=b4) (cs:=e.cells.toArray) (t:=33) (i:=1) (by simp) rfl⟩) (fun hHeld=> ?_);clear hK K;refine rd [8,12] ?_;refine rc (fun K hK=> ?_) ?_
    ·
     go_simp
     (with_reducible refine(first_at HF.out [⟨129,#[.pointer (some ⟨ba,0,none⟩)],fun r=>decide (r.item=e.id)⟩,⟨74,#[.pointer (some ⟨bT,0,none⟩)],fun r=>decide (r.frm≤t)⟩] (B.ls 5) (B.ad 5) (some ⟨bc,0,none⟩) _ (B.cp 5) 2 2 b1 b2 rfl (Nat.le_trans (HB.out.cap 5 (by decide)).1 (HB.out.cap 5 (by decide)).2) rfl (by decide) (by simp) (by simp) (HB.out.at_ 5 (by decide)) bc rfl 45 (by simp[CndD.val]) ?hc).mono ?_)
     case hc=>intro c hc;simp only[List.mem_cons,List.not_mem_nil,or_false] at hc;rcases hc with rfl|rfl;(exact HF.out.about (by simp));(exact HF.out.since (by simp))
     rintro e1 V5 ⟨rfl,HF1⟩;have HF:=hZ HF1;unfold firstR;obtain⟨ev,hev⟩:=oQ ((List.filter (allP [⟨129,#[.pointer (some ⟨ba,0,none⟩)],fun r=>decide (r.item=e.id)⟩,⟨74,#[.pointer (some ⟨bT,0,none⟩)],fun r=>decide (r.frm≤t)⟩]) (B.ls 5)).headD zeroE);obtain⟨qv,hqv⟩:=oQ ((!(List.filter (allP [⟨129,#[.pointer (some ⟨ba,0,none⟩)],fun r=>decide (r.item=e.id)⟩,⟨74,#[.pointer (some ⟨bT,0,none⟩)],fun r=>decide (r.frm≤t)⟩]) (B.ls 5)).isEmpty));rw[hev,hqv];have HEV:=hZ hev;have HQV:=hZ hqv;clear HF1 hev hqv;refine kk hK (⟨At.cell HF.out (b:=bB) (cs:=B.cells.toArray) (t:=36) (i:=5) (by simp) rfl,At.cell HF.out (b:=b4) (cs:=e.cells.toArray) (t:=33) (i:=1) (by simp) rfl⟩) (fun hHeld=> ?_);clear hK K;refine tk 9 ?_;refine tk 10 ?_;refine tk 11 ?_;refine rd [12] ?_;refine rcE fun K hK=> ?_;go_simp;have hb4v:=HF.out.lt (b:=b4) (o:=.cells e.cells.toArray 33 (0,0)) (by simp);obtain⟨bv,V6,q1,q2,q3,HF1⟩:=HF.out.alloc (.cells zeroE.cells.toArray 33);simp only[zeroE,Ent.cells] at q2;rw[q1] at hb4v;rw[q1,q2];have HF:=hZ HF1;have HV:=hZ q3;have HBV:=hZ hb4v;clear HF1 q1 q2 q3 hb4v;refine kk hK (⟨At.cell HF.out (b:=bB) (cs:=B.cells.toArray) (t:=36) (i:=5) (by simp) rfl,At.cell HF.out (b:=b4) (cs:=e.cells.toArray) (t:=33) (i:=1) (by simp) rfl⟩) (fun hHeld=> ?_);clear hK K;refine rd [13] ?_;refine rcE fun K hK=> ?_;refine step_store_at2 (by rfl) (.tmp 6) (.tmp 18) (by rfl) (by rfl) bv ev (by rfl) (by rfl) (IE _).out HF.out HV.out (by simp[zeroE,Ent.cells]) ?_;intro V7 hb7 he7 hk7;have HST:=hZ (And.intro hb7 he7);have HK7:=hZ hk7;clear hb7 he7 hk7;refine kk hK (⟨cells_i (HK7.out bB (.cells B.cells.toArray 36 (0,0)) (by simp) (fun q=>by have h1:=HF.out.has (bB,.cells B.cells.toArray 36 (0,0)) (by simp);have h2:=HF.out.has (bv,.cells zeroE.cells.toArray 33 (0,0)) (by simp[zeroE,Ent.cells]);rw[q] at h1;rw[h1] at h2;injection h2 with h2;injection h2 with _ h2 _;exact absurd h2 (by decide))) (i:=5) rfl,cells_i (HK7.out b4 (.cells e.cells.toArray 33 (0,0)) (by simp) (by have:=HBV.out;omega)) (i:=1) rfl⟩) (fun hHeld=> ?_)
     clear hK K;refine tk 14 ?_;refine dn ?_;have x7:V7.cell? ⟨b4,7,none⟩=some (.int .i64 e.lab):=cells_i (HK7.out b4 (.cells e.cells.toArray 33 (0,0)) (by simp) (by have:=HBV.out;omega)) (i:=7) rfl;have xl:V7.cell? ⟨bL,0,none⟩=some (.int .i64 lab):=cells_i (HK7.out bL (.cells #[.int .i64 lab] 3 (0,0)) (by simp) (fun q=>by have h1:=HF.out.has (bL,.cells #[.int .i64 lab] 3 (0,0)) (by simp);have h2:=HF.out.has (bv,.cells zeroE.cells.toArray 33 (0,0)) (by simp[zeroE,Ent.cells]);rw[q] at h1;rw[h1] at h2;injection h2 with h2;injection h2 with _ h2 _;exact absurd h2 (by decide))) (i:=0) rfl;(have hq:qv=revoked (B.ls 5) e.id t:=by rw[←HQV.out,any_first];unfold revoked;congr 1;funext r;simp[allP]);have HQ:=hZ hq;clear hHeld hq;obtain⟨p,hp⟩:=oQ ((e.lab==lab));have hp':decide (e.lab=lab)=p:=hp;have HP:=hZ hp';clear hp'
     cases p<;>
     · go_wp2
       go_ret;rw[←HQ.out,HP.out];exact⟨by first|rfl|simp,HST.out.1⟩
    refine rcE fun K hK=> ?_;go_simp;have hb4v:=HF.out.lt (b:=b4) (o:=.cells e.cells.toArray 33 (0,0)) (by simp);obtain⟨bv,V6,q1,q2,q3,HF1⟩:=HF.out.alloc (.cells zeroE.cells.toArray 33);simp only[zeroE,Ent.cells] at q2;rw[q1] at hb4v;rw[q1,q2];have HF:=hZ HF1;have HV:=hZ q3;have HBV:=hZ hb4v;clear HF1 q1 q2 q3 hb4v;refine kk hK (⟨At.cell HF.out (b:=bB) (cs:=B.cells.toArray) (t:=36) (i:=5) (by simp) rfl,At.cell HF.out (b:=b4) (cs:=e.cells.toArray) (t:=33) (i:=1) (by simp) rfl⟩) (fun hHeld=> ?_);clear hK K;refine rd [8] ?_;refine rcE fun K hK=> ?_;go_simp
    (with_reducible refine(first_at HF.out [⟨129,#[.pointer (some ⟨ba,0,none⟩)],fun r=>decide (r.item=e.id)⟩,⟨74,#[.pointer (some ⟨bT,0,none⟩)],fun r=>decide (r.frm≤t)⟩] (B.ls 5) (B.ad 5) (some ⟨bc,0,none⟩) _ (B.cp 5) 2 2 b1 b2 rfl (Nat.le_trans (HB.out.cap 5 (by decide)).1 (HB.out.cap 5 (by decide)).2) rfl (by decide) (by simp) (by simp) (HB.out.at_ 5 (by decide)) bc rfl 45 (by simp[CndD.val]) ?hc).mono ?_)
    case hc=>intro c hc;simp only[List.mem_cons,List.not_mem_nil,or_false] at hc;rcases hc with rfl|rfl;(exact HF.out.about (by simp));(exact HF.out.since (by simp))
    rintro e1 V5 ⟨rfl,HF1⟩;have HF:=hZ HF1;unfold firstR;obtain⟨ev,hev⟩:=oQ ((List.filter (allP [⟨129,#[.pointer (some ⟨ba,0,none⟩)],fun r=>decide (r.item=e.id)⟩,⟨74,#[.pointer (some ⟨bT,0,none⟩)],fun r=>decide (r.frm≤t)⟩]) (B.ls 5)).headD zeroE);obtain⟨qv,hqv⟩:=oQ ((!(List.filter (allP [⟨129,#[.pointer (some ⟨ba,0,none⟩)],fun r=>decide (r.item=e.id)⟩,⟨74,#[.pointer (some ⟨bT,0,none⟩)],fun r=>decide (r.frm≤t)⟩]) (B.ls 5)).isEmpty));rw[hev,hqv];have HEV:=hZ hev;have HQV:=hZ hqv;clear HF1 hev hqv;refine kk hK (⟨At.cell HF.out (b:=bB) (cs:=B.cells.toArray) (t:=36) (i:=5) (by simp) rfl,At.cell HF.out (b:=b4) (cs:=e.cells.toArray) (t:=33) (i:=1) (by simp) rfl⟩) (fun hHeld=> ?_);clear hK K;refine tk 9 ?_;refine tk 10 ?_;refine tk 11 ?_;refine rd [13] ?_;refine rcE fun K hK=> ?_;refine step_store_at2 (by rfl) (.tmp 6) (.tmp 18) (by rfl) (by rfl) bv ev (by rfl) (by rfl) (IE _).out HF.out HV.out (by simp[zeroE,Ent.cells]) ?_;intro V7 hb7 he7 hk7;have HST:=hZ (And.intro hb7 he7);have HK7:=hZ hk7;clear hb7 he7 hk7;refine kk hK (⟨cells_i (HK7.out bB (.cells B.cells.toArray 36 (0,0)) (by simp) (fun q=>by have h1:=HF.out.has (bB,.cells B.cells.toArray 36 (0,0)) (by simp);have h2:=HF.out.has (bv,.cells zeroE.cells.toArray 33 (0,0)) (by simp[zeroE,Ent.cells]);rw[q] at h1;rw[h1] at h2;injection h2 with h2;injection h2 with _ h2 _;exact absurd h2 (by decide))) (i:=5) rfl,cells_i (HK7.out b4 (.cells e.cells.toArray 33 (0,0)) (by simp) (by have:=HBV.out;omega)) (i:=1) rfl⟩) (fun hHeld=> ?_);clear hK K;refine tk 14 ?_;refine dn ?_;have x7:V7.cell? ⟨b4,7,none⟩=some (.int .i64 e.lab):=cells_i (HK7.out b4 (.cells e.cells.toArray 33 (0,0)) (by simp) (by have:=HBV.out;omega)) (i:=7) rfl;have xl:V7.cell? ⟨bL,0,none⟩=some (.int .i64 lab):=cells_i (HK7.out bL (.cells #[.int .i64 lab] 3 (0,0)) (by simp) (fun q=>by have h1:=HF.out.has (bL,.cells #[.int .i64 lab] 3 (0,0)) (by simp);have h2:=HF.out.has (bv,.cells zeroE.cells.toArray 33 (0,0)) (by simp[zeroE,Ent.cells]);rw[q] at h1;rw[h1] at h2;injection h2 with h2;injection h2 with _ h2 _;exact absurd h2 (by decide))) (i:=0) rfl
    (have hq:qv=revoked (B.ls 5) e.id t:=by rw[←HQV.out,any_first];unfold revoked;congr 1;funext r;simp[allP]);have HQ:=hZ hq;clear hHeld hq;obtain⟨p,hp⟩:=oQ ((e.lab==lab));have hp':decide (e.lab=lab)=p:=hp;have HP:=hZ hp';clear hp'
    cases p<;>
    · go_wp2
      go_ret;rw[←HQ.out,HP.out];exact⟨by first|rfl|simp,HST.out.1⟩
   refine rcE fun K hK=> ?_;go_simp;have hb4v:=HF.out.lt (b:=b4) (o:=.cells e.cells.toArray 33 (0,0)) (by simp);obtain⟨bv,V6,q1,q2,q3,HF1⟩:=HF.out.alloc (.cells zeroE.cells.toArray 33);simp only[zeroE,Ent.cells] at q2;rw[q1] at hb4v;rw[q1,q2];have HF:=hZ HF1;have HV:=hZ q3;have HBV:=hZ hb4v;clear HF1 q1 q2 q3 hb4v;refine kk hK (⟨At.cell HF.out (b:=bB) (cs:=B.cells.toArray) (t:=36) (i:=5) (by simp) rfl,At.cell HF.out (b:=b4) (cs:=e.cells.toArray) (t:=33) (i:=1) (by simp) rfl⟩) (fun hHeld=> ?_);clear hK K;refine rd [7] ?_;refine rcE fun K hK=> ?_;go_simp
   (with_reducible refine(where_at (B.ad 5) (B.ls 5).length (B.cp 5) (some ⟨bc,0,none⟩) 2 2 HF.out).mono ?_)
   rintro e1 V4 ⟨b1,b2,rfl,HF1⟩;have HF:=hZ HF1;clear HF1;refine kk hK (⟨At.cell HF.out (b:=bB) (cs:=B.cells.toArray) (t:=36) (i:=5) (by simp) rfl,At.cell HF.out (b:=b4) (cs:=e.cells.toArray) (t:=33) (i:=1) (by simp) rfl⟩) (fun hHeld=> ?_);clear hK K;refine rd [8] ?_;refine rcE fun K hK=> ?_;go_simp
   (with_reducible refine(first_at HF.out [⟨129,#[.pointer (some ⟨ba,0,none⟩)],fun r=>decide (r.item=e.id)⟩,⟨74,#[.pointer (some ⟨bT,0,none⟩)],fun r=>decide (r.frm≤t)⟩] (B.ls 5) (B.ad 5) (some ⟨bc,0,none⟩) _ (B.cp 5) 2 2 b1 b2 rfl (Nat.le_trans (HB.out.cap 5 (by decide)).1 (HB.out.cap 5 (by decide)).2) rfl (by decide) (by simp) (by simp) (HB.out.at_ 5 (by decide)) bc rfl 45 (by simp[CndD.val]) ?hc).mono ?_)
   case hc=>intro c hc;simp only[List.mem_cons,List.not_mem_nil,or_false] at hc;rcases hc with rfl|rfl;(exact HF.out.about (by simp));(exact HF.out.since (by simp))
   rintro e1 V5 ⟨rfl,HF1⟩;have HF:=hZ HF1;unfold firstR;obtain⟨ev,hev⟩:=oQ ((List.filter (allP [⟨129,#[.pointer (some ⟨ba,0,none⟩)],fun r=>decide (r.item=e.id)⟩,⟨74,#[.pointer (some ⟨bT,0,none⟩)],fun r=>decide (r.frm≤t)⟩]) (B.ls 5)).headD zeroE);obtain⟨qv,hqv⟩:=oQ ((!(List.filter (allP [⟨129,#[.pointer (some ⟨ba,0,none⟩)],fun r=>decide (r.item=e.id)⟩,⟨74,#[.pointer (some ⟨bT,0,none⟩)],fun r=>decide (r.frm≤t)⟩]) (B.ls 5)).isEmpty));rw[hev,hqv];have HEV:=hZ hev;have HQV:=hZ hqv;clear HF1 hev hqv;refine kk hK (⟨At.cell HF.out (b:=bB) (cs:=B.cells.toArray) (t:=36) (i:=5) (by simp) rfl,At.cell HF.out (b:=b4) (cs:=e.cells.toArray) (t:=33) (i:=1) (by simp) rfl⟩) (fun hHeld=> ?_);clear hK K;refine tk 9 ?_;refine tk 10 ?_;refine tk 11 ?_;refine rd [13] ?_;refine rcE fun K hK=> ?_;refine step_store_at2 (by rfl) (.tmp 6) (.tmp 18) (by rfl) (by rfl) bv ev (by rfl) (by rfl) (IE _).out HF.out HV.out (by simp[zeroE,Ent.cells]) ?_;intro V7 hb7 he7 hk7;have HST:=hZ (And.intro hb7 he7);have HK7:=hZ hk7;clear hb7 he7 hk7;refine kk hK (⟨cells_i (HK7.out bB (.cells B.cells.toArray 36 (0,0)) (by simp) (fun q=>by have h1:=HF.out.has (bB,.cells B.cells.toArray 36 (0,0)) (by simp);have h2:=HF.out.has (bv,.cells zeroE.cells.toArray 33 (0,0)) (by simp[zeroE,Ent.cells]);rw[q] at h1;rw[h1] at h2;injection h2 with h2;injection h2 with _ h2 _;exact absurd h2 (by decide))) (i:=5) rfl,cells_i (HK7.out b4 (.cells e.cells.toArray 33 (0,0)) (by simp) (by have:=HBV.out;omega)) (i:=1) rfl⟩) (fun hHeld=> ?_);clear hK K;refine tk 14 ?_;refine dn ?_;have x7:V7.cell? ⟨b4,7,none⟩=some (.int .i64 e.lab):=cells_i (HK7.out b4 (.cells e.cells.toArray 33 (0,0)) (by simp) (by have:=HBV.out;omega)) (i:=7) rfl;have xl:V7.cell? ⟨bL,0,none⟩=some (.int .i64 lab):=cells_i (HK7.out bL (.cells #[.int .i64 lab] 3 (0,0)) (by simp) (fun q=>by have h1:=HF.out.has (bL,.cells #[.int .i64 lab] 3 (0,0)) (by simp);have h2:=HF.out.has (bv,.cells zeroE.cells.toArray 33 (0,0)) (by simp[zeroE,Ent.cells]);rw[q] at h1;rw[h1] at h2;injection h2 with h2;injection h2 with _ h2 _;exact absurd h2 (by decide))) (i:=0) rfl
   (have hq:qv=revoked (B.ls 5) e.id t:=by rw[←HQV.out,any_first];unfold revoked;congr 1;funext r;simp[allP]);have HQ:=hZ hq;clear hHeld hq;obtain⟨p,hp⟩:=oQ ((e.lab==lab));have hp':decide (e.lab=lab)=p:=hp;have HP:=hZ hp';clear hp'
   cases p<;>
   · go_wp2
     go_ret;rw[←HQ.out,HP.out];exact⟨by first|rfl|simp,HST.out.1⟩
  refine rcE fun K hK=> ?_;go_simp;have hb4v:=HF.out.lt (b:=b4) (o:=.cells e.cells.toArray 33 (0,0)) (by simp);obtain⟨bv,V6,q1,q2,q3,HF1⟩:=HF.out.alloc (.cells zeroE.cells.toArray 33);simp only[zeroE,Ent.cells] at q2;rw[q1] at hb4v;rw[q1,q2];have HF:=hZ HF1;have HV:=hZ q3;have HBV:=hZ hb4v;clear HF1 q1 q2 q3 hb4v;refine kk hK (⟨At.cell HF.out (b:=bB) (cs:=B.cells.toArray) (t:=36) (i:=5) (by simp) rfl,At.cell HF.out (b:=b4) (cs:=e.cells.toArray) (t:=33) (i:=1) (by simp) rfl⟩) (fun hHeld=> ?_);clear hK K;refine rd [6] ?_;refine rcE fun K hK=> ?_;go_simp;obtain⟨bc,V3,q1,q2,-,HF1⟩:=HF.out.alloc (.cells #[.func (.func 129) #[] #[.pointer (some ⟨ba,0,none⟩)],.func (.func 74) #[] #[.pointer (some ⟨bT,0,none⟩)]] 45);rw[q1,q2];have HF:=hZ HF1;clear HF1 q1 q2;refine kk hK (⟨At.cell HF.out (b:=bB) (cs:=B.cells.toArray) (t:=36) (i:=5) (by simp) rfl,At.cell HF.out (b:=b4) (cs:=e.cells.toArray) (t:=33) (i:=1) (by simp) rfl⟩) (fun hHeld=> ?_);clear hK K;refine rd [7] ?_;refine rcE fun K hK=> ?_;go_simp
  (with_reducible refine(where_at (B.ad 5) (B.ls 5).length (B.cp 5) (some ⟨bc,0,none⟩) 2 2 HF.out).mono ?_)
  rintro e1 V4 ⟨b1,b2,rfl,HF1⟩;have HF:=hZ HF1;clear HF1;refine kk hK (⟨At.cell HF.out (b:=bB) (cs:=B.cells.toArray) (t:=36) (i:=5) (by simp) rfl,At.cell HF.out (b:=b4) (cs:=e.cells.toArray) (t:=33) (i:=1) (by simp) rfl⟩) (fun hHeld=> ?_);clear hK K;refine rd [8] ?_;refine rcE fun K hK=> ?_;go_simp
  (with_reducible refine(first_at HF.out [⟨129,#[.pointer (some ⟨ba,0,none⟩)],fun r=>decide (r.item=e.id)⟩,⟨74,#[.pointer (some ⟨bT,0,none⟩)],fun r=>decide (r.frm≤t)⟩] (B.ls 5) (B.ad 5) (some ⟨bc,0,none⟩) _ (B.cp 5) 2 2 b1 b2 rfl (Nat.le_trans (HB.out.cap 5 (by decide)).1 (HB.out.cap 5 (by decide)).2) rfl (by decide) (by simp) (by simp) (HB.out.at_ 5 (by decide)) bc rfl 45 (by simp[CndD.val]) ?hc).mono ?_)
  case hc=>intro c hc;simp only[List.mem_cons,List.not_mem_nil,or_false] at hc;rcases hc with rfl|rfl;(exact HF.out.about (by simp));(exact HF.out.since (by simp))
  rintro e1 V5 ⟨rfl,HF1⟩;have HF:=hZ HF1;unfold firstR;obtain⟨ev,hev⟩:=oQ ((List.filter (allP [⟨129,#[.pointer (some ⟨ba,0,none⟩)],fun r=>decide (r.item=e.id)⟩,⟨74,#[.pointer (some ⟨bT,0,none⟩)],fun r=>decide (r.frm≤t)⟩]) (B.ls 5)).headD zeroE);obtain⟨qv,hqv⟩:=oQ ((!(List.filter (allP [⟨129,#[.pointer (some ⟨ba,0,none⟩)],fun r=>decide (r.item=e.id)⟩,⟨74,#[.pointer (some ⟨bT,0,none⟩)],fun r=>decide (r.frm≤t)⟩]) (B.ls 5)).isEmpty));rw[hev,hqv];have HEV:=hZ hev;have HQV:=hZ hqv;clear HF1 hev hqv;refine kk hK (⟨At.cell HF.out (b:=bB) (cs:=B.cells.toArray) (t:=36) (i:=5) (by simp) rfl,At.cell HF.out (b:=b4) (cs:=e.cells.toArray) (t:=33) (i:=1) (by simp) rfl⟩) (fun hHeld=> ?_);clear hK K;refine tk 9 ?_;refine tk 10 ?_;refine tk 11 ?_;refine rd [13] ?_;refine rcE fun K hK=> ?_;refine step_store_at2 (by rfl) (.tmp 6) (.tmp 18) (by rfl) (by rfl) bv ev (by rfl) (by rfl) (IE _).out HF.out HV.out (by simp[zeroE,Ent.cells]) ?_;intro V7 hb7 he7 hk7;have HST:=hZ (And.intro hb7 he7);have HK7:=hZ hk7;clear hb7 he7 hk7;refine kk hK (⟨cells_i (HK7.out bB (.cells B.cells.toArray 36 (0,0)) (by simp) (fun q=>by have h1:=HF.out.has (bB,.cells B.cells.toArray 36 (0,0)) (by simp);have h2:=HF.out.has (bv,.cells zeroE.cells.toArray 33 (0,0)) (by simp[zeroE,Ent.cells]);rw[q] at h1;rw[h1] at h2;injection h2 with h2;injection h2 with _ h2 _;exact absurd h2 (by decide))) (i:=5) rfl,cells_i (HK7.out b4 (.cells e.cells.toArray 33 (0,0)) (by simp) (by have:=HBV.out;omega)) (i:=1) rfl⟩) (fun hHeld=> ?_);clear hK K;refine tk 14 ?_;refine dn ?_;have x7:V7.cell? ⟨b4,7,none⟩=some (.int .i64 e.lab):=cells_i (HK7.out b4 (.cells e.cells.toArray 33 (0,0)) (by simp) (by have:=HBV.out;omega)) (i:=7) rfl;have xl:V7.cell? ⟨bL,0,none⟩=some (.int .i64 lab):=cells_i (HK7.out bL (.cells #[.int .i64 lab] 3 (0,0)) (by simp) (fun q=>by have h1:=HF.out.has (bL,.cells #[.int .i64 lab] 3 (0,0)) (by simp);have h2:=HF.out.has (bv,.cells zeroE.cells.toArray 33 (0,0)) (by simp[zeroE,Ent.cells]);rw[q] at h1;rw[h1] at h2;injection h2 with h2;injection h2 with _ h2 _;exact absurd h2 (by decide))) (i:=0) rfl
  have hq:qv=revoked (B.ls 5) e.id t:=by rw[←HQV.out,any_first];unfold revoked;congr 1;funext r;simp[allP]
  have HQ:=hZ hq;clear hHeld hq;obtain⟨p,hp⟩:=oQ ((e.lab==lab));have hp':decide (e.lab=lab)=p:=hp;have HP:=hZ hp';clear hp'
  cases p<;>
  · go_wp2
    go_ret;rw[←HQ.out,HP.out];exact⟨by first|rfl|simp,HST.out.1⟩
 refine rcE fun K hK=> ?_;go_simp;have hb4v:=HF.out.lt (b:=b4) (o:=.cells e.cells.toArray 33 (0,0)) (by simp);obtain⟨bv,V6,q1,q2,q3,HF1⟩:=HF.out.alloc (.cells zeroE.cells.toArray 33);simp only[zeroE,Ent.cells] at q2;rw[q1] at hb4v;rw[q1,q2];have HF:=hZ HF1;have HV:=hZ q3;have HBV:=hZ hb4v;clear HF1 q1 q2 q3 hb4v;refine kk hK (⟨At.cell HF.out (b:=bB) (cs:=B.cells.toArray) (t:=36) (i:=5) (by simp) rfl,At.cell HF.out (b:=b4) (cs:=e.cells.toArray) (t:=33) (i:=1) (by simp) rfl⟩) (fun hHeld=> ?_);clear hK K;refine rd [4] ?_;refine rcE fun K hK=> ?_;go_simp
 (with_reducible refine(about_at (e.id) HF.out).mono ?_)
 rintro e1 V1 ⟨ba,rfl,HF1⟩;have HF:=hZ HF1;clear HF1;refine kk hK (⟨At.cell HF.out (b:=bB) (cs:=B.cells.toArray) (t:=36) (i:=5) (by simp) rfl,At.cell HF.out (b:=b4) (cs:=e.cells.toArray) (t:=33) (i:=1) (by simp) rfl⟩) (fun hHeld=> ?_);clear hK K;refine rd [6] ?_;refine rcE fun K hK=> ?_;go_simp;obtain⟨bc,V3,q1,q2,-,HF1⟩:=HF.out.alloc (.cells #[.func (.func 129) #[] #[.pointer (some ⟨ba,0,none⟩)],.func (.func 74) #[] #[.pointer (some ⟨bT,0,none⟩)]] 45);rw[q1,q2];have HF:=hZ HF1;clear HF1 q1 q2;refine kk hK (⟨At.cell HF.out (b:=bB) (cs:=B.cells.toArray) (t:=36) (i:=5) (by simp) rfl,At.cell HF.out (b:=b4) (cs:=e.cells.toArray) (t:=33) (i:=1) (by simp) rfl⟩) (fun hHeld=> ?_);clear hK K;refine rd [7] ?_;refine rcE fun K hK=> ?_;go_simp
 (with_reducible refine(where_at (B.ad 5) (B.ls 5).length (B.cp 5) (some ⟨bc,0,none⟩) 2 2 HF.out).mono ?_)
 rintro e1 V4 ⟨b1,b2,rfl,HF1⟩;have HF:=hZ HF1;clear HF1;refine kk hK (⟨At.cell HF.out (b:=bB) (cs:=B.cells.toArray) (t:=36) (i:=5) (by simp) rfl,At.cell HF.out (b:=b4) (cs:=e.cells.toArray) (t:=33) (i:=1) (by simp) rfl⟩) (fun hHeld=> ?_);clear hK K;refine rd [8] ?_;refine rcE fun K hK=> ?_;go_simp
 (with_reducible refine(first_at HF.out [⟨129,#[.pointer (some ⟨ba,0,none⟩)],fun r=>decide (r.item=e.id)⟩,⟨74,#[.pointer (some ⟨bT,0,none⟩)],fun r=>decide (r.frm≤t)⟩] (B.ls 5) (B.ad 5) (some ⟨bc,0,none⟩) _ (B.cp 5) 2 2 b1 b2 rfl (Nat.le_trans (HB.out.cap 5 (by decide)).1 (HB.out.cap 5 (by decide)).2) rfl (by decide) (by simp) (by simp) (HB.out.at_ 5 (by decide)) bc rfl 45 (by simp[CndD.val]) ?hc).mono ?_)
 case hc=>intro c hc;simp only[List.mem_cons,List.not_mem_nil,or_false] at hc;rcases hc with rfl|rfl;(exact HF.out.about (by simp));(exact HF.out.since (by simp))
 rintro e1 V5 ⟨rfl,HF1⟩;have HF:=hZ HF1;unfold firstR;obtain⟨ev,hev⟩:=oQ ((List.filter (allP [⟨129,#[.pointer (some ⟨ba,0,none⟩)],fun r=>decide (r.item=e.id)⟩,⟨74,#[.pointer (some ⟨bT,0,none⟩)],fun r=>decide (r.frm≤t)⟩]) (B.ls 5)).headD zeroE);obtain⟨qv,hqv⟩:=oQ ((!(List.filter (allP [⟨129,#[.pointer (some ⟨ba,0,none⟩)],fun r=>decide (r.item=e.id)⟩,⟨74,#[.pointer (some ⟨bT,0,none⟩)],fun r=>decide (r.frm≤t)⟩]) (B.ls 5)).isEmpty));rw[hev,hqv];have HEV:=hZ hev;have HQV:=hZ hqv;clear HF1 hev hqv;refine kk hK (⟨At.cell HF.out (b:=bB) (cs:=B.cells.toArray) (t:=36) (i:=5) (by simp) rfl,At.cell HF.out (b:=b4) (cs:=e.cells.toArray) (t:=33) (i:=1) (by simp) rfl⟩) (fun hHeld=> ?_);clear hK K;refine tk 9 ?_;refine tk 10 ?_;refine tk 11 ?_;refine rd [13] ?_;refine rcE fun K hK=> ?_;refine step_store_at2 (by rfl) (.tmp 6) (.tmp 18) (by rfl) (by rfl) bv ev (by rfl) (by rfl) (IE _).out HF.out HV.out (by simp[zeroE,Ent.cells]) ?_;intro V7 hb7 he7 hk7;have HST:=hZ (And.intro hb7 he7);have HK7:=hZ hk7;clear hb7 he7 hk7;refine kk hK (⟨cells_i (HK7.out bB (.cells B.cells.toArray 36 (0,0)) (by simp) (fun q=>by have h1:=HF.out.has (bB,.cells B.cells.toArray 36 (0,0)) (by simp);have h2:=HF.out.has (bv,.cells zeroE.cells.toArray 33 (0,0)) (by simp[zeroE,Ent.cells]);rw[q] at h1;rw[h1] at h2;injection h2 with h2;injection h2 with _ h2 _;exact absurd h2 (by decide))) (i:=5) rfl,cells_i (HK7.out b4 (.cells e.cells.toArray 33 (0,0)) (by simp) (by have:=HBV.out;omega)) (i:=1) rfl⟩) (fun hHeld=> ?_);clear hK K;refine tk 14 ?_;refine dn ?_;have x7:V7.cell? ⟨b4,7,none⟩=some (.int .i64 e.lab):=cells_i (HK7.out b4 (.cells e.cells.toArray 33 (0,0)) (by simp) (by have:=HBV.out;omega)) (i:=7) rfl;have xl:V7.cell? ⟨bL,0,none⟩=some (.int .i64 lab):=cells_i (HK7.out bL (.cells #[.int .i64 lab] 3 (0,0)) (by simp) (fun q=>by have h1:=HF.out.has (bL,.cells #[.int .i64 lab] 3 (0,0)) (by simp);have h2:=HF.out.has (bv,.cells zeroE.cells.toArray 33 (0,0)) (by simp[zeroE,Ent.cells]);rw[q] at h1;rw[h1] at h2;injection h2 with h2;injection h2 with _ h2 _;exact absurd h2 (by decide))) (i:=0) rfl
 have hq:qv=revoked (B.ls 5) e.id t:=by rw[←HQV.out,any_first];unfold revoked;congr 1;funext r;simp[allP]
 have HQ:=hZ hq;clear hHeld hq;obtain⟨p,hp⟩:=oQ ((e.lab==lab));have hp':decide (e.lab=lab)=p:=hp;have HP:=hZ hp';clear hp'
 cases p<;>
 · go_wp2
   go_ret;rw[←HQ.out,HP.out];exact⟨by first|rfl|simp,HST.out.1⟩
theorem cond_trusted (B:Bas) (bB bT bL:Nat) (t lab:Int) (V:World) (Y:Nat→Prop) (hY:∀k,Y k→k<V.heap.size) (hB:BasAt V Y B) (y1:Y bB) (y2:Y bT) (y3:Y bL) (h1:V.heap[bB]?=some (.cells B.cells.toArray 36 (0,0))) (h2:Boxed V bT 3 (.int .i64 t)) (h3:Boxed V bL 3 (.int .i64 lab)):
 Cond V Y ⟨70,#[.pointer (some ⟨bB,0,none⟩),.pointer (some ⟨bT,0,none⟩),.pointer (some ⟨bL,0,none⟩)],fun e=>decide (e.lab=lab)&& !(revoked (B.ls 5) e.id t)⟩:=
 ⟨enters_of Tryz.func70 (by kernel_rfl) rfl,fun e W k=>trusted_walk B e bB bT bL t lab W ((hB.keeps k).mono (k.lt hY)) ((k _ y1).trans h1) (k.boxed h2 y2) (k.boxed h3 y3)⟩
theorem results_tmps2 {P:Program} {fn:Func} {p q:Tmp} (h:fn.results=#[.tmp p,.tmp q]) (tmps:Array Value) (w:World):(results fn tmps).run P w=.ok (.tuple #[tmps.getD p undef,tmps.getD q undef]) w:=by simp[results,h]
def better (e b:Ent):Bool:=decide (0<orI (cmpZ' e.frm b.frm) (cmpZ' e.id b.id))
def keyStep (s:Ent×Bool) (e:Ent):Ent×Bool:=if !s.2||better e s.1 then(e,true) else s
def keyFold (l:List Ent):Ent×Bool:=l.foldl keyStep (zeroE,false)
theorem keyFold_snoc (l:List Ent) (e:Ent):keyFold (l++[e])=keyStep (keyFold l) e:=by unfold keyFold;rw[List.foldl_append];rfl
def keyB (B:Bas) (lab t:Int):Ent×Bool:=keyFold ((B.ls 4).filter fun e=>(decide (e.frm≤t)&&decide (t≤e.til))&&(decide (e.lab=lab)&& !(revoked (B.ls 5) e.id t)))
theorem knownKey_walk (B:Bas) (lab t:Int) (w:World) (hB:BasAt w (Old w) B):
 Calls Tryz.prog 23 #[B.val,.int .i64 lab,.int .i64 t] w fun e w'=>e=.returned (.tuple #[.string (keyB B lab t).1.text,.bool (keyB B lab t).2])∧Below w.heap.size w w':=by
 have HB:=hZ hB;have IE:=fun e:Ent=>hZ (ientry (e:=e));clear hB;refine(callsIn_wide (n:=3)).1 ?_;refine callsIn_of_wp_marks Tryz.func23 rfl trivial ?_ rfl;simp only[Tryz.ntmps23,List.size_toArray,List.length_cons,List.length_nil,Nat.reduceAdd,Nat.reduceSub,Array.replicate_succ,Array.replicate_zero,List.push_toArray,List.append_toArray,List.nil_append,List.cons_append];refine wpIn_wide.2 ?_;go_wp2_with fail;have HF0:=hZ (At.start w);obtain⟨b3,w0,q1,q2,q3,hf0,hs0⟩:=HF0.out.alloc2 (.cells B.cells.toArray 36);obtain⟨b4,w1,r1,r2,r3,hf1,hs1⟩:=hf0.alloc2 (.cells #[.int .i64 lab] 3);obtain⟨b5,w2,t1,t2,t3,hf2,hs2⟩:=hf1.alloc2 (.cells #[.int .i64 t] 3);obtain⟨b9,w3,u1,u2,u3,hf3,hs3⟩:=hf2.alloc2 (.cells zeroE.cells.toArray 33);obtain⟨b10,w4,v1,v2,v3,hf4,hs4⟩:=hf3.alloc2 (.cells #[.bool false] 4);rw[hs0] at r1;rw[hs1] at t1;rw[hs2] at u1;rw[hs3] at v1;have HNE:Hid (b3<b4∧b4<b5∧b5<b9∧b9<b10∧w.heap.size≤b3∧w4.heap.size=b10+1):=hZ (by omega);simp only[zeroE,Ent.cells] at u2;have hq1:w.heap.size=b3:=q1;rw[q1,q2,r1,r2,t1,t2,u1,u2,v1,v2];have HF:Hid (At w w4.drew _):=hZ hf4.drew;clear HF0 q1 q2 q3 hf0 hs0 r1 r2 r3 hf1 hs1 t1 t2 t3 hf2 hs2 u1 u2 u3 hf3 hs3 v1 v2 v3 hf4 hs4 hq1;refine wp_region_noPanic ?_;refine wp_region_held_drew (S:=fun U=>U.cell? ⟨b3,4,none⟩=some (.slice (B.ad 4) (B.ls 4).length (B.cp 4))∧U.cell? ⟨b5,0,none⟩=some (.int .i64 t)) (by kernel_rfl) (⟨At.cell HF.out (b:=b3) (cs:=B.cells.toArray) (t:=36) (i:=4) (by simp) rfl,At.cell HF.out (b:=b5) (cs:=#[.int .i64 t]) (t:=3) (i:=0) (by simp) rfl⟩) (fun hHeld=> ?_);obtain⟨U0,hU0⟩:=oQ (w4.drew);rw[hU0] at HF hHeld⊢;clear hU0;refine tk 0 ?_;refine tk 1 ?_;refine tk 2 ?_;refine tk 4 ?_;refine rd [3] ?_;refine rcE fun K hK=> ?_;go_simp
 (with_reducible refine(holds_at t HF.out).mono ?_)
 rintro e1 V2 ⟨bh,rfl,HF1⟩;have HF:=hZ HF1;clear HF1;refine kk hK (⟨At.cell HF.out (b:=b3) (cs:=B.cells.toArray) (t:=36) (i:=4) (by simp) rfl,At.cell HF.out (b:=b5) (cs:=#[.int .i64 t]) (t:=3) (i:=0) (by simp) rfl⟩) (fun hHeld=> ?_);clear hK K;refine rd [5] ?_;refine rcE fun K hK=> ?_;go_simp;obtain⟨bc,V3,g1,g2,-,HF1⟩:=HF.out.alloc (.cells #[.func (.func 130) #[] #[.pointer (some ⟨bh,0,none⟩)],.func (.func 70) #[] #[.pointer (some ⟨b3,0,none⟩),.pointer (some ⟨b5,0,none⟩),.pointer (some ⟨b4,0,none⟩)]] 45);rw[g1,g2];have HF:=hZ HF1;clear HF1 g1 g2;refine kk hK (⟨At.cell HF.out (b:=b3) (cs:=B.cells.toArray) (t:=36) (i:=4) (by simp) rfl,At.cell HF.out (b:=b5) (cs:=#[.int .i64 t]) (t:=3) (i:=0) (by simp) rfl⟩) (fun hHeld=> ?_);clear hK K;refine rd [6] ?_;refine rcE fun K hK=> ?_;go_simp
 (with_reducible refine(where_at (B.ad 4) (B.ls 4).length (B.cp 4) (some ⟨bc,0,none⟩) 2 2 HF.out).mono ?_)
 rintro e1 V4 ⟨b1,b2,rfl,HF1⟩;have HF:=hZ HF1;clear HF1;refine kk hK (⟨At.cell HF.out (b:=b3) (cs:=B.cells.toArray) (t:=36) (i:=4) (by simp) rfl,At.cell HF.out (b:=b5) (cs:=#[.int .i64 t]) (t:=3) (i:=0) (by simp) rfl⟩) (fun hHeld=> ?_);clear hK K;refine dn ?_;clear hHeld;obtain⟨Y,hY⟩:∃Y:Nat→Prop,Y=fun k=>k<V4.heap.size∧k≠b9∧k≠b10:=⟨_,rfl⟩;have hYlt:∀k,Y k→k<V4.heap.size:=fun k hk=>by rw[hY] at hk;exact hk.1
 have hY9:∀k,Y k→k≠b9∧k≠b10:=fun k hk=>by rw[hY] at hk;exact hk.2
 have hin:∀k cs T,(k,Obj.cells cs T (0,0))∈_→T≠33→T≠4→Y k:=fun k cs T hm h1 h2=>by
  rw[hY];refine⟨HF.out.lt hm,fun e=> ?_,fun e=> ?_⟩
  · have q1:=HF.out.has _ hm
    have q2:=HF.out.has (b9,.cells zeroE.cells.toArray 33 (0,0)) (by simp[zeroE,Ent.cells]);simp only at q1 q2;rw[e,q2] at q1;injection q1 with q1;injection q1 with _ q1 _;exact h1 q1.symm
  · have q1:=HF.out.has _ hm
    have q2:=HF.out.has (b10,.cells #[.bool false] 4 (0,0)) (by simp);simp only at q1 q2;rw[e,q2] at q1;injection q1 with q1;injection q1 with _ q1 _;exact h2 q1.symm
 have hold:∀k,Old w k→Y k:=fun k hk=>by
  unfold Old at hk;rw[hY];have:=HNE.out;have:=HF.out.below.size;omega
 have hBY:BasAt V4 Y B:=(HB.out.keeps (Keeps.of_below HF.out.below fun _ h=>h)).mono hold;have y1:=hin b1 #[.slice (B.ad 4) (B.ls 4).length (B.cp 4)] 25 (by simp) (by decide) (by decide);have y2:=hin b2 #[.slice (some ⟨bc,0,none⟩) 2 2] 110 (by simp) (by decide) (by decide);have yc:=hin bc #[.func (.func 130) #[] #[.pointer (some ⟨bh,0,none⟩)],.func (.func 70) #[] #[.pointer (some ⟨b3,0,none⟩),.pointer (some ⟨b5,0,none⟩),.pointer (some ⟨b4,0,none⟩)]] 45 (by simp) (by decide) (by decide);have yh:=hin bh #[.int .i64 t] 3 (by simp) (by decide) (by decide);have y3:=hin b3 B.cells.toArray 36 (by simp) (by decide) (by decide);have y4:=hin b4 #[.int .i64 lab] 3 (by simp) (by decide) (by decide);have y5:=hin b5 #[.int .i64 t] 3 (by simp) (by decide) (by decide)
 have hIt:=where_iter [⟨130,#[.pointer (some ⟨bh,0,none⟩)],fun e=>decide (e.frm≤t)&&decide (t≤e.til)⟩,⟨70,#[.pointer (some ⟨b3,0,none⟩),.pointer (some ⟨b5,0,none⟩),.pointer (some ⟨b4,0,none⟩)],fun e=>decide (e.lab=lab)&& !(revoked (B.ls 5) e.id t)⟩] (B.ls 4) (B.ad 4) (some ⟨bc,0,none⟩) (B.ls 4).length (B.cp 4) 2 2 b1 b2 rfl (Nat.le_trans (HB.out.cap 4 (by decide)).1 (HB.out.cap 4 (by decide)).2) rfl (by decide) Y V4 hYlt y1 y2
  (HF.out.boxed (by simp)) (HF.out.boxed (by simp)) (hBY.at_ 4 (by decide)) (fun i v hv=>by
    have hc3:=HF.out.cell (b:=bc) (cs:=#[.func (.func 130) #[] #[.pointer (some ⟨bh,0,none⟩)],.func (.func 70) #[] #[.pointer (some ⟨b3,0,none⟩),.pointer (some ⟨b5,0,none⟩),.pointer (some ⟨b4,0,none⟩)]]) (t:=45) (by simp) (i:=i) (v:=v) (by simpa[CndD.val] using hv);refine⟨_,rfl,yc,?_⟩;rw[show(⟨bc,0,none⟩:Addr).add i=⟨bc,i,none⟩ by simp[Addr.add];omega]
    exact hc3) (fun c hc=>by
    simp only[List.mem_cons,List.not_mem_nil,or_false] at hc;rcases hc with rfl|rfl
    · exact cond_holds t bh V4 Y yh (HF.out.boxed (by simp))
    · exact cond_trusted B b3 b5 b4 t lab V4 Y hYlt hBY y3 y5 y4 (HF.out.has (b3,_) (by simp)) (HF.out.boxed (by simp)) (HF.out.boxed (by simp)))
 have HI:=hZ hIt;have HYL:=hZ (And.intro hYlt hY9);have HE9:Hid (EntAt V4 b9 zeroE):=hZ (HF.out.has (b9,.cells zeroE.cells.toArray 33 (0,0)) (by simp[zeroE,Ent.cells]));have HX10:Hid (Boxed V4 b10 4 (.bool false)):=hZ (HF.out.boxed (by simp));have HBV:Hid (Below w.heap.size w V4):=hZ HF.out.below;have HLT:Hid (b9<V4.heap.size∧b10<V4.heap.size):=hZ ⟨cells_lt HE9.out,HX10.out.lt⟩;clear hY hYlt hY9 hin hold hBY y1 y2 yc yh y3 y4 y5 hIt;go_wp2_with fail;refine(wpIn_wide (n:=3)).1 ?_
 refine wp_rangeZB (gf:=127) (lb:=#[.pointer (some ⟨b1,0,none⟩),.pointer (some ⟨b2,0,none⟩)]) rfl (enters_of Tryz.func127 (by kernel_rfl) rfl)
  HI.out (Below.refl _ _) (fun k hk=>hk.elim) (fun _=>rfl) (fun h k=>h.trans k)
  (fun W o k hk=>World.putObj_heap_other (by have:=HYL.out.1 k hk;omega))
  (fun pre W=>EntAt W b9 (keyFold pre).1∧Boxed W b10 4 (.bool (keyFold pre).2)∧Below w.heap.size w W)
  (fun _ _ _=>False)
  ?hI (fun _ _ _ _ h _=>h.elim) ⟨HE9.out,HX10.out,HBV.out⟩
  (fun b x=>{tmps:=#[B.val,.int .i64 lab,.int .i64 t,.pointer (some ⟨b3,0,none⟩),.pointer (some ⟨b4,0,none⟩),.pointer (some ⟨b5,0,none⟩),.string ⟨#[]⟩,.bool false,.func (.func 70) #[] #[.pointer (some ⟨b3,0,none⟩),.pointer (some ⟨b5,0,none⟩),.pointer (some ⟨b4,0,none⟩)],.pointer (some ⟨b9,0,none⟩),.pointer (some ⟨b10,0,none⟩),.pointer (some ⟨b,0,none⟩),.func (.func 70) #[] #[.pointer (some ⟨b3,0,none⟩),.pointer (some ⟨b5,0,none⟩),.pointer (some ⟨b4,0,none⟩)],.pointer (some ⟨b3,4,none⟩),.slice (B.ad 4) (B.ls 4).length (B.cp 4),.int .i64 t,.func (.func 130) #[] #[.pointer (some ⟨bh,0,none⟩)],.func (.func 70) #[] #[.pointer (some ⟨b3,0,none⟩),.pointer (some ⟨b5,0,none⟩),.pointer (some ⟨b4,0,none⟩)],.slice (some ⟨bc,0,none⟩) 2 2,.func (.func 127) #[] #[.pointer (some ⟨b1,0,none⟩),.pointer (some ⟨b2,0,none⟩)],Ent.val x,undef,undef,undef,undef,undef,undef,undef,undef,undef,undef,undef,undef,undef,undef,undef,undef,undef,undef,undef,undef,undef],defers:=[]})
  (fun b x W=>EntAt W b x) ?hRw ?hKB ?assign ?body ?done ?stop
 case hI=>
  rintro s A B' ⟨h1,h2,h3⟩ tt;have:=HLT.out;exact⟨(tt.block _ (cells_lt h1) (not_books (by omega))).trans h1,tt.boxed h2 (not_books (by omega)),tt.below h3 (Nat.le_refl _) (far_books HBV.out.size)⟩
 case hRw=>
  intro b x A B' hb hlt h tt;refine(tt.block _ hlt ?_).trans h;rintro(e|e|e)
  · exact e
  · omega
  · omega
 case hKB=>
  intro A B' hs hb;exact Keeps.of_below hb (fun k hk=>by have:=HYL.out.1 k hk;omega)
 case assign=>
  intro l0 x W b K hb hle hK;subst hb
  dsimp only[encE1]
  gi_wp2_with (first
   |((with_reducible refine wpListIn_store_new rfl (.tmp 11) (.tmp 20) rfl rfl x rfl rfl ?hi ?ho ?_);(case hi=>exact(IE x).out);(case ho=>rfl);intro w1 he1 hb1 hs1)
   |fail)
  exact hK _ he1 hb1 hs1
 case body=>
  rintro l0 pre x b W hle hlt ⟨hE,hX,hB⟩ hx hl;obtain⟨bst,fnd,hbf⟩:∃bst fnd,keyFold pre=(bst,fnd):=⟨_,_,rfl⟩;rw[hbf] at hE hX;have hsn:keyFold (pre++[x])=keyStep (bst,fnd) x:=by rw[keyFold_snoc,hbf]
  have HSN:=hZ hsn;have HE:=hZ hE;have HX:=hZ hX;have HB:=hZ hB;have HXE:=hZ hx;clear hbf hsn hE hX hB hx hl;cases fnd
  · have hS0:W.drew.cell? ⟨b10,0,none⟩=some (.bool false):=HX.out.cell
    gi_wp2_with fail
    refine wpIn_region_held (S:=fun U=>U.cell? ⟨b10,0,none⟩=some (.bool false)) (by kernel_rfl) (by kernel_rfl) (hS0) (fun hHeld=> ?_);refine tk 0 ?_;refine tk 1 ?_;refine tk 2 ?_;refine tn 3 ?_;refine tn 4 ?_;refine tn 5 ?_;refine tn 6 ?_;refine tn 7 ?_;refine tn 8 ?_;refine tn 9 ?_;refine tn 10 ?_;refine tn 11 ?_;refine tn 12 ?_;refine tn 13 ?_;refine tn 14 ?_;refine tn 15 ?_;refine tk 16 ?_;refine wpAnyH_done (by kernel_rfl) ?_ _;refine Tight.normal ?_;have HXd:Hid (Boxed W.drew b10 4 (.bool false)):=HX;have HEd:Hid (EntAt W.drew b9 bst):=HE;have HXEd:Hid (EntAt W.drew b x):=HXE;have HRG:=hZ (range_of (cs:=x.cells) HXEd.out);have hc10:=HXd.out.cell;have hf10:=HXd.out.frozen;clear hHeld hS0
    gi_wp2_with (first
     |((with_reducible refine wpListIn_load_mid rfl 33 (.tmp 11) rfl b 0 ?hx x.cells _ HRG.out Tryz.underlying33 rfl (IE x).out ?_);(case hx=>rfl))
     | ((with_reducible refine wpListIn_store_ent rfl (.tmp 9) (.tmp 38) rfl rfl b9 bst x rfl rfl ?hi HEd.out ?_);(case hi=>exact(IE x).out);intro w2 he2 ht2
        have HE2:=hZ he2;have HT2:=hZ ht2;have hX2:=ht2.boxed HXd.out (by have:=HNE.out;omega);have HX2:=hZ (hX2.set (.bool true));have hc2:=hX2.cell;have hf2:=hX2.frozen
        clear he2 ht2 hX2 hc10 hf10)
     |fail)
    have hT3:Turns (fun k=>k=b10) w2 (w2.setCell ⟨b10,0,none⟩ (.bool true)):=Turns.setCell w2 _ _ rfl;have hlt4:=HLT.out;have hne:=HNE.out;have hk1:∀k,Y k→k≠b9∧k≠b10:=HYL.out.2;have hbW:Below W.heap.size W W.drew:=Below.drew (Below.refl _ _);(have hYW:∀k,Y k→k<W.heap.size:=fun k hk=>by have:=HYL.out.1 k hk;omega);have hkp:Keeps Y W (w2.setCell ⟨b10,0,none⟩ (.bool true)):=fun k hk=>(hT3.block k (Nat.lt_of_lt_of_le (Nat.lt_of_lt_of_le (hYW k hk) hbW.size) HT2.out.size) (hk1 k hk).2).trans ((HT2.out.block k (Nat.lt_of_lt_of_le (hYW k hk) hbW.size) (hk1 k hk).1).trans (hbW.block k (hYW k hk)));have hbl:Below w.heap.size w W.drew:=HB.out.trans (hbW.mono HB.out.size);(have h9:w.heap.size≤b9:=by omega);refine⟨(KeepsFrom.of_below hbW).trans ((KeepsFrom.of_turns HT2.out (fun k e=>by omega)).trans (KeepsFrom.of_turns hT3 (fun k e=>by omega))),hkp,?_⟩
    dsimp only
    rw[HSN.out];rw[show keyStep (bst,false) x=(x,true) from rfl];exact⟨(hT3.block _ (cells_lt HE2.out) (by omega)).trans HE2.out,HX2.out,hT3.below (HT2.out.below hbl (Nat.le_refl _) (fun k e=>by omega)) (Nat.le_refl _) (fun k e=>by omega)⟩
  · have HXd:Hid (Boxed W.drew b10 4 (.bool true)):=HX
    have HEd:Hid (EntAt W.drew b9 bst):=HE;have HXEd:Hid (EntAt W.drew b x):=HXE;have hS0:W.drew.cell? ⟨b10,0,none⟩=some (.bool true)∧W.drew.cell? ⟨b,5,none⟩=some (.int .i64 x.frm)∧W.drew.cell? ⟨b9,5,none⟩=some (.int .i64 bst.frm)∧W.drew.cell? ⟨b,1,none⟩=some (.int .i64 x.id)∧W.drew.cell? ⟨b9,1,none⟩=some (.int .i64 bst.id):=⟨HX.out.cell,HXE.out.cell (i:=5) rfl,HE.out.cell (i:=5) rfl,HXE.out.cell (i:=1) rfl,HE.out.cell (i:=1) rfl⟩;obtain⟨q,hq⟩:=oQ (decide (0<orI (cmpZ' x.frm bst.frm) (cmpZ' x.id bst.id)));have HQ:Hid (better x bst=q):=hZ hq
    gi_wp2_with fail
    refine wpIn_region_held (S:=fun U=>U.cell? ⟨b10,0,none⟩=some (.bool true)∧U.cell? ⟨b,5,none⟩=some (.int .i64 x.frm)∧U.cell? ⟨b9,5,none⟩=some (.int .i64 bst.frm)∧U.cell? ⟨b,1,none⟩=some (.int .i64 x.id)∧U.cell? ⟨b9,1,none⟩=some (.int .i64 bst.id)) (by kernel_rfl) (by kernel_rfl) (hS0) (fun hHeld=> ?_);obtain⟨U,hU⟩:=oQ (W.drew);rw[hU] at hHeld hS0 HEd HXd HXEd⊢;have HSZ:Hid (V4.heap.size+2≤U.heap.size∧b<U.heap.size):=hZ (by rw[←hU];exact⟨by show V4.heap.size+2≤W.heap.size;omega,hlt⟩);have HWU:Hid (Below W.heap.size W U):=hZ (by rw[←hU];exact Below.drew (Below.refl _ _));clear hU;refine tk 0 ?_;refine tk 1 ?_;refine tk 2 ?_;refine tk 3 ?_;refine tk 4 ?_;refine tk 5 ?_;refine tk 6 ?_;refine tk 8 ?_;refine tk 9 ?_;refine tk 10 ?_;refine tk 11 ?_;refine rd [7] ?_;refine rcE fun K hK=> ?_;go_simp
    (with_reducible refine(cmp_walk _ _ _).mono ?_)
    rintro e7 w7 ⟨rfl,rfl⟩;refine kk hK (hS0) (fun hHeld=> ?_);clear hK K;refine rd [12] ?_;refine rcE fun K hK=> ?_;go_simp
    (with_reducible refine(cmp_walk _ _ _).mono ?_)
    rintro e8 w8 ⟨rfl,rfl⟩;refine kk hK (hS0) (fun hHeld=> ?_);clear hK K;refine rd [13] ?_;refine rcE fun K hK=> ?_;go_simp;obtain⟨bo,hbo⟩:=oQ (U.heap.size);obtain⟨U1,hU1⟩:=oQ (U.alloc (.cells #[.int .i64 (cmpZ' x.frm bst.frm),.int .i64 (cmpZ' x.id bst.id)] 3));(have hn1:U1.heap[bo]?=some (.cells #[.int .i64 (cmpZ' x.frm bst.frm),.int .i64 (cmpZ' x.id bst.id)] 3 (0,0)):=by rw[←hU1,←hbo];exact World.alloc_heap_new _ _);(have hb1:Below U.heap.size U U1:=by rw[←hU1];exact below_new _ _);rw[hbo,hU1];have HN1:=hZ hn1;have HB1:=hZ hb1;have HE1:=hZ (HEd.out.below hb1);have HXE1:=hZ (HXEd.out.below hb1);have HX1:Hid (Boxed U1 b10 4 (.bool true)):=hZ ((hb1.block _ HXd.out.lt).trans HXd.out);have HS1:Hid (U1.cell? ⟨b10,0,none⟩=some (.bool true)∧U1.cell? ⟨b,5,none⟩=some (.int .i64 x.frm)∧U1.cell? ⟨b9,5,none⟩=some (.int .i64 bst.frm)∧U1.cell? ⟨b,1,none⟩=some (.int .i64 x.id)∧U1.cell? ⟨b9,1,none⟩=some (.int .i64 bst.id)):=hZ ⟨HX1.out.cell,HXE1.out.cell (i:=5) rfl,HE1.out.cell (i:=5) rfl,HXE1.out.cell (i:=1) rfl,HE1.out.cell (i:=1) rfl⟩;clear hbo hU1 hn1 hb1;refine kk hK (HS1.out) (fun hHeld=> ?_);clear hK K;refine rd [14] ?_;refine rcE fun K hK=> ?_;go_simp
    (with_reducible refine(or_walk bo 2 (cmpZ' x.frm bst.frm) (cmpZ' x.id bst.id) U1 (cells_i HN1.out rfl) (cells_i HN1.out rfl)).mono ?_)
    rintro e9 w9 ⟨rfl,rfl⟩;refine kk hK (HS1.out) (fun hHeld=> ?_);clear hK K;refine tk 15 ?_;refine tk 16 ?_;refine wpAnyH_done (by kernel_rfl) ?_ _;refine Tight.normal ?_;cases q
    · clear hHeld hS0
      gi_wp2_with fail
      have hlt4:=HLT.out;have hbW:Below W.heap.size W U1:=HWU.out.trans (HB1.out.mono HWU.out.size);refine⟨KeepsFrom.of_below hbW,Keeps.of_below hbW (fun k hk=>by have:=HYL.out.1 k hk;omega),?_⟩
      dsimp only
      rw[HSN.out];rw[show keyStep (bst,true) x=(bst,true) by unfold keyStep;rw[HQ.out];rfl];exact⟨HE1.out,HX1.out,HB.out.trans (hbW.mono HB.out.size)⟩
    · skip
      have HRG:=hZ (range_of (cs:=x.cells) HXE1.out);have hc10:=HX1.out.cell;have hf10:=HX1.out.frozen;clear hHeld hS0
      gi_wp2_with (first
       |((with_reducible refine wpListIn_load_mid rfl 33 (.tmp 11) rfl b 0 ?hx x.cells _ HRG.out Tryz.underlying33 rfl (IE x).out ?_);(case hx=>rfl))
       | ((with_reducible refine wpListIn_store_ent rfl (.tmp 9) (.tmp 38) rfl rfl b9 bst x rfl rfl ?hi HE1.out ?_);(case hi=>exact(IE x).out);intro w2 he2 ht2
          have HE2:=hZ he2;have HT2:=hZ ht2;have hX2:=ht2.boxed HX1.out (by have:=HNE.out;omega);have HX2:=hZ (hX2.set (.bool true));have hc2:=hX2.cell;have hf2:=hX2.frozen
          clear he2 ht2 hX2 hc10 hf10)
       |fail)
      have hT3:Turns (fun k=>k=b10) w2 (w2.setCell ⟨b10,0,none⟩ (.bool true)):=Turns.setCell w2 _ _ rfl;have hlt4:=HLT.out;have hne:=HNE.out;have hk1:∀k,Y k→k≠b9∧k≠b10:=HYL.out.2;have hbW:Below W.heap.size W U1:=HWU.out.trans (HB1.out.mono HWU.out.size);(have hYW:∀k,Y k→k<W.heap.size:=fun k hk=>by have:=HYL.out.1 k hk;omega);have hkp:Keeps Y W (w2.setCell ⟨b10,0,none⟩ (.bool true)):=fun k hk=>(hT3.block k (Nat.lt_of_lt_of_le (Nat.lt_of_lt_of_le (hYW k hk) hbW.size) HT2.out.size) (hk1 k hk).2).trans ((HT2.out.block k (Nat.lt_of_lt_of_le (hYW k hk) hbW.size) (hk1 k hk).1).trans (hbW.block k (hYW k hk)));have hbl:Below w.heap.size w U1:=HB.out.trans (hbW.mono HB.out.size);(have h9:w.heap.size≤b9:=by omega);refine⟨(KeepsFrom.of_below hbW).trans ((KeepsFrom.of_turns HT2.out (fun k e=>by omega)).trans (KeepsFrom.of_turns hT3 (fun k e=>by omega))),hkp,?_⟩
      dsimp only
      rw[HSN.out];rw[show keyStep (bst,true) x=(x,true) by unfold keyStep;rw[HQ.out];rfl];exact⟨(hT3.block _ (cells_lt HE2.out) (by omega)).trans HE2.out,HX2.out,hT3.below (HT2.out.below hbl (Nat.le_refl _) (fun k e=>by omega)) (Nat.le_refl _) (fun k e=>by omega)⟩
 case done=>
  rintro xs W hS ⟨hE,hX,hB⟩ hK
  have hks:keyFold xs=keyB B lab t:=by
   rw[hS];unfold keyB
   congr 2
   funext e
   simp[allP]
  rw[hks] at hE hX;have HE:=hZ hE;have HX:=hZ hX;have HB:=hZ hB;have HKK:=hZ hK;obtain⟨ks,hks2⟩:=oQ (keyB B lab t);have HKS:=hZ hks2;rw[hks2] at HE HX;clear hS hks hE hX hB hK hks2;have hS0:W.drew.cell? ⟨b9,17,none⟩=some (.string ks.1.text)∧W.drew.cell? ⟨b10,0,none⟩=some (.bool ks.2):=⟨HE.out.cell (i:=17) rfl,HX.out.cell⟩;go_wp2_with fail;refine wp_region_noPanic ?_;refine wp_region_held_drew (S:=fun U=>U.cell? ⟨b9,17,none⟩=some (.string ks.1.text)∧U.cell? ⟨b10,0,none⟩=some (.bool ks.2)) (by kernel_rfl) hS0 (fun hHeld=> ?_);refine tk 0 ?_;refine tk 1 ?_;refine tk 2 ?_;refine tk 3 ?_;refine tk 4 ?_;refine dn ?_;clear hHeld hS0;go_wp2;refine⟨by simp,.inl ⟨_,_,rfl,run_takeDeferred (w:=W.drew) HKK.out,?_⟩⟩;refine⟨_,results_tmps2 rfl _ _,?_,?_⟩
  · rw[HKS.out];rfl
  · exact(Turns.putObj (Z:=fun k=>k=V4.heap.size) W.drew _ _ rfl).below (Below.drew HB.out) (Nat.le_refl _) (fun k hk=>by have:=HBV.out.size;omega)
 case stop=>
  rintro c pre W _ h _;exact h.elim
end Go.Proofs.YteeifhlhpiimoaaGreatDoor
end
section
namespace Go.Proofs.YteeifhlhpiimoaaGreatDoor
open Go Go.RowKit Go.Shelf Go.Sort
def setI (l:List Int):List Int:=Lib.compact (l.mergeSort fun x y=>decide (x≤y))
section
variable {w:World} {B g n cap:Nat} {e:TypeId} {l:List Int}
theorem OL.holds (h:OL w B e 1 (one iv) (.slice (some ⟨g,0,none⟩) n cap) l):Holds (Value.int .i64) w g 0 l.toArray:=by
 rcases h.2 with⟨he,_⟩|⟨g',cap',cur,he,hb,hg,hc,hm,hs,ht⟩
 · cases he
 · cases he
   refine holds_of_blockI hg ?_;rw[Nat.mul_one,flatMap_one] at ht;exact ht
theorem OL.rowed (h:OL w B e 1 (one iv) (.slice (some ⟨g,0,none⟩) n cap) l) (ts:List Int) (hts:ts.length=l.length) (q:Nat) (os:Array Obj) (k:Nat) (hk:k≤l.length):
 OL (grow (putRow (Value.int .i64) (Sort.ahead w q) g 0 ts.toArray) os) B e 1 (one iv) (.slice (some ⟨g,0,none⟩) k cap) (ts.take k):=by
 rcases h.2 with⟨he,_⟩|⟨g',cap',cur,he,hb,hg,hc,hm,hs,ht⟩
 · cases he
 · cases he
   have:=ownsRow_sortedI (n:=q) (os:=os) hts hb hg hc hm hs
   have h2:OL (grow (putRow (Value.int .i64) (Sort.ahead w q) g 0 ts.toArray) os) B e 1 (one iv) (.slice (some ⟨g,0,none⟩) l.length cap) ts:=by
    unfold OL;rw[flatMap_one,hts];exact this
   rw[←hts] at hk;exact h2.take (fun _=>rfl) k hk (by simp)
end
structure RowOf (w w':World) (B:Nat) (v v':Value) (m:List Int):Prop where
 ol:OL w' B 3 1 (one iv) v' m
 own:v'.ownBlock=v.ownBlock
 turns:Turns (fun k=>v.ownBlock=some k) w w'
theorem Turns.of_grown {w w':World} {o:Option Nat} (h:w.grownBy w' o):Turns (fun k=>o=some k) w w':=⟨h.os,h.tape,h.output,h.size,fun k hk hz=>h.block k hk (fun e=>hz e.symm)⟩
theorem sortI_walk {w:World} {B:Nat} {v:Value} {l:List Int} (h:OL w B 3 1 (one iv) v l) (hl:l.length≤1000000):
 Calls Tryz.prog 82 #[v] w fun e w'=>e=.returned (.tuple #[])∧RowOf w w' B v v (l.mergeSort fun x y=>decide (x≤y)):=by
 rcases Nat.eq_zero_or_pos l.length with h0|h0
 · obtain⟨A,c,rfl,_,_⟩:=h.slice
   obtain rfl:=List.length_eq_zero_iff.1 h0;refine(Tryz.slices_Sort_int_none A c w).mono ?_;rintro e w' ⟨rfl,rfl⟩;exact⟨rfl,by simpa using h,rfl,Turns.refl _ _⟩
 · obtain⟨g,c,rfl,_,hg,_,_⟩:=h.form h0
   refine(Tryz.slices_Sort_int g 0 c l w h.holds hg (by omega)).mono ?_;rintro e w' ⟨rfl,q,os,rfl⟩;have:=h.rowed (l.mergeSort fun x y=>decide (x≤y)) (by simp) q os l.length (Nat.le_refl _);rw[List.take_of_length_le (by simp)] at this;exact⟨rfl,this,rfl,Turns.of_grown (grownBy_sortedI _)⟩
theorem compactI_walk {w:World} {B:Nat} {v:Value} {l:List Int} (h:OL w B 3 1 (one iv) v l) (hl:l.length≤1000000):
 Calls Tryz.prog 83 #[v] w fun e w'=> ∃v',e=.returned v'∧RowOf w w' B v v' (Lib.compact l):=by
 rcases Nat.eq_zero_or_pos l.length with h0|h0
 · obtain⟨A,c,rfl,_,_⟩:=h.slice
   obtain rfl:=List.length_eq_zero_iff.1 h0;refine(Tryz.slices_Compact_int_empty A c w).mono ?_;rintro e w' ⟨rfl,rfl⟩;exact⟨_,rfl,by simpa[Lib.compact,Lib.compactUpTo] using h,rfl,Turns.refl _ _⟩
 · obtain⟨g,c,rfl,_,hg,hc,_⟩:=h.form h0
   refine(Tryz.slices_Compact_int g 0 c l w h.holds (by omega) hc).mono ?_;rintro e w' ⟨rfl,q,rfl⟩;have hle:=Lib.compact_length_le l;have:=h.rowed (Lib.compact l++List.replicate (l.length-(Lib.compact l).length) 0) (by simp;omega) q #[] (Lib.compact l).length hle;rw[List.take_left,grow_empty] at this;exact⟨_,rfl,this,rfl,Turns.of_grown (by have:=grownBy_sortedI (w:=w) (g:=g) (n:=q) (os:=#[]) (Lib.compact l++List.replicate (l.length-(Lib.compact l).length) 0).toArray;rwa[grow_empty] at this)⟩
theorem wpListIn_app {α:Type} {F:Fence} {nn:Nat} {P:Program} {w:World} {B:Nat} {e t:TypeId} {size bytes:Nat} {f:α→List Value} {ops:Array Oper} {rest:List Oper} {o:Oper} {a:Act} {Q:Exit→Act→World→Prop} (hgd:o.guard=none) (s x:Operand)
 (ho:o.op=.call {callee:=.builtin .append,args:=#[s,x],argTypes:=#[t,t]}) (E:Elem P t e size bytes) (v:Value) (l:List α) (n:Nat) (hn:l.length=n) (hs:a.eval s=v) (h:OL w B e size f v l) (y:α) (b:Nat) (cs:Array Value) (hx:a.eval x=.slice (some ⟨b,0,none⟩) 1 1)
 (hb:w.heap[b]?=some (.cells cs e (0,0))) (hcs:cs.toList=f y) (hfy:(f y).length=size) (hone:∀u∈f y,u.oneCell'=true) (h63:l.length+1≤maxLen) (hby:(l.length+1)*bytes≤140737488355328) (hB:B≤w.heap.size)
 (hk:∀g cap w',OL w' B e size f (.slice (some ⟨g,0,none⟩) (n+1) cap) (l++[y])→w.grownBy w' v.ownBlock→(v.ownBlock=some g∨g=w.heap.size)→g<w'.heap.size→Below B w w'→wpListIn F nn P ops Q rest (a.put o.dst (.slice (some ⟨g,0,none⟩) (n+1) cap)) w'):wpListIn F nn P ops Q (o::rest) a w:=by
 subst hn;refine wpListIn_plain hgd fun K hK=> ?_;obtain⟨g,cap,w',r1,r2,r3,r4,r5,r6⟩:=h.run_app (P:=P) E o.type y b cs hb hcs hfy hone h63 hby hB;unfold Oper.wpIn;refine⟨?_,?_⟩
 · simp[Oper.about,ho,resolve,Target.leads,Sem.run_pure]
 · rw[Oper.semAt_plain F _ _ (by rw[ho];intro c hc';cases hc')]
   simp[execOp,ho,resolve,invoke,builtin,hs,hx,r1,Result.andThen];exact hK _ _ (hk g cap w' r2 r3 r4 r5 r6)
end Go.Proofs.YteeifhlhpiimoaaGreatDoor
end
section
namespace Go.Proofs.YteeifhlhpiimoaaGreatDoor
open Go Go.RowKit Go.Shelf Go.Sort
attribute [local go_sem] Oper.semAt_some
theorem elemIn:Elem Tryz.prog 23 3 1 8:=Elem.mk' (z:=.int .i64 0) Tryz.underlying23 (by kernel_rfl) rfl (by decide)
def customersB (B:Bas) (p:Int):List Int:=setI (((B.ls 8).filter fun e=>decide (e.item=p)).map fun e=>e.person)
theorem customers_walk (B:Bas) (p:Int) (w:World) (hB:BasAt w (Old w) B) (hl:(B.ls 8).length≤1000000):
 Calls Tryz.prog 31 #[B.val,.int .i64 p] w fun e w'=> ∃v,e=.returned v∧OL w' w.heap.size 3 1 (one iv) v (customersB B p)∧Below w.heap.size w w':=by
 have HB:=hZ hB;have HL:=hZ hl;have IE:=fun e:Ent=>hZ (ientry (e:=e));clear hB hl;refine(callsIn_wide (n:=3)).1 ?_;refine callsIn_of_wp_marks Tryz.func31 rfl trivial ?_ rfl;simp only[Tryz.ntmps31,List.size_toArray,List.length_cons,List.length_nil,Nat.reduceAdd,Nat.reduceSub,Array.replicate_succ,Array.replicate_zero,List.push_toArray,List.append_toArray,List.nil_append,List.cons_append];refine wpIn_wide.2 ?_;go_wp2_with fail;have HF0:=hZ (At.start w);obtain⟨b2,w0,q1,q2,q3,hf0,hs0⟩:=HF0.out.alloc2 (.cells B.cells.toArray 36);obtain⟨b5,w1,r1,r2,r3,hf1,hs1⟩:=hf0.alloc2 (.cells #[.slice none 0 0] 23);rw[hs0] at r1;have HNE:Hid (b2<b5∧w.heap.size≤b2):=hZ (by omega);rw[q1,q2,r1,r2];have HF:Hid (At w w1.drew _):=hZ hf1.drew;clear HF0 q1 q2 q3 hf0 hs0 r1 r2 r3 hf1 hs1;refine wp_region_noPanic ?_;refine wp_region_held_drew (S:=fun U=>U.cell? ⟨b2,8,none⟩=some (.slice (B.ad 8) (B.ls 8).length (B.cp 8))) (by kernel_rfl) (At.cell HF.out (b:=b2) (cs:=B.cells.toArray) (t:=36) (i:=8) (by simp) rfl) (fun hHeld=> ?_);obtain⟨U0,hU0⟩:=oQ (w1.drew);rw[hU0] at HF hHeld⊢;clear hU0;refine tk 0 ?_;refine tk 1 ?_;refine tk 2 ?_;refine rd [3] ?_;refine rcE fun K hK=> ?_;go_simp
 (with_reducible refine(about_at p HF.out).mono ?_)
 rintro e1 V2 ⟨ba,rfl,HF1⟩;have HF:=hZ HF1;clear HF1;refine kk hK (At.cell HF.out (b:=b2) (cs:=B.cells.toArray) (t:=36) (i:=8) (by simp) rfl) (fun hHeld=> ?_);clear hK K;refine rd [4] ?_;refine rcE fun K hK=> ?_;go_simp;obtain⟨bc,V3,g1,g2,-,HF1⟩:=HF.out.alloc (.cells #[.func (.func 129) #[] #[.pointer (some ⟨ba,0,none⟩)]] 45);rw[g1,g2];have HF:=hZ HF1;clear HF1 g1 g2;refine kk hK (At.cell HF.out (b:=b2) (cs:=B.cells.toArray) (t:=36) (i:=8) (by simp) rfl) (fun hHeld=> ?_);clear hK K;refine rd [5] ?_;refine rcE fun K hK=> ?_;go_simp
 (with_reducible refine(where_at (B.ad 8) (B.ls 8).length (B.cp 8) (some ⟨bc,0,none⟩) 1 1 HF.out).mono ?_)
 rintro e1 V4 ⟨b1,b2',rfl,HF1⟩;have HF:=hZ HF1;clear HF1;refine kk hK (At.cell HF.out (b:=b2) (cs:=B.cells.toArray) (t:=36) (i:=8) (by simp) rfl) (fun hHeld=> ?_);clear hK K;refine dn ?_;clear hHeld;obtain⟨Y,hY⟩:∃Y:Nat→Prop,Y=fun k=>k<V4.heap.size∧k≠b5:=⟨_,rfl⟩;have hYlt:∀k,Y k→k<V4.heap.size:=fun k hk=>by rw[hY] at hk;exact hk.1
 have hY5:∀k,Y k→k≠b5:=fun k hk=>by rw[hY] at hk;exact hk.2
 have hin:∀k cs T,(k,Obj.cells cs T (0,0))∈_→T≠23→Y k:=fun k cs T hm h1=>by
  rw[hY];refine⟨HF.out.lt hm,fun e=> ?_⟩;have q1:=HF.out.has _ hm;have q2:=HF.out.has (b5,.cells #[.slice none 0 0] 23 (0,0)) (by simp);simp only at q1 q2;rw[e,q2] at q1;injection q1 with q1;injection q1 with _ q1 _;exact h1 q1.symm
 have hold:∀k,Old w k→Y k:=fun k hk=>by
  unfold Old at hk;rw[hY];have:=HNE.out;have:=HF.out.below.size;omega
 have hBY:BasAt V4 Y B:=(HB.out.keeps (Keeps.of_below HF.out.below fun _ h=>h)).mono hold;have y1:=hin b1 #[.slice (B.ad 8) (B.ls 8).length (B.cp 8)] 25 (by simp) (by decide);have y2:=hin b2' #[.slice (some ⟨bc,0,none⟩) 1 1] 110 (by simp) (by decide);have yc:=hin bc #[.func (.func 129) #[] #[.pointer (some ⟨ba,0,none⟩)]] 45 (by simp) (by decide);have ya:=hin ba #[.int .i64 p] 3 (by simp) (by decide)
 have hIt:=where_iter [⟨129,#[.pointer (some ⟨ba,0,none⟩)],fun e=>decide (e.item=p)⟩] (B.ls 8) (B.ad 8) (some ⟨bc,0,none⟩) (B.ls 8).length (B.cp 8) 1 1 b1 b2' rfl (Nat.le_trans (HB.out.cap 8 (by decide)).1 (HB.out.cap 8 (by decide)).2) rfl (by decide) Y V4 hYlt y1 y2
  (HF.out.boxed (by simp)) (HF.out.boxed (by simp)) (hBY.at_ 8 (by decide)) (fun i v hv=>by
    have hc3:=HF.out.cell (b:=bc) (cs:=#[.func (.func 129) #[] #[.pointer (some ⟨ba,0,none⟩)]]) (t:=45) (by simp) (i:=i) (v:=v) (by simpa[CndD.val] using hv);refine⟨_,rfl,yc,?_⟩;rw[show(⟨bc,0,none⟩:Addr).add i=⟨bc,i,none⟩ by simp[Addr.add];omega]
    exact hc3) (fun c hc=>by
    simp only[List.mem_cons,List.not_mem_nil,or_false] at hc;subst hc
    exact cond_about p ba V4 Y ya (HF.out.boxed (by simp)))
 have HI:=hZ hIt;have HYL:=hZ (And.intro hYlt hY5);have HX5:Hid (Boxed V4 b5 23 (.slice none 0 0)):=hZ (HF.out.boxed (by simp));have HBV:Hid (Below w.heap.size w V4):=hZ HF.out.below;have HLT:Hid (b5<V4.heap.size):=hZ HX5.out.lt;clear hY hYlt hY5 hin hold hBY y1 y2 yc ya hIt;go_wp2_with fail;refine(wpIn_wide (n:=3)).1 ?_
 refine wp_rangeZB (gf:=127) (lb:=#[.pointer (some ⟨b1,0,none⟩),.pointer (some ⟨b2',0,none⟩)]) rfl (enters_of Tryz.func127 (by kernel_rfl) rfl)
  HI.out (Below.refl _ _) (fun k hk=>hk.elim) (fun _=>rfl) (fun h k=>h.trans k)
  (fun W o k hk=>World.putObj_heap_other (by have:=HYL.out.1 k hk;omega))
  (fun pre W=> ∃v,Boxed W b5 23 v∧OL W (V4.heap.size+2) 3 1 (one iv) v (pre.map (fun e=>e.person))∧Below w.heap.size w W)
  (fun _ _ _=>False)
  ?hI (fun _ _ _ _ h _=>h.elim) ⟨_,HX5.out,OL.nil,HBV.out⟩
  (fun b x=>{tmps:=#[B.val,.int .i64 p,.pointer (some ⟨b2,0,none⟩),undef,.slice none 0 0,.pointer (some ⟨b5,0,none⟩),.pointer (some ⟨b,0,none⟩),.pointer (some ⟨b2,8,none⟩),.slice (B.ad 8) (B.ls 8).length (B.cp 8),.int .i64 p,.func (.func 129) #[] #[.pointer (some ⟨ba,0,none⟩)],.slice (some ⟨bc,0,none⟩) 1 1,.func (.func 127) #[] #[.pointer (some ⟨b1,0,none⟩),.pointer (some ⟨b2',0,none⟩)],Ent.val x,undef,undef,undef,undef,undef,undef,undef,undef,undef],defers:=[]})
  (fun b x W=>EntAt W b x) ?hRw ?hKB ?assign ?body ?done ?stop
 case hI=>
  rintro s A B' ⟨v,h1,h2,h3⟩ tt;have:=HLT.out;refine⟨v,tt.boxed h1 (not_books (by omega)),h2.keep fun g hg=>tt.block g (h2.lt g hg).2 ?_,tt.below h3 (Nat.le_refl _) (far_books HBV.out.size)⟩;rintro(e|e|e)
  · exact e
  · have:=(h2.lt g hg).1;omega
  · have:=(h2.lt g hg).1;omega
 case hRw=>
  intro b x A B' hb hlt h tt;refine(tt.block _ hlt ?_).trans h;rintro(e|e|e)
  · exact e
  · omega
  · omega
 case hKB=>
  intro A B' hs hb;exact Keeps.of_below hb (fun k hk=>by have:=HYL.out.1 k hk;omega)
 case assign=>
  intro l0 x W b K hb hle hK;subst hb
  dsimp only[encE1]
  gi_wp2_with (first
   |((with_reducible refine wpListIn_store_new rfl (.tmp 6) (.tmp 13) rfl rfl x rfl rfl ?hi ?ho ?_);(case hi=>exact(IE x).out);(case ho=>rfl);intro w1 he1 hb1 hs1)
   |fail)
  exact hK _ he1 hb1 hs1
 case body=>
  rintro l0 pre x b W hle hlt ⟨v,hv,hrow,hB⟩ hx hl;obtain⟨A5,c5,rfl,-,-⟩:=hrow.slice;obtain⟨k,hk⟩:=oQ ((pre.map (fun e=>e.person)).length);rw[hk] at hv hrow;have HK:=hZ hk;have HV:=hZ hv;have HR:=hZ hrow;have HBB:=hZ hB;have HXE:=hZ hx;have hkn:k<(B.ls 8).length:=by rw[←hk,List.length_map];exact hl
  have HKN:Hid (k+1≤1000000):=hZ (by have:=HL.out;omega);have x9:=HXE.out.cell (i:=9) rfl;have c0:=hv.cell;clear hk hv hrow hB hx hl hkn;have hbn:=below_new W (.cells #[.int .i64 x.person] 3);have HBN:=hZ hbn;clear hbn
  gi_wp2_with (first
   | (gi_at_builtin;refine wpListIn_app rfl (.tmp 14) (.tmp 17) rfl elemIn (.slice A5 k c5) (pre.map (fun e=>e.person)) k HK.out rfl (HR.out.below HBN.out (Nat.le_refl _)) x.person W.heap.size #[.int .i64 x.person] rfl (World.alloc_heap_new W _) rfl rfl (fun u hu=>by simp[one,iv] at hu;subst hu;rfl) (by have:=HKN.out;have:=HK.out;unfold maxLen;omega) (by have:=HKN.out;have:=HK.out;omega) (by simp;omega) ?_
      intro g' cap' w1 ho1 hg1 hw1 hl1 hb1;have hv1:Boxed w1 b5 23 (.slice A5 k c5):=(hg1.block b5 (by have:=HBN.out.size;have:=HV.out.lt;omega) (fun e=>by have:=(HR.out.lt b5 e.symm).1;have:=HLT.out;omega)).trans ((HBN.out.block _ HV.out.lt).trans HV.out);have HV1:=hZ hv1;have HO1:=hZ ho1;have HG1:=hZ hg1;have HW1:=hZ hw1;have c1:=hv1.cell;have f1:=hv1.frozen
      clear ho1 hg1 hw1 hl1 hb1 hv1)
   |fail)
  have hT:Turns (fun q=>q=b5) w1 (w1.setCell ⟨b5,0,none⟩ (.slice (some ⟨g',0,none⟩) (k+1) cap')):=Turns.setCell _ _ _ rfl;have hown:∀q,(Value.slice A5 k c5).ownBlock=some q→V4.heap.size+2≤q:=fun q hq=>(HR.out.lt q hq).1;have hlt5:=HLT.out;have hsz:=HBN.out.size;have hT1:Turns (fun q=>(Value.slice A5 k c5).ownBlock=some q) (W.alloc (.cells #[.int .i64 x.person] 3)) w1:=grown_turns HG1.out;have hb1:Below (V4.heap.size+2) W w1:=hT1.below (HBN.out.mono (by omega)) (by omega) (fun q hq=>hown q hq)
  have hYw:Keeps Y W (w1.setCell ⟨b5,0,none⟩ (.slice (some ⟨g',0,none⟩) (k+1) cap')):=fun q hq=>by
   have h1:=HYL.out.1 q hq;have h2:=HYL.out.2 q hq;exact(Below.heap_setCell _ _ _ _ h2).trans (hb1.block q (by omega))
  refine⟨?_,hYw,.slice (some ⟨g',0,none⟩) (k+1) cap',HV1.out.set _,?_,?_⟩
  · refine((KeepsFrom.of_below HBN.out).trans ⟨hT1.size,fun q o h1 h2 h3=> ?_⟩).trans (KeepsFrom.of_turns hT (fun q e=>by omega))
    refine(hT1.block q (Array.getElem?_eq_some_iff.1 h2).1 fun e=> ?_).trans h2;have hrow:=HR.out.below HBN.out (Nat.le_refl _);rcases hrow.2 with⟨e1,_⟩|⟨g9,cap9,cur9,e1,_,h9,_⟩
    · rw[e1] at e;cases e
    · rw[e1] at e
      (have:g9=q:=by injection e);subst this;rw[h9] at h2;injection h2 with h2;rw[←h2] at h3;cases h3
  · rw[List.map_append,List.map_singleton]
    exact HO1.out.keep fun q hq=>Below.heap_setCell _ _ _ _ (fun e=>by
     (have:g'=q:=by injection hq);rcases HW1.out with h1|h1
     · have:=hown g' h1;simp only at e;omega
     · simp only at e;omega)
  · have:=HBV.out.size
    (have hlw:w.heap.size≤b5:=by have:=HNE.out;omega);exact hT.below (HBB.out.trans (hb1.mono (by omega))) (Nat.le_refl _) (fun q hq=>by omega)
 case done=>
  rintro xs W hS ⟨v,hv,hrow,hB⟩ hK
  have hxs:xs=(B.ls 8).filter fun e=>decide (e.item=p):=by
   rw[hS]
   congr 1
   funext e
   simp[allP]
  subst hxs
  have hll:(((B.ls 8).filter fun e=>decide (e.item=p)).map fun e=>e.person).length≤1000000:=by
   have:=List.length_filter_le (fun e=>decide (e.item=p)) (B.ls 8);have:=HL.out;rw[List.length_map];omega
  obtain⟨ll,hll2⟩:=oQ (((B.ls 8).filter fun e=>decide (e.item=p)).map (fun e=>e.person));have hcu:customersB B p=setI ll:=by unfold customersB;rw[hll2]
  rw[hll2] at hrow hll;have HCU:=hZ hcu;have HLL:=hZ hll;have HV:=hZ hv;have HR:=hZ hrow;have HBB:=hZ hB;have HKK:=hZ hK;have c0:=hv.cell;have hown5:v.ownBlock≠some b5:=fun e=>by have:=(hrow.lt b5 e).1;have:=HLT.out;omega
  have HO5:=hZ hown5;clear hv hrow hB hK hS hll2 hcu hll hown5
  go_wp2_with (first
   | (go_at_call 82;(with_reducible refine(sortI_walk HR.out HLL.out).mono ?_);rintro e3 w3 ⟨rfl,hr3⟩
      have HR3:=hZ hr3;have hv3:Boxed w3 b5 23 v:=hr3.turns.boxed HV.out HO5.out;have HV3:=hZ hv3;have c3:=hv3.cell
      clear hr3 hv3 c0)
   | (go_at_call 83;(with_reducible refine(compactI_walk HR3.out.ol (by have:=HLL.out;simpa using this)).mono ?_);rintro e4 w4 ⟨v4,rfl,hr4⟩
      have HR4:=hZ hr4
      clear hr4)
   |fail)
  have hd3:w3.heap[V4.heap.size]?=some (.deferred (some [])):=(HR3.out.turns.block _ (Array.getElem?_eq_some_iff.1 HKK.out).1 (fun e=>by have:=(HR.out.lt _ e).1;omega)).trans HKK.out;have hd4:w4.heap[V4.heap.size]?=some (.deferred (some [])):=(HR4.out.turns.block _ (Array.getElem?_eq_some_iff.1 hd3).1 (fun e=>by have:=(HR3.out.ol.lt _ e).1;omega)).trans hd3;refine⟨by simp,.inl ⟨_,_,rfl,run_takeDeferred hd4,?_⟩⟩;refine⟨_,results_tmp rfl _ _ _,_,rfl,?_,?_⟩
  · rw[HCU.out]
    have hsz:=HBV.out.size;exact(HR4.out.ol.keep fun g hg=>World.putObj_heap_other (by have:=(HR4.out.ol.lt g hg).1;omega)).base (by omega)
  · have hsz:=HBV.out.size
    have hb3:=HR3.out.turns.below HBB.out (Nat.le_refl _) (fun q hq=>by have:=(HR.out.lt q hq).1;omega);have hb4:=HR4.out.turns.below hb3 (Nat.le_refl _) (fun q hq=>by have:=(HR3.out.ol.lt q hq).1;omega);exact(Turns.putObj (Z:=fun k=>k=V4.heap.size) w4 _ _ rfl).below hb4 (Nat.le_refl _) (fun k hk=>by omega)
 case stop=>
  rintro c pre W _ h _;exact h.elim
structure Sus where
 item:Int
 frm:Int
 til:Int
instance susInh:Inhabited Sus:=⟨⟨0,0,0⟩⟩
end Go.Proofs.YteeifhlhpiimoaaGreatDoor
end
section
namespace Go.Proofs.YteeifhlhpiimoaaGreatDoor
open Go Go.RowKit Go.Shelf
attribute [local go_sem] Oper.semAt_some
theorem wpListIn_build_ent {F:Fence} {nn:Nat} {ops:Array Oper} {rest:List Oper} {o:Oper} {a:Act} {w:World} {Q:Exit→Act→World→Prop} (hgd:o.guard=none) (x:Operand) (ho:o.op=.buildSlice 25 1 #[(0,x)]) (e:Ent) (hx:a.eval x=e.val)
 (hk:∀b V,w.heap.size=b→Below b w V→V.heap[b]?=some (.cells e.cells.toArray 33 (0,0))→V.heap.size=b+1→wpListIn F nn Tryz.prog ops Q rest (a.put o.dst (.slice (some ⟨b,0,none⟩) 1 1)) V):wpListIn F nn Tryz.prog ops Q (o::rest) a w:=by
 refine wpListIn_plain hgd fun K hK=> ?_;have h:=hk _ _ rfl (below_new w (.cells e.cells.toArray 33)) (World.alloc_heap_new w _) (by simp);unfold Oper.wpIn;refine⟨?_,?_⟩
 · simp[Oper.about,ho]
 · rw[Oper.semAt_plain F _ _ (by rw[ho];intro c hc';cases hc')]
   have hr:=run_build_ent w e;obtain⟨z,hz⟩:=oQ (e.val);rw[hz] at hr hx;unfold execOp;simp only[ho,List.map_toArray,List.map_cons,List.map_nil,hx,Sem.run_bind,hr,Result.andThen_ok];exact hK _ _ h
theorem appendE_walk (b1 b2 N:Nat) (L:List Ent) (Sp:List Ent→Prop) (w:World) (hI:IterZ Tryz.prog 127 #[.pointer (some ⟨b1,0,none⟩),.pointer (some ⟨b2,0,none⟩)] encE1 (fun _=>False) (Keeps (Old w)) (fun xs=>xs=L) Sp N w) (hN:N≤1000000):
 Calls Tryz.prog 171 #[.slice none 0 0,.func (.func 127) #[] #[.pointer (some ⟨b1,0,none⟩),.pointer (some ⟨b2,0,none⟩)]] w fun e w'=> ∃v,e=.returned v∧OL w' w.heap.size 33 18 Ent.cells v L∧Below w.heap.size w w':=by
 have IE:=fun e:Ent=>hZ (ientry (e:=e));have HI:=hZ hI;clear hI;refine(callsIn_wide (n:=3)).1 ?_;refine callsIn_of_wp_marks Tryz.func171 rfl trivial ?_ rfl;simp only[Tryz.ntmps171,List.size_toArray,List.length_cons,List.length_nil,Nat.reduceAdd,Nat.reduceSub,Array.replicate_succ,Array.replicate_zero,List.push_toArray,List.append_toArray,List.nil_append,List.cons_append]
 gi_wp2_with fail
 obtain⟨w7,hw7⟩:=oQ (w.alloc (.cells #[.slice none 0 0] 25));have hbl:Below w.heap.size w w7:=by rw[←hw7];exact(Below.refl _ _).alloc (Nat.le_refl _) _
 have hs7:w7.heap.size=w.heap.size+1:=by rw[←hw7];simp
 have x0:Boxed w7 w.heap.size 25 (.slice none 0 0):=by rw[←hw7];exact Boxed.new w _ _
 rw[hw7];clear hw7;have HS7:=hZ hs7;have HX0:=hZ x0;have HBL:=hZ hbl;clear hbl x0 hs7
 refine wp_rangeZB (gf:=127) (lb:=#[.pointer (some ⟨b1,0,none⟩),.pointer (some ⟨b2,0,none⟩)]) rfl (enters_of Tryz.func127 (by kernel_rfl) rfl)
  HI.out HBL.out (fun k hk=>hk.elim) (fun _=>rfl) (fun h k=>h.trans k)
  (fun W o k hk=>World.putObj_heap_other (by unfold Old at hk;have:=HS7.out;omega))
  (fun pre W=> ∃v,Boxed W w.heap.size 25 v∧OL W (w7.heap.size+2) 33 18 Ent.cells v pre∧Below w.heap.size w W)
  (fun _ _ _=>False)
  ?hI (fun _ _ _ _ h _=>h.elim) ⟨_,HX0.out,OL.nil,HBL.out⟩
  (fun b x=>{tmps:=#[.slice none 0 0,.func (.func 127) #[] #[.pointer (some ⟨b1,0,none⟩),.pointer (some ⟨b2,0,none⟩)],.pointer (some ⟨w.heap.size,0,none⟩),undef,.slice none 0 0,.pointer (some ⟨b,0,none⟩),.func (.func 127) #[] #[.pointer (some ⟨b1,0,none⟩),.pointer (some ⟨b2,0,none⟩)],Ent.val x,undef,undef,undef,undef,undef],defers:=[]})
  (fun b x W=>EntAt W b x) ?hRw ?hKB ?assign ?body ?done ?stop
 case hI=>
  rintro s A B' ⟨v,h1,h2,h3⟩ tt;have:=HS7.out;refine⟨v,tt.boxed h1 (not_books (by omega)),h2.keep fun g hg=>tt.block g (h2.lt g hg).2 ?_,tt.below h3 (Nat.le_refl _) (far_books HBL.out.size)⟩;rintro(e|e|e)
  · exact e
  · have:=(h2.lt g hg).1;omega
  · have:=(h2.lt g hg).1;omega
 case hRw=>
  intro b x A B' hb hlt h tt;refine(tt.block _ hlt ?_).trans h;rintro(e|e|e)
  · exact e
  · omega
  · omega
 case hKB=>
  intro A B' hs hb;exact Keeps.of_below hb (fun k hk=>by unfold Old at hk;have:=HS7.out;omega)
 case assign=>
  intro l0 x W b K hb hle hK;subst hb
  dsimp only[encE1]
  gi_wp2_with (first
   |((with_reducible refine wpListIn_store_new rfl (.tmp 5) (.tmp 7) rfl rfl x rfl rfl ?hi ?ho ?_);(case hi=>exact(IE x).out);(case ho=>rfl);intro w1 he1 hb1 hs1)
   |fail)
  exact hK _ he1 hb1 hs1
 case body=>
  rintro l0 pre x b W hle hlt ⟨v,hv,hrow,hB⟩ hx hl;obtain⟨A5,c5,rfl,-,-⟩:=hrow.slice;obtain⟨k,hk⟩:=oQ (pre.length);rw[hk] at hv hrow;have HK:=hZ hk;have HV:=hZ hv;have HR:=hZ hrow;have HBB:=hZ hB;have HXE:=hZ hx;have HRG:Hid (W.rangeAt b 0 x.cells):=hZ (range_of (cs:=x.cells) hx);have HKN:Hid (k+1≤1000000):=hZ (by omega);have c0:=hv.cell;clear hk hv hrow hB hx hl
  gi_wp2_with (first
   |((with_reducible refine wpListIn_load_mid rfl 33 (.tmp 5) rfl b 0 ?hx x.cells _ HRG.out Tryz.underlying33 rfl (IE x).out ?_);(case hx=>rfl))
   | ((with_reducible refine wpListIn_build_ent rfl (.tmp 9) rfl x ?hx ?_);(case hx=>rfl)
      intro bn V hbn hbl hnv hsv;have HBNE:=hZ hbn;have HBN:=hZ hbl;have HNV:=hZ hnv;have HSV:=hZ hsv
      clear hbn hbl hnv hsv)
   | (gi_at_builtin;refine wpListIn_app rfl (.tmp 8) (.tmp 10) rfl elemEnt (.slice A5 k c5) pre k HK.out rfl (HR.out.below (HBN.out.mono (by have:=HBNE.out;omega)) (Nat.le_refl _)) x bn x.cells.toArray rfl HNV.out rfl rfl (one_cells' x) (by have:=HKN.out;have:=HK.out;unfold maxLen;omega) (by have:=HKN.out;have:=HK.out;omega) (by have:=HSV.out;have:=HBNE.out;omega) ?_
      intro g' cap' w1 ho1 hg1 hw1 hl1 hb1;have hv1:Boxed w1 w.heap.size 25 (.slice A5 k c5):=(hg1.block w.heap.size (by have:=HBN.out.size;have:=HV.out.lt;have:=HBNE.out;omega) (fun e=>by have:=(HR.out.lt w.heap.size e.symm).1;have:=HS7.out;omega)).trans ((HBN.out.block _ (by have:=HV.out.lt;have:=HBNE.out;omega)).trans HV.out);have HV1:=hZ hv1;have HO1:=hZ ho1;have HG1:=hZ hg1;have HW1:=hZ hw1;have c1:=hv1.cell;have f1:=hv1.frozen
      clear ho1 hg1 hw1 hl1 hb1 hv1)
   |fail)
  have hT:Turns (fun q=>q=w.heap.size) w1 (w1.setCell ⟨w.heap.size,0,none⟩ (.slice (some ⟨g',0,none⟩) (k+1) cap')):=Turns.setCell _ _ _ rfl;have hown:∀q,(Value.slice A5 k c5).ownBlock=some q→w7.heap.size+2≤q:=fun q hq=>(HR.out.lt q hq).1;have hlt5:=HS7.out;have hsz:=HBN.out.size;have hbe:=HBNE.out;have hT1:Turns (fun q=>(Value.slice A5 k c5).ownBlock=some q) V w1:=grown_turns HG1.out;have hb1:Below (w7.heap.size+2) W w1:=hT1.below (HBN.out.mono (by omega)) (by omega) (fun q hq=>hown q hq)
  have hYw:Keeps (Old w) W (w1.setCell ⟨w.heap.size,0,none⟩ (.slice (some ⟨g',0,none⟩) (k+1) cap')):=fun q hq=>by
   unfold Old at hq;exact(Below.heap_setCell _ _ _ _ (by simp only;omega)).trans (hb1.block q (by omega))
  refine⟨?_,hYw,.slice (some ⟨g',0,none⟩) (k+1) cap',HV1.out.set _,?_,?_⟩
  · subst hbe
    refine((KeepsFrom.of_below HBN.out).trans ⟨hT1.size,fun q o h1 h2 h3=> ?_⟩).trans (KeepsFrom.of_turns hT (fun q e=>by omega));refine(hT1.block q (Array.getElem?_eq_some_iff.1 h2).1 fun e=> ?_).trans h2;have hrow:=HR.out.below HBN.out (by omega);rcases hrow.2 with⟨e1,_⟩|⟨g9,cap9,cur9,e1,_,h9,_⟩
    · rw[e1] at e;cases e
    · rw[e1] at e
      (have:g9=q:=by injection e);subst this;rw[h9] at h2;injection h2 with h2;rw[←h2] at h3;cases h3
  · exact HO1.out.keep fun q hq=>Below.heap_setCell _ _ _ _ (fun e=>by
     (have:g'=q:=by injection hq);rcases HW1.out with h1|h1
     · have:=hown g' h1;simp only at e;omega
     · simp only at e;omega)
  · exact hT.below (HBB.out.trans (hb1.mono (by omega))) (Nat.le_refl _) (fun q hq=>by omega)
 case done=>
  rintro xs W hS ⟨v,hv,hrow,hB⟩ hK;subst hS;have HV:=hZ hv;have HR:=hZ hrow;have HBB:=hZ hB;have HKK:=hZ hK;have c0:=hv.cell;clear hv hrow hB hK
  gi_wp2_with fail
  refine⟨by simp,.inl ⟨_,_,rfl,run_takeDeferred HKK.out,?_⟩⟩;refine⟨_,results_tmp rfl _ _ _,_,rfl,?_,?_⟩
  · have:=HS7.out
    exact(HR.out.keep fun g hg=>World.putObj_heap_other (by have:=(HR.out.lt g hg).1;omega)).base (by omega)
  · have:=HS7.out
    exact(Turns.putObj (Z:=fun k=>k=w7.heap.size) W _ _ rfl).below HBB.out (Nat.le_refl _) (fun k hk=>by omega)
 case stop=>
  rintro c pre W _ h _;exact h.elim
theorem collectE_walk (b1 b2 N:Nat) (L:List Ent) (Sp:List Ent→Prop) (w:World) (hI:IterZ Tryz.prog 127 #[.pointer (some ⟨b1,0,none⟩),.pointer (some ⟨b2,0,none⟩)] encE1 (fun _=>False) (Keeps (Old w)) (fun xs=>xs=L) Sp N w) (hN:N≤1000000):
 Calls Tryz.prog 131 #[.func (.func 127) #[] #[.pointer (some ⟨b1,0,none⟩),.pointer (some ⟨b2,0,none⟩)]] w fun e w'=> ∃v,e=.returned v∧OL w' w.heap.size 33 18 Ent.cells v L∧Below w.heap.size w w':=by
 have HC:=hZ (appendE_walk b1 b2 N L Sp w hI hN);clear hI hN
 go_enter Tryz.func131,Tryz.ntmps131
 go_wp2_with (go_at_call 171;refine HC.out.mono ?_;rintro e w' ⟨v,rfl,ho,hb⟩)
 go_ret;exact⟨v,rfl,ho,hb⟩
end Go.Proofs.YteeifhlhpiimoaaGreatDoor
end
