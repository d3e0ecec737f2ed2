/-
  Contracts of slices.AppendSeq, slices.Collect at an iterator of entries. Conditions: the iterator's contract, at most 1000000 elements. Known's comparison of points; slices.SortedStableFunc of fewer than 20 entries. Conditions: each contract's own. Contracts of known.Wrong, known.Budget, known.Skilled. Conditions: the lists' bounds.
-/
import Derived.Test.YteeifhlhpiimoaaGreatDoorPAl
import Derived.Test.YteeifhlhpiimoaaGreatDoorPAk
import Derived.Test.YteeifhlhpiimoaaGreatDoorPAa
import Derived.Shelf.SlSortCmp.InsertionK
import Derived.Test.YteeifhlhpiimoaaGreatDoorPAf
section
namespace Go.Proofs.YteeifhlhpiimoaaGreatDoor
open Go Go.RowKit Go.Shelf
attribute [local go_sem] Oper.semAt_some
theorem wpListIn_build_ent {F : Fence} {nn : Nat} {ops : Array Oper} {rest : List Oper} {o : Oper} {a : Act} {w : World} {Q : Exit → Act → World → Prop} (hgd : o.guard = none) (x : Operand) (ho : o.op = .buildSlice 25 1 #[(0, x)]) (e : Ent) (hx : a.eval x = e.val)
 (hk : ∀ b V, w.heap.size = b → Below b w V → V.heap[b]? = some (.cells e.cells.toArray 33 (0, 0)) → V.heap.size = b + 1 → wpListIn F nn Tryz.prog ops Q rest (a.put o.dst (.slice (some ⟨b, 0, none⟩) 1 1)) V) : wpListIn F nn Tryz.prog ops Q (o :: rest) a w := by
 refine wpListIn_plain hgd fun K hK => ?_
 have h := hk _ _ rfl (below_new w (.cells e.cells.toArray 33)) (World.alloc_heap_new w _) (by simp)
 unfold Oper.wpIn
 refine ⟨?_, ?_⟩
 · simp [Oper.about, ho]
 · rw [Oper.semAt_plain F _ _ (by rw [ho]; intro c hc'; cases hc')]
   have hr := run_build_ent w e
   obtain ⟨z, hz⟩ := oQ (e.val)
   rw [hz] at hr hx
   unfold execOp
   simp only [ho, List.map_toArray, List.map_cons, List.map_nil, hx, Sem.run_bind, hr, Result.andThen_ok]
   exact hK _ _ h
set_option maxRecDepth 100000 in
set_option maxHeartbeats 4000000 in
theorem appendE_walk (b1 b2 N : Nat) (L : List Ent) (Sp : List Ent → Prop) (w : World) (hI : IterZ Tryz.prog 127 #[.pointer (some ⟨b1, 0, none⟩), .pointer (some ⟨b2, 0, none⟩)] encE1 (fun _ => False) (Keeps (Old w)) (fun xs => xs = L) Sp N w) (hN : N ≤ 1000000) :
 Calls Tryz.prog 171 #[.slice none 0 0, .func (.func 127) #[] #[.pointer (some ⟨b1, 0, none⟩), .pointer (some ⟨b2, 0, none⟩)]] w fun e w' => ∃ v, e = .returned v ∧ OL w' w.heap.size 33 18 Ent.cells v L ∧ Below w.heap.size w w' := by
 have IE := fun e : Ent => hZ (ientry (e := e))
 have HI := hZ hI
 clear hI
 refine (callsIn_wide (n := 3)).1 ?_
 refine callsIn_of_wp_marks Tryz.func171 rfl trivial ?_ rfl
 simp only [Tryz.ntmps171, List.size_toArray, List.length_cons, List.length_nil, Nat.reduceAdd, Nat.reduceSub, Array.replicate_succ, Array.replicate_zero, List.push_toArray, List.append_toArray, List.nil_append, List.cons_append]
 gi_wp2_with fail
 obtain ⟨w7, hw7⟩ := oQ (w.alloc (.cells #[.slice none 0 0] 25))
 have hbl : Below w.heap.size w w7 := by rw [← hw7]; exact (Below.refl _ _).alloc (Nat.le_refl _) _
 have hs7 : w7.heap.size = w.heap.size + 1 := by rw [← hw7]; simp
 have x0 : Boxed w7 w.heap.size 25 (.slice none 0 0) := by rw [← hw7]; exact Boxed.new w _ _
 rw [hw7]
 clear hw7
 have HS7 := hZ hs7
 have HX0 := hZ x0
 have HBL := hZ hbl
 clear hbl x0 hs7
 refine wp_rangeZB (gf := 127) (lb := #[.pointer (some ⟨b1, 0, none⟩), .pointer (some ⟨b2, 0, none⟩)]) rfl (enters_of Tryz.func127 (by kernel_rfl) rfl)
  HI.out HBL.out (fun k hk => hk.elim) (fun _ => rfl) (fun h k => h.trans k)
  (fun W o k hk => World.putObj_heap_other (by unfold Old at hk; have := HS7.out; omega))
  (fun pre W => ∃ v, Boxed W w.heap.size 25 v ∧ OL W (w7.heap.size + 2) 33 18 Ent.cells v pre ∧ Below w.heap.size w W)
  (fun _ _ _ => False)
  ?hI (fun _ _ _ _ h _ => h.elim) ⟨_, HX0.out, OL.nil, HBL.out⟩
  (fun b x => { tmps := #[.slice none 0 0, .func (.func 127) #[] #[.pointer (some ⟨b1, 0, none⟩), .pointer (some ⟨b2, 0, none⟩)], .pointer (some ⟨w.heap.size, 0, none⟩), undef, .slice none 0 0, .pointer (some ⟨b, 0, none⟩), .func (.func 127) #[] #[.pointer (some ⟨b1, 0, none⟩), .pointer (some ⟨b2, 0, none⟩)], Ent.val x, undef, undef, undef, undef, undef], defers := [] })
  (fun b x W => EntAt W b x) ?hRw ?hKB ?assign ?body ?done ?stop
 case hI =>
  rintro s A B' ⟨v, h1, h2, h3⟩ tt
  have := HS7.out
  refine ⟨v, tt.boxed h1 (not_books (by omega)), h2.keep fun g hg => tt.block g (h2.lt g hg).2 ?_, tt.below h3 (Nat.le_refl _) (far_books HBL.out.size)⟩
  rintro (e | e | e)
  · exact e
  · have := (h2.lt g hg).1; omega
  · have := (h2.lt g hg).1; omega
 case hRw =>
  intro b x A B' hb hlt h tt
  refine (tt.block _ hlt ?_).trans h
  rintro (e | e | e)
  · exact e
  · omega
  · omega
 case hKB =>
  intro A B' hs hb
  exact Keeps.of_below hb (fun k hk => by unfold Old at hk; have := HS7.out; omega)
 case assign =>
  intro l0 x W b K hb hle hK
  subst hb
  dsimp only [encE1]
  gi_wp2_with (first
   | ((with_reducible refine wpListIn_store_new rfl (.tmp 5) (.tmp 7) rfl rfl x rfl rfl ?hi ?ho ?_); (case hi => exact (IE x).out); (case ho => rfl); intro w1 he1 hb1 hs1)
   | fail)
  exact hK _ he1 hb1 hs1
 case body =>
  rintro l0 pre x b W hle hlt ⟨v, hv, hrow, hB⟩ hx hl
  obtain ⟨A5, c5, rfl, -, -⟩ := hrow.slice
  obtain ⟨k, hk⟩ := oQ (pre.length)
  rw [hk] at hv hrow
  have HK := hZ hk
  have HV := hZ hv
  have HR := hZ hrow
  have HBB := hZ hB
  have HXE := hZ hx
  have HRG : Hid (W.rangeAt b 0 x.cells) := hZ (range_of (cs := x.cells) hx)
  have HKN : Hid (k + 1 ≤ 1000000) := hZ (by omega)
  have c0 := hv.cell
  clear hk hv hrow hB hx hl
  gi_wp2_with (first
   | ((with_reducible refine wpListIn_load_mid rfl 33 (.tmp 5) rfl b 0 ?hx x.cells _ HRG.out Tryz.underlying33 rfl (IE x).out ?_); (case hx => rfl))
   | ((with_reducible refine wpListIn_build_ent rfl (.tmp 9) rfl x ?hx ?_); (case hx => rfl)
      intro bn V hbn hbl hnv hsv
      have HBNE := hZ hbn
      have HBN := hZ hbl
      have HNV := hZ hnv
      have HSV := hZ hsv
      clear hbn hbl hnv hsv)
   | (gi_at_builtin; refine wpListIn_app rfl (.tmp 8) (.tmp 10) rfl elemEnt (.slice A5 k c5) pre k HK.out rfl (HR.out.below (HBN.out.mono (by have := HBNE.out; omega)) (Nat.le_refl _)) x bn x.cells.toArray rfl HNV.out rfl rfl (one_cells' x) (by have := HKN.out; have := HK.out; unfold maxLen; omega) (by have := HKN.out; have := HK.out; omega) (by have := HSV.out; have := HBNE.out; omega) ?_
      intro g' cap' w1 ho1 hg1 hw1 hl1 hb1
      have hv1 : Boxed w1 w.heap.size 25 (.slice A5 k c5) := (hg1.block w.heap.size (by have := HBN.out.size; have := HV.out.lt; have := HBNE.out; omega) (fun e => by have := (HR.out.lt w.heap.size e.symm).1; have := HS7.out; omega)).trans ((HBN.out.block _ (by have := HV.out.lt; have := HBNE.out; omega)).trans HV.out)
      have HV1 := hZ hv1
      have HO1 := hZ ho1
      have HG1 := hZ hg1
      have HW1 := hZ hw1
      have c1 := hv1.cell
      have f1 := hv1.frozen
      clear ho1 hg1 hw1 hl1 hb1 hv1)
   | fail)
  have hT : Turns (fun q => q = w.heap.size) w1 (w1.setCell ⟨w.heap.size, 0, none⟩ (.slice (some ⟨g', 0, none⟩) (k + 1) cap')) := Turns.setCell _ _ _ rfl
  have hown : ∀ q, (Value.slice A5 k c5).ownBlock = some q → w7.heap.size + 2 ≤ q := fun q hq => (HR.out.lt q hq).1
  have hlt5 := HS7.out
  have hsz := HBN.out.size
  have hbe := HBNE.out
  have hT1 : Turns (fun q => (Value.slice A5 k c5).ownBlock = some q) V w1 := grown_turns HG1.out
  have hb1 : Below (w7.heap.size + 2) W w1 := hT1.below (HBN.out.mono (by omega)) (by omega) (fun q hq => hown q hq)
  have hYw : Keeps (Old w) W (w1.setCell ⟨w.heap.size, 0, none⟩ (.slice (some ⟨g', 0, none⟩) (k + 1) cap')) := fun q hq => by
   unfold Old at hq
   exact (Below.heap_setCell _ _ _ _ (by simp only; omega)).trans (hb1.block q (by omega))
  refine ⟨?_, hYw, .slice (some ⟨g', 0, none⟩) (k + 1) cap', HV1.out.set _, ?_, ?_⟩
  · subst hbe
    refine ((KeepsFrom.of_below HBN.out).trans ⟨hT1.size, fun q o h1 h2 h3 => ?_⟩).trans (KeepsFrom.of_turns hT (fun q e => by omega))
    refine (hT1.block q (Array.getElem?_eq_some_iff.1 h2).1 fun e => ?_).trans h2
    have hrow := HR.out.below HBN.out (by omega)
    rcases hrow.2 with ⟨e1, _⟩ | ⟨g9, cap9, cur9, e1, _, h9, _⟩
    · rw [e1] at e; cases e
    · rw [e1] at e
      have : g9 = q := by injection e
      subst this
      rw [h9] at h2
      injection h2 with h2
      rw [← h2] at h3; cases h3
  · exact HO1.out.keep fun q hq => Below.heap_setCell _ _ _ _ (fun e => by
     have : g' = q := by injection hq
     rcases HW1.out with h1 | h1
     · have := hown g' h1; simp only at e; omega
     · simp only at e; omega)
  · exact hT.below (HBB.out.trans (hb1.mono (by omega))) (Nat.le_refl _) (fun q hq => by omega)
 case done =>
  rintro xs W hS ⟨v, hv, hrow, hB⟩ hK
  subst hS
  have HV := hZ hv
  have HR := hZ hrow
  have HBB := hZ hB
  have HKK := hZ hK
  have c0 := hv.cell
  clear hv hrow hB hK
  gi_wp2_with fail
  refine ⟨by simp, .inl ⟨_, _, rfl, run_takeDeferred HKK.out, ?_⟩⟩
  refine ⟨_, results_tmp rfl _ _ _, _, rfl, ?_, ?_⟩
  · have := HS7.out
    exact (HR.out.keep fun g hg => World.putObj_heap_other (by have := (HR.out.lt g hg).1; omega)).base (by omega)
  · have := HS7.out
    exact (Turns.putObj (Z := fun k => k = w7.heap.size) W _ _ rfl).below HBB.out (Nat.le_refl _) (fun k hk => by omega)
 case stop =>
  rintro c pre W _ h _
  exact h.elim
set_option maxHeartbeats 2000000 in
theorem collectE_walk (b1 b2 N : Nat) (L : List Ent) (Sp : List Ent → Prop) (w : World) (hI : IterZ Tryz.prog 127 #[.pointer (some ⟨b1, 0, none⟩), .pointer (some ⟨b2, 0, none⟩)] encE1 (fun _ => False) (Keeps (Old w)) (fun xs => xs = L) Sp N w) (hN : N ≤ 1000000) :
 Calls Tryz.prog 131 #[.func (.func 127) #[] #[.pointer (some ⟨b1, 0, none⟩), .pointer (some ⟨b2, 0, none⟩)]] w fun e w' => ∃ v, e = .returned v ∧ OL w' w.heap.size 33 18 Ent.cells v L ∧ Below w.heap.size w w' := by
 have HC := hZ (appendE_walk b1 b2 N L Sp w hI hN)
 clear hI hN
 go_enter Tryz.func131, Tryz.ntmps131
 go_wp2_with (go_at_call 171; refine HC.out.mono ?_; rintro e w' ⟨v, rfl, ho, hb⟩)
 go_ret
 exact ⟨v, rfl, ho, hb⟩
end Go.Proofs.YteeifhlhpiimoaaGreatDoor
end
section
namespace Go.Proofs.YteeifhlhpiimoaaGreatDoor
open Go Go.RowKit Go.Shelf Go.Sort
attribute [local go_sem] Oper.semAt_some
def cmpH (x y : Ent) : Int := orI (cmpZ' x.frm y.frm) (cmpZ' x.id y.id)
set_option maxHeartbeats 2000000 in
theorem hist1_walk (x y : Ent) (W : World) : Calls Tryz.prog 78 #[x.val, y.val] W fun e w' => e = .returned (.int .i64 (cmpH x y)) ∧ Grows W w' := by
 go_enter Tryz.func78, Tryz.ntmps78
 go_wp2_with (first
  | ((with_reducible refine box_entg rfl (.tmp 0) rfl x ?hx ?_); (case hx => rfl); intro w1 he1 hg1
     obtain ⟨b1, hb1⟩ := oQ (W.heap.size)
     rw [hb1] at he1
     rw [hb1]
     have HE1 := hZ he1
     have HG1 := hZ hg1
     clear he1 hg1 hb1)
  | ((with_reducible refine box_entg rfl (.tmp 1) rfl y ?hx ?_); (case hx => rfl); intro w2 he2 hg2
     have HX2 := hZ (HE1.out.below hg2.below)
     obtain ⟨b2, hb2⟩ := oQ (w1.heap.size)
     rw [hb2] at he2
     rw [hb2]
     have HE2 := hZ he2
     have HG2 := hZ (HG1.out.trans hg2)
     clear he2 hg2 hb2)
  | fail)
 obtain ⟨U, hU⟩ := oQ (w2.drew)
 have HGU : Hid (Grows W U) := hZ (by rw [← hU]; exact HG2.out.trans (Grows.drew _))
 have hE1 : EntAt U b1 x := by rw [← hU]; exact HX2.out
 have hE2 : EntAt U b2 y := by rw [← hU]; exact HE2.out
 have HLT : Hid (b1 < U.heap.size ∧ b2 < U.heap.size) := hZ ⟨(Array.getElem?_eq_some_iff.1 hE1).1, (Array.getElem?_eq_some_iff.1 hE2).1⟩
 have hS0 : w2.drew.cell? ⟨b1, 5, none⟩ = some (.int .i64 x.frm) ∧ w2.drew.cell? ⟨b2, 5, none⟩ = some (.int .i64 y.frm) ∧ w2.drew.cell? ⟨b1, 1, none⟩ = some (.int .i64 x.id) ∧ w2.drew.cell? ⟨b2, 1, none⟩ = some (.int .i64 y.id) := by
  rw [hU]
  exact ⟨hE1.cell (i := 5) rfl, hE2.cell (i := 5) rfl, hE1.cell (i := 1) rfl, hE2.cell (i := 1) rfl⟩
 clear hE1 hE2
 refine wp_region_noPanic ?_
 refine wp_region_held_drew (S := fun U => U.cell? ⟨b1, 5, none⟩ = some (.int .i64 x.frm) ∧ U.cell? ⟨b2, 5, none⟩ = some (.int .i64 y.frm) ∧ U.cell? ⟨b1, 1, none⟩ = some (.int .i64 x.id) ∧ U.cell? ⟨b2, 1, none⟩ = some (.int .i64 y.id)) (by kernel_rfl) hS0 (fun hHeld => ?_)
 rw [hU] at hHeld ⊢
 clear hU
 refine tk 0 ?_
 refine tk 1 ?_
 refine tk 2 ?_
 refine tk 3 ?_
 refine tk 5 ?_
 refine tk 6 ?_
 refine tk 7 ?_
 refine tk 8 ?_
 refine rd [4] ?_
 refine rcE fun K hK => ?_
 go_simp
 (with_reducible refine (cmp_walk _ _ _).mono ?_)
 rintro e7 w7 ⟨rfl, rfl⟩
 refine kk hK (hHeld) (fun hHeld => ?_)
 clear hK K
 refine rd [9] ?_
 refine rcE fun K hK => ?_
 go_simp
 (with_reducible refine (cmp_walk _ _ _).mono ?_)
 rintro e8 w8 ⟨rfl, rfl⟩
 refine kk hK (hHeld) (fun hHeld => ?_)
 clear hK K
 refine rd [10] ?_
 refine rcE fun K hK => ?_
 go_simp
 obtain ⟨bo, hbo⟩ := oQ (U.heap.size)
 obtain ⟨U1, hU1⟩ := oQ (U.alloc (.cells #[.int .i64 (cmpZ' x.frm y.frm), .int .i64 (cmpZ' x.id y.id)] 3))
 have hn1 : U1.heap[bo]? = some (.cells #[.int .i64 (cmpZ' x.frm y.frm), .int .i64 (cmpZ' x.id y.id)] 3 (0, 0)) := by rw [← hU1, ← hbo]; exact World.alloc_heap_new _ _
 have hb1 : Below U.heap.size U U1 := by rw [← hU1]; exact below_new _ _
 have hg1 : Grows W U1 := by rw [← hU1]; exact HGU.out.trans (Grows.alloc _ _)
 rw [hbo, hU1]
 have HN1 := hZ hn1
 have HG1 := hZ hg1
 have HS1 : Hid (U1.cell? ⟨b1, 5, none⟩ = some (.int .i64 x.frm) ∧ U1.cell? ⟨b2, 5, none⟩ = some (.int .i64 y.frm) ∧ U1.cell? ⟨b1, 1, none⟩ = some (.int .i64 x.id) ∧ U1.cell? ⟨b2, 1, none⟩ = some (.int .i64 y.id)) := hZ ⟨(hb1.cell HLT.out.1).trans hHeld.1, (hb1.cell HLT.out.2).trans hHeld.2.1, (hb1.cell HLT.out.1).trans hHeld.2.2.1, (hb1.cell HLT.out.2).trans hHeld.2.2.2⟩
 clear hbo hU1 hn1 hb1 hg1
 refine kk hK (HS1.out) (fun hHeld => ?_)
 clear hK K
 refine rd [11] ?_
 refine rcE fun K hK => ?_
 go_simp
 (with_reducible refine (or_walk bo 2 (cmpZ' x.frm y.frm) (cmpZ' x.id y.id) U1 (cells_i HN1.out rfl) (cells_i HN1.out rfl)).mono ?_)
 rintro e9 w9 ⟨rfl, rfl⟩
 refine kk hK (HS1.out) (fun hHeld => ?_)
 clear hK K
 refine tk 12 ?_
 refine dn ?_
 clear hHeld hS0
 go_wp2
 go_ret
 exact ⟨rfl, HG1.out⟩
theorem ltOf_hist (x y : Ent) : ltOf cmpH x y = byNum2 Ent.frm Ent.id x y := by
 unfold ltOf cmpH orI cmpZ' byNum2
 by_cases h1 : x.frm < y.frm
 · simp [h1]
 · by_cases h2 : y.frm < x.frm
   · have : ¬ x.frm = y.frm := by omega
     simp [h1, h2, this]
   · have h3 : x.frm = y.frm := by omega
     by_cases h4 : x.id < y.id
     · simp [h3, h4]
     · by_cases h5 : y.id < x.id <;> simp [h3, h4, h5]
theorem swo_hist : SWO (ltOf cmpH) where
 irrefl x := by rw [ltOf_hist]; simp [byNum2]
 trans x y z h1 h2 := by rw [ltOf_hist] at *; simp [byNum2] at *; omega
 ntrans x y z h1 h2 := by rw [ltOf_hist] at *; simp [byNum2] at *; omega
def histL (l : List Ent) : List Ent := (insertionSort (ltOf cmpH) l.toArray 0 l.length).toList
theorem histL_spec (l : List Ent) : (histL l).Perm l ∧ Up (ltOf cmpH) (histL l) ∧ (insertionSort (ltOf cmpH) l.toArray 0 l.length).size = l.length := by
 have h := insertionSort_holds swo_hist l.toArray 0 l.length (Nat.zero_le _) (by simp)
 have hp := perm_lists (d := l.toArray) (d' := insertionSort (ltOf cmpH) l.toArray 0 l.length) (by simpa using h.1)
 exact ⟨by unfold histL; simpa using hp.2, sorted_up (by simpa using hp.1.symm) h.2, by simpa using hp.1⟩
theorem insE_walk {w : World} {N : Nat} {v : Value} {l : List Ent} (h : OL w N 33 18 Ent.cells v l) (hl : l.length ≤ 1000000) :
 Calls Tryz.prog 156 #[v, .int .i64 0, .int .i64 l.length, .func (.func 78) #[] #[]] w fun r w' => r = .returned (.tuple #[]) ∧ OL w' N 33 18 Ent.cells v (histL l) ∧ Turns (fun q => v.ownBlock = some q) w w' := by
 rcases h.2 with ⟨he, hz⟩ | ⟨b, cap, cur, he, hb, hc, h4, h5, h6, h7⟩
 · subst he
   have : l = [] := List.eq_nil_of_length_eq_zero hz
   subst this
   have hn := AnyF.insertionSortCmpFunc_none (P := Tryz.prog) { Tryz.sortEnt with } none 0 (.func (.func 78) #[] #[]) w
   refine Calls.mono (show Calls Tryz.prog 156 _ _ _ from hn) fun e w' q => ?_
   have h0 : histL [] = [] := List.Perm.eq_nil (histL_spec []).1
   rw [q.2, h0]
   exact ⟨q.1, h, Turns.refl _ _⟩
 · subst he
   have hcl : CmpLays Tryz.prog 78 #[] Ent.cells 18 cmpH b 0 l.toArray.size w := fun m os dk hs x y => (hist1_walk x y _).mono fun e w' q => ⟨q.1, q.2⟩
   have hs := AnyQ.insertionSortCmpFunc (P := Tryz.prog) (α := Ent) { Tryz.sortEnt with } 18 Tryz.isAgg33 Tryz.sizeOf33 Ent.cells (fun _ => rfl) (fun x => one_cells' x) cmpH 78 #[] b 0 cap 0 l.length l.toArray w
    (enters_of Tryz.func78 (by kernel_rfl) rfl) hcl (row_holds (f := Ent.cells) (k := 18) (by decide) (fun _ => rfl) h) ((Array.getElem?_eq_some_iff.1 hc).1) (Nat.zero_le _) (by simp) (by simp; omega)
   rw [List.size_toArray] at hs
   refine Calls.mono (show Calls Tryz.prog 156 _ _ _ from hs) fun e w' q => ?_
   obtain ⟨rfl, m, os, rfl⟩ := q
   refine ⟨rfl, sorted_ol (f := Ent.cells) (k := 18) (by decide) (fun _ => rfl) h _ (histL_spec l).2.2 os, (sorted_block hc _ os).2.mono fun q hq => ?_⟩
   subst hq; rfl
set_option maxHeartbeats 2000000 in
theorem stable_walk {w : World} {N : Nat} {v : Value} {l : List Ent} (h : OL w N 33 18 Ent.cells v l) (hl : l.length < 20) :
 Calls Tryz.prog 172 #[v, .int .i64 l.length, .func (.func 78) #[] #[]] w fun r w' => r = .returned (.tuple #[]) ∧ OL w' N 33 18 Ent.cells v (histL l) ∧ Turns (fun q => v.ownBlock = some q) w w' := by
 have HW := hZ (insE_walk h (by omega))
 obtain ⟨n, hn⟩ := oQ (l.length)
 rw [hn] at HW hl ⊢
 clear h hn
 go_enter Tryz.func172, Tryz.ntmps172
 go_wp2
 refine wp_loop_rounds 1 ?_
 rw [rounds_succ]
 have d1 : decide (20 ≤ n) = false := by simp; omega
 have d2 : decide (20 < n) = false := by simp; omega
 go_wp2_with (go_at_call 156; (with_reducible refine HW.out.mono ?_); rintro e1 w1 ⟨rfl, ho1, ht1⟩; have HO := hZ ho1; have HT := hZ ht1; clear ho1 ht1)
 refine wp_loop_rounds 1 ?_
 rw [rounds_succ]
 go_wp2
 go_end0
 exact ⟨rfl, HO.out, HT.out⟩
set_option maxHeartbeats 2000000 in
theorem sortStable_walk {w : World} {N : Nat} {v : Value} {l : List Ent} (h : OL w N 33 18 Ent.cells v l) (hl : l.length < 20) :
 Calls Tryz.prog 132 #[v, .func (.func 78) #[] #[]] w fun r w' => r = .returned (.tuple #[]) ∧ OL w' N 33 18 Ent.cells v (histL l) ∧ Turns (fun q => v.ownBlock = some q) w w' := by
 obtain ⟨A, c, rfl, -, -⟩ := h.slice
 have HW := hZ (stable_walk h hl)
 obtain ⟨n, hn⟩ := oQ (l.length)
 rw [hn] at HW ⊢
 clear h hn hl
 go_enter Tryz.func132, Tryz.ntmps132
 go_wp2_with (go_at_call 172; (with_reducible refine HW.out.mono ?_); rintro e1 w1 ⟨rfl, ho1, ht1⟩)
 go_end0
 exact ⟨rfl, ho1, ht1⟩
set_option maxHeartbeats 2000000 in
theorem sortedStable_walk (b1 b2 N : Nat) (L : List Ent) (Sp : List Ent → Prop) (w : World) (hI : IterZ Tryz.prog 127 #[.pointer (some ⟨b1, 0, none⟩), .pointer (some ⟨b2, 0, none⟩)] encE1 (fun _ => False) (Keeps (Old w)) (fun xs => xs = L) Sp N w) (hN : N ≤ 1000000) (hL : L.length < 20) :
 Calls Tryz.prog 77 #[.func (.func 127) #[] #[.pointer (some ⟨b1, 0, none⟩), .pointer (some ⟨b2, 0, none⟩)], .func (.func 78) #[] #[]] w fun e w' => ∃ v, e = .returned v ∧ OL w' w.heap.size 33 18 Ent.cells v (histL L) ∧ Below w.heap.size w w' := by
 have HC := hZ (collectE_walk b1 b2 N L Sp w hI hN)
 clear hI hN
 go_enter Tryz.func77, Tryz.ntmps77
 go_wp2_with (first
  | (go_at_call 131; (with_reducible refine HC.out.mono ?_); rintro e1 w1 ⟨v1, rfl, ho1, hb1⟩; have HO := hZ ho1; have HB := hZ hb1; clear ho1 hb1)
  | (go_at_call 132; (with_reducible refine (sortStable_walk HO.out hL).mono ?_); rintro e2 w2 ⟨rfl, ho2, ht2⟩; have HO2 := hZ ho2; have HT2 := hZ ht2; clear ho2 ht2)
  | fail)
 go_ret
 exact ⟨v1, rfl, HO2.out, HT2.out.below HB.out (Nat.le_refl _) (fun q hq => (HO.out.lt q hq).1)⟩
end Go.Proofs.YteeifhlhpiimoaaGreatDoor
end
section
namespace Go.Proofs.YteeifhlhpiimoaaGreatDoor
open Go Go.RowKit Go.Shelf
attribute [local go_sem] Oper.semAt_some
def budgetE (l : List Ent) (p : Int) : Ent := (l.filter fun e => decide (e.item = p)).headD zeroE
set_option maxRecDepth 100000 in
set_option maxHeartbeats 4000000 in
theorem wrong_walk (B : Bas) (p t : Int) (w : World) (hB : BasAt w (Old w) B) : Calls Tryz.prog 25 #[B.val, .int .i64 p, .int .i64 t] w (ValP w ((B.ls 3).any fun e => decide (e.item = p) && (decide (e.frm ≤ t) && decide (t ≤ e.til)))) := by
 have HB := hZ hB
 have IE := fun e : Ent => hZ (ientry (e := e))
 clear hB
 go_enter Tryz.func25, Tryz.ntmps25
 go_wp2
 have HF0 := hZ (At.start w)
 obtain ⟨b0, w0, q1, q2, q3, hf, hs0⟩ := HF0.out.alloc2 (.cells B.cells.toArray 36)
 rw [q1, q2]
 have HF0 := hZ hf
 have Hb0 := hZ q3
 clear hf q1 q2 q3
 clear hs0
 have HF := hZ HF0.out.drew
 clear HF0
 refine wp_region_noPanic ?_
 refine wp_region_held_drew (S := fun U => U.cell? ⟨b0, 3, none⟩ = some (.slice (B.ad 3) (B.ls 3).length (B.cp 3))) (by kernel_rfl) (At.cell HF.out (b := b0) (cs := B.cells.toArray) (t := 36) (i := 3) (by simp) rfl) (fun hHeld => ?_)
 obtain ⟨U0, hU0⟩ := oQ (w0.drew)
 rw [hU0] at HF hHeld ⊢
 clear hU0
 refine tk 0 ?_
 refine tk 1 ?_
 refine tk 2 ?_
 refine tk 4 ?_
 refine rd [3, 12] ?_
 refine rc (fun K hK => ?_) ?_
 ·
  go_simp
  (with_reducible refine (about_at (p) HF.out).mono ?_)
  rintro e1 V1 ⟨ba, rfl, HF1⟩
  have HF := hZ HF1
  clear HF1
  refine kk hK (At.cell HF.out (b := b0) (cs := B.cells.toArray) (t := 36) (i := 3) (by simp) rfl) (fun hHeld => ?_)
  clear hK K
  refine rd [5, 12] ?_
  refine rc (fun K hK => ?_) ?_
  ·
   go_simp
   (with_reducible refine (holds_at (t) HF.out).mono ?_)
   rintro e1 V2 ⟨bh, rfl, HF1⟩
   have HF := hZ HF1
   clear HF1
   refine kk hK (At.cell HF.out (b := b0) (cs := B.cells.toArray) (t := 36) (i := 3) (by simp) rfl) (fun hHeld => ?_)
   clear hK K
   refine rd [6, 12] ?_
   refine rc (fun K hK => ?_) ?_
   ·
    go_simp
    obtain ⟨bc, V3, q1, q2, -, HF1⟩ := HF.out.alloc (.cells #[.func (.func 129) #[] #[.pointer (some ⟨ba, 0, none⟩)], .func (.func 130) #[] #[.pointer (some ⟨bh, 0, none⟩)]] 45)
    rw [q1, q2]
    have HF := hZ HF1
    clear HF1 q1 q2
    refine kk hK (At.cell HF.out (b := b0) (cs := B.cells.toArray) (t := 36) (i := 3) (by simp) rfl) (fun hHeld => ?_)
    clear hK K
    refine rd [7, 12] ?_
    refine rc (fun K hK => ?_) ?_
    ·
     go_simp
     (with_reducible refine (where_at (B.ad 3) (B.ls 3).length (B.cp 3) (some ⟨bc, 0, none⟩) 2 2 HF.out).mono ?_)
     rintro e1 V4 ⟨b1, b2, rfl, HF1⟩
     have HF := hZ HF1
     clear HF1
     refine kk hK (At.cell HF.out (b := b0) (cs := B.cells.toArray) (t := 36) (i := 3) (by simp) rfl) (fun hHeld => ?_)
     clear hK K
     refine rd [8, 12] ?_
     refine rc (fun K hK => ?_) ?_
     ·
      go_simp
      (with_reducible refine (first_at HF.out [⟨129, #[.pointer (some ⟨ba, 0, none⟩)], fun e => decide (e.item = p)⟩, ⟨130, #[.pointer (some ⟨bh, 0, none⟩)], fun e => decide (e.frm ≤ t) && decide (t ≤ e.til)⟩] (B.ls 3) (B.ad 3) (some ⟨bc, 0, none⟩) _ (B.cp 3) 2 2 b1 b2 rfl (Nat.le_trans (HB.out.cap 3 (by decide)).1 (HB.out.cap 3 (by decide)).2) rfl (by decide) (by simp) (by simp) (HB.out.at_ 3 (by decide)) bc rfl 45 (by simp [CndD.val]) ?hc).mono ?_)
      case hc => intro c hc; simp only [List.mem_cons, List.not_mem_nil, or_false] at hc; rcases hc with rfl | rfl; (exact HF.out.about (by simp)); (exact HF.out.holds (by simp))
      rintro e1 V5 ⟨rfl, HF1⟩
      have HF := hZ HF1
      unfold firstR
      obtain ⟨ev, hev⟩ := oQ ((List.filter (allP [⟨129, #[.pointer (some ⟨ba, 0, none⟩)], fun e => decide (e.item = p)⟩, ⟨130, #[.pointer (some ⟨bh, 0, none⟩)], fun e => decide (e.frm ≤ t) && decide (t ≤ e.til)⟩]) (B.ls 3)).headD zeroE)
      obtain ⟨qv, hqv⟩ := oQ ((!(List.filter (allP [⟨129, #[.pointer (some ⟨ba, 0, none⟩)], fun e => decide (e.item = p)⟩, ⟨130, #[.pointer (some ⟨bh, 0, none⟩)], fun e => decide (e.frm ≤ t) && decide (t ≤ e.til)⟩]) (B.ls 3)).isEmpty))
      rw [hev, hqv]
      have HEV := hZ hev
      have HQV := hZ hqv
      clear HF1 hev hqv
      refine kk hK (At.cell HF.out (b := b0) (cs := B.cells.toArray) (t := 36) (i := 3) (by simp) rfl) (fun hHeld => ?_)
      clear hK K
      refine tk 9 ?_
      refine tk 10 ?_
      refine tk 11 ?_
      refine rd [12] ?_
      refine rcE fun K hK => ?_
      go_simp
      obtain ⟨bv, V6, q1, q2, q3, HF1⟩ := HF.out.alloc (.cells zeroE.cells.toArray 33)
      have q2' : V6 = V6 := rfl
      simp only [zeroE, Ent.cells] at q2
      rw [q1, q2]
      have HF := hZ HF1
      have HV := hZ q3
      clear HF1 q1 q2 q2' q3
      refine kk hK (At.cell HF.out (b := b0) (cs := B.cells.toArray) (t := 36) (i := 3) (by simp) rfl) (fun hHeld => ?_)
      clear hK K
      refine rd [13] ?_
      refine rcE fun K hK => ?_
      refine step_store_at (by rfl) (.tmp 7) (.tmp 19) (by rfl) (by rfl) bv ev (by rfl) (by rfl) (IE _).out HF.out HV.out (by simp [zeroE, Ent.cells]) ?_
      intro V7 hb7 he7 hk7
      have HST := hZ (And.intro hb7 he7)
      have HK7 := hZ hk7
      clear hb7 he7 hk7
      refine kk hK (cells_i (HK7.out b0 B.cells.toArray 36 (by simp) (by decide)) (i := 3) rfl) (fun hHeld => ?_)
      clear hK K
      refine tk 14 ?_
      refine dn ?_
      clear hHeld
      go_wp2
      go_ret
      have hq : qv = (B.ls 3).any fun e => decide (e.item = p) && (decide (e.frm ≤ t) && decide (t ≤ e.til)) := by rw [← HQV.out, any_first]; congr 1; funext e; simp [allP]
      rw [← hq]
      exact ⟨rfl, HST.out.1⟩
     refine rcE fun K hK => ?_
     go_simp
     obtain ⟨bv, V6, q1, q2, q3, HF1⟩ := HF.out.alloc (.cells zeroE.cells.toArray 33)
     have q2' : V6 = V6 := rfl
     simp only [zeroE, Ent.cells] at q2
     rw [q1, q2]
     have HF := hZ HF1
     have HV := hZ q3
     clear HF1 q1 q2 q2' q3
     refine kk hK (At.cell HF.out (b := b0) (cs := B.cells.toArray) (t := 36) (i := 3) (by simp) rfl) (fun hHeld => ?_)
     clear hK K
     refine rd [8] ?_
     refine rcE fun K hK => ?_
     go_simp
     (with_reducible refine (first_at HF.out [⟨129, #[.pointer (some ⟨ba, 0, none⟩)], fun e => decide (e.item = p)⟩, ⟨130, #[.pointer (some ⟨bh, 0, none⟩)], fun e => decide (e.frm ≤ t) && decide (t ≤ e.til)⟩] (B.ls 3) (B.ad 3) (some ⟨bc, 0, none⟩) _ (B.cp 3) 2 2 b1 b2 rfl (Nat.le_trans (HB.out.cap 3 (by decide)).1 (HB.out.cap 3 (by decide)).2) rfl (by decide) (by simp) (by simp) (HB.out.at_ 3 (by decide)) bc rfl 45 (by simp [CndD.val]) ?hc).mono ?_)
     case hc => intro c hc; simp only [List.mem_cons, List.not_mem_nil, or_false] at hc; rcases hc with rfl | rfl; (exact HF.out.about (by simp)); (exact HF.out.holds (by simp))
     rintro e1 V5 ⟨rfl, HF1⟩
     have HF := hZ HF1
     unfold firstR
     obtain ⟨ev, hev⟩ := oQ ((List.filter (allP [⟨129, #[.pointer (some ⟨ba, 0, none⟩)], fun e => decide (e.item = p)⟩, ⟨130, #[.pointer (some ⟨bh, 0, none⟩)], fun e => decide (e.frm ≤ t) && decide (t ≤ e.til)⟩]) (B.ls 3)).headD zeroE)
     obtain ⟨qv, hqv⟩ := oQ ((!(List.filter (allP [⟨129, #[.pointer (some ⟨ba, 0, none⟩)], fun e => decide (e.item = p)⟩, ⟨130, #[.pointer (some ⟨bh, 0, none⟩)], fun e => decide (e.frm ≤ t) && decide (t ≤ e.til)⟩]) (B.ls 3)).isEmpty))
     rw [hev, hqv]
     have HEV := hZ hev
     have HQV := hZ hqv
     clear HF1 hev hqv
     refine kk hK (At.cell HF.out (b := b0) (cs := B.cells.toArray) (t := 36) (i := 3) (by simp) rfl) (fun hHeld => ?_)
     clear hK K
     refine tk 9 ?_
     refine tk 10 ?_
     refine tk 11 ?_
     refine rd [13] ?_
     refine rcE fun K hK => ?_
     refine step_store_at (by rfl) (.tmp 7) (.tmp 19) (by rfl) (by rfl) bv ev (by rfl) (by rfl) (IE _).out HF.out HV.out (by simp [zeroE, Ent.cells]) ?_
     intro V7 hb7 he7 hk7
     have HST := hZ (And.intro hb7 he7)
     have HK7 := hZ hk7
     clear hb7 he7 hk7
     refine kk hK (cells_i (HK7.out b0 B.cells.toArray 36 (by simp) (by decide)) (i := 3) rfl) (fun hHeld => ?_)
     clear hK K
     refine tk 14 ?_
     refine dn ?_
     clear hHeld
     go_wp2
     go_ret
     have hq : qv = (B.ls 3).any fun e => decide (e.item = p) && (decide (e.frm ≤ t) && decide (t ≤ e.til)) := by rw [← HQV.out, any_first]; congr 1; funext e; simp [allP]
     rw [← hq]
     exact ⟨rfl, HST.out.1⟩
    refine rcE fun K hK => ?_
    go_simp
    obtain ⟨bv, V6, q1, q2, q3, HF1⟩ := HF.out.alloc (.cells zeroE.cells.toArray 33)
    have q2' : V6 = V6 := rfl
    simp only [zeroE, Ent.cells] at q2
    rw [q1, q2]
    have HF := hZ HF1
    have HV := hZ q3
    clear HF1 q1 q2 q2' q3
    refine kk hK (At.cell HF.out (b := b0) (cs := B.cells.toArray) (t := 36) (i := 3) (by simp) rfl) (fun hHeld => ?_)
    clear hK K
    refine rd [7] ?_
    refine rcE fun K hK => ?_
    go_simp
    (with_reducible refine (where_at (B.ad 3) (B.ls 3).length (B.cp 3) (some ⟨bc, 0, none⟩) 2 2 HF.out).mono ?_)
    rintro e1 V4 ⟨b1, b2, rfl, HF1⟩
    have HF := hZ HF1
    clear HF1
    refine kk hK (At.cell HF.out (b := b0) (cs := B.cells.toArray) (t := 36) (i := 3) (by simp) rfl) (fun hHeld => ?_)
    clear hK K
    refine rd [8] ?_
    refine rcE fun K hK => ?_
    go_simp
    (with_reducible refine (first_at HF.out [⟨129, #[.pointer (some ⟨ba, 0, none⟩)], fun e => decide (e.item = p)⟩, ⟨130, #[.pointer (some ⟨bh, 0, none⟩)], fun e => decide (e.frm ≤ t) && decide (t ≤ e.til)⟩] (B.ls 3) (B.ad 3) (some ⟨bc, 0, none⟩) _ (B.cp 3) 2 2 b1 b2 rfl (Nat.le_trans (HB.out.cap 3 (by decide)).1 (HB.out.cap 3 (by decide)).2) rfl (by decide) (by simp) (by simp) (HB.out.at_ 3 (by decide)) bc rfl 45 (by simp [CndD.val]) ?hc).mono ?_)
    case hc => intro c hc; simp only [List.mem_cons, List.not_mem_nil, or_false] at hc; rcases hc with rfl | rfl; (exact HF.out.about (by simp)); (exact HF.out.holds (by simp))
    rintro e1 V5 ⟨rfl, HF1⟩
    have HF := hZ HF1
    unfold firstR
    obtain ⟨ev, hev⟩ := oQ ((List.filter (allP [⟨129, #[.pointer (some ⟨ba, 0, none⟩)], fun e => decide (e.item = p)⟩, ⟨130, #[.pointer (some ⟨bh, 0, none⟩)], fun e => decide (e.frm ≤ t) && decide (t ≤ e.til)⟩]) (B.ls 3)).headD zeroE)
    obtain ⟨qv, hqv⟩ := oQ ((!(List.filter (allP [⟨129, #[.pointer (some ⟨ba, 0, none⟩)], fun e => decide (e.item = p)⟩, ⟨130, #[.pointer (some ⟨bh, 0, none⟩)], fun e => decide (e.frm ≤ t) && decide (t ≤ e.til)⟩]) (B.ls 3)).isEmpty))
    rw [hev, hqv]
    have HEV := hZ hev
    have HQV := hZ hqv
    clear HF1 hev hqv
    refine kk hK (At.cell HF.out (b := b0) (cs := B.cells.toArray) (t := 36) (i := 3) (by simp) rfl) (fun hHeld => ?_)
    clear hK K
    refine tk 9 ?_
    refine tk 10 ?_
    refine tk 11 ?_
    refine rd [13] ?_
    refine rcE fun K hK => ?_
    refine step_store_at (by rfl) (.tmp 7) (.tmp 19) (by rfl) (by rfl) bv ev (by rfl) (by rfl) (IE _).out HF.out HV.out (by simp [zeroE, Ent.cells]) ?_
    intro V7 hb7 he7 hk7
    have HST := hZ (And.intro hb7 he7)
    have HK7 := hZ hk7
    clear hb7 he7 hk7
    refine kk hK (cells_i (HK7.out b0 B.cells.toArray 36 (by simp) (by decide)) (i := 3) rfl) (fun hHeld => ?_)
    clear hK K
    refine tk 14 ?_
    refine dn ?_
    clear hHeld
    go_wp2
    go_ret
    have hq : qv = (B.ls 3).any fun e => decide (e.item = p) && (decide (e.frm ≤ t) && decide (t ≤ e.til)) := by rw [← HQV.out, any_first]; congr 1; funext e; simp [allP]
    rw [← hq]
    exact ⟨rfl, HST.out.1⟩
   refine rcE fun K hK => ?_
   go_simp
   obtain ⟨bv, V6, q1, q2, q3, HF1⟩ := HF.out.alloc (.cells zeroE.cells.toArray 33)
   have q2' : V6 = V6 := rfl
   simp only [zeroE, Ent.cells] at q2
   rw [q1, q2]
   have HF := hZ HF1
   have HV := hZ q3
   clear HF1 q1 q2 q2' q3
   refine kk hK (At.cell HF.out (b := b0) (cs := B.cells.toArray) (t := 36) (i := 3) (by simp) rfl) (fun hHeld => ?_)
   clear hK K
   refine rd [6] ?_
   refine rcE fun K hK => ?_
   go_simp
   obtain ⟨bc, V3, q1, q2, -, HF1⟩ := HF.out.alloc (.cells #[.func (.func 129) #[] #[.pointer (some ⟨ba, 0, none⟩)], .func (.func 130) #[] #[.pointer (some ⟨bh, 0, none⟩)]] 45)
   rw [q1, q2]
   have HF := hZ HF1
   clear HF1 q1 q2
   refine kk hK (At.cell HF.out (b := b0) (cs := B.cells.toArray) (t := 36) (i := 3) (by simp) rfl) (fun hHeld => ?_)
   clear hK K
   refine rd [7] ?_
   refine rcE fun K hK => ?_
   go_simp
   (with_reducible refine (where_at (B.ad 3) (B.ls 3).length (B.cp 3) (some ⟨bc, 0, none⟩) 2 2 HF.out).mono ?_)
   rintro e1 V4 ⟨b1, b2, rfl, HF1⟩
   have HF := hZ HF1
   clear HF1
   refine kk hK (At.cell HF.out (b := b0) (cs := B.cells.toArray) (t := 36) (i := 3) (by simp) rfl) (fun hHeld => ?_)
   clear hK K
   refine rd [8] ?_
   refine rcE fun K hK => ?_
   go_simp
   (with_reducible refine (first_at HF.out [⟨129, #[.pointer (some ⟨ba, 0, none⟩)], fun e => decide (e.item = p)⟩, ⟨130, #[.pointer (some ⟨bh, 0, none⟩)], fun e => decide (e.frm ≤ t) && decide (t ≤ e.til)⟩] (B.ls 3) (B.ad 3) (some ⟨bc, 0, none⟩) _ (B.cp 3) 2 2 b1 b2 rfl (Nat.le_trans (HB.out.cap 3 (by decide)).1 (HB.out.cap 3 (by decide)).2) rfl (by decide) (by simp) (by simp) (HB.out.at_ 3 (by decide)) bc rfl 45 (by simp [CndD.val]) ?hc).mono ?_)
   case hc => intro c hc; simp only [List.mem_cons, List.not_mem_nil, or_false] at hc; rcases hc with rfl | rfl; (exact HF.out.about (by simp)); (exact HF.out.holds (by simp))
   rintro e1 V5 ⟨rfl, HF1⟩
   have HF := hZ HF1
   unfold firstR
   obtain ⟨ev, hev⟩ := oQ ((List.filter (allP [⟨129, #[.pointer (some ⟨ba, 0, none⟩)], fun e => decide (e.item = p)⟩, ⟨130, #[.pointer (some ⟨bh, 0, none⟩)], fun e => decide (e.frm ≤ t) && decide (t ≤ e.til)⟩]) (B.ls 3)).headD zeroE)
   obtain ⟨qv, hqv⟩ := oQ ((!(List.filter (allP [⟨129, #[.pointer (some ⟨ba, 0, none⟩)], fun e => decide (e.item = p)⟩, ⟨130, #[.pointer (some ⟨bh, 0, none⟩)], fun e => decide (e.frm ≤ t) && decide (t ≤ e.til)⟩]) (B.ls 3)).isEmpty))
   rw [hev, hqv]
   have HEV := hZ hev
   have HQV := hZ hqv
   clear HF1 hev hqv
   refine kk hK (At.cell HF.out (b := b0) (cs := B.cells.toArray) (t := 36) (i := 3) (by simp) rfl) (fun hHeld => ?_)
   clear hK K
   refine tk 9 ?_
   refine tk 10 ?_
   refine tk 11 ?_
   refine rd [13] ?_
   refine rcE fun K hK => ?_
   refine step_store_at (by rfl) (.tmp 7) (.tmp 19) (by rfl) (by rfl) bv ev (by rfl) (by rfl) (IE _).out HF.out HV.out (by simp [zeroE, Ent.cells]) ?_
   intro V7 hb7 he7 hk7
   have HST := hZ (And.intro hb7 he7)
   have HK7 := hZ hk7
   clear hb7 he7 hk7
   refine kk hK (cells_i (HK7.out b0 B.cells.toArray 36 (by simp) (by decide)) (i := 3) rfl) (fun hHeld => ?_)
   clear hK K
   refine tk 14 ?_
   refine dn ?_
   clear hHeld
   go_wp2
   go_ret
   have hq : qv = (B.ls 3).any fun e => decide (e.item = p) && (decide (e.frm ≤ t) && decide (t ≤ e.til)) := by rw [← HQV.out, any_first]; congr 1; funext e; simp [allP]
   rw [← hq]
   exact ⟨rfl, HST.out.1⟩
  refine rcE fun K hK => ?_
  go_simp
  obtain ⟨bv, V6, q1, q2, q3, HF1⟩ := HF.out.alloc (.cells zeroE.cells.toArray 33)
  have q2' : V6 = V6 := rfl
  simp only [zeroE, Ent.cells] at q2
  rw [q1, q2]
  have HF := hZ HF1
  have HV := hZ q3
  clear HF1 q1 q2 q2' q3
  refine kk hK (At.cell HF.out (b := b0) (cs := B.cells.toArray) (t := 36) (i := 3) (by simp) rfl) (fun hHeld => ?_)
  clear hK K
  refine rd [5] ?_
  refine rcE fun K hK => ?_
  go_simp
  (with_reducible refine (holds_at (t) HF.out).mono ?_)
  rintro e1 V2 ⟨bh, rfl, HF1⟩
  have HF := hZ HF1
  clear HF1
  refine kk hK (At.cell HF.out (b := b0) (cs := B.cells.toArray) (t := 36) (i := 3) (by simp) rfl) (fun hHeld => ?_)
  clear hK K
  refine rd [6] ?_
  refine rcE fun K hK => ?_
  go_simp
  obtain ⟨bc, V3, q1, q2, -, HF1⟩ := HF.out.alloc (.cells #[.func (.func 129) #[] #[.pointer (some ⟨ba, 0, none⟩)], .func (.func 130) #[] #[.pointer (some ⟨bh, 0, none⟩)]] 45)
  rw [q1, q2]
  have HF := hZ HF1
  clear HF1 q1 q2
  refine kk hK (At.cell HF.out (b := b0) (cs := B.cells.toArray) (t := 36) (i := 3) (by simp) rfl) (fun hHeld => ?_)
  clear hK K
  refine rd [7] ?_
  refine rcE fun K hK => ?_
  go_simp
  (with_reducible refine (where_at (B.ad 3) (B.ls 3).length (B.cp 3) (some ⟨bc, 0, none⟩) 2 2 HF.out).mono ?_)
  rintro e1 V4 ⟨b1, b2, rfl, HF1⟩
  have HF := hZ HF1
  clear HF1
  refine kk hK (At.cell HF.out (b := b0) (cs := B.cells.toArray) (t := 36) (i := 3) (by simp) rfl) (fun hHeld => ?_)
  clear hK K
  refine rd [8] ?_
  refine rcE fun K hK => ?_
  go_simp
  (with_reducible refine (first_at HF.out [⟨129, #[.pointer (some ⟨ba, 0, none⟩)], fun e => decide (e.item = p)⟩, ⟨130, #[.pointer (some ⟨bh, 0, none⟩)], fun e => decide (e.frm ≤ t) && decide (t ≤ e.til)⟩] (B.ls 3) (B.ad 3) (some ⟨bc, 0, none⟩) _ (B.cp 3) 2 2 b1 b2 rfl (Nat.le_trans (HB.out.cap 3 (by decide)).1 (HB.out.cap 3 (by decide)).2) rfl (by decide) (by simp) (by simp) (HB.out.at_ 3 (by decide)) bc rfl 45 (by simp [CndD.val]) ?hc).mono ?_)
  case hc => intro c hc; simp only [List.mem_cons, List.not_mem_nil, or_false] at hc; rcases hc with rfl | rfl; (exact HF.out.about (by simp)); (exact HF.out.holds (by simp))
  rintro e1 V5 ⟨rfl, HF1⟩
  have HF := hZ HF1
  unfold firstR
  obtain ⟨ev, hev⟩ := oQ ((List.filter (allP [⟨129, #[.pointer (some ⟨ba, 0, none⟩)], fun e => decide (e.item = p)⟩, ⟨130, #[.pointer (some ⟨bh, 0, none⟩)], fun e => decide (e.frm ≤ t) && decide (t ≤ e.til)⟩]) (B.ls 3)).headD zeroE)
  obtain ⟨qv, hqv⟩ := oQ ((!(List.filter (allP [⟨129, #[.pointer (some ⟨ba, 0, none⟩)], fun e => decide (e.item = p)⟩, ⟨130, #[.pointer (some ⟨bh, 0, none⟩)], fun e => decide (e.frm ≤ t) && decide (t ≤ e.til)⟩]) (B.ls 3)).isEmpty))
  rw [hev, hqv]
  have HEV := hZ hev
  have HQV := hZ hqv
  clear HF1 hev hqv
  refine kk hK (At.cell HF.out (b := b0) (cs := B.cells.toArray) (t := 36) (i := 3) (by simp) rfl) (fun hHeld => ?_)
  clear hK K
  refine tk 9 ?_
  refine tk 10 ?_
  refine tk 11 ?_
  refine rd [13] ?_
  refine rcE fun K hK => ?_
  refine step_store_at (by rfl) (.tmp 7) (.tmp 19) (by rfl) (by rfl) bv ev (by rfl) (by rfl) (IE _).out HF.out HV.out (by simp [zeroE, Ent.cells]) ?_
  intro V7 hb7 he7 hk7
  have HST := hZ (And.intro hb7 he7)
  have HK7 := hZ hk7
  clear hb7 he7 hk7
  refine kk hK (cells_i (HK7.out b0 B.cells.toArray 36 (by simp) (by decide)) (i := 3) rfl) (fun hHeld => ?_)
  clear hK K
  refine tk 14 ?_
  refine dn ?_
  clear hHeld
  go_wp2
  go_ret
  have hq : qv = (B.ls 3).any fun e => decide (e.item = p) && (decide (e.frm ≤ t) && decide (t ≤ e.til)) := by rw [← HQV.out, any_first]; congr 1; funext e; simp [allP]
  rw [← hq]
  exact ⟨rfl, HST.out.1⟩
 refine rcE fun K hK => ?_
 go_simp
 obtain ⟨bv, V6, q1, q2, q3, HF1⟩ := HF.out.alloc (.cells zeroE.cells.toArray 33)
 have q2' : V6 = V6 := rfl
 simp only [zeroE, Ent.cells] at q2
 rw [q1, q2]
 have HF := hZ HF1
 have HV := hZ q3
 clear HF1 q1 q2 q2' q3
 refine kk hK (At.cell HF.out (b := b0) (cs := B.cells.toArray) (t := 36) (i := 3) (by simp) rfl) (fun hHeld => ?_)
 clear hK K
 refine rd [3] ?_
 refine rcE fun K hK => ?_
 go_simp
 (with_reducible refine (about_at (p) HF.out).mono ?_)
 rintro e1 V1 ⟨ba, rfl, HF1⟩
 have HF := hZ HF1
 clear HF1
 refine kk hK (At.cell HF.out (b := b0) (cs := B.cells.toArray) (t := 36) (i := 3) (by simp) rfl) (fun hHeld => ?_)
 clear hK K
 refine rd [5] ?_
 refine rcE fun K hK => ?_
 go_simp
 (with_reducible refine (holds_at (t) HF.out).mono ?_)
 rintro e1 V2 ⟨bh, rfl, HF1⟩
 have HF := hZ HF1
 clear HF1
 refine kk hK (At.cell HF.out (b := b0) (cs := B.cells.toArray) (t := 36) (i := 3) (by simp) rfl) (fun hHeld => ?_)
 clear hK K
 refine rd [6] ?_
 refine rcE fun K hK => ?_
 go_simp
 obtain ⟨bc, V3, q1, q2, -, HF1⟩ := HF.out.alloc (.cells #[.func (.func 129) #[] #[.pointer (some ⟨ba, 0, none⟩)], .func (.func 130) #[] #[.pointer (some ⟨bh, 0, none⟩)]] 45)
 rw [q1, q2]
 have HF := hZ HF1
 clear HF1 q1 q2
 refine kk hK (At.cell HF.out (b := b0) (cs := B.cells.toArray) (t := 36) (i := 3) (by simp) rfl) (fun hHeld => ?_)
 clear hK K
 refine rd [7] ?_
 refine rcE fun K hK => ?_
 go_simp
 (with_reducible refine (where_at (B.ad 3) (B.ls 3).length (B.cp 3) (some ⟨bc, 0, none⟩) 2 2 HF.out).mono ?_)
 rintro e1 V4 ⟨b1, b2, rfl, HF1⟩
 have HF := hZ HF1
 clear HF1
 refine kk hK (At.cell HF.out (b := b0) (cs := B.cells.toArray) (t := 36) (i := 3) (by simp) rfl) (fun hHeld => ?_)
 clear hK K
 refine rd [8] ?_
 refine rcE fun K hK => ?_
 go_simp
 (with_reducible refine (first_at HF.out [⟨129, #[.pointer (some ⟨ba, 0, none⟩)], fun e => decide (e.item = p)⟩, ⟨130, #[.pointer (some ⟨bh, 0, none⟩)], fun e => decide (e.frm ≤ t) && decide (t ≤ e.til)⟩] (B.ls 3) (B.ad 3) (some ⟨bc, 0, none⟩) _ (B.cp 3) 2 2 b1 b2 rfl (Nat.le_trans (HB.out.cap 3 (by decide)).1 (HB.out.cap 3 (by decide)).2) rfl (by decide) (by simp) (by simp) (HB.out.at_ 3 (by decide)) bc rfl 45 (by simp [CndD.val]) ?hc).mono ?_)
 case hc => intro c hc; simp only [List.mem_cons, List.not_mem_nil, or_false] at hc; rcases hc with rfl | rfl; (exact HF.out.about (by simp)); (exact HF.out.holds (by simp))
 rintro e1 V5 ⟨rfl, HF1⟩
 have HF := hZ HF1
 unfold firstR
 obtain ⟨ev, hev⟩ := oQ ((List.filter (allP [⟨129, #[.pointer (some ⟨ba, 0, none⟩)], fun e => decide (e.item = p)⟩, ⟨130, #[.pointer (some ⟨bh, 0, none⟩)], fun e => decide (e.frm ≤ t) && decide (t ≤ e.til)⟩]) (B.ls 3)).headD zeroE)
 obtain ⟨qv, hqv⟩ := oQ ((!(List.filter (allP [⟨129, #[.pointer (some ⟨ba, 0, none⟩)], fun e => decide (e.item = p)⟩, ⟨130, #[.pointer (some ⟨bh, 0, none⟩)], fun e => decide (e.frm ≤ t) && decide (t ≤ e.til)⟩]) (B.ls 3)).isEmpty))
 rw [hev, hqv]
 have HEV := hZ hev
 have HQV := hZ hqv
 clear HF1 hev hqv
 refine kk hK (At.cell HF.out (b := b0) (cs := B.cells.toArray) (t := 36) (i := 3) (by simp) rfl) (fun hHeld => ?_)
 clear hK K
 refine tk 9 ?_
 refine tk 10 ?_
 refine tk 11 ?_
 refine rd [13] ?_
 refine rcE fun K hK => ?_
 refine step_store_at (by rfl) (.tmp 7) (.tmp 19) (by rfl) (by rfl) bv ev (by rfl) (by rfl) (IE _).out HF.out HV.out (by simp [zeroE, Ent.cells]) ?_
 intro V7 hb7 he7 hk7
 have HST := hZ (And.intro hb7 he7)
 have HK7 := hZ hk7
 clear hb7 he7 hk7
 refine kk hK (cells_i (HK7.out b0 B.cells.toArray 36 (by simp) (by decide)) (i := 3) rfl) (fun hHeld => ?_)
 clear hK K
 refine tk 14 ?_
 refine dn ?_
 clear hHeld
 go_wp2
 go_ret
 have hq : qv = (B.ls 3).any fun e => decide (e.item = p) && (decide (e.frm ≤ t) && decide (t ≤ e.til)) := by rw [← HQV.out, any_first]; congr 1; funext e; simp [allP]
 rw [← hq]
 exact ⟨rfl, HST.out.1⟩
set_option maxRecDepth 100000 in
set_option maxHeartbeats 4000000 in
theorem budget_walk (B : Bas) (p : Int) (w : World) (hB : BasAt w (Old w) B) : Calls Tryz.prog 24 #[B.val, .int .i64 p] w (fun e w' => e = .returned (.tuple #[.agg #[.string (budgetE (B.ls 7) p).rn, .string (budgetE (B.ls 7) p).rd], .bool ((B.ls 7).any fun e => decide (e.item = p))]) ∧ Below w.heap.size w w') := by
 have HB := hZ hB
 have IE := fun e : Ent => hZ (ientry (e := e))
 clear hB
 go_enter Tryz.func24, Tryz.ntmps24
 go_wp2
 have HF0 := hZ (At.start w)
 obtain ⟨b0, w0, q1, q2, q3, hf, hs0⟩ := HF0.out.alloc2 (.cells B.cells.toArray 36)
 rw [q1, q2]
 have HF0 := hZ hf
 have Hb0 := hZ q3
 clear hf q1 q2 q3
 obtain ⟨b4, w1, q1, q2, q3, hf, hs1⟩ := HF0.out.alloc2 (.cells #[.string ⟨#[]⟩, .string ⟨#[]⟩] 29)
 rw [hs0] at q1
 rw [q1, q2]
 have HF0 := hZ hf
 have Hb4 := hZ q3
 clear hf q1 q2 q3 hs0
 clear hs1
 have HF := hZ HF0.out.drew
 clear HF0
 refine wp_region_noPanic ?_
 refine wp_region_held_drew (S := fun U => U.cell? ⟨b0, 7, none⟩ = some (.slice (B.ad 7) (B.ls 7).length (B.cp 7))) (by kernel_rfl) (At.cell HF.out (b := b0) (cs := B.cells.toArray) (t := 36) (i := 7) (by simp) rfl) (fun hHeld => ?_)
 obtain ⟨U0, hU0⟩ := oQ (w1.drew)
 rw [hU0] at HF hHeld ⊢
 clear hU0
 refine tk 0 ?_
 refine tk 1 ?_
 refine tk 2 ?_
 refine rd [3, 10] ?_
 refine rc (fun K hK => ?_) ?_
 ·
  go_simp
  (with_reducible refine (about_at (p) HF.out).mono ?_)
  rintro e1 V1 ⟨ba, rfl, HF1⟩
  have HF := hZ HF1
  clear HF1
  refine kk hK (At.cell HF.out (b := b0) (cs := B.cells.toArray) (t := 36) (i := 7) (by simp) rfl) (fun hHeld => ?_)
  clear hK K
  refine rd [4, 10] ?_
  refine rc (fun K hK => ?_) ?_
  ·
   go_simp
   obtain ⟨bc, V3, q1, q2, -, HF1⟩ := HF.out.alloc (.cells #[.func (.func 129) #[] #[.pointer (some ⟨ba, 0, none⟩)]] 45)
   rw [q1, q2]
   have HF := hZ HF1
   clear HF1 q1 q2
   refine kk hK (At.cell HF.out (b := b0) (cs := B.cells.toArray) (t := 36) (i := 7) (by simp) rfl) (fun hHeld => ?_)
   clear hK K
   refine rd [5, 10] ?_
   refine rc (fun K hK => ?_) ?_
   ·
    go_simp
    (with_reducible refine (where_at (B.ad 7) (B.ls 7).length (B.cp 7) (some ⟨bc, 0, none⟩) 1 1 HF.out).mono ?_)
    rintro e1 V4 ⟨b1, b2, rfl, HF1⟩
    have HF := hZ HF1
    clear HF1
    refine kk hK (At.cell HF.out (b := b0) (cs := B.cells.toArray) (t := 36) (i := 7) (by simp) rfl) (fun hHeld => ?_)
    clear hK K
    refine rd [6, 10] ?_
    refine rc (fun K hK => ?_) ?_
    ·
     go_simp
     (with_reducible refine (first_at HF.out [⟨129, #[.pointer (some ⟨ba, 0, none⟩)], fun e => decide (e.item = p)⟩] (B.ls 7) (B.ad 7) (some ⟨bc, 0, none⟩) _ (B.cp 7) 1 1 b1 b2 rfl (Nat.le_trans (HB.out.cap 7 (by decide)).1 (HB.out.cap 7 (by decide)).2) rfl (by decide) (by simp) (by simp) (HB.out.at_ 7 (by decide)) bc rfl 45 (by simp [CndD.val]) ?hc).mono ?_)
     case hc => intro c hc; simp only [List.mem_cons, List.not_mem_nil, or_false] at hc; obtain rfl := hc; exact HF.out.about (by simp)
     rintro e1 V5 ⟨rfl, HF1⟩
     have HF := hZ HF1
     unfold firstR
     obtain ⟨ev, hev⟩ := oQ ((List.filter (allP [⟨129, #[.pointer (some ⟨ba, 0, none⟩)], fun e => decide (e.item = p)⟩]) (B.ls 7)).headD zeroE)
     obtain ⟨qv, hqv⟩ := oQ ((!(List.filter (allP [⟨129, #[.pointer (some ⟨ba, 0, none⟩)], fun e => decide (e.item = p)⟩]) (B.ls 7)).isEmpty))
     rw [hev, hqv]
     have HEV := hZ hev
     have HQV := hZ hqv
     clear HF1 hev hqv
     refine kk hK (At.cell HF.out (b := b0) (cs := B.cells.toArray) (t := 36) (i := 7) (by simp) rfl) (fun hHeld => ?_)
     clear hK K
     refine tk 7 ?_
     refine tk 8 ?_
     refine tk 9 ?_
     refine rd [10] ?_
     refine rcE fun K hK => ?_
     go_simp
     obtain ⟨bv, V6, q1, q2, q3, HF1⟩ := HF.out.alloc (.cells zeroE.cells.toArray 33)
     have q2' : V6 = V6 := rfl
     simp only [zeroE, Ent.cells] at q2
     rw [q1, q2]
     have HF := hZ HF1
     have HV := hZ q3
     clear HF1 q1 q2 q2' q3
     refine kk hK (At.cell HF.out (b := b0) (cs := B.cells.toArray) (t := 36) (i := 7) (by simp) rfl) (fun hHeld => ?_)
     clear hK K
     refine rd [11] ?_
     refine rcE fun K hK => ?_
     refine step_store_at (by rfl) (.tmp 6) (.tmp 16) (by rfl) (by rfl) bv ev (by rfl) (by rfl) (IE _).out HF.out HV.out (by simp [zeroE, Ent.cells]) ?_
     intro V7 hb7 he7 hk7
     have HST := hZ (And.intro hb7 he7)
     have HK7 := hZ hk7
     clear hb7 he7 hk7
     refine kk hK (cells_i (HK7.out b0 B.cells.toArray 36 (by simp) (by decide)) (i := 7) rfl) (fun hHeld => ?_)
     clear hK K
     refine tk 12 ?_
     refine dn ?_
     have HB4 := hZ (HK7.out b4 #[.string ⟨#[]⟩, .string ⟨#[]⟩] 29 (by simp) (by decide))
     have x1 := HST.out.2.cell (i := 15) rfl
     have x2 := HST.out.2.cell (i := 16) rfl
     have y1 := cells_i (i := 0) HB4.out rfl
     have y2 := cells_i (i := 1) HB4.out rfl
     have f1 := cells_free HB4.out 0
     have f2 := cells_free HB4.out 1
     clear hHeld
     go_wp2
     have hq : qv = (B.ls 7).any fun e => decide (e.item = p) := by rw [← HQV.out, any_first]; congr 1; funext e; simp [allP]
     have he : ev = budgetE (B.ls 7) p := by rw [← HEV.out]; unfold budgetE; congr 2; funext e; simp [allP]
     rw [← hq, ← he]
     have hR := put2 HB4.out (.string ev.rn) (.string ev.rd)
     refine bodyPost_ret (results_celltmp rfl _ _ b4 [.string ev.rn, .string ev.rd] _ rfl (range_of hR) Tryz.underlying29 rfl (by kernel_rfl)) rfl ?_
     exact ⟨rfl, below_put2 HST.out.1 Hb4.out _ _⟩
    refine rcE fun K hK => ?_
    go_simp
    obtain ⟨bv, V6, q1, q2, q3, HF1⟩ := HF.out.alloc (.cells zeroE.cells.toArray 33)
    have q2' : V6 = V6 := rfl
    simp only [zeroE, Ent.cells] at q2
    rw [q1, q2]
    have HF := hZ HF1
    have HV := hZ q3
    clear HF1 q1 q2 q2' q3
    refine kk hK (At.cell HF.out (b := b0) (cs := B.cells.toArray) (t := 36) (i := 7) (by simp) rfl) (fun hHeld => ?_)
    clear hK K
    refine rd [6] ?_
    refine rcE fun K hK => ?_
    go_simp
    (with_reducible refine (first_at HF.out [⟨129, #[.pointer (some ⟨ba, 0, none⟩)], fun e => decide (e.item = p)⟩] (B.ls 7) (B.ad 7) (some ⟨bc, 0, none⟩) _ (B.cp 7) 1 1 b1 b2 rfl (Nat.le_trans (HB.out.cap 7 (by decide)).1 (HB.out.cap 7 (by decide)).2) rfl (by decide) (by simp) (by simp) (HB.out.at_ 7 (by decide)) bc rfl 45 (by simp [CndD.val]) ?hc).mono ?_)
    case hc => intro c hc; simp only [List.mem_cons, List.not_mem_nil, or_false] at hc; obtain rfl := hc; exact HF.out.about (by simp)
    rintro e1 V5 ⟨rfl, HF1⟩
    have HF := hZ HF1
    unfold firstR
    obtain ⟨ev, hev⟩ := oQ ((List.filter (allP [⟨129, #[.pointer (some ⟨ba, 0, none⟩)], fun e => decide (e.item = p)⟩]) (B.ls 7)).headD zeroE)
    obtain ⟨qv, hqv⟩ := oQ ((!(List.filter (allP [⟨129, #[.pointer (some ⟨ba, 0, none⟩)], fun e => decide (e.item = p)⟩]) (B.ls 7)).isEmpty))
    rw [hev, hqv]
    have HEV := hZ hev
    have HQV := hZ hqv
    clear HF1 hev hqv
    refine kk hK (At.cell HF.out (b := b0) (cs := B.cells.toArray) (t := 36) (i := 7) (by simp) rfl) (fun hHeld => ?_)
    clear hK K
    refine tk 7 ?_
    refine tk 8 ?_
    refine tk 9 ?_
    refine rd [11] ?_
    refine rcE fun K hK => ?_
    refine step_store_at (by rfl) (.tmp 6) (.tmp 16) (by rfl) (by rfl) bv ev (by rfl) (by rfl) (IE _).out HF.out HV.out (by simp [zeroE, Ent.cells]) ?_
    intro V7 hb7 he7 hk7
    have HST := hZ (And.intro hb7 he7)
    have HK7 := hZ hk7
    clear hb7 he7 hk7
    refine kk hK (cells_i (HK7.out b0 B.cells.toArray 36 (by simp) (by decide)) (i := 7) rfl) (fun hHeld => ?_)
    clear hK K
    refine tk 12 ?_
    refine dn ?_
    have HB4 := hZ (HK7.out b4 #[.string ⟨#[]⟩, .string ⟨#[]⟩] 29 (by simp) (by decide))
    have x1 := HST.out.2.cell (i := 15) rfl
    have x2 := HST.out.2.cell (i := 16) rfl
    have y1 := cells_i (i := 0) HB4.out rfl
    have y2 := cells_i (i := 1) HB4.out rfl
    have f1 := cells_free HB4.out 0
    have f2 := cells_free HB4.out 1
    clear hHeld
    go_wp2
    have hq : qv = (B.ls 7).any fun e => decide (e.item = p) := by rw [← HQV.out, any_first]; congr 1; funext e; simp [allP]
    have he : ev = budgetE (B.ls 7) p := by rw [← HEV.out]; unfold budgetE; congr 2; funext e; simp [allP]
    rw [← hq, ← he]
    have hR := put2 HB4.out (.string ev.rn) (.string ev.rd)
    refine bodyPost_ret (results_celltmp rfl _ _ b4 [.string ev.rn, .string ev.rd] _ rfl (range_of hR) Tryz.underlying29 rfl (by kernel_rfl)) rfl ?_
    exact ⟨rfl, below_put2 HST.out.1 Hb4.out _ _⟩
   refine rcE fun K hK => ?_
   go_simp
   obtain ⟨bv, V6, q1, q2, q3, HF1⟩ := HF.out.alloc (.cells zeroE.cells.toArray 33)
   have q2' : V6 = V6 := rfl
   simp only [zeroE, Ent.cells] at q2
   rw [q1, q2]
   have HF := hZ HF1
   have HV := hZ q3
   clear HF1 q1 q2 q2' q3
   refine kk hK (At.cell HF.out (b := b0) (cs := B.cells.toArray) (t := 36) (i := 7) (by simp) rfl) (fun hHeld => ?_)
   clear hK K
   refine rd [5] ?_
   refine rcE fun K hK => ?_
   go_simp
   (with_reducible refine (where_at (B.ad 7) (B.ls 7).length (B.cp 7) (some ⟨bc, 0, none⟩) 1 1 HF.out).mono ?_)
   rintro e1 V4 ⟨b1, b2, rfl, HF1⟩
   have HF := hZ HF1
   clear HF1
   refine kk hK (At.cell HF.out (b := b0) (cs := B.cells.toArray) (t := 36) (i := 7) (by simp) rfl) (fun hHeld => ?_)
   clear hK K
   refine rd [6] ?_
   refine rcE fun K hK => ?_
   go_simp
   (with_reducible refine (first_at HF.out [⟨129, #[.pointer (some ⟨ba, 0, none⟩)], fun e => decide (e.item = p)⟩] (B.ls 7) (B.ad 7) (some ⟨bc, 0, none⟩) _ (B.cp 7) 1 1 b1 b2 rfl (Nat.le_trans (HB.out.cap 7 (by decide)).1 (HB.out.cap 7 (by decide)).2) rfl (by decide) (by simp) (by simp) (HB.out.at_ 7 (by decide)) bc rfl 45 (by simp [CndD.val]) ?hc).mono ?_)
   case hc => intro c hc; simp only [List.mem_cons, List.not_mem_nil, or_false] at hc; obtain rfl := hc; exact HF.out.about (by simp)
   rintro e1 V5 ⟨rfl, HF1⟩
   have HF := hZ HF1
   unfold firstR
   obtain ⟨ev, hev⟩ := oQ ((List.filter (allP [⟨129, #[.pointer (some ⟨ba, 0, none⟩)], fun e => decide (e.item = p)⟩]) (B.ls 7)).headD zeroE)
   obtain ⟨qv, hqv⟩ := oQ ((!(List.filter (allP [⟨129, #[.pointer (some ⟨ba, 0, none⟩)], fun e => decide (e.item = p)⟩]) (B.ls 7)).isEmpty))
   rw [hev, hqv]
   have HEV := hZ hev
   have HQV := hZ hqv
   clear HF1 hev hqv
   refine kk hK (At.cell HF.out (b := b0) (cs := B.cells.toArray) (t := 36) (i := 7) (by simp) rfl) (fun hHeld => ?_)
   clear hK K
   refine tk 7 ?_
   refine tk 8 ?_
   refine tk 9 ?_
   refine rd [11] ?_
   refine rcE fun K hK => ?_
   refine step_store_at (by rfl) (.tmp 6) (.tmp 16) (by rfl) (by rfl) bv ev (by rfl) (by rfl) (IE _).out HF.out HV.out (by simp [zeroE, Ent.cells]) ?_
   intro V7 hb7 he7 hk7
   have HST := hZ (And.intro hb7 he7)
   have HK7 := hZ hk7
   clear hb7 he7 hk7
   refine kk hK (cells_i (HK7.out b0 B.cells.toArray 36 (by simp) (by decide)) (i := 7) rfl) (fun hHeld => ?_)
   clear hK K
   refine tk 12 ?_
   refine dn ?_
   have HB4 := hZ (HK7.out b4 #[.string ⟨#[]⟩, .string ⟨#[]⟩] 29 (by simp) (by decide))
   have x1 := HST.out.2.cell (i := 15) rfl
   have x2 := HST.out.2.cell (i := 16) rfl
   have y1 := cells_i (i := 0) HB4.out rfl
   have y2 := cells_i (i := 1) HB4.out rfl
   have f1 := cells_free HB4.out 0
   have f2 := cells_free HB4.out 1
   clear hHeld
   go_wp2
   have hq : qv = (B.ls 7).any fun e => decide (e.item = p) := by rw [← HQV.out, any_first]; congr 1; funext e; simp [allP]
   have he : ev = budgetE (B.ls 7) p := by rw [← HEV.out]; unfold budgetE; congr 2; funext e; simp [allP]
   rw [← hq, ← he]
   have hR := put2 HB4.out (.string ev.rn) (.string ev.rd)
   refine bodyPost_ret (results_celltmp rfl _ _ b4 [.string ev.rn, .string ev.rd] _ rfl (range_of hR) Tryz.underlying29 rfl (by kernel_rfl)) rfl ?_
   exact ⟨rfl, below_put2 HST.out.1 Hb4.out _ _⟩
  refine rcE fun K hK => ?_
  go_simp
  obtain ⟨bv, V6, q1, q2, q3, HF1⟩ := HF.out.alloc (.cells zeroE.cells.toArray 33)
  have q2' : V6 = V6 := rfl
  simp only [zeroE, Ent.cells] at q2
  rw [q1, q2]
  have HF := hZ HF1
  have HV := hZ q3
  clear HF1 q1 q2 q2' q3
  refine kk hK (At.cell HF.out (b := b0) (cs := B.cells.toArray) (t := 36) (i := 7) (by simp) rfl) (fun hHeld => ?_)
  clear hK K
  refine rd [4] ?_
  refine rcE fun K hK => ?_
  go_simp
  obtain ⟨bc, V3, q1, q2, -, HF1⟩ := HF.out.alloc (.cells #[.func (.func 129) #[] #[.pointer (some ⟨ba, 0, none⟩)]] 45)
  rw [q1, q2]
  have HF := hZ HF1
  clear HF1 q1 q2
  refine kk hK (At.cell HF.out (b := b0) (cs := B.cells.toArray) (t := 36) (i := 7) (by simp) rfl) (fun hHeld => ?_)
  clear hK K
  refine rd [5] ?_
  refine rcE fun K hK => ?_
  go_simp
  (with_reducible refine (where_at (B.ad 7) (B.ls 7).length (B.cp 7) (some ⟨bc, 0, none⟩) 1 1 HF.out).mono ?_)
  rintro e1 V4 ⟨b1, b2, rfl, HF1⟩
  have HF := hZ HF1
  clear HF1
  refine kk hK (At.cell HF.out (b := b0) (cs := B.cells.toArray) (t := 36) (i := 7) (by simp) rfl) (fun hHeld => ?_)
  clear hK K
  refine rd [6] ?_
  refine rcE fun K hK => ?_
  go_simp
  (with_reducible refine (first_at HF.out [⟨129, #[.pointer (some ⟨ba, 0, none⟩)], fun e => decide (e.item = p)⟩] (B.ls 7) (B.ad 7) (some ⟨bc, 0, none⟩) _ (B.cp 7) 1 1 b1 b2 rfl (Nat.le_trans (HB.out.cap 7 (by decide)).1 (HB.out.cap 7 (by decide)).2) rfl (by decide) (by simp) (by simp) (HB.out.at_ 7 (by decide)) bc rfl 45 (by simp [CndD.val]) ?hc).mono ?_)
  case hc => intro c hc; simp only [List.mem_cons, List.not_mem_nil, or_false] at hc; obtain rfl := hc; exact HF.out.about (by simp)
  rintro e1 V5 ⟨rfl, HF1⟩
  have HF := hZ HF1
  unfold firstR
  obtain ⟨ev, hev⟩ := oQ ((List.filter (allP [⟨129, #[.pointer (some ⟨ba, 0, none⟩)], fun e => decide (e.item = p)⟩]) (B.ls 7)).headD zeroE)
  obtain ⟨qv, hqv⟩ := oQ ((!(List.filter (allP [⟨129, #[.pointer (some ⟨ba, 0, none⟩)], fun e => decide (e.item = p)⟩]) (B.ls 7)).isEmpty))
  rw [hev, hqv]
  have HEV := hZ hev
  have HQV := hZ hqv
  clear HF1 hev hqv
  refine kk hK (At.cell HF.out (b := b0) (cs := B.cells.toArray) (t := 36) (i := 7) (by simp) rfl) (fun hHeld => ?_)
  clear hK K
  refine tk 7 ?_
  refine tk 8 ?_
  refine tk 9 ?_
  refine rd [11] ?_
  refine rcE fun K hK => ?_
  refine step_store_at (by rfl) (.tmp 6) (.tmp 16) (by rfl) (by rfl) bv ev (by rfl) (by rfl) (IE _).out HF.out HV.out (by simp [zeroE, Ent.cells]) ?_
  intro V7 hb7 he7 hk7
  have HST := hZ (And.intro hb7 he7)
  have HK7 := hZ hk7
  clear hb7 he7 hk7
  refine kk hK (cells_i (HK7.out b0 B.cells.toArray 36 (by simp) (by decide)) (i := 7) rfl) (fun hHeld => ?_)
  clear hK K
  refine tk 12 ?_
  refine dn ?_
  have HB4 := hZ (HK7.out b4 #[.string ⟨#[]⟩, .string ⟨#[]⟩] 29 (by simp) (by decide))
  have x1 := HST.out.2.cell (i := 15) rfl
  have x2 := HST.out.2.cell (i := 16) rfl
  have y1 := cells_i (i := 0) HB4.out rfl
  have y2 := cells_i (i := 1) HB4.out rfl
  have f1 := cells_free HB4.out 0
  have f2 := cells_free HB4.out 1
  clear hHeld
  go_wp2
  have hq : qv = (B.ls 7).any fun e => decide (e.item = p) := by rw [← HQV.out, any_first]; congr 1; funext e; simp [allP]
  have he : ev = budgetE (B.ls 7) p := by rw [← HEV.out]; unfold budgetE; congr 2; funext e; simp [allP]
  rw [← hq, ← he]
  have hR := put2 HB4.out (.string ev.rn) (.string ev.rd)
  refine bodyPost_ret (results_celltmp rfl _ _ b4 [.string ev.rn, .string ev.rd] _ rfl (range_of hR) Tryz.underlying29 rfl (by kernel_rfl)) rfl ?_
  exact ⟨rfl, below_put2 HST.out.1 Hb4.out _ _⟩
 refine rcE fun K hK => ?_
 go_simp
 obtain ⟨bv, V6, q1, q2, q3, HF1⟩ := HF.out.alloc (.cells zeroE.cells.toArray 33)
 have q2' : V6 = V6 := rfl
 simp only [zeroE, Ent.cells] at q2
 rw [q1, q2]
 have HF := hZ HF1
 have HV := hZ q3
 clear HF1 q1 q2 q2' q3
 refine kk hK (At.cell HF.out (b := b0) (cs := B.cells.toArray) (t := 36) (i := 7) (by simp) rfl) (fun hHeld => ?_)
 clear hK K
 refine rd [3] ?_
 refine rcE fun K hK => ?_
 go_simp
 (with_reducible refine (about_at (p) HF.out).mono ?_)
 rintro e1 V1 ⟨ba, rfl, HF1⟩
 have HF := hZ HF1
 clear HF1
 refine kk hK (At.cell HF.out (b := b0) (cs := B.cells.toArray) (t := 36) (i := 7) (by simp) rfl) (fun hHeld => ?_)
 clear hK K
 refine rd [4] ?_
 refine rcE fun K hK => ?_
 go_simp
 obtain ⟨bc, V3, q1, q2, -, HF1⟩ := HF.out.alloc (.cells #[.func (.func 129) #[] #[.pointer (some ⟨ba, 0, none⟩)]] 45)
 rw [q1, q2]
 have HF := hZ HF1
 clear HF1 q1 q2
 refine kk hK (At.cell HF.out (b := b0) (cs := B.cells.toArray) (t := 36) (i := 7) (by simp) rfl) (fun hHeld => ?_)
 clear hK K
 refine rd [5] ?_
 refine rcE fun K hK => ?_
 go_simp
 (with_reducible refine (where_at (B.ad 7) (B.ls 7).length (B.cp 7) (some ⟨bc, 0, none⟩) 1 1 HF.out).mono ?_)
 rintro e1 V4 ⟨b1, b2, rfl, HF1⟩
 have HF := hZ HF1
 clear HF1
 refine kk hK (At.cell HF.out (b := b0) (cs := B.cells.toArray) (t := 36) (i := 7) (by simp) rfl) (fun hHeld => ?_)
 clear hK K
 refine rd [6] ?_
 refine rcE fun K hK => ?_
 go_simp
 (with_reducible refine (first_at HF.out [⟨129, #[.pointer (some ⟨ba, 0, none⟩)], fun e => decide (e.item = p)⟩] (B.ls 7) (B.ad 7) (some ⟨bc, 0, none⟩) _ (B.cp 7) 1 1 b1 b2 rfl (Nat.le_trans (HB.out.cap 7 (by decide)).1 (HB.out.cap 7 (by decide)).2) rfl (by decide) (by simp) (by simp) (HB.out.at_ 7 (by decide)) bc rfl 45 (by simp [CndD.val]) ?hc).mono ?_)
 case hc => intro c hc; simp only [List.mem_cons, List.not_mem_nil, or_false] at hc; obtain rfl := hc; exact HF.out.about (by simp)
 rintro e1 V5 ⟨rfl, HF1⟩
 have HF := hZ HF1
 unfold firstR
 obtain ⟨ev, hev⟩ := oQ ((List.filter (allP [⟨129, #[.pointer (some ⟨ba, 0, none⟩)], fun e => decide (e.item = p)⟩]) (B.ls 7)).headD zeroE)
 obtain ⟨qv, hqv⟩ := oQ ((!(List.filter (allP [⟨129, #[.pointer (some ⟨ba, 0, none⟩)], fun e => decide (e.item = p)⟩]) (B.ls 7)).isEmpty))
 rw [hev, hqv]
 have HEV := hZ hev
 have HQV := hZ hqv
 clear HF1 hev hqv
 refine kk hK (At.cell HF.out (b := b0) (cs := B.cells.toArray) (t := 36) (i := 7) (by simp) rfl) (fun hHeld => ?_)
 clear hK K
 refine tk 7 ?_
 refine tk 8 ?_
 refine tk 9 ?_
 refine rd [11] ?_
 refine rcE fun K hK => ?_
 refine step_store_at (by rfl) (.tmp 6) (.tmp 16) (by rfl) (by rfl) bv ev (by rfl) (by rfl) (IE _).out HF.out HV.out (by simp [zeroE, Ent.cells]) ?_
 intro V7 hb7 he7 hk7
 have HST := hZ (And.intro hb7 he7)
 have HK7 := hZ hk7
 clear hb7 he7 hk7
 refine kk hK (cells_i (HK7.out b0 B.cells.toArray 36 (by simp) (by decide)) (i := 7) rfl) (fun hHeld => ?_)
 clear hK K
 refine tk 12 ?_
 refine dn ?_
 have HB4 := hZ (HK7.out b4 #[.string ⟨#[]⟩, .string ⟨#[]⟩] 29 (by simp) (by decide))
 have x1 := HST.out.2.cell (i := 15) rfl
 have x2 := HST.out.2.cell (i := 16) rfl
 have y1 := cells_i (i := 0) HB4.out rfl
 have y2 := cells_i (i := 1) HB4.out rfl
 have f1 := cells_free HB4.out 0
 have f2 := cells_free HB4.out 1
 clear hHeld
 go_wp2
 have hq : qv = (B.ls 7).any fun e => decide (e.item = p) := by rw [← HQV.out, any_first]; congr 1; funext e; simp [allP]
 have he : ev = budgetE (B.ls 7) p := by rw [← HEV.out]; unfold budgetE; congr 2; funext e; simp [allP]
 rw [← hq, ← he]
 have hR := put2 HB4.out (.string ev.rn) (.string ev.rd)
 refine bodyPost_ret (results_celltmp rfl _ _ b4 [.string ev.rn, .string ev.rd] _ rfl (range_of hR) Tryz.underlying29 rfl (by kernel_rfl)) rfl ?_
 exact ⟨rfl, below_put2 HST.out.1 Hb4.out _ _⟩
end Go.Proofs.YteeifhlhpiimoaaGreatDoor
end
