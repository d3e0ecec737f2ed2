/-
  Contract of known.Faults where at most one fault is about the item. Conditions: the list's bound. Contracts of slices.AppendSeq, slices.Collect at an iterator of entries. Conditions: the iterator's contract, at most 1000000 elements. Known's comparison of points; slices.SortedStableFunc of fewer than 20 entries. Conditions: each contract's own.
-/
import Derived.Test.YteeifhlhpiimoaaGreatDoorSAa
import Derived.Test.YteeifhlhpiimoaaGreatDoorSAl
import Derived.Test.YteeifhlhpiimoaaGreatDoorSAj
import Derived.Test.YteeifhlhpiimoaaGreatDoorSAk
import Derived.Shelf.SlSortCmp.InsertionK
section
namespace Go.Proofs.YteeifhlhpiimoaaGreatDoor
open Go Go.RowKit Go.Shelf Go.Sort
attribute [local go_sem] Oper.semAt_some
structure Sus where
  item : Int
  frm : Int
  til : Int
def susC (s : Sus) : List Value := [.int .i64 s.item, .int .i64 s.frm, .int .i64 s.til]
def susOf (e : Ent) : Sus := ⟨e.item, e.frm, e.til⟩
instance susInh : Inhabited Sus := ⟨⟨0, 0, 0⟩⟩
theorem elemSus : Elem Tryz.prog 61 75 3 24 := Elem.mk' (z := .agg #[.int .i64 0, .int .i64 0, .int .i64 0]) Tryz.underlying61 (by kernel_rfl) rfl (by decide)
def cmpS (x y : Sus) : Int := orI (cmpZ' x.frm y.frm) (cmpZ' x.til y.til)
set_option maxHeartbeats 2000000 in
theorem faults1_walk (x y : Sus) (W : World) : Calls Tryz.prog 80 #[.agg #[.int .i64 x.item, .int .i64 x.frm, .int .i64 x.til], .agg #[.int .i64 y.item, .int .i64 y.frm, .int .i64 y.til]] W fun e w' => e = .returned (.int .i64 (cmpS x y)) ∧ Grows W w' := by
  go_enter Tryz.func80, Tryz.ntmps80
  go_wp2_with fail
  have HF0 := Lib.hid (At.start W)
  obtain ⟨b1, w0, q1, q2, q3, hf0, hs0⟩ := HF0.out.alloc2 (.cells #[.int .i64 x.item, .int .i64 x.frm, .int .i64 x.til] 75)
  obtain ⟨b2, w1, r1, r2, r3, hf1, hs1⟩ := hf0.alloc2 (.cells #[.int .i64 y.item, .int .i64 y.frm, .int .i64 y.til] 75)
  rw [hs0] at r1
  have hg1 : Grows W w1 := by rw [← r2, ← q2]; exact (Grows.alloc _ _).trans (Grows.alloc _ _)
  rw [q1, q2, r1, r2]
  obtain ⟨U, hU⟩ : ∃ U, w1.drew = U := ⟨_, rfl⟩
  have hf := hf1.drew
  rw [hU] at hf
  have HF := Lib.hid hf
  have HGU : Hid (Grows W U) := Lib.hid (by rw [← hU]; exact hg1.trans (Grows.drew _))
  have HLT : Hid (b1 < U.heap.size ∧ b2 < U.heap.size) := Lib.hid ⟨hf.lt (b := b1) (o := .cells #[.int .i64 x.item, .int .i64 x.frm, .int .i64 x.til] 75 (0, 0)) (by simp), hf.lt (b := b2) (o := .cells #[.int .i64 y.item, .int .i64 y.frm, .int .i64 y.til] 75 (0, 0)) (by simp)⟩
  have hS0 : w1.drew.cell? ⟨b1, 1, none⟩ = some (.int .i64 x.frm) ∧ w1.drew.cell? ⟨b2, 1, none⟩ = some (.int .i64 y.frm) ∧ w1.drew.cell? ⟨b1, 2, none⟩ = some (.int .i64 x.til) ∧ w1.drew.cell? ⟨b2, 2, none⟩ = some (.int .i64 y.til) := by
    rw [hU]
    exact ⟨HF.out.cell (cs := #[.int .i64 x.item, .int .i64 x.frm, .int .i64 x.til]) (t := 75) (by simp) rfl, HF.out.cell (cs := #[.int .i64 y.item, .int .i64 y.frm, .int .i64 y.til]) (t := 75) (by simp) rfl, HF.out.cell (cs := #[.int .i64 x.item, .int .i64 x.frm, .int .i64 x.til]) (t := 75) (by simp) rfl, HF.out.cell (cs := #[.int .i64 y.item, .int .i64 y.frm, .int .i64 y.til]) (t := 75) (by simp) rfl⟩
  clear HF0 q1 q2 q3 hf0 hs0 r1 r2 r3 hf1 hs1 hg1 hf
  refine wp_region_noPanic ?_
  refine wp_region_held_drew (S := fun U => U.cell? ⟨b1, 1, none⟩ = some (.int .i64 x.frm) ∧ U.cell? ⟨b2, 1, none⟩ = some (.int .i64 y.frm) ∧ U.cell? ⟨b1, 2, none⟩ = some (.int .i64 x.til) ∧ U.cell? ⟨b2, 2, none⟩ = some (.int .i64 y.til)) (by kernel_rfl) hS0 (fun hHeld => ?_)
  rw [hU] at hHeld ⊢
  clear hU
  refine tk 0 ?_
  refine tk 1 ?_
  refine tk 2 ?_
  refine tk 3 ?_
  refine tk 5 ?_
  refine tk 6 ?_
  refine tk 7 ?_
  refine tk 8 ?_
  refine rd [4] ?_
  refine rc (fun K hK => ?_) ?_
  ·
   go_simp
   (with_reducible refine (cmp_walk _ _ _).mono ?_)
   rintro e7 w7 ⟨rfl, rfl⟩
   refine kk hK (hHeld) (fun hHeld => ?_)
   clear hK K
   refine rd [9] ?_
   refine rc (fun K hK => ?_) ?_
   ·
    go_simp
    (with_reducible refine (cmp_walk _ _ _).mono ?_)
    rintro e8 w8 ⟨rfl, rfl⟩
    refine kk hK (hHeld) (fun hHeld => ?_)
    clear hK K
    refine rd [10] ?_
    refine rc (fun K hK => ?_) ?_
    ·
     go_simp
     obtain ⟨bo, hbo⟩ : ∃ bo, U.heap.size = bo := ⟨_, rfl⟩
     obtain ⟨U1, hU1⟩ : ∃ U1, U.alloc (.cells #[.int .i64 (cmpZ' x.frm y.frm), .int .i64 (cmpZ' x.til y.til)] 3) = U1 := ⟨_, rfl⟩
     have hn1 : U1.heap[bo]? = some (.cells #[.int .i64 (cmpZ' x.frm y.frm), .int .i64 (cmpZ' x.til y.til)] 3 (0, 0)) := by rw [← hU1, ← hbo]; exact World.alloc_heap_new _ _
     have hb1 : Below U.heap.size U U1 := by rw [← hU1]; exact below_new _ _
     have hg1 : Grows W U1 := by rw [← hU1]; exact HGU.out.trans (Grows.alloc _ _)
     rw [hbo, hU1]
     have HN1 := Lib.hid hn1
     have HG1 := Lib.hid hg1
     have HS1 : Hid (U1.cell? ⟨b1, 1, none⟩ = some (.int .i64 x.frm) ∧ U1.cell? ⟨b2, 1, none⟩ = some (.int .i64 y.frm) ∧ U1.cell? ⟨b1, 2, none⟩ = some (.int .i64 x.til) ∧ U1.cell? ⟨b2, 2, none⟩ = some (.int .i64 y.til)) := Lib.hid ⟨(hb1.cell HLT.out.1).trans hHeld.1, (hb1.cell HLT.out.2).trans hHeld.2.1, (hb1.cell HLT.out.1).trans hHeld.2.2.1, (hb1.cell HLT.out.2).trans hHeld.2.2.2⟩
     clear hbo hU1 hn1 hb1 hg1
     refine kk hK (HS1.out) (fun hHeld => ?_)
     clear hK K
     refine rd [11] ?_
     refine rc (fun K hK => ?_) ?_
     ·
      go_simp
      (with_reducible refine (or_walk bo 2 (cmpZ' x.frm y.frm) (cmpZ' x.til y.til) U1 (cells_i HN1.out rfl) (cells_i HN1.out rfl)).mono ?_)
      rintro e9 w9 ⟨rfl, rfl⟩
      refine kk hK (HS1.out) (fun hHeld => ?_)
      clear hK K
      refine tk 12 ?_
      refine dn ?_
      clear hHeld hS0
      go_wp2
      go_ret
      exact ⟨rfl, HG1.out⟩
     exact AllReadyH.nil
    exact AllReadyH.nil
   exact AllReadyH.nil
  exact AllReadyH.nil
theorem ltOf_sus (x y : Sus) : ltOf cmpS x y = byNum2 Sus.frm Sus.til x y := by
  unfold ltOf cmpS orI cmpZ' byNum2
  by_cases h1 : x.frm < y.frm
  · simp [h1]
  · by_cases h2 : y.frm < x.frm
    · have : ¬ x.frm = y.frm := by omega
      simp [h1, h2, this]
    · have h3 : x.frm = y.frm := by omega
      by_cases h4 : x.til < y.til
      · simp [h3, h4]
      · by_cases h5 : y.til < x.til <;> simp [h3, h4, h5]
theorem swo_sus : SWO (ltOf cmpS) where
  irrefl x := by rw [ltOf_sus]; simp [byNum2]
  trans x y z h1 h2 := by rw [ltOf_sus] at *; simp [byNum2] at *; omega
  ntrans x y z h1 h2 := by rw [ltOf_sus] at *; simp [byNum2] at *; omega
theorem sort_sus {w : World} {N : Nat} {v : Value} {l : List Sus} (h : OL w N 75 3 susC v l) (hl : l.length ≤ 1000000) :
    Calls Tryz.prog 79 #[v, .func (.func 80) #[] #[]] w fun r w' => r = .returned (.tuple #[]) ∧ ∃ l', OL w' N 75 3 susC v l' ∧ l'.Perm l ∧ Up (ltOf cmpS) l' ∧ Turns (fun q => v.ownBlock = some q) w w' :=
  sort_ol Tryz.sortSus 3 (by decide) Tryz.isAgg75 Tryz.sizeOf75 susC (fun _ => rfl) (fun x u hu => by simp [susC] at hu; rcases hu with rfl | rfl | rfl <;> rfl) cmpS swo_sus 80
    (enters_of Tryz.func80 (by kernel_rfl) rfl) (fun x y W => faults1_walk x y W) (fun w => AnyF.slices_SortFunc_none Tryz.sortSus none 0 _ w) h (by omega)
theorem compact1_walk (A : Option Addr) (n c : Nat) (hn : n < 2) (w : World) : Calls Tryz.prog 81 #[.slice A n c] w fun e w' => e = .returned (.slice A n c) ∧ w' = w := by
  have d1 : decide (n < 2) = true := by simp [hn]
  go_enter Tryz.func81, Tryz.ntmps81
  go_wp2
  go_ret
  exact ⟨rfl, rfl⟩
def faultsL (B : Bas) (p : Int) : List Sus := ((B.ls 2).filter fun e => decide (e.item = p)).map susOf
set_option maxRecDepth 100000 in
set_option maxHeartbeats 8000000 in
theorem faults1K_walk (B : Bas) (p : Int) (w : World) (hB : BasAt w (Old w) B) (hl : (B.ls 2).length ≤ 1000000) (h1 : (faultsL B p).length ≤ 1) :
    Calls Tryz.prog 29 #[B.val, .int .i64 p] w fun e w' => ∃ v, e = .returned v ∧ OL w' w.heap.size 75 3 susC v (faultsL B p) ∧ Below w.heap.size w w' := by
  have HB := Lib.hid hB
  have HL := Lib.hid hl
  have H1 := Lib.hid h1
  have IE := fun e : Ent => Lib.hid (ientry (e := e))
  clear hB hl h1
  refine (callsIn_wide (n := 3)).1 ?_
  refine callsIn_of_wp_marks Tryz.func29 rfl trivial ?_ rfl
  simp only [Tryz.ntmps29, List.size_toArray, List.length_cons, List.length_nil, Nat.reduceAdd, Nat.reduceSub, Array.replicate_succ, Array.replicate_zero, List.push_toArray, List.append_toArray, List.nil_append, List.cons_append]
  refine wpIn_wide.2 ?_
  go_wp2_with fail
  have HF0 := Lib.hid (At.start w)
  obtain ⟨b2, w0, q1, q2, q3, hf0, hs0⟩ := HF0.out.alloc2 (.cells B.cells.toArray 36)
  obtain ⟨b5, w1, r1, r2, r3, hf1, hs1⟩ := hf0.alloc2 (.cells #[.slice none 0 0] 61)
  rw [hs0] at r1
  have HNE : Hid (b2 < b5 ∧ w.heap.size ≤ b2) := Lib.hid (by omega)
  rw [q1, q2, r1, r2]
  have HF : Hid (At w w1.drew _) := Lib.hid hf1.drew
  clear HF0 q1 q2 q3 hf0 hs0 r1 r2 r3 hf1 hs1
  refine wp_region_noPanic ?_
  refine wp_region_held_drew (S := fun U => U.cell? ⟨b2, 2, none⟩ = some (.slice (B.ad 2) (B.ls 2).length (B.cp 2))) (by kernel_rfl) (At.cell HF.out (b := b2) (cs := B.cells.toArray) (t := 36) (i := 2) (by simp) rfl) (fun hHeld => ?_)
  obtain ⟨U0, hU0⟩ : ∃ U0, w1.drew = U0 := ⟨_, rfl⟩
  rw [hU0] at HF hHeld ⊢
  clear hU0
  refine tk 0 ?_
  refine tk 1 ?_
  refine tk 2 ?_
  refine rd [3] ?_
  refine rc (fun K hK => ?_) ?_
  ·
   go_simp
   (with_reducible refine (about_at p HF.out).mono ?_)
   rintro e1 V2 ⟨ba, rfl, HF1⟩
   have HF := Lib.hid HF1
   clear HF1
   refine kk hK (At.cell HF.out (b := b2) (cs := B.cells.toArray) (t := 36) (i := 2) (by simp) rfl) (fun hHeld => ?_)
   clear hK K
   refine rd [4] ?_
   refine rc (fun K hK => ?_) ?_
   ·
    go_simp
    obtain ⟨bc, V3, g1, g2, -, HF1⟩ := HF.out.alloc (.cells #[.func (.func 129) #[] #[.pointer (some ⟨ba, 0, none⟩)]] 45)
    rw [g1, g2]
    have HF := Lib.hid HF1
    clear HF1 g1 g2
    refine kk hK (At.cell HF.out (b := b2) (cs := B.cells.toArray) (t := 36) (i := 2) (by simp) rfl) (fun hHeld => ?_)
    clear hK K
    refine rd [5] ?_
    refine rc (fun K hK => ?_) ?_
    ·
     go_simp
     (with_reducible refine (where_at (B.ad 2) (B.ls 2).length (B.cp 2) (some ⟨bc, 0, none⟩) 1 1 HF.out).mono ?_)
     rintro e1 V4 ⟨b1, b2', rfl, HF1⟩
     have HF := Lib.hid HF1
     clear HF1
     refine kk hK (At.cell HF.out (b := b2) (cs := B.cells.toArray) (t := 36) (i := 2) (by simp) rfl) (fun hHeld => ?_)
     clear hK K
     refine dn ?_
     clear hHeld
     obtain ⟨Y, hY⟩ : ∃ Y : Nat → Prop, Y = fun k => k < V4.heap.size ∧ k ≠ b5 := ⟨_, rfl⟩
     have hYlt : ∀ k, Y k → k < V4.heap.size := fun k hk => by rw [hY] at hk; exact hk.1
     have hY5 : ∀ k, Y k → k ≠ b5 := fun k hk => by rw [hY] at hk; exact hk.2
     have hin : ∀ k cs T, (k, Obj.cells cs T (0, 0)) ∈ _ → T ≠ 61 → Y k := fun k cs T hm h1 => by
       rw [hY]
       refine ⟨HF.out.lt hm, fun e => ?_⟩
       have q1 := HF.out.has _ hm
       have q2 := HF.out.has (b5, .cells #[.slice none 0 0] 61 (0, 0)) (by simp)
       simp only at q1 q2
       rw [e, q2] at q1
       injection q1 with q1
       injection q1 with _ q1 _
       exact h1 q1.symm
     have hold : ∀ k, Old w k → Y k := fun k hk => by
       unfold Old at hk
       rw [hY]
       have := HNE.out
       have := HF.out.below.size
       omega
     have hBY : BasAt V4 Y B := (HB.out.keeps (Keeps.of_below HF.out.below fun _ h => h)).mono hold
     have y1 := hin b1 #[.slice (B.ad 2) (B.ls 2).length (B.cp 2)] 25 (by simp) (by decide)
     have y2 := hin b2' #[.slice (some ⟨bc, 0, none⟩) 1 1] 110 (by simp) (by decide)
     have yc := hin bc #[.func (.func 129) #[] #[.pointer (some ⟨ba, 0, none⟩)]] 45 (by simp) (by decide)
     have ya := hin ba #[.int .i64 p] 3 (by simp) (by decide)
     have hIt := where_iter [⟨129, #[.pointer (some ⟨ba, 0, none⟩)], fun e => decide (e.item = p)⟩] (B.ls 2) (B.ad 2) (some ⟨bc, 0, none⟩) (B.ls 2).length (B.cp 2) 1 1 b1 b2' rfl (Nat.le_trans (HB.out.cap 2 (by decide)).1 (HB.out.cap 2 (by decide)).2) rfl (by decide) Y V4 hYlt y1 y2
       (HF.out.boxed (by simp)) (HF.out.boxed (by simp)) (hBY.at_ 2 (by decide)) (fun i v hv => by
         have hc3 := HF.out.cell (b := bc) (cs := #[.func (.func 129) #[] #[.pointer (some ⟨ba, 0, none⟩)]]) (t := 45) (by simp) (i := i) (v := v) (by simpa [CndD.val] using hv)
         refine ⟨_, rfl, yc, ?_⟩
         rw [show (⟨bc, 0, none⟩ : Addr).add i = ⟨bc, i, none⟩ by simp [Addr.add]; omega]
         exact hc3) (fun c hc => by
         simp only [List.mem_cons, List.not_mem_nil, or_false] at hc
         subst hc
         exact cond_about p ba V4 Y ya (HF.out.boxed (by simp)))
     have HI := Lib.hid hIt
     have HYL := Lib.hid (And.intro hYlt hY5)
     have HX5 : Hid (Boxed V4 b5 61 (.slice none 0 0)) := Lib.hid (HF.out.boxed (by simp))
     have HBV : Hid (Below w.heap.size w V4) := Lib.hid HF.out.below
     have HLT : Hid (b5 < V4.heap.size) := Lib.hid HX5.out.lt
     clear hY hYlt hY5 hin hold hBY y1 y2 yc ya hIt
     go_wp2_with fail
     refine (wpIn_wide (n := 3)).1 ?_
     refine wp_rangeZB (gf := 127) (lb := #[.pointer (some ⟨b1, 0, none⟩), .pointer (some ⟨b2', 0, none⟩)]) rfl (enters_of Tryz.func127 (by kernel_rfl) rfl)
       HI.out (Below.refl _ _) (fun k hk => hk.elim) (fun _ => rfl) (fun h k => h.trans k)
       (fun W o k hk => World.putObj_heap_other (by have := HYL.out.1 k hk; omega))
       (fun pre W => ∃ v, Boxed W b5 61 v ∧ OL W (V4.heap.size + 2) 75 3 susC v (pre.map susOf) ∧ Below w.heap.size w W)
       (fun _ _ _ => False)
       ?hI (fun _ _ _ _ h _ => h.elim) ⟨_, HX5.out, OL.nil, HBV.out⟩
       (fun b x => { tmps := #[B.val, .int .i64 p, .pointer (some ⟨b2, 0, none⟩), undef, .slice none 0 0, .pointer (some ⟨b5, 0, none⟩), .pointer (some ⟨b, 0, none⟩), .pointer (some ⟨b2, 2, none⟩), .slice (B.ad 2) (B.ls 2).length (B.cp 2), .int .i64 p, .func (.func 129) #[] #[.pointer (some ⟨ba, 0, none⟩)], .slice (some ⟨bc, 0, none⟩) 1 1, .func (.func 127) #[] #[.pointer (some ⟨b1, 0, none⟩), .pointer (some ⟨b2', 0, none⟩)], Ent.val x, undef, undef, undef, undef, undef, undef, undef, undef, undef, undef, undef, undef, undef, undef], defers := [] })
       (fun b x W => EntAt W b x) ?hRw ?hKB ?assign ?body ?done ?stop
     case hI =>
       rintro s A B' ⟨v, h1, h2, h3⟩ tt
       have := HLT.out
       refine ⟨v, tt.boxed h1 (not_books (by omega)), h2.keep fun g hg => tt.block g (h2.lt g hg).2 ?_, tt.below h3 (Nat.le_refl _) (far_books HBV.out.size)⟩
       rintro (e | e | e)
       · exact e
       · have := (h2.lt g hg).1; omega
       · have := (h2.lt g hg).1; omega
     case hRw =>
       intro b x A B' hb hlt h tt
       refine (tt.block _ hlt ?_).trans h
       rintro (e | e | e)
       · exact e
       · omega
       · omega
     case hKB =>
       intro A B' hs hb
       exact Keeps.of_below hb (fun k hk => by have := HYL.out.1 k hk; omega)
     case assign =>
       intro l0 x W b K hb hle hK
       subst hb
       dsimp only [encE1]
       gi_wp2_with (first
         | ((with_reducible refine wpListIn_store_new rfl (.tmp 6) (.tmp 13) rfl rfl x rfl rfl ?hi ?ho ?_); (case hi => exact (IE x).out); (case ho => rfl); intro w1 he1 hb1 hs1)
         | fail)
       exact hK _ he1 hb1 hs1
     case body =>
       rintro l0 pre x b W hle hlt ⟨v, hv, hrow, hB⟩ hx hl
       obtain ⟨A5, c5, rfl, -, -⟩ := hrow.slice
       obtain ⟨k, hk⟩ : ∃ k, (pre.map susOf).length = k := ⟨_, rfl⟩
       rw [hk] at hv hrow
       have HK := Lib.hid hk
       have HV := Lib.hid hv
       have HR := Lib.hid hrow
       have HBB := Lib.hid hB
       have HXE := Lib.hid hx
       have hkn : k < (B.ls 2).length := by rw [← hk, List.length_map]; exact hl
       have HKN : Hid (k + 1 ≤ 1000000) := Lib.hid (by have := HL.out; omega)
       have x8 := HXE.out.cell (i := 8) rfl
       have x5 := HXE.out.cell (i := 5) rfl
       have x6 := HXE.out.cell (i := 6) rfl
       have c0 := hv.cell
       clear hk hv hrow hB hx hl hkn
       have hbn := below_new W (.cells #[.int .i64 x.item, .int .i64 x.frm, .int .i64 x.til] 75)
       have HBN := Lib.hid hbn
       clear hbn
       gi_wp2_with (first
         | (gi_at_builtin; refine wpListIn_app rfl (.tmp 14) (.tmp 22) rfl elemSus (.slice A5 k c5) (pre.map susOf) k HK.out rfl (HR.out.below HBN.out (Nat.le_refl _)) (susOf x) W.heap.size #[.int .i64 x.item, .int .i64 x.frm, .int .i64 x.til] rfl (World.alloc_heap_new W _) rfl rfl (fun u hu => by simp [susC, susOf] at hu; rcases hu with rfl | rfl | rfl <;> rfl) (by have := HKN.out; have := HK.out; unfold maxLen; omega) (by have := HKN.out; have := HK.out; omega) (by simp; omega) ?_
            intro g' cap' w1 ho1 hg1 hw1 hl1 hb1
            have hv1 : Boxed w1 b5 61 (.slice A5 k c5) := (hg1.block b5 (by have := HBN.out.size; have := HV.out.lt; omega) (fun e => by have := (HR.out.lt b5 e.symm).1; have := HLT.out; omega)).trans ((HBN.out.block _ HV.out.lt).trans HV.out)
            have HV1 := Lib.hid hv1
            have HO1 := Lib.hid ho1
            have HG1 := Lib.hid hg1
            have HW1 := Lib.hid hw1
            have c1 := hv1.cell
            have f1 := hv1.frozen
            clear ho1 hg1 hw1 hl1 hb1 hv1)
         | fail)
       have hT : Turns (fun q => q = b5) w1 (w1.setCell ⟨b5, 0, none⟩ (.slice (some ⟨g', 0, none⟩) (k + 1) cap')) := Turns.setCell _ _ _ rfl
       have hown : ∀ q, (Value.slice A5 k c5).ownBlock = some q → V4.heap.size + 2 ≤ q := fun q hq => (HR.out.lt q hq).1
       have hlt5 := HLT.out
       have hsz := HBN.out.size
       have hT1 : Turns (fun q => (Value.slice A5 k c5).ownBlock = some q) (W.alloc (.cells #[.int .i64 x.item, .int .i64 x.frm, .int .i64 x.til] 75)) w1 := grown_turns HG1.out
       have hb1 : Below (V4.heap.size + 2) W w1 := hT1.below (HBN.out.mono (by omega)) (by omega) (fun q hq => hown q hq)
       have hYw : Keeps Y W (w1.setCell ⟨b5, 0, none⟩ (.slice (some ⟨g', 0, none⟩) (k + 1) cap')) := fun q hq => by
         have h1 := HYL.out.1 q hq
         have h2 := HYL.out.2 q hq
         exact (Below.heap_setCell _ _ _ _ h2).trans (hb1.block q (by omega))
       refine ⟨?_, hYw, .slice (some ⟨g', 0, none⟩) (k + 1) cap', HV1.out.set _, ?_, ?_⟩
       · refine ((KeepsFrom.of_below HBN.out).trans ⟨hT1.size, fun q o h1 h2 h3 => ?_⟩).trans (KeepsFrom.of_turns hT (fun q e => by omega))
         refine (hT1.block q (Array.getElem?_eq_some_iff.1 h2).1 fun e => ?_).trans h2
         have hrow := HR.out.below HBN.out (Nat.le_refl _)
         rcases hrow.2 with ⟨e1, _⟩ | ⟨g9, cap9, cur9, e1, _, h9, _⟩
         · rw [e1] at e; cases e
         · rw [e1] at e
           have : g9 = q := by injection e
           subst this
           rw [h9] at h2
           injection h2 with h2
           rw [← h2] at h3; cases h3
       · rw [List.map_append, List.map_singleton]
         exact HO1.out.keep fun q hq => Below.heap_setCell _ _ _ _ (fun e => by
           have : g' = q := by injection hq
           rcases HW1.out with h1 | h1
           · have := hown g' h1; simp only at e; omega
           · simp only at e; omega)
       · have := HBV.out.size
         have hlw : w.heap.size ≤ b5 := by have := HNE.out; omega
         exact hT.below (HBB.out.trans (hb1.mono (by omega))) (Nat.le_refl _) (fun q hq => by omega)
     case done =>
       rintro xs W hS ⟨v, hv, hrow, hB⟩ hK
       have hxs : xs = (B.ls 2).filter fun e => decide (e.item = p) := by
         rw [hS]
         congr 1
         funext e
         simp [allP]
       subst hxs
       have hll : (((B.ls 2).filter fun e => decide (e.item = p)).map susOf).length ≤ 1 := H1.out
       have hfl : ((B.ls 2).filter fun e => decide (e.item = p)).map susOf = faultsL B p := rfl
       rw [hfl] at hrow hll
       obtain ⟨ll, hll2⟩ : ∃ ll, faultsL B p = ll := ⟨_, rfl⟩
       have HFL := Lib.hid hll2
       rw [hll2] at hrow hll
       have HLL := Lib.hid hll
       have HV := Lib.hid hv
       have HR := Lib.hid hrow
       have HBB := Lib.hid hB
       have HKK := Lib.hid hK
       obtain ⟨A5, c5, rfl, -, -⟩ := hrow.slice
       obtain ⟨n5, hn5⟩ : ∃ n5, ll.length = n5 := ⟨_, rfl⟩
       rw [hn5] at HV HR hv hrow
       have HN5 := Lib.hid hn5
       have c0 := hv.cell
       have hown5 : (Value.slice A5 n5 c5).ownBlock ≠ some b5 := fun e => by have := (hrow.lt b5 e).1; have := HLT.out; omega
       have HO5 := Lib.hid hown5
       clear hv hrow hB hK hS hll2 hll hown5 hfl hn5
       go_wp2_with (first
         | (go_at_call 79; (with_reducible refine (sort_sus HR.out (by have := HLL.out; omega)).mono ?_); rintro e3 w3 ⟨rfl, l3, ho3, hp3, -, ht3⟩
            have HR3 := Lib.hid ho3
            have HP3 := Lib.hid hp3
            have HT3 := Lib.hid ht3
            have hv3 : Boxed w3 b5 61 (.slice A5 n5 c5) := ht3.boxed HV.out HO5.out
            have c3 := hv3.cell
            clear ho3 hp3 ht3 hv3 c0)
         | (go_at_call 81; (with_reducible refine (compact1_walk A5 n5 c5 (by have := HLL.out; have := HN5.out; omega) w3).mono ?_); rintro e4 w4 ⟨rfl, rfl⟩)
         | fail)
       have hd3 : w4.heap[V4.heap.size]? = some (.deferred (some [])) := (HT3.out.block _ (Array.getElem?_eq_some_iff.1 HKK.out).1 (fun e => by have := (HR.out.lt _ e).1; omega)).trans HKK.out
       have hl3 : l3 = ll := by
         have h1 := HP3.out
         have h2 := HLL.out
         match ll, h1, h2 with
         | [], h1, _ => exact List.Perm.eq_nil h1
         | [s], h1, _ => exact List.perm_singleton.1 h1
       refine ⟨by simp, .inl ⟨_, _, rfl, run_takeDeferred hd3, ?_⟩⟩
       refine ⟨_, results_tmp rfl _ _ _, _, rfl, ?_, ?_⟩
       · rw [HFL.out, ← hl3]
         have hsz := HBV.out.size
         exact (HR3.out.keep fun g hg => World.putObj_heap_other (by have := (HR3.out.lt g hg).1; omega)).base (by omega)
       · have hsz := HBV.out.size
         have hb3 := HT3.out.below HBB.out (Nat.le_refl _) (fun q hq => by have := (HR.out.lt q hq).1; omega)
         exact (Turns.putObj (Z := fun k => k = V4.heap.size) w4 _ _ rfl).below hb3 (Nat.le_refl _) (fun k hk => by omega)
     case stop =>
       rintro c pre W _ h _
       exact h.elim
    exact AllReadyH.nil
   exact AllReadyH.nil
  exact AllReadyH.nil
end Go.Proofs.YteeifhlhpiimoaaGreatDoor
end
section
namespace Go.Proofs.YteeifhlhpiimoaaGreatDoor
open Go Go.RowKit Go.Shelf
attribute [local go_sem] Oper.semAt_some
theorem wpListIn_build_ent {F : Fence} {nn : Nat} {ops : Array Oper} {rest : List Oper} {o : Oper} {a : Act} {w : World} {Q : Exit → Act → World → Prop} (hgd : o.guard = none) (x : Operand) (ho : o.op = .buildSlice 25 1 #[(0, x)]) (e : Ent) (hx : a.eval x = e.val)
    (hk : ∀ b V, w.heap.size = b → Below b w V → V.heap[b]? = some (.cells e.cells.toArray 33 (0, 0)) → V.heap.size = b + 1 → wpListIn F nn Tryz.prog ops Q rest (a.put o.dst (.slice (some ⟨b, 0, none⟩) 1 1)) V) : wpListIn F nn Tryz.prog ops Q (o :: rest) a w := by
  refine wpListIn_plain hgd fun K hK => ?_
  have h := hk _ _ rfl (below_new w (.cells e.cells.toArray 33)) (World.alloc_heap_new w _) (by simp)
  unfold Oper.wpIn
  refine ⟨?_, ?_⟩
  · simp [Oper.about, ho]
  · rw [Oper.semAt_plain F _ _ (by rw [ho]; intro c hc'; cases hc')]
    have hr := run_build_ent w e
    obtain ⟨z, hz⟩ : ∃ z, e.val = z := ⟨_, rfl⟩
    rw [hz] at hr hx
    unfold execOp
    simp only [ho, List.map_toArray, List.map_cons, List.map_nil, hx, Sem.run_bind, hr, Result.andThen_ok]
    exact hK _ _ h
set_option maxRecDepth 100000 in
set_option maxHeartbeats 4000000 in
theorem appendE_walk (b1 b2 N : Nat) (L : List Ent) (Sp : List Ent → Prop) (w : World) (hI : IterZ Tryz.prog 127 #[.pointer (some ⟨b1, 0, none⟩), .pointer (some ⟨b2, 0, none⟩)] encE1 (fun _ => False) (Keeps (Old w)) (fun xs => xs = L) Sp N w) (hN : N ≤ 1000000) :
    Calls Tryz.prog 171 #[.slice none 0 0, .func (.func 127) #[] #[.pointer (some ⟨b1, 0, none⟩), .pointer (some ⟨b2, 0, none⟩)]] w fun e w' => ∃ v, e = .returned v ∧ OL w' w.heap.size 33 18 Ent.cells v L ∧ Below w.heap.size w w' := by
  have IE := fun e : Ent => Lib.hid (ientry (e := e))
  have HI := Lib.hid hI
  clear hI
  refine (callsIn_wide (n := 3)).1 ?_
  refine callsIn_of_wp_marks Tryz.func171 rfl trivial ?_ rfl
  simp only [Tryz.ntmps171, List.size_toArray, List.length_cons, List.length_nil, Nat.reduceAdd, Nat.reduceSub, Array.replicate_succ, Array.replicate_zero, List.push_toArray, List.append_toArray, List.nil_append, List.cons_append]
  gi_wp2_with fail
  obtain ⟨w7, hw7⟩ : ∃ w7, w.alloc (.cells #[.slice none 0 0] 25) = w7 := ⟨_, rfl⟩
  have hbl : Below w.heap.size w w7 := by rw [← hw7]; exact (Below.refl _ _).alloc (Nat.le_refl _) _
  have hs7 : w7.heap.size = w.heap.size + 1 := by rw [← hw7]; simp
  have x0 : Boxed w7 w.heap.size 25 (.slice none 0 0) := by rw [← hw7]; exact Boxed.new w _ _
  rw [hw7]
  clear hw7
  have HS7 := Lib.hid hs7
  have HX0 := Lib.hid x0
  have HBL := Lib.hid hbl
  clear hbl x0 hs7
  refine wp_rangeZB (gf := 127) (lb := #[.pointer (some ⟨b1, 0, none⟩), .pointer (some ⟨b2, 0, none⟩)]) rfl (enters_of Tryz.func127 (by kernel_rfl) rfl)
    HI.out HBL.out (fun k hk => hk.elim) (fun _ => rfl) (fun h k => h.trans k)
    (fun W o k hk => World.putObj_heap_other (by unfold Old at hk; have := HS7.out; omega))
    (fun pre W => ∃ v, Boxed W w.heap.size 25 v ∧ OL W (w7.heap.size + 2) 33 18 Ent.cells v pre ∧ Below w.heap.size w W)
    (fun _ _ _ => False)
    ?hI (fun _ _ _ _ h _ => h.elim) ⟨_, HX0.out, OL.nil, HBL.out⟩
    (fun b x => { tmps := #[.slice none 0 0, .func (.func 127) #[] #[.pointer (some ⟨b1, 0, none⟩), .pointer (some ⟨b2, 0, none⟩)], .pointer (some ⟨w.heap.size, 0, none⟩), undef, .slice none 0 0, .pointer (some ⟨b, 0, none⟩), .func (.func 127) #[] #[.pointer (some ⟨b1, 0, none⟩), .pointer (some ⟨b2, 0, none⟩)], Ent.val x, undef, undef, undef, undef, undef], defers := [] })
    (fun b x W => EntAt W b x) ?hRw ?hKB ?assign ?body ?done ?stop
  case hI =>
    rintro s A B' ⟨v, h1, h2, h3⟩ tt
    have := HS7.out
    refine ⟨v, tt.boxed h1 (not_books (by omega)), h2.keep fun g hg => tt.block g (h2.lt g hg).2 ?_, tt.below h3 (Nat.le_refl _) (far_books HBL.out.size)⟩
    rintro (e | e | e)
    · exact e
    · have := (h2.lt g hg).1; omega
    · have := (h2.lt g hg).1; omega
  case hRw =>
    intro b x A B' hb hlt h tt
    refine (tt.block _ hlt ?_).trans h
    rintro (e | e | e)
    · exact e
    · omega
    · omega
  case hKB =>
    intro A B' hs hb
    exact Keeps.of_below hb (fun k hk => by unfold Old at hk; have := HS7.out; omega)
  case assign =>
    intro l0 x W b K hb hle hK
    subst hb
    dsimp only [encE1]
    gi_wp2_with (first
      | ((with_reducible refine wpListIn_store_new rfl (.tmp 5) (.tmp 7) rfl rfl x rfl rfl ?hi ?ho ?_); (case hi => exact (IE x).out); (case ho => rfl); intro w1 he1 hb1 hs1)
      | fail)
    exact hK _ he1 hb1 hs1
  case body =>
    rintro l0 pre x b W hle hlt ⟨v, hv, hrow, hB⟩ hx hl
    obtain ⟨A5, c5, rfl, -, -⟩ := hrow.slice
    obtain ⟨k, hk⟩ : ∃ k, pre.length = k := ⟨_, rfl⟩
    rw [hk] at hv hrow
    have HK := Lib.hid hk
    have HV := Lib.hid hv
    have HR := Lib.hid hrow
    have HBB := Lib.hid hB
    have HXE := Lib.hid hx
    have HRG : Hid (W.rangeAt b 0 x.cells) := Lib.hid (range_of (cs := x.cells) hx)
    have HKN : Hid (k + 1 ≤ 1000000) := Lib.hid (by omega)
    have c0 := hv.cell
    clear hk hv hrow hB hx hl
    gi_wp2_with (first
      | ((with_reducible refine wpListIn_load_mid rfl 33 (.tmp 5) rfl b 0 ?hx x.cells _ HRG.out Tryz.underlying33 rfl (IE x).out ?_); (case hx => rfl))
      | ((with_reducible refine wpListIn_build_ent rfl (.tmp 9) rfl x ?hx ?_); (case hx => rfl)
         intro bn V hbn hbl hnv hsv
         have HBNE := Lib.hid hbn
         have HBN := Lib.hid hbl
         have HNV := Lib.hid hnv
         have HSV := Lib.hid hsv
         clear hbn hbl hnv hsv)
      | (gi_at_builtin; refine wpListIn_app rfl (.tmp 8) (.tmp 10) rfl elemEnt (.slice A5 k c5) pre k HK.out rfl (HR.out.below (HBN.out.mono (by have := HBNE.out; omega)) (Nat.le_refl _)) x bn x.cells.toArray rfl HNV.out rfl rfl (one_cells' x) (by have := HKN.out; have := HK.out; unfold maxLen; omega) (by have := HKN.out; have := HK.out; omega) (by have := HSV.out; have := HBNE.out; omega) ?_
         intro g' cap' w1 ho1 hg1 hw1 hl1 hb1
         have hv1 : Boxed w1 w.heap.size 25 (.slice A5 k c5) := (hg1.block w.heap.size (by have := HBN.out.size; have := HV.out.lt; have := HBNE.out; omega) (fun e => by have := (HR.out.lt w.heap.size e.symm).1; have := HS7.out; omega)).trans ((HBN.out.block _ (by have := HV.out.lt; have := HBNE.out; omega)).trans HV.out)
         have HV1 := Lib.hid hv1
         have HO1 := Lib.hid ho1
         have HG1 := Lib.hid hg1
         have HW1 := Lib.hid hw1
         have c1 := hv1.cell
         have f1 := hv1.frozen
         clear ho1 hg1 hw1 hl1 hb1 hv1)
      | fail)
    have hT : Turns (fun q => q = w.heap.size) w1 (w1.setCell ⟨w.heap.size, 0, none⟩ (.slice (some ⟨g', 0, none⟩) (k + 1) cap')) := Turns.setCell _ _ _ rfl
    have hown : ∀ q, (Value.slice A5 k c5).ownBlock = some q → w7.heap.size + 2 ≤ q := fun q hq => (HR.out.lt q hq).1
    have hlt5 := HS7.out
    have hsz := HBN.out.size
    have hbe := HBNE.out
    have hT1 : Turns (fun q => (Value.slice A5 k c5).ownBlock = some q) V w1 := grown_turns HG1.out
    have hb1 : Below (w7.heap.size + 2) W w1 := hT1.below (HBN.out.mono (by omega)) (by omega) (fun q hq => hown q hq)
    have hYw : Keeps (Old w) W (w1.setCell ⟨w.heap.size, 0, none⟩ (.slice (some ⟨g', 0, none⟩) (k + 1) cap')) := fun q hq => by
      unfold Old at hq
      exact (Below.heap_setCell _ _ _ _ (by simp only; omega)).trans (hb1.block q (by omega))
    refine ⟨?_, hYw, .slice (some ⟨g', 0, none⟩) (k + 1) cap', HV1.out.set _, ?_, ?_⟩
    · subst hbe
      refine ((KeepsFrom.of_below HBN.out).trans ⟨hT1.size, fun q o h1 h2 h3 => ?_⟩).trans (KeepsFrom.of_turns hT (fun q e => by omega))
      refine (hT1.block q (Array.getElem?_eq_some_iff.1 h2).1 fun e => ?_).trans h2
      have hrow := HR.out.below HBN.out (by omega)
      rcases hrow.2 with ⟨e1, _⟩ | ⟨g9, cap9, cur9, e1, _, h9, _⟩
      · rw [e1] at e; cases e
      · rw [e1] at e
        have : g9 = q := by injection e
        subst this
        rw [h9] at h2
        injection h2 with h2
        rw [← h2] at h3; cases h3
    · exact HO1.out.keep fun q hq => Below.heap_setCell _ _ _ _ (fun e => by
        have : g' = q := by injection hq
        rcases HW1.out with h1 | h1
        · have := hown g' h1; simp only at e; omega
        · simp only at e; omega)
    · exact hT.below (HBB.out.trans (hb1.mono (by omega))) (Nat.le_refl _) (fun q hq => by omega)
  case done =>
    rintro xs W hS ⟨v, hv, hrow, hB⟩ hK
    subst hS
    have HV := Lib.hid hv
    have HR := Lib.hid hrow
    have HBB := Lib.hid hB
    have HKK := Lib.hid hK
    have c0 := hv.cell
    clear hv hrow hB hK
    gi_wp2_with fail
    refine ⟨by simp, .inl ⟨_, _, rfl, run_takeDeferred HKK.out, ?_⟩⟩
    refine ⟨_, results_tmp rfl _ _ _, _, rfl, ?_, ?_⟩
    · have := HS7.out
      exact (HR.out.keep fun g hg => World.putObj_heap_other (by have := (HR.out.lt g hg).1; omega)).base (by omega)
    · have := HS7.out
      exact (Turns.putObj (Z := fun k => k = w7.heap.size) W _ _ rfl).below HBB.out (Nat.le_refl _) (fun k hk => by omega)
  case stop =>
    rintro c pre W _ h _
    exact h.elim
set_option maxHeartbeats 2000000 in
theorem collectE_walk (b1 b2 N : Nat) (L : List Ent) (Sp : List Ent → Prop) (w : World) (hI : IterZ Tryz.prog 127 #[.pointer (some ⟨b1, 0, none⟩), .pointer (some ⟨b2, 0, none⟩)] encE1 (fun _ => False) (Keeps (Old w)) (fun xs => xs = L) Sp N w) (hN : N ≤ 1000000) :
    Calls Tryz.prog 131 #[.func (.func 127) #[] #[.pointer (some ⟨b1, 0, none⟩), .pointer (some ⟨b2, 0, none⟩)]] w fun e w' => ∃ v, e = .returned v ∧ OL w' w.heap.size 33 18 Ent.cells v L ∧ Below w.heap.size w w' := by
  have HC := Lib.hid (appendE_walk b1 b2 N L Sp w hI hN)
  clear hI hN
  go_enter Tryz.func131, Tryz.ntmps131
  go_wp2_with (go_at_call 171; refine HC.out.mono ?_; rintro e w' ⟨v, rfl, ho, hb⟩)
  go_ret
  exact ⟨v, rfl, ho, hb⟩
end Go.Proofs.YteeifhlhpiimoaaGreatDoor
end
section
namespace Go.Proofs.YteeifhlhpiimoaaGreatDoor
open Go Go.RowKit Go.Shelf Go.Sort
attribute [local go_sem] Oper.semAt_some
def cmpH (x y : Ent) : Int := orI (cmpZ' x.frm y.frm) (cmpZ' x.id y.id)
set_option maxHeartbeats 2000000 in
theorem hist1_walk (x y : Ent) (W : World) : Calls Tryz.prog 78 #[x.val, y.val] W fun e w' => e = .returned (.int .i64 (cmpH x y)) ∧ Grows W w' := by
  go_enter Tryz.func78, Tryz.ntmps78
  go_wp2_with (first
    | ((with_reducible refine box_entg rfl (.tmp 0) rfl x ?hx ?_); (case hx => rfl); intro w1 he1 hg1
       obtain ⟨b1, hb1⟩ : ∃ b, W.heap.size = b := ⟨_, rfl⟩
       rw [hb1] at he1
       rw [hb1]
       have HE1 := Lib.hid he1
       have HG1 := Lib.hid hg1
       clear he1 hg1 hb1)
    | ((with_reducible refine box_entg rfl (.tmp 1) rfl y ?hx ?_); (case hx => rfl); intro w2 he2 hg2
       have HX2 := Lib.hid (HE1.out.below hg2.below)
       obtain ⟨b2, hb2⟩ : ∃ b, w1.heap.size = b := ⟨_, rfl⟩
       rw [hb2] at he2
       rw [hb2]
       have HE2 := Lib.hid he2
       have HG2 := Lib.hid (HG1.out.trans hg2)
       clear he2 hg2 hb2)
    | fail)
  obtain ⟨U, hU⟩ : ∃ U, w2.drew = U := ⟨_, rfl⟩
  have HGU : Hid (Grows W U) := Lib.hid (by rw [← hU]; exact HG2.out.trans (Grows.drew _))
  have hE1 : EntAt U b1 x := by rw [← hU]; exact HX2.out
  have hE2 : EntAt U b2 y := by rw [← hU]; exact HE2.out
  have HLT : Hid (b1 < U.heap.size ∧ b2 < U.heap.size) := Lib.hid ⟨(Array.getElem?_eq_some_iff.1 hE1).1, (Array.getElem?_eq_some_iff.1 hE2).1⟩
  have hS0 : w2.drew.cell? ⟨b1, 5, none⟩ = some (.int .i64 x.frm) ∧ w2.drew.cell? ⟨b2, 5, none⟩ = some (.int .i64 y.frm) ∧ w2.drew.cell? ⟨b1, 1, none⟩ = some (.int .i64 x.id) ∧ w2.drew.cell? ⟨b2, 1, none⟩ = some (.int .i64 y.id) := by
    rw [hU]
    exact ⟨hE1.cell (i := 5) rfl, hE2.cell (i := 5) rfl, hE1.cell (i := 1) rfl, hE2.cell (i := 1) rfl⟩
  clear hE1 hE2
  refine wp_region_noPanic ?_
  refine wp_region_held_drew (S := fun U => U.cell? ⟨b1, 5, none⟩ = some (.int .i64 x.frm) ∧ U.cell? ⟨b2, 5, none⟩ = some (.int .i64 y.frm) ∧ U.cell? ⟨b1, 1, none⟩ = some (.int .i64 x.id) ∧ U.cell? ⟨b2, 1, none⟩ = some (.int .i64 y.id)) (by kernel_rfl) hS0 (fun hHeld => ?_)
  rw [hU] at hHeld ⊢
  clear hU
  refine tk 0 ?_
  refine tk 1 ?_
  refine tk 2 ?_
  refine tk 3 ?_
  refine tk 5 ?_
  refine tk 6 ?_
  refine tk 7 ?_
  refine tk 8 ?_
  refine rd [4] ?_
  refine rc (fun K hK => ?_) ?_
  ·
   go_simp
   (with_reducible refine (cmp_walk _ _ _).mono ?_)
   rintro e7 w7 ⟨rfl, rfl⟩
   refine kk hK (hHeld) (fun hHeld => ?_)
   clear hK K
   refine rd [9] ?_
   refine rc (fun K hK => ?_) ?_
   ·
    go_simp
    (with_reducible refine (cmp_walk _ _ _).mono ?_)
    rintro e8 w8 ⟨rfl, rfl⟩
    refine kk hK (hHeld) (fun hHeld => ?_)
    clear hK K
    refine rd [10] ?_
    refine rc (fun K hK => ?_) ?_
    ·
     go_simp
     obtain ⟨bo, hbo⟩ : ∃ bo, U.heap.size = bo := ⟨_, rfl⟩
     obtain ⟨U1, hU1⟩ : ∃ U1, U.alloc (.cells #[.int .i64 (cmpZ' x.frm y.frm), .int .i64 (cmpZ' x.id y.id)] 3) = U1 := ⟨_, rfl⟩
     have hn1 : U1.heap[bo]? = some (.cells #[.int .i64 (cmpZ' x.frm y.frm), .int .i64 (cmpZ' x.id y.id)] 3 (0, 0)) := by rw [← hU1, ← hbo]; exact World.alloc_heap_new _ _
     have hb1 : Below U.heap.size U U1 := by rw [← hU1]; exact below_new _ _
     have hg1 : Grows W U1 := by rw [← hU1]; exact HGU.out.trans (Grows.alloc _ _)
     rw [hbo, hU1]
     have HN1 := Lib.hid hn1
     have HG1 := Lib.hid hg1
     have HS1 : Hid (U1.cell? ⟨b1, 5, none⟩ = some (.int .i64 x.frm) ∧ U1.cell? ⟨b2, 5, none⟩ = some (.int .i64 y.frm) ∧ U1.cell? ⟨b1, 1, none⟩ = some (.int .i64 x.id) ∧ U1.cell? ⟨b2, 1, none⟩ = some (.int .i64 y.id)) := Lib.hid ⟨(hb1.cell HLT.out.1).trans hHeld.1, (hb1.cell HLT.out.2).trans hHeld.2.1, (hb1.cell HLT.out.1).trans hHeld.2.2.1, (hb1.cell HLT.out.2).trans hHeld.2.2.2⟩
     clear hbo hU1 hn1 hb1 hg1
     refine kk hK (HS1.out) (fun hHeld => ?_)
     clear hK K
     refine rd [11] ?_
     refine rc (fun K hK => ?_) ?_
     ·
      go_simp
      (with_reducible refine (or_walk bo 2 (cmpZ' x.frm y.frm) (cmpZ' x.id y.id) U1 (cells_i HN1.out rfl) (cells_i HN1.out rfl)).mono ?_)
      rintro e9 w9 ⟨rfl, rfl⟩
      refine kk hK (HS1.out) (fun hHeld => ?_)
      clear hK K
      refine tk 12 ?_
      refine dn ?_
      clear hHeld hS0
      go_wp2
      go_ret
      exact ⟨rfl, HG1.out⟩
     exact AllReadyH.nil
    exact AllReadyH.nil
   exact AllReadyH.nil
  exact AllReadyH.nil
theorem ltOf_hist (x y : Ent) : ltOf cmpH x y = byNum2 Ent.frm Ent.id x y := by
  unfold ltOf cmpH orI cmpZ' byNum2
  by_cases h1 : x.frm < y.frm
  · simp [h1]
  · by_cases h2 : y.frm < x.frm
    · have : ¬ x.frm = y.frm := by omega
      simp [h1, h2, this]
    · have h3 : x.frm = y.frm := by omega
      by_cases h4 : x.id < y.id
      · simp [h3, h4]
      · by_cases h5 : y.id < x.id <;> simp [h3, h4, h5]
theorem swo_hist : SWO (ltOf cmpH) where
  irrefl x := by rw [ltOf_hist]; simp [byNum2]
  trans x y z h1 h2 := by rw [ltOf_hist] at *; simp [byNum2] at *; omega
  ntrans x y z h1 h2 := by rw [ltOf_hist] at *; simp [byNum2] at *; omega
def histL (l : List Ent) : List Ent := (insertionSort (ltOf cmpH) l.toArray 0 l.length).toList
theorem histL_spec (l : List Ent) : (histL l).Perm l ∧ Up (ltOf cmpH) (histL l) ∧ (insertionSort (ltOf cmpH) l.toArray 0 l.length).size = l.length := by
  have h := insertionSort_holds swo_hist l.toArray 0 l.length (Nat.zero_le _) (by simp)
  have hp := perm_lists (d := l.toArray) (d' := insertionSort (ltOf cmpH) l.toArray 0 l.length) (by simpa using h.1)
  exact ⟨by unfold histL; simpa using hp.2, sorted_up (by simpa using hp.1.symm) h.2, by simpa using hp.1⟩
theorem insE_walk {w : World} {N : Nat} {v : Value} {l : List Ent} (h : OL w N 33 18 Ent.cells v l) (hl : l.length ≤ 1000000) :
    Calls Tryz.prog 156 #[v, .int .i64 0, .int .i64 l.length, .func (.func 78) #[] #[]] w fun r w' => r = .returned (.tuple #[]) ∧ OL w' N 33 18 Ent.cells v (histL l) ∧ Turns (fun q => v.ownBlock = some q) w w' := by
  rcases h.2 with ⟨he, hz⟩ | ⟨b, cap, cur, he, hb, hc, h4, h5, h6, h7⟩
  · subst he
    have : l = [] := List.eq_nil_of_length_eq_zero hz
    subst this
    have hn := AnyF.insertionSortCmpFunc_none (P := Tryz.prog) { Tryz.sortEnt with } none 0 (.func (.func 78) #[] #[]) w
    refine Calls.mono (show Calls Tryz.prog 156 _ _ _ from hn) fun e w' q => ?_
    have h0 : histL [] = [] := List.Perm.eq_nil (histL_spec []).1
    rw [q.2, h0]
    exact ⟨q.1, h, Turns.refl _ _⟩
  · subst he
    have hcl : CmpLays Tryz.prog 78 #[] Ent.cells 18 cmpH b 0 l.toArray.size w := fun m os dk hs x y => (hist1_walk x y _).mono fun e w' q => ⟨q.1, q.2⟩
    have hs := AnyQ.insertionSortCmpFunc (P := Tryz.prog) (α := Ent) { Tryz.sortEnt with } 18 Tryz.isAgg33 Tryz.sizeOf33 Ent.cells (fun _ => rfl) (fun x => one_cells' x) cmpH 78 #[] b 0 cap 0 l.length l.toArray w
      (enters_of Tryz.func78 (by kernel_rfl) rfl) hcl (row_holds (f := Ent.cells) (k := 18) (by decide) (fun _ => rfl) h) ((Array.getElem?_eq_some_iff.1 hc).1) (Nat.zero_le _) (by simp) (by simp; omega)
    rw [List.size_toArray] at hs
    refine Calls.mono (show Calls Tryz.prog 156 _ _ _ from hs) fun e w' q => ?_
    obtain ⟨rfl, m, os, rfl⟩ := q
    refine ⟨rfl, sorted_ol (f := Ent.cells) (k := 18) (by decide) (fun _ => rfl) h _ (histL_spec l).2.2 os, (sorted_block hc _ os).2.mono fun q hq => ?_⟩
    subst hq; rfl
set_option maxHeartbeats 2000000 in
theorem stable_walk {w : World} {N : Nat} {v : Value} {l : List Ent} (h : OL w N 33 18 Ent.cells v l) (hl : l.length < 20) :
    Calls Tryz.prog 172 #[v, .int .i64 l.length, .func (.func 78) #[] #[]] w fun r w' => r = .returned (.tuple #[]) ∧ OL w' N 33 18 Ent.cells v (histL l) ∧ Turns (fun q => v.ownBlock = some q) w w' := by
  have HW := Lib.hid (insE_walk h (by omega))
  obtain ⟨n, hn⟩ : ∃ n, l.length = n := ⟨_, rfl⟩
  rw [hn] at HW hl ⊢
  clear h hn
  go_enter Tryz.func172, Tryz.ntmps172
  go_wp2
  refine wp_loop_rounds 1 ?_
  rw [rounds_succ]
  have d1 : decide (20 ≤ n) = false := by simp; omega
  have d2 : decide (20 < n) = false := by simp; omega
  go_wp2_with (go_at_call 156; (with_reducible refine HW.out.mono ?_); rintro e1 w1 ⟨rfl, ho1, ht1⟩; have HO := Lib.hid ho1; have HT := Lib.hid ht1; clear ho1 ht1)
  refine wp_loop_rounds 1 ?_
  rw [rounds_succ]
  go_wp2
  go_end0
  exact ⟨rfl, HO.out, HT.out⟩
set_option maxHeartbeats 2000000 in
theorem sortStable_walk {w : World} {N : Nat} {v : Value} {l : List Ent} (h : OL w N 33 18 Ent.cells v l) (hl : l.length < 20) :
    Calls Tryz.prog 132 #[v, .func (.func 78) #[] #[]] w fun r w' => r = .returned (.tuple #[]) ∧ OL w' N 33 18 Ent.cells v (histL l) ∧ Turns (fun q => v.ownBlock = some q) w w' := by
  obtain ⟨A, c, rfl, -, -⟩ := h.slice
  have HW := Lib.hid (stable_walk h hl)
  obtain ⟨n, hn⟩ : ∃ n, l.length = n := ⟨_, rfl⟩
  rw [hn] at HW ⊢
  clear h hn hl
  go_enter Tryz.func132, Tryz.ntmps132
  go_wp2_with (go_at_call 172; (with_reducible refine HW.out.mono ?_); rintro e1 w1 ⟨rfl, ho1, ht1⟩)
  go_end0
  exact ⟨rfl, ho1, ht1⟩
set_option maxHeartbeats 2000000 in
theorem sortedStable_walk (b1 b2 N : Nat) (L : List Ent) (Sp : List Ent → Prop) (w : World) (hI : IterZ Tryz.prog 127 #[.pointer (some ⟨b1, 0, none⟩), .pointer (some ⟨b2, 0, none⟩)] encE1 (fun _ => False) (Keeps (Old w)) (fun xs => xs = L) Sp N w) (hN : N ≤ 1000000) (hL : L.length < 20) :
    Calls Tryz.prog 77 #[.func (.func 127) #[] #[.pointer (some ⟨b1, 0, none⟩), .pointer (some ⟨b2, 0, none⟩)], .func (.func 78) #[] #[]] w fun e w' => ∃ v, e = .returned v ∧ OL w' w.heap.size 33 18 Ent.cells v (histL L) ∧ Below w.heap.size w w' := by
  have HC := Lib.hid (collectE_walk b1 b2 N L Sp w hI hN)
  clear hI hN
  go_enter Tryz.func77, Tryz.ntmps77
  go_wp2_with (first
    | (go_at_call 131; (with_reducible refine HC.out.mono ?_); rintro e1 w1 ⟨v1, rfl, ho1, hb1⟩; have HO := Lib.hid ho1; have HB := Lib.hid hb1; clear ho1 hb1)
    | (go_at_call 132; (with_reducible refine (sortStable_walk HO.out hL).mono ?_); rintro e2 w2 ⟨rfl, ho2, ht2⟩; have HO2 := Lib.hid ho2; have HT2 := Lib.hid ht2; clear ho2 ht2)
    | fail)
  go_ret
  exact ⟨v1, rfl, HO2.out, HT2.out.below HB.out (Nat.le_refl _) (fun q hq => (HO.out.lt q hq).1)⟩
end Go.Proofs.YteeifhlhpiimoaaGreatDoor
end
