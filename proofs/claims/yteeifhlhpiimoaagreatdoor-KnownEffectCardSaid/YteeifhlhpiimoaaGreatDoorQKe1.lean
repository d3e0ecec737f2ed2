/-
  Contracts of the laws' helper short and of the reference's Number. Conditions: each contract's own.
-/
import Derived.Test.YteeifhlhpiimoaaGreatDoorQKr1
import Derived.Test.YteeifhlhpiimoaaGreatDoorQAk
import Derived.Test.YteeifhlhpiimoaaGreatDoorQAo
namespace Go.Proofs.YteeifhlhpiimoaaGreatDoor
open Go Go.RowKit Go.Shelf
attribute [local go_sem] Oper.semAt_some
theorem hZ {P : Prop} (h : P) : Hid P := Lib.hid h
theorem number19_walk (e : Ent) (w : World) : Calls Tryz.prog 21 #[e.val] w fun r w' => r = .returned (.int .i64 (numE e)) ∧ Below w.heap.size w w' := by
 obtain ⟨x, hx⟩ : ∃ x, numE e = x := ⟨_, rfl⟩
 have hways : ((e.kind == 2) = true ∧ e.item = x) ∨ ((e.kind == 2) = false ∧ (e.kind == 8) = true ∧ e.item = x) ∨ ((e.kind == 2) = false ∧ (e.kind == 8) = false ∧ (e.kind == 6) = true ∧ e.item = x) ∨ ((e.kind == 2) = false ∧ (e.kind == 8) = false ∧ (e.kind == 6) = false ∧ e.id = x) := by
  unfold numE at hx
  by_cases h2 : e.kind = 2
  ·
   left; simpa [h2] using hx
  ·
   by_cases h8 : e.kind = 8
   ·
    right; left; simpa [h8] using hx
   ·
    by_cases h6 : e.kind = 6
    ·
     right; right; left; simpa [h6] using hx
    ·
     right; right; right; simpa [h2, h8, h6] using hx
 rw [hx]
 clear hx
 rcases hways with ⟨h2, hx⟩ | ⟨h2, h8, hx⟩ | ⟨h2, h8, h6, hx⟩ | ⟨h2, h8, h6, hx⟩
 all_goals
  have HX := Lib.hid hx
  clear hx
  go_enter Tryz.func21, Tryz.ntmps21
  go_wp2_with (first
    | ((with_reducible refine box_ent rfl (.tmp 0) rfl e ?hx ?_); (case hx => rfl); intro w1 he1 hb1 hs1
       have x0 := he1.cell (i := 0) rfl
       have x1 := he1.cell (i := 1) rfl
       have x8 := he1.cell (i := 8) rfl
       have HB1 := Lib.hid hb1
       clear he1 hb1 hs1)
    | fail)
  rw [HX.out]
  go_ret
  exact ⟨rfl, HB1.out⟩
set_option maxHeartbeats 4000000 in
theorem short19_walk (n d : ByteArray) (w : World) : Calls Tryz.prog 66 #[.agg #[.string n, .string d]] w fun r w' => ∃ n' d' : ByteArray, r = .returned (.agg #[.string n', .string d']) ∧ n'.size ≤ 45 ∧ d'.size ≤ 45 ∧ Below w.heap.size w w' := by
 obtain ⟨m, hm⟩ : ∃ m : Nat, min n.size 45 = m := ⟨_, rfl⟩
 obtain ⟨k, hk⟩ : ∃ k : Nat, min d.size 45 = k := ⟨_, rfl⟩
 have e1 : min (n.size : Int) 45 = (m : Int) := by omega
 have e2 : min (d.size : Int) 45 = (k : Int) := by omega
 have z1 : m ≤ n.size := by omega
 have z2 : k ≤ d.size := by omega
 go_enter Tryz.func66, Tryz.ntmps66
 go_wp2_with fail
 have HF0 := Lib.hid (At.start w)
 obtain ⟨b1, w1, q1, q2, q3, hf, hs1⟩ := HF0.out.alloc2 (.cells #[.string n, .string d] 29)
 obtain ⟨b2, w2, r1, r2, r3, hf2, hs2⟩ := hf.alloc2 (.cells #[.string ⟨#[]⟩, .string ⟨#[]⟩] 29)
 rw [hs1] at r1
 rw [q1, q2, r1, r2]
 have HF : Hid (At w w2.drew _) := Lib.hid hf2.drew
 have HNE : Hid (w.heap.size ≤ b2) := Lib.hid r3
 have x0 : w2.cell? ⟨b1, 0, none⟩ = some (.string n) := hf2.cell (b := b1) (cs := #[.string n, .string d]) (t := 29) (i := 0) (by simp) rfl
 have x1 : w2.cell? ⟨b1, 1, none⟩ = some (.string d) := hf2.cell (b := b1) (cs := #[.string n, .string d]) (t := 29) (i := 1) (by simp) rfl
 have y0 := hf2.cell (b := b2) (cs := #[.string ⟨#[]⟩, .string ⟨#[]⟩]) (t := 29) (i := 0) (by simp) rfl
 have y1 := hf2.cell (b := b2) (cs := #[.string ⟨#[]⟩, .string ⟨#[]⟩]) (t := 29) (i := 1) (by simp) rfl
 have y2 := cells_free (hf2.has (b2, .cells #[.string ⟨#[]⟩, .string ⟨#[]⟩] 29 (0, 0)) (by simp)) 0
 have y3 := cells_free (hf2.has (b2, .cells #[.string ⟨#[]⟩, .string ⟨#[]⟩] 29 (0, 0)) (by simp)) 1
 have hne : b1 ≠ b2 := by omega
 have HKP : Hid (∀ v u, ((w2.setCell ⟨b2, 0, none⟩ v).setCell ⟨b2, 1, none⟩ u).drew.cell? ⟨b1, 0, none⟩ = some (.string n) ∧ ((w2.setCell ⟨b2, 0, none⟩ v).setCell ⟨b2, 1, none⟩ u).drew.cell? ⟨b1, 1, none⟩ = some (.string d)) := Lib.hid fun v u => by
  have hb : ((w2.setCell ⟨b2, 0, none⟩ v).setCell ⟨b2, 1, none⟩ u).drew.heap[b1]? = w2.heap[b1]? := (Below.heap_setCell _ _ _ _ hne).trans (Below.heap_setCell _ _ _ _ hne)
  exact ⟨(World.cell?_of_block (w := w2) (a := ⟨b1, 0, none⟩) hb).trans x0, (World.cell?_of_block (w := w2) (a := ⟨b1, 1, none⟩) hb).trans x1⟩
 have HRS : Hid (∀ v u, World.rangeAt ((w2.setCell ⟨b2, 0, none⟩ v).setCell ⟨b2, 1, none⟩ u).drew b2 0 [v, u]) := Lib.hid fun v u => by
  have h2 : w2.heap[b2]? = some (.cells #[.string ⟨#[]⟩, .string ⟨#[]⟩] 29 (0, 0)) := hf2.has (b2, .cells #[.string ⟨#[]⟩, .string ⟨#[]⟩] 29 (0, 0)) (by simp)
  have h3 := heap_setCell_same w2 b2 0 _ _ v h2
  have h4 := heap_setCell_same (w2.setCell ⟨b2, 0, none⟩ v) b2 1 _ _ u h3
  exact range_of (cs := [v, u]) h4
 have hbb := hf2.below
 have h2 := hf2.has (b2, .cells #[.string ⟨#[]⟩, .string ⟨#[]⟩] 29 (0, 0)) (by simp)
 have HB2 := Lib.hid hbb
 have H2 := Lib.hid h2
 clear HF0 q1 q2 q3 hf hs1 r1 r2 r3 hf2 hs2 hne hbb h2
 go_region_held3 (fun U => U.cell? ⟨b1, 0, none⟩ = some (.string n) ∧ U.cell? ⟨b1, 1, none⟩ = some (.string d)) (first | exact ⟨x0, x1⟩ | exact HKP.out _ _ | go_keep) (fail)
 all_goals
  go_wp2_with fail
  refine bodyPost_ret (results_cellN rfl _ _ b2 [.string (n.extract 0 m), .string (d.extract 0 k)] _ rfl (HRS.out _ _) Tryz.underlying29 rfl (by kernel_rfl)) rfl ?_
  exact ⟨_, _, rfl, by rw [ByteArray.size_extract]; omega, by rw [ByteArray.size_extract]; omega, Below.drew (Below.setCell (p := ⟨b2, 1, none⟩) (Below.setCell (p := ⟨b2, 0, none⟩) HB2.out HNE.out _) HNE.out _)⟩
end Go.Proofs.YteeifhlhpiimoaaGreatDoor
