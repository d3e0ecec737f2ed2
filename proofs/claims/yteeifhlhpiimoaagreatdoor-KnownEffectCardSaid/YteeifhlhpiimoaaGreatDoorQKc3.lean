/-
  Contract of the reference's Lists. No condition. (The same as in Kc0, for a claim that does without it.)
-/
import Derived.Test.YteeifhlhpiimoaaGreatDoorQAk
namespace Go.Proofs.YteeifhlhpiimoaaGreatDoor
open Go Go.RowKit Go.Shelf
attribute [local go_sem] Oper.semAt_some
theorem Bas.cell_at (B : Bas) {i : Nat} (hi : i < 9) : B.cells.toArray[i]? = some (.slice (B.ad i) (B.ls i).length (B.cp i)) := by
  have h9 : i = 0 ∨ i = 1 ∨ i = 2 ∨ i = 3 ∨ i = 4 ∨ i = 5 ∨ i = 6 ∨ i = 7 ∨ i = 8 := by omega
  rcases h9 with rfl | rfl | rfl | rfl | rfl | rfl | rfl | rfl | rfl <;> rfl
theorem lists19_walk (B : Bas) (w : World) : Calls Tryz.prog 16 #[B.val] w fun e w' => ∃ b, e = .returned (.slice (some ⟨b, 0, none⟩) 9 9) ∧ Below w.heap.size w w' ∧ w.heap.size ≤ b ∧ w'.heap[b]? = some (.cells B.cells.toArray 25 (0, 0)) := by
  obtain ⟨W, hW⟩ : ∃ W, w.alloc (.cells B.cells.toArray 36) = W := ⟨_, rfl⟩
  obtain ⟨g, hg⟩ : ∃ g, w.heap.size = g := ⟨_, rfl⟩
  have h := World.alloc_heap_new w (.cells B.cells.toArray 36)
  rw [hW, hg] at h
  have hb : Below w.heap.size w W := by rw [← hW]; exact below_new _ _
  have HB := Lib.hid hb
  have HG := Lib.hid (Nat.le_of_eq hg)
  have c0 := cells_i h (B.cell_at (i := 0) (by decide))
  have c1 := cells_i h (B.cell_at (i := 1) (by decide))
  have c2 := cells_i h (B.cell_at (i := 2) (by decide))
  have c3 := cells_i h (B.cell_at (i := 3) (by decide))
  have c4 := cells_i h (B.cell_at (i := 4) (by decide))
  have c5 := cells_i h (B.cell_at (i := 5) (by decide))
  have c6 := cells_i h (B.cell_at (i := 6) (by decide))
  have c7 := cells_i h (B.cell_at (i := 7) (by decide))
  have c8 := cells_i h (B.cell_at (i := 8) (by decide))
  clear h hb
  go_enter Tryz.func16, Tryz.ntmps16
  go_wp2
  go_ret
  exact ⟨_, rfl, HB.out.trans ((below_new _ _).mono HB.out.size), HB.out.size, World.alloc_heap_new _ _⟩
end Go.Proofs.YteeifhlhpiimoaaGreatDoor
