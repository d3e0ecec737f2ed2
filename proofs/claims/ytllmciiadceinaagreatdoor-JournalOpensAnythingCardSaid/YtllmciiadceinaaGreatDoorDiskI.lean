/-
  Contract of package disk's New. Conditions: each contract's own.
-/
import Derived.Test.YtllmciiadceinaaGreatDoorDiskH
import Derived.Deep.OwnRows
namespace Go.Proofs.YtllmciiadceinaaGreatDoor
open Go Go.RowKit

theorem mkRow (n : Nat) (hn : n ≤ 4194304) (w : World) : (Instr.makeSlice 39 (.int .i64 (n : Int)) (.int .i64 (n : Int))).run Tryz.prog w = .ok (.slice (some ⟨w.heap.size, 0, none⟩) n n) (w.alloc (.cells (madeCells #[.int .u8 0] n) 5)) :=
  run_make_row' (P := Tryz.prog) 39 5 (.int .u8 0) 1 Tryz.underlying39 (by kernel_rfl) rfl .i64 .i64 n (by omega) (by omega) w

/-- A new disk. -/
def DS.fresh (n : Nat) : DS := ⟨false, 0, List.replicate n 0, List.replicate n 0, []⟩
theorem made_bytes (n : Nat) : (madeCells #[.int .u8 0] n).toList = (List.replicate n (0 : UInt8)).map bv := by
  refine List.ext_getElem (by simp [madeCells]) fun i h1 h2 => ?_
  simp [madeCells, bv, Nat.mod_one]
theorem fresh_at (W : World) (n : Nat) (hn : n ≤ 4194304) (C : Array Value) (hC : C.toList = (List.replicate n (0 : UInt8)).map bv) (gd gv : Nat) (hg : (gd = W.heap.size ∧ gv = W.heap.size + 1) ∨ (gd = W.heap.size + 1 ∧ gv = W.heap.size)) :
    DAt (((W.alloc (.cells C 5)).alloc (.cells C 5)).alloc (.cells #[.bool false, .int .i64 0, .slice (some ⟨gd, 0, none⟩) n n, .slice (some ⟨gv, 0, none⟩) n n, .slice none 0 0] 97)) (fun k => W.heap.size ≤ k ∧ k < W.heap.size + 3) (W.heap.size + 1 + 1) gd gv (.slice none 0 0) n (DS.fresh n) := by
  have z1 : (W.alloc (.cells C 5)).heap.size = W.heap.size + 1 := World.size_alloc _ _
  have z2 : ((W.alloc (.cells C 5)).alloc (.cells C 5)).heap.size = W.heap.size + 1 + 1 := by rw [World.size_alloc, z1]
  have r1 := ((RAt.alloc_new (f := bv) W C 5 hC).alloc (.cells C 5))
  have r2 := RAt.alloc_new (f := bv) (W.alloc (.cells C 5)) C 5 hC
  rw [z1] at r2
  have hd := World.alloc_heap_new ((W.alloc (.cells C 5)).alloc (.cells C 5)) (.cells #[.bool false, .int .i64 0, .slice (some ⟨gd, 0, none⟩) n n, .slice (some ⟨gv, 0, none⟩) n n, .slice none 0 0] 97)
  rw [z2] at hd
  have rr : RAt ((W.alloc (.cells C 5)).alloc (.cells C 5)) gd bv (List.replicate n 0) ∧ RAt ((W.alloc (.cells C 5)).alloc (.cells C 5)) gv bv (List.replicate n 0) := by
    rcases hg with ⟨rfl, rfl⟩ | ⟨rfl, rfl⟩
    · exact ⟨r1, r2⟩
    · exact ⟨r2, r1⟩
  refine ⟨hd, rr.1.alloc _, rr.2.alloc _, by simp [DS.fresh], by simp [DS.fresh], OL.nil, fun x hx => absurd hx (by simp [DS.fresh]), ⟨by omega, by omega, by omega⟩, fun g hg => (by cases hg), ⟨⟨by omega, by omega⟩, ⟨by omega, by omega⟩, ⟨by omega, by omega⟩⟩, fun g hg => (by cases hg), fun k hk => ?_, hn⟩
  rw [World.size_alloc, z2]; omega
set_option maxRecDepth 20000 in
set_option maxHeartbeats 2000000 in
theorem new_walk {W : World} (n : Nat) (h1 : 1 ≤ n) (hn : n ≤ 4194304) :
    Calls Tryz.prog 24 #[.int .i64 n] W fun e W' => (∃ d gd gv F vp, e = .returned (.tuple #[.pointer (some ⟨d, 0, none⟩), .int .i64 0]) ∧ DAt W' F d gd gv vp n (DS.fresh n) ∧ ∀ k, F k → W.heap.size ≤ k) ∧ Turns (fun _ => False) W W' := by
  have hmk := mkRow n hn
  have d1 : decide ((n : Int) < 1) = false := by simp; omega
  have d2 : decide ((4194304 : Int) < (n : Int)) = false := by simp; omega
  obtain ⟨C, hC⟩ : ∃ C, madeCells #[.int .u8 0] n = C := ⟨_, rfl⟩
  rw [hC] at hmk
  have HFR := Lib.hid (fresh_at W n hn C (by rw [← hC]; exact made_bytes n))
  clear hC
  go_enter Tryz.func24, Tryz.ntmps24
  go_wp2_with fail
  go_region
  all_goals go_wp2_with fail
  all_goals go_ret2
  all_goals first
    | exact ⟨⟨W.heap.size + 1 + 1, W.heap.size, W.heap.size + 1, _, _, rfl, (HFR.out _ _ (.inl ⟨rfl, rfl⟩)).keep (Z := fun _ => False) (Turns.drew _) (fun _ _ q => q), fun k hk => hk.1⟩, (((Turns.alloc W _).trans (Turns.alloc _ _)).trans (Turns.alloc _ _)).trans (Turns.drew _)⟩
    | exact ⟨⟨W.heap.size + 1 + 1, W.heap.size + 1, W.heap.size, _, _, rfl, (HFR.out _ _ (.inr ⟨rfl, rfl⟩)).keep (Z := fun _ => False) (Turns.drew _) (fun _ _ q => q), fun k hk => hk.1⟩, (((Turns.alloc W _).trans (Turns.alloc _ _)).trans (Turns.alloc _ _)).trans (Turns.drew _)⟩

set_option maxHeartbeats 2000000 in
theorem new_bad {W : World} (n : Int) (h1 : n < 1 ∨ 4194304 < n) :
    Calls Tryz.prog 24 #[.int .i64 n] W fun e W' => e = .returned (.tuple #[.pointer none, .int .i64 2]) ∧ W = W' := by
  by_cases h : n < 1
  · have d1 : decide (n < 1) = true := by simp; omega
    clear h1
    go_enter Tryz.func24, Tryz.ntmps24
    go_wp2_with fail
    go_ret2
    exact ⟨rfl, rfl⟩
  · have d1 : decide (n < 1) = false := by simp; omega
    have d2 : decide (4194304 < n) = true := by simp; omega
    clear h1
    go_enter Tryz.func24, Tryz.ntmps24
    go_wp2_with fail
    go_ret2
    exact ⟨rfl, rfl⟩

end Go.Proofs.YtllmciiadceinaaGreatDoor
