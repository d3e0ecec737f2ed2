/-
  Package disk's methods on a nil disk; the law's pick. Conditions: none but each contract's own.
-/
import Derived.Test.YtmpjoncemgangaaDiskI
namespace Go.Proofs.Ytmpjoncemgangaa
open Go Go.RowKit

set_option maxHeartbeats 2000000 in
theorem syncnil_walk (W : World) : Calls Try.prog 23 #[.pointer none] W fun e W' => e = .returned (.int .i64 1) ∧ W = W' := by
  have HC := Lib.hid (checknil_walk W)
  go_enter Try.func23, Try.ntmps23
  go_wp2_with (first | (go_at_call 28; refine HC.out.mono ?_; rintro e W2 ⟨rfl, rfl⟩) | fail)
  go_ret
  exact ⟨rfl, rfl⟩
set_option maxHeartbeats 2000000 in
theorem cutnil_walk (W : World) (k : Int) : Calls Try.prog 24 #[.pointer none, .int .i64 k] W fun e W' => e = .returned (.int .i64 1) ∧ W = W' := by
  have HC := Lib.hid (checknil_walk W)
  go_enter Try.func24, Try.ntmps24
  go_wp2_with (first | (go_at_call 28; refine HC.out.mono ?_; rintro e W2 ⟨rfl, rfl⟩) | fail)
  go_ret
  exact ⟨rfl, rfl⟩
set_option maxHeartbeats 2000000 in
theorem writenil_walk (W : World) (off : Int) (x : ByteArray) : Calls Try.prog 21 #[.pointer none, .int .i64 off, .string x] W fun e W' => e = .returned (.int .i64 1) ∧ W = W' := by
  have HC := Lib.hid (checknil_walk W)
  go_enter Try.func21, Try.ntmps21
  go_wp2_with (first | (go_at_call 28; refine HC.out.mono ?_; rintro e W2 ⟨rfl, rfl⟩) | fail)
  go_ret
  exact ⟨rfl, rfl⟩
set_option maxHeartbeats 2000000 in
theorem readnil_walk (W : World) (off m : Int) : Calls Try.prog 14 #[.pointer none, .int .i64 off, .int .i64 m] W fun e W' => e = .returned (.tuple #[.string ByteArray.empty, .int .i64 1]) ∧ W = W' := by
  have HC := Lib.hid (checknil_walk W)
  go_enter Try.func14, Try.ntmps14
  go_wp2_with (first | (go_at_call 28; refine HC.out.mono ?_; rintro e W2 ⟨rfl, rfl⟩) | fail)
  go_ret2
  exact ⟨rfl, rfl⟩
/-- The law's pick. -/
def pickZ (x n : Int) : Int := Int.tmod (if x < 0 then -(x + 1) else x) n
set_option maxHeartbeats 2000000 in
theorem pick_walk (W : World) (x n : Int) (h1 : -9223372036854775808 ≤ x) (h2 : x ≤ 9223372036854775807) (hn : 1 ≤ n) (hn2 : n ≤ 9223372036854775807) :
    Calls Try.prog 15 #[.int .i64 x, .int .i64 n] W fun e W' => e = .returned (.int .i64 (pickZ x n)) ∧ W = W' := by
  have e0 : (n == 0) = false := by simp; omega
  unfold pickZ
  by_cases h : x < 0
  · have d1 : decide (x < 0) = true := by simp [h]
    rw [if_pos h]
    have w1 : IntKind.i64.wrap (x + 1) = x + 1 := by rw [IntKind.wrap_i64]; omega
    have w2 : IntKind.i64.wrap (-(x + 1)) = -(x + 1) := by rw [IntKind.wrap_i64]; omega
    have w3 : IntKind.i64.wrap (Int.tmod (-(x + 1)) n) = Int.tmod (-(x + 1)) n := by
      have q1 := Int.tmod_nonneg n (show 0 ≤ -(x + 1) by omega)
      have q2 := Int.tmod_lt_of_pos (-(x + 1)) (show 0 < n by omega)
      rw [IntKind.wrap_i64]; omega
    go_enter Try.func15, Try.ntmps15
    go_wp2_with fail
    go_ret
    rw [Int.neg_tmod]; exact ⟨rfl, rfl⟩
  · have d1 : decide (x < 0) = false := by simp; omega
    rw [if_neg h]
    have w3 : IntKind.i64.wrap (Int.tmod x n) = Int.tmod x n := by
      have q1 := Int.tmod_nonneg n (show 0 ≤ x by omega)
      have q2 := Int.tmod_lt_of_pos x (show 0 < n by omega)
      rw [IntKind.wrap_i64]; omega
    go_enter Try.func15, Try.ntmps15
    go_wp2_with fail
    go_ret
    rw [Int.tmod_eq_emod_of_nonneg (by omega)]; exact ⟨rfl, rfl⟩

end Go.Proofs.Ytmpjoncemgangaa
