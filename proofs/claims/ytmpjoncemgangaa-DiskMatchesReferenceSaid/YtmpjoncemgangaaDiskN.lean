/-
  The reference's has. Conditions: each contract's own.
-/
import Derived.Test.YtmpjoncemgangaaDiskM
namespace Go.Proofs.Ytmpjoncemgangaa
open Go Go.RowKit

def iv (z : Int) : Value := .int .i64 z
set_option maxRecDepth 20000 in
set_option maxHeartbeats 2000000 in
theorem has_walk (W : World) (A : Option Addr) (l : List Int) (n c : Nat) (x : Int) (hl : l.length = n) (hn : n ≤ 9223372036854775807) (hA : LAt W W.heap.size A iv l) :
    Calls Try.prog 43 #[.slice A n c, .int .i64 x] W fun e W' => e = .returned (.bool (decide (x ∈ l))) ∧ W = W' := by
  go_enter Try.func43, Try.ntmps43
  go_wp2_with fail
  go_loopw [5] (fun v wr => ∃ k : Nat, k ≤ n ∧ v = .int .i64 k ∧ ¬ x ∈ l.take k ∧ W = wr) (fun v _ => n - (intOf v).toNat)
  case atStart => exact ⟨0, by omega, rfl, by simp, rfl⟩
  case round =>
    obtain ⟨k, hk, rfl, hx, rfl⟩ := hrel
    by_cases hlt : k < n
    · have d1 : decide ((k : Int) < (n : Int)) = true := by simp [hlt]
      obtain ⟨a, rfl, hab, hac⟩ := hA.get (i := k) (by omega)
      obtain ⟨y, hy⟩ : ∃ y, l[k]'(by omega) = y := ⟨_, rfl⟩
      rw [hy] at hac
      unfold iv at hac
      have hnx : l.take (k + 1) = l.take k ++ [y] := by rw [List.take_succ_eq_append_getElem (by omega), hy]
      have hml : y ∈ l := by rw [← hy]; exact List.getElem_mem _
      have w2 : IntKind.i64.wrap ((k : Int) + 1) = ((k + 1 : Nat) : Int) := by rw [IntKind.wrap_i64]; omega
      have y3 : (0 : Int) ≤ (k : Int) := by omega
      have y4 : (k : Int) < (n : Int) := by omega
      by_cases hyx : y = x
      · have e1 : (y == x) = true := by simp [hyx]
        have HM := Lib.hid (show decide (x ∈ l) = true by rw [← hyx]; simp [hml])
        clear hA hl hx hy hnx hml hyx
        go_wp2_with fail
        go_ret
        rw [HM.out]
        exact ⟨rfl, rfl⟩
      · have e1 : (y == x) = false := by simp [hyx]
        have HN := Lib.hid (show ¬ x ∈ l.take (k + 1) by rw [hnx]; simp [hx]; exact fun q => hyx q.symm)
        clear hA hl hx hy hnx hml hyx
        go_wp2_with fail
        exact ⟨⟨k + 1, by omega, rfl, HN.out, trivial⟩, by simp [intOf]; omega⟩
    · obtain rfl : k = n := by omega
      have d1 : decide ((k : Int) < (k : Int)) = false := by simp
      have HM := Lib.hid (show decide (x ∈ l) = false by rw [List.take_of_length_le (by omega)] at hx; simp [hx])
      clear hA hl hx
      go_wp2_with fail
      go_ret
      rw [HM.out]
      exact ⟨rfl, rfl⟩

end Go.Proofs.Ytmpjoncemgangaa
