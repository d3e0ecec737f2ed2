/-
  The law's put and cut. Conditions: each contract's own.
-/
import Derived.Test.YtmpjoncemgangaaDiskN
namespace Go.Proofs.Ytmpjoncemgangaa
open Go Go.RowKit

set_option maxHeartbeats 2000000 in
theorem put_walk (W : World) (g n off : Nat) (l : List UInt8) (s : ByteArray) (hr : RAt W g bv l) (hl : l.length = n) (hfit : off + s.size ≤ n) (hn : n ≤ 4194304) :
    Calls Try.prog 27 #[.slice (some ⟨g, 0, none⟩) n n, .int .i64 off, .string s] W fun e W' => e = .returned (.tuple #[]) ∧ RAt W' g bv (patch l off s.data.toList) ∧ Turns (fun k => k = g) W W' := by
  have HR := Lib.hid hr
  clear hr
  go_enter Try.func27, Try.ntmps27
  go_wp2_with fail
  go_loopw [6] (fun v wr => ∃ k : Nat, k ≤ s.size ∧ v = .int .i64 k ∧ RAt wr g bv (patch l off (s.data.toList.take k)) ∧ Turns (fun k => k = g) W wr) (fun v _ => s.size - (intOf v).toNat)
  case atStart => exact ⟨0, by omega, rfl, by rw [List.take_zero, patch_nil]; exact HR.out, Turns.refl _ _⟩
  case round =>
    obtain ⟨k, hk, rfl, hrk, htk⟩ := hrel
    have hsl : s.data.toList.length = s.size := by simp
    have hpl : (patch l off (s.data.toList.take k)).length = n := by rw [patch_length (by rw [List.length_take]; omega)]; exact hl
    have HT := Lib.hid htk
    by_cases hlt : k < s.size
    · have d1 : decide ((k : Int) < (s.size : Int)) = true := by simp [hlt]
      obtain ⟨p, hp⟩ : ∃ p, off + k = p := ⟨_, rfl⟩
      have w1 : IntKind.i64.wrap ((off : Int) + (k : Int)) = (p : Int) := by rw [IntKind.wrap_i64]; omega
      have w2 : IntKind.i64.wrap ((k : Int) + 1) = ((k + 1 : Nat) : Int) := by rw [IntKind.wrap_i64]; omega
      have y1 : (0 : Int) ≤ (p : Int) := by omega
      have y2 : (p : Int) < (n : Int) := by omega
      have y3 : (0 : Int) ≤ (k : Int) := by omega
      have y4 : (k : Int) < (s.size : Int) := by omega
      obtain ⟨u, c1⟩ : ∃ u, wr.cell? ⟨g, p, none⟩ = some u := ⟨_, hrk.get (i := p) (by omega)⟩
      have f1 := hrk.free p (by omega)
      have HN : Hid (RAt (wr.setCell ⟨g, p, none⟩ (bv (s.data.toList[k]'(by omega)))) g bv (patch l off (s.data.toList.take (k + 1)))) := Lib.hid (by
        have := hrk.setv p (by omega) (s.data.toList[k]'(by omega)) _ rfl
        rw [← patch_snoc (by omega) (by omega), hp]
        exact this)
      obtain ⟨y, hy⟩ : ∃ y, s.data.toList[k]'(by omega) = y := ⟨_, rfl⟩
      rw [hy] at HN
      have HY := Lib.hid (show s.data.toList[k]? = some y by rw [List.getElem?_eq_getElem (by omega), hy])
      have HW := Lib.hid (And.intro (show k + 1 ≤ s.size from hlt) hp)
      clear hy hrk hpl hsl htk hk hl hfit hp
      go_wp2_with fail
      have hyk : s[k] = y := by
        have := HY.out
        rw [List.getElem?_eq_getElem (by simpa using hlt)] at this
        exact Option.some.inj this
      refine ⟨⟨k + 1, HW.out.1, rfl, ?_, HT.out.trans (Turns.setCell wr ⟨g, p, none⟩ _ rfl)⟩, by simp [intOf]; omega⟩
      rw [hyk]
      exact HN.out
    · obtain rfl : k = s.size := by omega
      have d1 : decide ((s.size : Int) < (s.size : Int)) = false := by simp
      have HN := Lib.hid hrk
      have hta : s.data.toList.take s.size = s.data.toList := List.take_of_length_le (by omega)
      clear hrk hpl hsl htk
      go_wp2_with fail
      go_end0
      have := HN.out
      rw [hta] at this
      exact ⟨rfl, this, HT.out⟩

/-- The law's cut: the first n bytes of s. -/
def lcut (s : ByteArray) (n : Nat) : ByteArray := s.extract 0 (min s.size n)
set_option maxHeartbeats 2000000 in
theorem lcut_walk (W : World) (s : ByteArray) (n : Nat) (hs : s.size ≤ 9223372036854775807) : Calls Try.prog 22 #[.string s, .int .i64 n] W fun e W' => e = .returned (.string (lcut s n)) ∧ W = W' := by
  unfold lcut
  by_cases h : n ≤ s.size
  · rw [Nat.min_eq_right h]
    have m3 : (n : Int) < (s.size : Int) ∨ (n : Int) = (s.size : Int) := by omega
    have y3 : (0 : Int) ≤ (n : Int) := by omega
    have y4 : (n : Int) ≤ (s.size : Int) := by omega
    go_enter Try.func22, Try.ntmps22
    go_wp2_with fail
    all_goals go_ret
    all_goals first | exact ⟨rfl, rfl⟩ | (refine ⟨?_, rfl⟩; rw [show s.extract 0 n = s by (rw [show n = s.size by omega]; simp)]; rfl)
  · rw [Nat.min_eq_left (by omega)]
    have y3 : (0 : Int) ≤ (s.size : Int) := by omega
    have y4 : ¬ (n : Int) ≤ (s.size : Int) := by omega
    have y5 : (s.size : Int) ≤ (n : Int) := by omega
    go_enter Try.func22, Try.ntmps22
    go_wp2_with fail
    all_goals go_ret
    all_goals first | exact ⟨rfl, rfl⟩ | (refine ⟨?_, rfl⟩; rw [show s.extract 0 s.size = s by simp]; rfl)

end Go.Proofs.Ytmpjoncemgangaa
