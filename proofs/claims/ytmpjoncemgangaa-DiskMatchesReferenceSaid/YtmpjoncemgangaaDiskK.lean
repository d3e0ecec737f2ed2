/-
  The reference's apply. Conditions: each contract's own.
-/
import Derived.Test.YtmpjoncemgangaaDiskJ
namespace Go.Proofs.Ytmpjoncemgangaa
open Go Go.RowKit

theorem patch_snoc {l : List UInt8} {off : Nat} {s : List UInt8} {k : Nat} (hk : k < s.length) (hs : off + s.length ≤ l.length) : (patch l off (s.take k)).set (off + k) s[k] = patch l off (s.take (k + 1)) := by
  have h1 : (s.take k).length = k := by rw [List.length_take]; omega
  have h2 : (s.take (k + 1)).length = k + 1 := by rw [List.length_take]; omega
  refine List.ext_getElem? fun i => ?_
  rw [List.getElem?_set, patch_get (by omega), patch_get (by omega), patch_length (by omega), h1, h2]
  by_cases e : off + k = i
  · subst e
    rw [if_pos rfl, if_pos (by omega), if_pos (by omega), List.getElem?_take_of_lt (by omega), Nat.add_sub_cancel_left, List.getElem?_eq_getElem hk]
  · rw [if_neg e]
    by_cases c : off ≤ i ∧ i < off + k
    · rw [if_pos c, if_pos (by omega), List.getElem?_take_of_lt (by omega), List.getElem?_take_of_lt (by omega)]
    · rw [if_neg c, if_neg (by omega)]

set_option maxHeartbeats 2000000 in
theorem apply_walk (W : World) (g n off : Nat) (l : List UInt8) (s : ByteArray) (hr : RAt W g bv l) (hl : l.length = n) (hfit : off + s.size ≤ n) (hn : n ≤ 4194304) :
    Calls Try.prog 44 #[.slice (some ⟨g, 0, none⟩) n n, .int .i64 off, .string s] W fun e W' => e = .returned (.tuple #[]) ∧ RAt W' g bv (patch l off s.data.toList) ∧ Turns (fun k => k = g) W W' := by
  have HR := Lib.hid hr
  clear hr
  go_enter Try.func44, Try.ntmps44
  go_wp2_with fail
  go_loopw [6] (fun v wr => ∃ k : Nat, k ≤ s.size ∧ v = .int .i64 k ∧ RAt wr g bv (patch l off (s.data.toList.take k)) ∧ Turns (fun k => k = g) W wr) (fun v _ => s.size - (intOf v).toNat)
  case atStart => exact ⟨0, by omega, rfl, by rw [List.take_zero, patch_nil]; exact HR.out, Turns.refl _ _⟩
  case round =>
    obtain ⟨k, hk, rfl, hrk, htk⟩ := hrel
    have hsl : s.data.toList.length = s.size := by simp
    have hpl : (patch l off (s.data.toList.take k)).length = n := by rw [patch_length (by rw [List.length_take]; omega)]; exact hl
    have HT := Lib.hid htk
    by_cases hlt : k < s.size
    · have d1 : decide ((k : Int) < (s.size : Int)) = true := by simp [hlt]
      obtain ⟨p, hp⟩ : ∃ p, off + k = p := ⟨_, rfl⟩
      have w1 : IntKind.i64.wrap ((off : Int) + (k : Int)) = (p : Int) := by rw [IntKind.wrap_i64]; omega
      have w2 : IntKind.i64.wrap ((k : Int) + 1) = ((k + 1 : Nat) : Int) := by rw [IntKind.wrap_i64]; omega
      have y1 : (0 : Int) ≤ (p : Int) := by omega
      have y2 : (p : Int) < (n : Int) := by omega
      have y3 : (0 : Int) ≤ (k : Int) := by omega
      have y4 : (k : Int) < (s.size : Int) := by omega
      obtain ⟨u, c1⟩ : ∃ u, wr.cell? ⟨g, p, none⟩ = some u := ⟨_, hrk.get (i := p) (by omega)⟩
      have f1 := hrk.free p (by omega)
      have HN : Hid (RAt (wr.setCell ⟨g, p, none⟩ (bv (s.data.toList[k]'(by omega)))) g bv (patch l off (s.data.toList.take (k + 1)))) := Lib.hid (by
        have := hrk.setv p (by omega) (s.data.toList[k]'(by omega)) _ rfl
        rw [← patch_snoc (by omega) (by omega), hp]
        exact this)
      obtain ⟨y, hy⟩ : ∃ y, s.data.toList[k]'(by omega) = y := ⟨_, rfl⟩
      rw [hy] at HN
      have HY := Lib.hid (show s.data.toList[k]? = some y by rw [List.getElem?_eq_getElem (by omega), hy])
      have HW := Lib.hid (And.intro (show k + 1 ≤ s.size from hlt) hp)
      clear hy hrk hpl hsl htk hk hl hfit hp
      go_wp2_with fail
      have hyk : s[k] = y := by
        have := HY.out
        rw [List.getElem?_eq_getElem (by simpa using hlt)] at this
        exact Option.some.inj this
      refine ⟨⟨k + 1, HW.out.1, rfl, ?_, HT.out.trans (Turns.setCell wr ⟨g, p, none⟩ _ rfl)⟩, by simp [intOf]; omega⟩
      rw [hyk]
      exact HN.out
    · obtain rfl : k = s.size := by omega
      have d1 : decide ((s.size : Int) < (s.size : Int)) = false := by simp
      have HN := Lib.hid hrk
      have hta : s.data.toList.take s.size = s.data.toList := List.take_of_length_le (by omega)
      clear hrk hpl hsl htk
      go_wp2_with fail
      go_end0
      have := HN.out
      rw [hta] at this
      exact ⟨rfl, this, HT.out⟩

end Go.Proofs.Ytmpjoncemgangaa
