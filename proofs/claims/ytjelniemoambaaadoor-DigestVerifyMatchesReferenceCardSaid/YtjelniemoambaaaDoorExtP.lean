/-
  The extension of a beginning is accepted: plainly. No condition.
-/
import Derived.Test.YtjelniemoambaaaDoorFacts
namespace Go.Proofs.YtjelniemoambaaaDoor
open Go

theorem extS_digests (l : List ByteArray) (m : Nat) (wh : Bool) : ∀ x ∈ extS l m wh, x.size = 32 := by
  have h : ∀ (f : Nat) (l : List ByteArray) (m : Nat) (wh : Bool), ∀ x ∈ exF f l m wh, x.size = 32 := by
    intro f
    induction f with
    | zero =>
      intro l m wh x hx
      cases wh
      · rw [List.mem_singleton.1 (show x ∈ [rootS l] from hx)]; exact rootS_size _
      · cases hx
    | succ f ih =>
      intro l m wh x hx
      rw [exF_succ] at hx
      split at hx
      · cases wh
        · rw [List.mem_singleton.1 (show x ∈ [rootS l] from hx)]; exact rootS_size _
        · cases hx
      · split at hx <;> rcases List.mem_append.1 hx with h | h
        · exact ih _ _ _ x h
        · rw [List.mem_singleton.1 h]; exact rootS_size _
        · exact ih _ _ _ x h
        · rw [List.mem_singleton.1 h]; exact rootS_size _
  exact h _ l m wh
theorem allB_of {l : List ByteArray} (h : ∀ x ∈ l, x.size = 32) : allB l = true := by
  unfold allB; rw [List.all_eq_true]; intro x hx; simp [h x hx]
theorem leftN_is_pow (n : Nat) : ∃ e, leftN n = 2 ^ e := ⟨_, rfl⟩

theorem ext_steps : ∀ (n : Nat) (l : List ByteArray), l.length = n → ∀ (m : Nat) (wh : Bool), 1 ≤ m → m ≤ n →
    ∃ (ws : List (ByteArray × Bool)) (z : ByteArray), seS n m (extS l m wh) = some (ws, if (wh && !ws.any (·.2)) = true then [] else [z]) ∧ fstS ws z = rootS (l.take m) ∧ sndS ws z = rootS l ∧ (ws.any (·.2) = false → z = rootS (l.take m)) := by
  intro n
  induction n using Nat.strongRecOn with
  | ind n ih =>
    intro l hl m wh h1 h2
    rcases Nat.lt_or_ge m n with h3 | h3
    · obtain ⟨k0, k1, k2⟩ := leftN_ok (n := n) (by omega)
      obtain ⟨e, he⟩ := leftN_is_pow n
      have hstep := extS_step wh (l := l) h1 (by omega)
      rw [hl] at hstep
      have hroot := rootS_two (l := l) (by omega)
      rw [hl] at hroot
      have ht : (l.take (leftN n)).length = leftN n := by rw [List.length_take]; omega
      have hd : (l.drop (leftN n)).length = n - leftN n := by rw [List.length_drop, hl]
      by_cases hk : m ≤ leftN n
      · rw [if_pos hk] at hstep
        obtain ⟨ws, z, s1, s2, s3, s4⟩ := ih (leftN n) k1 (l.take (leftN n)) ht m wh h1 hk
        rw [List.take_take, Nat.min_eq_left hk] at s2 s4
        refine ⟨(rootS (l.drop (leftN n)), false) :: ws, z, ?_, s2, ?_, by simpa using s4⟩
        · rw [hstep, seS_left _ _ h1 h3 hk, s1]; simp only [Option.map_some, List.any_cons, Bool.false_or]
        · show joinS (rootS (l.drop (leftN n)), false) (sndS ws z) = _
          rw [s3, hroot]; rfl
      · rw [if_neg hk] at hstep
        obtain ⟨ws, z, s1, s2, s3, s4⟩ := ih (n - leftN n) (by omega) (l.drop (leftN n)) hd (m - leftN n) false (by omega) (by omega)
        refine ⟨(rootS (l.take (leftN n)), true) :: ws, z, ?_, ?_, ?_, fun h => by simp at h⟩
        · rw [hstep, seS_right _ _ h1 h3 hk, s1]; simp
        · show joinS (rootS (l.take (leftN n)), true) (fstS ws z) = _
          rw [s2]
          have hsp : l.take m = l.take (leftN n) ++ (l.drop (leftN n)).take (m - leftN n) := by
            rw [← List.take_add, show leftN n + (m - leftN n) = m by omega]
          have hr := rootS_append (a := l.take (leftN n)) (b := (l.drop (leftN n)).take (m - leftN n)) (e := e) (by rw [ht, he]) (by rw [List.length_take]; omega) (by rw [List.length_take, ← he]; omega)
          rw [hsp, hr]; rfl
        · show joinS (rootS (l.take (leftN n)), true) (sndS ws z) = _
          rw [s3, hroot]; rfl
    · obtain rfl : m = n := by omega
      have ht : l.take m = l := List.take_of_length_le (by omega)
      refine ⟨[], rootS l, ?_, by rw [ht]; rfl, rfl, fun _ => by rw [ht]⟩
      rw [extS_done wh (by omega), seS_one _ (Nat.le_refl _)]
      cases wh <;> rfl

/-- THE EXTENSION OF A BEGINNING IS ACCEPTED. -/
theorem ext_accepted (l : List ByteArray) (m : Nat) (h1 : 1 ≤ m) (h2 : m ≤ l.length) : verE (rootS (l.take m)) m (rootS l) l.length (extS l m true) = true := by
  obtain ⟨ws, z, s1, s2, s3, s4⟩ := ext_steps l.length l rfl m true h1 h2
  unfold verE
  rw [if_neg (by
    rintro (h | h | h | h | h)
    · omega
    · omega
    · rw [allB_of (extS_digests l m true)] at h; cases h
    · exact h (rootS_size _)
    · exact h (rootS_size _)), if_neg (by omega)]
  by_cases h3 : (m : Int) = (l.length : Int)
  · rw [if_pos h3]
    have h4 : m = l.length := by omega
    rw [extS_done true (by omega), h4, List.take_length]
    simp
  · rw [if_neg h3, Int.toNat_natCast, Int.toNat_natCast, s1]
    by_cases hany : ws.any (·.2) = true
    · simp [veR, hany, s2, s3]
    · have hany : ws.any (·.2) = false := by simpa using hany
      have hz := s4 hany
      rw [hz] at s2 s3
      simp [veR, hany, s2, s3]
theorem ext_accepted_zero (root : ByteArray) (n : Nat) (hr : root.size = 32) : verE (rootS []) 0 root n [] = true := by
  unfold verE
  rw [if_neg (by
    rintro (h | h | h | h | h)
    · omega
    · omega
    · cases h
    · exact h (rootS_size _)
    · exact h hr), if_pos rfl, rootS_nil]
  simp

end Go.Proofs.YtjelniemoambaaaDoor
