/-
  The proof of an entry is accepted, is short, and no other length is: plainly. No condition.
-/
import Derived.Test.YtjelniemoambaaaDoorLawExt
namespace Go.Proofs.YtjelniemoambaaaDoor
open Go

theorem st_steps : ∀ (n : Nat) (l : List ByteArray) (i : Nat) (hl : l.length = n) (hi : i < n), ∃ ws, stS n i (proofS l i) = some (ws, []) ∧ ws.foldr joinS (leafS (l[i]'(by omega))) = rootS l := by
  intro n
  induction n using Nat.strongRecOn with
  | ind n ih =>
    intro l i hl hi
    rcases Nat.lt_or_ge n 2 with h2 | h2
    · match l, hl with
      | [], hl => simp at hl; omega
      | [x], hl =>
        obtain rfl : i = 0 := by simp at hl; omega
        exact ⟨[], by rw [proofS_one (by simp), stS_one _ _ (by omega)], rfl⟩
      | _ :: _ :: _, hl => simp at hl; omega
    · obtain ⟨k0, k1, k2⟩ := leftN_ok h2
      have hp := proofS_two i (l := l) (by omega)
      have hr := rootS_two (l := l) (by omega)
      rw [hl] at hp hr
      have ht : (l.take (leftN n)).length = leftN n := by rw [List.length_take]; omega
      have hd : (l.drop (leftN n)).length = n - leftN n := by rw [List.length_drop, hl]
      by_cases hk : i < leftN n
      · rw [if_pos hk] at hp
        obtain ⟨ws, s1, s2⟩ := ih (leftN n) k1 (l.take (leftN n)) i ht hk
        refine ⟨(rootS (l.drop (leftN n)), false) :: ws, ?_, ?_⟩
        · rw [hp, stS_left _ _ h2 hk, s1]; rfl
        · rw [List.getElem_take] at s2
          show joinS (rootS (l.drop (leftN n)), false) (ws.foldr joinS _) = _
          rw [s2, hr]; rfl
      · rw [if_neg hk] at hp
        obtain ⟨ws, s1, s2⟩ := ih (n - leftN n) (by omega) (l.drop (leftN n)) (i - leftN n) hd (by omega)
        refine ⟨(rootS (l.take (leftN n)), true) :: ws, ?_, ?_⟩
        · rw [hp, stS_right _ _ h2 hk, s1]; rfl
        · rw [List.getElem_drop] at s2
          have e : l[leftN n + (i - leftN n)]'(by omega) = l[i]'(by omega) := by congr 1; omega
          rw [e] at s2
          show joinS (rootS (l.take (leftN n)), true) (ws.foldr joinS _) = _
          rw [s2, hr]; rfl
theorem st_len : ∀ (n : Nat) (l : List ByteArray) (i : Nat), l.length = n → i < n → ∀ q : List ByteArray,
    (q.length < (proofS l i).length → stS n i q = none) ∧ ((proofS l i).length ≤ q.length → ∃ ws rest, stS n i q = some (ws, rest) ∧ rest.length + (proofS l i).length = q.length) := by
  intro n
  induction n using Nat.strongRecOn with
  | ind n ih =>
    intro l i hl hi q
    rcases Nat.lt_or_ge n 2 with h2 | h2
    · rw [proofS_one (by omega)]
      refine ⟨fun h => by simp at h, fun _ => ⟨[], q, stS_one _ _ (by omega), by simp⟩⟩
    · obtain ⟨k0, k1, k2⟩ := leftN_ok h2
      have hp := proofS_two i (l := l) (by omega)
      rw [hl] at hp
      have ht : (l.take (leftN n)).length = leftN n := by rw [List.length_take]; omega
      have hd : (l.drop (leftN n)).length = n - leftN n := by rw [List.length_drop, hl]
      rcases nil_or_snoc q with rfl | ⟨q, x, rfl⟩
      · refine ⟨fun _ => stS_nil i h2, fun h => ?_⟩
        rw [hp] at h
        split at h <;> simp at h
      · by_cases hk : i < leftN n
        · rw [if_pos hk] at hp
          obtain ⟨a, b⟩ := ih (leftN n) k1 (l.take (leftN n)) i ht hk q
          rw [hp, stS_left _ _ h2 hk]
          simp only [List.length_append, List.length_singleton]
          refine ⟨fun h => by rw [a (by omega)]; rfl, fun h => ?_⟩
          obtain ⟨ws, rest, e1, e2⟩ := b (by omega)
          exact ⟨_, rest, by rw [e1]; rfl, by omega⟩
        · rw [if_neg hk] at hp
          obtain ⟨a, b⟩ := ih (n - leftN n) (by omega) (l.drop (leftN n)) (i - leftN n) hd (by omega) q
          rw [hp, stS_right _ _ h2 hk]
          simp only [List.length_append, List.length_singleton]
          refine ⟨fun h => by rw [a (by omega)]; rfl, fun h => ?_⟩
          obtain ⟨ws, rest, e1, e2⟩ := b (by omega)
          exact ⟨_, rest, by rw [e1]; rfl, by omega⟩
theorem verB_in (root : ByteArray) (n i : Nat) (s : ByteArray) (p : List ByteArray) (hi : i < n) (hp : ∀ x ∈ p, x.size = 32) :
    verB root n i s p = match stS n i p with | none => false | some (ws, rest) => decide (rest = []) && decide (ws.foldr joinS (leafS s) = root) := by
  unfold verB
  rw [if_neg (by
    rintro (h | h | h)
    · omega
    · omega
    · rw [allB_of hp] at h; cases h), Int.toNat_natCast, Int.toNat_natCast]
  rfl
/-- THE PROOF OF AN ENTRY IS ACCEPTED. -/
theorem proof_accepted (l : List ByteArray) (i : Nat) (hi : i < l.length) : verB (rootS l) l.length i l[i] (proofS l i) = true := by
  obtain ⟨ws, s1, s2⟩ := st_steps l.length l i rfl hi
  rw [verB_in _ _ _ _ _ hi (proofS_digests l i), s1]
  simp [s2]
/-- A PROOF OF ANOTHER LENGTH IS NOT. -/
theorem proof_other (l : List ByteArray) (i : Nat) (hi : i < l.length) (root s : ByteArray) (q : List ByteArray) (hq : q.length ≠ (proofS l i).length) (hd : ∀ x ∈ q, x.size = 32) : verB root l.length i s q = false := by
  obtain ⟨a, b⟩ := st_len l.length l i rfl hi q
  rw [verB_in _ _ _ _ _ hi hd]
  rcases Nat.lt_or_ge q.length (proofS l i).length with h | h
  · rw [a h]
  · obtain ⟨ws, rest, e1, e2⟩ := b h
    rw [e1]
    have : rest ≠ [] := fun e => by rw [e] at e2; simp at e2; omega
    simp [this]
theorem pfF_short : ∀ (d f : Nat) (l : List ByteArray) (i : Nat), l.length ≤ 2 ^ d → (pfF f l i).length ≤ d := by
  intro d
  induction d with
  | zero =>
    intro f l i hl
    cases f with
    | zero => simp [pfF]
    | succ f => simp only [pfF]; rw [if_pos (by omega)]; simp
  | succ d ih =>
    intro f l i hl
    cases f with
    | zero => simp [pfF]
    | succ f =>
      simp only [pfF]
      split
      · simp
      · obtain ⟨k0, k1, k2⟩ := leftN_ok (n := l.length) (by omega)
        obtain ⟨e, he⟩ := leftN_is_pow l.length
        have hk : leftN l.length ≤ 2 ^ d := by
          rw [he] at k1 ⊢
          have : e < d + 1 := (Nat.pow_lt_pow_iff_right (by decide)).1 (Nat.lt_of_lt_of_le k1 hl)
          exact Nat.pow_le_pow_right (by decide) (by omega)
        split
        · have := ih f (l.take (leftN l.length)) i (by rw [List.length_take]; omega)
          rw [List.length_append]; simp; omega
        · have := ih f (l.drop (leftN l.length)) (i - leftN l.length) (by rw [List.length_drop]; omega)
          rw [List.length_append]; simp; omega
theorem proofS_binN (l : List ByteArray) (i : Nat) : (proofS l i).length ≤ binN l.length := pfF_short _ _ l i (Nat.le_of_lt (binN_lt _))

end Go.Proofs.YtjelniemoambaaaDoor
