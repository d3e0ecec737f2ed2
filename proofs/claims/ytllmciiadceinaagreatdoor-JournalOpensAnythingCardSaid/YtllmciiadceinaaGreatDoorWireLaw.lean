/-
  Plain laws of the encodings: what is read is what was written, and only that. No condition; no program is named here.
-/
import Derived.Test.YtllmciiadceinaaGreatDoorWirePlain
namespace Go.Proofs.YtllmciiadceinaaGreatDoor.Wr
open Go

/-- What k bytes of l, each with the high bit, say: z. -/
def ReadTo (l : List UInt8) (k z : Nat) : Prop := z < 128 ^ k ∧ k ≤ l.length ∧ ∀ y f, 0 < y → y < 128 ^ (f + 1) → lebF (k + f) (z + y * 128 ^ k) = l.take k ++ lebF f y

theorem readTo_0 (l : List UInt8) : ReadTo l 0 0 := ⟨by decide, Nat.zero_le _, fun y f _ _ => by simp⟩
theorem ofNat_toNat (b : UInt8) : UInt8.ofNat b.toNat = b := by simp
theorem readTo_more {l : List UInt8} {k z : Nat} {b : UInt8} (h : ReadTo l k z) (hb : l[k]? = some b) (hb1 : 128 ≤ b.toNat) : ReadTo l (k + 1) (z + (b.toNat - 128) * 128 ^ k) := by
  obtain ⟨hz, _, hr⟩ := h
  obtain ⟨hk, he⟩ := List.getElem?_eq_some_iff.1 hb
  have hb2 : b.toNat < 256 := UInt8.toNat_lt _
  refine ⟨group_lt hz (by omega), hk, fun y f hy hf => ?_⟩
  have h1 := hr (b.toNat - 128 + y * 128) (f + 1) (by omega) (by rw [Nat.pow_succ]; omega)
  have e1 : z + (b.toNat - 128) * 128 ^ k + y * 128 ^ (k + 1) = z + (b.toNat - 128 + y * 128) * 128 ^ k := by
    rw [Nat.pow_succ, Nat.add_mul, Nat.mul_comm (128 ^ k) 128, Nat.mul_assoc y 128]; omega
  rw [e1, show k + 1 + f = k + (f + 1) by omega, h1, List.take_succ_eq_append_getElem hk, he]
  obtain ⟨g, hg, e2, _⟩ := lebF_more (f := f + 1) (z := b.toNat - 128 + y * 128) (by omega) (by rw [Nat.pow_succ]; omega)
  obtain rfl : f = g := by omega
  rw [e2, show (b.toNat - 128 + y * 128) % 128 + 128 = b.toNat by omega, show (b.toNat - 128 + y * 128) / 128 = y by omega, ofNat_toNat]
  simp
theorem lebF_short {f z k : Nat} (hk : 0 < k) (hz : z < 128 ^ k) (hf : z < 128 ^ (f + 1)) : (lebF f z).length ≤ k := by
  induction k generalizing f z with
  | zero => omega
  | succ k ih =>
    by_cases h : z < 128
    · simp [lebF_last h]
    · obtain ⟨g, rfl, e, hg⟩ := lebF_more (by omega) hf
      cases k with
      | zero => simp at hz; omega
      | succ k =>
        have := ih (f := g) (z := z / 128) (by omega) (by rw [Nat.pow_succ] at hz; exact Nat.div_lt_of_lt_mul (by rw [Nat.mul_comm]; exact hz)) hg
        rw [e]; simp; omega
/-- Where the last group has been read: the bytes are the encoding just if no group is superfluous. -/
theorem readTo_end {l : List UInt8} {k z : Nat} {b : UInt8} (h : ReadTo l k z) (hk : k < 9) (hb : l[k]? = some b) (hb1 : b.toNat < 128) :
    leb (z + b.toNat * 128 ^ k) = l.take (k + 1) ↔ ¬ (b.toNat = 0 ∧ 0 < k) := by
  obtain ⟨hz, _, hr⟩ := h
  obtain ⟨hkl, he⟩ := List.getElem?_eq_some_iff.1 hb
  have ht : l.take (k + 1) = l.take k ++ [b] := by rw [List.take_succ_eq_append_getElem hkl, he]
  by_cases h0 : b.toNat = 0
  · by_cases hk0 : 0 < k
    · refine ⟨fun e => ?_, fun hn => absurd ⟨h0, hk0⟩ hn⟩
      have hl := lebF_short (f := 9) hk0 hz (Nat.lt_of_lt_of_le hz (Nat.pow_le_pow_right (by decide) (by omega)))
      rw [h0, Nat.zero_mul, Nat.add_zero] at e
      have : (l.take (k + 1)).length = k + 1 := by rw [List.length_take]; omega
      rw [← e] at this
      unfold leb at this
      omega
    · obtain rfl : k = 0 := by omega
      refine ⟨fun _ => by omega, fun _ => ?_⟩
      have hz0 : z = 0 := by simpa using hz
      rw [ht, h0, hz0, ← ofNat_toNat b, h0]
      simp [leb, lebF_last]
  · refine ⟨fun _ hn => h0 hn.1, fun _ => ?_⟩
    have h1 := hr b.toNat (9 - k) (by omega) (Nat.lt_of_lt_of_le hb1 (by rw [Nat.pow_succ]; exact Nat.le_mul_of_pos_left _ (Nat.pow_pos (by decide))))
    rw [show k + (9 - k) = 9 by omega] at h1
    rw [leb, h1, ht, lebF_last hb1, ofNat_toNat]

theorem decI_read {l : List UInt8} {k z : Nat} (hs : ScanTo l k z) (hr : ReadTo l k z) (hk : k ≤ 9) : ∀ {y c : Nat}, decI l = some (y, c) → leb y = l.take c := by
  intro y c h
  by_cases hk9 : k = 9
  · subst hk9; rw [scanTo_nine hs] at h; cases h
  · cases hb : l[k]? with
    | none =>
      have := hr.2.1
      have hl : l.length ≤ k := List.getElem?_eq_none_iff.1 hb
      rw [scanTo_short hs hl] at h; cases h
    | some b =>
      by_cases hb1 : 128 ≤ b.toNat
      · exact decI_read (scanTo_more hs (by omega) hb hb1) (readTo_more hr hb hb1) (by omega) h
      · have he := readTo_end hr (by omega) hb (by omega)
        rw [scanTo_end hs (by omega) hb (by omega)] at h
        split at h
        · cases h
        · rename_i hn
          split at h
          · cases h
          · simp only [Option.some.injEq, Prod.mk.injEq] at h
            obtain ⟨rfl, rfl⟩ := h
            exact he.2 hn
  termination_by 9 - k
theorem decI_unique {l : List UInt8} {y c : Nat} (h : decI l = some (y, c)) : leb y = l.take c := decI_read (scanTo_0 l) (readTo_0 l) (by omega) h

theorem scan_leb {g y i z f : Nat} (rest : List UInt8) (hy : y < 128 ^ (g + 1)) (h0 : 0 < y ∨ i = 0) (hz : z + y * 128 ^ i < 9223372036854775807) (hf : (lebF g y).length ≤ f) :
    scan f i z (lebF g y ++ rest) = some (z + y * 128 ^ i, i + (lebF g y).length) := by
  induction g generalizing y i z f with
  | zero =>
    have hy' : y < 128 := by simpa using hy
    rw [lebF_last hy'] at hf ⊢
    cases f with
    | zero => simp at hf
    | succ f =>
      have e : (UInt8.ofNat y).toNat = y := by simp; omega
      simp only [List.cons_append, List.nil_append, scan, e]
      rw [if_neg (by omega), if_neg (by omega), if_neg (by omega)]
      simp
  | succ g ih =>
    by_cases hy' : y < 128
    · rw [lebF_last hy'] at hf ⊢
      cases f with
      | zero => simp at hf
      | succ f =>
        have e : (UInt8.ofNat y).toNat = y := by simp; omega
        simp only [List.cons_append, List.nil_append, scan, e]
        rw [if_neg (by omega), if_neg (by omega), if_neg (by omega)]
        simp
    · obtain ⟨g', hg', e, hlt⟩ := lebF_more (f := g + 1) (by omega) hy
      obtain rfl : g = g' := by omega
      rw [e] at hf ⊢
      cases f with
      | zero => simp at hf
      | succ f =>
        have e1 : (UInt8.ofNat (y % 128 + 128)).toNat = y % 128 + 128 := by simp; omega
        have e2 : z + (y % 128 + 128 - 128) * 128 ^ i + y / 128 * 128 ^ (i + 1) = z + y * 128 ^ i := by
          rw [Nat.add_sub_cancel, Nat.pow_succ, Nat.mul_comm (128 ^ i) 128, ← Nat.mul_assoc, Nat.add_assoc, ← Nat.add_mul]
          congr 2; omega
        simp only [List.cons_append, scan, e1]
        rw [if_pos (by omega), ih hlt (.inl (by omega)) (by rw [e2]; exact hz) (by simpa using hf), e2]
        simp; omega
theorem leb_length {y : Nat} (h : y < 9223372036854775807) : (leb y).length ≤ 9 := lebF_short (k := 9) (by decide) (Nat.lt_of_lt_of_le h (by decide)) (Nat.lt_of_lt_of_le h (by decide))
theorem decI_leb {y : Nat} (h : y < 9223372036854775807) (rest : List UInt8) : decI (leb y ++ rest) = some (y, (leb y).length) := by
  have := scan_leb (g := 9) (y := y) (i := 0) (z := 0) (f := 9) rest (Nat.lt_of_lt_of_le h (by decide)) (.inr rfl) (by omega) (leb_length h)
  unfold decI leb
  rw [this]; simp
theorem decI_putI {n : Int} (h1 : -maxI ≤ n) (h2 : n ≤ maxI) (rest : List UInt8) : decI (putI n ++ rest) = some (zig n, (putI n).length) := decI_leb (zig_lt h1 h2) rest
theorem leb_pos (y : Nat) : 0 < (leb y).length := by
  simp only [leb, lebF, grpF, List.length_map]; split <;> simp

theorem scan_append {f i z : Nat} {l : List UInt8} {r : Nat × Nat} (rest : List UInt8) (h : scan f i z l = some r) : scan f i z (l ++ rest) = some r := by
  induction f generalizing i z l with
  | zero => simp [scan] at h
  | succ f ih =>
    cases l with
    | nil => simp [scan] at h
    | cons b l =>
      simp only [List.cons_append, scan] at h ⊢
      split at h
      · rename_i hb
        rw [if_pos hb]
        exact ih h
      · rename_i hb
        rw [if_neg hb]
        exact h
theorem decI_append {l : List UInt8} {r : Nat × Nat} (rest : List UInt8) (h : decI l = some r) : decI (l ++ rest) = some r := scan_append rest h
/-- No proper prefix of an encoding is read. -/
theorem decI_prefix {y k : Nat} (h : y < 9223372036854775807) (hk : k < (leb y).length) : decI ((leb y).take k) = none := by
  cases hd : decI ((leb y).take k) with
  | none => rfl
  | some r =>
    obtain ⟨z, c⟩ := r
    have hb := (decI_bd hd).2.2.1
    have h1 := decI_append ((leb y).drop k) hd
    rw [List.take_append_drop] at h1
    have h2 := decI_leb h []
    rw [List.append_nil, h1] at h2
    simp only [Option.some.injEq, Prod.mk.injEq] at h2
    rw [List.length_take] at hb
    omega
theorem zig_inj {a b : Int} (h : zig a = zig b) : a = b := by rw [← unzig_zig a, h, unzig_zig]
/-- The encodings of different integers are no prefixes of each other. -/
theorem putI_prefix {a b : Int} (ha : -maxI ≤ a ∧ a ≤ maxI) (hb : -maxI ≤ b ∧ b ≤ maxI) (h : (putI b).take (putI a).length = putI a) : a = b := by
  have h1 := decI_putI ha.1 ha.2 ((putI b).drop (putI a).length)
  have e : putI a ++ (putI b).drop (putI a).length = putI b := by
    have := List.take_append_drop (putI a).length (putI b)
    rw [h] at this; exact this
  have h2 := decI_putI hb.1 hb.2 []
  rw [List.append_nil] at h2
  rw [e, h2] at h1
  simp only [Option.some.injEq, Prod.mk.injEq] at h1
  exact (zig_inj h1.1).symm

end Go.Proofs.YtllmciiadceinaaGreatDoor.Wr
