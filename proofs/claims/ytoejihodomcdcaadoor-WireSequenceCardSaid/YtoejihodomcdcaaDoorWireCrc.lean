/-
  Plain laws of the checksum's register. No condition; no program is named here.
-/
import Derived.Test.YtoejihodomcdcaaDoorWirePlain
namespace Go.Proofs.YtoejihodomcdcaaDoor
open Go

theorem xor_half (a b : Nat) : (a ^^^ b) / 2 = (a / 2) ^^^ (b / 2) := Nat.xor_div_two
theorem xor4 (a b c d : Nat) : (a ^^^ b) ^^^ (c ^^^ d) = (a ^^^ c) ^^^ (b ^^^ d) := by
  rw [Nat.xor_assoc, Nat.xor_assoc, ← Nat.xor_assoc b, Nat.xor_comm b c, Nat.xor_assoc c]
theorem bitStep_xor (a b : Nat) : bitStep (a ^^^ b) = bitStep a ^^^ bitStep b := by
  have h : (a ^^^ b) % 2 = (a + b) % 2 := by
    have h1 := Nat.xor_mod_two_eq_one (a := a) (b := b)
    omega
  unfold bitStep
  rw [xor_half]
  rcases Nat.mod_two_eq_zero_or_one a with ha | ha <;> rcases Nat.mod_two_eq_zero_or_one b with hb | hb
  · rw [if_neg (by omega), if_neg (by omega), if_neg (by omega)]
  · rw [if_pos (by omega), if_neg (by omega), if_pos (by omega), Nat.xor_assoc]
  · rw [if_pos (by omega), if_pos (by omega), if_neg (by omega), Nat.xor_assoc, Nat.xor_assoc, Nat.xor_comm (b / 2)]
  · rw [if_neg (by omega), if_pos (by omega), if_pos (by omega), xor4, Nat.xor_self, Nat.xor_zero]
def bits4 (r : Nat) : Nat := bitStep (bitStep (bitStep (bitStep r)))
theorem bits4_xor (a b : Nat) : bits4 (a ^^^ b) = bits4 a ^^^ bits4 b := by unfold bits4; rw [bitStep_xor, bitStep_xor, bitStep_xor, bitStep_xor]
theorem bitStep_even (a : Nat) : bitStep (2 * a) = a := by unfold bitStep; rw [if_neg (by omega)]; omega
theorem bits4_high (h : Nat) : bits4 (h * 16) = h := by
  unfold bits4
  rw [show h * 16 = 2 * (2 * (2 * (2 * h))) by omega, bitStep_even, bitStep_even, bitStep_even, bitStep_even]
theorem bits4_low : ∀ i, i < 16 → bits4 i = crcTab.getD i 0 := by decide
/-- Four steps of the register are one of the table's. -/
theorem nib_bits (r : Nat) : bits4 r = nib r := by
  have hr : r = (r / 16 * 16) ^^^ (r % 16) := by
    have h1 : (r / 16 * 16) ||| (r % 16) = r / 16 * 16 + r % 16 := nat_join 4 _ _ (by omega) (by omega)
    have h2 : (r / 16 * 16) &&& (r % 16) = 0 := by
      apply Nat.eq_of_testBit_eq
      intro i
      rw [Nat.testBit_and, Nat.zero_testBit]
      by_cases hi : i < 4
      · have : (r / 16 * 16).testBit i = false := by
          rw [show r / 16 * 16 = 2 ^ 4 * (r / 16) by omega, Nat.testBit_two_pow_mul]; simp; omega
        simp [this]
      · have : (r % 16).testBit i = false := Nat.testBit_lt_two_pow (Nat.lt_of_lt_of_le (show r % 16 < 2 ^ 4 by omega) (Nat.pow_le_pow_right (by decide) (by omega)))
        simp [this]
    have h3 : (r / 16 * 16) ^^^ (r % 16) = (r / 16 * 16) ||| (r % 16) := by
      apply Nat.eq_of_testBit_eq
      intro i
      have := congrArg (fun x => x.testBit i) h2
      simp only [Nat.testBit_and, Nat.zero_testBit] at this
      rw [Nat.testBit_xor, Nat.testBit_or]
      cases h5 : (r / 16 * 16).testBit i <;> cases h6 : (r % 16).testBit i <;> simp_all
    rw [h3, h1]; omega
  conv => lhs; rw [hr]
  rw [bits4_xor, bits4_high, bits4_low _ (by omega)]
  rfl
theorem nib_xor (a b : Nat) : nib (a ^^^ b) = nib a ^^^ nib b := by rw [← nib_bits, ← nib_bits, ← nib_bits, bits4_xor]
theorem upd_bits (r b : Nat) : upd r b = bits4 (bits4 (r ^^^ b)) := by unfold upd; rw [nib_bits, nib_bits]
/-- k steps of the register. -/
def bitSteps : Nat → Nat → Nat
  | 0, r => r
  | k + 1, r => bitStep (bitSteps k r)
theorem bitSteps_8 (r : Nat) : bitSteps 8 r = bits4 (bits4 r) := rfl
theorem bitStep_lt {r : Nat} (h : r < 4294967296) : bitStep r < 4294967296 := by
  unfold bitStep; split
  · exact xor_lt32 (by omega) (by decide)
  · omega
theorem bitSteps_lt {r : Nat} (h : r < 4294967296) (k : Nat) : bitSteps k r < 4294967296 := by
  induction k with
  | zero => exact h
  | succ k ih => exact bitStep_lt ih

end Go.Proofs.YtoejihodomcdcaaDoor
