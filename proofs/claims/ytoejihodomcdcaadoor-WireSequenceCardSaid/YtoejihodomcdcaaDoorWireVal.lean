/-
  Plain laws of the checksum: it is affine, and a burst of at most 32 bits changes it. No condition; no program is named here.
-/
import Derived.Test.YtoejihodomcdcaaDoorWireCrc
namespace Go.Proofs.YtoejihodomcdcaaDoor
open Go

/-- The bits of a list of bytes, the lowest one of the first byte first, as one number. -/
def val : List UInt8 → Nat
  | [] => 0
  | b :: l => b.toNat ^^^ (val l * 256)

theorem xor_twice (a b : Nat) : a ^^^ (a ^^^ b) = b := by rw [← Nat.xor_assoc, Nat.xor_self, Nat.zero_xor]
theorem xor_three (i a b c : Nat) : i ^^^ (a ^^^ b ^^^ c) = (i ^^^ a) ^^^ (i ^^^ b) ^^^ (i ^^^ c) := by
  rw [xor4 i a, Nat.xor_self, Nat.zero_xor]; ac_rfl
theorem bitStep_zero : bitStep 0 = 0 := rfl
theorem bitSteps_xor (k a b : Nat) : bitSteps k (a ^^^ b) = bitSteps k a ^^^ bitSteps k b := by
  induction k with
  | zero => rfl
  | succ k ih => simp only [bitSteps, ih, bitStep_xor]
theorem bitSteps_mul (k a : Nat) : bitSteps k (a * 2 ^ k) = a := by
  induction k generalizing a with
  | zero => simp [bitSteps]
  | succ k ih => rw [bitSteps, show a * 2 ^ (k + 1) = (a * 2) * 2 ^ k by rw [Nat.pow_succ, Nat.mul_assoc, Nat.mul_comm 2], ih, Nat.mul_comm, bitStep_even]
theorem bitSteps_add (j k r : Nat) : bitSteps (j + k) r = bitSteps k (bitSteps j r) := by
  induction k with
  | zero => rfl
  | succ k ih => rw [show j + (k + 1) = (j + k) + 1 by omega, bitSteps, ih, bitSteps]
theorem bitSteps_zero (k : Nat) : bitSteps k 0 = 0 := by
  induction k with
  | zero => rfl
  | succ k ih => rw [bitSteps, ih, bitStep_zero]
theorem foldl_val (l : List UInt8) (r : Nat) : l.foldl (fun r b => upd r b.toNat) r = bitSteps (8 * l.length) (r ^^^ val l) := by
  induction l generalizing r with
  | nil => simp [val, bitSteps]
  | cons b l ih =>
    rw [List.foldl_cons, ih, upd_bits, ← bitSteps_8, List.length_cons, show 8 * (l.length + 1) = 8 + 8 * l.length by omega, bitSteps_add]
    congr 1
    rw [val, ← Nat.xor_assoc, bitSteps_xor 8 (r ^^^ b.toNat), show val l * 256 = val l * 2 ^ 8 from rfl, bitSteps_mul]
theorem crcN_val (l : List UInt8) : crcN l = bitSteps (8 * l.length) (4294967295 ^^^ val l) := foldl_val l _

theorem bitStep_nonzero {r : Nat} (h : r < 4294967296) (h0 : r ≠ 0) : bitStep r ≠ 0 := by
  unfold bitStep
  split
  · intro e
    have h1 := xor_twice (r / 2) 2197175160
    rw [e, Nat.xor_zero] at h1
    omega
  · omega
theorem bitSteps_nonzero {r : Nat} (h : r < 4294967296) (h0 : r ≠ 0) (k : Nat) : bitSteps k r ≠ 0 := by
  induction k with
  | zero => exact h0
  | succ k ih => exact bitStep_nonzero (bitSteps_lt h k) ih

/-- A change of the bits W from a place on changes the register just if W is not zero. -/
theorem crcN_burst {l m : List UInt8} {W k : Nat} (hlen : m.length = l.length) (hW : W < 4294967296) (hk : k ≤ 8 * l.length) (hv : val m = val l ^^^ (W * 2 ^ k)) :
    crcN m = crcN l ↔ W = 0 := by
  rw [crcN_val, crcN_val, hlen, hv, ← Nat.xor_assoc, bitSteps_xor]
  have e : bitSteps (8 * l.length) (W * 2 ^ k) = bitSteps (8 * l.length - k) W := by
    rw [show 8 * l.length = k + (8 * l.length - k) by omega, bitSteps_add, bitSteps_mul]
    congr 1; omega
  rw [e]
  constructor
  · intro h
    have h2 : bitSteps (8 * l.length - k) W = 0 := by
      have := congrArg (fun x => bitSteps (8 * l.length) (4294967295 ^^^ val l) ^^^ x) h
      simp only [← Nat.xor_assoc, Nat.xor_self, Nat.zero_xor] at this
      exact this
    exact Classical.byContradiction fun h0 => bitSteps_nonzero hW h0 _ h2
  · intro h; rw [h, bitSteps_zero, Nat.xor_zero]
theorem crc_burst {l m : List UInt8} {W k : Nat} (hlen : m.length = l.length) (hW : W < 4294967296) (hk : k ≤ 8 * l.length) (hv : val m = val l ^^^ (W * 2 ^ k)) :
    crc m = crc l ↔ W = 0 := by
  rw [← crcN_burst hlen hW hk hv]
  have h1 := crcN_lt l
  have h2 := crcN_lt m
  unfold crc; omega

theorem shl_xor (a b k : Nat) : (a ^^^ b) * 2 ^ k = a * 2 ^ k ^^^ b * 2 ^ k := by
  simp only [← Nat.shiftLeft_eq]; exact Nat.shiftLeft_xor_distrib
/-- One bit of one byte is turned. -/
theorem val_flip (l : List UInt8) (j m : Nat) (x : UInt8) (hj : j < l.length) (hx : x.toNat = l[j].toNat ^^^ 2 ^ m) : val (l.set j x) = val l ^^^ 2 ^ (8 * j + m) := by
  induction l generalizing j with
  | nil => simp at hj
  | cons b l ih =>
    cases j with
    | zero =>
      simp only [List.set_cons_zero, val]
      simp only [List.getElem_cons_zero] at hx
      rw [hx, Nat.xor_assoc, Nat.xor_assoc, Nat.xor_comm (2 ^ m)]
      simp
    | succ j =>
      simp only [List.set_cons_succ, val]
      simp only [List.getElem_cons_succ] at hx
      rw [ih j (by simpa using hj) hx, show (256 : Nat) = 2 ^ 8 from rfl, shl_xor, ← Nat.xor_assoc, ← Nat.pow_add]
      congr 2; omega

theorem val_xor (a b : List UInt8) (h : a.length = b.length) : val (List.zipWith (fun x y => x ^^^ y) a b) = val a ^^^ val b := by
  induction a generalizing b with
  | nil => cases b with
    | nil => rfl
    | cons => simp at h
  | cons x a ih =>
    cases b with
    | nil => simp at h
    | cons y b =>
      simp only [List.zipWith_cons_cons, val, UInt8.toNat_xor]
      rw [ih b (by simpa using h), show (256 : Nat) = 2 ^ 8 from rfl, shl_xor, xor4]

theorem crc_xor (l : List UInt8) : crc l = 4294967295 ^^^ crcN l := by
  have h := u32_not (crcN l) (crcN_lt l)
  have h2 := u32_xor_nat 4294967295 (crcN l) (by decide) (crcN_lt l)
  have e0 : IntKind.u32.max = ((4294967295 : Nat) : Int) := by decide
  rw [e0, h2] at h
  unfold crc; omega
theorem crc_affine (a b c : List UInt8) (h1 : a.length = b.length) (h2 : a.length = c.length) :
    crc (List.zipWith (fun x y => x ^^^ y) (List.zipWith (fun x y => x ^^^ y) a b) c) = crc a ^^^ crc b ^^^ crc c := by
  have l1 : (List.zipWith (fun x y => x ^^^ y) a b).length = a.length := by simp [h1]
  have l2 : (List.zipWith (fun x y => x ^^^ y) (List.zipWith (fun x y => x ^^^ y) a b) c).length = a.length := by simp [l1, ← h2]
  have e : crcN (List.zipWith (fun x y => x ^^^ y) (List.zipWith (fun x y => x ^^^ y) a b) c) = crcN a ^^^ crcN b ^^^ crcN c := by
    rw [crcN_val, crcN_val, crcN_val, crcN_val, l2, ← h1, ← h2, val_xor _ _ (by rw [l1]; exact h2), val_xor _ _ h1, ← bitSteps_xor, ← bitSteps_xor]
    rw [xor_three]
  rw [crc_xor, e, crc_xor a, crc_xor b, crc_xor c, xor_three]

end Go.Proofs.YtoejihodomcdcaaDoor
