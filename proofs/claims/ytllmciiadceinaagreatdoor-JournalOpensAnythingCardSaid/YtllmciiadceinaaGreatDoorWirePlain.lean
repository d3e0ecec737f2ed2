/-
  Plain functions on numbers and lists of bytes for package wire, and their laws. No condition; no program is named here.
-/
import Derived.WalkKit
import Derived.Laws.BitsAllLaws
namespace Go.Proofs.YtllmciiadceinaaGreatDoor.Wr
open Go

/-- The 7-bit groups of z, the least one first, each with whether it is the last one. -/
def grpF : Nat → Nat → List (Nat × Bool)
  | 0, z => [(z, true)]
  | f + 1, z => if z < 128 then [(z, true)] else (z % 128, false) :: grpF f (z / 128)
def grp (z : Nat) : List (Nat × Bool) := grpF 9 z
def lebN (x : Nat × Bool) : Nat := if x.2 then x.1 else x.1 + 128
def lebF (f z : Nat) : List UInt8 := (grpF f z).map fun x => UInt8.ofNat (lebN x)
def leb (z : Nat) : List UInt8 := lebF 9 z
def maxI : Int := 4611686018427387903
def zig (n : Int) : Nat := if 0 ≤ n then (2 * n).toNat else (-2 * n - 1).toNat
def putI (n : Int) : List UInt8 := leb (zig n)
def unzig (z : Nat) : Int := if z % 2 = 0 then ((z / 2 : Nat) : Int) else -((z / 2 : Nat) : Int) - 1

theorem grpF_last {f z : Nat} (h : z < 128) : grpF f z = [(z, true)] := by cases f <;> simp [grpF, h]
theorem grpF_more {f z : Nat} (h : 128 ≤ z) (hz : z < 128 ^ (f + 1)) : ∃ g, f = g + 1 ∧ grpF f z = (z % 128, false) :: grpF g (z / 128) ∧ z / 128 < 128 ^ (g + 1) := by
  cases f with
  | zero => simp at hz; omega
  | succ g => exact ⟨g, rfl, by simp [grpF, show ¬ z < 128 by omega], by rw [Nat.pow_succ] at hz; exact Nat.div_lt_of_lt_mul (by rw [Nat.mul_comm]; exact hz)⟩
theorem grpF_length (f z : Nat) : (grpF f z).length ≤ f + 1 := by
  induction f generalizing z with
  | zero => simp [grpF]
  | succ f ih =>
    unfold grpF
    split
    · simp
    · have := ih (z / 128); simp; omega
theorem lebF_last {f z : Nat} (h : z < 128) : lebF f z = [UInt8.ofNat z] := by simp [lebF, grpF_last h, lebN]
theorem lebF_more {f z : Nat} (h : 128 ≤ z) (hz : z < 128 ^ (f + 1)) : ∃ g, f = g + 1 ∧ lebF f z = UInt8.ofNat (z % 128 + 128) :: lebF g (z / 128) ∧ z / 128 < 128 ^ (g + 1) := by
  obtain ⟨g, hg, he, hl⟩ := grpF_more h hz
  exact ⟨g, hg, by simp [lebF, he, lebN], hl⟩

theorem zig_lt {n : Int} (h1 : -maxI ≤ n) (h2 : n ≤ maxI) : zig n < 9223372036854775807 := by
  unfold zig maxI at *; split <;> omega
theorem unzig_zig (n : Int) : unzig (zig n) = n := by
  unfold unzig zig; split <;> split <;> omega
theorem zig_unzig (z : Nat) : zig (unzig z) = z := by
  unfold unzig zig; split <;> split <;> omega
theorem unzig_bd {z : Nat} (h : z < 9223372036854775807) : -maxI ≤ unzig z ∧ unzig z ≤ maxI := by
  unfold unzig maxI; split <;> omega

/-- Reading groups from the i-th one on: at most f of them; z is what has been read. -/
def scan : Nat → Nat → Nat → List UInt8 → Option (Nat × Nat)
  | 0, _, _, _ => none
  | _ + 1, _, _, [] => none
  | f + 1, i, z, b :: l =>
    if 128 ≤ b.toNat then scan f (i + 1) (z + (b.toNat - 128) * 128 ^ i) l
    else if b.toNat = 0 ∧ 0 < i then none
    else if z + b.toNat * 128 ^ i = 9223372036854775807 then none
    else some (z + b.toNat * 128 ^ i, i + 1)
def decI (l : List UInt8) : Option (Nat × Nat) := scan 9 0 0 l
/-- What remains to be read when k groups have been read. -/
def ScanTo (l : List UInt8) (k z : Nat) : Prop := decI l = scan (9 - k) k z (l.drop k)

theorem scanTo_0 (l : List UInt8) : ScanTo l 0 0 := rfl
theorem drop_at {l : List UInt8} {k : Nat} {b : UInt8} (h : l[k]? = some b) : l.drop k = b :: l.drop (k + 1) := by
  obtain ⟨hk, he⟩ := List.getElem?_eq_some_iff.1 h
  rw [← he]; exact List.drop_eq_getElem_cons hk
theorem scanTo_more {l : List UInt8} {k z : Nat} {b : UInt8} (h : ScanTo l k z) (hk : k < 9) (hb : l[k]? = some b) (hb1 : 128 ≤ b.toNat) : ScanTo l (k + 1) (z + (b.toNat - 128) * 128 ^ k) := by
  unfold ScanTo at *
  rw [h, drop_at hb, show 9 - k = (9 - (k + 1)) + 1 by omega, scan, if_pos hb1]
theorem scanTo_end {l : List UInt8} {k z : Nat} {b : UInt8} (h : ScanTo l k z) (hk : k < 9) (hb : l[k]? = some b) (hb1 : b.toNat < 128) :
    decI l = if b.toNat = 0 ∧ 0 < k then none else if z + b.toNat * 128 ^ k = 9223372036854775807 then none else some (z + b.toNat * 128 ^ k, k + 1) := by
  unfold ScanTo at *
  rw [h, drop_at hb, show 9 - k = (9 - (k + 1)) + 1 by omega, scan, if_neg (by omega)]
theorem scanTo_nine {l : List UInt8} {z : Nat} (h : ScanTo l 9 z) : decI l = none := by
  unfold ScanTo at h; rw [h]; rfl
theorem scanTo_short {l : List UInt8} {k z : Nat} (h : ScanTo l k z) (hk : l.length ≤ k) : decI l = none := by
  unfold ScanTo at h; rw [h, List.drop_eq_nil_of_le hk]; cases 9 - k <;> rfl

theorem pow128 (k : Nat) : 128 ^ k = 2 ^ (7 * k) := by rw [show (128 : Nat) = 2 ^ 7 from rfl, ← Nat.pow_mul]
theorem group_lt {z q k : Nat} (hz : z < 128 ^ k) (hq : q < 128) : z + q * 128 ^ k < 128 ^ (k + 1) := by
  have : q * 128 ^ k ≤ 127 * 128 ^ k := Nat.mul_le_mul_right _ (by omega)
  rw [Nat.pow_succ]; omega
theorem pow128_le {k : Nat} (h : k ≤ 9) : 128 ^ k ≤ 9223372036854775808 := Nat.le_trans (Nat.pow_le_pow_right (by decide) h) (by decide)
theorem group_or {z q k : Nat} (hz : z < 128 ^ k) : z ||| q * 128 ^ k = z + q * 128 ^ k := by
  rw [pow128] at hz ⊢
  rw [Nat.or_comm, nat_join (7 * k) _ _ (by rw [Nat.mul_mod_left]) hz, Nat.add_comm]

theorem i64_xor_ones (a : Nat) (h : a < 9223372036854775808) : bits .xor .i64 (a : Int) (-1) = -(a : Int) - 1 := by
  have e1 : BitVec.ofInt 64 (-1) = BitVec.allOnes 64 := by decide
  have e2 : (BitVec.ofInt 64 (a : Int)).toNat = a := by rw [BitVec.ofInt_natCast, BitVec.toNat_ofNat]; omega
  show IntKind.i64.wrap ((BitVec.ofInt 64 (a : Int) ^^^ BitVec.ofInt 64 (-1)).toNat : Int) = _
  rw [e1, BitVec.xor_allOnes, BitVec.toNat_not, e2, IntKind.wrap_i64]
  omega
theorem i64_xor_zero (a : Nat) (h : a < 9223372036854775808) : bits .xor .i64 (a : Int) 0 = (a : Int) := by
  have e1 : BitVec.ofInt 64 0 = 0#64 := by decide
  have e2 : (BitVec.ofInt 64 (a : Int)).toNat = a := by rw [BitVec.ofInt_natCast, BitVec.toNat_ofNat]; omega
  show IntKind.i64.wrap ((BitVec.ofInt 64 (a : Int) ^^^ BitVec.ofInt 64 0).toNat : Int) = _
  rw [e1, BitVec.xor_zero, e2, IntKind.wrap_i64]
  omega
theorem unzig_bits {z : Nat} (h : z < 9223372036854775808) : bits .xor .i64 ((z : Int) / 2) (-((z % 2 : Nat) : Int)) = unzig z := by
  have hr : z % 2 = 0 ∨ z % 2 = 1 := by omega
  rcases hr with hr | hr
  · have := i64_xor_zero (z / 2) (by omega)
    rw [hr]
    unfold unzig
    rw [if_pos hr, ← this]
    rfl
  · have := i64_xor_ones (z / 2) (by omega)
    rw [hr]
    unfold unzig
    rw [if_neg (by omega), ← this]
    rfl

theorem scan_bd {f i z : Nat} {l : List UInt8} {y c : Nat} (hz : z < 128 ^ i) (hf : f + i = 9) (h : scan f i z l = some (y, c)) : i < c ∧ c ≤ 9 ∧ c ≤ i + l.length ∧ y < 9223372036854775807 := by
  induction f generalizing i z l with
  | zero => simp [scan] at h
  | succ f ih =>
    cases l with
    | nil => simp [scan] at h
    | cons b l =>
      have hb : b.toNat < 256 := UInt8.toNat_lt _
      unfold scan at h
      split at h
      · have := ih (group_lt hz (show b.toNat - 128 < 128 by omega)) (by omega) h
        simp only [List.length_cons]; omega
      · split at h
        · cases h
        · split at h
          · cases h
          · simp only [Option.some.injEq, Prod.mk.injEq] at h
            obtain ⟨rfl, rfl⟩ := h
            have h1 := group_lt hz (show b.toNat < 128 by omega)
            have h2 := pow128_le (show i + 1 ≤ 9 by omega)
            simp only [List.length_cons]; omega
theorem decI_bd {l : List UInt8} {y c : Nat} (h : decI l = some (y, c)) : 0 < c ∧ c ≤ 9 ∧ c ≤ l.length ∧ y < 9223372036854775807 := by
  have := scan_bd (i := 0) (by decide) rfl h
  omega

/-! ### The checksum -/
def crcTab : List Nat := [0, 274646895, 549293790, 820201905, 1098587580, 1361435347, 1640403810, 1905808397, 2197175160, 2460548119, 2722870694, 2987750089, 3280807620, 3553878443, 3811616794, 4084100981]
def nib (r : Nat) : Nat := (r / 16) ^^^ crcTab.getD (r % 16) 0
def upd (r b : Nat) : Nat := nib (nib (r ^^^ b))
def crcN (l : List UInt8) : Nat := l.foldl (fun r b => upd r b.toNat) 4294967295
def crc (l : List UInt8) : Nat := 4294967295 - crcN l
def bitStep (r : Nat) : Nat := if r % 2 = 1 then (r / 2) ^^^ 2197175160 else r / 2
theorem crcTab_lt : ∀ i, crcTab.getD i 0 < 4294967296 := by
  intro i
  by_cases h : i < 16
  · have : ∀ j, j < 16 → crcTab.getD j 0 < 4294967296 := by decide
    exact this i h
  · rw [List.getD_eq_getElem?_getD, List.getElem?_eq_none (by simp [crcTab]; omega)]; decide
theorem xor_lt32 {a b : Nat} (ha : a < 4294967296) (hb : b < 4294967296) : a ^^^ b < 4294967296 := Nat.xor_lt_two_pow (n := 32) ha hb
theorem nib_lt {r : Nat} (h : r < 4294967296) : nib r < 4294967296 := xor_lt32 (by omega) (crcTab_lt _)
theorem upd_lt {r b : Nat} (h : r < 4294967296) (hb : b < 256) : upd r b < 4294967296 := nib_lt (nib_lt (xor_lt32 h (by omega)))
theorem foldl_upd_lt (l : List UInt8) {r : Nat} (h : r < 4294967296) : l.foldl (fun r b => upd r b.toNat) r < 4294967296 := by
  induction l generalizing r with
  | nil => exact h
  | cons b l ih => exact ih (upd_lt h (UInt8.toNat_lt _))
theorem crcN_lt (l : List UInt8) : crcN l < 4294967296 := foldl_upd_lt l (by decide)
theorem crcN_snoc (l : List UInt8) (b : UInt8) : crcN (l ++ [b]) = upd (crcN l) b.toNat := by simp [crcN]

theorem u32_not (c : Nat) (h : c < 4294967296) : bits .xor .u32 IntKind.u32.max (c : Int) = ((4294967295 - c : Nat) : Int) := by
  have e0 : IntKind.u32.max = ((4294967295 : Nat) : Int) := by decide
  rw [e0, u32_xor_nat _ _ (by decide) h]
  congr 1
  apply Nat.eq_of_testBit_eq
  intro i
  have h1 : (4294967295 : Nat) = 2 ^ 32 - 1 := rfl
  rw [Nat.testBit_xor, h1, Nat.testBit_two_pow_sub_one, show 2 ^ 32 - 1 - c = 2 ^ 32 - (c + 1) by omega, Nat.testBit_two_pow_sub_succ (by omega) i]
  by_cases hi : i < 32
  · simp [hi]
  · have : c.testBit i = false := Nat.testBit_lt_two_pow (Nat.lt_of_lt_of_le (show c < 2 ^ 32 by omega) (Nat.pow_le_pow_right (by decide) (by omega)))
    simp [hi, this]

theorem lebF_length (f z : Nat) : (lebF f z).length ≤ f + 1 := by unfold lebF; rw [List.length_map]; exact grpF_length f z
theorem putI_length (n : Int) : (putI n).length ≤ 10 := lebF_length 9 _

end Go.Proofs.YtllmciiadceinaaGreatDoor.Wr
