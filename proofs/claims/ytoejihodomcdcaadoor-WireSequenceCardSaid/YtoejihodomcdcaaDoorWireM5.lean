/-
  The walks of WireSumBurst and WireSumAffine. Conditions: the integer arguments fit their kinds, and the table's variable holds the table.
-/
import Derived.Test.YtoejihodomcdcaaDoorWireM3
import Derived.Test.YtoejihodomcdcaaDoorBytes
import Derived.Test.YtoejihodomcdcaaDoorWireVal
import Derived.RegionTactic
import Derived.ChangeAlike
import Derived.Deep.QuietTactic
import Derived.BigQuiet
namespace Go.Proofs.YtoejihodomcdcaaDoor
open Go Go.RowKit

theorem TabAt.drewN {w : World} (h : TabAt w) (n : Nat) : TabAt (w.drewN n) := fun i hi => by simpa using h i hi
theorem TabAt.same {w w' : World} (h : TabAt w) (hc : ∀ i, w'.cell? ⟨0, i, none⟩ = w.cell? ⟨0, i, none⟩) : TabAt w' := fun i hi => (hc i).trans (h i hi)
theorem i64_xor_nat (a b : Nat) (ha : a < 9223372036854775808) (hb : b < 9223372036854775808) : bits .xor .i64 (a : Int) (b : Int) = ((a ^^^ b : Nat) : Int) := by
  have e1 : (BitVec.ofInt 64 (a : Int)).toNat = a := by rw [BitVec.ofInt_natCast, BitVec.toNat_ofNat]; omega
  have e2 : (BitVec.ofInt 64 (b : Int)).toNat = b := by rw [BitVec.ofInt_natCast, BitVec.toNat_ofNat]; omega
  have h := Nat.xor_lt_two_pow (n := 63) ha hb
  show IntKind.i64.wrap ((BitVec.ofInt 64 (a : Int) ^^^ BitVec.ofInt 64 (b : Int)).toNat : Int) = _
  rw [BitVec.toNat_xor, e1, e2, IntKind.wrap_i64]
  omega

theorem sum_quiet (s : ByteArray) (w : World) (hs : s.size < 4611686018427387904) (hT : TabAt w) (n : Nat) :
    Calls Tryd.prog 21 #[.string s] (w.drewN n) fun e w' => e = .returned (.int .i64 (crc s.data.toList : Int)) ∧ ∃ m, w' = w.drewN m :=
  (sum_walk s _ hs (hT.drewN n)).mono fun _ _ h => ⟨h.1, n, h.2.symm⟩
theorem Below.drewN' {B : Nat} {a w : World} (h : Below B a w) (n : Nat) : Below B a (w.drewN n) := ⟨h.os, h.tape, h.output, h.size, h.block⟩
theorem crc_lt (l : List UInt8) : crc l < 4294967296 := by unfold crc; omega
theorem extract_take (s : ByteArray) (k : Nat) : (s.extract 0 k).data.toList = s.data.toList.take k := by simp
def least4 (a b c : Nat) : Nat := min (min (min a b) c) 200
theorem run_min4 {P : Program} (ts : Array TypeId) (t : TypeId) (a b c : Nat) (w : World) :
    (Builtin.min_ ts t #[.int .i64 (a : Int), .int .i64 (b : Int), .int .i64 (c : Int), .int .i64 200]).run P w = .ok (.int .i64 ((least4 a b c : Nat) : Int)) w := by
  have e : (if (200 : Int) < (if (c : Int) < (if (b : Int) < (a : Int) then (b : Int) else (a : Int)) then (c : Int) else (if (b : Int) < (a : Int) then (b : Int) else (a : Int))) then (200 : Int) else (if (c : Int) < (if (b : Int) < (a : Int) then (b : Int) else (a : Int)) then (c : Int) else (if (b : Int) < (a : Int) then (b : Int) else (a : Int)))) = ((least4 a b c : Nat) : Int) := by
    unfold least4; split <;> split <;> split <;> omega
  rw [← e]
  simp [Builtin.min_, Builtin.min2]

/-- The bytes of the XOR of three strings. -/
def xors (a b c : ByteArray) (n : Nat) : List UInt8 :=
  List.zipWith (fun x y => x ^^^ y) (List.zipWith (fun x y => x ^^^ y) (a.data.toList.take n) (b.data.toList.take n)) (c.data.toList.take n)
theorem xors_length {a b c : ByteArray} {n : Nat} (ha : n ≤ a.size) (hb : n ≤ b.size) (hc : n ≤ c.size) : (xors a b c n).length = n := by
  simp [xors]; omega
theorem xors_at {a b c : ByteArray} {n k : Nat} (hk : k < n) (h1 : k < a.size) (h2 : k < b.size) (h3 : k < c.size) : (xors a b c n)[k]? = some (a[k] ^^^ b[k] ^^^ c[k]) := by
  have e1 : (a.data.toList.take n)[k]? = some a[k] := by rw [List.getElem?_take_of_lt hk]; exact (List.getElem?_eq_getElem (by simpa using h1)).trans rfl
  have e2 : (b.data.toList.take n)[k]? = some b[k] := by rw [List.getElem?_take_of_lt hk]; exact (List.getElem?_eq_getElem (by simpa using h2)).trans rfl
  have e3 : (c.data.toList.take n)[k]? = some c[k] := by rw [List.getElem?_take_of_lt hk]; exact (List.getElem?_eq_getElem (by simpa using h3)).trans rfl
  unfold xors
  rw [List.getElem?_zipWith, List.getElem?_zipWith, e1, e2, e3]
/-- What lies in the row when k bytes have been stored. -/
def part (l : List UInt8) (k n : Nat) : List UInt8 := l.take k ++ List.replicate (n - k) 0
theorem part_set {l : List UInt8} {k n : Nat} {x : UInt8} (hl : l.length = n) (hk : k < n) (hx : l[k]? = some x) : (part l k n).set k x = part l (k + 1) n := by
  obtain ⟨h, e⟩ := List.getElem?_eq_some_iff.1 hx
  unfold part
  rw [List.set_append_right _ _ (by simp; omega), List.length_take, Nat.min_eq_left (by omega), Nat.sub_self, show n - k = (n - (k + 1)) + 1 by omega, List.replicate_succ, List.set_cons_zero, List.take_succ_eq_append_getElem h, e]
  simp
theorem part_length {l : List UInt8} {k n : Nat} (hl : l.length = n) (hk : k ≤ n) : (part l k n).length = n := by simp [part]; omega
theorem part_all {l : List UInt8} {n : Nat} (hl : l.length = n) : part l n n = l := by simp [part, ← hl]
theorem part_zero (l : List UInt8) (n : Nat) : part l 0 n = List.replicate n 0 := by simp [part]

set_option maxRecDepth 100000 in
set_option maxHeartbeats 8000000 in
theorem affine_walk (a b c : ByteArray) (_h1 : a.size ≤ 9223372036854775807) (_h2 : b.size ≤ 9223372036854775807) (_h3 : c.size ≤ 9223372036854775807) (w : World) (hT : TabAt w) :
    Calls Tryd.prog 9 #[.string a, .string b, .string c] w fun e w' => e = .returned (.bool true) ∧ Below w.heap.size w w' := by
  have HT := Lib.hid hT
  clear hT
  have hmin := fun w => run_min4 (P := Tryd.prog) #[3, 3, 3, 3] 3 a.size b.size c.size w
  obtain ⟨n, hn⟩ : ∃ n, least4 a.size b.size c.size = n := ⟨_, rfl⟩
  have na : n ≤ a.size := by rw [← hn]; unfold least4; omega
  have nb : n ≤ b.size := by rw [← hn]; unfold least4; omega
  have nc : n ≤ c.size := by rw [← hn]; unfold least4; omega
  have n200 : n ≤ 200 := by rw [← hn]; unfold least4; omega
  rw [hn] at hmin
  clear hn
  obtain ⟨i0, hi, hz0, hz1, hz2⟩ := info_parts Tryd.info5
  go_enter Tryd.func9, Tryd.ntmps9
  go_wp2_with fail
  refine (sane_walk _ HT.out).mono ?_
  rintro e w1 ⟨rfl, hb1⟩
  obtain ⟨w2, hmk, hrow, hb2, hsz⟩ := make_bytes (P := Tryd.prog) w1 38 5 i0 Tryd.underlying38 hi hz0 hz1 hz2 n (by omega)
  have hB2 : Below w.heap.size w w2 := hb1.trans (hb2.mono hb1.size)
  have hbs := hb1.size
  clear hb2 hb1
  go_wp2_with fail
  have hxl := xors_length na nb nc
  clear hmk hmin
  go_loopw [10] (fun i wr => ∃ k : Nat, k ≤ n ∧ i = .int .i64 k ∧ BAt wr w1.heap.size (part (xors a b c n) k n) ∧ Below w.heap.size w wr) (fun i _ => n - (intOf i).toNat)
  case atStart => exact ⟨0, by omega, rfl, by rw [part_zero]; exact hrow, hB2⟩
  case round =>
    obtain ⟨k, hk, rfl, hr, hB⟩ := hrel
    by_cases hlt : k < n
    · have hpl := part_length hxl hk
      have hcell := hr.cell k _ (List.getElem?_eq_getElem (by omega))
      have hfree := hr.free k (by omega)
      have k1 : k < a.size := by omega
      have k2 : k < b.size := by omega
      have k3 : k < c.size := by omega
      have hx := xors_at hlt k1 k2 k3
      have e2 : bits .xor .u8 ((a[k].toNat ^^^ b[k].toNat : Nat) : Int) (c[k].toNat : Int) = ((a[k].toNat ^^^ b[k].toNat ^^^ c[k].toNat : Nat) : Int) := u8_xor_nat _ _ (Nat.xor_lt_two_pow (n := 8) (UInt8.toNat_lt _) (UInt8.toNat_lt _)) (UInt8.toNat_lt _)
      have e1 : bits .xor .u8 (a[k].toNat : Int) (b[k].toNat : Int) = ((a[k].toNat ^^^ b[k].toNat : Nat) : Int) := u8_xor_nat _ _ (UInt8.toNat_lt _) (UInt8.toNat_lt _)
      have hset := (hr.set k (by omega) (a[k] ^^^ b[k] ^^^ c[k])).drew
      rw [part_set hxl hlt hx] at hset
      have hB' := (hB.setCell (p := ⟨w1.heap.size, k, none⟩) hbs (bv (a[k] ^^^ b[k] ^^^ c[k]))).drew
      unfold bv at hset hB' hcell
      rw [UInt8.toNat_xor, UInt8.toNat_xor] at hset hB'
      have HS := Lib.hid hset
      have HB := Lib.hid hB'
      clear hset hx hB'
      go_wp2_with fail
      go_region
      go_wp2_with fail
      exact ⟨⟨k + 1, by omega, rfl, HS.out, HB.out⟩, by simp [intOf]; omega⟩
    · obtain rfl : k = n := by omega
      rw [part_all hxl] at hr
      have hcv := fun m => (hr.drewN m).convert (P := Tryd.prog) (cap := k) 38 9 5 Tryd.underlying38 Tryd.underlying5 Tryd.underlying9
      rw [hxl] at hcv
      have HW := Lib.hid (HT.out.below hB)
      have q1 := (sum_quiet ⟨(xors a b c k).toArray⟩ wr (by show (xors a b c k).toArray.size < _; rw [List.size_toArray]; omega) HW.out)
      have q2 := sum_quiet (a.extract 0 k) wr (by simp; omega) HW.out
      have q3 := sum_quiet (b.extract 0 k) wr (by simp; omega) HW.out
      have q4 := sum_quiet (c.extract 0 k) wr (by simp; omega) HW.out
      obtain ⟨ca, hca⟩ : ∃ ca, crc (List.take k a.data.toList) = ca := ⟨_, rfl⟩
      obtain ⟨cb, hcb⟩ : ∃ cb, crc (List.take k b.data.toList) = cb := ⟨_, rfl⟩
      obtain ⟨cc, hcc⟩ : ∃ cc, crc (List.take k c.data.toList) = cc := ⟨_, rfl⟩
      have la : ca < 4294967296 := hca ▸ crc_lt _
      have lb : cb < 4294967296 := hcb ▸ crc_lt _
      have lc : cc < 4294967296 := hcc ▸ crc_lt _
      have e1 := i64_xor_nat ca cb (by omega) (by omega)
      have e2 := i64_xor_nat (ca ^^^ cb) cc (Nat.lt_trans (Nat.xor_lt_two_pow (n := 32) la lb) (by decide)) (by omega)
      have e3 : crc (xors a b c k) = ca ^^^ cb ^^^ cc := by
        rw [← hca, ← hcb, ← hcc, ← crc_affine _ _ _ (by simp; omega) (by simp; omega)]
        rfl
      rw [e3] at q1
      rw [extract_take, hca] at q2
      rw [extract_take, hcb] at q3
      rw [extract_take, hcc] at q4
      have hbB := Lib.hid hB
      clear hr hB hxl hca hcb hcc e3 la lb lc
      go_wp2_with fail
      go_quiet (first | with_reducible exact q1 _ | with_reducible exact q2 _ | with_reducible exact q3 _ | with_reducible exact q4 _)
      go_wp2_with fail
      go_ret
      exact ⟨rfl, Below.drewN' hbB.out _⟩

theorem pow_mod_step (b k : Nat) : b % 2 ^ (k + 1) = b % 2 ^ k ^^^ (if b / 2 ^ k % 2 = 1 then 2 ^ k else 0) := by
  apply Nat.eq_of_testBit_eq
  intro i
  rw [Nat.testBit_xor, Nat.testBit_mod_two_pow, Nat.testBit_mod_two_pow]
  have hb : b.testBit k = decide (b / 2 ^ k % 2 = 1) := by rw [Nat.testBit_eq_decide_div_mod_eq]
  by_cases h : b / 2 ^ k % 2 = 1
  · rw [if_pos h, Nat.testBit_two_pow]
    by_cases e : k = i
    · subst e; simp [hb, h]
    · have e1 : decide (i < k + 1) = decide (i < k) := by
        by_cases q : i < k
        · rw [decide_eq_true q, decide_eq_true (by omega)]
        · rw [decide_eq_false q, decide_eq_false (by omega)]
      simp [e, e1]
  · rw [if_neg h, Nat.zero_testBit, Bool.xor_false]
    by_cases e : k = i
    · subst e; simp [hb, h]
    · have e1 : decide (i < k + 1) = decide (i < k) := by
        by_cases q : i < k
        · rw [decide_eq_true q, decide_eq_true (by omega)]
        · rw [decide_eq_false q, decide_eq_false (by omega)]
      rw [e1]
theorem flip_iff {a b W : Nat} (h : a = b ↔ W = 0) : ((!decide (W = 0)) == ((a : Int) != (b : Int))) = true := by
  by_cases e : W = 0
  · have := h.2 e; subst this; simp [e]
  · have : ¬ a = b := fun q => e (h.1 q)
    have e1 : ((a : Int) != (b : Int)) = true := by simp; omega
    rw [e1]; simp [e]
theorem bit_test (b k : Nat) : ((b : Int) / 2 ^ k).tmod 2 = ((b / 2 ^ k % 2 : Nat) : Int) := by
  have e : ((b : Int) / 2 ^ k) = ((b / 2 ^ k : Nat) : Int) := by push_cast; rfl
  rw [e, Int.tmod_eq_emod_of_nonneg (Int.natCast_nonneg _)]; rfl

set_option maxRecDepth 100000 in
set_option maxHeartbeats 8000000 in
theorem burst_walk (s : ByteArray) (at' : Int) (bits' : Nat) (h3 : -9223372036854775808 ≤ at') (h4 : at' ≤ 9223372036854775807) (h5 : bits' < 4294967296) (_hs : s.size ≤ 9223372036854775807) (w : World) (hT : TabAt w) :
    Calls Tryd.prog 8 #[.string s, .int .i64 at', .int .u32 (bits' : Int)] w fun e w' => e = .returned (.bool true) ∧ Below w.heap.size w w' := by
  have HT := Lib.hid hT
  clear hT
  have m3 := cutAt_eq s 300
  obtain ⟨l3, k3⟩ := cutAt_le s 300
  simp only [Int.cast_ofNat_Int] at m3
  go_enter Tryd.func8, Tryd.ntmps8
  go_wp2_with fail
  refine (sane_walk _ HT.out).mono ?_
  rintro e w1 ⟨rfl, hb1⟩
  obtain ⟨n, hn⟩ : ∃ n, cutAt s 300 = n := ⟨_, rfl⟩
  rw [hn] at m3 l3 k3
  clear hn
  obtain ⟨few, hfew⟩ : ∃ few, s.extract 0 n = few := ⟨_, rfl⟩
  have hfs : few.size = n := by rw [← hfew]; simp; omega
  obtain ⟨w2, cap, hcv, hrow, hb2, hsz⟩ := bytes_of_string (P := Tryd.prog) w1 9 38 5 few Tryd.underlying9 Tryd.underlying38 Tryd.underlying5
  have hB2 : Below w.heap.size w w2 := hb1.trans (hb2.mono hb1.size)
  have hbs := hb1.size
  rw [hfs] at hcv
  have HF := Lib.hid hfew
  clear hb2 hb1
  by_cases hn0 : n = 0
  · have d0 : ((n : Int) == 0) = true := by simpa using hn0
    clear hn0
    go_wp2_with fail
    go_ret
    exact ⟨rfl, hB2⟩
  have d1 : ((n : Int) == 0) = false := by simpa using hn0
  by_cases hb0 : bits' = 0
  · subst hb0
    go_wp2_with fail
    go_ret
    exact ⟨rfl, hB2⟩
  have d2 : ((bits' : Int) == 0) = false := by simpa using hb0
  obtain ⟨f, hf⟩ : ∃ f : Nat, pickI at' (8 * (n : Int)) = f := ⟨(pickI at' (8 * (n : Int))).toNat, by have := (pickI_bd (c := at') (n := 8 * (n : Int)) (by omega)).1; omega⟩
  have fl : f < 8 * n := by have := (pickI_bd (c := at') (n := 8 * (n : Int)) (by omega)).2; omega
  go_wp2_with fail
  refine (pick_walk at' (8 * (n : Int)) h3 h4 (by omega) (by omega) w2).mono ?_
  rintro e wz ⟨rfl, rfl⟩
  rw [hf]
  go_wp2_with fail
  clear d1 d2 hcv hf
  go_loopw [10, 11] (fun c i wr => ∃ (k : Nat) (l : List UInt8), k ≤ 32 ∧ i = .int .i64 k ∧ l.length = n ∧ BAt wr w1.heap.size l ∧ Below w.heap.size w wr ∧ val l = val few.data.toList ^^^ ((bits' % 2 ^ k) * 2 ^ f) ∧ c = .bool (!decide (bits' % 2 ^ k = 0))) (fun _ i _ => 32 - (intOf i).toNat)
  case atStart => exact ⟨0, few.data.toList, by omega, rfl, by simpa using hfs, hrow, hB2, by simp [Nat.mod_one], by simp [Nat.mod_one]⟩
  case round =>
    obtain ⟨k, l, hk, rfl, hl, hr, hB, hv, rfl⟩ := hrel
    have HR := Lib.hid hr
    have HB := Lib.hid hB
    have HV := Lib.hid hv
    clear hr hB hv hrow hB2
    have hstep := pow_mod_step bits' k
    by_cases hlt : k < 32 ∧ f + k < 8 * n
    · obtain ⟨h32, h8⟩ := hlt
      have ht := bit_test bits' k
      by_cases hbit : bits' / 2 ^ k % 2 = 1
      · rw [hbit] at ht
        rw [if_pos hbit] at hstep
        have et : (((bits' : Int) / 2 ^ k).tmod 2 == 1) = true := by rw [ht]; rfl
        obtain ⟨j, hj⟩ : ∃ j, (f + k) / 8 = j := ⟨_, rfl⟩
        obtain ⟨m, hm⟩ : ∃ m, (f + k) % 8 = m := ⟨_, rfl⟩
        have jn : j < n := by omega
        have m8 : m < 8 := by omega
        have e1 : ((f : Int) + (k : Int)).tdiv 8 = (j : Int) := by rw [Int.tdiv_eq_ediv_of_nonneg (by omega)]; omega
        have e2 : ((f : Int) + (k : Int)).tmod 8 = (m : Int) := by rw [Int.tmod_eq_emod_of_nonneg (by omega)]; omega
        have hcell := HR.out.cell j _ (List.getElem?_eq_getElem (by omega))
        have hfree := HR.out.free j (by omega)
        obtain ⟨y, hy⟩ : ∃ y, l[j] = y := ⟨_, rfl⟩
        rw [hy] at hcell
        unfold bv at hcell
        have HS := Lib.hid hstep
        have HJ := Lib.hid hj
        have HM := Lib.hid hm
        have HY := Lib.hid hy
        obtain ⟨p, hp⟩ : ∃ p, 2 ^ m = p := ⟨_, rfl⟩
        have p8 : p < 256 := hp ▸ (Nat.pow_lt_pow_right (m := m) (n := 8) (by omega) m8)
        have s1 : (2 : Int) ^ m % 256 = (p : Int) := by have : (2 : Int) ^ m = ((2 ^ m : Nat) : Int) := by push_cast; rfl
                                                        rw [this, hp]; omega
        have s2 := u8_xor_nat y.toNat p (UInt8.toNat_lt _) p8
        have HP := Lib.hid hp
        clear ht hstep hbit hj hm hy hp
        go_wp2_with fail
        go_region
        go_wp2_with fail
        have hw : bits' % 2 ^ k < 2 ^ k := Nat.mod_lt _ (Nat.two_pow_pos k)
        have hx : (y ^^^ UInt8.ofNat p).toNat = y.toNat ^^^ p := by rw [UInt8.toNat_xor, UInt8.toNat_ofNat']; congr 1; omega
        have hset := (HR.out.set j (by omega) (y ^^^ UInt8.ofNat p)).drew
        unfold bv at hset
        rw [hx] at hset
        refine ⟨⟨k + 1, l.set j (y ^^^ UInt8.ofNat p), by omega, rfl, by simpa using hl, hset, (HB.out.setCell (p := ⟨w1.heap.size, j, none⟩) hbs _).drew, ?_, ?_⟩, by simp [intOf]; omega⟩
        · rw [val_flip l j m _ (by omega) (by rw [hx, HY.out, HP.out]), HV.out, HS.out, shl_xor, Nat.xor_assoc, ← Nat.pow_add]
          congr 3
          have := HJ.out; have := HM.out; omega
        · rw [HS.out, decide_eq_false]
          · rfl
          intro q
          have := xor_twice (bits' % 2 ^ k) (2 ^ k)
          rw [q, Nat.xor_zero] at this
          omega
      · have hb2 : bits' / 2 ^ k % 2 = 0 := by omega
        rw [hb2] at ht
        rw [if_neg hbit, Nat.xor_zero] at hstep
        have et : (((bits' : Int) / 2 ^ k).tmod 2 == 1) = false := by rw [ht]; rfl
        have HS := Lib.hid hstep
        clear hstep hbit hb2 ht
        go_wp2_with fail
        exact ⟨⟨k + 1, l, by omega, rfl, hl, HR.out, HB.out, by rw [HS.out]; exact HV.out, by rw [HS.out]⟩, by simp [intOf]; omega⟩
    · obtain ⟨W, hW⟩ : ∃ W, bits' % 2 ^ k = W := ⟨_, rfl⟩
      have hWl : W < 4294967296 := by rw [← hW]; exact Nat.lt_of_le_of_lt (Nat.mod_le _ _) h5
      have hfl : few.data.toList.length = n := by simpa using hfs
      have hcr := crc_burst (l := few.data.toList) (m := l) (W := W) (k := f) (by rw [hl]; exact hfl.symm) hWl (by omega) (hW ▸ HV.out)
      have hcv := fun m => (HR.out.drewN m).convert (P := Tryd.prog) (cap := cap) 38 9 5 Tryd.underlying38 Tryd.underlying5 Tryd.underlying9
      rw [hl] at hcv
      have HW := Lib.hid (HT.out.below HB.out)
      have q1 := sum_quiet ⟨l.toArray⟩ wr (by show l.toArray.size < _; rw [List.size_toArray]; omega) HW.out
      have q2 := sum_quiet few wr (by omega) HW.out
      rw [show (⟨l.toArray⟩ : ByteArray).data.toList = l from rfl] at q1
      obtain ⟨cl, hcl⟩ : ∃ c, crc l = c := ⟨_, rfl⟩
      obtain ⟨cf, hcf⟩ : ∃ c, crc few.data.toList = c := ⟨_, rfl⟩
      rw [hcl] at q1 hcr
      rw [hcf] at q2 hcr
      clear hstep hcl hcf
      rw [hW]
      clear HV hW
      have hlt2 : (k < 32 → decide (f + k < 8 * n) = false) := fun h => decide_eq_false (fun q => hlt ⟨h, q⟩)
      have HC := Lib.hid hcr
      clear hcr hlt
      by_cases k32 : k < 32
      · have d8 : decide ((f : Int) + (k : Int) < 8 * (n : Int)) = false := decide_eq_false (fun q => by have := of_decide_eq_false (hlt2 k32); omega)
        go_wp2_with fail
        go_quiet (first | with_reducible exact q1 _ | with_reducible exact q2 _)
        go_wp2_with fail
        go_ret
        exact ⟨congrArg (fun b => Ending.returned (Value.bool b)) (flip_iff HC.out), Below.drewN' HB.out _⟩
      · obtain rfl : k = 32 := by omega
        go_wp2_with fail
        go_quiet (first | with_reducible exact q1 _ | with_reducible exact q2 _)
        go_wp2_with fail
        go_ret
        exact ⟨congrArg (fun b => Ending.returned (Value.bool b)) (flip_iff HC.out), Below.drewN' HB.out _⟩

end Go.Proofs.YtoejihodomcdcaaDoor
