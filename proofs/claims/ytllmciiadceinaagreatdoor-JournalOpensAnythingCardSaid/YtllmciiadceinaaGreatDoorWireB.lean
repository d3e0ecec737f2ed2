/-
  Contracts of package wire's functions that decode, and of Sum. Condition: the string is shorter than 2^62 bytes.
-/
import Derived.Test.YtllmciiadceinaaGreatDoorWireA
namespace Go.Proofs.YtllmciiadceinaaGreatDoor.Wr
open Go Go.RowKit

/-- What Int returns at an offset. -/
def intR (s : ByteArray) (k : Nat) : Value := match decI (s.data.toList.drop k) with
  | some (z, c) => .tuple #[.int .i64 (unzig z), .int .i64 ((k : Int) + c), .int .i64 0]
  | none => .tuple #[.int .i64 0, .int .i64 0, .int .i64 10]

theorem u64_wrap_small {n : Int} (h0 : 0 ≤ n) (h1 : n < 18446744073709551616) : IntKind.u64.wrap n = n := by rw [wrap_u64]; omega

/-- The facts of one round of Int's loop. -/
theorem int_round {z b k : Nat} (hz : z < 128 ^ k) (hk : k < 9) (hb : b < 128) :
    IntKind.u64.wrap ((b : Int) * 2 ^ (7 * k)) = ((b * 128 ^ k : Nat) : Int) ∧ bits .or .u64 (z : Int) ((b * 128 ^ k : Nat) : Int) = ((z + b * 128 ^ k : Nat) : Int) ∧ z + b * 128 ^ k < 128 ^ (k + 1) ∧ z + b * 128 ^ k < 9223372036854775808 := by
  have hg := group_lt hz hb
  have hp := pow128_le (show k + 1 ≤ 9 by omega)
  have e : ((b : Int) * 2 ^ (7 * k)) = ((b * 128 ^ k : Nat) : Int) := by rw [pow128]; simp
  have h1 : b * 128 ^ k < 9223372036854775808 := by omega
  refine ⟨?_, ?_, hg, by omega⟩
  · rw [e]; exact u64_wrap_small (by omega) (by omega)
  · rw [u64_or_nat _ _ (by omega) (by omega), group_or hz]

set_option maxRecDepth 100000 in
set_option maxHeartbeats 4000000 in
theorem int_walk (s : ByteArray) (at' : Nat) (hat : at' ≤ s.size) (hs : s.size < 4611686018427387904) (w : World) :
    Calls Tryz.prog 113 #[.string s, .int .i64 at'] w fun e w' => e = .returned (intR s at') ∧ w = w' := by
  have hd1 : decide (s.size < at') = false := by simp; omega
  have hd2 : decide ((at' : Int) < 0) = false := by simp
  go_enter Tryz.func113, Tryz.ntmps113
  go_wp2_with fail
  go_loop [7, 19] (fun zv i => ∃ k z : Nat, k ≤ 9 ∧ i = .int .i64 k ∧ zv = .int .u64 z ∧ z < 128 ^ k ∧ ScanTo (s.data.toList.drop at') k z) (fun _ i => 9 - (intOf i).toNat)
  case atStart => exact ⟨0, 0, by omega, rfl, rfl, by decide, scanTo_0 _⟩
  case round =>
    obtain ⟨k, z, hk, rfl, rfl, hz, hsc⟩ := hrel
    have Hz := Lib.hid hz
    clear hz
    by_cases hk9 : k < 9
    · by_cases hin : at' + k < s.size
      · have hlb : (s.data.toList.drop at')[k]? = some s[at' + k] := by
          rw [List.getElem?_drop]; exact (List.getElem?_eq_getElem (by simpa using hin)).trans rfl
        by_cases hb : s[at' + k].toNat < 128
        · obtain ⟨f1, f2, f3, f4⟩ := int_round Hz.out hk9 hb
          have hend := scanTo_end hsc hk9 hlb hb
          obtain ⟨b, hbe⟩ : ∃ b, s[at' + k].toNat = b := ⟨_, rfl⟩
          rw [hbe] at f1 f2 f3 f4 hend hb
          have h127 : bits .and .u8 (b : Int) 127 = (b : Int) := by
            have := u8_and_nat b 127 (by omega) (by decide)
            rw [nat_mask7, Nat.mod_eq_of_lt hb] at this; exact this
          obtain ⟨p, hp⟩ : ∃ p, b * 128 ^ k = p := ⟨_, rfl⟩
          obtain ⟨y, hy⟩ : ∃ y, z + p = y := ⟨_, rfl⟩
          rw [hp] at f1 f2 f3 f4 hend
          rw [hy] at f2 f3 f4 hend
          have hx := unzig_bits f4
          have hmask : bits .and .u64 (y : Int) 1 = ((y % 2 : Nat) : Int) := by
            have := u64_and_nat y 1 (by omega) (by decide)
            rw [nat_mask1] at this; exact this
          obtain ⟨r, hr⟩ : ∃ r, y % 2 = r := ⟨_, rfl⟩
          have hr2 : r ≤ 1 := by omega
          rw [hr] at hx hmask
          have hbd : -4611686018427387904 ≤ unzig y ∧ unzig y ≤ 4611686018427387903 := by unfold unzig; split <;> omega
          have hlow : unzig y < -4611686018427387903 ↔ y = 9223372036854775807 := by unfold unzig; split <;> omega
          obtain ⟨N, hN⟩ : ∃ N, unzig y = N := ⟨_, rfl⟩
          rw [hN] at hx hbd hlow
          have Hend := Lib.hid hend
          have HN := Lib.hid hN
          have Hy := Lib.hid hy
          have Hp := Lib.hid hp
          clear hend hN hr hy hp f3 hsc
          by_cases hz0 : b = 0 ∧ 0 < k
          · have hint : intR s at' = .tuple #[.int .i64 0, .int .i64 0, .int .i64 10] := by
              unfold intR; rw [Hend.out, if_pos hz0]
            have Hint := Lib.hid hint
            obtain ⟨rfl, hk0⟩ := hz0
            clear hint f1 f2 hx hmask h127
            go_wp2_with fail
            go_ret3
            exact ⟨by rw [Hint.out]; try rfl, rfl⟩
          · by_cases hlt : N < -4611686018427387903
            · have hint : intR s at' = .tuple #[.int .i64 0, .int .i64 0, .int .i64 10] := by
                unfold intR; rw [Hend.out, if_neg hz0, if_pos (hlow.1 hlt)]
              have Hint := Lib.hid hint
              have hb0 : ¬ b = 0 := by
                rintro rfl
                have hk0 : k = 0 := by omega
                subst hk0
                have h1 := Hz.out
                have h2 := hlow.1 hlt
                have h3 := Hy.out
                have h4 := Hp.out
                simp only [Nat.pow_zero, Nat.zero_mul] at h1 h4
                omega
              clear hint hlow hz0
              go_wp2_with fail
              go_ret3
              exact ⟨by rw [Hint.out]; try rfl, rfl⟩
            · have hint : intR s at' = .tuple #[.int .i64 N, .int .i64 ((at' : Int) + k + 1), .int .i64 0] := by
                unfold intR; rw [Hend.out, if_neg hz0, if_neg (fun e => hlt (hlow.2 e))]
                simp [HN.out, Int.add_assoc]
              have Hint := Lib.hid hint
              by_cases hb0 : b = 0
              · have hk0 : k = 0 := by omega
                subst hb0 hk0
                have h1 := Hz.out
                have h3 := Hy.out
                have h4 := Hp.out
                simp only [Nat.pow_zero, Nat.zero_mul] at h1 h4
                obtain rfl : z = 0 := by omega
                obtain rfl : y = 0 := by omega
                obtain rfl : N = 0 := HN.out.symm
                clear hint hlow hz0 f1 f2 hx hmask h127 h1 h3 h4 hbd
                have g1 : bits .and .u8 0 127 = 0 := by decide
                have g2 : bits .or .u64 0 0 = 0 := by decide
                have g3 : bits .and .u64 0 1 = 0 := by decide
                have g4 : bits .xor .i64 0 0 = 0 := by decide
                have g5 : wrap64 0 = 0 := by unfold wrap64; rfl
                simp only [Nat.add_zero] at hbe
                go_wp2_with fail
                go_ret3
                exact ⟨by rw [Hint.out]; try rfl, rfl⟩
              · clear hint hlow hz0
                go_wp2_with fail
                go_ret3
                exact ⟨by rw [Hint.out]; try rfl, rfl⟩
        · obtain ⟨b, hbe⟩ : ∃ b, s[at' + k].toNat = b := ⟨_, rfl⟩
          have hb256 : b < 256 := by rw [← hbe]; exact UInt8.toNat_lt _
          have hmore := scanTo_more hsc hk9 hlb (by omega)
          obtain ⟨q, hq⟩ : ∃ q, b - 128 = q := ⟨_, rfl⟩
          rw [hbe, hq] at hmore
          obtain ⟨f1, f2, f3, f4⟩ := int_round Hz.out hk9 (show q < 128 by omega)
          rw [hbe] at hb
          have h127 : bits .and .u8 (b : Int) 127 = (q : Int) := by
            have := u8_and_nat b 127 (by omega) (by decide)
            rw [nat_mask7, show b % 128 = q by omega] at this; exact this
          have hq8 : q < 128 := by omega
          obtain ⟨p, hp⟩ : ∃ p, q * 128 ^ k = p := ⟨_, rfl⟩
          obtain ⟨y, hy⟩ : ∃ y, z + p = y := ⟨_, rfl⟩
          rw [hp] at f1 f2 f3 f4 hmore
          rw [hy] at f2 f3 f4 hmore
          have F3 := Lib.hid f3
          clear hq hp hy f3 hsc
          go_wp2_with fail
          go_round
          case rel => exact ⟨k + 1, y, by omega, by go_num, rfl, F3.out, hmore⟩
          case measure => simp [intOf]; omega
      · have hint : intR s at' = .tuple #[.int .i64 0, .int .i64 0, .int .i64 10] := by
          unfold intR; rw [scanTo_short hsc (by simp; omega)]
        have Hint := Lib.hid hint
        have hin' : (s.size : Int) ≤ (at' : Int) + k := by omega
        clear hint hin
        go_wp2_with fail
        go_ret3
        exact ⟨by rw [Hint.out]; try rfl, rfl⟩
    · obtain rfl : k = 9 := by omega
      have hint : intR s at' = .tuple #[.int .i64 0, .int .i64 0, .int .i64 10] := by
        unfold intR; rw [scanTo_nine hsc]
      have Hint := Lib.hid hint
      clear hint
      go_wp2_with fail
      go_ret3
      exact ⟨by rw [Hint.out]; try rfl, rfl⟩

set_option maxHeartbeats 1000000 in
theorem int_arg (s : ByteArray) (k : Int) (h : k < 0 ∨ (s.size : Int) < k) (w : World) :
    Calls Tryz.prog 113 #[.string s, .int .i64 k] w fun e w' => e = .returned (.tuple #[.int .i64 0, .int .i64 0, .int .i64 2]) ∧ w = w' := by
  rcases h with h | h
  · go_enter Tryz.func113, Tryz.ntmps113
    go_wp2_with fail
    go_ret3
    exact ⟨rfl, rfl⟩
  · have h' : decide (k < 0) = false := by simp; omega
    go_enter Tryz.func113, Tryz.ntmps113
    go_wp2_with fail
    go_ret3
    exact ⟨rfl, rfl⟩

set_option maxHeartbeats 1000000 in
theorem putString_yes (s : ByteArray) (h : s.size ≤ 65536) (w : World) :
    Calls Tryz.prog 71 #[.string s] w fun e w' => e = .returned (.tuple #[.string (⟨(putI s.size).toArray⟩ ++ s), .int .i64 0]) ∧ Below w.heap.size w w' := by
  have hl := putI_length s.size
  go_enter Tryz.func71, Tryz.ntmps71
  go_wp2_with (go_at_call 96; refine (putInt_yes _ (by omega) (by omega) _).mono ?_; rintro e w1 ⟨rfl, hb1⟩)
  go_ret2
  exact ⟨rfl, hb1⟩

set_option maxHeartbeats 1000000 in
theorem putString_no (s : ByteArray) (h : 65536 < s.size) (w : World) :
    Calls Tryz.prog 71 #[.string s] w fun e w' => e = .returned (.tuple #[.string ⟨#[]⟩, .int .i64 10]) ∧ w = w' := by
  go_enter Tryz.func71, Tryz.ntmps71
  go_wp2_with fail
  go_ret2
  exact ⟨rfl, rfl⟩

/-- What String returns at an offset. -/
def strR (s : ByteArray) (k : Nat) : Value := match decI (s.data.toList.drop k) with
  | some (z, c) => if 0 ≤ unzig z ∧ unzig z ≤ 65536 ∧ k + c + (unzig z).toNat ≤ s.size then .tuple #[.string (s.extract (k + c) (k + c + (unzig z).toNat)), .int .i64 ((k + c + (unzig z).toNat : Nat) : Int), .int .i64 0] else .tuple #[.string ⟨#[]⟩, .int .i64 0, .int .i64 10]
  | none => .tuple #[.string ⟨#[]⟩, .int .i64 0, .int .i64 10]

set_option maxHeartbeats 1000000 in
theorem string_arg (s : ByteArray) (k : Int) (h : k < 0 ∨ (s.size : Int) < k) (w : World) :
    Calls Tryz.prog 101 #[.string s, .int .i64 k] w fun e w' => e = .returned (.tuple #[.string ⟨#[]⟩, .int .i64 0, .int .i64 2]) ∧ w = w' := by
  go_enter Tryz.func101, Tryz.ntmps101
  go_wp2_with (go_at_call 113; refine (int_arg _ _ h _).mono ?_; rintro e w1 ⟨rfl, rfl⟩)
  go_ret3
  exact ⟨rfl, rfl⟩

set_option maxRecDepth 100000 in
set_option maxHeartbeats 4000000 in
theorem string_walk (s : ByteArray) (k : Nat) (hk : k ≤ s.size) (hs : s.size < 4611686018427387904) (w : World) :
    Calls Tryz.prog 101 #[.string s, .int .i64 k] w fun e w' => e = .returned (strR s k) ∧ w = w' := by
  cases hd : decI (s.data.toList.drop k) with
  | none =>
    have hi : intR s k = .tuple #[.int .i64 0, .int .i64 0, .int .i64 10] := by unfold intR; rw [hd]
    have hr : strR s k = .tuple #[.string ⟨#[]⟩, .int .i64 0, .int .i64 10] := by unfold strR; rw [hd]
    rw [hr]
    have H := int_walk s k hk hs
    rw [hi] at H
    have HH := Lib.hid H
    clear H hi hr hd
    go_enter Tryz.func101, Tryz.ntmps101
    go_wp2_with (go_at_call 113; refine (HH.out _).mono ?_; rintro e w1 ⟨rfl, rfl⟩)
    go_ret3
    exact ⟨rfl, rfl⟩
  | some zc =>
    obtain ⟨z, c⟩ := zc
    obtain ⟨b1, b2, b3, b4⟩ := decI_bd hd
    obtain ⟨b5, b6⟩ := unzig_bd b4
    simp only [maxI] at b5 b6
    have b7 : k + c ≤ s.size := by simp at b3; omega
    have hi : intR s k = .tuple #[.int .i64 (unzig z), .int .i64 ((k : Int) + c), .int .i64 0] := by unfold intR; rw [hd]
    have H := int_walk s k hk hs
    rw [hi] at H
    obtain ⟨n, hn⟩ : ∃ n, unzig z = n := ⟨_, rfl⟩
    have hr : strR s k = if 0 ≤ n ∧ n ≤ 65536 ∧ k + c + n.toNat ≤ s.size then .tuple #[.string (s.extract (k + c) (k + c + n.toNat)), .int .i64 ((k + c + n.toNat : Nat) : Int), .int .i64 0] else .tuple #[.string ⟨#[]⟩, .int .i64 0, .int .i64 10] := by unfold strR; rw [hd]; simp only [hn]
    rw [hr]
    rw [hn] at H b5 b6
    have HH := Lib.hid H
    clear H hi hr hd hn b3
    by_cases h1 : n < 0
    · rw [if_neg (by omega)]
      go_enter Tryz.func101, Tryz.ntmps101
      go_wp2_with (go_at_call 113; refine (HH.out _).mono ?_; rintro e w1 ⟨rfl, rfl⟩)
      go_ret3
      exact ⟨rfl, rfl⟩
    · have h1' : decide (n < 0) = false := by simpa using h1
      by_cases h2 : 65536 < n
      · rw [if_neg (by omega)]
        go_enter Tryz.func101, Tryz.ntmps101
        go_wp2_with (go_at_call 113; refine (HH.out _).mono ?_; rintro e w1 ⟨rfl, rfl⟩)
        go_ret3
        exact ⟨rfl, rfl⟩
      · have h2' : decide (65536 < n) = false := by simpa using h2
        by_cases h3 : (s.size : Int) - (k + c) < n
        · rw [if_neg (by omega)]
          go_enter Tryz.func101, Tryz.ntmps101
          go_wp2_with (go_at_call 113; refine (HH.out _).mono ?_; rintro e w1 ⟨rfl, rfl⟩)
          go_ret3
          exact ⟨rfl, rfl⟩
        · rw [if_pos (by omega)]
          obtain ⟨m, rfl⟩ := Int.eq_ofNat_of_zero_le (show 0 ≤ n by omega)
          rw [Int.toNat_natCast]
          go_enter Tryz.func101, Tryz.ntmps101
          go_wp2_with (go_at_call 113; refine (HH.out _).mono ?_; rintro e w1 ⟨rfl, rfl⟩)
          go_ret3
          refine ⟨?_, rfl⟩
          show Ending.returned (.tuple #[.string _, .int .i64 ((k : Int) + c + m), .int .i64 0]) = _
          rw [show ((k : Int) + c + m) = ((k + c + m : Nat) : Int) by omega]

end Go.Proofs.YtllmciiadceinaaGreatDoor.Wr
