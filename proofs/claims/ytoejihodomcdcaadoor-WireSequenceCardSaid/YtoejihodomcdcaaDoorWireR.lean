/-
  Contracts of the reference implementation of package wire. Condition: the string is shorter than 2^62 bytes.
-/
import Derived.Test.YtoejihodomcdcaaDoorWireB
import Derived.Test.YtoejihodomcdcaaDoorWireLaw
import Derived.Test.YtoejihodomcdcaaDoorWireCrc
import Derived.Lib.Strings
namespace Go.Proofs.YtoejihodomcdcaaDoor
open Go Go.RowKit

set_option maxHeartbeats 1000000 in
theorem refZig (n : Int) (h1 : -4611686018427387903 ≤ n) (h2 : n ≤ 4611686018427387903) (w : World) :
    Calls Tryd.prog 24 #[.int .i64 n] w fun e w' => e = .returned (.int .u64 (zig n : Int)) ∧ w = w' := by
  by_cases h : n < 0
  · have hz : (zig n : Int) = -n * 2 - 1 := by unfold zig; rw [if_neg (by omega)]; omega
    have HZ := Lib.hid hz
    clear hz
    go_enter Tryd.func24, Tryd.ntmps24
    go_wp2_with fail
    go_ret
    exact ⟨by rw [HZ.out]; try rfl, rfl⟩
  · have hz : (zig n : Int) = n * 2 := by unfold zig; rw [if_pos (by omega)]; omega
    have HZ := Lib.hid hz
    clear hz
    go_enter Tryd.func24, Tryd.ntmps24
    go_wp2_with fail
    go_ret
    exact ⟨by rw [HZ.out]; try rfl, rfl⟩

set_option maxRecDepth 100000 in
set_option maxHeartbeats 4000000 in
theorem refPutInt_yes (n : Int) (h1 : -4611686018427387903 ≤ n) (h2 : n ≤ 4611686018427387903) (w : World) :
    Calls Tryd.prog 13 #[.int .i64 n] w fun e w' => e = .returned (.tuple #[.string ⟨(putI n).toArray⟩, .int .i64 0]) ∧ Below w.heap.size w w' := by
  have hzl := zig_lt h1 h2
  have hput : putI n = leb (zig n) := rfl
  rw [hput]
  have HR := Lib.hid (fun W => refZig n h1 h2 W)
  obtain ⟨z, hz⟩ : ∃ z, zig n = z := ⟨_, rfl⟩
  rw [hz] at hzl HR ⊢
  have hd1 : decide (n < -4611686018427387903) = false := by simp; omega
  have hd2 : decide (4611686018427387903 < n) = false := by simp; omega
  clear hz hput
  obtain ⟨i0, hi, hz0, hz1, hz2⟩ := info_parts Tryd.info5
  go_enter Tryd.func13, Tryd.ntmps13
  go_wp2_with (go_at_call 24; refine (HR.out _).mono ?_; rintro e w1 ⟨rfl, rfl⟩)
  go_loopw [4, 5] (fun zv v wr => ∃ (pre : List UInt8) (f c : Nat), zv = .int .u64 c ∧ c < 128 ^ (f + 1) ∧ pre.length + f = 9 ∧ c ≤ z ∧ leb z = pre ++ lebF f c ∧ wr.ownsRow w.heap.size 5 1 v pre.length (pre.map bv) ∧ Below w.heap.size w wr) (fun zv _ _ => (intOf zv).toNat)
  case atStart => exact ⟨[], 9, z, rfl, Nat.lt_of_lt_of_le hzl (by decide), rfl, Nat.le_refl _, rfl, World.ownsRow_nil _ _ _ _, Below.refl _ _⟩
  case round =>
    obtain ⟨pre, f, c, rfl, hc, hpf, hcz, hl, hrow, hB⟩ := hrel
    have hbs := hB.size
    have Hc := Lib.hid hc
    have Hl := Lib.hid hl
    clear hc hl
    by_cases hlt : c < 128
    · have h3 : decide (128 ≤ (c : Int)) = false := by simp; omega
      go_wp2_with (at_builtin; refine wpList_append_own _ rfl _ _ 38 rfl w.heap.size 5 i0 (.int .u8 0) 1 1 Tryd.underlying38 hi hz0 hz1 hz2 rfl (by decide) _ _ _ rfl (hrow.alloc _) ⟨wr.heap.size, 0, none⟩ 1 1 [_] rfl rfl (cell_one_new _ _ _) (by simp [Value.oneCell']) (by unfold maxLen; omega) (by omega) (by simp; omega) ?_; intro v' w1 hown' hgrow _)
      have eb : (UInt8.ofNat c).toNat = c := by simp; omega
      have hown2 : w1.ownsRow w.heap.size 5 1 v' (pre ++ [UInt8.ofNat c]).length ((pre ++ [UInt8.ofNat c]).map bv) := by
        simpa [bv, eb] using hown'
      have hconv := convert_own (P := Tryd.prog) 38 9 Tryd.underlying38 Tryd.underlying5 Tryd.underlying9 hown2
      have hall : leb z = pre ++ [UInt8.ofNat c] := by rw [Hl.out, lebF_last hlt]
      have HA := Lib.hid hall
      have hB1 : Below w.heap.size w w1 := (hB.alloc hbs _).grown hgrow (by simp; omega) (fun k e => (hrow.lt k e).1)
      clear hown' hown2 hall hgrow eb hrow
      rw [hconv]
      go_wp2_with fail
      go_ret2
      exact ⟨by rw [HA.out]; try rfl, hB1⟩
    · have h3 : decide (128 ≤ (c : Int)) = true := by simp; omega
      go_wp2_with (at_builtin; refine wpList_append_own _ rfl _ _ 38 rfl w.heap.size 5 i0 (.int .u8 0) 1 1 Tryd.underlying38 hi hz0 hz1 hz2 rfl (by decide) _ _ _ rfl (hrow.alloc _) ⟨wr.heap.size, 0, none⟩ 1 1 [_] rfl rfl (cell_one_new _ _ _) (by simp [Value.oneCell']) (by unfold maxLen; omega) (by omega) (by simp; omega) ?_; intro v' w1 hown' hgrow _)
      have hB1 : Below w.heap.size w w1 := (hB.alloc hbs _).grown hgrow (by simp; omega) (fun k e => (hrow.lt k e).1)
      obtain ⟨g, rfl, e, hg⟩ := lebF_more (by omega) Hc.out
      have eb : ((UInt8.ofNat (c % 128 + 128)).toNat : Int) = (c : Int) % 128 + 128 := by simp; omega
      go_roundw
      case rel => exact ⟨pre ++ [UInt8.ofNat (c % 128 + 128)], g, c / 128, by go_num, hg, by simp; omega, by omega, by rw [Hl.out, e]; simp, by rw [List.map_append, List.length_append]; simp only [List.map_cons, List.map_nil, bv, eb, List.length_cons, List.length_nil]; exact hown', hB1⟩
      case measure => simp [intOf]; omega

set_option maxHeartbeats 1000000 in
theorem refPutInt_no (n : Int) (h : n < -4611686018427387903 ∨ 4611686018427387903 < n) (w : World) :
    Calls Tryd.prog 13 #[.int .i64 n] w fun e w' => e = .returned (.tuple #[.string ⟨#[]⟩, .int .i64 10]) ∧ w = w' := by
  rcases h with h | h
  · go_enter Tryd.func13, Tryd.ntmps13
    go_wp2_with fail
    go_ret2
    exact ⟨rfl, rfl⟩
  · have h' : decide (n < -4611686018427387903) = false := by simp; omega
    go_enter Tryd.func13, Tryd.ntmps13
    go_wp2_with fail
    go_ret2
    exact ⟨rfl, rfl⟩

set_option maxHeartbeats 1000000 in
theorem refPutString_yes (s : ByteArray) (h : s.size ≤ 65536) (w : World) :
    Calls Tryd.prog 20 #[.string s] w fun e w' => e = .returned (.tuple #[.string (⟨(putI s.size).toArray⟩ ++ s), .int .i64 0]) ∧ Below w.heap.size w w' := by
  have hl := putI_length s.size
  go_enter Tryd.func20, Tryd.ntmps20
  go_wp2_with (go_at_call 13; refine (refPutInt_yes _ (by omega) (by omega) _).mono ?_; rintro e w1 ⟨rfl, hb1⟩)
  go_ret2
  exact ⟨rfl, hb1⟩

theorem refInt_round {z b k : Nat} (hz : z < 128 ^ k) (hk : k < 9) (hb : b < 128) :
    IntKind.u64.wrap ((b : Int) * 2 ^ (7 * k)) = ((b * 128 ^ k : Nat) : Int) ∧ (z : Int) + ((b * 128 ^ k : Nat) : Int) = ((z + b * 128 ^ k : Nat) : Int) ∧ z + b * 128 ^ k < 128 ^ (k + 1) ∧ z + b * 128 ^ k < 9223372036854775808 :=
  have h := int_round hz hk hb
  ⟨h.1, by omega, h.2.2⟩

/-- What Int answers at its last group, by the reference's own test. -/
theorem refInt_eq {s : ByteArray} {k at' y b : Nat} {N : Int} (hu : unzig y = N)
    (hend : decI (s.data.toList.drop at') = if b = 0 ∧ 0 < k then none else if y = 9223372036854775807 then none else some (y, k + 1))
    (hread : leb y = (s.data.toList.drop at').take (k + 1) ↔ ¬ (b = 0 ∧ 0 < k)) (hy : y < 9223372036854775807) :
    ((!putI N == (s.extract at' (at' + k + 1)).toList) = true → intR s at' = .tuple #[.int .i64 0, .int .i64 0, .int .i64 10]) ∧
    ((!putI N == (s.extract at' (at' + k + 1)).toList) = false → intR s at' = .tuple #[.int .i64 N, .int .i64 ((at' : Int) + k + 1), .int .i64 0]) := by
  have e1 : putI N = leb y := by rw [← hu, putI, zig_unzig]
  have e2 : (s.extract at' (at' + k + 1)).toList = (s.data.toList.drop at').take (k + 1) := by rw [Lib.extract_toList, show at' + k + 1 - at' = k + 1 by omega]
  rw [e1, e2]
  constructor
  · intro h
    have hn : ¬ leb y = (s.data.toList.drop at').take (k + 1) := by simpa using h
    have : b = 0 ∧ 0 < k := Classical.byContradiction fun e => hn (hread.2 e)
    unfold intR; rw [hend, if_pos this]
  · intro h
    have hn : leb y = (s.data.toList.drop at').take (k + 1) := by simpa using h
    unfold intR; rw [hend, if_neg (hread.1 hn), if_neg (by omega)]
    simp [hu, Int.add_assoc]
theorem refInt_low {s : ByteArray} {k at' y b : Nat}
    (hend : decI (s.data.toList.drop at') = if b = 0 ∧ 0 < k then none else if y = 9223372036854775807 then none else some (y, k + 1)) (hy : y = 9223372036854775807) :
    intR s at' = .tuple #[.int .i64 0, .int .i64 0, .int .i64 10] := by
  unfold intR; rw [hend, if_pos hy, ite_self]

set_option maxRecDepth 100000 in
set_option maxHeartbeats 8000000 in
theorem refInt_walk (s : ByteArray) (at' : Nat) (hat : at' ≤ s.size) (hs : s.size < 4611686018427387904) (w : World) :
    Calls Tryd.prog 16 #[.string s, .int .i64 at'] w fun e w' => e = .returned (intR s at') ∧ Below w.heap.size w w' := by
  have hd1 : decide (s.size < at') = false := by simp; omega
  have hd2 : decide ((at' : Int) < 0) = false := by simp
  go_enter Tryd.func16, Tryd.ntmps16
  go_wp2_with fail
  go_loopw [7, 8] (fun zv i wr => ∃ k z : Nat, k ≤ 9 ∧ i = .int .i64 k ∧ zv = .int .u64 z ∧ ScanTo (s.data.toList.drop at') k z ∧ ReadTo (s.data.toList.drop at') k z ∧ wr = w) (fun _ i _ => 9 - (intOf i).toNat)
  case atStart => exact ⟨0, 0, by omega, rfl, rfl, scanTo_0 _, readTo_0 _, rfl⟩
  case round =>
    obtain ⟨k, z, hk, rfl, rfl, hsc, hrd, rfl⟩ := hrel
    have Hz := Lib.hid hrd.1
    by_cases hk9 : k < 9
    · by_cases hin : at' + k < s.size
      · have hlb : (s.data.toList.drop at')[k]? = some s[at' + k] := by
          rw [List.getElem?_drop]; exact (List.getElem?_eq_getElem (by simpa using hin)).trans rfl
        obtain ⟨b, hbe⟩ : ∃ b, s[at' + k].toNat = b := ⟨_, rfl⟩
        have hb256 : b < 256 := by rw [← hbe]; exact UInt8.toNat_lt _
        by_cases hb : b < 128
        · have hmod : (b : Int) % 128 = b := by omega
          obtain ⟨f1, f2, f3, f4⟩ := refInt_round Hz.out hk9 hb
          have hend := scanTo_end hsc hk9 hlb (by omega)
          have hread := readTo_end hrd hk9 hlb (by omega)
          rw [hbe] at hend hread
          obtain ⟨p, hp⟩ : ∃ p, b * 128 ^ k = p := ⟨_, rfl⟩
          obtain ⟨y, hy⟩ : ∃ y, z + p = y := ⟨_, rfl⟩
          rw [hp] at f1 f2 f3 f4 hend hread
          rw [hy] at f2 f3 f4 hend hread
          have hzy : z ≤ y := by omega
          have hpy : p ≤ y := by omega
          have h128 : decide (128 ≤ (b : Int)) = false := by simp; omega
          by_cases hpar : y % 2 = 1
          · have g1 : ((y : Int) % 2 == 1) = true := by simp; omega
            obtain ⟨m, hm⟩ : ∃ m, y / 2 = m := ⟨_, rfl⟩
            have g2 : (y : Int) / 2 = m := by omega
            have hmb : m < 4611686018427387904 := by omega
            obtain ⟨N, hN⟩ : ∃ N : Int, -(m : Int) - 1 = N := ⟨_, rfl⟩
            have hu : unzig y = N := by unfold unzig; rw [if_neg (by omega), hm]; exact hN
            by_cases hlow : N < -4611686018427387903
            · have hint := refInt_low hend (show y = 9223372036854775807 by omega)
              have Hint := Lib.hid hint
              clear hint hend hread hp hy f3 hsc hrd hu hm
              go_wp2_with (go_at_call 13; refine (refPutInt_no _ (.inl hlow) _).mono ?_; rintro e w1 ⟨rfl, rfl⟩)
              go_ret3
              exact ⟨by rw [Hint.out]; try rfl, Below.refl _ _⟩
            · obtain ⟨i1, i2⟩ := refInt_eq hu hend hread (by omega)
              have I1 := Lib.hid i1
              have I2 := Lib.hid i2
              clear i1 i2 hend hread hp hy f3 hsc hrd hu hm
              go_wp2_with (go_at_call 13; refine (refPutInt_yes N (by omega) (by omega) _).mono ?_; rintro e w1 ⟨rfl, hb1⟩)
              · go_ret3
                exact ⟨by rw [I1.out (by assumption)]; try rfl, hb1⟩
              · go_ret3
                exact ⟨by rw [I2.out (by assumption)]; try rfl, hb1⟩
          · have g1 : ((y : Int) % 2 == 1) = false := by simp; omega
            obtain ⟨m, hm⟩ : ∃ m, y / 2 = m := ⟨_, rfl⟩
            have g2 : (y : Int) / 2 = m := by omega
            have hmb : m < 4611686018427387904 := by omega
            have hu : unzig y = (m : Int) := by unfold unzig; rw [if_pos (by omega), hm]
            obtain ⟨i1, i2⟩ := refInt_eq hu hend hread (by omega)
            have I1 := Lib.hid i1
            have I2 := Lib.hid i2
            clear i1 i2 hend hread hp hy f3 hsc hrd hu hm
            go_wp2_with (go_at_call 13; refine (refPutInt_yes (m : Int) (by omega) (by omega) _).mono ?_; rintro e w1 ⟨rfl, hb1⟩)
            · go_ret3
              exact ⟨by rw [I1.out (by assumption)]; try rfl, hb1⟩
            · go_ret3
              exact ⟨by rw [I2.out (by assumption)]; try rfl, hb1⟩
        · have hmore := scanTo_more hsc hk9 hlb (by omega)
          have hrdm := readTo_more hrd hlb (by omega)
          obtain ⟨q, hq⟩ : ∃ q, b - 128 = q := ⟨_, rfl⟩
          rw [hbe, hq] at hmore hrdm
          have hmod : (b : Int) % 128 = (q : Int) := by omega
          obtain ⟨f1, f2, f3, f4⟩ := refInt_round Hz.out hk9 (show q < 128 by omega)
          have hq8 : q < 128 := by omega
          have h128 : decide (128 ≤ (b : Int)) = true := by simp; omega
          obtain ⟨p, hp⟩ : ∃ p, q * 128 ^ k = p := ⟨_, rfl⟩
          obtain ⟨y, hy⟩ : ∃ y, z + p = y := ⟨_, rfl⟩
          rw [hp] at f1 f2 f3 f4 hmore hrdm
          rw [hy] at f2 f3 f4 hmore hrdm
          have hzy : z ≤ y := by omega
          have hpy : p ≤ y := by omega
          clear hq hp hy f3 hsc hrd
          go_wp2_with fail
          go_roundw
          case rel => exact ⟨k + 1, y, by omega, by go_num, rfl, hmore, hrdm, by trivial⟩
          case measure => simp [intOf]; omega
      · have hint : intR s at' = .tuple #[.int .i64 0, .int .i64 0, .int .i64 10] := by
          unfold intR; rw [scanTo_short hsc (by simp; omega)]
        have Hint := Lib.hid hint
        have hin' : (s.size : Int) ≤ (at' : Int) + k := by omega
        clear hint hin
        go_wp2_with fail
        go_ret3
        exact ⟨by rw [Hint.out]; try rfl, Below.refl _ _⟩
    · obtain rfl : k = 9 := by omega
      have hint : intR s at' = .tuple #[.int .i64 0, .int .i64 0, .int .i64 10] := by
        unfold intR; rw [scanTo_nine hsc]
      have Hint := Lib.hid hint
      clear hint
      go_wp2_with fail
      go_ret3
      exact ⟨by rw [Hint.out]; try rfl, Below.refl _ _⟩

set_option maxHeartbeats 1000000 in
theorem refInt_arg (s : ByteArray) (k : Int) (h : k < 0 ∨ (s.size : Int) < k) (w : World) :
    Calls Tryd.prog 16 #[.string s, .int .i64 k] w fun e w' => e = .returned (.tuple #[.int .i64 0, .int .i64 0, .int .i64 2]) ∧ w = w' := by
  rcases h with h | h
  · go_enter Tryd.func16, Tryd.ntmps16
    go_wp2_with fail
    go_ret3
    exact ⟨rfl, rfl⟩
  · have h' : decide (k < 0) = false := by simp; omega
    go_enter Tryd.func16, Tryd.ntmps16
    go_wp2_with fail
    go_ret3
    exact ⟨rfl, rfl⟩

set_option maxHeartbeats 1000000 in
theorem refString_arg (s : ByteArray) (k : Int) (h : k < 0 ∨ (s.size : Int) < k) (w : World) :
    Calls Tryd.prog 18 #[.string s, .int .i64 k] w fun e w' => e = .returned (.tuple #[.string ⟨#[]⟩, .int .i64 0, .int .i64 2]) ∧ w = w' := by
  go_enter Tryd.func18, Tryd.ntmps18
  go_wp2_with (go_at_call 16; refine (refInt_arg _ _ h _).mono ?_; rintro e w1 ⟨rfl, rfl⟩)
  go_ret3
  exact ⟨rfl, rfl⟩

set_option maxRecDepth 100000 in
set_option maxHeartbeats 4000000 in
theorem refString_walk (s : ByteArray) (k : Nat) (hk : k ≤ s.size) (hs : s.size < 4611686018427387904) (w : World) :
    Calls Tryd.prog 18 #[.string s, .int .i64 k] w fun e w' => e = .returned (strR s k) ∧ Below w.heap.size w w' := by
  cases hd : decI (s.data.toList.drop k) with
  | none =>
    have hi : intR s k = .tuple #[.int .i64 0, .int .i64 0, .int .i64 10] := by unfold intR; rw [hd]
    have hr : strR s k = .tuple #[.string ⟨#[]⟩, .int .i64 0, .int .i64 10] := by unfold strR; rw [hd]
    rw [hr]
    have H := refInt_walk s k hk hs
    rw [hi] at H
    have HH := Lib.hid H
    clear H hi hr hd
    go_enter Tryd.func18, Tryd.ntmps18
    go_wp2_with (go_at_call 16; refine (HH.out _).mono ?_; rintro e w1 ⟨rfl, hb1⟩)
    go_ret3
    exact ⟨rfl, hb1⟩
  | some zc =>
    obtain ⟨z, c⟩ := zc
    obtain ⟨b1, b2, b3, b4⟩ := decI_bd hd
    obtain ⟨b5, b6⟩ := unzig_bd b4
    simp only [maxI] at b5 b6
    have b7 : k + c ≤ s.size := by simp at b3; omega
    have hi : intR s k = .tuple #[.int .i64 (unzig z), .int .i64 ((k : Int) + c), .int .i64 0] := by unfold intR; rw [hd]
    have H := refInt_walk s k hk hs
    rw [hi] at H
    obtain ⟨n, hn⟩ : ∃ n, unzig z = n := ⟨_, rfl⟩
    have hr : strR s k = if 0 ≤ n ∧ n ≤ 65536 ∧ k + c + n.toNat ≤ s.size then .tuple #[.string (s.extract (k + c) (k + c + n.toNat)), .int .i64 ((k + c + n.toNat : Nat) : Int), .int .i64 0] else .tuple #[.string ⟨#[]⟩, .int .i64 0, .int .i64 10] := by unfold strR; rw [hd]; simp only [hn]
    rw [hr]
    rw [hn] at H b5 b6
    have HH := Lib.hid H
    clear H hi hr hd hn b3
    by_cases h1 : n < 0
    · rw [if_neg (by omega)]
      go_enter Tryd.func18, Tryd.ntmps18
      go_wp2_with (go_at_call 16; refine (HH.out _).mono ?_; rintro e w1 ⟨rfl, hb1⟩)
      go_ret3
      exact ⟨rfl, hb1⟩
    · have h1' : decide (n < 0) = false := by simpa using h1
      by_cases h2 : 65536 < n
      · rw [if_neg (by omega)]
        go_enter Tryd.func18, Tryd.ntmps18
        go_wp2_with (go_at_call 16; refine (HH.out _).mono ?_; rintro e w1 ⟨rfl, hb1⟩)
        go_ret3
        exact ⟨rfl, hb1⟩
      · have h2' : decide (65536 < n) = false := by simpa using h2
        by_cases h3 : (s.size : Int) - (k + c) < n
        · rw [if_neg (by omega)]
          go_enter Tryd.func18, Tryd.ntmps18
          go_wp2_with (go_at_call 16; refine (HH.out _).mono ?_; rintro e w1 ⟨rfl, hb1⟩)
          go_ret3
          exact ⟨rfl, hb1⟩
        · rw [if_pos (by omega)]
          obtain ⟨m, rfl⟩ := Int.eq_ofNat_of_zero_le (show 0 ≤ n by omega)
          rw [Int.toNat_natCast]
          go_enter Tryd.func18, Tryd.ntmps18
          go_wp2_with (go_at_call 16; refine (HH.out _).mono ?_; rintro e w1 ⟨rfl, hb1⟩)
          go_ret3
          refine ⟨?_, hb1⟩
          show Ending.returned (.tuple #[.string _, .int .i64 ((k : Int) + c + m), .int .i64 0]) = _
          rw [show ((k : Int) + c + m) = ((k + c + m : Nat) : Int) by omega]

set_option maxRecDepth 100000 in
set_option maxHeartbeats 4000000 in
theorem refSum_walk (s : ByteArray) (w : World) (hs : s.size < 4611686018427387904) :
    Calls Tryd.prog 22 #[.string s] w fun e w' => e = .returned (.int .i64 (crc s.data.toList : Int)) ∧ w = w' := by
  go_enter Tryd.func22, Tryd.ntmps22
  go_wp2_with fail
  go_loop [3, 4] (fun r i => ∃ k c : Nat, k ≤ s.size ∧ i = .int .i64 k ∧ c < 4294967296 ∧ r = .int .u32 c ∧ crcN (s.data.toList.take k) = c) (fun _ i => s.size - (intOf i).toNat)
  case atStart => exact ⟨0, 4294967295, Nat.zero_le _, rfl, by omega, rfl, rfl⟩
  case round =>
    obtain ⟨k, c, hk, rfl, hc, rfl, hcrc⟩ := hrel
    by_cases hlt : k < s.size
    · have hsn : crcN (s.data.toList.take (k + 1)) = upd c s[k].toNat := by
        rw [List.take_succ_eq_append_getElem (by simpa using hlt), crcN_snoc, hcrc]; rfl
      have hb : s[k].toNat < 256 := UInt8.toNat_lt _
      obtain ⟨b, hbe⟩ : ∃ b, s[k].toNat = b := ⟨_, rfl⟩
      rw [hbe, upd_bits, ← bitSteps_8] at hsn
      rw [hbe] at hb
      have e0 : (b : Int) % 4294967296 = b := by omega
      have e1 := u32_xor_nat c b hc (by omega)
      have l1 := xor_lt32 hc (show b < 4294967296 by omega)
      obtain ⟨x1, hx1⟩ : ∃ x, c ^^^ b = x := ⟨_, rfl⟩
      rw [hx1] at e1 l1 hsn
      have HS := Lib.hid hsn
      clear hsn hx1 hcrc
      go_wp2_with fail
      go_loop [3, 5, 6] (fun r j _ => ∃ m c : Nat, m ≤ 8 ∧ j = .int .i64 m ∧ c < 4294967296 ∧ r = .int .u32 c ∧ bitSteps m x1 = c) (fun _ j _ => 8 - (intOf j).toNat)
      case atStart => exact ⟨0, x1, by omega, rfl, l1, rfl, rfl⟩
      case round =>
        obtain ⟨m, d, hm, rfl, hd, rfl, hst⟩ := hrel
        by_cases hm8 : m < 8
        · have hnext : bitSteps (m + 1) x1 = if d % 2 = 1 then (d / 2) ^^^ 2197175160 else d / 2 := by rw [← hst]; rfl
          by_cases hodd : d % 2 = 1
          · have g1 : ((d : Int) % 2 == 1) = true := by simp; omega
            have g2 : (d : Int) / 2 = ((d / 2 : Nat) : Int) := by omega
            rw [if_pos hodd] at hnext
            obtain ⟨h, hh⟩ : ∃ h, d / 2 = h := ⟨_, rfl⟩
            rw [hh] at g2 hnext
            have g3 := u32_xor_nat h 2197175160 (by omega) (by decide)
            have hl := xor_lt32 (show h < 4294967296 by omega) (show 2197175160 < 4294967296 by decide)
            obtain ⟨y, hy⟩ : ∃ y, h ^^^ 2197175160 = y := ⟨_, rfl⟩
            rw [hy] at g3 hl hnext
            have HN := Lib.hid hnext
            simp only [Int.cast_ofNat_Int] at g3
            clear hnext hy hh hst
            go_wp2_with fail
            go_round
            case rel => exact ⟨m + 1, y, by omega, by go_num, hl, rfl, HN.out⟩
            case measure => simp [intOf]; omega
          · have g1 : ((d : Int) % 2 == 1) = false := by simp; omega
            have g2 : (d : Int) / 2 = ((d / 2 : Nat) : Int) := by omega
            rw [if_neg hodd] at hnext
            obtain ⟨h, hh⟩ : ∃ h, d / 2 = h := ⟨_, rfl⟩
            rw [hh] at g2 hnext
            have hl : h < 4294967296 := by omega
            have HN := Lib.hid hnext
            clear hnext hh hst
            go_wp2_with fail
            go_round
            case rel => exact ⟨m + 1, h, by omega, by go_num, hl, rfl, HN.out⟩
            case measure => simp [intOf]; omega
        · obtain rfl : m = 8 := by omega
          have hfin : crcN (s.data.toList.take (k + 1)) = d := by rw [HS.out, hst]
          have HF := Lib.hid hfin
          clear hfin hst
          go_wp2_with fail
          go_round
          case rel => exact ⟨k + 1, d, by omega, by go_num, hd, rfl, HF.out⟩
          case measure => simp [intOf]; omega
    · have hall : crcN s.data.toList = c := by rw [← hcrc, List.take_of_length_le (by simp; omega)]
      have HA := Lib.hid hall
      have hnot := u32_not c hc
      have hsg : IntKind.u32.signed = false := rfl
      obtain ⟨q, hq⟩ : ∃ q, 4294967295 - c = q := ⟨_, rfl⟩
      have hq2 : q < 4294967296 := by omega
      rw [hq] at hnot
      have hcr : (crc s.data.toList : Int) = q := by rw [crc, HA.out, hq]
      have HC := Lib.hid hcr
      clear hall hcrc hq hcr
      go_wp2_with fail
      go_ret
      exact ⟨by rw [HC.out]; try rfl, rfl⟩

end Go.Proofs.YtoejihodomcdcaaDoor
