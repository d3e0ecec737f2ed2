/-
  The walk of WireMatchesReference. Conditions: the integer arguments fit their kinds, and the table's variable holds the table.
-/
import Derived.Test.YtoejihodomcdcaaDoorWireM
namespace Go.Proofs.YtoejihodomcdcaaDoor
open Go Go.RowKit

theorem put_same (n : Int) : ∃ (s : ByteArray) (c : Int), s.size ≤ 10 ∧ (∀ w, Calls Tryd.prog 12 #[.int .i64 n] w fun e w' => e = .returned (.tuple #[.string s, .int .i64 c]) ∧ Below w.heap.size w w') ∧
    (∀ w, Calls Tryd.prog 13 #[.int .i64 n] w fun e w' => e = .returned (.tuple #[.string s, .int .i64 c]) ∧ Below w.heap.size w w') := by
  by_cases h : -4611686018427387903 ≤ n ∧ n ≤ 4611686018427387903
  · exact ⟨_, _, by have := putI_length n; show (putI n).toArray.size ≤ 10; simpa using this, fun w => putInt_yes n h.1 h.2 w, fun w => refPutInt_yes n h.1 h.2 w⟩
  · exact ⟨_, _, by decide, fun w => (putInt_no n (by omega) w).mono fun e w' ⟨h1, h2⟩ => ⟨h1, h2 ▸ Below.refl _ _⟩, fun w => (refPutInt_no n (by omega) w).mono fun e w' ⟨h1, h2⟩ => ⟨h1, h2 ▸ Below.refl _ _⟩⟩
theorem intR_form (s : ByteArray) (k : Nat) : ∃ a b c : Int, intR s k = .tuple #[.int .i64 a, .int .i64 b, .int .i64 c] := by
  unfold intR; split
  · exact ⟨_, _, _, rfl⟩
  · exact ⟨_, _, _, rfl⟩
theorem strR_form (s : ByteArray) (k : Nat) : ∃ (a : ByteArray) (b c : Int), strR s k = .tuple #[.string a, .int .i64 b, .int .i64 c] := by
  unfold strR; split
  · split
    · exact ⟨_, _, _, rfl⟩
    · exact ⟨_, _, _, rfl⟩
  · exact ⟨_, _, _, rfl⟩
theorem int_same (s : ByteArray) (hs : s.size < 4611686018427387904) (k : Int) : ∃ a b c : Int, (∀ w, Calls Tryd.prog 15 #[.string s, .int .i64 k] w fun e w' => e = .returned (.tuple #[.int .i64 a, .int .i64 b, .int .i64 c]) ∧ Below w.heap.size w w') ∧
    (∀ w, Calls Tryd.prog 16 #[.string s, .int .i64 k] w fun e w' => e = .returned (.tuple #[.int .i64 a, .int .i64 b, .int .i64 c]) ∧ Below w.heap.size w w') := by
  by_cases h : 0 ≤ k ∧ k ≤ s.size
  · obtain ⟨n, rfl⟩ := Int.eq_ofNat_of_zero_le h.1
    obtain ⟨a, b, c, e⟩ := intR_form s n
    refine ⟨a, b, c, fun w => ?_, fun w => ?_⟩
    · rw [← e]; exact (int_walk s n (by omega) hs w).mono fun e w' ⟨h1, h2⟩ => ⟨h1, h2 ▸ Below.refl _ _⟩
    · rw [← e]; exact refInt_walk s n (by omega) hs w
  · exact ⟨_, _, _, fun w => (int_arg s k (by omega) w).mono fun e w' ⟨h1, h2⟩ => ⟨h1, h2 ▸ Below.refl _ _⟩, fun w => (refInt_arg s k (by omega) w).mono fun e w' ⟨h1, h2⟩ => ⟨h1, h2 ▸ Below.refl _ _⟩⟩
theorem str_same (s : ByteArray) (hs : s.size < 4611686018427387904) (k : Int) : ∃ (a : ByteArray) (b c : Int), (∀ w, Calls Tryd.prog 17 #[.string s, .int .i64 k] w fun e w' => e = .returned (.tuple #[.string a, .int .i64 b, .int .i64 c]) ∧ Below w.heap.size w w') ∧
    (∀ w, Calls Tryd.prog 18 #[.string s, .int .i64 k] w fun e w' => e = .returned (.tuple #[.string a, .int .i64 b, .int .i64 c]) ∧ Below w.heap.size w w') := by
  by_cases h : 0 ≤ k ∧ k ≤ s.size
  · obtain ⟨n, rfl⟩ := Int.eq_ofNat_of_zero_le h.1
    obtain ⟨a, b, c, e⟩ := strR_form s n
    refine ⟨a, b, c, fun w => ?_, fun w => ?_⟩
    · rw [← e]; exact (string_walk s n (by omega) hs w).mono fun e w' ⟨h1, h2⟩ => ⟨h1, h2 ▸ Below.refl _ _⟩
    · rw [← e]; exact refString_walk s n (by omega) hs w
  · exact ⟨_, _, _, fun w => (string_arg s k (by omega) w).mono fun e w' ⟨h1, h2⟩ => ⟨h1, h2 ▸ Below.refl _ _⟩, fun w => (refString_arg s k (by omega) w).mono fun e w' ⟨h1, h2⟩ => ⟨h1, h2 ▸ Below.refl _ _⟩⟩

set_option maxRecDepth 100000 in
set_option maxHeartbeats 8000000 in
theorem matches_walk (n : Int) (s : ByteArray) (at' : Int) (h1 : -9223372036854775808 ≤ n) (h2 : n ≤ 9223372036854775807) (h3 : -9223372036854775808 ≤ at') (h4 : at' ≤ 9223372036854775807) (_hs : s.size ≤ 9223372036854775807) (w : World) (hT : TabAt w) :
    Calls Tryd.prog 3 #[.int .i64 n, .string s, .int .i64 at'] w fun e w' => e = .returned (.bool true) ∧ Below w.heap.size w w' := by
  have HT := Lib.hid hT
  clear hT
  have m3 := cutAt_eq s 300
  obtain ⟨l3, k3⟩ := cutAt_le s 300
  simp only [Int.cast_ofNat_Int] at m3
  go_enter Tryd.func3, Tryd.ntmps3
  go_wp2_with fail
  refine (sane_walk _ HT.out).mono ?_
  rintro e w1 ⟨rfl, hb1⟩
  go_wp2_with fail
  have s3 := cut_size s 300
  generalize s.extract 0 (cutAt s 300) = T at s3 ⊢
  have b3 : T.size ≤ 300 := by omega
  clear m3 s3
  refine (numberFrom_walk _ h1 h2 _).mono ?_
  rintro e w2 ⟨rfl, hb2⟩
  have hB2 : Below w.heap.size w w2 := hb1.trans (hb2.mono hb1.size)
  have n12 := nf_bd n
  clear hb2 hb1
  go_wp2_with fail
  obtain ⟨W0, hW0⟩ : ∃ W0, w2.alloc (.cells #[.int .i64 n, .int .i64 (nf n)] 3) = W0 := ⟨_, rfl⟩
  rw [hW0]
  have hsz : W0.heap.size = w2.heap.size + 1 := by rw [← hW0]; simp
  have hB0 : Below w.heap.size w W0 := by rw [← hW0]; exact hB2.alloc hB2.size _
  have c0 : W0.cell? ⟨w2.heap.size, 0, none⟩ = some (.int .i64 n) := by rw [← hW0]; simp
  have c1 : W0.cell? ⟨w2.heap.size, 1, none⟩ = some (.int .i64 (nf n)) := by rw [← hW0]; simp
  clear hW0 hB2
  go_loopw [44] (fun i wr => ∃ k : Nat, k ≤ 2 ∧ i = .int .i64 k ∧ Below W0.heap.size W0 wr) (fun i _ => 2 - (intOf i).toNat)
  case atStart => exact ⟨0, by omega, rfl, Below.refl _ _⟩
  case round =>
    obtain ⟨k, hk, rfl, hb⟩ := hrel
    by_cases hlt : k < 2
    · have hcell : ∃ m, wr.cell? ⟨w2.heap.size, k, none⟩ = some (.int .i64 m) := by
        rw [hb.cell (p := ⟨w2.heap.size, k, none⟩) (by rw [hsz]; show w2.heap.size < _; omega)]
        rcases (by omega : k = 0 ∨ k = 1) with rfl | rfl
        · exact ⟨_, c0⟩
        · exact ⟨_, c1⟩
      obtain ⟨m, hcell⟩ := hcell
      obtain ⟨t, c, _, p1, p2⟩ := put_same m
      have P1 := Lib.hid p1
      have P2 := Lib.hid p2
      clear p1 p2 c0 c1
      go_wp2_with fail
      refine (P1.out _).mono ?_
      rintro e w3 ⟨rfl, hb3⟩
      go_wp2_with fail
      refine (P2.out _).mono ?_
      rintro e w4 ⟨rfl, hb4⟩
      go_wp2_with fail
      go_roundw
      case rel => exact ⟨k + 1, by omega, by go_num, hb.trans ((hb3.mono hb.size).trans (hb4.mono (Nat.le_trans hb.size hb3.size)))⟩
      case measure => simp [intOf]; omega
    · obtain rfl : k = 2 := by omega
      have hB3 : Below w.heap.size w wr := hB0.trans (hb.mono hB0.size)
      clear hb c0 c1 hB0
      go_wp2_with fail
      have p0 := pickI_bd (c := at') (n := (T.size : Int) + 2) (by omega)
      refine (pick_walk _ _ h3 h4 (by omega) (by omega) _).mono ?_
      rintro e w3 ⟨rfl, rfl⟩
      obtain ⟨pk, hpk⟩ : ∃ pk, pickI at' ((T.size : Int) + 2) = pk := ⟨_, rfl⟩
      rw [hpk] at p0 ⊢
      clear hpk
      go_wp2_with fail
      obtain ⟨W3, hW3⟩ : ∃ W3, wr.alloc (.cells #[.int .i64 at', .int .i64 pk] 3) = W3 := ⟨_, rfl⟩
      rw [hW3]
      have hsz3 : W3.heap.size = wr.heap.size + 1 := by rw [← hW3]; simp
      have hB4 : Below w.heap.size w W3 := by rw [← hW3]; exact hB3.alloc hB3.size _
      have c0 : W3.cell? ⟨wr.heap.size, 0, none⟩ = some (.int .i64 at') := by rw [← hW3]; simp
      have c1 : W3.cell? ⟨wr.heap.size, 1, none⟩ = some (.int .i64 pk) := by rw [← hW3]; simp
      clear hW3 hB3
      obtain ⟨wq, rfl⟩ : ∃ wq : World, wq = wr := ⟨_, rfl⟩
      go_loopw [75] (fun i wr => ∃ k : Nat, k ≤ 2 ∧ i = .int .i64 k ∧ Below W3.heap.size W3 wr) (fun i _ => 2 - (intOf i).toNat)
      case atStart => exact ⟨0, by omega, rfl, Below.refl _ _⟩
      case round =>
        obtain ⟨k, hk, rfl, hb⟩ := hrel
        by_cases hlt : k < 2
        · have hcell : ∃ m, wr.cell? ⟨wq.heap.size, k, none⟩ = some (.int .i64 m) := by
            rw [hb.cell (p := ⟨wq.heap.size, k, none⟩) (by rw [hsz3]; show wq.heap.size < _; omega)]
            rcases (by omega : k = 0 ∨ k = 1) with rfl | rfl
            · exact ⟨_, c0⟩
            · exact ⟨_, c1⟩
          obtain ⟨m, hcell⟩ := hcell
          obtain ⟨a, b, c, p1, p2⟩ := int_same T (by omega) m
          obtain ⟨t, u, v, p3, p4⟩ := str_same T (by omega) m
          have P1 := Lib.hid p1
          have P2 := Lib.hid p2
          have P3 := Lib.hid p3
          have P4 := Lib.hid p4
          clear p1 p2 p3 p4 c0 c1
          go_wp2_with fail
          refine (P1.out _).mono ?_
          rintro e w3 ⟨rfl, hb3⟩
          go_wp2_with fail
          refine (P2.out _).mono ?_
          rintro e w4 ⟨rfl, hb4⟩
          go_wp2_with fail
          refine (P3.out _).mono ?_
          rintro e w5 ⟨rfl, hb5⟩
          go_wp2_with fail
          refine (P4.out _).mono ?_
          rintro e w6 ⟨rfl, hb6⟩
          have q1 := hb.trans (hb3.mono hb.size)
          have q2 := q1.trans (hb4.mono q1.size)
          have q3 := q2.trans (hb5.mono q2.size)
          have q4 := q3.trans (hb6.mono q3.size)
          clear hb3 hb4 hb5 hb6 q1 q2 q3
          go_wp2_with fail
          go_roundw
          case rel => exact ⟨k + 1, by omega, by go_num, q4⟩
          case measure => simp [intOf]; omega
        · obtain rfl : k = 2 := by omega
          have hB5 : Below w.heap.size w wr := hB4.trans (hb.mono hB4.size)
          clear hb c0 c1 hB4
          go_wp2_with fail
          refine (putString_yes T (by omega) _).mono ?_
          rintro e w5 ⟨rfl, hb5⟩
          go_wp2_with fail
          refine (refPutString_yes T (by omega) _).mono ?_
          rintro e w6 ⟨rfl, hb6⟩
          have hB6 := hB5.trans (hb5.mono hB5.size)
          have hB7 := hB6.trans (hb6.mono hB6.size)
          clear hb5 hb6 hB5 hB6
          go_wp2_with fail
          refine (sum_walk T _ (by omega) (HT.out.below hB7)).mono ?_
          rintro e w7 ⟨rfl, rfl⟩
          go_wp2_with fail
          refine (refSum_walk T _ (by omega)).mono ?_
          rintro e w7 ⟨rfl, rfl⟩
          go_wp2_with fail
          go_ret
          exact ⟨rfl, hB7⟩

end Go.Proofs.YtoejihodomcdcaaDoor
