/-
  The walk of WireTruncated. Conditions: the integer arguments fit their kinds, and the table's variable holds the table.
-/
import Derived.Test.YtoejihodomcdcaaDoorWireM
namespace Go.Proofs.YtoejihodomcdcaaDoor
open Go Go.RowKit

theorem intTrunc_walk {n : Int} (h1 : -4611686018427387903 ≤ n) (h2 : n ≤ 4611686018427387903) (k : Nat) (hk : k < (putI n).length) (w : World) :
    Calls Tryd.prog 15 #[.string ((⟨(putI n).toArray⟩ : ByteArray).extract 0 k), .int .i64 0] w fun e w' => e = .returned (.tuple #[.int .i64 0, .int .i64 0, .int .i64 10]) ∧ w = w' := by
  have hl := putI_length n
  have hs : ((⟨(putI n).toArray⟩ : ByteArray).extract 0 k).size = k := by rw [ByteArray.size_extract]; show min k (putI n).toArray.size - 0 = k; simp; omega
  have hx : ((⟨(putI n).toArray⟩ : ByteArray).extract 0 k).data.toList = (putI n).take k := by rw [Lib.extract_data]; simp
  have h := int_walk ((⟨(putI n).toArray⟩ : ByteArray).extract 0 k) 0 (by omega) (by omega) w
  rw [show intR ((⟨(putI n).toArray⟩ : ByteArray).extract 0 k) 0 = .tuple #[.int .i64 0, .int .i64 0, .int .i64 10] from by
    unfold intR; rw [List.drop_zero, hx]; unfold putI; rw [decI_prefix (zig_lt h1 h2) hk]] at h
  exact h
theorem stringTrunc_walk (T : ByteArray) (hT : T.size ≤ 65536) (k : Nat) (hk : k < (putI T.size).length + T.size) (w : World) :
    Calls Tryd.prog 17 #[.string ((⟨(putI T.size).toArray⟩ ++ T : ByteArray).extract 0 k), .int .i64 0] w fun e w' => e = .returned (.tuple #[.string ⟨#[]⟩, .int .i64 0, .int .i64 10]) ∧ w = w' := by
  have hl := putI_length T.size
  have hss : (⟨(putI T.size).toArray⟩ ++ T : ByteArray).size = (putI T.size).length + T.size := by rw [ba_size_append]; rfl
  have hs : ((⟨(putI T.size).toArray⟩ ++ T : ByteArray).extract 0 k).size = k := by rw [ByteArray.size_extract, hss]; omega
  have hx : ((⟨(putI T.size).toArray⟩ ++ T : ByteArray).extract 0 k).data.toList = (putI T.size ++ T.data.toList).take k := by rw [Lib.extract_data, ba_append]; simp
  have h := string_walk ((⟨(putI T.size).toArray⟩ ++ T : ByteArray).extract 0 k) 0 (by omega) (by omega) w
  have hz : zig (T.size : Int) < 9223372036854775807 := zig_lt (by unfold maxI; omega) (by unfold maxI; omega)
  rw [show strR ((⟨(putI T.size).toArray⟩ ++ T : ByteArray).extract 0 k) 0 = .tuple #[.string ⟨#[]⟩, .int .i64 0, .int .i64 10] from by
    unfold strR; rw [List.drop_zero, hx]
    by_cases hkl : k < (putI T.size).length
    · rw [List.take_append_of_le_length (by omega)]; unfold putI at hkl ⊢; rw [decI_prefix hz hkl]
    · have e : (putI T.size ++ T.data.toList).take k = putI T.size ++ T.data.toList.take (k - (putI T.size).length) := by
        rw [List.take_append, List.take_of_length_le (by omega)]
      rw [e, decI_putI (by unfold maxI; omega) (by unfold maxI; omega)]
      simp only [unzig_zig]
      rw [if_neg (by rw [hs]; omega)]] at h
  exact h

set_option maxRecDepth 100000 in
set_option maxHeartbeats 8000000 in
theorem truncated_walk (c d : Int) (text : ByteArray) (k : Int) (h1 : -9223372036854775808 ≤ c) (h2 : c ≤ 9223372036854775807) (h3 : -9223372036854775808 ≤ d) (h4 : d ≤ 9223372036854775807) (h5 : -9223372036854775808 ≤ k) (h6 : k ≤ 9223372036854775807) (_ht : text.size ≤ 9223372036854775807) (w : World) (hT : TabAt w) :
    Calls Tryd.prog 7 #[.int .i64 c, .int .i64 d, .string text, .int .i64 k] w fun e w' => e = .returned (.bool true) ∧ Below w.heap.size w w' := by
  have HT := Lib.hid hT
  clear hT
  obtain ⟨n1, n2⟩ := nf_bd c
  obtain ⟨n3, n4⟩ := nf_bd d
  have hpre1 : ∀ a b : Int, nf c = a → nf d = b → (putI b).take (putI a).length = putI a → a = b := by
    intro a b ha hb hp; exact putI_prefix (by unfold maxI; omega) (by unfold maxI; omega) hp
  have HP := Lib.hid hpre1
  clear hpre1
  have m3 := cutAt_eq text 200
  obtain ⟨l3, k3⟩ := cutAt_le text 200
  simp only [Int.cast_ofNat_Int] at m3
  go_enter Tryd.func7, Tryd.ntmps7
  go_wp2_with fail
  refine (sane_walk _ HT.out).mono ?_
  rintro e w1 ⟨rfl, hb1⟩
  go_wp2_with fail
  refine (numberFrom_walk _ h1 h2 _).mono ?_
  rintro e w2 ⟨rfl, hb2⟩
  have hB2 : Below w.heap.size w w2 := hb1.trans (hb2.mono hb1.size)
  clear hb2 hb1
  go_wp2_with fail
  refine (putInt_yes _ (by omega) (by omega) _).mono ?_
  rintro e w3 ⟨rfl, hb3⟩
  have hB3 : Below w.heap.size w w3 := hB2.trans (hb3.mono hB2.size)
  clear hb3 hB2
  go_wp2_with fail
  refine (numberFrom_walk _ h3 h4 _).mono ?_
  rintro e w4 ⟨rfl, hb4⟩
  have hB4 : Below w.heap.size w w4 := hB3.trans (hb4.mono hB3.size)
  clear hb4 hB3
  go_wp2_with fail
  refine (putInt_yes _ (by omega) (by omega) _).mono ?_
  rintro e w5 ⟨rfl, hb5⟩
  have hB5 : Below w.heap.size w w5 := hB4.trans (hb5.mono hB4.size)
  clear hb5 hB4
  go_wp2_with fail
  have s3 := cut_size text 200
  generalize text.extract 0 (cutAt text 200) = T at s3 ⊢
  have b3 : T.size ≤ 200 := by omega
  clear m3 s3
  refine (putString_yes T (by omega) _).mono ?_
  rintro e w6 ⟨rfl, hb6⟩
  have hB6 : Below w.heap.size w w6 := hB5.trans (hb6.mono hB5.size)
  clear hb6 hB5
  have q1 := putI_length (nf c)
  have q2 := putI_length (T.size : Int)
  have q3 := leb_pos (zig (nf c))
  have q4 := leb_pos (zig (T.size : Int))
  change 0 < (putI (nf c)).length at q3
  change 0 < (putI (T.size : Int)).length at q4
  have z0 : ¬ putI (nf c) = [] := fun e => by rw [e] at q3; simp at q3
  have z1 : (((putI (nf c)).length : Int) == 0) = false := by simp; exact z0
  have z2 : (((putI (T.size : Int)).length : Int) + (T.size : Int) == 0) = false := by simp; omega
  have p1 := pickI_bd (c := k) (n := ((putI (nf c)).length : Int)) (by omega)
  obtain ⟨k1, e1⟩ := Int.eq_ofNat_of_zero_le p1.1
  have p2 := pickI_bd (c := k) (n := ((putI (T.size : Int)).length : Int) + (T.size : Int)) (by omega)
  obtain ⟨k2, e2⟩ := Int.eq_ofNat_of_zero_le p2.1
  have g1 : k1 < (putI (nf c)).length := by omega
  have g2 : k2 < (putI (T.size : Int)).length + T.size := by omega
  have E1 := Lib.hid e1
  have E2 := Lib.hid e2
  clear e1 e2 p1 p2
  go_wp2_with fail
  refine (pick_walk _ _ h5 h6 (by omega) (by omega) _).mono ?_
  rintro e w7 ⟨rfl, rfl⟩
  rw [E1.out]
  go_wp2_with fail
  refine (intTrunc_walk (by omega) (by omega) k1 g1 _).mono ?_
  rintro e w7 ⟨rfl, rfl⟩
  go_wp2_with fail
  refine (pick_walk _ _ h5 h6 (by omega) (by omega) _).mono ?_
  rintro e w7 ⟨rfl, rfl⟩
  rw [E2.out]
  go_wp2_with fail
  refine (stringTrunc_walk T (by omega) k2 g2 _).mono ?_
  rintro e w7 ⟨rfl, rfl⟩
  have hx : ((⟨(putI (nf d)).toArray⟩ : ByteArray).extract 0 (putI (nf c)).length).toList = (putI (nf d)).take (putI (nf c)).length := by rw [Lib.extract_toList]; simp
  by_cases heq : nf c = nf d
  · have b1 : ((putI (nf c)).length : Int) ≤ (putI (nf d)).length := by rw [heq]; omega
    have b2 : (((⟨(putI (nf d)).toArray⟩ : ByteArray).extract 0 (putI (nf c)).length).toList == putI (nf c)) = true := by rw [hx, heq, List.take_length]; simp
    have b3 : (nf c == nf d) = true := by simpa using heq
    clear heq hx
    go_wp2_with fail
    refine (numberFrom_walk _ h1 h2 _).mono ?_
    rintro e w8 ⟨rfl, hb8⟩
    have hB8 : Below w.heap.size w w8 := hB6.trans (hb8.mono hB6.size)
    go_wp2_with fail
    refine (numberFrom_walk _ h3 h4 _).mono ?_
    rintro e w9 ⟨rfl, hb9⟩
    go_wp2_with fail
    go_ret
    exact ⟨rfl, hB8.trans (hb9.mono hB8.size)⟩
  · have b3 : (nf c == nf d) = false := by simpa using heq
    by_cases hle : ((putI (nf c)).length : Int) ≤ (putI (nf d)).length
    · have b2 : (((⟨(putI (nf d)).toArray⟩ : ByteArray).extract 0 (putI (nf c)).length).toList == putI (nf c)) = false := by
        rw [hx, beq_eq_false_iff_ne]
        exact fun e => heq (HP.out _ _ rfl rfl e)
      clear heq hx
      go_wp2_with fail
      refine (numberFrom_walk _ h1 h2 _).mono ?_
      rintro e w8 ⟨rfl, hb8⟩
      have hB8 : Below w.heap.size w w8 := hB6.trans (hb8.mono hB6.size)
      go_wp2_with fail
      refine (numberFrom_walk _ h3 h4 _).mono ?_
      rintro e w9 ⟨rfl, hb9⟩
      go_wp2_with fail
      go_ret
      exact ⟨rfl, hB8.trans (hb9.mono hB8.size)⟩
    · clear heq hx
      go_wp2_with fail
      refine (numberFrom_walk _ h1 h2 _).mono ?_
      rintro e w8 ⟨rfl, hb8⟩
      have hB8 : Below w.heap.size w w8 := hB6.trans (hb8.mono hB6.size)
      go_wp2_with fail
      refine (numberFrom_walk _ h3 h4 _).mono ?_
      rintro e w9 ⟨rfl, hb9⟩
      go_wp2_with fail
      go_ret
      exact ⟨rfl, hB8.trans (hb9.mono hB8.size)⟩

end Go.Proofs.YtoejihodomcdcaaDoor
