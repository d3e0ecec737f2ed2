/-
  The walk of WireUnique. Conditions: the integer arguments fit their kinds, and the table's variable holds the table.
-/
import Derived.Test.YtoejihodomcdcaaDoorWireM3
import Derived.RegionTactic
import Derived.ChangeAlike
namespace Go.Proofs.YtoejihodomcdcaaDoor
open Go Go.RowKit

theorem int_cases (T : ByteArray) (hs : T.size < 4611686018427387904) (k : Nat) (hk : k ≤ T.size) :
    (∃ (n : Int) (c : Nat), (∀ w, Calls Tryd.prog 15 #[.string T, .int .i64 k] w fun e w' => e = .returned (.tuple #[.int .i64 n, .int .i64 ((k : Int) + c), .int .i64 0]) ∧ w = w') ∧
      -4611686018427387903 ≤ n ∧ n ≤ 4611686018427387903 ∧ k + c ≤ T.size ∧ ((T.extract k (k + c)).toList == putI n) = true) ∨
    (∀ w, Calls Tryd.prog 15 #[.string T, .int .i64 k] w fun e w' => e = .returned (.tuple #[.int .i64 0, .int .i64 0, .int .i64 10]) ∧ w = w') := by
  have h := fun w => int_walk T k hk hs w
  cases hd : decI (T.data.toList.drop k) with
  | none =>
    have e : intR T k = .tuple #[.int .i64 0, .int .i64 0, .int .i64 10] := by unfold intR; rw [hd]
    rw [e] at h
    exact .inr h
  | some zc =>
    obtain ⟨z, c⟩ := zc
    obtain ⟨b1, b2, b3, b4⟩ := decI_bd hd
    obtain ⟨b5, b6⟩ := unzig_bd b4
    have e : intR T k = .tuple #[.int .i64 (unzig z), .int .i64 ((k : Int) + c), .int .i64 0] := by unfold intR; rw [hd]
    rw [e] at h
    simp at b3
    refine .inl ⟨_, c, h, b5, b6, by omega, ?_⟩
    rw [Lib.extract_toList, Nat.add_sub_cancel_left, ← decI_unique hd, putI, zig_unzig]
    simp
theorem str_cases (T : ByteArray) (hs : T.size < 4611686018427387904) (k : Nat) (hk : k ≤ T.size) :
    (∃ (v : ByteArray) (n : Nat), (∀ w, Calls Tryd.prog 17 #[.string T, .int .i64 k] w fun e w' => e = .returned (.tuple #[.string v, .int .i64 (n : Int), .int .i64 0]) ∧ w = w') ∧
      v.size ≤ 65536 ∧ k ≤ n ∧ n ≤ T.size ∧ ((T.extract k n).toList == (⟨(putI v.size).toArray⟩ ++ v : ByteArray).toList) = true) ∨
    (∀ w, Calls Tryd.prog 17 #[.string T, .int .i64 k] w fun e w' => e = .returned (.tuple #[.string ⟨#[]⟩, .int .i64 0, .int .i64 10]) ∧ w = w') := by
  have h := fun w => string_walk T k hk hs w
  cases hd : decI (T.data.toList.drop k) with
  | none =>
    have e : strR T k = .tuple #[.string ⟨#[]⟩, .int .i64 0, .int .i64 10] := by unfold strR; rw [hd]
    rw [e] at h
    exact .inr h
  | some zc =>
    obtain ⟨z, c⟩ := zc
    obtain ⟨b1, b2, b3, b4⟩ := decI_bd hd
    simp at b3
    by_cases hc : 0 ≤ unzig z ∧ unzig z ≤ 65536 ∧ k + c + (unzig z).toNat ≤ T.size
    · have e : strR T k = .tuple #[.string (T.extract (k + c) (k + c + (unzig z).toNat)), .int .i64 ((k + c + (unzig z).toNat : Nat) : Int), .int .i64 0] := by unfold strR; rw [hd]; simp only [if_pos hc]
      rw [e] at h
      have hv : (T.extract (k + c) (k + c + (unzig z).toNat)).size = (unzig z).toNat := by rw [ByteArray.size_extract]; omega
      refine .inl ⟨_, _, h, by omega, by omega, by omega, ?_⟩
      have hn : (((T.extract (k + c) (k + c + (unzig z).toNat)).size : Nat) : Int) = unzig z := by omega
      rw [hn, Lib.extract_toList, Lib.toList_data, ba_append, Lib.extract_data, beq_iff_eq]
      have hl : putI (unzig z) = (T.data.toList.drop k).take c := by rw [← decI_unique hd, putI, zig_unzig]
      show _ = (putI (unzig z)) ++ _
      rw [hl, show k + c + (unzig z).toNat - k = c + (unzig z).toNat by omega, show k + c + (unzig z).toNat - (k + c) = (unzig z).toNat by omega, List.take_add, List.drop_drop]
    · have e : strR T k = .tuple #[.string ⟨#[]⟩, .int .i64 0, .int .i64 10] := by unfold strR; rw [hd]; simp only [if_neg hc]
      rw [e] at h
      exact .inr h

set_option maxRecDepth 100000 in
set_option maxHeartbeats 8000000 in
theorem unique_walk (s : ByteArray) (at' : Int) (f : UInt8) (h3 : -9223372036854775808 ≤ at') (h4 : at' ≤ 9223372036854775807) (_hs : s.size ≤ 9223372036854775807) (w : World) (hT : TabAt w) :
    Calls Tryd.prog 5 #[.string s, .int .i64 at', .int .u8 (f.toNat : Int)] w fun e w' => e = .returned (.bool true) ∧ Below w.heap.size w w' := by
  have HT := Lib.hid hT
  clear hT
  have m3 := cutAt_eq s 300
  obtain ⟨l3, k3⟩ := cutAt_le s 300
  simp only [Int.cast_ofNat_Int] at m3
  go_enter Tryd.func5, Tryd.ntmps5
  go_wp2_with fail
  refine (sane_walk _ HT.out).mono ?_
  rintro e w1 ⟨rfl, hb1⟩
  go_wp2_with fail
  have hcell : ((w1.alloc (.cells #[.int .u8 (f.toNat : Int)] 5)).drew).cell? ⟨w1.heap.size, 0, none⟩ = some (.int .u8 (f.toNat : Int)) := by simp
  have hconv := run_convert_bytes_back (P := Tryd.prog) ((w1.alloc (.cells #[.int .u8 (f.toNat : Int)] 5)).drew) 38 9 5 ⟨w1.heap.size, 0, none⟩ 1 [f] Tryd.underlying38 Tryd.underlying5 Tryd.underlying9 (fun j hj => by
    obtain rfl : j = 0 := by simpa using hj
    exact hcell)
  simp only [List.length_cons, List.length_nil, Nat.zero_add] at hconv
  have hB1 : Below w.heap.size w (w1.alloc (.cells #[.int .u8 (f.toNat : Int)] 5)).drew := (hb1.alloc hb1.size _).drew
  go_region
  have s3 := cut_size s 300
  have hsz1 : ((⟨#[f]⟩ : ByteArray) ++ s.extract 0 (cutAt s 300)).size = 1 + cutAt s 300 := by rw [ba_size_append, s3]; rfl
  generalize ((⟨#[f]⟩ : ByteArray) ++ s.extract 0 (cutAt s 300)) = T at hsz1 ⊢
  have b3 : T.size ≤ 301 := by omega
  generalize (w1.alloc (.cells #[.int .u8 (f.toNat : Int)] 5)).drew = W1 at hB1 ⊢
  clear m3 s3 hconv hcell hb1 hsz1
  have p0 := pickI_bd (c := at') (n := (T.size : Int) + 1) (by omega)
  go_wp2_with fail
  refine (pick_walk _ _ h3 h4 (by omega) (by omega) _).mono ?_
  rintro e w3 ⟨rfl, rfl⟩
  obtain ⟨pk, hpk⟩ := Int.eq_ofNat_of_zero_le p0.1
  rw [hpk] at p0 ⊢
  clear hpk
  go_wp2_with fail
  obtain ⟨W3, hW3⟩ : ∃ W3, W1.alloc (.cells #[.int .i64 0, .int .i64 (pk : Int)] 3) = W3 := ⟨_, rfl⟩
  rw [hW3]
  have hsz3 : W3.heap.size = W1.heap.size + 1 := by rw [← hW3]; simp
  have hB4 : Below w.heap.size w W3 := by rw [← hW3]; exact hB1.alloc hB1.size _
  have c0 : W3.cell? ⟨W1.heap.size, 0, none⟩ = some (.int .i64 ((0 : Nat) : Int)) := by rw [← hW3]; simp
  have c1 : W3.cell? ⟨W1.heap.size, 1, none⟩ = some (.int .i64 (pk : Int)) := by rw [← hW3]; simp
  clear hW3 hB1
  go_loopw [38] (fun i wr => ∃ k : Nat, k ≤ 2 ∧ i = .int .i64 k ∧ Below W3.heap.size W3 wr) (fun i _ => 2 - (intOf i).toNat)
  case atStart => exact ⟨0, by omega, rfl, Below.refl _ _⟩
  case round =>
    obtain ⟨k, hk, rfl, hb⟩ := hrel
    by_cases hlt : k < 2
    · have hcell : ∃ m : Nat, m ≤ T.size ∧ wr.cell? ⟨W1.heap.size, k, none⟩ = some (.int .i64 (m : Int)) := by
        rw [hb.cell (p := ⟨W1.heap.size, k, none⟩) (by rw [hsz3]; show W1.heap.size < _; omega)]
        rcases (by omega : k = 0 ∨ k = 1) with rfl | rfl
        · exact ⟨0, by omega, c0⟩
        · exact ⟨pk, by omega, c1⟩
      obtain ⟨m, hm, hcell⟩ := hcell
      clear c0 c1
      rcases int_cases T (by omega) m hm with ⟨n, c, p1, n1, n2, n3, n4⟩ | p1
      all_goals
        rcases str_cases T (by omega) m hm with ⟨v, q, p2, v1, v2, v3, v4⟩ | p2
        all_goals
          have P1 := Lib.hid p1
          have P2 := Lib.hid p2
          clear p1 p2
          go_wp2_with fail
          refine (P1.out _).mono ?_
          rintro e w3 ⟨rfl, rfl⟩
          go_wp2_with fail
          refine (putInt_yes _ (by omega) (by omega) _).mono ?_
          rintro e w4 ⟨rfl, hb4⟩
          go_wp2_with fail
          refine (P2.out _).mono ?_
          rintro e w5 ⟨rfl, rfl⟩
          go_wp2_with fail
          refine (putString_yes _ (by first | assumption | decide) _).mono ?_
          rintro e w6 ⟨rfl, hb6⟩
          have q1 := hb.trans (hb4.mono hb.size)
          have q2 := q1.trans (hb6.mono q1.size)
          clear hb4 hb6 q1
          go_wp2_with fail
          go_roundw
          case rel => exact ⟨k + 1, by omega, by go_num, q2⟩
          case measure => simp [intOf]; omega
    · obtain rfl : k = 2 := by omega
      have hB5 : Below w.heap.size w wr := hB4.trans (hb.mono hB4.size)
      clear hb c0 c1 hB4
      go_wp2_with fail
      go_ret
      exact ⟨rfl, hB5⟩

end Go.Proofs.YtoejihodomcdcaaDoor
