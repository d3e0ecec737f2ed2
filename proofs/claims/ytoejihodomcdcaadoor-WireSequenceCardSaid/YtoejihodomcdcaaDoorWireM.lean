/-
  The walks of package wire's laws. Conditions: the integer arguments fit their kinds, the strings are shorter than 2^62 bytes, and the table's variable holds the table.
-/
import Derived.Test.YtoejihodomcdcaaDoorWireL
import Derived.Lib.SmallJoins
namespace Go.Proofs.YtoejihodomcdcaaDoor
open Go Go.RowKit

theorem ba_ext {a b : ByteArray} (h : a.data.toList = b.data.toList) : a = b := ByteArray.ext (Array.toList_inj.1 h)
theorem ba_append (a b : ByteArray) : (a ++ b).data.toList = a.data.toList ++ b.data.toList := by simp
theorem ba_length (a : ByteArray) : a.data.toList.length = a.size := by simp

theorem drop_embed (P A Q : ByteArray) : (P ++ A ++ Q).data.toList.drop P.size = A.data.toList ++ Q.data.toList := by
  rw [ba_append, ba_append, List.append_assoc, ← ba_length P, List.drop_left]
theorem intR_embed (P Q : ByteArray) {n : Int} (h1 : -maxI ≤ n) (h2 : n ≤ maxI) :
    intR (P ++ ⟨(putI n).toArray⟩ ++ Q) P.size = .tuple #[.int .i64 n, .int .i64 ((P.size : Int) + (putI n).length), .int .i64 0] := by
  unfold intR
  rw [drop_embed]
  rw [decI_putI h1 h2]
  simp only [unzig_zig]
theorem strR_embed (P T Q : ByteArray) (h : T.size ≤ 65536) :
    strR (P ++ (⟨(putI T.size).toArray⟩ ++ T) ++ Q) P.size = .tuple #[.string T, .int .i64 ((P.size : Int) + (putI T.size).length + T.size), .int .i64 0] := by
  unfold strR
  rw [drop_embed, ba_append, List.append_assoc]
  rw [decI_putI (by unfold maxI; omega) (by unfold maxI; omega)]
  simp only [unzig_zig]
  have hsz : (P ++ (⟨(putI T.size).toArray⟩ ++ T) ++ Q).size = P.size + (putI T.size).length + T.size + Q.size := by
    rw [← ba_length, ba_append, ba_append, ba_append]; simp only [List.length_append, ba_length]; omega
  rw [if_pos (by refine ⟨by omega, by omega, ?_⟩; rw [hsz]; omega)]
  have hex : (P ++ (⟨(putI T.size).toArray⟩ ++ T) ++ Q).extract (P.size + (putI T.size).length) (P.size + (putI T.size).length + (T.size : Int).toNat) = T := by
    apply ba_ext
    rw [Lib.extract_data, ba_append, ba_append, ba_append, ← List.append_assoc]
    rw [Nat.add_sub_cancel_left, Int.toNat_natCast]
    rw [show P.size + (putI T.size).length = (P.data.toList ++ (putI T.size)).length by simp]
    rw [List.append_assoc, List.drop_left, ← ba_length T, List.take_left]
  rw [hex]
  congr 3

theorem ba_size_append (a b : ByteArray) : (a ++ b).size = a.size + b.size := by rw [← ba_length, ba_append, List.length_append, ba_length, ba_length]
theorem intEmbed_walk (P Q : ByteArray) (hP : P.size ≤ 1000) (hQ : Q.size ≤ 1000) {n : Int} (h1 : -4611686018427387903 ≤ n) (h2 : n ≤ 4611686018427387903) (w : World) :
    Calls Tryd.prog 15 #[.string (P ++ ⟨(putI n).toArray⟩ ++ Q), .int .i64 P.size] w fun e w' => e = .returned (.tuple #[.int .i64 n, .int .i64 ((P.size : Int) + (putI n).length), .int .i64 0]) ∧ w = w' := by
  have hl := putI_length n
  have hs : (P ++ ⟨(putI n).toArray⟩ ++ Q).size = P.size + (putI n).length + Q.size := by rw [ba_size_append, ba_size_append]; rfl
  have h := int_walk (P ++ ⟨(putI n).toArray⟩ ++ Q) P.size (by omega) (by omega) w
  rw [intR_embed P Q h1 h2] at h
  exact h
theorem stringEmbed_walk (P T Q : ByteArray) (hP : P.size ≤ 1000) (hQ : Q.size ≤ 1000) (h : T.size ≤ 65536) (w : World) :
    Calls Tryd.prog 17 #[.string (P ++ (⟨(putI T.size).toArray⟩ ++ T) ++ Q), .int .i64 P.size] w fun e w' => e = .returned (.tuple #[.string T, .int .i64 ((P.size : Int) + (putI T.size).length + T.size), .int .i64 0]) ∧ w = w' := by
  have hl := putI_length T.size
  have hs : (P ++ (⟨(putI T.size).toArray⟩ ++ T) ++ Q).size = P.size + ((putI T.size).length + T.size) + Q.size := by rw [ba_size_append, ba_size_append, ba_size_append]; rfl
  have hh := string_walk (P ++ (⟨(putI T.size).toArray⟩ ++ T) ++ Q) P.size (by omega) (by omega) w
  rw [strR_embed P T Q h] at hh
  exact hh

/-- What 's[:min(len(s), L)]' is cut at. -/
def cutAt (s : ByteArray) (L : Nat) : Nat := if L < s.size then L else s.size
theorem cutAt_le (s : ByteArray) (L : Nat) : cutAt s L ≤ s.size ∧ cutAt s L ≤ L := by unfold cutAt; split <;> omega
theorem cutAt_eq (s : ByteArray) (L : Nat) : (if (L : Int) < (s.size : Int) then (L : Int) else (s.size : Int)) = (cutAt s L : Int) := by
  unfold cutAt; split <;> split <;> omega
theorem cut_size (s : ByteArray) (L : Nat) : (s.extract 0 (cutAt s L)).size = cutAt s L := by
  have := cutAt_le s L
  rw [ByteArray.size_extract]; omega

set_option maxRecDepth 100000 in
set_option maxHeartbeats 4000000 in
theorem roundTrip_walk (c : Int) (h1 : -9223372036854775808 ≤ c) (h2 : c ≤ 9223372036854775807) (text p q : ByteArray) (_ht : text.size ≤ 9223372036854775807) (_hp : p.size ≤ 9223372036854775807) (_hq : q.size ≤ 9223372036854775807) (w : World) (hT : TabAt w) :
    Calls Tryd.prog 4 #[.int .i64 c, .string text, .agg #[.string p, .string q]] w fun e w' => e = .returned (.bool true) ∧ Below w.heap.size w w' := by
  have HT := Lib.hid hT
  clear hT
  obtain ⟨n1, n2⟩ := nf_bd c
  go_enter Tryd.func4, Tryd.ntmps4
  go_wp2_with fail
  refine (sane_walk _ (HT.out.below ((Below.refl _ _).alloc (Nat.le_refl _) _))).mono ?_
  rintro e w1 ⟨rfl, hb1⟩
  have hc0 : w1.cell? ⟨w.heap.size, 0, none⟩ = some (.string p) := (hb1.cell (by simp)).trans (by simp)
  have hc1 : w1.cell? ⟨w.heap.size, 1, none⟩ = some (.string q) := (hb1.cell (by simp)).trans (by simp)
  have hB1 : Below w.heap.size w w1 := ((Below.refl _ _).alloc (Nat.le_refl _) _).trans (hb1.mono (by simp))
  have hz1 : w.heap.size + 1 ≤ w1.heap.size := by have := hb1.size; simpa using this
  clear hb1
  go_wp2_with fail
  refine (numberFrom_walk _ h1 h2 _).mono ?_
  rintro e w2 ⟨rfl, hb2⟩
  have hd0 : w2.cell? ⟨w.heap.size, 0, none⟩ = some (.string p) := (hb2.cell (by simp; omega)).trans hc0
  have hd1 : w2.cell? ⟨w.heap.size, 1, none⟩ = some (.string q) := (hb2.cell (by simp; omega)).trans hc1
  have hB2 : Below w.heap.size w w2 := hB1.trans (hb2.mono hB1.size)
  have m1 := cutAt_eq p 200
  have m2 := cutAt_eq q 200
  have m3 := cutAt_eq text 200
  obtain ⟨l1, k1⟩ := cutAt_le p 200
  obtain ⟨l2, k2⟩ := cutAt_le q 200
  obtain ⟨l3, k3⟩ := cutAt_le text 200
  simp only [Int.cast_ofNat_Int] at m1 m2 m3
  clear hb2 hc0 hc1 hB1
  go_wp2_with fail
  have s1 := cut_size p 200
  have s2 := cut_size q 200
  have s3 := cut_size text 200
  generalize p.extract 0 (cutAt p 200) = P at s1 ⊢
  generalize q.extract 0 (cutAt q 200) = Q at s2 ⊢
  generalize text.extract 0 (cutAt text 200) = T at s3 ⊢
  have b1 : P.size ≤ 200 := by omega
  have b2 : Q.size ≤ 200 := by omega
  have b3 : T.size ≤ 200 := by omega
  clear m1 m2 m3 s1 s2 s3 hd0 hd1
  refine (putInt_yes _ (by omega) (by omega) _).mono ?_
  rintro e w3 ⟨rfl, hb3⟩
  have hB3 : Below w.heap.size w w3 := hB2.trans (hb3.mono hB2.size)
  have q1 := putI_length (nf c)
  have q2 := putI_length (T.size : Int)
  clear hb3 hB2
  go_wp2_with fail
  refine (putString_yes T (by omega) _).mono ?_
  rintro e w4 ⟨rfl, hb4⟩
  have hB4 : Below w.heap.size w w4 := hB3.trans (hb4.mono hB3.size)
  clear hb4 hB3
  go_wp2_with fail
  refine (intEmbed_walk P Q (by omega) (by omega) (by omega) (by omega) _).mono ?_
  rintro e w5 ⟨rfl, rfl⟩
  go_wp2_with fail
  refine (stringEmbed_walk P T Q (by omega) (by omega) (by omega) _).mono ?_
  rintro e w5 ⟨rfl, rfl⟩
  have ea : ((P.size : Int) + ((putI T.size).length + T.size)) = (P.size : Int) + (putI T.size).length + T.size := by omega
  go_wp2_with fail
  go_ret
  exact ⟨rfl, hB4⟩

end Go.Proofs.YtoejihodomcdcaaDoor
