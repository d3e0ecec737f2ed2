/-
  The walk of WireSequence. Conditions: the table's variable holds the table, and the arguments read as lists.
-/
import Derived.Test.YtoejihodomcdcaaDoorWireM5
import Derived.Test.YtoejihodomcdcaaDoorSlAt
import Derived.Deep.RegionHeld3
namespace Go.Proofs.YtoejihodomcdcaaDoor
open Go Go.RowKit

def least3 (a b : Nat) : Nat := min (min a b) 20
theorem run_min3 {P : Program} (ts : Array TypeId) (t : TypeId) (a b : Nat) (w : World) :
    (Builtin.min_ ts t #[.int .i64 (a : Int), .int .i64 (b : Int), .int .i64 20]).run P w = .ok (.int .i64 ((least3 a b : Nat) : Int)) w := by
  have e : (if (20 : Int) < (if (b : Int) < (a : Int) then (b : Int) else (a : Int)) then (20 : Int) else (if (b : Int) < (a : Int) then (b : Int) else (a : Int))) = ((least3 a b : Nat) : Int) := by
    unfold least3; split <;> split <;> omega
  rw [← e]
  simp [Builtin.min_, Builtin.min2]

def txt (s : ByteArray) : ByteArray := s.extract 0 (cutAt s 100)
theorem txt_size (s : ByteArray) : (txt s).size ≤ 100 := by unfold txt; rw [cut_size]; exact (cutAt_le s 100).2
def numAt (l : List Int) (k : Nat) : Int := nf (l.getD k 0)
def txtAt (ts : List ByteArray) (k : Nat) : ByteArray := txt (ts.getD k ⟨#[]⟩)
/-- The encodings of the first k pairs. -/
def preB (l : List Int) (ts : List ByteArray) : Nat → ByteArray
  | 0 => ⟨#[]⟩
  | k + 1 => preB l ts k ++ ⟨(putI (numAt l k)).toArray⟩ ++ (⟨(putI (txtAt ts k).size).toArray⟩ ++ txtAt ts k)
theorem preB_size (l : List Int) (ts : List ByteArray) : ∀ k, (preB l ts k).size ≤ 120 * k
  | 0 => by show ByteArray.size ⟨#[]⟩ ≤ _; exact Nat.le_refl _
  | k + 1 => by
    have ih := preB_size l ts k
    have h1 := putI_length (numAt l k)
    have h2 := putI_length (txtAt ts k).size
    have h3 := txt_size (ts.getD k ⟨#[]⟩)
    unfold preB
    rw [ba_size_append, ba_size_append, ba_size_append]
    show (preB l ts k).size + (putI (numAt l k)).toArray.size + ((putI (txtAt ts k).size).toArray.size + (txtAt ts k).size) ≤ _
    rw [List.size_toArray, List.size_toArray]
    unfold txtAt at h2 ⊢
    omega
theorem preB_more (l : List Int) (ts : List ByteArray) (k : Nat) : ∀ j, ∃ R, preB l ts (k + j) = preB l ts k ++ R
  | 0 => ⟨⟨#[]⟩, by apply ByteArray.ext; show (preB l ts k).data = _; rw [ByteArray.data_append]; simp⟩
  | j + 1 => by
    obtain ⟨R, h⟩ := preB_more l ts k j
    exact ⟨R ++ ⟨(putI (numAt l (k + j))).toArray⟩ ++ (⟨(putI (txtAt ts (k + j)).size).toArray⟩ ++ txtAt ts (k + j)), by rw [← Nat.add_assoc, preB, h]; apply ByteArray.ext; simp⟩

theorem intAt_walk (S P Q : ByteArray) (n : Int) (h : S = P ++ ⟨(putI n).toArray⟩ ++ Q) (hS : S.size < 4611686018427387904) (h1 : -4611686018427387903 ≤ n) (h2 : n ≤ 4611686018427387903) (w : World) :
    Calls Tryd.prog 15 #[.string S, .int .i64 P.size] w fun e w' => e = .returned (.tuple #[.int .i64 n, .int .i64 ((P.size : Int) + (putI n).length), .int .i64 0]) ∧ w = w' := by
  have hs : (P ++ ⟨(putI n).toArray⟩ ++ Q).size = P.size + (putI n).length + Q.size := by rw [ba_size_append, ba_size_append]; rfl
  have hh := int_walk S P.size (by rw [h]; omega) hS w
  rw [h, intR_embed P Q h1 h2] at hh
  rw [h]; exact hh
theorem stringAt_walk (S P T Q : ByteArray) (h : S = P ++ (⟨(putI T.size).toArray⟩ ++ T) ++ Q) (hS : S.size < 4611686018427387904) (ht : T.size ≤ 65536) (w : World) :
    Calls Tryd.prog 17 #[.string S, .int .i64 P.size] w fun e w' => e = .returned (.tuple #[.string T, .int .i64 ((P.size : Int) + (putI T.size).length + T.size), .int .i64 0]) ∧ w = w' := by
  have hs : (P ++ (⟨(putI T.size).toArray⟩ ++ T) ++ Q).size = P.size + ((putI T.size).length + T.size) + Q.size := by rw [ba_size_append, ba_size_append, ba_size_append]; rfl
  have hh := string_walk S P.size (by rw [h]; omega) hS w
  rw [h, strR_embed P T Q ht] at hh
  rw [h]; exact hh

set_option maxRecDepth 100000 in
set_option maxHeartbeats 8000000 in
theorem sequence_walk (A B : Option Addr) (l : List Int) (ts : List ByteArray) (cA cB : Nat) (hl : ∀ n ∈ l, -9223372036854775808 ≤ n ∧ n ≤ 9223372036854775807) (hts : ∀ s ∈ ts, s.size ≤ 9223372036854775807) (w : World) (hT : TabAt w) (hA : LAt w w.heap.size A (.int .i64) l) (hB : LAt w w.heap.size B .string ts) :
    Calls Tryd.prog 6 #[.slice A l.length cA, .slice B ts.length cB] w fun e w' => e = .returned (.bool true) ∧ Below w.heap.size w w' := by
  have HT := Lib.hid hT
  have HA := Lib.hid hA
  have HB := Lib.hid hB
  have HL := Lib.hid hl
  have HS := Lib.hid hts
  have hmin := fun w => run_min3 (P := Tryd.prog) #[3, 3, 3] 3 l.length ts.length w
  obtain ⟨n, hn⟩ : ∃ n, least3 l.length ts.length = n := ⟨_, rfl⟩
  have na : n ≤ l.length := by rw [← hn]; unfold least3; omega
  have nb : n ≤ ts.length := by rw [← hn]; unfold least3; omega
  have n20 : n ≤ 20 := by rw [← hn]; unfold least3; omega
  rw [hn] at hmin
  clear hT hA hB hl hts hn
  go_enter Tryd.func6, Tryd.ntmps6
  go_wp2_with fail
  refine (sane_walk _ HT.out).mono ?_
  rintro e w1 ⟨rfl, hb1⟩
  go_wp2_with fail
  clear hmin
  go_loopw [7, 8] (fun s i wr => ∃ k : Nat, k ≤ n ∧ i = .int .i64 k ∧ s = .string (preB l ts k) ∧ Below w.heap.size w wr) (fun _ i _ => n - (intOf i).toNat)
  case atStart => exact ⟨0, by omega, rfl, rfl, hb1⟩
  case round =>
    obtain ⟨k, hk, rfl, rfl, hW⟩ := hrel
    have HW := Lib.hid hW
    clear hW
    by_cases hlt : k < n
    · obtain ⟨a, rfl, hab, hac⟩ := HA.out.get (i := k) (by omega)
      obtain ⟨b, rfl, hbb, hbc⟩ := HB.out.get (i := k) (by omega)
      have hla := HL.out l[k] (List.getElem_mem _)
      have hsb := HS.out ts[k] (List.getElem_mem _)
      have hac' := (HW.out.cell (p := a.add k) (by rw [addr_add_block]; exact hab)).trans hac
      go_wp2_with fail
      refine (numberFrom_walk _ hla.1 hla.2 _).mono ?_
      rintro e w2 ⟨rfl, hb2⟩
      have hB2 := HW.out.trans (hb2.mono HW.out.size)
      clear hb2 hac' hac
      obtain ⟨q1, q2⟩ := nf_bd l[k]
      go_wp2_with fail
      refine (putInt_yes (nf l[k]) (by omega) (by omega) _).mono ?_
      rintro e w3 ⟨rfl, hb3⟩
      have hB3 := hB2.trans (hb3.mono hB2.size)
      have hbc' := (hB3.cell (p := b.add k) (by rw [addr_add_block]; exact hbb)).trans hbc
      have HB3 := Lib.hid hB3
      have m3 := cutAt_eq ts[k] 100
      obtain ⟨l3, k3⟩ := cutAt_le ts[k] 100
      obtain ⟨T, hTx⟩ : ∃ T, ts[k].extract 0 (cutAt ts[k] 100) = T := ⟨_, rfl⟩
      have t100 : T.size ≤ 100 := by rw [← hTx, cut_size]; exact k3
      have HX := Lib.hid hTx
      simp only [Int.cast_ofNat_Int] at m3
      have g1 : (l.getD k 0) = l[k] := by rw [List.getD_eq_getElem?_getD, List.getElem?_eq_getElem (by omega)]; rfl
      have g2 : (ts.getD k ⟨#[]⟩) = ts[k] := by rw [List.getD_eq_getElem?_getD, List.getElem?_eq_getElem (by omega)]; rfl
      have G1 := Lib.hid g1
      have G2 := Lib.hid g2
      clear hb3 hB2 hB3 hbc g1 g2
      go_wp2_with fail
      have k0 : (0 : Int) ≤ (k : Int) := by omega
      have kB : (k : Int) < (ts.length : Int) := by omega
      go_region_held3 (fun w' => w'.cell? (b.add k) = some (.string ts[k])) (first | assumption | go_keep) (first | (go_at_call 19; refine (putString_yes T (by omega) _).mono ?_; rintro e w4 ⟨rfl, hb4⟩; have hc4 : w4.cell? (b.add k) = some (.string ts[k]) := (hb4.cell (p := b.add k) (by rw [addr_add_block]; exact Nat.lt_of_lt_of_le hbb HB3.out.size)).trans hbc'))
      have hB4 := HB3.out.drew.trans (hb4.mono HB3.out.size)
      clear hTx m3 hbc' hc4 hb4
      have z1 := preB_size l ts k
      have z2 := putI_length (nf l[k])
      have z3 := putI_length (T.size : Int)
      go_wp2_with fail
      exact ⟨⟨k + 1, by omega, rfl, by rw [preB, numAt, txtAt, G1.out, G2.out, txt, HX.out], hB4⟩, by simp [intOf]; omega⟩
    · obtain rfl : k = n := by omega
      have hsz := preB_size l ts k
      have HZ := Lib.hid hsz
      clear hsz hb1
      go_wp2_with fail
      obtain ⟨wq, rfl⟩ : ∃ wq : World, wq = wr := ⟨_, rfl⟩
      go_loopw [13, 14] (fun p i wr => ∃ j : Nat, j ≤ k ∧ i = .int .i64 j ∧ p = .int .i64 (preB l ts j).size ∧ Below w.heap.size w wr) (fun _ i _ => k - (intOf i).toNat)
      case atStart => exact ⟨0, by omega, rfl, rfl, HW.out⟩
      case round =>
        obtain ⟨j, hj, rfl, rfl, hV⟩ := hrel
        have HV := Lib.hid hV
        clear hV
        by_cases hlt2 : j < k
        · obtain ⟨a, rfl, hab, hac⟩ := HA.out.get (i := j) (by omega)
          obtain ⟨b, rfl, hbb, hbc⟩ := HB.out.get (i := j) (by omega)
          have hla := HL.out l[j] (List.getElem_mem _)
          have hsb := HS.out ts[j] (List.getElem_mem _)
          have g1 : (l.getD j 0) = l[j] := by rw [List.getD_eq_getElem?_getD, List.getElem?_eq_getElem (by omega)]; rfl
          have g2 : (ts.getD j ⟨#[]⟩) = ts[j] := by rw [List.getD_eq_getElem?_getD, List.getElem?_eq_getElem (by omega)]; rfl
          obtain ⟨T, hTx⟩ : ∃ T, ts[j].extract 0 (cutAt ts[j] 100) = T := ⟨_, rfl⟩
          have m3 := cutAt_eq ts[j] 100
          obtain ⟨l3, k3⟩ := cutAt_le ts[j] 100
          simp only [Int.cast_ofNat_Int] at m3
          have t100 : T.size ≤ 100 := by rw [← hTx, cut_size]; exact k3
          have hnext : preB l ts (j + 1) = preB l ts j ++ ⟨(putI (nf l[j])).toArray⟩ ++ (⟨(putI T.size).toArray⟩ ++ T) := by rw [preB, numAt, txtAt, g1, g2, txt, hTx]
          obtain ⟨R, hR⟩ := preB_more l ts (j + 1) (k - (j + 1))
          rw [show j + 1 + (k - (j + 1)) = k by omega, hnext] at hR
          have hnz : (preB l ts (j + 1)).size = (preB l ts j).size + (putI (nf l[j])).length + (putI T.size).length + T.size := by
            rw [hnext, ba_size_append, ba_size_append, ba_size_append]
            show (preB l ts j).size + (putI (nf l[j])).toArray.size + ((putI T.size).toArray.size + T.size) = _
            rw [List.size_toArray, List.size_toArray]; omega
          obtain ⟨q1, q2⟩ := nf_bd l[j]
          obtain ⟨S, hS⟩ : ∃ S, preB l ts k = S := ⟨_, rfl⟩
          obtain ⟨P, hP⟩ : ∃ P, preB l ts j = P := ⟨_, rfl⟩
          rw [hS, hP] at hR
          rw [hP] at hnz ⊢
          have hS2 := HZ.out
          rw [hS] at hS2 ⊢
          have c1 := intAt_walk S P ((⟨(putI T.size).toArray⟩ ++ T) ++ R) (nf l[j]) (by rw [hR]; apply ByteArray.ext; simp) (by omega) (by omega) (by omega)
          have c2 := stringAt_walk S (P ++ ⟨(putI (nf l[j])).toArray⟩) T R hR (by omega) (by omega)
          have ps : (P ++ ⟨(putI (nf l[j])).toArray⟩).size = P.size + (putI (nf l[j])).length := by rw [ba_size_append]; rfl
          rw [ps, Int.natCast_add] at c2
          have C1 := Lib.hid c1
          have C2 := Lib.hid c2
          have HN := Lib.hid hnz
          have HX := Lib.hid hTx
          clear c1 c2 hnz hS hP hR hnext ps hS2 g1 g2
          go_wp2_with fail
          refine (C1.out _).mono ?_
          rintro e w2 ⟨rfl, rfl⟩
          go_wp2_with fail
          refine (C2.out _).mono ?_
          rintro e w2 ⟨rfl, rfl⟩
          have ha' := (HV.out.cell (p := a.add j) (by rw [addr_add_block]; exact hab)).trans hac
          have hb' := (HV.out.cell (p := b.add j) (by rw [addr_add_block]; exact hbb)).trans hbc
          have k0 : (0 : Int) ≤ (j : Int) := by omega
          have kA : (j : Int) < (l.length : Int) := by omega
          have kB : (j : Int) < (ts.length : Int) := by omega
          clear hac hbc
          go_wp2_with fail
          go_region_held3 (fun w' => w'.cell? (a.add j) = some (.int .i64 l[j]) ∧ w'.cell? (b.add j) = some (.string ts[j])) (first | (exact ⟨by assumption, by assumption⟩) | go_keep) (first | (go_at_call 11; refine (numberFrom_walk _ hla.1 hla.2 _).mono ?_; rintro e w4 ⟨rfl, hb4⟩; have hc4 : w4.cell? (b.add j) = some (.string ts[j]) := (hb4.cell (p := b.add j) (by rw [addr_add_block]; exact Nat.lt_of_lt_of_le hbb HV.out.size)).trans hb'; have hd4 : w4.cell? (a.add j) = some (.int .i64 l[j]) := (hb4.cell (p := a.add j) (by rw [addr_add_block]; exact Nat.lt_of_lt_of_le hab HV.out.size)).trans ha'))
          have hB4 := HV.out.drew.trans (hb4.mono HV.out.size)
          clear hb4 hc4 hd4 ha' hb' hTx m3
          go_wp2_with fail
          refine ⟨⟨j + 1, by omega, rfl, ?_, hB4⟩, by simp [intOf]; omega⟩
          rw [HN.out]; push_cast; rfl
        · obtain rfl : j = k := by omega
          have c1 := int_walk (preB l ts j) (preB l ts j).size (Nat.le_refl _) (by have := HZ.out; omega)
          have e1 : intR (preB l ts j) (preB l ts j).size = .tuple #[.int .i64 0, .int .i64 0, .int .i64 10] := by
            unfold intR
            rw [List.drop_of_length_le (by simp)]; rfl
          rw [e1] at c1
          clear e1
          go_wp2_with fail
          refine (c1 _).mono ?_
          rintro e w2 ⟨rfl, rfl⟩
          go_wp2_with fail
          go_ret
          exact ⟨rfl, HV.out⟩

end Go.Proofs.YtoejihodomcdcaaDoor
