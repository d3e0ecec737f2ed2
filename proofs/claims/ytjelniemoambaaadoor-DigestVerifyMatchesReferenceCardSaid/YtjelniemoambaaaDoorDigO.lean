/-
  Contracts of the digest laws' own functions: hex, few. Conditions: bounds on the lengths.
-/
import Derived.Test.YtjelniemoambaaaDoorDigN
namespace Go.Proofs.YtjelniemoambaaaDoor
open Go Go.RowKit Go.Shelf

def hexK : ByteArray := ⟨#[48, 49, 50, 51, 52, 53, 54, 55, 56, 57, 97, 98, 99, 100, 101, 102]⟩
def hexD (x : Nat) : UInt8 := if x < 10 then UInt8.ofNat (48 + x) else UInt8.ofNat (87 + x)
theorem hexK_at (x : Nat) (h : x < 16) : hexK.extract x (x + 1) = ⟨#[hexD x]⟩ := by
  rcases (show x = 0 ∨ x = 1 ∨ x = 2 ∨ x = 3 ∨ x = 4 ∨ x = 5 ∨ x = 6 ∨ x = 7 ∨ x = 8 ∨ x = 9 ∨ x = 10 ∨ x = 11 ∨ x = 12 ∨ x = 13 ∨ x = 14 ∨ x = 15 by omega) with rfl | rfl | rfl | rfl | rfl | rfl | rfl | rfl | rfl | rfl | rfl | rfl | rfl | rfl | rfl | rfl <;>
    (apply ba_ext; rw [Lib.extract_data]; rfl)
def hexL (l : List UInt8) : List UInt8 := l.flatMap fun c => [hexD (c.toNat / 16), hexD (c.toNat % 16)]
theorem hexL_length (l : List UInt8) : (hexL l).length = 2 * l.length := by
  unfold hexL
  induction l with
  | nil => rfl
  | cons c l ih => rw [List.flatMap_cons, List.length_append, ih]; simp; omega

set_option maxRecDepth 100000 in
set_option maxHeartbeats 4000000 in
theorem hex_walk (s : ByteArray) (hs : s.size ≤ 1000) (w : World) :
    Calls Tryd.prog 39 #[.string s] w fun e w' => e = .returned (.string ⟨(hexL s.data.toList).toArray⟩) ∧ ∃ n, w' = w.drewN n := by
  go_enter Tryd.func39, Tryd.ntmps39
  go_wp2_with fail
  go_loopw [3, 4] (fun v3 v4 wr => ∃ k : Nat, k ≤ s.size ∧ v4 = .int .i64 k ∧ v3 = .string ⟨(hexL (s.data.toList.take k)).toArray⟩ ∧ ∃ n, wr = w.drewN n) (fun _ i _ => s.size - (intOf i).toNat)
  case atStart => exact ⟨0, by omega, rfl, rfl, 0, rfl⟩
  case round =>
    obtain ⟨k, hk, rfl, rfl, n, hn⟩ := hrel
    have HN := Lib.hid hn
    clear hn
    by_cases hlt : k < s.size
    · obtain ⟨c, hc⟩ : ∃ c, s[k].toNat = c := ⟨_, rfl⟩
      have hc256 : c < 256 := by rw [← hc]; exact UInt8.toNat_lt _
      obtain ⟨q, hq⟩ : ∃ q, c / 16 = q := ⟨_, rfl⟩
      obtain ⟨r, hr⟩ : ∃ r, c % 16 = r := ⟨_, rfl⟩
      obtain ⟨q1, hq1⟩ : ∃ x, q + 1 = x := ⟨_, rfl⟩
      obtain ⟨r1, hr1⟩ : ∃ x, r + 1 = x := ⟨_, rfl⟩
      have y1 : (0 : Int) ≤ (k : Int) := by omega
      have y2 : (k : Int) < (s.size : Int) := by omega
      have e1 : (c : Int) / 16 = (q : Int) := by omega
      have e2 : (c : Int) % 16 = (r : Int) := by omega
      have e3 : IntKind.u8.wrap ((q : Int) + 1) = (q1 : Int) := by rw [show (q : Int) + 1 = (q1 : Int) by omega]; simp [IntKind.wrap_u8]; omega
      have e4 : IntKind.u8.wrap ((r : Int) + 1) = (r1 : Int) := by rw [show (r : Int) + 1 = (r1 : Int) by omega]; simp [IntKind.wrap_u8]; omega
      have e5 : IntKind.u8.wrap (q : Int) = (q : Int) := by simp [IntKind.wrap_u8]; omega
      have e6 : IntKind.u8.wrap (r : Int) = (r : Int) := by simp [IntKind.wrap_u8]; omega
      have z1 : (0 : Int) ≤ (q : Int) := by omega
      have z2 : (q : Int) ≤ (q1 : Int) := by omega
      have z3 : (q1 : Int) ≤ 16 := by omega
      have z4 : (0 : Int) ≤ (r : Int) := by omega
      have z5 : (r : Int) ≤ (r1 : Int) := by omega
      have z6 : (r1 : Int) ≤ 16 := by omega
      have x1 : (⟨#[48, 49, 50, 51, 52, 53, 54, 55, 56, 57, 97, 98, 99, 100, 101, 102]⟩ : ByteArray).extract q q1 = ⟨#[hexD q]⟩ := by rw [← hq1]; exact hexK_at q (by omega)
      have x2 : (⟨#[48, 49, 50, 51, 52, 53, 54, 55, 56, 57, 97, 98, 99, 100, 101, 102]⟩ : ByteArray).extract r r1 = ⟨#[hexD r]⟩ := by rw [← hr1]; exact hexK_at r (by omega)
      obtain ⟨acc, hacc⟩ : ∃ acc : ByteArray, (⟨(hexL (s.data.toList.take k)).toArray⟩ : ByteArray) = acc := ⟨_, rfl⟩
      have hal : acc.size = 2 * k := by rw [← hacc, ba_mk_size, hexL_length, List.length_take, ba_length]; omega
      have a1 := fun w => strAdd (P := Tryd.prog) acc ⟨#[hexD q]⟩ (by have : (⟨#[hexD q]⟩ : ByteArray).size = 1 := rfl; omega) w
      have a2 := fun w => strAdd (P := Tryd.prog) (acc ++ ⟨#[hexD q]⟩) ⟨#[hexD r]⟩ (by rw [ba_size_append]; have : (⟨#[hexD q]⟩ : ByteArray).size = 1 := rfl; have : (⟨#[hexD r]⟩ : ByteArray).size = 1 := rfl; omega) w
      have hnext : (⟨(hexL (s.data.toList.take (k + 1))).toArray⟩ : ByteArray) = acc ++ ⟨#[hexD q]⟩ ++ ⟨#[hexD r]⟩ := by
        apply ba_ext
        rw [ba_append, ba_append, ← hacc, ba_mk, ba_mk, List.take_succ_eq_append_getElem (by rw [ba_length]; exact hlt)]
        unfold hexL
        rw [List.flatMap_append]
        have : s.data.toList[k]'(by rw [ba_length]; exact hlt) = s[k] := rfl
        rw [this]
        simp [hc, hq, hr]
      have HNX := Lib.hid hnext
      rw [hacc]
      clear hq hr hq1 hr1 hacc hal hnext
      go_wp2_with fail
      go_quiet (fail)
      go_wp2_with fail
      exact ⟨⟨k + 1, by omega, rfl, by rw [HNX.out], n + nq, by rw [HN.out, World.drewN_drewN]⟩, by simp [intOf]; omega⟩
    · obtain rfl : k = s.size := by omega
      go_wp2_with fail
      go_ret
      exact ⟨by rw [List.take_of_length_le (by rw [ba_length]; exact Nat.le_refl _)]; rfl, n, HN.out⟩


/-- A string's beginning of at most L bytes. -/
def cutAt (s : ByteArray) (L : Nat) : Nat := if L < s.size then L else s.size
theorem cutAt_le (s : ByteArray) (L : Nat) : cutAt s L ≤ s.size ∧ cutAt s L ≤ L := by unfold cutAt; split <;> omega
theorem cutAt_eq (s : ByteArray) (L : Nat) : (if (L : Int) < (s.size : Int) then (L : Int) else (s.size : Int)) = (cutAt s L : Int) := by
  unfold cutAt; split <;> split <;> omega
def cutS (L : Nat) (s : ByteArray) : ByteArray := s.extract 0 (cutAt s L)
theorem cutS_size (L : Nat) (s : ByteArray) : (cutS L s).size = cutAt s L := by
  have := (cutAt_le s L).1
  unfold cutS
  rw [ByteArray.size_extract]; omega
theorem cutS_le (L : Nat) (s : ByteArray) : (cutS L s).size ≤ L := by rw [cutS_size]; exact (cutAt_le s L).2
def fewS (l : List ByteArray) (n : Nat) : List ByteArray := (l.take n).map (cutS 60)
theorem fewS_length (l : List ByteArray) (n : Nat) : (fewS l n).length ≤ n := by unfold fewS; rw [List.length_map, List.length_take]; omega
theorem fewS_size (l : List ByteArray) (n : Nat) : ∀ s ∈ fewS l n, s.size ≤ 60 := by
  intro s hs
  unfold fewS at hs
  obtain ⟨x, _, rfl⟩ := List.mem_map.1 hs
  exact cutS_le 60 x

set_option maxRecDepth 100000 in
set_option maxHeartbeats 4000000 in
theorem few_walk (A : Option Addr) (l : List ByteArray) (cap n : Nat) (hn : n ≤ 1000) (hl : l.length ≤ 9223372036854775807) (w : World) (hA : LAt w w.heap.size A .string l) :
    Calls Tryd.prog 13 #[.slice A l.length cap, .int .i64 n] w fun e w' => (∃ v, e = .returned v ∧ StrL w' w.heap.size v (fewS l n)) ∧ Below w.heap.size w w' := by
  have HA := Lib.hid hA
  clear hA
  go_enter Tryd.func13, Tryd.ntmps13
  go_wp2_with fail
  go_loopw [5, 6] (fun v5 v6 wr => ∃ k : Nat, k ≤ l.length ∧ k ≤ n ∧ v6 = .int .i64 k ∧ StrL wr w.heap.size v5 ((l.take k).map (cutS 60)) ∧ Below w.heap.size w wr) (fun _ i _ => l.length - (intOf i).toNat)
  case atStart => exact ⟨0, by omega, by omega, rfl, OL.nil, Below.refl _ _⟩
  case round =>
    obtain ⟨k, hk, hkn, rfl, ho, hB⟩ := hrel
    have HB := Lib.hid hB
    have hbs := hB.size
    have hAw := HA.out.below hB
    have hol : ((l.take k).map (cutS 60)).length = k := by rw [List.length_map, List.length_take]; omega
    have HOL := Lib.hid hol
    clear hB hol
    by_cases hlt : k < l.length
    · by_cases hlt2 : k < n
      · obtain ⟨a, rfl, hab, hac⟩ := hAw.get hlt
        have hnx : (l.take (k + 1)).map (cutS 60) = (l.take k).map (cutS 60) ++ [cutS 60 l[k]] := by rw [List.take_succ_eq_append_getElem hlt, List.map_append]; rfl
        have HNX := Lib.hid hnx
        obtain ⟨s, hs⟩ : ∃ s, l[k] = s := ⟨_, rfl⟩
        rw [hs] at hac
        have HS := Lib.hid hs
        have m3 : min (s.size : Int) 60 = (cutAt s 60 : Int) := by unfold cutAt; split <;> omega
        obtain ⟨l3, k3⟩ := cutAt_le s 60
        obtain ⟨T, hT⟩ : ∃ T, cutS 60 s = T := ⟨_, rfl⟩
        have hT2 : s.extract 0 (cutAt s 60) = T := hT
        obtain ⟨c, hc⟩ : ∃ c, cutAt s 60 = c := ⟨_, rfl⟩
        rw [hc] at m3 l3 k3 hT2
        have y1 : (0 : Int) ≤ (k : Int) := by omega
        have y2 : (k : Int) < (l.length : Int) := by omega
        have y3 : (0 : Int) ≤ (c : Int) := by omega
        have y4 : (c : Int) ≤ (s.size : Int) := by omega
        have HT := Lib.hid hT
        have hak : (a.add k).block < w.heap.size := by rw [addr_add_block]; exact hab
        clear hnx hs hAw hT hc
        go_wp2_with fail
        go_region_held3 (fun w' => w'.cell? (a.add k) = some (.string s)) (first | exact hac | exact hac5 | go_keep) (first | (refine step_app (by rfl) (.tmp 18) (.tmp 30) 22 (by rfl) elemStr _ ((l.take k).map (cutS 60)) k HOL.out (by rfl) ((ho.alloc (.cells #[.string T] 9)).drew) T wr.heap.size #[.string T] (by rfl) ?_ (by rfl) (by rfl) (by simp [one, Value.oneCell']) (by rw [HOL.out]; unfold maxLen; omega) (by rw [HOL.out]; omega) (by simp; omega) ?_; (· exact World.alloc_heap_new wr _); intro g5 c5 w5 h5 hg5 hg5' hg5l hb5; have hac5 : w5.cell? (a.add k) = some (.string s) := (hb5.cell hak).trans ((((Below.refl w.heap.size wr).alloc hbs (.cells #[.string T] 9)).cell hak).trans hac)) | fail)
        go_wp2_with fail
        refine ⟨⟨k + 1, by omega, by omega, rfl, ?_, (HB.out.alloc hbs (.cells #[.string T] 9)).drew.trans hb5⟩, by simp [intOf]; omega⟩
        rw [HNX.out, HS.out, HT.out]
        exact h5
      · have d2 : decide ((k : Int) < (n : Int)) = false := by simp; omega
        obtain rfl : k = n := by omega
        go_wp2_with fail
        go_ret
        exact ⟨⟨_, rfl, ho⟩, HB.out⟩
    · have d1 : decide ((k : Int) < (l.length : Int)) = false := by simp; omega
      obtain rfl : k = l.length := by omega
      have hfin : fewS l n = (l.take l.length).map (cutS 60) := by unfold fewS; rw [List.take_length, List.take_of_length_le hkn]
      have HF := Lib.hid hfin
      clear hfin
      go_wp2_with fail
      go_ret
      exact ⟨⟨_, rfl, by rw [HF.out]; exact ho⟩, HB.out⟩

end Go.Proofs.YtjelniemoambaaaDoor
