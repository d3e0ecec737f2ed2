/-
  Contracts of the journal laws' own small functions: pick, size, few, same, content. Conditions: bounds.
-/
import Derived.Test.YtllmciiadceinaaGreatDoorJourI2
namespace Go.Proofs.YtllmciiadceinaaGreatDoor
open Go Go.RowKit Go.Shelf Wr

def pickZ (x n : Int) : Int := Int.tmod (if x < 0 then -(x + 1) else x) n
set_option maxHeartbeats 2000000 in
theorem pick_walk (W : World) (x n : Int) (h1 : -9223372036854775808 ≤ x) (h2 : x ≤ 9223372036854775807) (hn : 1 ≤ n) (hn2 : n ≤ 9223372036854775807) :
    Calls Tryz.prog 14 #[.int .i64 x, .int .i64 n] W fun e W' => e = .returned (.int .i64 (pickZ x n)) ∧ W = W' := by
  have e0 : (n == 0) = false := by simp; omega
  unfold pickZ
  by_cases h : x < 0
  · have d1 : decide (x < 0) = true := by simp [h]
    rw [if_pos h]
    have w1 : IntKind.i64.wrap (x + 1) = x + 1 := by rw [IntKind.wrap_i64]; omega
    have w2 : IntKind.i64.wrap (-(x + 1)) = -(x + 1) := by rw [IntKind.wrap_i64]; omega
    have w3 : IntKind.i64.wrap (Int.tmod (-(x + 1)) n) = Int.tmod (-(x + 1)) n := by
      have q1 := Int.tmod_nonneg n (show 0 ≤ -(x + 1) by omega)
      have q2 := Int.tmod_lt_of_pos (-(x + 1)) (show 0 < n by omega)
      rw [IntKind.wrap_i64]; omega
    go_enter Tryz.func14, Tryz.ntmps14
    go_wp2_with fail
    go_ret
    rw [Int.neg_tmod]; exact ⟨rfl, rfl⟩
  · have d1 : decide (x < 0) = false := by simp; omega
    rw [if_neg h]
    have w3 : IntKind.i64.wrap (Int.tmod x n) = Int.tmod x n := by
      have q1 := Int.tmod_nonneg n (show 0 ≤ x by omega)
      have q2 := Int.tmod_lt_of_pos x (show 0 < n by omega)
      rw [IntKind.wrap_i64]; omega
    go_enter Tryz.func14, Tryz.ntmps14
    go_wp2_with fail
    go_ret
    rw [Int.tmod_eq_emod_of_nonneg (by omega)]; exact ⟨rfl, rfl⟩


theorem pickZ_range (x : Int) {n : Int} (hn : 1 ≤ n) : 0 ≤ pickZ x n ∧ pickZ x n < n := by
  unfold pickZ
  split
  · exact ⟨Int.tmod_nonneg n (by omega), Int.tmod_lt_of_pos _ (by omega)⟩
  · exact ⟨Int.tmod_nonneg n (by omega), Int.tmod_lt_of_pos _ (by omega)⟩
/-- The size of a law's disk. -/
def sizeN (x : Int) : Nat := 1 + (pickZ x 1500).toNat
theorem sizeN_range (x : Int) : 1 ≤ sizeN x ∧ sizeN x ≤ 1500 := by
  have := pickZ_range x (n := 1500) (by omega)
  unfold sizeN; omega
set_option maxHeartbeats 2000000 in
theorem jsize_walk (W : World) (x : Int) (h1 : -9223372036854775808 ≤ x) (h2 : x ≤ 9223372036854775807) : Calls Tryz.prog 15 #[.int .i64 x] W fun e W' => e = .returned (.int .i64 (sizeN x : Int)) ∧ W = W' := by
  have HP := Lib.hid (pick_walk (x := x) (n := 1500) · h1 h2 (by omega) (by omega))
  have hr := pickZ_range x (n := 1500) (by omega)
  have he : (sizeN x : Int) = 1 + pickZ x 1500 := by unfold sizeN; omega
  rw [he]
  obtain ⟨p, hp⟩ : ∃ p, pickZ x 1500 = p := ⟨_, rfl⟩
  rw [hp] at HP hr ⊢
  have w1 : IntKind.i64.wrap (1 + p) = 1 + p := by rw [IntKind.wrap_i64]; omega
  clear he hp
  go_enter Tryz.func15, Tryz.ntmps15
  go_wp2_with (first | (go_at_call 14; refine (HP.out _).mono ?_; rintro e w1 ⟨rfl, rfl⟩) | fail)
  go_ret
  exact ⟨rfl, rfl⟩

/-- A string's beginning of at most L bytes. -/
def cutAt (s : ByteArray) (L : Nat) : Nat := if L < s.size then L else s.size
theorem cutAt_le (s : ByteArray) (L : Nat) : cutAt s L ≤ s.size ∧ cutAt s L ≤ L := by unfold cutAt; split <;> omega
theorem cutAt_eq (s : ByteArray) (L : Nat) : (if (L : Int) < (s.size : Int) then (L : Int) else (s.size : Int)) = (cutAt s L : Int) := by
  unfold cutAt; split <;> split <;> omega
def cutS (L : Nat) (s : ByteArray) : ByteArray := s.extract 0 (cutAt s L)
theorem cutS_size (L : Nat) (s : ByteArray) : (cutS L s).size = cutAt s L := by
  have := (cutAt_le s L).1
  unfold cutS
  rw [ByteArray.size_extract]; omega
theorem cutS_le (L : Nat) (s : ByteArray) : (cutS L s).size ≤ L := by rw [cutS_size]; exact (cutAt_le s L).2
def fewS (l : List ByteArray) : List ByteArray := (l.take 6).map (cutS 100)
theorem fewS_length (l : List ByteArray) : (fewS l).length ≤ 6 := by unfold fewS; rw [List.length_map, List.length_take]; omega
theorem fewS_size (l : List ByteArray) : ∀ s ∈ fewS l, s.size ≤ 100 := by
  intro s hs
  unfold fewS at hs
  obtain ⟨x, _, rfl⟩ := List.mem_map.1 hs
  exact cutS_le 100 x
theorem fewS_short (l : List ByteArray) : longB (fewS l) = false := by
  unfold longB
  rw [List.any_eq_false]
  intro s hs
  have := fewS_size l s hs
  simp; omega
abbrev OLs (w : World) (B : Nat) (v : Value) (l : List ByteArray) : Prop := OL w B 9 1 (one .string) v l

set_option maxRecDepth 100000 in
set_option maxHeartbeats 4000000 in
theorem few_walk (A : Option Addr) (l : List ByteArray) (cap : Nat) (hl : l.length ≤ 9223372036854775807) (w : World) (hA : LAt w w.heap.size A .string l) :
    Calls Tryz.prog 11 #[.slice A l.length cap] w fun e w' => (∃ v, e = .returned v ∧ OLs w' w.heap.size v (fewS l)) ∧ Below w.heap.size w w' := by
  have HA := Lib.hid hA
  clear hA
  go_enter Tryz.func11, Tryz.ntmps11
  go_wp2_with fail
  go_loopw [3, 4] (fun v5 v6 wr => ∃ k : Nat, k ≤ l.length ∧ k ≤ 6 ∧ v6 = .int .i64 k ∧ OLs wr w.heap.size v5 ((l.take k).map (cutS 100)) ∧ Below w.heap.size w wr) (fun _ i _ => l.length - (intOf i).toNat)
  case atStart => exact ⟨0, by omega, by omega, rfl, OL.nil, Below.refl _ _⟩
  case round =>
    obtain ⟨k, hk, hkn, rfl, ho, hB⟩ := hrel
    have HB := Lib.hid hB
    have hbs := hB.size
    have hAw := HA.out.below hB
    have hol : ((l.take k).map (cutS 100)).length = k := by rw [List.length_map, List.length_take]; omega
    have HOL := Lib.hid hol
    clear hB hol
    by_cases hlt : k < l.length
    · by_cases hlt2 : k < 6
      · obtain ⟨a, rfl, hab, hac⟩ := hAw.get hlt
        have hnx : (l.take (k + 1)).map (cutS 100) = (l.take k).map (cutS 100) ++ [cutS 100 l[k]] := by rw [List.take_succ_eq_append_getElem hlt, List.map_append]; rfl
        have HNX := Lib.hid hnx
        obtain ⟨s, hs⟩ : ∃ s, l[k] = s := ⟨_, rfl⟩
        rw [hs] at hac
        have HS := Lib.hid hs
        have m3 : min (s.size : Int) 100 = (cutAt s 100 : Int) := by unfold cutAt; split <;> omega
        obtain ⟨l3, k3⟩ := cutAt_le s 100
        obtain ⟨T, hT⟩ : ∃ T, cutS 100 s = T := ⟨_, rfl⟩
        have hT2 : s.extract 0 (cutAt s 100) = T := hT
        obtain ⟨c, hc⟩ : ∃ c, cutAt s 100 = c := ⟨_, rfl⟩
        rw [hc] at m3 l3 k3 hT2
        have y1 : (0 : Int) ≤ (k : Int) := by omega
        have y2 : (k : Int) < (l.length : Int) := by omega
        have y3 : (0 : Int) ≤ (c : Int) := by omega
        have y4 : (c : Int) ≤ (s.size : Int) := by omega
        have HT := Lib.hid hT
        have hak : (a.add k).block < w.heap.size := by rw [addr_add_block]; exact hab
        clear hnx hs hAw hT hc
        go_wp2_with fail
        go_region_held3 (fun w' => w'.cell? (a.add k) = some (.string s)) (first | exact hac | exact hac5 | go_keep) (first | (refine step_app (by rfl) (.tmp 15) (.tmp 27) 22 (by rfl) elemStr _ ((l.take k).map (cutS 100)) k HOL.out (by rfl) ((ho.alloc (.cells #[.string T] 9)).drew) T wr.heap.size #[.string T] (by rfl) ?_ (by rfl) (by rfl) (by simp [one, Value.oneCell']) (by rw [HOL.out]; unfold maxLen; omega) (by rw [HOL.out]; omega) (by simp; omega) ?_; (· exact World.alloc_heap_new wr _); intro g5 c5 w5 h5 hg5 hg5' hg5l hb5; have hac5 : w5.cell? (a.add k) = some (.string s) := (hb5.cell hak).trans ((((Below.refl w.heap.size wr).alloc hbs (.cells #[.string T] 9)).cell hak).trans hac)) | fail)
        go_wp2_with fail
        refine ⟨⟨k + 1, by omega, by omega, rfl, ?_, (HB.out.alloc hbs (.cells #[.string T] 9)).drew.trans hb5⟩, by simp [intOf]; omega⟩
        rw [HNX.out, HS.out, HT.out]
        exact h5
      · have d2 : decide ((k : Int) < 6) = false := by simp; omega
        obtain rfl : k = 6 := by omega
        go_wp2_with fail
        go_ret
        exact ⟨⟨_, rfl, ho⟩, HB.out⟩
    · have d1 : decide ((k : Int) < (l.length : Int)) = false := by simp; omega
      obtain rfl : k = l.length := by omega
      have hfin : fewS l = (l.take l.length).map (cutS 100) := by unfold fewS; rw [List.take_length, List.take_of_length_le hkn]
      have HF := Lib.hid hfin
      clear hfin
      go_wp2_with fail
      go_ret
      exact ⟨⟨_, rfl, by rw [HF.out]; exact ho⟩, HB.out⟩

set_option maxHeartbeats 4000000 in
theorem same_walk (A1 A2 : Option Addr) (a b : List ByteArray) (na nb ca cb : Nat) (hna : a.length = na) (hnb : b.length = nb) (hn9 : na ≤ 9000000) (w : World) (hA1 : LAt w w.heap.size A1 .string a) (hA2 : LAt w w.heap.size A2 .string b) :
    Calls Tryz.prog 18 #[.slice A1 na ca, .slice A2 nb cb] w fun e w' => e = .returned (.bool (decide (a = b))) ∧ Below w.heap.size w w' := by
  obtain ⟨R, hR⟩ : ∃ R, decide (a = b) = R := ⟨_, rfl⟩
  rw [hR]
  have HR := Lib.hid hR
  have HNA := Lib.hid hna
  have HNB := Lib.hid hnb
  have HA1 := Lib.hid hA1
  have HA2 := Lib.hid hA2
  clear hR hna hnb hA1 hA2
  by_cases hab : na = nb
  · subst hab
    have d0 : ((na : Int) == (na : Int)) = true := by simp
    go_enter Tryz.func18, Tryz.ntmps18
    go_wp2_with fail
    go_loopw [5] (fun v5 wr => ∃ k : Nat, k ≤ na ∧ v5 = .int .i64 k ∧ a.take k = b.take k ∧ Below w.heap.size w wr) (fun v _ => na - (intOf v).toNat)
    case atStart => exact ⟨0, by omega, rfl, rfl, Below.refl _ _⟩
    case round =>
      obtain ⟨k, hk, rfl, ht, hb⟩ := hrel
      have HT := Lib.hid ht
      have HB := Lib.hid hb
      clear ht hb
      by_cases hlt : k < na
      · have hka : k < a.length := by rw [HNA.out]; exact hlt
        have hkb : k < b.length := by rw [HNB.out]; exact hlt
        obtain ⟨p1, rfl, -, hc1⟩ := (HA1.out.below HB.out).get hka
        obtain ⟨p2, rfl, -, hc2⟩ := (HA2.out.below HB.out).get hkb
        have hta := List.take_succ_eq_append_getElem hka
        have htb := List.take_succ_eq_append_getElem hkb
        have hxq := List.getElem?_eq_getElem hka
        have hyq := List.getElem?_eq_getElem hkb
        obtain ⟨x, hx⟩ : ∃ x, a[k] = x := ⟨_, rfl⟩
        obtain ⟨y, hy⟩ : ∃ y, b[k] = y := ⟨_, rfl⟩
        rw [hx] at hc1 hta hxq
        rw [hy] at hc2 htb hyq
        have HTA := Lib.hid hta
        have HTB := Lib.hid htb
        have HXQ := Lib.hid hxq
        have HYQ := Lib.hid hyq
        have d1 : decide (k < na) = true := by simp [hlt]
        have z1 : (0 : Int) ≤ (k : Int) := by omega
        have z2 : (k : Int) < (na : Int) := by omega
        clear hx hy hta htb hxq hyq hka hkb
        by_cases hxy : x = y
        · have e1 : (x.toList == y.toList) = true := by rw [hxy]; simp
          have HXY := Lib.hid hxy
          clear hxy
          go_wp2_with fail
          go_quiet (fail)
          go_wp2_with fail
          exact ⟨⟨k + 1, by omega, by go_num, by rw [HTA.out, HTB.out, HT.out, HXY.out], Below.drewN' HB.out nq⟩, by simp [intOf]; omega⟩
        · have e1 : (x.toList == y.toList) = false := by rw [str_eq]; simp [hxy]
          have HXY := Lib.hid hxy
          have hRf : R = false := by
            rw [← HR.out, decide_eq_false_iff_not]
            intro h
            have h1 := HXQ.out
            have h2 := HYQ.out
            rw [h, h2] at h1
            exact HXY.out (Option.some.inj h1).symm
          have HRF := Lib.hid hRf
          clear hxy hRf
          go_wp2_with fail
          go_quiet (fail)
          go_wp2_with fail
          go_ret
          rw [HRF.out]
          exact ⟨rfl, Below.drewN' HB.out nq⟩
      · have d1 : decide (k < na) = false := by simp; omega
        have hRt : R = true := by
          rw [← HR.out, decide_eq_true_eq]
          have h := HT.out
          rw [List.take_of_length_le (by rw [HNA.out]; omega), List.take_of_length_le (by rw [HNB.out]; omega)] at h
          exact h
        have HRT := Lib.hid hRt
        clear hRt
        go_wp2_with fail
        go_ret
        rw [HRT.out]
        exact ⟨rfl, HB.out⟩
  · have d0 : ((na : Int) == (nb : Int)) = false := by simp; omega
    have hRf : R = false := by
      rw [← HR.out, decide_eq_false_iff_not]
      intro h
      rw [h, HNB.out] at HNA
      exact hab HNA.out.symm
    have HRF := Lib.hid hRf
    clear hRf hab
    go_enter Tryz.func18, Tryz.ntmps18
    go_wp2_with fail
    go_ret
    rw [HRF.out]
    exact ⟨rfl, Below.refl _ _⟩


set_option maxHeartbeats 2000000 in
theorem content_walk {W : World} {F : Nat → Prop} {d gd gv n : Nat} {vp : Value} {s : DS} (h : DAt W F d gd gv vp n s) :
    Calls Tryz.prog 22 #[.pointer (some ⟨d, 0, none⟩)] W fun e W' => e = .returned (.string (s.read 0 n).1) ∧ W = W' := by
  have HS := Lib.hid (size_walk h)
  have HR := Lib.hid (read_walk h 0 n)
  clear h
  go_enter Tryz.func22, Tryz.ntmps22
  go_wp2_with (first | (go_at_call 51; refine HS.out.mono ?_; rintro e w1 ⟨rfl, rfl⟩) | (go_at_call 52; refine HR.out.mono ?_; rintro e w2 ⟨rfl, rfl⟩) | fail)
  go_ret
  exact ⟨rfl, rfl⟩
end Go.Proofs.YtllmciiadceinaaGreatDoor
