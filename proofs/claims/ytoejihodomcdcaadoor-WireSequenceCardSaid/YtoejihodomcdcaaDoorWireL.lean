/-
  Contracts of the helpers of package wire's laws: pick, NumberFrom, sane. Condition: the integer arguments fit their kind.
-/
import Derived.Test.YtoejihodomcdcaaDoorWireR
namespace Go.Proofs.YtoejihodomcdcaaDoor
open Go Go.RowKit

def pickI (c n : Int) : Int := (if c < 0 then -(c + 1) else c) % n
theorem pickI_bd {c n : Int} (hn : 0 < n) : 0 ≤ pickI c n ∧ pickI c n < n := ⟨Int.emod_nonneg _ (by omega), Int.emod_lt_of_pos _ hn⟩

set_option maxHeartbeats 1000000 in
theorem pick_walk (c n : Int) (h1 : -9223372036854775808 ≤ c) (h2 : c ≤ 9223372036854775807) (h3 : 1 ≤ n) (h4 : n ≤ 9223372036854775807) (w : World) :
    Calls Tryd.prog 14 #[.int .i64 c, .int .i64 n] w fun e w' => e = .returned (.int .i64 (pickI c n)) ∧ w = w' := by
  by_cases hc : c < 0
  · have hp : pickI c n = -((c + 1).tmod n) := by unfold pickI; rw [if_pos hc, ← Int.neg_tmod, Int.tmod_eq_emod_of_nonneg (by omega)]
    rw [hp]
    clear hp
    go_enter Tryd.func14, Tryd.ntmps14
    go_wp2_with fail
    go_ret
    exact ⟨rfl, rfl⟩
  · have hp : pickI c n = c % n := by unfold pickI; rw [if_neg hc]
    rw [hp]
    clear hp
    go_enter Tryd.func14, Tryd.ntmps14
    go_wp2_with fail
    go_ret
    exact ⟨rfl, rfl⟩

def sizes : List Int := [64, 128, 8192, 16384, 1073741824, 36028797018963968, 576460752303423488, 2]
def nf (c : Int) : Int :=
  if 8 ≤ pickI c 16 then -(pickI (pickI c 4611686018427387904 / 8) (sizes.getD (pickI c 8).toNat 0)) else pickI (pickI c 4611686018427387904 / 8) (sizes.getD (pickI c 8).toNat 0)

theorem nf_bd (c : Int) : -576460752303423488 ≤ nf c ∧ nf c ≤ 576460752303423488 := by
  have h : ∀ i, i < 8 → 0 < sizes.getD i 0 ∧ sizes.getD i 0 ≤ 576460752303423488 := by decide
  obtain ⟨a1, a2⟩ := pickI_bd (c := c) (n := 8) (by decide)
  obtain ⟨b1, b2⟩ := h (pickI c 8).toNat (by omega)
  obtain ⟨c1, c2⟩ := pickI_bd (c := pickI c 4611686018427387904 / 8) b1
  unfold nf
  split <;> omega

set_option maxRecDepth 100000 in
set_option maxHeartbeats 4000000 in
theorem numberFrom_walk (c : Int) (h1 : -9223372036854775808 ≤ c) (h2 : c ≤ 9223372036854775807) (w : World) :
    Calls Tryd.prog 11 #[.int .i64 c] w fun e w' => e = .returned (.int .i64 (nf c)) ∧ Below w.heap.size w w' := by
  obtain ⟨a1, a2⟩ := pickI_bd (c := c) (n := 8) (by decide)
  obtain ⟨a3, a4⟩ := pickI_bd (c := c) (n := 4611686018427387904) (by decide)
  obtain ⟨i, hi⟩ : ∃ i, pickI c 8 = i := ⟨_, rfl⟩
  have hn : ∀ s, sizes.getD i.toNat 0 = s → 0 < s → s ≤ 576460752303423488 → (nf c = if 8 ≤ pickI c 16 then -(pickI (pickI c 4611686018427387904 / 8) s) else pickI (pickI c 4611686018427387904 / 8) s) ∧ 0 ≤ pickI (pickI c 4611686018427387904 / 8) s ∧ pickI (pickI c 4611686018427387904 / 8) s < s := by
    intro s hs h0 _
    obtain ⟨c1, c2⟩ := pickI_bd (c := pickI c 4611686018427387904 / 8) h0
    exact ⟨by unfold nf; rw [hi, hs], c1, c2⟩
  have HN := Lib.hid hn
  rw [hi] at a1 a2
  clear hn
  rcases (by omega : i = 0 ∨ i = 1 ∨ i = 2 ∨ i = 3 ∨ i = 4 ∨ i = 5 ∨ i = 6 ∨ i = 7) with rfl | rfl | rfl | rfl | rfl | rfl | rfl | rfl
  all_goals
    obtain ⟨hfin, b1, b2⟩ := HN.out _ rfl (by decide) (by decide)
    simp only [sizes, Int.reduceToNat, List.getD_cons_zero, List.getD_cons_succ] at hfin b1 b2
    have HF := Lib.hid hfin
    clear hfin HN a1 a2
    go_enter Tryd.func11, Tryd.ntmps11
    go_wp2_with (go_at_call 14; refine (pick_walk _ _ (by omega) (by omega) (by omega) (by omega) _).mono ?_; rintro e w1 ⟨rfl, rfl⟩)
    · go_ret
      have h16 : 8 ≤ pickI c 16 := by assumption
      exact ⟨by rw [HF.out, if_pos h16]; try rfl, (Below.refl _ _).alloc (Nat.le_refl _) _⟩
    · go_ret
      have h16 : pickI c 16 < 8 := by assumption
      exact ⟨by rw [HF.out, if_neg (by omega)]; try rfl, (Below.refl _ _).alloc (Nat.le_refl _) _⟩

theorem TabAt.lt {w : World} (h : TabAt w) : 0 < w.heap.size := by
  have := h 0 (by decide)
  rcases Nat.lt_or_ge 0 w.heap.size with h' | h'
  · exact h'
  · simp [World.cell?, Array.getElem?_eq_none h'] at this
theorem TabAt.below {w w' : World} (h : TabAt w) (hb : Below w.heap.size w w') : TabAt w' := fun i hi => (hb.cell (p := ⟨0, i, none⟩) h.lt).trans (h i hi)

/-- The contracts at the fixed examples. -/
theorem sane_i1 (w : World) : Calls Tryd.prog 15 #[.string ⟨#[97, 172, 2, 98]⟩, .int .i64 1] w fun e w' => e = .returned (.tuple #[.int .i64 150, .int .i64 3, .int .i64 0]) ∧ w = w' := by
  have h := int_walk ⟨#[97, 172, 2, 98]⟩ 1 (by decide) (by decide) w
  rw [show intR ⟨#[97, 172, 2, 98]⟩ 1 = .tuple #[.int .i64 150, .int .i64 3, .int .i64 0] from by kernel_rfl] at h
  exact h
theorem sane_i2 (w : World) : Calls Tryd.prog 15 #[.string ⟨#[128, 0]⟩, .int .i64 0] w fun e w' => e = .returned (.tuple #[.int .i64 0, .int .i64 0, .int .i64 10]) ∧ w = w' := by
  have h := int_walk ⟨#[128, 0]⟩ 0 (by decide) (by decide) w
  rw [show intR ⟨#[128, 0]⟩ 0 = .tuple #[.int .i64 0, .int .i64 0, .int .i64 10] from by kernel_rfl] at h
  exact h
theorem sane_s1 (w : World) : Calls Tryd.prog 17 #[.string ⟨#[4, 97, 98, 99]⟩, .int .i64 0] w fun e w' => e = .returned (.tuple #[.string ⟨#[97, 98]⟩, .int .i64 3, .int .i64 0]) ∧ w = w' := by
  have h := string_walk ⟨#[4, 97, 98, 99]⟩ 0 (by decide) (by decide) w
  rw [show strR ⟨#[4, 97, 98, 99]⟩ 0 = .tuple #[.string ⟨#[97, 98]⟩, .int .i64 3, .int .i64 0] from by kernel_rfl] at h
  exact h
theorem sane_s2 (w : World) : Calls Tryd.prog 17 #[.string ⟨#[4, 97]⟩, .int .i64 0] w fun e w' => e = .returned (.tuple #[.string ⟨#[]⟩, .int .i64 0, .int .i64 10]) ∧ w = w' := by
  have h := string_walk ⟨#[4, 97]⟩ 0 (by decide) (by decide) w
  rw [show strR ⟨#[4, 97]⟩ 0 = .tuple #[.string ⟨#[]⟩, .int .i64 0, .int .i64 10] from by kernel_rfl] at h
  exact h
theorem sane_p1 (w : World) : Calls Tryd.prog 12 #[.int .i64 (-64)] w fun e w' => e = .returned (.tuple #[.string ⟨#[127]⟩, .int .i64 0]) ∧ Below w.heap.size w w' := by
  have h := putInt_yes (-64) (by decide) (by decide) w
  rw [show putI (-64) = [127] from by kernel_rfl] at h
  exact h
theorem sane_p2 (w : World) : Calls Tryd.prog 12 #[.int .i64 64] w fun e w' => e = .returned (.tuple #[.string ⟨#[128, 1]⟩, .int .i64 0]) ∧ Below w.heap.size w w' := by
  have h := putInt_yes 64 (by decide) (by decide) w
  rw [show putI 64 = [128, 1] from by kernel_rfl] at h
  exact h
theorem sane_t1 (w : World) : Calls Tryd.prog 19 #[.string ⟨#[97, 98]⟩] w fun e w' => e = .returned (.tuple #[.string ⟨#[4, 97, 98]⟩, .int .i64 0]) ∧ Below w.heap.size w w' := by
  have h := putString_yes ⟨#[97, 98]⟩ (by decide) w
  rw [show ((⟨(putI ((⟨#[97, 98]⟩ : ByteArray).size : Int)).toArray⟩ : ByteArray) ++ ⟨#[97, 98]⟩) = ⟨#[4, 97, 98]⟩ from by kernel_rfl] at h
  exact h
theorem sane_c1 (w : World) (ht : TabAt w) : Calls Tryd.prog 21 #[.string ⟨#[49, 50, 51, 52, 53, 54, 55, 56, 57]⟩] w fun e w' => e = .returned (.int .i64 3808858755) ∧ w = w' := by
  have h := sum_walk ⟨#[49, 50, 51, 52, 53, 54, 55, 56, 57]⟩ w (by decide) ht
  rw [show ((crc (⟨#[49, 50, 51, 52, 53, 54, 55, 56, 57]⟩ : ByteArray).data.toList : Nat) : Int) = 3808858755 from by kernel_rfl] at h
  exact h

set_option maxRecDepth 100000 in
set_option maxHeartbeats 4000000 in
theorem sane_walk (w : World) (ht : TabAt w) :
    Calls Tryd.prog 10 #[] w fun e w' => e = .returned (.bool true) ∧ Below w.heap.size w w' := by
  have HT := Lib.hid ht
  clear ht
  go_enter Tryd.func10, Tryd.ntmps10
  go_wp2_with fail
  refine (sane_p1 _).mono ?_
  rintro e w1 ⟨rfl, hb1⟩
  go_wp2_with fail
  refine (sane_p2 _).mono ?_
  rintro e w2 ⟨rfl, hb2⟩
  have hb12 : Below w.heap.size w w2 := hb1.trans (hb2.mono hb1.size)
  clear hb1 hb2
  go_wp2_with fail
  refine (sane_i1 _).mono ?_
  rintro e w3 ⟨rfl, rfl⟩
  go_wp2_with fail
  refine (sane_i2 _).mono ?_
  rintro e w3 ⟨rfl, rfl⟩
  go_wp2_with fail
  refine (sane_t1 _).mono ?_
  rintro e w3 ⟨rfl, hb3⟩
  have hb13 : Below w.heap.size w w3 := hb12.trans (hb3.mono hb12.size)
  clear hb12 hb3
  go_wp2_with fail
  refine (sane_s1 _).mono ?_
  rintro e w4 ⟨rfl, rfl⟩
  go_wp2_with fail
  refine (sane_s2 _).mono ?_
  rintro e w4 ⟨rfl, rfl⟩
  go_wp2_with fail
  refine (putInt_no _ (.inr (by decide)) _).mono ?_
  rintro e w4 ⟨rfl, rfl⟩
  go_wp2_with fail
  refine (int_arg _ _ (.inr (by decide)) _).mono ?_
  rintro e w4 ⟨rfl, rfl⟩
  go_wp2_with fail
  refine (sane_c1 _ (HT.out.below hb13)).mono ?_
  rintro e w4 ⟨rfl, rfl⟩
  go_wp2_with fail
  go_ret
  exact ⟨rfl, hb13⟩

end Go.Proofs.YtoejihodomcdcaaDoor
