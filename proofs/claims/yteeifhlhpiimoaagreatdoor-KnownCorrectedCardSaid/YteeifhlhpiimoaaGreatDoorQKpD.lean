/-
  What Some makes is valid: plainly. Conditions: integers of 64 bits.
-/
import Derived.Test.YteeifhlhpiimoaaGreatDoorQAp
namespace Go.Proofs.YteeifhlhpiimoaaGreatDoor
open Go Go.RowKit Go.Shelf Wr
theorem txtL_int {neg : Bool} {n : Nat} (h : neg = true → 0 < n) : txtL neg n = intS (if neg = true then -(n : Int) else (n : Int)) := by
  cases neg with
  | false =>
    have := txt_int (n : Int)
    rw [decide_eq_false (show ¬ (n : Int) < 0 by omega)] at this
    exact this
  | true =>
    have h0 := h rfl
    have := txt_int (-(n : Int))
    rw [decide_eq_true (show -(n : Int) < 0 by omega), show (-(n : Int)).natAbs = n by omega] at this
    exact this
theorem rat_ok {x : Int} {y : Nat} (h0 : 0 < y) (hx : x.natAbs < 1000000000000000000) (hy : y < 1000000000000000000) : ratOk (rnB x y).data.toList (rdB x y).data.toList = true := by
  have hg : 0 < Nat.gcd x.natAbs y := Nat.gcd_pos_of_pos_right _ h0
  have dn : Nat.gcd x.natAbs y ∣ x.natAbs := Nat.gcd_dvd_left _ _
  have dd : Nat.gcd x.natAbs y ∣ y := Nat.gcd_dvd_right _ _
  obtain ⟨g, hgg⟩ : ∃ g, Nat.gcd x.natAbs y = g := ⟨_, rfl⟩
  have e1 : (rnB x y).data.toList = intS (if decide (x < 0) = true then -((x.natAbs / g : Nat) : Int) else ((x.natAbs / g : Nat) : Int)) := by
    have : (rnB x y).data.toList = txtL (decide (x < 0)) (x.natAbs / Nat.gcd x.natAbs y) := rfl
    rw [this, hgg]
    refine txtL_int (fun h => ?_)
    have hx0 : 0 < x.natAbs := by have := of_decide_eq_true h; omega
    rw [hgg] at hg dn
    exact Nat.div_pos (Nat.le_of_dvd hx0 dn) hg
  have e2 : (rdB x y).data.toList = intS ((y / g : Nat) : Int) := by
    have : (rdB x y).data.toList = txtL false (y / Nat.gcd x.natAbs y) := rfl
    rw [this, hgg]
    exact txtL_int (fun h => by cases h)
  have hny : 0 < y / g := by rw [hgg] at hg dd; exact Nat.div_pos (Nat.le_of_dvd h0 dd) hg
  have l1 : (x.natAbs / g) < 10 ^ 18 := Nat.lt_of_le_of_lt (Nat.div_le_self _ _) hx
  have l2 : (y / g) < 10 ^ 18 := Nat.lt_of_le_of_lt (Nat.div_le_self _ _) hy
  have s1 : ∀ n : Nat, n < 10 ^ 18 → (decS n).length ≤ 200 := fun n hn => by rw [decS_len_dg]; have := dg_len_le hn; omega
  obtain ⟨z, hz⟩ : ∃ z, (if decide (x < 0) = true then -((x.natAbs / g : Nat) : Int) else ((x.natAbs / g : Nat) : Int)) = z := ⟨_, rfl⟩
  have hza : z.natAbs = x.natAbs / g := by rw [← hz]; split; exact (Int.natAbs_neg _).trans (Int.natAbs_natCast _); exact Int.natAbs_natCast _
  have t1 := text_valid (z := z) (by rw [hza]; exact s1 _ l1)
  have t2 := text_valid (z := ((y / g : Nat) : Int)) (s1 _ l2)
  rw [e1, e2, hz]
  unfold ratOk
  rw [t1.1, t1.2, t2.1, t2.2, hza]
  have hc : Nat.gcd (x.natAbs / g) (y / g) = 1 := by
    rw [hgg] at dn dd hg
    rw [Nat.gcd_div dn dd, hgg]
    exact Nat.div_self hg
  have hna : (((y / g : Nat) : Int)).natAbs = y / g := rfl
  rw [hna]
  simp only [Bool.true_and, Bool.and_eq_true, decide_eq_true_eq]
  exact ⟨by omega, hc⟩
end Go.Proofs.YteeifhlhpiimoaaGreatDoor
