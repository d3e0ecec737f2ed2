/-
  What Some makes is a valid entry: plainly. Condition: none.
-/
import Derived.Test.YteeifhlhpiimoaaGreatDoorQKpD
namespace Go.Proofs.YteeifhlhpiimoaaGreatDoor
open Go Go.RowKit Go.Shelf Wr
theorem txtL_len {neg : Bool} {n : Nat} (h : n < 1000000000000000000) : (txtL neg n).length ≤ 19 := by
  have h2 : (dg n).length ≤ 18 := dg_len_le h
  have h3 := decS_len_dg n
  unfold txtL
  split
  · simp
  · rw [List.length_append]
    have : (if neg = true then ([45] : List UInt8) else []).length ≤ 1 := by split <;> simp
    omega
theorem strip_len (l : List UInt8) : (stripM l).length ≤ l.length := by
  cases l with
  | nil => exact Nat.le_refl _
  | cons c l => rw [strip_cons]; split <;> simp
theorem short_ok {x : Int} {y : Nat} (hx : x.natAbs < 1000000000000000000) (hy : y < 1000000000000000000) : shortS (rnB x y).data.toList (rdB x y).data.toList = true := by
  have l1 : (rnB x y).data.toList.length ≤ 19 := txtL_len (Nat.lt_of_le_of_lt (Nat.div_le_self _ _) hx)
  have l2 : (rdB x y).data.toList.length ≤ 19 := txtL_len (Nat.lt_of_le_of_lt (Nat.div_le_self _ _) hy)
  have l3 := strip_len (rnB x y).data.toList
  unfold shortS
  simp only [Bool.and_eq_true, decide_eq_true_eq]
  omega
theorem kind_some (y : Six) : (1 + pickZ y.y0 9 : Int) = (kindOf y : Int) ∧ 1 ≤ kindOf y ∧ kindOf y ≤ 9 := by
  have h := pickZ_range y.y0 (n := 9) (by omega)
  unfold kindOf
  omega
theorem head_ok (y : Six) {e : Ent} (hv : e.ver = 1 + pickZ (Int.tdiv y.y0 9) 3) (hd : e.day = pickZ y.y1 30) : headQ e = true := by
  have h1 := pickZ_range (Int.tdiv y.y0 9) (n := 3) (by omega)
  have h2 := pickZ_range y.y1 (n := 30) (by omega)
  unfold headQ
  rw [hv, hd]
  simp only [Bool.and_eq_true, decide_eq_true_eq]
  omega
theorem some_valid_plain (y : Six) (h : kindOf y ≠ 1 ∧ kindOf y ≠ 2 ∧ kindOf y ≠ 8) : validE (someE y) = true := by
  obtain ⟨k1, k2, k3⟩ := kind_some y
  have p3 := pickZ_range y.y3 (n := 9) (by omega)
  have p4 := pickZ_range y.y4 (n := 40) (by omega)
  have p5 := pickZ_range y.y5 (n := 30) (by omega)
  have s0 := pickZ_range (shE y 0) (n := 4) (by omega)
  have s1 := pickZ_range (shE y 1) (n := 4) (by omega)
  have s2 := pickZ_range (shE y 2) (n := 4) (by omega)
  have s3 := pickZ_range (shE y 3) (n := 4) (by omega)
  have s4 := pickZ_range (shE y 4) (n := 4) (by omega)
  have hr := root_size y.y2
  have hnil : (⟨#[]⟩ : ByteArray).toList = [] := by rw [ByteArray.toList_eq]
  rcases (show kindOf y = 3 ∨ kindOf y = 4 ∨ kindOf y = 5 ∨ kindOf y = 6 ∨ kindOf y = 7 ∨ kindOf y = 9 by omega) with e | e | e | e | e | e
  all_goals
    rw [e] at k1
    have hh := head_ok y (e := someE y) (by unfold someE; rw [e]; rfl) (by unfold someE; rw [e]; rfl)
    have hkk : (someE y).kind = 1 + pickZ y.y0 9 := by unfold someE; rw [e]; rfl
    unfold validE condQ
    rw [hkk, k1]
    simp only [shapeQ, hh]
    unfold someE
    rw [e]
    simp [fieldsL, foldE, stepE, setE, headE, checks, Ent.num, Ent.clr, zeroE, hnil, hr]
    try omega
end Go.Proofs.YteeifhlhpiimoaaGreatDoor
