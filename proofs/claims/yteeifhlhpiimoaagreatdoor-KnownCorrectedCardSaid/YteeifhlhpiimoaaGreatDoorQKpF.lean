/-
  What Some makes is a valid entry: plainly, the kinds with fractions. Condition: none.
-/
import Derived.Test.YteeifhlhpiimoaaGreatDoorQKpE
namespace Go.Proofs.YteeifhlhpiimoaaGreatDoor
open Go Go.RowKit Go.Shelf Wr
theorem low_terms {x : Int} {y : Nat} (h0 : 0 < y) (hx : x.natAbs < 1000000000000000000) (hy : y < 1000000000000000000) :
    ∃ (n : Int) (g d : Nat), 0 < g ∧ n * g = x ∧ d * g = y ∧ valI (rnB x y).data.toList = n ∧ valI (rdB x y).data.toList = (d : Int) := by
  have hg : 0 < Nat.gcd x.natAbs y := Nat.gcd_pos_of_pos_right _ h0
  have dn : Nat.gcd x.natAbs y ∣ x.natAbs := Nat.gcd_dvd_left _ _
  have dd : Nat.gcd x.natAbs y ∣ y := Nat.gcd_dvd_right _ _
  have e0 : (rnB x y).data.toList = txtL (decide (x < 0)) (x.natAbs / Nat.gcd x.natAbs y) := rfl
  have e3 : (rdB x y).data.toList = txtL false (y / Nat.gcd x.natAbs y) := rfl
  obtain ⟨g, hgg⟩ : ∃ g, Nat.gcd x.natAbs y = g := ⟨_, rfl⟩
  rw [hgg] at hg dn dd e0 e3
  obtain ⟨q, hq⟩ := dn
  obtain ⟨d, hd⟩ := dd
  have hq1 : x.natAbs / g = q := by rw [hq, Nat.mul_div_cancel_left _ hg]
  have hd1 : y / g = d := by rw [hd, Nat.mul_div_cancel_left _ hg]
  rw [hq1] at e0
  rw [hd1] at e3
  have s1 : ∀ n : Nat, n < 10 ^ 18 → (decS n).length ≤ 200 := fun n hn => by rw [decS_len_dg]; have := dg_len_le hn; omega
  have l1 : q < 10 ^ 18 := by rw [← hq1]; exact Nat.lt_of_le_of_lt (Nat.div_le_self _ _) hx
  have l2 : d < 10 ^ 18 := by rw [← hd1]; exact Nat.lt_of_le_of_lt (Nat.div_le_self _ _) hy
  have hqp : x < 0 → 0 < q := fun h => by
    rcases Nat.eq_zero_or_pos q with r | r
    · rw [r] at hq; simp at hq; omega
    · exact r
  obtain ⟨z, hz⟩ : ∃ z, (if decide (x < 0) = true then -(q : Int) else (q : Int)) = z := ⟨_, rfl⟩
  have hza : z.natAbs = q := by rw [← hz]; split; exact (Int.natAbs_neg _).trans (Int.natAbs_natCast _); exact Int.natAbs_natCast _
  refine ⟨z, g, d, hg, ?_, by rw [hd, Nat.mul_comm], ?_, ?_⟩
  · have h1 : ((g * q : Nat) : Int) = (x.natAbs : Int) := by rw [hq]
    rw [Int.natCast_mul] at h1
    rw [← hz]
    by_cases h : x < 0
    · rw [if_pos (decide_eq_true h), Int.neg_mul, Int.mul_comm]; omega
    · rw [if_neg (by simpa using h), Int.mul_comm]; omega
  · rw [e0, txtL_int (fun h => hqp (of_decide_eq_true h)), hz]
    exact (text_valid (by rw [hza]; exact s1 _ l1)).2
  · rw [e3, txtL_int (fun h => by cases h)]
    exact (text_valid (z := (d : Int)) (s1 _ l2)).2
theorem value_ok {x1 x2 : Int} {d : Nat} (h0 : 0 < d) (h1 : x1.natAbs < 1000000000000000000) (h2 : x2.natAbs < 1000000000000000000) (hd : d < 1000000000000000000) (hle : x1 ≤ x2) :
    encOk (rnB x1 d).data.toList (rdB x1 d).data.toList (rnB x2 d).data.toList (rdB x2 d).data.toList = true := by
  obtain ⟨n1, g1, d1, p1, q1, r1, a1, b1⟩ := low_terms h0 h1 hd
  obtain ⟨n2, g2, d2, p2, q2, r2, a2, b2⟩ := low_terms h0 h2 hd
  unfold encOk
  rw [rat_ok h0 h1 hd, rat_ok h0 h2 hd, a1, b1, a2, b2]
  simp only [Bool.true_and, decide_eq_true_eq]
  have key : n1 * (d2 : Int) ≤ n2 * (d1 : Int) := by
    have hp : (0 : Int) < (g1 : Int) * (g2 : Int) := Int.mul_pos (by omega) (by omega)
    refine Int.le_of_mul_le_mul_right ?_ hp
    have e1 : n1 * (d2 : Int) * ((g1 : Int) * (g2 : Int)) = x1 * (d : Int) := by
      rw [← q1, ← r2, Int.natCast_mul]; simp only [Int.mul_assoc, Int.mul_comm, Int.mul_left_comm]
    have e2 : n2 * (d1 : Int) * ((g1 : Int) * (g2 : Int)) = x2 * (d : Int) := by
      rw [← q2, ← r1, Int.natCast_mul]; simp only [Int.mul_assoc, Int.mul_comm, Int.mul_left_comm]
    rw [e1, e2]
    exact Int.mul_le_mul_of_nonneg_right hle (by omega)
  unfold cmpZ
  split
  · omega
  · rw [if_neg (by omega)]; exact Int.le_refl _
theorem rn_prefix {x : Int} {y : Nat} (h : 0 ≤ x) : Lib.hasPrefix (rnB x y).data.toList [45] = false := by
  have e0 : (rnB x y).data.toList = txtL (decide (x < 0)) (x.natAbs / Nat.gcd x.natAbs y) := rfl
  rw [e0, decide_eq_false (by omega)]
  have hd : ∀ c ∈ txtL false (x.natAbs / Nat.gcd x.natAbs y), dig10 c = true := by
    unfold txtL
    split
    · intro c hc; rw [List.mem_singleton.1 hc]; decide
    · intro c hc; exact decS_dig _ c (by simpa using hc)
  have hh := digits_head hd
  unfold Lib.hasPrefix
  cases hl : txtL false (x.natAbs / Nat.gcd x.natAbs y) with
  | nil => rfl
  | cons c l =>
    rw [hl] at hh
    simp only [List.head?_cons, ne_eq, Option.some.injEq] at hh
    simp only [List.isPrefixOf, Bool.and_true]
    exact beq_eq_false_iff_ne.2 (fun e => hh e.symm)
theorem some_valid (y : Six) : validE (someE y) = true := by
  by_cases hp : kindOf y ≠ 1 ∧ kindOf y ≠ 2 ∧ kindOf y ≠ 8
  · exact some_valid_plain y hp
  obtain ⟨k1, k2, k3⟩ := kind_some y
  have p3 := pickZ_range y.y3 (n := 9) (by omega)
  have p4 := pickZ_range y.y4 (n := 40) (by omega)
  have p41 := pickZ_range y.y2 (n := 41) (by omega)
  have p5 := pickZ_range y.y5 (n := 5) (by omega)
  have p9 := pickZ_range y.y2 (n := 9) (by omega)
  have pd := pickZ_range (Int.tdiv y.y2 41) (n := 4) (by omega)
  have q9 := pickZ_range y.y4 (n := 9) (by omega)
  have s0 := pickZ_range (shE y 0) (n := 4) (by omega)
  have s2 := pickZ_range (shE y 2) (n := 4) (by omega)
  have s3 := pickZ_range (shE y 3) (n := 4) (by omega)
  have hl : (loE y).natAbs < 1000000000000000000 := by unfold loE; omega
  have hh : (hiE y).natAbs < 1000000000000000000 := by unfold hiE; omega
  have hd : denE y < 1000000000000000000 ∧ 0 < denE y := by unfold denE; omega
  have hr : denR y < 1000000000000000000 ∧ 0 < denR y := by unfold denR; omega
  have hp9 : (pickZ y.y2 9).natAbs < 1000000000000000000 := by omega
  have hle : loE y ≤ hiE y := by unfold loE hiE; omega
  have hnil : (⟨#[]⟩ : ByteArray).toList = [] := by rw [ByteArray.toList_eq]
  have V := value_ok hd.2 hl hh hd.1 hle
  have V1 := short_ok (x := loE y) (y := denE y) hl hd.1
  have V2 := short_ok (x := hiE y) (y := denE y) hh hd.1
  have R := rat_ok (x := pickZ y.y2 9) (y := denR y) hr.2 hp9 hr.1
  have R1 := short_ok (x := pickZ y.y2 9) (y := denR y) hp9 hr.1
  have R2 := rn_prefix (x := pickZ y.y2 9) (y := denR y) p9.1
  rcases (show kindOf y = 1 ∨ kindOf y = 2 ∨ kindOf y = 8 by omega) with e | e | e
  all_goals
    rw [e] at k1
    have hh := head_ok y (e := someE y) (by unfold someE; rw [e]; rfl) (by unfold someE; rw [e]; rfl)
    have hkk : (someE y).kind = 1 + pickZ y.y0 9 := by unfold someE; rw [e]; rfl
    unfold validE condQ
    rw [hkk, k1]
    simp only [shapeQ, hh]
    unfold someE
    rw [e]
    simp [fieldsL, foldE, stepE, setE, headE, checks, Ent.num, Ent.clr, zeroE, hnil, Ent.valueOk, Ent.rateOk, V, V1, V2, R, R1, R2]
    try omega
end Go.Proofs.YteeifhlhpiimoaaGreatDoor
