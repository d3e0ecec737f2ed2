/-
  More of what Some makes; a list's elements found: plainly. No condition.
-/
import Derived.Test.YteeifhlhpiimoaaGreatDoorQKpG
namespace Go.Proofs.YteeifhlhpiimoaaGreatDoor
open Go Go.RowKit Go.Shelf Wr
theorem ver_step (y : Six) (k f : Nat) (e : Ent) : (stepE y k f e).ver = e.ver := by
  unfold stepE
  split <;> first | rfl | (unfold setE; split <;> rfl)
theorem ver_fold (y : Six) : ∀ (fs : List Nat) (k : Nat) (e : Ent), (foldE y k fs e).ver = e.ver
  | [], _, _ => rfl
  | f :: fs, k, e => (ver_fold y fs (k + 1) _).trans (ver_step y k f e)
theorem some_ver (y : Six) : 1 ≤ (someE y).ver ∧ (someE y).ver ≤ 3 := by
  have h : (someE y).ver = 1 + pickZ (Int.tdiv y.y0 9) 3 := ver_fold y _ 0 _
  have := pickZ_range (Int.tdiv y.y0 9) (n := 3) (by omega)
  rw [h]; omega
def corrE (e : Ent) (d : Int) (g : Bool) : Ent := { e with ver := 9, day := d, gone := g }
theorem corr_num (e : Ent) (d : Int) (g : Bool) (i : Nat) : (corrE e d g).num i = e.num i := by unfold Ent.num corrE; split <;> rfl
theorem corr_clr (e : Ent) (d : Int) (g : Bool) (i : Nat) : (corrE e d g).clr i = corrE (e.clr i) d g := by unfold Ent.clr corrE; split <;> rfl
theorem corr_clrs (d : Int) (g : Bool) : ∀ (l : List Nat) (e : Ent), l.foldl Ent.clr (corrE e d g) = corrE (l.foldl Ent.clr e) d g
  | [], _ => rfl
  | i :: l, e => by rw [List.foldl_cons, List.foldl_cons, corr_clr, corr_clrs d g l]
theorem corr_checks (d : Int) (g : Bool) : ∀ (qs : List PartE) (e : Ent), checks qs (corrE e d g) = checks qs e
  | [], _ => rfl
  | .num i l :: qs, e => by rw [checks, checks, corr_num, corr_clr, corr_checks d g qs]
  | .txt l :: qs, e => by rw [checks, checks, corr_clrs, corr_checks d g qs]
theorem corr_valid {e : Ent} {d : Int} {g : Bool} (h : validE e = true) (h0 : 0 ≤ d) (h1 : d ≤ 100000) : validE (corrE e d g) = true := by
  unfold validE at h ⊢
  have hs : (corrE e d g).kind = e.kind := rfl
  have hc : condQ (corrE e d g) = condQ e := rfl
  rw [hs]
  cases hq : shapeQ e.kind with
  | none => rw [hq] at h; cases h
  | some qs =>
    rw [hq] at h
    simp only [Bool.and_eq_true] at h ⊢
    refine ⟨?_, by rw [hc]; exact h.2.1, by rw [corr_checks]; exact h.2.2⟩
    unfold headQ corrE
    simp only [Bool.and_eq_true, decide_eq_true_eq]
    omega
end Go.Proofs.YteeifhlhpiimoaaGreatDoor
