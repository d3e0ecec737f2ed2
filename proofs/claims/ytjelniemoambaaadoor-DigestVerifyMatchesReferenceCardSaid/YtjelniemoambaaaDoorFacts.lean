/-
  Facts on digests that the kernel computes, for the fixed examples of the laws. No condition.
-/
import Derived.Test.YtjelniemoambaaaDoorDigO
namespace Go.Proofs.YtjelniemoambaaaDoor
open Go

def hexE : List UInt8 := [101, 51, 98, 48, 99, 52, 52, 50, 57, 56, 102, 99, 49, 99, 49, 52, 57, 97, 102, 98, 102, 52, 99, 56, 57, 57, 54, 102, 98, 57, 50, 52, 50, 55, 97, 101, 52, 49, 101, 52, 54, 52, 57, 98, 57, 51, 52, 99, 97, 52, 57, 53, 57, 57, 49, 98, 55, 56, 53, 50, 98, 56, 53, 53]
def hexA : List UInt8 := [98, 97, 55, 56, 49, 54, 98, 102, 56, 102, 48, 49, 99, 102, 101, 97, 52, 49, 52, 49, 52, 48, 100, 101, 53, 100, 97, 101, 50, 50, 50, 51, 98, 48, 48, 51, 54, 49, 97, 51, 57, 54, 49, 55, 55, 97, 57, 99, 98, 52, 49, 48, 102, 102, 54, 49, 102, 50, 48, 48, 49, 53, 97, 100]
theorem fact_e : hexL (sha []) = hexE := by kernel_rfl
theorem fact_a : hexL (sha [97, 98, 99]) = hexA := by kernel_rfl
def sA : ByteArray := ⟨#[97]⟩
def sB : ByteArray := ⟨#[98]⟩
def sC : ByteArray := ⟨#[99]⟩
def sD : ByteArray := ⟨#[100]⟩
def abc : List ByteArray := [sA, sB, sC]
theorem leftN2 : leftN 2 = 1 := by kernel_rfl
theorem leftN3 : leftN 3 = 2 := by kernel_rfl
theorem root_ab : rootS [sA, sB] = nodeS (leafS sA) (leafS sB) := by
  rw [rootS_two (by decide)]; show nodeS (rootS ([sA, sB].take (leftN 2))) (rootS ([sA, sB].drop (leftN 2))) = _; rw [leftN2]; rfl
theorem root_abc : rootS abc = nodeS (nodeS (leafS sA) (leafS sB)) (leafS sC) := by
  rw [rootS_two (by decide)]; show nodeS (rootS (abc.take (leftN 3))) (rootS (abc.drop (leftN 3))) = _; rw [leftN3]
  show nodeS (rootS [sA, sB]) (rootS [sC]) = _
  rw [root_ab]; rfl
theorem ne_of_lists {a b : ByteArray} (h : (a.data.toList == b.data.toList) = false) : a ≠ b := fun e => by rw [e] at h; simp at h
theorem fact_vd : ((nodeS (nodeS (leafS sA) (leafS sB)) (leafS sD)).data.toList == (nodeS (nodeS (leafS sA) (leafS sB)) (leafS sC)).data.toList) = false := by kernel_rfl
theorem fact_xe : ((nodeS (nodeS (nodeS (leafS sA) (leafS sB)) (leafS sB)) (leafS sC)).data.toList == (nodeS (nodeS (leafS sA) (leafS sB)) (leafS sC)).data.toList) = false := by kernel_rfl

theorem proof_abc : proofS abc 2 = [nodeS (leafS sA) (leafS sB)] := by
  rw [proofS_two 2 (by decide)]
  show (if 2 < leftN 3 then _ else _) = _
  rw [leftN3, if_neg (by decide)]
  show proofS (abc.drop (leftN 3)) (2 - leftN 3) ++ [rootS (abc.take (leftN 3))] = _
  rw [leftN3, proofS_one (by decide)]
  show [rootS [sA, sB]] = _
  rw [root_ab]
theorem ext_abc : extS abc 1 true = [leafS sB, leafS sC] := by
  rw [extS_step true (by decide) (by decide)]
  show (if 1 ≤ leftN 3 then extS (abc.take (leftN 3)) 1 true ++ [rootS (abc.drop (leftN 3))] else _) = _
  rw [leftN3, if_pos (by decide)]
  show extS [sA, sB] 1 true ++ [rootS [sC]] = _
  rw [extS_step true (by decide) (by decide)]
  show (if 1 ≤ leftN 2 then extS ([sA, sB].take (leftN 2)) 1 true ++ [rootS ([sA, sB].drop (leftN 2))] else _) ++ _ = _
  rw [leftN2, if_pos (by decide)]
  show extS [sA] 1 true ++ [rootS [sB]] ++ [rootS [sC]] = _
  rw [extS_done true (by decide)]; rfl

theorem st_abc (x : ByteArray) : stS 3 2 [x] = some ([(x, true)], []) := by
  have h := stS_right [] x (n := 3) (i := 2) (by decide) (by rw [leftN3]; decide)
  rw [List.nil_append, leftN3] at h
  rw [h, show 3 - 2 = 1 from rfl, stS_one _ _ (by decide)]; rfl
theorem ver_c : verB (rootS abc) 3 2 sC (proofS abc 2) = true := by
  unfold verB
  rw [proof_abc, if_neg (by rintro (h | h | h); (· omega); (· omega); (· simp [allB, nodeS_size] at h)), show (3 : Int).toNat = 3 from rfl, show (2 : Int).toNat = 2 from rfl, st_abc]
  simp only [root_abc]
  simp [joinS]
theorem ver_d : verB (rootS abc) 3 2 sD (proofS abc 2) = false := by
  unfold verB
  rw [proof_abc, if_neg (by rintro (h | h | h); (· omega); (· omega); (· simp [allB, nodeS_size] at h)), show (3 : Int).toNat = 3 from rfl, show (2 : Int).toNat = 2 from rfl, st_abc]
  simp only [root_abc]
  simp [joinS, ne_of_lists fact_vd]
theorem se_abc (x y : ByteArray) : seS 3 1 [x, y] = some ([(y, false), (x, false)], []) := by
  have h := seS_left [x] y (n := 3) (m := 1) (by decide) (by decide) (by rw [leftN3]; decide)
  rw [leftN3] at h
  have h2 := seS_left [] x (n := 2) (m := 1) (by decide) (by decide) (by rw [leftN2]; decide)
  rw [leftN2, List.nil_append] at h2
  show seS 3 1 ([x] ++ [y]) = _
  rw [h, h2, seS_one _ (by decide)]; rfl
theorem ext_ok : verE (rootS [sA]) 1 (rootS abc) 3 (extS abc 1 true) = true := by
  unfold verE
  rw [ext_abc, if_neg (by rintro (h | h | h | h | h); (· omega); (· omega); (· simp [allB, leafS_size] at h); (· exact h (rootS_size _)); (· exact h (rootS_size _))), if_neg (by decide), if_neg (by decide), show (3 : Int).toNat = 3 from rfl, show (1 : Int).toNat = 1 from rfl, se_abc]
  simp only [root_abc, rootS_one]
  simp [veR, fstS, sndS, joinS]
theorem ext_ab : verE (rootS [sA, sB]) 1 (rootS abc) 3 (extS abc 1 true) = false := by
  unfold verE
  rw [ext_abc, if_neg (by rintro (h | h | h | h | h); (· omega); (· omega); (· simp [allB, leafS_size] at h); (· exact h (rootS_size _)); (· exact h (rootS_size _))), if_neg (by decide), if_neg (by decide), show (3 : Int).toNat = 3 from rfl, show (1 : Int).toNat = 1 from rfl, se_abc]
  simp only [root_abc, root_ab]
  simp [veR, fstS, sndS, joinS, ne_of_lists fact_xe]

end Go.Proofs.YtjelniemoambaaaDoor
