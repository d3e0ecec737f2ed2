/-
  Contracts of the reference's Leaf, Node, Chain; the law DigestSumMatchesReference: its walk. Conditions: bounds; the table's variable holds the table.
-/
import Derived.Test.YtjelniemoambaaaDoorRefC
import Derived.Test.YtjelniemoambaaaDoorBindA
import Derived.Test.YtjelniemoambaaaDoorLawBind
namespace Go.Proofs.YtjelniemoambaaaDoor
open Go Go.RowKit Go.Shelf

set_option maxHeartbeats 1000000 in
theorem refleaf_walk (s : ByteArray) (hs : s.size ≤ 900000) (w : World) :
    Calls Tryd.prog 34 #[.string s] w fun e w' => e = .returned (.string (leafS s)) ∧ Below w.heap.size w w' := by
  have hadd := fun w => strAdd (P := Tryd.prog) ⟨#[0]⟩ s (by show 1 + _ ≤ _; omega) w
  have hz : ((⟨#[0]⟩ : ByteArray) ++ s).size ≤ 1000000 := by rw [ba_size_append]; show 1 + _ ≤ _; omega
  have HZ := Lib.hid hz
  have HT := Lib.hid (leafT_eq s)
  clear hz
  go_enter Tryd.func34, Tryd.ntmps34
  go_wp2_with fail
  refine (refsum_walk _ HZ.out _).mono ?_
  rintro e w1 ⟨rfl, hb⟩
  go_wp2_with fail
  go_ret
  rw [HT.out]
  exact ⟨rfl, hb⟩
set_option maxHeartbeats 1000000 in
theorem refnode_walk (a b : ByteArray) (hs : a.size + b.size ≤ 900000) (w : World) :
    Calls Tryd.prog 35 #[.string a, .string b] w fun e w' => e = .returned (.string (nodeS a b)) ∧ Below w.heap.size w w' := by
  have hadd := fun w => strAdd (P := Tryd.prog) ⟨#[1]⟩ a (by show 1 + _ ≤ _; omega) w
  have hadd2 := fun w => strAdd (P := Tryd.prog) (⟨#[1]⟩ ++ a) b (by rw [ba_size_append]; show 1 + _ + _ ≤ _; omega) w
  have hz : ((⟨#[1]⟩ : ByteArray) ++ a ++ b).size ≤ 1000000 := by rw [ba_size_append, ba_size_append]; show 1 + _ + _ ≤ _; omega
  have HZ := Lib.hid hz
  have HT := Lib.hid (nodeT_eq a b)
  clear hz
  go_enter Tryd.func35, Tryd.ntmps35
  go_wp2_with fail
  refine (refsum_walk _ HZ.out _).mono ?_
  rintro e w1 ⟨rfl, hb⟩
  go_wp2_with fail
  go_ret
  rw [HT.out]
  exact ⟨rfl, hb⟩
set_option maxHeartbeats 1000000 in
theorem refchain_walk (a b : ByteArray) (hs : a.size + b.size ≤ 900000) (w : World) :
    Calls Tryd.prog 37 #[.string a, .string b] w fun e w' => e = .returned (.string (chainS a b)) ∧ Below w.heap.size w w' := by
  have hadd := fun w => strAdd (P := Tryd.prog) ⟨#[2]⟩ a (by show 1 + _ ≤ _; omega) w
  have hadd2 := fun w => strAdd (P := Tryd.prog) (⟨#[2]⟩ ++ a) b (by rw [ba_size_append]; show 1 + _ + _ ≤ _; omega) w
  have hz : ((⟨#[2]⟩ : ByteArray) ++ a ++ b).size ≤ 1000000 := by rw [ba_size_append, ba_size_append]; show 1 + _ + _ ≤ _; omega
  have HZ := Lib.hid hz
  have HT := Lib.hid (chainT_eq a b)
  clear hz
  go_enter Tryd.func37, Tryd.ntmps37
  go_wp2_with fail
  refine (refsum_walk _ HZ.out _).mono ?_
  rintro e w1 ⟨rfl, hb⟩
  go_wp2_with fail
  go_ret
  rw [HT.out]
  exact ⟨rfl, hb⟩

section
variable {w W : World} {ls : List (Option Addr × List ByteArray)}
theorem LawSt.rsum (h : LawSt w ls W) (a : ByteArray) (hs : a.size ≤ 1000000) :
    Calls Tryd.prog 33 #[.string a] W fun e W' => e = .returned (.string (shaS a.data.toList)) ∧ LawSt w ls W' :=
  (refsum_walk a hs W).mono fun _ _ ⟨he, hb⟩ => ⟨he, h.below hb⟩
theorem LawSt.rleaf (h : LawSt w ls W) (a : ByteArray) (hs : a.size ≤ 900000) :
    Calls Tryd.prog 34 #[.string a] W fun e W' => e = .returned (.string (leafS a)) ∧ LawSt w ls W' :=
  (refleaf_walk a hs W).mono fun _ _ ⟨he, hb⟩ => ⟨he, h.below hb⟩
theorem LawSt.rnode (h : LawSt w ls W) (a b : ByteArray) (hs : a.size + b.size ≤ 900000) :
    Calls Tryd.prog 35 #[.string a, .string b] W fun e W' => e = .returned (.string (nodeS a b)) ∧ LawSt w ls W' :=
  (refnode_walk a b hs W).mono fun _ _ ⟨he, hb⟩ => ⟨he, h.below hb⟩
theorem LawSt.rchain (h : LawSt w ls W) (a b : ByteArray) (hs : a.size + b.size ≤ 900000) :
    Calls Tryd.prog 37 #[.string a, .string b] W fun e W' => e = .returned (.string (chainS a b)) ∧ LawSt w ls W' :=
  (refchain_walk a b hs W).mono fun _ _ ⟨he, hb⟩ => ⟨he, h.below hb⟩
theorem LawSt.chain (h : LawSt w ls W) (a b : ByteArray) (hs : a.size + b.size ≤ 999000) :
    Calls Tryd.prog 36 #[.string a, .string b] W fun e W' => e = .returned (.string (chainS a b)) ∧ LawSt w ls W' :=
  (chain_walk a b W hs h.k).mono fun _ _ ⟨he, hb⟩ => ⟨he, h.below hb⟩
end
theorem cut_min5 (s : ByteArray) : min (s.size : Int) 500 = (cutAt s 500 : Int) := by unfold cutAt; split <;> omega
theorem str_self (a : ByteArray) : (a.toList == a.toList) = true := by simp

set_option maxRecDepth 100000 in
set_option maxHeartbeats 4000000 in
theorem sumref_law (s t : ByteArray) (w : World) (hK : KAt w) :
    Calls Tryd.prog 10 #[.string s, .string t] w fun e w' => e = .returned (.bool true) ∧ Below w.heap.size w w' := by
  have HK := Lib.hid hK
  have m3 := cut_min5 s
  have m4 := cut_min5 t
  obtain ⟨l3, k3⟩ := cutAt_le s 500
  obtain ⟨l4, k4⟩ := cutAt_le t 500
  have hSs := cutS_le 500 s
  have hTs := cutS_le 500 t
  obtain ⟨S, hS⟩ : ∃ S, cutS 500 s = S := ⟨_, rfl⟩
  obtain ⟨T, hT⟩ : ∃ T, cutS 500 t = T := ⟨_, rfl⟩
  have hS2 : s.extract 0 (cutAt s 500) = S := hS
  have hT2 : t.extract 0 (cutAt t 500) = T := hT
  rw [hS] at hSs
  rw [hT] at hTs
  obtain ⟨c3, hc3⟩ : ∃ c, cutAt s 500 = c := ⟨_, rfl⟩
  obtain ⟨c4, hc4⟩ : ∃ c, cutAt t 500 = c := ⟨_, rfl⟩
  rw [hc3] at m3 l3 k3 hS2
  rw [hc4] at m4 l4 k4 hT2
  have y3 : (0 : Int) ≤ (c3 : Int) := by omega
  have y4 : (c3 : Int) ≤ (s.size : Int) := by omega
  have y5 : (0 : Int) ≤ (c4 : Int) := by omega
  have y6 : (c4 : Int) ≤ (t.size : Int) := by omega
  have i1 := str_self (shaS S.data.toList)
  have i2 := str_self (leafS T)
  have i3 := str_self (nodeS S T)
  have i4 := str_self (chainS T S)
  clear hS hT hc3 hc4 hK
  go_enter Tryd.func10, Tryd.ntmps10
  go_wp2_with fail
  refine (sane_walk w HK.out).mono ?_
  rintro e w1 ⟨rfl, hb1⟩
  have HST : Hid (LawSt w [] w1) := Lib.hid ⟨fun x hx => (by cases hx), HK.out.below hb1, hb1⟩
  clear hb1
  go_wp2_with fail
  refine (HST.out.sum S (by omega)).mono ?_
  rintro e w2 ⟨rfl, hst⟩
  replace HST := Lib.hid hst
  clear hst
  go_wp2_with fail
  refine (HST.out.rsum S (by omega)).mono ?_
  rintro e w3 ⟨rfl, hst⟩
  replace HST := Lib.hid hst
  clear hst
  go_wp2_with fail
  refine (HST.out.leaf T (by omega)).mono ?_
  rintro e w4 ⟨rfl, hst⟩
  replace HST := Lib.hid hst
  clear hst
  go_wp2_with fail
  refine (HST.out.rleaf T (by omega)).mono ?_
  rintro e w5 ⟨rfl, hst⟩
  replace HST := Lib.hid hst
  clear hst
  go_wp2_with fail
  refine (HST.out.node S T (by omega)).mono ?_
  rintro e w6 ⟨rfl, hst⟩
  replace HST := Lib.hid hst
  clear hst
  go_wp2_with fail
  refine (HST.out.rnode S T (by omega)).mono ?_
  rintro e w7 ⟨rfl, hst⟩
  replace HST := Lib.hid hst
  clear hst
  go_wp2_with fail
  refine (HST.out.chain T S (by omega)).mono ?_
  rintro e w8 ⟨rfl, hst⟩
  replace HST := Lib.hid hst
  clear hst
  go_wp2_with fail
  refine (HST.out.rchain T S (by omega)).mono ?_
  rintro e w9 ⟨rfl, hst⟩
  replace HST := Lib.hid hst
  clear hst
  go_wp2_with fail
  go_ret
  exact ⟨rfl, HST.out.b⟩

end Go.Proofs.YtjelniemoambaaaDoor
