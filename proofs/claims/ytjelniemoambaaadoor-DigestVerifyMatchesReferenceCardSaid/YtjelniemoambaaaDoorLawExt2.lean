/-
  The law DigestExtensionAccepted: its walk. Condition: the table's variable holds the table.
-/
import Derived.Test.YtjelniemoambaaaDoorLawExt
namespace Go.Proofs.YtjelniemoambaaaDoor
open Go Go.RowKit Go.Shelf

theorem LawSt.drop2 {w W : World} {ls : List (Option Addr × List ByteArray)} {x y : Option Addr × List ByteArray} (h : LawSt w (x :: y :: ls) W) : LawSt w ls W := h.tail.tail
theorem verE_out (old root : ByteArray) (m n : Int) (p : List ByteArray) (h : m < 0 ∨ n < m) : verE old m root n p = false := by
  unfold verE
  rw [if_pos (by rcases h with h | h; (· exact .inl h); (· exact .inr (.inl h)))]

set_option maxRecDepth 100000 in
set_option maxHeartbeats 8000000 in
theorem extAcc_walk (A : Option Addr) (l : List ByteArray) (cap : Nat) (m : Int) (hl : l.length ≤ 9223372036854775807) (w : World) (hA : LAt w w.heap.size A .string l) (hK : KAt w) :
    Calls Tryd.prog 6 #[.slice A l.length cap, .int .i64 m] w fun e w' => e = .returned (.bool true) ∧ Below w.heap.size w w' := by
  have HA := Lib.hid hA
  have HK := Lib.hid hK
  clear hA hK
  go_enter Tryd.func6, Tryd.ntmps6
  go_wp2_with fail
  refine (sane_walk w HK.out).mono ?_
  rintro e w1 ⟨rfl, hb1⟩
  go_wp2_with fail
  refine (few_walk A l cap 25 (by decide) hl w1 ((HA.out.below hb1).more hb1.size)).mono ?_
  rintro e w2 ⟨⟨v0, rfl, h0⟩, hb2⟩
  have hLn := fewS_length l 25
  have hLs := fewS_size l 25
  obtain ⟨L, hL⟩ : ∃ L, fewS l 25 = L := ⟨_, rfl⟩
  rw [hL] at h0 hLn hLs
  obtain ⟨A0, c0, rfl, hc0, hc0m, -⟩ := h0.slice0
  have HLS := Lib.hid (show ∀ s ∈ L, s.size ≤ 100000 from fun s hs => by have := hLs s hs; omega)
  have hst : LawSt w [(A0, L)] w2 := ⟨fun x hx => by rw [List.mem_singleton.1 hx]; exact h0.lat, (HK.out.below hb1).below hb2, hb1.trans (hb2.mono hb1.size)⟩
  have HST := Lib.hid hst
  clear hL hLs
  obtain ⟨n, hn⟩ : ∃ n, L.length = n := ⟨_, rfl⟩
  rw [hn] at hc0 hLn ⊢
  have HN := Lib.hid hn
  obtain ⟨bn, hbn⟩ : ∃ bn, binN n = bn := ⟨_, rfl⟩
  have HBN := Lib.hid hbn
  have hb5 : bn ≤ 6 := by rw [← hbn]; exact binN_le (by omega)
  have m0 : ((A0, L) : Option Addr × List ByteArray) ∈ [(A0, L)] := by simp
  clear h0 hb1 hb2 hst hn hbn
  go_wp2_with fail
  refine (HST.out.root m0 n c0 HN.out (by omega) HLS.out).mono ?_
  rintro e w3 ⟨rfl, hst3⟩
  have HST := Lib.hid hst3
  obtain ⟨R, hR⟩ : ∃ R, rootS L = R := ⟨_, rfl⟩
  rw [hR]
  have HR := Lib.hid hR
  clear hst3 hR
  go_wp2_with fail
  go_loopw [7] (fun v7 wr => ∃ k : Nat, k ≤ n + 1 ∧ v7 = .int .i64 k ∧ LawSt w [(A0, L)] wr) (fun v _ => n + 1 - (intOf v).toNat)
  case atStart => exact ⟨0, by omega, rfl, HST.out⟩
  case round =>
    clear HST
    obtain ⟨k, hk, rfl, hst⟩ := hrel
    have HST := Lib.hid hst
    clear hst
    by_cases hkn : k ≤ n
    · have hX := extA_ok L k (by rw [HN.out]; omega)
      have hXl := extA_short L k (by rw [HN.out]; omega)
      rw [HN.out, HBN.out] at hXl
      rw [HN.out, HR.out] at hX
      have hE := HST.out.ext m0 n c0 k HN.out (by omega) hc0 hc0m hkn HLS.out
      obtain ⟨X, hXX⟩ : ∃ X, extA L k = X := ⟨_, rfl⟩
      rw [hXX] at hX hXl hE
      obtain ⟨np, hnp⟩ : ∃ np, X.length = np := ⟨_, rfl⟩
      rw [hnp] at hXl hE
      have HNP := Lib.hid hnp
      have HX := Lib.hid hX
      have HE := Lib.hid hE
      have d1 : decide (2 * (bn : Int) < (np : Int)) = false := by simp; omega
      have d2 : decide (k ≤ n) = true := by simp [hkn]
      have htl : (L.take k).length = k := by rw [List.length_take, HN.out]; omega
      have HTL := Lib.hid htl
      have z1 : (0 : Int) ≤ (k : Int) := by omega
      have z2 : (k : Int) ≤ (c0 : Int) := by omega
      have z3 : (k : Int) ≤ (n : Int) := by omega
      clear hX hE hnp hXX htl
      go_wp2_with fail
      refine HE.out.mono ?_
      rintro e w4 ⟨A7, c7, rfl, hc7, hst4⟩
      have HST := Lib.hid hst4
      clear hst4
      go_wp2_with fail
      refine (binary_walk n (by omega) w4).mono ?_
      rintro e w' ⟨rfl, rfl⟩
      rw [HBN.out]
      have HST := Lib.hid (HST.out.take (A := A0) (l := L) (by simp) k)
      go_wp2_with fail
      refine (HST.out.root (A := A0) (l := L.take k) (by simp) k c0 HTL.out (by omega) (fun s hs => HLS.out s (List.mem_of_mem_take hs))).mono ?_
      rintro e w5 ⟨rfl, hst5⟩
      have HST := Lib.hid hst5
      clear hst5
      go_wp2_with fail
      refine (HST.out.vext (A := A7) (p := X) (by simp) (rootS (L.take k)) R k n np c7 HNP.out (by omega) hc7 (by omega)).mono ?_
      rintro e w6 ⟨rfl, hst6⟩
      rw [HX.out]
      have HST := Lib.hid hst6.drop2
      clear hst6
      go_wp2_with fail
      exact ⟨⟨k + 1, by omega, by go_num, HST.out⟩, by simp [intOf]; omega⟩
    · have hkn2 : k = n + 1 := by omega
      have d2 : decide (k ≤ n) = false := by simp; omega
      clear hkn2
      by_cases hm : m < 0 ∨ (n : Int) < m
      · have hE := ext_no A0 L c0 m (by rw [HN.out]; exact hm) wr
        rw [HN.out] at hE
        have HE := Lib.hid hE
        have HM := Lib.hid hm
        have hnil : LawSt w [(none, []), (A0, L)] wr := HST.out.add LAt.nil
        have HST := Lib.hid hnil
        clear hE hnil
        rcases hm with hm | hm
        · have d3 : decide (0 ≤ m) = false := by simp; omega
          go_wp2_with fail
          refine HE.out.mono ?_
          rintro e w' ⟨rfl, rfl⟩
          go_wp2_with fail
          refine (HST.out.vext (A := none) (p := []) (by simp) R R m n 0 0 rfl (by decide) (by decide) (by omega)).mono ?_
          rintro e w4 ⟨rfl, hst4⟩
          rw [verE_out R R m n [] HM.out]
          have HST := Lib.hid hst4
          clear hst4
          go_wp2_with fail
          go_ret
          exact ⟨rfl, HST.out.b⟩
        · have d3 : decide (0 ≤ m) = true := by simp; omega
          have d4 : decide (m ≤ (n : Int)) = false := by simp; omega
          go_wp2_with fail
          refine HE.out.mono ?_
          rintro e w' ⟨rfl, rfl⟩
          go_wp2_with fail
          refine (HST.out.vext (A := none) (p := []) (by simp) R R m n 0 0 rfl (by decide) (by decide) (by omega)).mono ?_
          rintro e w4 ⟨rfl, hst4⟩
          rw [verE_out R R m n [] HM.out]
          have HST := Lib.hid hst4
          clear hst4
          go_wp2_with fail
          go_ret
          exact ⟨rfl, HST.out.b⟩
      · obtain ⟨j, rfl⟩ : ∃ j : Nat, m = j := ⟨m.toNat, by omega⟩
        have hj : j ≤ n := by omega
        have hE := HST.out.ext m0 n c0 j HN.out (by omega) hc0 hc0m hj HLS.out
        obtain ⟨X, hXX⟩ : ∃ X, extA L j = X := ⟨_, rfl⟩
        rw [hXX] at hE
        obtain ⟨np, hnp⟩ : ∃ np, X.length = np := ⟨_, rfl⟩
        rw [hnp] at hE
        have HE := Lib.hid hE
        have d3 : decide ((0 : Int) ≤ (j : Int)) = true := by simp
        have d4 : decide (j ≤ n) = true := by simp [hj]
        clear hE hXX hnp hm
        go_wp2_with fail
        refine HE.out.mono ?_
        rintro e w4 ⟨A7, c7, rfl, hc7, hst4⟩
        have HST := Lib.hid hst4
        clear hst4
        go_wp2_with fail
        go_ret
        exact ⟨rfl, HST.out.b⟩

end Go.Proofs.YtjelniemoambaaaDoor
