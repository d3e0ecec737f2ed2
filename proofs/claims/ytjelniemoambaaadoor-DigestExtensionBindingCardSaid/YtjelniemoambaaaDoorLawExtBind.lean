/-
  The law DigestExtensionBinding: its walk. Condition: the table's variable holds the table.
-/
import Derived.Test.YtjelniemoambaaaDoorBindA
import Derived.Test.YtjelniemoambaaaDoorColl
namespace Go.Proofs.YtjelniemoambaaaDoor
open Go Go.RowKit Go.Shelf

theorem or_nt (b : Bool) : (b || !true) = b := by cases b <;> rfl
theorem zS_foot (old : ByteArray) (ws : List (ByteArray × Bool)) (r : List ByteArray) : zS old ws r true = footS old ws r := by unfold zS footS; rw [or_nt]

set_option maxRecDepth 100000 in
set_option maxHeartbeats 8000000 in
theorem extBind_no (a b root : ByteArray) (m n : Int) (A1 A2 : Option Addr) (p q : List ByteArray) (cap1 cap2 : Nat) (hl1 : p.length ≤ 9223372036854775807) (hl2 : q.length ≤ 9223372036854775807) (hn : n ≤ 9223372036854775807) (w : World) (hA1 : LAt w w.heap.size A1 .string p) (hA2 : LAt w w.heap.size A2 .string q) (hK : KAt w)
    (hB : ¬ (verE a m root n (fewS p 70) = true ∧ verE b m root n (fewS q 70) = true ∧ a ≠ b)) :
    Calls Tryd.prog 8 #[.string a, .slice A1 p.length cap1, .string b, .slice A2 q.length cap2, .int .i64 m, .string root, .int .i64 n] w fun e w' => e = .returned (.bool true) ∧ Below w.heap.size w w' := by
  have HA1 := Lib.hid hA1
  have HA2 := Lib.hid hA2
  have HK := Lib.hid hK
  have HB := Lib.hid hB
  clear hB hA1 hA2 hK
  go_enter Tryd.func8, Tryd.ntmps8
  go_wp2_with fail
  refine (sane_walk w HK.out).mono ?_
  rintro e w1 ⟨rfl, hb1⟩
  go_wp2_with fail
  refine (few_walk A1 p cap1 70 (by decide) hl1 w1 ((HA1.out.below hb1).more hb1.size)).mono ?_
  rintro e w2 ⟨⟨v1, rfl, h1⟩, hb2⟩
  have hPn := fewS_length p 70
  obtain ⟨P, hP⟩ : ∃ P, fewS p 70 = P := ⟨_, rfl⟩
  have HP := Lib.hid hP
  rw [hP] at h1 hPn
  obtain ⟨AP, cp, rfl, hcp, hcpm, -⟩ := h1.slice0
  clear hP
  obtain ⟨np, hnp⟩ : ∃ np, P.length = np := ⟨_, rfl⟩
  rw [hnp] at hcp hPn ⊢
  have HNP := Lib.hid hnp
  clear hnp
  have hb12 := hb1.trans (hb2.mono hb1.size)
  go_wp2_with fail
  refine (few_walk A2 q cap2 70 (by decide) hl2 w2 ((HA2.out.below hb12).more hb12.size)).mono ?_
  rintro e w3 ⟨⟨v2, rfl, h2⟩, hb3⟩
  have hQn := fewS_length q 70
  obtain ⟨Q, hQ⟩ : ∃ Q, fewS q 70 = Q := ⟨_, rfl⟩
  have HQ := Lib.hid hQ
  rw [hQ] at h2 hQn
  obtain ⟨AQ, cq, rfl, hcq, hcqm, -⟩ := h2.slice0
  clear hQ
  obtain ⟨nq, hnq⟩ : ∃ nq, Q.length = nq := ⟨_, rfl⟩
  rw [hnq] at hcq hQn ⊢
  have HNQ := Lib.hid hnq
  clear hnq
  have hst : LawSt w [(AQ, Q), (AP, P)] w3 := by
    refine LawSt.add (LawSt.below (W := w2) ⟨fun x hx => ?_, HK.out.below hb12, hb12⟩ hb3) h2.lat
    rw [List.mem_singleton.1 hx]; exact h1.lat
  have HST := Lib.hid hst
  clear h1 h2 hb1 hb2 hb12 hb3 hst
  have hB2 := HB.out
  rw [HP.out, HQ.out] at hB2
  have mP : (AP, P) ∈ [(AQ, Q), (AP, P)] := by simp
  have mQ : (AQ, Q) ∈ [(AQ, Q), (AP, P)] := by simp
  go_wp2_with fail
  refine (HST.out.vext mP a root m n np cp HNP.out (by omega) hcp hn).mono ?_
  rintro e w4 ⟨rfl, hst4⟩
  have HST := Lib.hid hst4
  obtain ⟨b1, hb1⟩ : ∃ b1, verE a m root n P = b1 := ⟨_, rfl⟩
  rw [hb1] at hB2 ⊢
  have HV1 := Lib.hid hb1
  clear hst4 hb1
  go_wp2_with fail
  refine (HST.out.vext mQ b root m n nq cq HNQ.out (by omega) hcq hn).mono ?_
  rintro e w5 ⟨rfl, hst5⟩
  have HST := Lib.hid hst5
  obtain ⟨b2, hb2⟩ : ∃ b2, verE b m root n Q = b2 := ⟨_, rfl⟩
  rw [hb2] at hB2 ⊢
  have HV2 := Lib.hid hb2
  clear hst5 hb2
  have HB2 := Lib.hid hB2
  clear hB2
  cases b1
  · go_wp2_with fail
    go_ret
    exact ⟨rfl, HST.out.b⟩
  · cases b2
    · go_wp2_with fail
      go_ret
      exact ⟨rfl, HST.out.b⟩
    · have e1 : (a.toList == b.toList) = true := by
        rw [str_eq]
        simpa using HB2.out
      go_wp2_with fail
      go_ret
      exact ⟨rfl, HST.out.b⟩

set_option maxRecDepth 100000 in
set_option maxHeartbeats 8000000 in
theorem extBind_yes (a b root : ByteArray) (m n : Nat) (A1 A2 : Option Addr) (p q : List ByteArray) (cap1 cap2 : Nat) (hl1 : p.length ≤ 9223372036854775807) (hl2 : q.length ≤ 9223372036854775807) (hn : (n : Int) ≤ 9223372036854775807) (w : World) (hA1 : LAt w w.heap.size A1 .string p) (hA2 : LAt w w.heap.size A2 .string q) (hK : KAt w) (hm0 : (m : Int) ≠ 0) (hmn : (m : Int) ≠ n)
    (hB : verE a m root n (fewS p 70) = true ∧ verE b m root n (fewS q 70) = true ∧ a ≠ b) :
    Calls Tryd.prog 8 #[.string a, .slice A1 p.length cap1, .string b, .slice A2 q.length cap2, .int .i64 m, .string root, .int .i64 n] w fun e w' => e = .returned (.bool true) ∧ Below w.heap.size w w' := by
  have HA1 := Lib.hid hA1
  have HA2 := Lib.hid hA2
  have HK := Lib.hid hK
  have HB := Lib.hid hB
  clear hB hA1 hA2 hK
  go_enter Tryd.func8, Tryd.ntmps8
  go_wp2_with fail
  refine (sane_walk w HK.out).mono ?_
  rintro e w1 ⟨rfl, hb1⟩
  go_wp2_with fail
  refine (few_walk A1 p cap1 70 (by decide) hl1 w1 ((HA1.out.below hb1).more hb1.size)).mono ?_
  rintro e w2 ⟨⟨v1, rfl, h1⟩, hb2⟩
  have hPn := fewS_length p 70
  obtain ⟨P, hP⟩ : ∃ P, fewS p 70 = P := ⟨_, rfl⟩
  have HP := Lib.hid hP
  rw [hP] at h1 hPn
  obtain ⟨AP, cp, rfl, hcp, hcpm, -⟩ := h1.slice0
  clear hP
  obtain ⟨np, hnp⟩ : ∃ np, P.length = np := ⟨_, rfl⟩
  rw [hnp] at hcp hPn ⊢
  have HNP := Lib.hid hnp
  clear hnp
  have hb12 := hb1.trans (hb2.mono hb1.size)
  go_wp2_with fail
  refine (few_walk A2 q cap2 70 (by decide) hl2 w2 ((HA2.out.below hb12).more hb12.size)).mono ?_
  rintro e w3 ⟨⟨v2, rfl, h2⟩, hb3⟩
  have hQn := fewS_length q 70
  obtain ⟨Q, hQ⟩ : ∃ Q, fewS q 70 = Q := ⟨_, rfl⟩
  have HQ := Lib.hid hQ
  rw [hQ] at h2 hQn
  obtain ⟨AQ, cq, rfl, hcq, hcqm, -⟩ := h2.slice0
  clear hQ
  obtain ⟨nq, hnq⟩ : ∃ nq, Q.length = nq := ⟨_, rfl⟩
  rw [hnq] at hcq hQn ⊢
  have HNQ := Lib.hid hnq
  clear hnq
  have hst : LawSt w [(AQ, Q), (AP, P)] w3 := by
    refine LawSt.add (LawSt.below (W := w2) ⟨fun x hx => ?_, HK.out.below hb12, hb12⟩ hb3) h2.lat
    rw [List.mem_singleton.1 hx]; exact h1.lat
  have HST := Lib.hid hst
  clear h1 h2 hb1 hb2 hb12 hb3 hst
  have hB2 := HB.out
  rw [HP.out, HQ.out] at hB2
  have mP : (AP, P) ∈ [(AQ, Q), (AP, P)] := by simp
  have mQ : (AQ, Q) ∈ [(AQ, Q), (AP, P)] := by simp
  go_wp2_with fail
  refine (HST.out.vext mP a root m n np cp HNP.out (by omega) hcp hn).mono ?_
  rintro e w4 ⟨rfl, hst4⟩
  have HST := Lib.hid hst4
  obtain ⟨b1, hb1⟩ : ∃ b1, verE a m root n P = b1 := ⟨_, rfl⟩
  rw [hb1] at hB2 ⊢
  have HV1 := Lib.hid hb1
  clear hst4 hb1
  go_wp2_with fail
  refine (HST.out.vext mQ b root m n nq cq HNQ.out (by omega) hcq hn).mono ?_
  rintro e w5 ⟨rfl, hst5⟩
  have HST := Lib.hid hst5
  obtain ⟨b2, hb2⟩ : ∃ b2, verE b m root n Q = b2 := ⟨_, rfl⟩
  rw [hb2] at hB2 ⊢
  have HV2 := Lib.hid hb2
  clear hst5 hb2
  obtain ⟨rfl, rfl, hST⟩ := hB2
  have e1 : (a.toList == b.toList) = false := by rw [str_eq]; simpa using hST
  obtain ⟨h0, hi2, ha32, hp32, ws, r, hs1, hr1, hg1, hf1⟩ := verE_steps HV1.out hm0 hmn
  obtain ⟨-, -, hb32, hq32, ws', r', hs2, hr2, hg2, hf2⟩ := verE_steps HV2.out hm0 hmn
  rw [Int.toNat_natCast, Int.toNat_natCast] at hs1 hs2
  have hm1 : 1 ≤ m := by omega
  have hcol := sides_binding hm1 ha32 hb32 hp32 hq32 hs1 hs2 hg1 hg2 (hf1.trans hf2.symm) hST
  rw [← zS_foot, ← zS_foot] at hcol
  have hw1 := sides_walk n m a AP P np cp ws r true hm1 HNP.out hcp hcpm (by omega) (by omega) ha32 hp32 hs1 (by rw [or_nt]; exact hr1) w5 (HST.out.l _ mP) HST.out.k
  have hwl1 := stepsT_length ws (zS a ws r true)
  have hwl2 := stepsT_length ws' (zS b ws' r' true)
  have hwm1 := se_len2 _ _ _ _ _ hm1 hs1
  have hwm2 := se_len2 _ _ _ _ _ hm1 hs2
  rw [HNP.out] at hwm1
  rw [HNQ.out] at hwm2
  obtain ⟨u1, u2⟩ := se_size _ _ _ _ _ hm1 hp32 hs1
  obtain ⟨u3, u4⟩ := se_size _ _ _ _ _ hm1 hq32 hs2
  have hsz1 := stepsT_size ws _ (zS_size (ws := ws) (whole := true) ha32 u2) u1
  have hsz2 := stepsT_size ws' _ (zS_size (ws := ws') (whole := true) hb32 u4) u3
  have HW2 := Lib.hid (fun W hA hK => sides_walk n m b AQ Q nq cq ws' r' true hm1 HNQ.out hcq hcqm (by omega) (by omega) hb32 hq32 hs2 (by rw [or_nt]; exact hr2) W hA hK)
  obtain ⟨X, hX⟩ : ∃ X, stepsT ws (zS a ws r true) = X := ⟨_, rfl⟩
  obtain ⟨Y, hY⟩ : ∃ Y, stepsT ws' (zS b ws' r' true) = Y := ⟨_, rfl⟩
  obtain ⟨vx, hvx⟩ : ∃ vx, ws.foldr joinS (zS a ws r true) = vx := ⟨_, rfl⟩
  obtain ⟨vy, hvy⟩ : ∃ vy, ws'.foldr joinS (zS b ws' r' true) = vy := ⟨_, rfl⟩
  rw [hX] at hcol hw1 hwl1 hsz1
  rw [hY] at hcol hwl2 hsz2
  rw [hvx] at hw1
  obtain ⟨nx, hnx⟩ : ∃ nx, X.length = nx := ⟨_, rfl⟩
  obtain ⟨ny, hny⟩ : ∃ ny, Y.length = ny := ⟨_, rfl⟩
  have hnx1 : nx ≤ 1000 := by omega
  have hny1 : ny ≤ 1000 := by omega
  have HNX := Lib.hid hnx
  have HNY := Lib.hid hny
  have HY := Lib.hid (And.intro hY hvy)
  have HW1 := Lib.hid hw1
  have HCOL := Lib.hid hcol
  have HSZ1 := Lib.hid hsz1
  have HSZ2 := Lib.hid hsz2
  clear hST hs1 hs2 hf1 hf2 hcol hw1 hX hY hvx hvy hwl1 hwl2 hwm1 hwm2 hnx hny hp32 hq32 hsz1 hsz2 hi2 u1 u2 u3 u4 ha32 hb32 hr1 hr2 hg1 hg2 hm0 hmn h0
  go_wp2_with fail
  refine HW1.out.mono ?_
  rintro e w6 ⟨⟨AX, cx, rfl, hcx, -, hAX⟩, hb6⟩
  rw [HNX.out] at hcx ⊢
  have HST := Lib.hid ((HST.out.below hb6).add hAX)
  clear hAX hb6
  go_wp2_with fail
  refine (HW2.out w6 (HST.out.l (AQ, Q) (by simp)) HST.out.k).mono ?_
  rw [HY.out.1, HY.out.2]
  rintro e w7 ⟨⟨AY, cy, rfl, hcy, -, hAY⟩, hb7⟩
  rw [HNY.out] at hcy ⊢
  have HST := Lib.hid ((HST.out.below hb7).add hAY)
  clear hAY hb7
  go_wp2_with fail
  refine (collide_walk AX AY X Y nx ny cx cy HNX.out HNY.out (by omega) (by omega) (fun x hx => by rw [HSZ1.out x hx]; decide) (fun x hx => by rw [HSZ2.out x hx]; decide) w7 (HST.out.l (AX, X) (by simp)) (HST.out.l (AY, Y) (by simp)) HST.out.k).mono ?_
  rintro e w8 ⟨rfl, hb8⟩
  rw [HCOL.out]
  have HST := Lib.hid (HST.out.below hb8)
  clear hb8
  go_wp2_with fail
  go_ret
  exact ⟨rfl, HST.out.b⟩

theorem verE_zero {a b root : ByteArray} {m n : Int} {p q : List ByteArray} (h1 : verE a m root n p = true) (h2 : verE b m root n q = true) (h : m = 0 ∨ m = n) : a = b := by
  unfold verE at h1 h2
  split at h1
  · cases h1
  split at h2
  · cases h2
  by_cases h0 : m = 0
  · rw [if_pos h0] at h1 h2
    simp only [Bool.and_eq_true, decide_eq_true_eq] at h1 h2
    rw [h1.2, h2.2]
  · have hn : m = n := by omega
    rw [if_neg h0, if_pos hn] at h1 h2
    simp only [Bool.and_eq_true, decide_eq_true_eq] at h1 h2
    rw [h1.2, h2.2]

theorem extBind_walk (a b root : ByteArray) (m n : Int) (A1 A2 : Option Addr) (p q : List ByteArray) (cap1 cap2 : Nat) (hl1 : p.length ≤ 9223372036854775807) (hl2 : q.length ≤ 9223372036854775807) (hn : n ≤ 9223372036854775807) (w : World) (hA1 : LAt w w.heap.size A1 .string p) (hA2 : LAt w w.heap.size A2 .string q) (hK : KAt w) :
    Calls Tryd.prog 8 #[.string a, .slice A1 p.length cap1, .string b, .slice A2 q.length cap2, .int .i64 m, .string root, .int .i64 n] w fun e w' => e = .returned (.bool true) ∧ Below w.heap.size w w' := by
  by_cases hB : verE a m root n (fewS p 70) = true ∧ verE b m root n (fewS q 70) = true ∧ a ≠ b
  · by_cases hz : m = 0 ∨ m = n
    · exact (hB.2.2 (verE_zero hB.1 hB.2.1 hz)).elim
    · obtain ⟨h0, h1, -⟩ := verE_steps hB.1 (fun h => hz (.inl h)) (fun h => hz (.inr h))
      obtain ⟨n, rfl⟩ : ∃ k : Nat, n = k := ⟨n.toNat, by omega⟩
      obtain ⟨m, rfl⟩ : ∃ k : Nat, m = k := ⟨m.toNat, by omega⟩
      exact extBind_yes a b root m n A1 A2 p q cap1 cap2 hl1 hl2 hn w hA1 hA2 hK (fun h => hz (.inl h)) (fun h => hz (.inr h)) hB
  · exact extBind_no a b root m n A1 A2 p q cap1 cap2 hl1 hl2 hn w hA1 hA2 hK hB

end Go.Proofs.YtjelniemoambaaaDoor
