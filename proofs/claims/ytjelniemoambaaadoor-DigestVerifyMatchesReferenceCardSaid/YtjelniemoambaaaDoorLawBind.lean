/-
  The law DigestBinding: its walk. Condition: the table's variable holds the table.
-/
import Derived.Test.YtjelniemoambaaaDoorBindA
import Derived.Test.YtjelniemoambaaaDoorColl
namespace Go.Proofs.YtjelniemoambaaaDoor
open Go Go.RowKit Go.Shelf

theorem cut_min (s : ByteArray) : min (s.size : Int) 60 = (cutAt s 60 : Int) := by unfold cutAt; split <;> omega


set_option maxRecDepth 100000 in
set_option maxHeartbeats 8000000 in
theorem bind_no (root s t : ByteArray) (n i : Int) (A1 A2 : Option Addr) (p q : List ByteArray) (cap1 cap2 : Nat) (hl1 : p.length ≤ 9223372036854775807) (hl2 : q.length ≤ 9223372036854775807) (hn : n ≤ 9223372036854775807) (w : World) (hA1 : LAt w w.heap.size A1 .string p) (hA2 : LAt w w.heap.size A2 .string q) (hK : KAt w)
    (hB : ¬ (verB root n i (cutS 60 s) (fewS p 70) = true ∧ verB root n i (cutS 60 t) (fewS q 70) = true ∧ cutS 60 s ≠ cutS 60 t)) :
    Calls Tryd.prog 7 #[.string root, .int .i64 n, .int .i64 i, .string s, .slice A1 p.length cap1, .string t, .slice A2 q.length cap2] w fun e w' => e = .returned (.bool true) ∧ Below w.heap.size w w' := by
  have HA1 := Lib.hid hA1
  have HA2 := Lib.hid hA2
  have HK := Lib.hid hK
  have m3 := cut_min s
  have m4 := cut_min t
  obtain ⟨l3, k3⟩ := cutAt_le s 60
  obtain ⟨l4, k4⟩ := cutAt_le t 60
  have hSs := cutS_le 60 s
  have hTs := cutS_le 60 t
  obtain ⟨S, hS⟩ : ∃ S, cutS 60 s = S := ⟨_, rfl⟩
  obtain ⟨T, hT⟩ : ∃ T, cutS 60 t = T := ⟨_, rfl⟩
  have hS2 : s.extract 0 (cutAt s 60) = S := hS
  have hT2 : t.extract 0 (cutAt t 60) = T := hT
  rw [hS] at hSs
  rw [hT] at hTs
  obtain ⟨c3, hc3⟩ : ∃ c, cutAt s 60 = c := ⟨_, rfl⟩
  obtain ⟨c4, hc4⟩ : ∃ c, cutAt t 60 = c := ⟨_, rfl⟩
  rw [hc3] at m3 l3 k3 hS2
  rw [hc4] at m4 l4 k4 hT2
  have y3 : (0 : Int) ≤ (c3 : Int) := by omega
  have y4 : (c3 : Int) ≤ (s.size : Int) := by omega
  have y5 : (0 : Int) ≤ (c4 : Int) := by omega
  have y6 : (c4 : Int) ≤ (t.size : Int) := by omega
  rw [hS, hT] at hB
  have HB := Lib.hid hB
  clear hS hT hc3 hc4 hB hA1 hA2 hK
  go_enter Tryd.func7, Tryd.ntmps7
  go_wp2_with fail
  refine (sane_walk w HK.out).mono ?_
  rintro e w1 ⟨rfl, hb1⟩
  go_wp2_with fail
  refine (few_walk A1 p cap1 70 (by decide) hl1 w1 ((HA1.out.below hb1).more hb1.size)).mono ?_
  rintro e w2 ⟨⟨v1, rfl, h1⟩, hb2⟩
  have hPn := fewS_length p 70
  obtain ⟨P, hP⟩ : ∃ P, fewS p 70 = P := ⟨_, rfl⟩
  have HP := Lib.hid hP
  rw [hP] at h1 hPn
  obtain ⟨AP, cp, rfl, hcp, hcpm, -⟩ := h1.slice0
  clear hP
  obtain ⟨np, hnp⟩ : ∃ np, P.length = np := ⟨_, rfl⟩
  rw [hnp] at hcp hPn ⊢
  have HNP := Lib.hid hnp
  clear hnp
  have hb12 := hb1.trans (hb2.mono hb1.size)
  go_wp2_with fail
  refine (few_walk A2 q cap2 70 (by decide) hl2 w2 ((HA2.out.below hb12).more hb12.size)).mono ?_
  rintro e w3 ⟨⟨v2, rfl, h2⟩, hb3⟩
  have hQn := fewS_length q 70
  obtain ⟨Q, hQ⟩ : ∃ Q, fewS q 70 = Q := ⟨_, rfl⟩
  have HQ := Lib.hid hQ
  rw [hQ] at h2 hQn
  obtain ⟨AQ, cq, rfl, hcq, hcqm, -⟩ := h2.slice0
  clear hQ
  obtain ⟨nq, hnq⟩ : ∃ nq, Q.length = nq := ⟨_, rfl⟩
  rw [hnq] at hcq hQn ⊢
  have HNQ := Lib.hid hnq
  clear hnq
  have hst : LawSt w [(AQ, Q), (AP, P)] w3 := by
    refine LawSt.add (LawSt.below (W := w2) ⟨fun x hx => ?_, HK.out.below hb12, hb12⟩ hb3) h2.lat
    rw [List.mem_singleton.1 hx]; exact h1.lat
  have HST := Lib.hid hst
  clear h1 h2 hb1 hb2 hb12 hb3 hst
  have hB2 := HB.out
  rw [HP.out, HQ.out] at hB2
  have mP : (AP, P) ∈ [(AQ, Q), (AP, P)] := by simp
  have mQ : (AQ, Q) ∈ [(AQ, Q), (AP, P)] := by simp
  go_wp2_with fail
  refine (HST.out.ver mP root S n i np cp HNP.out (by omega) hcp (by omega) hn).mono ?_
  rintro e w4 ⟨rfl, hst4⟩
  have HST := Lib.hid hst4
  obtain ⟨b1, hb1⟩ : ∃ b1, verB root n i S P = b1 := ⟨_, rfl⟩
  rw [hb1] at hB2 ⊢
  have HV1 := Lib.hid hb1
  clear hst4 hb1
  go_wp2_with fail
  refine (HST.out.ver mQ root T n i nq cq HNQ.out (by omega) hcq (by omega) hn).mono ?_
  rintro e w5 ⟨rfl, hst5⟩
  have HST := Lib.hid hst5
  obtain ⟨b2, hb2⟩ : ∃ b2, verB root n i T Q = b2 := ⟨_, rfl⟩
  rw [hb2] at hB2 ⊢
  have HV2 := Lib.hid hb2
  clear hst5 hb2
  have HB2 := Lib.hid hB2
  clear hB2
  cases b1
  · go_wp2_with fail
    go_ret
    exact ⟨rfl, HST.out.b⟩
  · cases b2
    · go_wp2_with fail
      go_ret
      exact ⟨rfl, HST.out.b⟩
    · have e1 : (S.toList == T.toList) = true := by
        rw [str_eq]
        simpa using HB2.out
      go_wp2_with fail
      go_ret
      exact ⟨rfl, HST.out.b⟩

set_option maxRecDepth 100000 in
set_option maxHeartbeats 8000000 in
theorem bind_yes (root s t : ByteArray) (n i : Nat) (A1 A2 : Option Addr) (p q : List ByteArray) (cap1 cap2 : Nat) (hl1 : p.length ≤ 9223372036854775807) (hl2 : q.length ≤ 9223372036854775807) (hn : (n : Int) ≤ 9223372036854775807) (w : World) (hA1 : LAt w w.heap.size A1 .string p) (hA2 : LAt w w.heap.size A2 .string q) (hK : KAt w)
    (hB : verB root n i (cutS 60 s) (fewS p 70) = true ∧ verB root n i (cutS 60 t) (fewS q 70) = true ∧ cutS 60 s ≠ cutS 60 t) :
    Calls Tryd.prog 7 #[.string root, .int .i64 n, .int .i64 i, .string s, .slice A1 p.length cap1, .string t, .slice A2 q.length cap2] w fun e w' => e = .returned (.bool true) ∧ Below w.heap.size w w' := by
  have HA1 := Lib.hid hA1
  have HA2 := Lib.hid hA2
  have HK := Lib.hid hK
  have m3 := cut_min s
  have m4 := cut_min t
  obtain ⟨l3, k3⟩ := cutAt_le s 60
  obtain ⟨l4, k4⟩ := cutAt_le t 60
  have hSs := cutS_le 60 s
  have hTs := cutS_le 60 t
  obtain ⟨S, hS⟩ : ∃ S, cutS 60 s = S := ⟨_, rfl⟩
  obtain ⟨T, hT⟩ : ∃ T, cutS 60 t = T := ⟨_, rfl⟩
  have hS2 : s.extract 0 (cutAt s 60) = S := hS
  have hT2 : t.extract 0 (cutAt t 60) = T := hT
  rw [hS] at hSs
  rw [hT] at hTs
  obtain ⟨c3, hc3⟩ : ∃ c, cutAt s 60 = c := ⟨_, rfl⟩
  obtain ⟨c4, hc4⟩ : ∃ c, cutAt t 60 = c := ⟨_, rfl⟩
  rw [hc3] at m3 l3 k3 hS2
  rw [hc4] at m4 l4 k4 hT2
  have y3 : (0 : Int) ≤ (c3 : Int) := by omega
  have y4 : (c3 : Int) ≤ (s.size : Int) := by omega
  have y5 : (0 : Int) ≤ (c4 : Int) := by omega
  have y6 : (c4 : Int) ≤ (t.size : Int) := by omega
  rw [hS, hT] at hB
  have HB := Lib.hid hB
  clear hS hT hc3 hc4 hB hA1 hA2 hK
  go_enter Tryd.func7, Tryd.ntmps7
  go_wp2_with fail
  refine (sane_walk w HK.out).mono ?_
  rintro e w1 ⟨rfl, hb1⟩
  go_wp2_with fail
  refine (few_walk A1 p cap1 70 (by decide) hl1 w1 ((HA1.out.below hb1).more hb1.size)).mono ?_
  rintro e w2 ⟨⟨v1, rfl, h1⟩, hb2⟩
  have hPn := fewS_length p 70
  obtain ⟨P, hP⟩ : ∃ P, fewS p 70 = P := ⟨_, rfl⟩
  have HP := Lib.hid hP
  rw [hP] at h1 hPn
  obtain ⟨AP, cp, rfl, hcp, hcpm, -⟩ := h1.slice0
  clear hP
  obtain ⟨np, hnp⟩ : ∃ np, P.length = np := ⟨_, rfl⟩
  rw [hnp] at hcp hPn ⊢
  have HNP := Lib.hid hnp
  clear hnp
  have hb12 := hb1.trans (hb2.mono hb1.size)
  go_wp2_with fail
  refine (few_walk A2 q cap2 70 (by decide) hl2 w2 ((HA2.out.below hb12).more hb12.size)).mono ?_
  rintro e w3 ⟨⟨v2, rfl, h2⟩, hb3⟩
  have hQn := fewS_length q 70
  obtain ⟨Q, hQ⟩ : ∃ Q, fewS q 70 = Q := ⟨_, rfl⟩
  have HQ := Lib.hid hQ
  rw [hQ] at h2 hQn
  obtain ⟨AQ, cq, rfl, hcq, hcqm, -⟩ := h2.slice0
  clear hQ
  obtain ⟨nq, hnq⟩ : ∃ nq, Q.length = nq := ⟨_, rfl⟩
  rw [hnq] at hcq hQn ⊢
  have HNQ := Lib.hid hnq
  clear hnq
  have hst : LawSt w [(AQ, Q), (AP, P)] w3 := by
    refine LawSt.add (LawSt.below (W := w2) ⟨fun x hx => ?_, HK.out.below hb12, hb12⟩ hb3) h2.lat
    rw [List.mem_singleton.1 hx]; exact h1.lat
  have HST := Lib.hid hst
  clear h1 h2 hb1 hb2 hb12 hb3 hst
  have hB2 := HB.out
  rw [HP.out, HQ.out] at hB2
  have mP : (AP, P) ∈ [(AQ, Q), (AP, P)] := by simp
  have mQ : (AQ, Q) ∈ [(AQ, Q), (AP, P)] := by simp
  go_wp2_with fail
  refine (HST.out.ver mP root S n i np cp HNP.out (by omega) hcp (by omega) hn).mono ?_
  rintro e w4 ⟨rfl, hst4⟩
  have HST := Lib.hid hst4
  obtain ⟨b1, hb1⟩ : ∃ b1, verB root n i S P = b1 := ⟨_, rfl⟩
  rw [hb1] at hB2 ⊢
  have HV1 := Lib.hid hb1
  clear hst4 hb1
  go_wp2_with fail
  refine (HST.out.ver mQ root T n i nq cq HNQ.out (by omega) hcq (by omega) hn).mono ?_
  rintro e w5 ⟨rfl, hst5⟩
  have HST := Lib.hid hst5
  obtain ⟨b2, hb2⟩ : ∃ b2, verB root n i T Q = b2 := ⟨_, rfl⟩
  rw [hb2] at hB2 ⊢
  have HV2 := Lib.hid hb2
  clear hst5 hb2
  obtain ⟨rfl, rfl, hST⟩ := hB2
  have e1 : (S.toList == T.toList) = false := by rw [str_eq]; simpa using hST
  obtain ⟨-, hi2, hp32, ws, hs1, hf1⟩ := verB_steps HV1.out
  obtain ⟨-, -, hq32, ws', hs2, hf2⟩ := verB_steps HV2.out
  rw [Int.toNat_natCast, Int.toNat_natCast] at hs1 hs2
  have hin : i < n := by omega
  have hcol := way_binding hin hp32 hq32 hs1 hs2 (hf1.trans hf2.symm) hST
  have hw1 := way_walk n i S AP P np cp ws HNP.out hcp hcpm (by omega) hin (by omega) (by omega) hp32 hs1 w5 (HST.out.l _ mP) HST.out.k
  have hwl1 := wayT_length ws S
  have hwl2 := wayT_length ws' T
  have hwm1 := st_len2 _ _ _ _ _ hs1
  have hwm2 := st_len2 _ _ _ _ _ hs2
  rw [HNP.out] at hwm1
  rw [HNQ.out] at hwm2
  have hsz1 := wayT_size ws S 100000 (by omega) (st_size _ _ _ _ _ hin hp32 hs1)
  have hsz2 := wayT_size ws' T 100000 (by omega) (st_size _ _ _ _ _ hin hq32 hs2)
  have HW2 := Lib.hid (fun W hA hK => way_walk n i T AQ Q nq cq ws' HNQ.out hcq hcqm (by omega) hin (by omega) (by omega) hq32 hs2 W hA hK)
  obtain ⟨X, hX⟩ : ∃ X, wayT ws S = X := ⟨_, rfl⟩
  obtain ⟨Y, hY⟩ : ∃ Y, wayT ws' T = Y := ⟨_, rfl⟩
  obtain ⟨vx, hvx⟩ : ∃ vx, ws.foldr joinS (leafS S) = vx := ⟨_, rfl⟩
  obtain ⟨vy, hvy⟩ : ∃ vy, ws'.foldr joinS (leafS T) = vy := ⟨_, rfl⟩
  rw [hX] at hcol hw1 hwl1 hsz1
  rw [hY] at hcol hwl2 hsz2
  rw [hvx] at hw1
  obtain ⟨nx, hnx⟩ : ∃ nx, X.length = nx := ⟨_, rfl⟩
  obtain ⟨ny, hny⟩ : ∃ ny, Y.length = ny := ⟨_, rfl⟩
  have hnx1 : nx ≤ 1000 := by simp at hwm1; omega
  have hny1 : ny ≤ 1000 := by simp at hwm2; omega
  have HNX := Lib.hid hnx
  have HNY := Lib.hid hny
  have HY := Lib.hid (And.intro hY hvy)
  have HW1 := Lib.hid hw1
  have HCOL := Lib.hid hcol
  have HSZ1 := Lib.hid hsz1
  have HSZ2 := Lib.hid hsz2
  clear hST hs1 hs2 hf1 hf2 hcol hw1 hX hY hvx hvy hwl1 hwl2 hwm1 hwm2 hnx hny hp32 hq32 hsz1 hsz2 hi2
  go_wp2_with fail
  refine HW1.out.mono ?_
  rintro e w6 ⟨⟨AX, cx, rfl, hcx, -, hAX⟩, hb6⟩
  rw [HNX.out] at hcx ⊢
  have HST := Lib.hid ((HST.out.below hb6).add hAX)
  clear hAX hb6
  go_wp2_with fail
  refine (HW2.out w6 (HST.out.l (AQ, Q) (by simp)) HST.out.k).mono ?_
  rw [HY.out.1, HY.out.2]
  rintro e w7 ⟨⟨AY, cy, rfl, hcy, -, hAY⟩, hb7⟩
  rw [HNY.out] at hcy ⊢
  have HST := Lib.hid ((HST.out.below hb7).add hAY)
  clear hAY hb7
  go_wp2_with fail
  refine (collide_walk AX AY X Y nx ny cx cy HNX.out HNY.out (by omega) (by omega) (fun x hx => Nat.le_trans (HSZ1.out x hx) (by decide)) (fun x hx => Nat.le_trans (HSZ2.out x hx) (by decide)) w7 (HST.out.l (AX, X) (by simp)) (HST.out.l (AY, Y) (by simp)) HST.out.k).mono ?_
  rintro e w8 ⟨rfl, hb8⟩
  rw [HCOL.out]
  have HST := Lib.hid (HST.out.below hb8)
  clear hb8
  go_wp2_with fail
  go_ret
  exact ⟨rfl, HST.out.b⟩

theorem bind_walk (root s t : ByteArray) (n i : Int) (A1 A2 : Option Addr) (p q : List ByteArray) (cap1 cap2 : Nat) (hl1 : p.length ≤ 9223372036854775807) (hl2 : q.length ≤ 9223372036854775807) (hn : n ≤ 9223372036854775807) (w : World) (hA1 : LAt w w.heap.size A1 .string p) (hA2 : LAt w w.heap.size A2 .string q) (hK : KAt w) :
    Calls Tryd.prog 7 #[.string root, .int .i64 n, .int .i64 i, .string s, .slice A1 p.length cap1, .string t, .slice A2 q.length cap2] w fun e w' => e = .returned (.bool true) ∧ Below w.heap.size w w' := by
  by_cases hB : verB root n i (cutS 60 s) (fewS p 70) = true ∧ verB root n i (cutS 60 t) (fewS q 70) = true ∧ cutS 60 s ≠ cutS 60 t
  · obtain ⟨h0, h1, -⟩ := verB_steps hB.1
    obtain ⟨n, rfl⟩ : ∃ k : Nat, n = k := ⟨n.toNat, by omega⟩
    obtain ⟨i, rfl⟩ : ∃ k : Nat, i = k := ⟨i.toNat, by omega⟩
    exact bind_yes root s t n i A1 A2 p q cap1 cap2 hl1 hl2 hn w hA1 hA2 hK hB
  · exact bind_no root s t n i A1 A2 p q cap1 cap2 hl1 hl2 hn w hA1 hA2 hK hB

end Go.Proofs.YtjelniemoambaaaDoor
