/-
  Contracts of the reference's both, Verify, VerifyExtension; the law DigestVerifyMatchesReference: its walk. Conditions: bounds; the table's variable holds the table.
-/
import Derived.Test.YtjelniemoambaaaDoorRefH
namespace Go.Proofs.YtjelniemoambaaaDoor
open Go Go.RowKit Go.Shelf

set_option maxRecDepth 100000 in
set_option maxHeartbeats 8000000 in
theorem both_walk : ∀ (n i : Nat) (old : ByteArray) (A : Option Addr) (p : List ByteArray) (np cap : Nat) (whole : Bool), p.length = np → np ≤ cap → cap ≤ maxLen → np ≤ 1000 → 1 ≤ i → i ≤ n → n ≤ 9223372036854775807 → old.size ≤ 32 → (∀ x ∈ p, x.size = 32) → ∀ w, LAt w w.heap.size A .string p →
    Calls Tryd.prog 52 #[.string old, .int .i64 i, .int .i64 n, .slice A np cap, .bool whole] w fun e w' => (∃ x y ok, e = .returned (.tuple #[.string x, .string y, .bool ok]) ∧ BothR n i old p whole x y ok) ∧ Below w.heap.size w w' := by
  intro n
  induction n using Nat.strongRecOn with
  | ind n ih =>
    intro i old A p np cap whole hnp hcap hcm hn1 hi1 hin hn ho hp w hA
    rcases Nat.eq_or_lt_of_le hin with he | h2
    · subst he
      exact both_one i old A p np cap whole hnp hn1 ho hp w hA
    · have d0 : ((i : Int) == (n : Int)) = false := by simp; omega
      rcases nil_or_snoc p with rfl | ⟨q, x, rfl⟩
      · obtain rfl : np = 0 := hnp.symm
        have HV := Lib.hid (show BothR n i old [] whole ⟨#[]⟩ ⟨#[]⟩ false from ⟨by decide, by decide, by rw [seS_nil h2]⟩)
        clear hA ih hp
        go_enter Tryd.func52, Tryd.ntmps52
        go_wp2_with fail
        go_ret3
        exact ⟨⟨⟨#[]⟩, ⟨#[]⟩, false, rfl, HV.out⟩, Below.refl _ _⟩
      obtain ⟨m, hm⟩ : ∃ m, q.length = m := ⟨_, rfl⟩
      have hnm : np = m + 1 := by rw [← hnp, List.length_append, hm]; rfl
      have hx := hp x (by simp)
      have hq : ∀ y ∈ q, y.size = 32 := fun y hy => hp y (by simp [hy])
      obtain ⟨a, rfl, hab, hac⟩ := hA.get (i := m) (by rw [List.length_append, hm]; simp)
      rw [show (q ++ [x])[m]'(by rw [List.length_append, hm]; simp) = x by subst hm; simp] at hac
      have hAq : LAt w w.heap.size (some a) .string q := by have := hA.take m; rw [show (q ++ [x]).take m = q by subst hm; simp] at this; exact this
      have hL : ∀ u v ok, i ≤ leftN n → BothR (leftN n) i old q whole u v ok → BothR n i old (q ++ [x]) whole u (nodeS v x) ok := fun u v ok h h' => h'.left hi1 h2 h
      have hR : ∀ u v ok, ¬ i ≤ leftN n → BothR (n - leftN n) (i - leftN n) old q false u v ok → BothR n i old (q ++ [x]) whole (nodeS x u) (nodeS x v) ok := fun u v ok h h' => h'.right hi1 h2 h
      have hle := refleft_walk n (by omega) hn w
      obtain ⟨k0, k1, k2⟩ := leftN_ok (n := n) (by omega)
      obtain ⟨k, hk⟩ : ∃ k, leftN n = k := ⟨_, rfl⟩
      rw [hk] at hle k0 k1 k2 hL hR
      unfold maxLen at hcm
      have w1 : IntKind.i64.wrap ((np : Int) - 1) = (m : Int) := by rw [IntKind.wrap_i64]; omega
      have y1 : (0 : Int) ≤ (m : Int) := by omega
      have y2 : (m : Int) < (np : Int) := by omega
      have y3 : (m : Int) ≤ (np : Int) := by omega
      have y4 : (m : Int) ≤ (cap : Int) := by omega
      have y5 : (np : Int) ≤ (cap : Int) := by omega
      have d1 : decide ((m : Int) < 0) = false := by simp
      have HLE := Lib.hid hle
      by_cases hik : i ≤ k
      · have hih := ih k (by omega) i old (some a) q m cap whole hm (by omega) (by unfold maxLen; omega) (by omega) hi1 hik (by omega) ho hq w hAq
        have HV := Lib.hid (fun u v ok => hL u v ok hik)
        have d3 : decide (i ≤ k) = true := by simp [hik]
        have HIH := Lib.hid hih
        have hxs : x.size ≤ 32 := by omega
        have HCX := Lib.hid (show ∀ W, Below w.heap.size w W → W.cell? (a.add m) = some (.string x) from fun W hb => (hb.cell (p := a.add m) (by rw [addr_add_block]; exact hab)).trans hac)
        clear hih hL hR hle hk hm hnm hnp hp hq hA hAq ih hac hx hik
        go_enter Tryd.func52, Tryd.ntmps52
        go_wp2_with fail
        refine HLE.out.mono ?_
        rintro e w' ⟨rfl, rfl⟩
        go_wp2_with fail
        refine HIH.out.mono ?_
        rintro e w1 ⟨⟨u, v, ok, rfl, hv⟩, hb1⟩
        have hus := hv.1
        have hvs := hv.2.1
        have HVV := Lib.hid hv
        have hc1 := HCX.out w1 hb1
        have HB1 := Lib.hid hb1
        clear hv hb1
        go_wp2_with fail
        refine (refnode_walk v x (by omega) _).mono ?_
        rintro e w2 ⟨rfl, hb2⟩
        have HB2 := Lib.hid (HB1.out.trans (hb2.mono HB1.out.size))
        clear hb2
        go_wp2_with fail
        go_ret3
        exact ⟨⟨u, nodeS v x, ok, rfl, HV.out _ _ _ HVV.out⟩, HB2.out⟩
      · have hih := ih (n - k) (by omega) (i - k) old (some a) q m cap false hm (by omega) (by unfold maxLen; omega) (by omega) (by omega) (by omega) (by omega) ho hq w hAq
        have HV := Lib.hid (fun u v ok => hR u v ok hik)
        obtain ⟨n2, hn2⟩ : ∃ n2, n - k = n2 := ⟨_, rfl⟩
        obtain ⟨i2, hi2⟩ : ∃ i2, i - k = i2 := ⟨_, rfl⟩
        rw [hn2, hi2] at hih HV
        have w2' : (n : Int) - (k : Int) = (n2 : Int) := by omega
        have w3' : (i : Int) - (k : Int) = (i2 : Int) := by omega
        have w2 : IntKind.i64.wrap (n2 : Int) = (n2 : Int) := by rw [IntKind.wrap_i64]; omega
        have w3 : IntKind.i64.wrap (i2 : Int) = (i2 : Int) := by rw [IntKind.wrap_i64]; omega
        have d3 : decide (i ≤ k) = false := by simp; omega
        have HIH := Lib.hid hih
        have hxs : x.size ≤ 32 := by omega
        have HCX := Lib.hid (show ∀ W, Below w.heap.size w W → W.cell? (a.add m) = some (.string x) from fun W hb => (hb.cell (p := a.add m) (by rw [addr_add_block]; exact hab)).trans hac)
        clear hih hL hR hle hk hm hnm hnp hp hq hA hAq ih hac hx hik hn2 hi2
        go_enter Tryd.func52, Tryd.ntmps52
        go_wp2_with fail
        refine HLE.out.mono ?_
        rintro e w' ⟨rfl, rfl⟩
        go_wp2_with fail
        refine HIH.out.mono ?_
        rintro e w1 ⟨⟨u, v, ok, rfl, hv⟩, hb1⟩
        have hus := hv.1
        have hvs := hv.2.1
        have HVV := Lib.hid hv
        have hc1 := HCX.out w1 hb1
        have HB1 := Lib.hid hb1
        clear hv hb1
        go_wp2_with fail
        have CN := Lib.hid (show ∀ (t : ByteArray) W, t.size ≤ 32 → Below w.heap.size w W → Calls Tryd.prog 35 #[.string x, .string t] W fun e W' => e = .returned (.string (nodeS x t)) ∧ Below w.heap.size w W' from fun t W ht hb =>
          (refnode_walk x t (by omega) W).mono fun _ _ ⟨he, hb'⟩ => ⟨he, hb.trans (hb'.mono hb.size)⟩)
        have HS := Lib.hid (show ∀ W, Below w.heap.size w W → Below w.heap.size w W ∧ W.cell? (a.add m) = some (.string x) from fun W hb => ⟨hb, HCX.out W hb⟩)
        have HL := Lib.hid (show ∀ W, (Below w.heap.size w W ∧ W.cell? (a.add m) = some (.string x)) → Below w.heap.size w W from fun W h => h.1)
        have hS0 := HS.out _ HB1.out.drew
        clear hc1
        go_region_held3 (fun w' => Below w.heap.size w w' ∧ w'.cell? (a.add m) = some (.string x)) (first | assumption | exact HS.out _ (by assumption) | fail)
          (first
            | (go_at_call 35; (with_reducible refine (CN.out u _ hus ?_).mono ?_); (· exact HL.out _ (by assumption)); rintro e W ⟨rfl, hbW⟩)
            | (go_at_call 35; (with_reducible refine (CN.out v _ hvs ?_).mono ?_); (· exact HL.out _ (by assumption)); rintro e W ⟨rfl, hbW⟩)
            | fail)
        all_goals
          go_wp2_with fail
          go_ret3
          exact ⟨⟨nodeS x u, nodeS x v, ok, rfl, HV.out _ _ _ HVV.out⟩, HL.out _ (by assumption)⟩

theorem allB_of_false {p : List ByteArray} (h : allB p = true) : ∀ x ∈ p, x.size = 32 := allB_size h
theorem ValR.ver {n i : Nat} {s root : ByteArray} {p : List ByteArray} {v : ByteArray} {ok : Bool} (h : ValR n i s p v ok) (hi : i < n) (hp : ∀ x ∈ p, x.size = 32) : verB root n i s p = (ok && decide (v = root)) := by
  rw [verB_in root n i s p hi hp]
  have h' := h.2
  cases hs : stS n i p with
  | none => rw [hs] at h'; rw [h']; rfl
  | some y =>
    rw [hs] at h'
    obtain ⟨ws, rest⟩ := y
    obtain ⟨h1, h2⟩ := h'
    cases ok
    · have : decide (rest = []) = false := h1.symm
      show (decide (rest = []) && _) = _
      rw [this]; rfl
    · have : decide (rest = []) = true := h1.symm
      show (decide (rest = []) && decide (ws.foldr joinS (leafS s) = root)) = _
      rw [this, h2 rfl]
theorem BothR.ver {n m : Nat} {old root : ByteArray} {p : List ByteArray} {a b : ByteArray} {ok : Bool} (h : BothR n m old p true a b ok) (hm : 1 ≤ m) (hmn : m < n) (hp : allB p = true) (ho : old.size = 32) (hr : root.size = 32) : verE old m root n p = (ok && decide (a = old) && decide (b = root)) := by
  have h0 : verE old m root n p = veR old root (seS n m p) := by
    unfold verE
    rw [if_neg (by
      rintro (h | h | h | h | h)
      · omega
      · omega
      · rw [hp] at h; cases h
      · exact h ho
      · exact h hr), if_neg (by omega), if_neg (by omega), Int.toNat_natCast, Int.toNat_natCast]
  rw [h0]
  have h' := h.2.2
  cases hs : seS n m p with
  | none => rw [hs] at h'; rw [h']; rfl
  | some y =>
    rw [hs] at h'
    obtain ⟨ws, rest⟩ := y
    obtain ⟨h1, h2⟩ := h'
    unfold veR zS at *
    simp only [Bool.not_true, Bool.or_false] at h1 h2
    cases ok
    · by_cases ha : ws.any (·.2) = true
      · simp only [ha, if_true] at h1 ⊢
        match rest, h1 with
        | [], _ => rfl
        | [r], h1 => simp at h1
        | _ :: _ :: _, _ => rfl
      · simp only [Bool.not_eq_true] at ha
        simp only [ha] at h1 ⊢
        have hne : rest ≠ [] := fun e => by rw [e] at h1; simp at h1
        simp [hne]
    · obtain ⟨h3, h4⟩ := h2 rfl
      by_cases ha : ws.any (·.2) = true
      · simp only [ha, if_true] at h1 h3 h4 ⊢
        match rest, h1 with
        | [], h1 => simp at h1
        | [r], _ =>
          rw [h3, h4]; rfl
        | _ :: _ :: _, h1 => simp at h1
      · simp only [Bool.not_eq_true] at ha
        simp only [ha] at h1 h3 h4 ⊢
        have hne : rest = [] := by
          have : decide (rest.length = 0) = true := h1.symm
          exact List.length_eq_zero_iff.1 (of_decide_eq_true this)
        subst hne
        simp only [Bool.false_eq_true, if_false] at h3 h4 ⊢
        rw [h3, h4]; rfl

set_option maxRecDepth 100000 in
set_option maxHeartbeats 4000000 in
theorem refver_walk (root s : ByteArray) (n i : Int) (A : Option Addr) (p : List ByteArray) (np cap : Nat) (hnp : p.length = np) (hn1 : np ≤ 1000) (hcap : np ≤ cap) (hcm : cap ≤ maxLen) (hs : s.size ≤ 100000) (hn : n ≤ 9223372036854775807) (w : World) (hA : LAt w w.heap.size A .string p) :
    Calls Tryd.prog 22 #[.string root, .int .i64 n, .int .i64 i, .string s, .slice A np cap] w fun e w' => e = .returned (.bool (verB root n i s p)) ∧ Below w.heap.size w w' := by
  have hd := digests_walk A p np cap hnp (by omega) w hA
  by_cases hg : i < 0 ∨ n ≤ i ∨ allB p = false
  · have hv : verB root n i s p = false := by unfold verB; rw [if_pos hg]
    rw [hv]
    obtain ⟨b, hb⟩ : ∃ b, allB p = b := ⟨_, rfl⟩
    rw [hb] at hd hg
    have HD := Lib.hid hd
    clear hd hv hA hnp hb
    rcases hg with hg | hg | hg
    · have d1 : decide (i < 0) = true := by simp; omega
      go_enter Tryd.func22, Tryd.ntmps22
      go_wp2_with fail
      refine HD.out.mono ?_
      rintro e w' ⟨rfl, rfl⟩
      go_wp2_with fail
      go_ret
      exact ⟨rfl, Below.refl _ _⟩
    · by_cases h0 : i < 0
      · have d1 : decide (i < 0) = true := by simp; omega
        go_enter Tryd.func22, Tryd.ntmps22
        go_wp2_with fail
        refine HD.out.mono ?_
        rintro e w' ⟨rfl, rfl⟩
        go_wp2_with fail
        go_ret
        exact ⟨rfl, Below.refl _ _⟩
      · have d1 : decide (i < 0) = false := by simp; omega
        have d2 : decide (n ≤ i) = true := by simp; omega
        go_enter Tryd.func22, Tryd.ntmps22
        go_wp2_with fail
        refine HD.out.mono ?_
        rintro e w' ⟨rfl, rfl⟩
        go_wp2_with fail
        go_ret
        exact ⟨rfl, Below.refl _ _⟩
    · subst hg
      by_cases h0 : i < 0
      · have d1 : decide (i < 0) = true := by simp; omega
        go_enter Tryd.func22, Tryd.ntmps22
        go_wp2_with fail
        refine HD.out.mono ?_
        rintro e w' ⟨rfl, rfl⟩
        go_wp2_with fail
        go_ret
        exact ⟨rfl, Below.refl _ _⟩
      · have d1 : decide (i < 0) = false := by simp; omega
        by_cases h1 : n ≤ i
        · have d2 : decide (n ≤ i) = true := by simp; omega
          go_enter Tryd.func22, Tryd.ntmps22
          go_wp2_with fail
          refine HD.out.mono ?_
          rintro e w' ⟨rfl, rfl⟩
          go_wp2_with fail
          go_ret
          exact ⟨rfl, Below.refl _ _⟩
        · have d2 : decide (n ≤ i) = false := by simp; omega
          go_enter Tryd.func22, Tryd.ntmps22
          go_wp2_with fail
          refine HD.out.mono ?_
          rintro e w' ⟨rfl, rfl⟩
          go_wp2_with fail
          go_ret
          exact ⟨rfl, Below.refl _ _⟩
  · have hall : allB p = true := by
      cases h : allB p
      · exact (hg (.inr (.inr h))).elim
      · rfl
    obtain ⟨j, rfl⟩ : ∃ j : Nat, i = j := ⟨i.toNat, by omega⟩
    obtain ⟨m, rfl⟩ : ∃ m : Nat, n = m := ⟨n.toNat, by omega⟩
    have hjm : j < m := by omega
    have hval := value_walk m j s A p np cap hnp hcap hcm hn1 hjm (by omega) hs (allB_size hall) w hA
    have HV := Lib.hid (fun v ok (h : ValR m j s p v ok) => h.ver (root := root) hjm (allB_size hall))
    obtain ⟨R, hR⟩ : ∃ R, verB root m j s p = R := ⟨_, rfl⟩
    rw [hR] at HV ⊢
    rw [hall] at hd
    have HD := Lib.hid hd
    have HVA := Lib.hid hval
    have d1 : decide ((j : Int) < 0) = false := by simp
    have d2 : decide (m ≤ j) = false := by simp; omega
    clear hd hval hall hg hA hnp hR
    go_enter Tryd.func22, Tryd.ntmps22
    go_wp2_with fail
    refine HD.out.mono ?_
    rintro e w' ⟨rfl, rfl⟩
    go_wp2_with fail
    refine HVA.out.mono ?_
    rintro e w1 ⟨⟨v, ok, rfl, hv⟩, hb⟩
    have hfin := HV.out v ok hv
    have hq := str_eq v root
    cases ok
    · have HF := Lib.hid hfin
      clear hfin hq hv
      go_wp2_with fail
      go_ret
      rw [HF.out]
      exact ⟨rfl, hb⟩
    · have HF := Lib.hid hfin
      have HQ := Lib.hid hq
      clear hfin hq hv
      go_wp2_with fail
      go_ret
      refine ⟨?_, hb⟩
      rw [HF.out, Bool.true_and, ← HQ.out]; rfl

set_option maxRecDepth 100000 in
set_option maxHeartbeats 4000000 in
theorem refvext_walk (old root : ByteArray) (m n : Int) (A : Option Addr) (p : List ByteArray) (np cap : Nat) (hnp : p.length = np) (hn1 : np ≤ 1000) (hcap : np ≤ cap) (hcm : cap ≤ maxLen) (hn : n ≤ 9223372036854775807) (w : World) (hA : LAt w w.heap.size A .string p) :
    Calls Tryd.prog 24 #[.string old, .int .i64 m, .string root, .int .i64 n, .slice A np cap] w fun e w' => e = .returned (.bool (verE old m root n p)) ∧ Below w.heap.size w w' := by
  have hd := digests_walk A p np cap hnp (by omega) w hA
  by_cases h1 : m < 0
  · have hv : verE old m root n p = false := by unfold verE; rw [if_pos (.inl h1)]
    rw [hv]
    have d1 : decide (m < 0) = true := by simp; omega
    obtain ⟨b, hb⟩ : ∃ b, allB p = b := ⟨_, rfl⟩
    rw [hb] at hd
    have HD := Lib.hid hd
    clear hd hv hA hnp hb
    go_enter Tryd.func24, Tryd.ntmps24
    go_wp2_with fail
    refine HD.out.mono ?_
    rintro e w' ⟨rfl, rfl⟩
    go_wp2_with fail
    go_ret
    exact ⟨rfl, Below.refl _ _⟩
  · have d1 : decide (m < 0) = false := by simp; omega
    by_cases h2 : n < m
    · have hv : verE old m root n p = false := by unfold verE; rw [if_pos (.inr (.inl h2))]
      rw [hv]
      have d2 : decide (n < m) = true := by simp; omega
      obtain ⟨b, hb⟩ : ∃ b, allB p = b := ⟨_, rfl⟩
      rw [hb] at hd
      have HD := Lib.hid hd
      clear hd hv hA hnp hb
      go_enter Tryd.func24, Tryd.ntmps24
      go_wp2_with fail
      refine HD.out.mono ?_
      rintro e w' ⟨rfl, rfl⟩
      go_wp2_with fail
      go_ret
      exact ⟨rfl, Below.refl _ _⟩
    · have d2 : decide (n < m) = false := by simp; omega
      by_cases h3 : allB p = false
      · have hv : verE old m root n p = false := by unfold verE; rw [if_pos (.inr (.inr (.inl h3)))]
        rw [hv]
        rw [h3] at hd
        have HD := Lib.hid hd
        clear hd hv hA hnp h3
        go_enter Tryd.func24, Tryd.ntmps24
        go_wp2_with fail
        refine HD.out.mono ?_
        rintro e w' ⟨rfl, rfl⟩
        go_wp2_with fail
        go_ret
        exact ⟨rfl, Below.refl _ _⟩
      · have hall : allB p = true := by
          cases h : allB p
          · exact (h3 h).elim
          · rfl
        by_cases h4 : old.size ≠ 32
        · have hv : verE old m root n p = false := by unfold verE; rw [if_pos (.inr (.inr (.inr (.inl h4))))]
          rw [hv]
          have d4 : ((old.size : Int) != 32) = true := by simp; omega
          rw [hall] at hd
          have HD := Lib.hid hd
          clear hd hv hA hnp hall h4
          go_enter Tryd.func24, Tryd.ntmps24
          go_wp2_with fail
          refine HD.out.mono ?_
          rintro e w' ⟨rfl, rfl⟩
          go_wp2_with fail
          go_ret
          exact ⟨rfl, Below.refl _ _⟩
        · have h4' : old.size = 32 := by omega
          have d4 : ((old.size : Int) != 32) = false := by simp; omega
          by_cases h5 : root.size ≠ 32
          · have hv : verE old m root n p = false := by unfold verE; rw [if_pos (.inr (.inr (.inr (.inr h5))))]
            rw [hv]
            have d5 : ((root.size : Int) != 32) = true := by simp; omega
            rw [hall] at hd
            have HD := Lib.hid hd
            clear hd hv hA hnp hall h5
            go_enter Tryd.func24, Tryd.ntmps24
            go_wp2_with fail
            refine HD.out.mono ?_
            rintro e w' ⟨rfl, rfl⟩
            go_wp2_with fail
            go_ret
            exact ⟨rfl, Below.refl _ _⟩
          · have h5' : root.size = 32 := by omega
            have d5 : ((root.size : Int) != 32) = false := by simp; omega
            rw [hall] at hd
            have HD := Lib.hid hd
            have hguard : ¬ (m < 0 ∨ n < m ∨ allB p = false ∨ old.size ≠ 32 ∨ root.size ≠ 32) := by
              rintro (h | h | h | h | h)
              · exact h1 h
              · exact h2 h
              · exact h3 h
              · exact h4 h
              · exact h5 h
            by_cases hm0 : m = 0
            · have hv : verE old m root n p = (decide (p = []) && decide (old = shaS [])) := by unfold verE; rw [if_neg hguard, if_pos hm0]
              rw [hv]
              subst hm0
              have hq := str_eq old (shaS [])
              rcases Nat.eq_zero_or_pos np with h0 | h0
              · subst h0
                have hp : p = [] := List.length_eq_zero_iff.1 hnp
                have HP := Lib.hid hp
                have HQ := Lib.hid hq
                clear hd hv hA hnp hall hguard hp hq h1 h2 h3 h4 h5
                go_enter Tryd.func24, Tryd.ntmps24
                go_wp2_with fail
                refine HD.out.mono ?_
                rintro e w' ⟨rfl, rfl⟩
                go_wp2_with fail
                refine (refsum_walk ⟨#[]⟩ (by decide) w).mono ?_
                rintro e w1 ⟨rfl, hb⟩
                go_wp2_with fail
                go_ret
                refine ⟨?_, hb⟩
                rw [HP.out, decide_eq_true rfl, Bool.true_and, ← HQ.out]; rfl
              · have hp : p ≠ [] := fun e => by rw [e] at hnp; simp at hnp; omega
                have HP := Lib.hid hp
                have d7 : ((np : Int) == 0) = false := by simp; omega
                clear hd hv hA hnp hall hguard hp hq h1 h2 h3 h4 h5
                go_enter Tryd.func24, Tryd.ntmps24
                go_wp2_with fail
                refine HD.out.mono ?_
                rintro e w' ⟨rfl, rfl⟩
                go_wp2_with fail
                go_ret
                rw [decide_eq_false HP.out]
                exact ⟨rfl, Below.refl _ _⟩
            · by_cases hmn : m = n
              · have hv : verE old m root n p = (decide (p = []) && decide (old = root)) := by unfold verE; rw [if_neg hguard, if_neg hm0, if_pos hmn]
                rw [hv]
                subst hmn
                have hq := str_eq old root
                have d6 : (m == 0) = false := by simpa using hm0
                have d8 : (m == m) = true := by simp
                rcases Nat.eq_zero_or_pos np with h0 | h0
                · subst h0
                  have hp : p = [] := List.length_eq_zero_iff.1 hnp
                  have HP := Lib.hid hp
                  have HQ := Lib.hid hq
                  clear hd hv hA hnp hall hguard hp hq h1 h2 h3 h4 h5 hm0
                  go_enter Tryd.func24, Tryd.ntmps24
                  go_wp2_with fail
                  refine HD.out.mono ?_
                  rintro e w' ⟨rfl, rfl⟩
                  go_wp2_with fail
                  go_ret
                  refine ⟨?_, Below.refl _ _⟩
                  rw [HP.out, decide_eq_true rfl, Bool.true_and, ← HQ.out]; rfl
                · have hp : p ≠ [] := fun e => by rw [e] at hnp; simp at hnp; omega
                  have HP := Lib.hid hp
                  have d7 : ((np : Int) == 0) = false := by simp; omega
                  clear hd hv hA hnp hall hguard hp hq h1 h2 h3 h4 h5 hm0
                  go_enter Tryd.func24, Tryd.ntmps24
                  go_wp2_with fail
                  refine HD.out.mono ?_
                  rintro e w' ⟨rfl, rfl⟩
                  go_wp2_with fail
                  go_ret
                  rw [decide_eq_false HP.out]
                  exact ⟨rfl, Below.refl _ _⟩
              · have d6 : (m == 0) = false := by simpa using hm0
                have d8 : (m == n) = false := by simpa using hmn
                obtain ⟨j, rfl⟩ : ∃ j : Nat, m = j := ⟨m.toNat, by omega⟩
                obtain ⟨k, rfl⟩ : ∃ k : Nat, n = k := ⟨n.toNat, by omega⟩
                have hbo := both_walk k j old A p np cap true hnp hcap hcm hn1 (by omega) (by omega) (by omega) (by omega) (allB_size hall) w hA
                have HV := Lib.hid (fun a b ok (h : BothR k j old p true a b ok) => h.ver (root := root) (by omega) (by omega) hall h4' h5')
                obtain ⟨R, hR⟩ : ∃ R, verE old j root k p = R := ⟨_, rfl⟩
                rw [hR] at HV ⊢
                have HB := Lib.hid hbo
                have d2' : decide (k < j) = false := by simp; omega
                clear hd hA hnp hall hguard h1 h2 h3 h4 h5 hm0 hmn hR hbo
                go_enter Tryd.func24, Tryd.ntmps24
                go_wp2_with fail
                refine HD.out.mono ?_
                rintro e w' ⟨rfl, rfl⟩
                go_wp2_with fail
                refine HB.out.mono ?_
                rintro e w1 ⟨⟨a, b, ok, rfl, hv⟩, hb⟩
                have hfin := HV.out a b ok hv
                have HF := Lib.hid hfin
                have hq1 := str_eq a old
                have hq2 := str_eq b root
                obtain ⟨b1, hb1⟩ : ∃ b1, decide (a = old) = b1 := ⟨_, rfl⟩
                obtain ⟨b2, hb2⟩ : ∃ b2, decide (b = root) = b2 := ⟨_, rfl⟩
                rw [hb1] at hq1 HF
                rw [hb2] at hq2 HF
                clear hfin hv hb1 hb2
                cases ok
                · go_wp2_with fail
                  go_ret
                  rw [HF.out]
                  exact ⟨rfl, hb⟩
                · cases b1
                  · go_wp2_with fail
                    go_ret
                    rw [HF.out]
                    exact ⟨rfl, hb⟩
                  · go_wp2_with fail
                    go_ret
                    rw [HF.out]
                    exact ⟨rfl, hb⟩

set_option maxRecDepth 100000 in
set_option maxHeartbeats 4000000 in
theorem verify_law (old root s : ByteArray) (n i : Int) (A : Option Addr) (p : List ByteArray) (cap : Nat) (hl : p.length ≤ 9223372036854775807) (hn : n ≤ 9223372036854775807) (w : World) (hA : LAt w w.heap.size A .string p) (hK : KAt w) :
    Calls Tryd.prog 4 #[.string old, .string root, .int .i64 n, .int .i64 i, .string s, .slice A p.length cap] w fun e w' => e = .returned (.bool true) ∧ Below w.heap.size w w' := by
  have HA := Lib.hid hA
  have HK := Lib.hid hK
  have m3 := cut_min s
  obtain ⟨l3, k3⟩ := cutAt_le s 60
  have hSs := cutS_le 60 s
  obtain ⟨S, hS⟩ : ∃ S, cutS 60 s = S := ⟨_, rfl⟩
  have hS2 : s.extract 0 (cutAt s 60) = S := hS
  rw [hS] at hSs
  obtain ⟨c3, hc3⟩ : ∃ c, cutAt s 60 = c := ⟨_, rfl⟩
  rw [hc3] at m3 l3 k3 hS2
  have y3 : (0 : Int) ≤ (c3 : Int) := by omega
  have y4 : (c3 : Int) ≤ (s.size : Int) := by omega
  clear hS hc3 hA hK
  go_enter Tryd.func4, Tryd.ntmps4
  go_wp2_with fail
  refine (sane_walk w HK.out).mono ?_
  rintro e w1 ⟨rfl, hb1⟩
  go_wp2_with fail
  refine (few_walk A p cap 70 (by decide) hl w1 ((HA.out.below hb1).more hb1.size)).mono ?_
  rintro e w2 ⟨⟨v1, rfl, h1⟩, hb2⟩
  have hPn := fewS_length p 70
  obtain ⟨P, hP⟩ : ∃ P, fewS p 70 = P := ⟨_, rfl⟩
  rw [hP] at h1 hPn
  obtain ⟨AP, cp, rfl, hcp, hcpm, -⟩ := h1.slice0
  obtain ⟨np, hnp⟩ : ∃ np, P.length = np := ⟨_, rfl⟩
  rw [hnp] at hcp hPn ⊢
  have HNP := Lib.hid hnp
  have hst : LawSt w [(AP, P)] w2 := ⟨fun x hx => by rw [List.mem_singleton.1 hx]; exact h1.lat, (HK.out.below hb1).below hb2, hb1.trans (hb2.mono hb1.size)⟩
  have HST := Lib.hid hst
  have V1 := Lib.hid (show ∀ W, LawSt w [(AP, P)] W → Calls Tryd.prog 22 #[.string root, .int .i64 n, .int .i64 i, .string S, .slice AP np cp] W fun e W' => e = .returned (.bool (verB root n i S P)) ∧ LawSt w [(AP, P)] W' from fun W h =>
    (refver_walk root S n i AP P np cp HNP.out (by omega) hcp hcpm (by omega) hn W (h.l (AP, P) (by simp))).mono fun _ _ ⟨he, hb⟩ => ⟨he, h.below hb⟩)
  have V2 := Lib.hid (show ∀ W, LawSt w [(AP, P)] W → Calls Tryd.prog 24 #[.string old, .int .i64 i, .string root, .int .i64 n, .slice AP np cp] W fun e W' => e = .returned (.bool (verE old i root n P)) ∧ LawSt w [(AP, P)] W' from fun W h =>
    (refvext_walk old root i n AP P np cp HNP.out (by omega) hcp hcpm hn W (h.l (AP, P) (by simp))).mono fun _ _ ⟨he, hb⟩ => ⟨he, h.below hb⟩)
  have U1 := Lib.hid (show ∀ W, LawSt w [(AP, P)] W → Calls Tryd.prog 21 #[.string root, .int .i64 n, .int .i64 i, .string S, .slice AP np cp] W fun e W' => e = .returned (.bool (verB root n i S P)) ∧ LawSt w [(AP, P)] W' from fun W h => h.ver (by simp) root S n i np cp HNP.out (by omega) hcp (by omega) hn)
  have U2 := Lib.hid (show ∀ W, LawSt w [(AP, P)] W → Calls Tryd.prog 23 #[.string old, .int .i64 i, .string root, .int .i64 n, .slice AP np cp] W fun e W' => e = .returned (.bool (verE old i root n P)) ∧ LawSt w [(AP, P)] W' from fun W h => h.vext (by simp) old root i n np cp HNP.out (by omega) hcp hn)
  obtain ⟨x1, hx1⟩ : ∃ x1, verB root n i S P = x1 := ⟨_, rfl⟩
  obtain ⟨x2, hx2⟩ : ∃ x2, verE old i root n P = x2 := ⟨_, rfl⟩
  rw [hx1] at V1 U1
  rw [hx2] at V2 U2
  have q1 : (x1 == x1) = true := by simp
  have q2 : (x2 == x2) = true := by simp
  clear hP h1 hb1 hb2 hst hnp hx1 hx2
  go_wp2_with fail
  refine (U1.out _ HST.out).mono ?_
  rintro e w3 ⟨rfl, hst⟩
  replace HST := Lib.hid hst
  clear hst
  go_wp2_with fail
  refine (V1.out _ HST.out).mono ?_
  rintro e w4 ⟨rfl, hst⟩
  replace HST := Lib.hid hst
  clear hst
  go_wp2_with fail
  refine (U2.out _ HST.out).mono ?_
  rintro e w5 ⟨rfl, hst⟩
  replace HST := Lib.hid hst
  clear hst
  go_wp2_with fail
  refine (V2.out _ HST.out).mono ?_
  rintro e w6 ⟨rfl, hst⟩
  replace HST := Lib.hid hst
  clear hst
  go_wp2_with fail
  go_ret
  exact ⟨rfl, HST.out.b⟩

end Go.Proofs.YtjelniemoambaaaDoor
