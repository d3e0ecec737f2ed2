/-
  The law DigestSplit: its walk. Condition: the table's variable holds the table.
-/
import Derived.Test.YtjelniemoambaaaDoorLawA
namespace Go.Proofs.YtjelniemoambaaaDoor
open Go Go.RowKit Go.Shelf

theorem exF_length : ∀ (f : Nat) (l : List ByteArray) (m : Nat) (wh : Bool), (exF f l m wh).length ≤ f + 1 := by
  intro f
  induction f with
  | zero => intro l m wh; cases wh <;> simp [exF]
  | succ f ih =>
    intro l m wh
    rw [exF_succ]
    split
    · cases wh <;> simp
    · split
      · rw [List.length_append]; have := ih (l.take (leftN l.length)) m wh; simp; omega
      · rw [List.length_append]; have := ih (l.drop (leftN l.length)) (m - leftN l.length) false; simp; omega
theorem LawSt.drew {w W : World} {ls : List (Option Addr × List ByteArray)} (h : LawSt w ls W) : LawSt w ls W.drew := h.below (Below.refl _ _).drew

set_option maxRecDepth 100000 in
set_option maxHeartbeats 8000000 in
theorem split_walk (A : Option Addr) (l : List ByteArray) (cap : Nat) (s : ByteArray) (hl : l.length ≤ 9223372036854775807) (w : World) (hA : LAt w w.heap.size A .string l) (hK : KAt w) :
    Calls Tryd.prog 9 #[.slice A l.length cap, .string s] w fun e w' => e = .returned (.bool true) ∧ Below w.heap.size w w' := by
  have HA := Lib.hid hA
  have HK := Lib.hid hK
  clear hA hK
  go_enter Tryd.func9, Tryd.ntmps9
  go_wp2_with fail
  refine (sane_walk w HK.out).mono ?_
  rintro e w1 ⟨rfl, hb1⟩
  go_wp2_with fail
  refine (few_walk A l cap 40 (by decide) hl w1 ((HA.out.below hb1).more hb1.size)).mono ?_
  rintro e w2 ⟨⟨v0, rfl, h0⟩, hb2⟩
  have hLn := fewS_length l 40
  have hLs := fewS_size l 40
  obtain ⟨L, hL⟩ : ∃ L, fewS l 40 = L := ⟨_, rfl⟩
  rw [hL] at h0 hLn hLs
  obtain ⟨A0, c0, rfl, hc0, hc0m, hcn⟩ := h0.slice0
  have HLS := Lib.hid hLs
  clear hL hLs
  obtain ⟨k, hk⟩ : ∃ k, L.length = k := ⟨_, rfl⟩
  rw [hk] at h0 hc0 hLn ⊢
  have HKL := Lib.hid hk
  clear hk
  have m3 : min (s.size : Int) 60 = (cutAt s 60 : Int) := by unfold cutAt; split <;> omega
  obtain ⟨l3, k3⟩ := cutAt_le s 60
  have hTs := cutS_le 60 s
  obtain ⟨T, hT⟩ : ∃ T, cutS 60 s = T := ⟨_, rfl⟩
  have hT2 : s.extract 0 (cutAt s 60) = T := hT
  rw [hT] at hTs
  obtain ⟨c, hc⟩ : ∃ c, cutAt s 60 = c := ⟨_, rfl⟩
  rw [hc] at m3 l3 k3 hT2
  have y3 : (0 : Int) ≤ (c : Int) := by omega
  have y4 : (c : Int) ≤ (s.size : Int) := by omega
  clear hT hc
  have h0w := h0.base (B' := w.heap.size) hb1.size
  have hbs1 := hb1.size
  have hbs2 := hb2.size
  have H0 := Lib.hid h0w
  have HB2 := Lib.hid (hb1.trans (hb2.mono hbs1))
  have HST0 := Lib.hid ((HK.out.below hb1).below hb2)
  have HCN := Lib.hid hcn
  clear h0 h0w hb1 hb2 hcn
  go_wp2_with (first
    | (at_builtin; refine wpList_cat rfl (.tmp 18) (.tmp 19) 22 rfl elemStr (fun _ => rfl) _ ([] : List ByteArray) rfl (World.ownsRow_lit (base := w2.heap.size) (e := 9) (size := 1) w2 #[] 0 (by omega) (by unfold maxLen; omega) rfl) A0 L k c0 HKL.out rfl HCN.out (fun j x hx => by
        rw [flatMap_one, List.getElem?_map] at hx
        obtain ⟨y, hy, rfl⟩ := Option.map_eq_some_iff.1 hx
        obtain ⟨a, ha, hal, hac⟩ := H0.out.lat j y hy
        exact ⟨a, ha, (World.cell?_of_block (a := a.add j) (by rw [addr_add_block]; exact Below.heap_alloc _ _ _ hal)).trans hac⟩) (fun x _ u hu => by rw [List.mem_singleton.1 hu]; rfl) (by unfold maxLen; simp; omega) (by simp; omega) (by simp) ?_; intro v3 w3 h3 hg3 hb3; have hs3 := hb3.size; simp at hs3)
    | (at_builtin; refine wpList_app rfl (.tmp 20) (.tmp 22) 22 rfl elemStr _ ([] ++ L) k HKL.out rfl (h3.alloc _) T w3.heap.size #[.string T] rfl ?hc rfl rfl (by simp [one, Value.oneCell']) (by have := HKL.out; unfold maxLen; simp; omega) (by have := HKL.out; simp; omega) (by simp; omega) ?_; (case hc => exact World.alloc_heap_new _ _); intro g5 c5 w5 h5 hg5 hg5' hg5l hb5))
  have hb25 : Below w2.heap.size w2 w5 := ((((Below.refl _ _).alloc (Nat.le_refl _) _).trans hb3).alloc (by omega) _).trans hb5
  obtain ⟨M, hM⟩ : ∃ M, L ++ [T] = M := ⟨_, rfl⟩
  rw [List.nil_append, hM] at h5
  have hMl : M.length = k + 1 := by rw [← hM, List.length_append, HKL.out]; rfl
  have hMs : ∀ x ∈ M, x.size ≤ 100000 := fun x hx => by
    rw [← hM] at hx
    rcases List.mem_append.1 hx with h | h
    · have := HLS.out x h; omega
    · rw [List.mem_singleton.1 h]; omega
  have hMt : M.take k = L := by rw [← hM, ← HKL.out, List.take_left]
  have hst : LawSt w [(some ⟨g5, 0, none⟩, M), (A0, L)] w5 := by
    have hl5 := h5.lat
    exact (LawSt.add ⟨fun x hx => by rw [List.mem_singleton.1 hx]; exact ((H0.out.lat).below hb25).more hb25.size, HST0.out.below hb25, HB2.out.trans (hb25.mono (by omega))⟩ hl5)
  have hc5 := h5.len.2.1
  have HST := Lib.hid hst
  have HML := Lib.hid hMl
  have HMS := Lib.hid hMs
  have HMT := Lib.hid hMt
  have HM := Lib.hid hM
  have hc5m := h5.len.2.2
  clear hM hMl hMs hMt hst h5 h3 hg3 hg5 hg5' hb3 hb5 hb25 H0 HST0 hg5l
  obtain ⟨R, hR⟩ : ∃ R, rootS M = R := ⟨_, rfl⟩
  have HR := Lib.hid hR
  by_cases hk0 : k = 0
  · have hL0 : L = [] := List.length_eq_zero_iff.1 (by rw [HKL.out]; exact hk0)
    subst hk0
    have hE := (ext_zero (some ⟨g5, 0, none⟩) M c5 w5)
    rw [HML.out] at hE
    have HE := Lib.hid hE
    have HL0 := Lib.hid hL0
    have hnil : LawSt w [(none, []), (some ⟨g5, 0, none⟩, M), (A0, L)] w5 := HST.out.add LAt.nil
    have HST := Lib.hid hnil
    clear hE hnil hL0
    go_wp2_with fail
    refine HE.out.mono ?_
    rintro e w' ⟨rfl, rfl⟩
    go_wp2_with fail
    refine (HST.out.root (A := A0) (l := L) (by simp) 0 c0 HKL.out (by decide) (fun x hx => by have := HLS.out x hx; omega)).mono ?_
    rintro e w6 ⟨rfl, hst6⟩
    have HST := Lib.hid hst6
    clear hst6
    go_wp2_with fail
    refine (HST.out.root (A := some ⟨g5, 0, none⟩) (l := M) (by simp) 1 c5 HML.out (by decide) HMS.out).mono ?_
    rintro e w7 ⟨rfl, hst7⟩
    have HST := Lib.hid hst7
    clear hst7
    go_wp2_with fail
    refine (HST.out.vext (A := none) (p := []) (by simp) (rootS L) R 0 1 0 0 rfl (by decide) (by decide) (by decide)).mono ?_
    rintro e w8 ⟨rfl, hst8⟩
    have HST := Lib.hid hst8
    clear hst8
    rw [show verE (rootS L) 0 R 1 [] = true by rw [HL0.out, ← HR.out]; exact ext_accepted_zero _ 1 (rootS_size _)]
    go_wp2_with fail
    refine (HST.out.root (A := some ⟨g5, 0, none⟩) (l := M) (by simp) 1 c5 HML.out (by decide) HMS.out).mono ?_
    rintro e w9 ⟨rfl, hst9⟩
    have HST := Lib.hid hst9
    clear hst9
    go_wp2_with fail
    refine (HST.out.leaf T (by omega)).mono ?_
    rintro e w10 ⟨rfl, hst10⟩
    have HST := Lib.hid hst10
    clear hst10
    have q0 : (R.toList == (leafS T).toList) = true := by rw [str_eq, ← HR.out, ← HM.out, HL0.out]; simp [rootS_one]
    go_wp2_with fail
    refine (HST.out.root (A := A0) (l := L) (by simp) 0 c0 HKL.out (by decide) (fun x hx => by have := HLS.out x hx; omega)).mono ?_
    rintro e w11 ⟨rfl, hst11⟩
    have HST := Lib.hid hst11
    clear hst11
    go_wp2_with fail
    refine (HST.out.sum ⟨#[]⟩ (by decide)).mono ?_
    rintro e w12 ⟨rfl, hst12⟩
    have HST := Lib.hid hst12
    clear hst12
    have q1 : ((rootS L).toList == (shaS []).toList) = true := by rw [str_eq, HL0.out]; simp [rootS_nil]
    go_wp2_with fail
    go_ret
    exact ⟨rfl, HST.out.b⟩
  · have hE := (ext_yes (some ⟨g5, 0, none⟩) M c5 k (by omega) (by rw [HML.out]; omega) (by rw [HML.out]; omega) (by rw [HML.out]; exact hc5) hc5m HMS.out w5 (HST.out.l (some ⟨g5, 0, none⟩, M) (by simp)) HST.out.k)
    rw [HML.out] at hE
    have HE := Lib.hid hE
    clear hE
    go_wp2_with fail
    refine HE.out.mono ?_
    rintro e w6 ⟨⟨v7, rfl, hx⟩, hb6⟩
    have hXl := exF_length M.length M k true
    have hXd := extS_digests M k true
    have hacc := ext_accepted M k (by omega) (by rw [HML.out]; omega)
    rw [HMT.out, HR.out, HML.out] at hacc
    obtain ⟨X, hX⟩ : ∃ X, extS M k true = X := ⟨_, rfl⟩
    rw [show exF M.length M k true = X from hX, HML.out] at hXl
    rw [hX] at hx hXd hacc
    obtain ⟨A7, c7, rfl, hc7, hc7m, -⟩ := hx.slice0
    obtain ⟨np, hnp⟩ : ∃ np, X.length = np := ⟨_, rfl⟩
    rw [hnp] at hx hXl hc7 ⊢
    obtain ⟨kl, hkl⟩ : ∃ kl, leftN (k + 1) = kl := ⟨_, rfl⟩
    obtain ⟨j0, j1, j2⟩ := leftN_ok (n := k + 1) (by omega)
    rw [hkl] at j0 j1 j2
    have hroot := rootS_two (l := M) (by rw [HML.out]; omega)
    rw [HML.out, hkl, HR.out] at hroot
    have hst : LawSt w [(some ⟨g5, kl, none⟩, M.drop kl), (some ⟨g5, 0, none⟩, M.take kl), (A7, X), (some ⟨g5, 0, none⟩, M), (A0, L)] w6 := by
      have h1 := (HST.out.below hb6).add (hx.lat)
      have h2 := h1.l (some ⟨g5, 0, none⟩, M) (by simp)
      refine (h1.add (h2.take kl)).add ?_
      have h3 := h2.drop kl
      rw [show Option.map (·.add kl) (some (⟨g5, 0, none⟩ : Addr)) = some ⟨g5, kl, none⟩ by simp [Addr.add]; omega] at h3
      exact h3
    obtain ⟨LS, hLS⟩ : ∃ LS, [(some ⟨g5, kl, none⟩, M.drop kl), (some ⟨g5, 0, none⟩, M.take kl), (A7, X), (some ⟨g5, 0, none⟩, M), (A0, L)] = LS := ⟨_, rfl⟩
    have m1 : ((some ⟨g5, kl, none⟩ : Option Addr), M.drop kl) ∈ LS := by rw [← hLS]; simp
    have m2 : ((some ⟨g5, 0, none⟩ : Option Addr), M.take kl) ∈ LS := by rw [← hLS]; simp
    have m4 : (A7, X) ∈ LS := by rw [← hLS]; simp
    have m5 : ((some ⟨g5, 0, none⟩ : Option Addr), M) ∈ LS := by rw [← hLS]; simp
    have m6 : (A0, L) ∈ LS := by rw [← hLS]; simp
    rw [hLS] at hst
    have HST := Lib.hid hst
    have HACC := Lib.hid hacc
    have HNP := Lib.hid hnp
    have HKL2 := Lib.hid hkl
    have HROOT := Lib.hid hroot
    have hd1 : (M.take kl).length = kl := by rw [List.length_take, HML.out]; omega
    have hd2 : (M.drop kl).length = k + 1 - kl := by rw [List.length_drop, HML.out]
    have HD1 := Lib.hid hd1
    have HD2 := Lib.hid hd2
    clear hX hx hXd hacc hnp hkl hroot hst hLS hb6 hd1 hd2 HE hR
    have e0 : ((k : Int) == 0) = false := by simp; omega
    go_wp2_with fail
    refine (HST.out.root m6 k c0 HKL.out (by omega) (fun x hx => by have := HLS.out x hx; omega)).mono ?_
    rintro e w7 ⟨rfl, hst7⟩
    have HST := Lib.hid hst7
    clear hst7
    go_wp2_with fail
    refine (HST.out.root m5 (k + 1) c5 HML.out (by omega) HMS.out).mono ?_
    rintro e w8 ⟨rfl, hst8⟩
    rw [HR.out]
    have HST := Lib.hid hst8
    clear hst8
    go_wp2_with fail
    refine (HST.out.vext m4 (rootS L) R k (k + 1 : Nat) np c7 HNP.out (by omega) hc7 (by omega)).mono ?_
    rintro e w9 ⟨rfl, hst9⟩
    rw [HACC.out]
    have HST := Lib.hid hst9
    clear hst9
    go_wp2_with fail
    refine (lawleft_walk (k + 1) (by omega) (by omega) w9).mono ?_
    rintro e w' ⟨rfl, rfl⟩
    rw [HKL2.out]
    have q0 : ((rootS M).toList == (nodeS (rootS (M.take kl)) (rootS (M.drop kl))).toList) = true := by rw [str_eq, HR.out, ← HROOT.out]; simp
    have z1 : (0 : Int) ≤ (kl : Int) := by omega
    have z2 : (kl : Int) ≤ (k : Int) + 1 := by omega
    have z3 : (kl : Int) ≤ (c5 : Int) := by omega
    have z4 : ¬ c5 = kl := by omega
    have z5 : ¬ kl = c5 := by omega
    have z6 : kl ≤ k + 1 := by omega
    have z7 : (k : Int) + 1 ≤ (c5 : Int) := by omega
    have z8 : (kl : Int) ≤ ((k + 1 : Nat) : Int) := by omega
    have z9 : ((k + 1 : Nat) : Int) ≤ (c5 : Int) := by omega
    have hstw := HST.out
    have C1 := Lib.hid (show ∀ W, LawSt w LS W → Calls Tryd.prog 19 #[.slice (some ⟨g5, 0, none⟩) (k + 1) c5] W fun e W' => e = .returned (.string (rootS M)) ∧ LawSt w LS W' from fun W h => h.root m5 (k + 1) c5 HML.out (by omega) HMS.out)
    have C2 := Lib.hid (show ∀ W, LawSt w LS W → Calls Tryd.prog 19 #[.slice (some ⟨g5, 0, none⟩) kl c5] W fun e W' => e = .returned (.string (rootS (M.take kl))) ∧ LawSt w LS W' from fun W h => h.root m2 kl c5 HD1.out (by omega) (fun s hs => HMS.out s (List.mem_of_mem_take hs)))
    have C3 := Lib.hid (show ∀ W, LawSt w LS W → Calls Tryd.prog 19 #[.slice (some ⟨g5, kl, none⟩) (k + 1 - kl) (c5 - kl)] W fun e W' => e = .returned (.string (rootS (M.drop kl))) ∧ LawSt w LS W' from fun W h => h.root m1 (k + 1 - kl) (c5 - kl) HD2.out (by omega) (fun s hs => HMS.out s (List.mem_of_mem_drop hs)))
    have C4 := Lib.hid (show ∀ W, LawSt w LS W → Calls Tryd.prog 32 #[.string (rootS (M.take kl)), .string (rootS (M.drop kl))] W fun e W' => e = .returned (.string (nodeS (rootS (M.take kl)) (rootS (M.drop kl)))) ∧ LawSt w LS W' from fun W h => h.node _ _ (by rw [rootS_size, rootS_size]; decide))
    go_wp2_with fail
    go_region_held3 (fun w' => LawSt w LS w') (first | assumption | exact LawSt.drew (by assumption))
      (first
        | (go_at_call 19; (with_reducible refine (C1.out _ ?_).mono ?_); (· assumption); rintro e W ⟨rfl, hstW⟩)
        | (go_at_call 19; (with_reducible refine (C2.out _ ?_).mono ?_); (· assumption); rintro e W ⟨rfl, hstW⟩)
        | (go_at_call 19; (with_reducible refine (C3.out _ ?_).mono ?_); (· assumption); rintro e W ⟨rfl, hstW⟩)
        | (go_at_call 32; (with_reducible refine (C4.out _ ?_).mono ?_); (· assumption); rintro e W ⟨rfl, hstW⟩)
        | fail)
    all_goals
      go_wp2_with fail
      go_ret
      exact ⟨rfl, LawSt.b (by assumption)⟩

end Go.Proofs.YtjelniemoambaaaDoor
