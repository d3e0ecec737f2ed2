/-
  The law DigestProofAccepted: its walk. Condition: the table's variable holds the table.
-/
import Derived.Test.YtjelniemoambaaaDoorLawExt2
import Derived.Test.YtjelniemoambaaaDoorProofP
import Derived.Test.YtjelniemoambaaaDoorLawB
namespace Go.Proofs.YtjelniemoambaaaDoor
open Go Go.RowKit Go.Shelf

theorem LawSt.proof {w W : World} {ls : List (Option Addr × List ByteArray)} (h : LawSt w ls W) {A : Option Addr} {l : List ByteArray} (hm : (A, l) ∈ ls) (n cap k : Nat) (hn : l.length = n) (hl : n ≤ 1000) (hc : n ≤ cap) (hcm : cap ≤ maxLen) (hk : k < n) (hs : ∀ s ∈ l, s.size ≤ 100000) :
    Calls Tryd.prog 14 #[.slice A n cap, .int .i64 k] W fun e W' => ∃ A7 c7, e = .returned (.tuple #[.slice A7 (proofS l k).length c7, .int .i64 0]) ∧ (proofS l k).length ≤ c7 ∧ (A7 = none → c7 = 0) ∧ LawSt w ((A7, proofS l k) :: ls) W' := by
  subst hn
  refine (proof_yes A l cap k hk hl hc hcm hs W (h.l _ hm) h.k).mono ?_
  rintro e W' ⟨⟨v, rfl, hv⟩, hb⟩
  obtain ⟨A7, c7, rfl, hc7, -, hcn⟩ := hv.slice0
  exact ⟨A7, c7, rfl, hc7, hcn, (h.below hb).add hv.lat⟩
theorem verB_out (root s : ByteArray) (n i : Int) (p : List ByteArray) (h : i < 0 ∨ n ≤ i) : verB root n i s p = false := by
  unfold verB
  rw [if_pos (by rcases h with h | h; (· exact .inl h); (· exact .inr (.inl h)))]

set_option maxRecDepth 100000 in
set_option maxHeartbeats 8000000 in
theorem proofAcc_walk (A : Option Addr) (l : List ByteArray) (cap : Nat) (m : Int) (hl : l.length ≤ 9223372036854775807) (w : World) (hA : LAt w w.heap.size A .string l) (hK : KAt w) :
    Calls Tryd.prog 5 #[.slice A l.length cap, .int .i64 m] w fun e w' => e = .returned (.bool true) ∧ Below w.heap.size w w' := by
  have HA := Lib.hid hA
  have HK := Lib.hid hK
  clear hA hK
  go_enter Tryd.func5, Tryd.ntmps5
  go_wp2_with fail
  refine (sane_walk w HK.out).mono ?_
  rintro e w1 ⟨rfl, hb1⟩
  go_wp2_with fail
  refine (few_walk A l cap 40 (by decide) hl w1 ((HA.out.below hb1).more hb1.size)).mono ?_
  rintro e w2 ⟨⟨v0, rfl, h0⟩, hb2⟩
  have hLn := fewS_length l 40
  have hLs := fewS_size l 40
  obtain ⟨L, hL⟩ : ∃ L, fewS l 40 = L := ⟨_, rfl⟩
  rw [hL] at h0 hLn hLs
  obtain ⟨A0, c0, rfl, hc0, hc0m, -⟩ := h0.slice0
  have HLS := Lib.hid (show ∀ s ∈ L, s.size ≤ 100000 from fun s hs => by have := hLs s hs; omega)
  have hst : LawSt w [(A0, L)] w2 := ⟨fun x hx => by rw [List.mem_singleton.1 hx]; exact h0.lat, (HK.out.below hb1).below hb2, hb1.trans (hb2.mono hb1.size)⟩
  have HST := Lib.hid hst
  clear hL hLs
  obtain ⟨n, hn⟩ : ∃ n, L.length = n := ⟨_, rfl⟩
  rw [hn] at hc0 hLn ⊢
  have HN := Lib.hid hn
  obtain ⟨bn, hbn⟩ : ∃ bn, binN n = bn := ⟨_, rfl⟩
  have HBN := Lib.hid hbn
  have hb5 : bn ≤ 6 := by rw [← hbn]; exact binN_le (by omega)
  have m0 : ((A0, L) : Option Addr × List ByteArray) ∈ [(A0, L)] := by simp
  clear h0 hb1 hb2 hst hn hbn
  go_wp2_with fail
  refine (HST.out.root m0 n c0 HN.out (by omega) HLS.out).mono ?_
  rintro e w3 ⟨rfl, hst3⟩
  have HST := Lib.hid hst3
  obtain ⟨R, hR⟩ : ∃ R, rootS L = R := ⟨_, rfl⟩
  rw [hR]
  have HR := Lib.hid hR
  clear hst3 hR
  go_wp2_with fail
  go_loopw [7] (fun v7 wr => ∃ k : Nat, k ≤ n ∧ v7 = .int .i64 k ∧ LawSt w [(A0, L)] wr) (fun v _ => n - (intOf v).toNat)
  case atStart => exact ⟨0, by omega, rfl, HST.out⟩
  case round =>
    clear HST
    obtain ⟨k, hk, rfl, hst⟩ := hrel
    have HST := Lib.hid hst
    clear hst
    by_cases hkn : k < n
    · have hkL : k < L.length := by rw [HN.out]; exact hkn
      have hX := proof_accepted L k hkL
      have hXl := proofS_binN L k
      rw [HN.out, HBN.out] at hXl
      rw [HN.out, HR.out] at hX
      have hE := HST.out.proof m0 n c0 k HN.out (by omega) hc0 hc0m hkn HLS.out
      obtain ⟨X, hXX⟩ : ∃ X, proofS L k = X := ⟨_, rfl⟩
      rw [hXX] at hX hXl hE
      obtain ⟨np, hnp⟩ : ∃ np, X.length = np := ⟨_, rfl⟩
      rw [hnp] at hXl hE
      obtain ⟨s, hs⟩ : ∃ s, L[k] = s := ⟨_, rfl⟩
      rw [hs] at hX
      have hss : s.size ≤ 100000 := by rw [← hs]; exact HLS.out _ (List.getElem_mem hkL)
      have HS := Lib.hid hs
      have HNP := Lib.hid hnp
      have HX := Lib.hid hX
      have HE := Lib.hid hE
      have d1 : decide ((bn : Int) < (np : Int)) = false := by simp; omega
      have d1' : decide (bn < np) = false := by simp; omega
      have d2 : decide (k < n) = true := by simp [hkn]
      have z1 : (0 : Int) ≤ (k : Int) := by omega
      have z3 : (k : Int) < (n : Int) := by omega
      clear hX hE hnp hXX hs
      go_wp2_with fail
      refine HE.out.mono ?_
      rintro e w4 ⟨A7, c7, rfl, hc7, -, hst4⟩
      have HST := Lib.hid hst4
      clear hst4
      go_wp2_with fail
      refine (binary_walk n (by omega) w4).mono ?_
      rintro e w' ⟨rfl, rfl⟩
      rw [HBN.out]
      obtain ⟨a, rfl, hab, hac⟩ := (HST.out.l (A0, L) (by simp)).get hkL
      rw [HS.out] at hac
      go_wp2_with fail
      refine (HST.out.ver (A := A7) (p := X) (by simp) R s n k np c7 HNP.out (by omega) hc7 hss (by omega)).mono ?_
      rintro e w6 ⟨rfl, hst6⟩
      rw [HX.out]
      have HST := Lib.hid hst6.tail
      clear hst6
      go_wp2_with fail
      exact ⟨⟨k + 1, by omega, by go_num, HST.out⟩, by simp [intOf]; omega⟩
    · have d2 : decide (k < n) = false := by simp; omega
      by_cases hm : m < 0 ∨ (n : Int) ≤ m
      · have hE := proof_no A0 L c0 m (by rw [HN.out]; exact hm) wr
        rw [HN.out] at hE
        have HE := Lib.hid hE
        have HM := Lib.hid hm
        have hnil : LawSt w [(none, []), (A0, L)] wr := HST.out.add LAt.nil
        have HST := Lib.hid hnil
        clear hE hnil
        rcases hm with hm | hm
        · have d3 : decide (0 ≤ m) = false := by simp; omega
          go_wp2_with fail
          refine HE.out.mono ?_
          rintro e w' ⟨rfl, rfl⟩
          go_wp2_with fail
          refine (HST.out.ver (A := none) (p := []) (by simp) R ⟨#[]⟩ n m 0 0 rfl (by decide) (by decide) (by decide) (by omega)).mono ?_
          rintro e w4 ⟨rfl, hst4⟩
          rw [verB_out R _ n m [] HM.out]
          have HST := Lib.hid hst4
          clear hst4
          go_wp2_with fail
          go_ret
          exact ⟨rfl, HST.out.b⟩
        · have d3 : decide (0 ≤ m) = true := by simp; omega
          have d4 : decide (m < (n : Int)) = false := by simp; omega
          go_wp2_with fail
          refine HE.out.mono ?_
          rintro e w' ⟨rfl, rfl⟩
          go_wp2_with fail
          refine (HST.out.ver (A := none) (p := []) (by simp) R ⟨#[]⟩ n m 0 0 rfl (by decide) (by decide) (by decide) (by omega)).mono ?_
          rintro e w4 ⟨rfl, hst4⟩
          rw [verB_out R _ n m [] HM.out]
          have HST := Lib.hid hst4
          clear hst4
          go_wp2_with fail
          go_ret
          exact ⟨rfl, HST.out.b⟩
      · obtain ⟨j, rfl⟩ : ∃ j : Nat, m = j := ⟨m.toNat, by omega⟩
        have hj : j < n := by omega
        have hE := HST.out.proof m0 n c0 j HN.out (by omega) hc0 hc0m hj HLS.out
        obtain ⟨X, hXX⟩ : ∃ X, proofS L j = X := ⟨_, rfl⟩
        rw [hXX] at hE
        obtain ⟨np, hnp⟩ : ∃ np, X.length = np := ⟨_, rfl⟩
        rw [hnp] at hE
        have HE := Lib.hid hE
        have d3 : decide ((0 : Int) ≤ (j : Int)) = true := by simp
        have d4 : decide (j < n) = true := by simp [hj]
        have HXX := Lib.hid hXX
        have HNP := Lib.hid hnp
        clear hE hXX hnp hm
        go_wp2_with fail
        refine HE.out.mono ?_
        rintro e w4 ⟨A7, c7, rfl, hc7, hcn, hst4⟩
        have HST := Lib.hid hst4
        clear hst4
        go_wp2_with fail
        have hjL : j < L.length := by rw [HN.out]; exact hj
        obtain ⟨s, hs⟩ : ∃ s, L[j] = s := ⟨_, rfl⟩
        have hss : s.size ≤ 100000 := by rw [← hs]; exact HLS.out _ (List.getElem_mem hjL)
        obtain ⟨a, ha, hab, hac⟩ := (HST.out.l (A0, L) (by simp)).get hjL
        rw [hs] at hac
        obtain rfl : A0 = some a := ha
        obtain ⟨B, hB⟩ : ∃ B, w4.heap.size = B := ⟨_, rfl⟩
        have hLB := HST.out.fix
        rw [hB] at hLB
        have HSS := Lib.hid (show ∀ W, LawB w B [(A7, X), (some a, L)] W → LawB w B [(A7, X), (some a, L)] W ∧ W.cell? (a.add j) = some (.string s) from fun W h => ⟨h, h.cell (by simp) hjL hs⟩)
        have HL := Lib.hid (show ∀ W, (LawB w B [(A7, X), (some a, L)] W ∧ W.cell? (a.add j) = some (.string s)) → LawB w B [(A7, X), (some a, L)] W from fun W h => h.1)
        have hS0 := HSS.out _ hLB.drew
        have HD := Lib.hid (show ∀ W o, (LawB w B [(A7, X), (some a, L)] (World.drew W) ∧ (World.drew W).cell? (a.add j) = some (.string s)) → (LawB w B [(A7, X), (some a, L)] (World.drew (W.alloc o)) ∧ (World.drew (W.alloc o)).cell? (a.add j) = some (.string s)) from fun W o h => HSS.out (World.drew (W.alloc o)) (LawB.alloc (HL.out _ h) o))
        have HF := Lib.hid (And.intro hs hB)
        have hnpb : np ≤ 900 := by rw [← HNP.out, ← HXX.out]; exact Nat.le_trans (proofS_binN L j) (by rw [HN.out, HBN.out]; omega)
        clear hs hB hLB hab
        have HVO := Lib.hid (show verB R n j s (X ++ [R]) = false by
          have := proof_other L j (by rw [HN.out]; exact hj) R s (X ++ [R]) (by rw [HXX.out, List.length_append]; simp) (fun x hx => by
            rcases List.mem_append.1 hx with h | h
            · rw [← HXX.out] at h; exact proofS_digests L j x h
            · rw [List.mem_singleton.1 h, ← HR.out]; exact rootS_size _)
          rw [HN.out] at this
          exact this)
        refine wp_region_noPanic ?_
        refine wp_region_held_drew (S := fun w' => LawB w B [(A7, X), (some a, L)] w' ∧ w'.cell? (a.add j) = some (.string s)) (by kernel_rfl) hS0 (fun hHeld => ?_)
        refine wpAnyH_take (i := 0) (oi := { dst := some 97, op := Op.move (Operand.tmp 6), type := 9, pos := "law.go:99", after := #[], guard := none }) (v := ?_) rfl (by kernel_rfl) (by kernel_rfl) (by kernel_rfl) (fun _ _ _ h => h) (Or.inl ⟨by rfl, ?_⟩) (by assumption) ?_
        rotate_left
        · intro w hSw; (try dsimp only at hSw); go_simp <;> with_reducible rfl
        try simp only [Act.put, List.setIfInBounds_toArray, List.set_cons_zero, List.set_cons_succ]
        refine wpAnyH_take (i := 1) (oi := { dst := some 98, op := Op.move (Operand.tmp 0), type := 22, pos := "law.go:99", after := #[], guard := none }) (v := ?_) rfl (by kernel_rfl) (by kernel_rfl) (by kernel_rfl) (fun _ _ _ h => h) (Or.inl ⟨by rfl, ?_⟩) (by assumption) ?_
        rotate_left
        · intro w hSw; (try dsimp only at hSw); go_simp <;> with_reducible rfl
        try simp only [Act.put, List.setIfInBounds_toArray, List.set_cons_zero, List.set_cons_succ]
        refine wpAnyH_take (i := 2) (oi := { dst := some 99, op := Op.call { callee := Callee.builtin Builtin.len, args := #[Operand.tmp 98], argTypes := #[22] }, type := 3, pos := "law.go:99", after := #[{ on := 1, ground := Ground.data }], guard := none }) (v := ?_) rfl (by kernel_rfl) (by kernel_rfl) (by kernel_rfl) (fun _ _ _ h => h) (Or.inl ⟨by rfl, ?_⟩) (by assumption) ?_
        rotate_left
        · intro w hSw; (try dsimp only at hSw); go_simp <;> with_reducible rfl
        try simp only [Act.put, List.setIfInBounds_toArray, List.set_cons_zero, List.set_cons_succ]
        refine wpAnyH_take (i := 3) (oi := { dst := some 100, op := Op.move (Operand.tmp 1), type := 3, pos := "law.go:99", after := #[], guard := none }) (v := ?_) rfl (by kernel_rfl) (by kernel_rfl) (by kernel_rfl) (fun _ _ _ h => h) (Or.inl ⟨by rfl, ?_⟩) (by assumption) ?_
        rotate_left
        · intro w hSw; (try dsimp only at hSw); go_simp <;> with_reducible rfl
        try simp only [Act.put, List.setIfInBounds_toArray, List.set_cons_zero, List.set_cons_succ]
        refine wpAnyH_take (i := 4) (oi := { dst := some 101, op := Op.move (Operand.tmp 0), type := 22, pos := "law.go:99", after := #[], guard := none }) (v := ?_) rfl (by kernel_rfl) (by kernel_rfl) (by kernel_rfl) (fun _ _ _ h => h) (Or.inl ⟨by rfl, ?_⟩) (by assumption) ?_
        rotate_left
        · intro w hSw; (try dsimp only at hSw); go_simp <;> with_reducible rfl
        try simp only [Act.put, List.setIfInBounds_toArray, List.set_cons_zero, List.set_cons_succ]
        refine wpAnyH_take (i := 5) (oi := { dst := some 102, op := Op.move (Operand.tmp 1), type := 3, pos := "law.go:99", after := #[], guard := none }) (v := ?_) rfl (by kernel_rfl) (by kernel_rfl) (by kernel_rfl) (fun _ _ _ h => h) (Or.inl ⟨by rfl, ?_⟩) (by assumption) ?_
        rotate_left
        · intro w hSw; (try dsimp only at hSw); go_simp <;> with_reducible rfl
        try simp only [Act.put, List.setIfInBounds_toArray, List.set_cons_zero, List.set_cons_succ]
        refine wpAnyH_take (i := 6) (oi := { dst := some 103, op := Op.indexAddr 22 (Operand.tmp 101) (Operand.tmp 102), type := 0, pos := "law.go:99", after := #[{ on := 4, ground := Ground.data }, { on := 5, ground := Ground.data }], guard := none }) (v := ?_) rfl (by kernel_rfl) (by kernel_rfl) (by kernel_rfl) (fun _ _ _ h => h) (Or.inl ⟨by rfl, ?_⟩) (by assumption) ?_
        rotate_left
        · intro w hSw; (try dsimp only at hSw); go_simp <;> with_reducible rfl
        try simp only [Act.put, List.setIfInBounds_toArray, List.set_cons_zero, List.set_cons_succ]
        refine wpAnyH_take (i := 7) (oi := { dst := some 104, op := Op.load 9 (Operand.tmp 103), type := 9, pos := "law.go:99", after := #[{ on := 6, ground := Ground.data }], guard := none }) (v := ?_) rfl (by kernel_rfl) (by kernel_rfl) (by kernel_rfl) (fun _ _ _ h => h) (Or.inl ⟨by rfl, ?_⟩) (by assumption) ?_
        rotate_left
        · intro w hSw; (try dsimp only at hSw); go_simp <;> with_reducible rfl
        try simp only [Act.put, List.setIfInBounds_toArray, List.set_cons_zero, List.set_cons_succ]
        refine wpAnyH_take (i := 9) (oi := { dst := some 106, op := Op.move (Operand.tmp 10), type := 22, pos := "law.go:99", after := #[], guard := none }) (v := ?_) rfl (by kernel_rfl) (by kernel_rfl) (by kernel_rfl) (fun _ _ _ h => h) (Or.inl ⟨by rfl, ?_⟩) (by assumption) ?_
        rotate_left
        · intro w hSw; (try dsimp only at hSw); go_simp <;> with_reducible rfl
        try simp only [Act.put, List.setIfInBounds_toArray, List.set_cons_zero, List.set_cons_succ]
        refine wpAnyH_take (i := 11) (oi := { dst := some 108, op := Op.move (Operand.tmp 6), type := 9, pos := "law.go:99", after := #[], guard := none }) (v := ?_) rfl (by kernel_rfl) (by kernel_rfl) (by kernel_rfl) (fun _ _ _ h => h) (Or.inl ⟨by rfl, ?_⟩) (by assumption) ?_
        rotate_left
        · intro w hSw; (try dsimp only at hSw); go_simp <;> with_reducible rfl
        try simp only [Act.put, List.setIfInBounds_toArray, List.set_cons_zero, List.set_cons_succ]
        refine wpAnyH_ready (rs := [8, 12]) (by kernel_rfl) (by simp) ?_
        refine AllReadyH.cons (o := { dst := some 105, op := Op.buildSlice 22 0 #[], type := 22, pos := "law.go:99", after := #[], guard := none }) rfl (fun K hK => ?_) ?_
        · go_simp
          refine hK.out _ _ (HD.out _ _ (by assumption)) (fun hHeld => ?_)
          clear hK K
          try simp only [Act.put, List.setIfInBounds_toArray, List.set_cons_zero, List.set_cons_succ]
          refine wpAnyH_ready (rs := [10, 12]) (by kernel_rfl) (by simp) ?_
          refine AllReadyH.cons (o := { dst := some 107, op := Op.call { callee := Callee.builtin Builtin.append, args := #[Operand.tmp 105, Operand.tmp 106], argTypes := #[22, 22] }, type := 22, pos := "law.go:99", after := #[{ on := 8, ground := Ground.data }, { on := 9, ground := Ground.data }], guard := none }) rfl (fun K hK => ?_) ?_
          · refine step_cat (by rfl) (.tmp 105) (.tmp 106) 22 (by rfl) elemStr (fun _ => rfl) (_) ([] : List ByteArray) (by rfl) (OL.drew (OL.lit0 (B := B) (e := 9) (f := Value.string) _ (by have := HF.out.2; simp; omega))) A7 X np c7 HNP.out (by rfl) hcn (((HL.out _ (by assumption)).l (A7, X) (by simp)).cat) (fun x _ u hu => by rw [List.mem_singleton.1 hu]; rfl) (by unfold maxLen; simp; omega) (by simp; omega) (by have := HF.out.2; simp; omega) ?_
            intro v5 w5 h5 hg5 hb5'
            refine hK.out _ _ (HSS.out _ (LawB.step (HL.out _ (by assumption)) hb5')) (fun hHeld => ?_)
            clear hK K
            try simp only [Act.put, List.setIfInBounds_toArray, List.set_cons_zero, List.set_cons_succ]
            refine wpAnyH_ready (rs := [12]) (by kernel_rfl) (by simp) ?_
            refine AllReadyH.cons (o := { dst := some 109, op := Op.buildSlice 22 1 #[(0, Operand.tmp 108)], type := 22, pos := "law.go:99", after := #[{ on := 11, ground := Ground.data }], guard := none }) rfl (fun K hK => ?_) ?_
            · go_simp
              refine hK.out _ _ (HSS.out _ (LawB.alloc (HL.out _ (by assumption)) _)) (fun hHeld => ?_)
              clear hK K
              try simp only [Act.put, List.setIfInBounds_toArray, List.set_cons_zero, List.set_cons_succ]
              refine wpAnyH_ready (rs := [13]) (by kernel_rfl) (by simp) ?_
              refine AllReadyH.cons (o := { dst := some 110, op := Op.call { callee := Callee.builtin Builtin.append, args := #[Operand.tmp 107, Operand.tmp 109], argTypes := #[22, 22] }, type := 22, pos := "law.go:99", after := #[{ on := 10, ground := Ground.data }, { on := 12, ground := Ground.data }, { on := 10, ground := Ground.chain }], guard := none }) rfl (fun K hK => ?_) ?_
              · refine step_app (by rfl) (.tmp 107) (.tmp 109) 22 (by rfl) elemStr _ ([] ++ X) np HNP.out (by rfl) (h5.alloc _) R (_) #[.string R] (by rfl) (World.alloc_heap_new _ _) (by rfl) (by rfl) (by simp [one, Value.oneCell']) (by simp [HNP.out]; unfold maxLen; omega) (by simp [HNP.out]; omega) ((HL.out _ (by assumption)).z) ?_
                intro g6 c6 w6 h6 hg6 hg6' hg6l hb6
                refine hK.out _ _ (HSS.out _ (LawB.step (HL.out _ (by assumption)) hb6)) (fun hHeld => ?_)
                clear hK K
                try simp only [Act.put, List.setIfInBounds_toArray, List.set_cons_zero, List.set_cons_succ]
                refine wpAnyH_ready (rs := [14]) (by kernel_rfl) (by simp) ?_
                refine AllReadyH.cons (o := { dst := some 111, op := Op.call { callee := Callee.value (Operand.func 21), args := #[Operand.tmp 97, Operand.tmp 99, Operand.tmp 100, Operand.tmp 104, Operand.tmp 110], argTypes := #[9, 3, 3, 9, 22] }, type := 4, pos := "law.go:99", after := #[{ on := 0, ground := Ground.data }, { on := 2, ground := Ground.data }, { on := 3, ground := Ground.data }, { on := 7, ground := Ground.data }, { on := 13, ground := Ground.data }, { on := 13, ground := Ground.chain }], guard := none }) rfl (fun K hK => ?_) ?_
                · go_simp
                  go_at_call 21
                  refine (verify_walk R s n j (some ⟨g6, 0, none⟩) (([] ++ X) ++ [R]) (np + 1) c6 (by simp [HNP.out]) (by omega) (h6.len).2.1 hss (by omega) _ h6.lat (HL.out _ (by assumption)).k).mono ?_
                  rintro e w7 ⟨rfl, hb7'⟩
                  have hb7 := hb7'.mono (HL.out _ (by assumption)).z
                  clear hb7'
                  try go_wp2_with fail
                  refine hK.out _ _ (HSS.out _ (LawB.step (HL.out _ (by assumption)) hb7)) (fun hHeld => ?_)
                  clear hK K
                  try simp only [Act.put, List.setIfInBounds_toArray, List.set_cons_zero, List.set_cons_succ]
                  refine wpAnyH_take (i := 15) (oi := { dst := some 13, op := Op.assign (Operand.tmp 111), type := 4, pos := "law.go:99", after := #[{ on := 14, ground := Ground.data }, { on := 14, ground := Ground.chain }, { on := 0, ground := Ground.phase }, { on := 1, ground := Ground.phase }, { on := 2, ground := Ground.phase }, { on := 3, ground := Ground.phase }, { on := 4, ground := Ground.phase }, { on := 5, ground := Ground.phase }, { on := 6, ground := Ground.phase }, { on := 7, ground := Ground.phase }, { on := 8, ground := Ground.phase }, { on := 9, ground := Ground.phase }, { on := 10, ground := Ground.phase }, { on := 11, ground := Ground.phase }, { on := 12, ground := Ground.phase }, { on := 13, ground := Ground.phase }, { on := 14, ground := Ground.phase }], guard := none }) (v := ?_) rfl (by kernel_rfl) (by kernel_rfl) (by kernel_rfl) (fun _ _ _ h => h) (Or.inl ⟨by rfl, ?_⟩) (by assumption) ?_
                  rotate_left
                  · intro w hSw; (try dsimp only at hSw); go_simp <;> with_reducible rfl
                  try simp only [Act.put, List.setIfInBounds_toArray, List.set_cons_zero, List.set_cons_succ]
                  refine wpAnyH_done (by kernel_rfl) ?_ _
                  refine NoPanic.normal ?_
                  have hfin := Lib.hid (HL.out _ (by assumption))
                  clear h5 h6 hg5 hg6 hg6' hg6l hb7
                  rw [HVO.out]
                  go_wp2_with fail
                  by_cases hnp0 : np = 0
                  · subst hnp0
                    go_quiet (fail)
                    go_wp2_with fail
                    go_ret
                    exact ⟨rfl, Below.drewN' (LawB.b hfin.out) nq⟩
                  · obtain ⟨a7, rfl, -, -⟩ := ((LawB.st hfin.out).l (A7, X) (by simp)).get (i := 0) (by rw [HNP.out]; omega)
                    have hS1 := HSS.out _ (LawB.drew hfin.out)
                    have d5 : decide (0 < np) = true := by simp; omega
                    have d5' : decide ((0 : Int) < (np : Int)) = true := by simp; omega
                    have z7 : (1 : Int) ≤ (np : Int) := by omega
                    have z8 : (np : Int) ≤ (c7 : Int) := by omega
                    have z9 : (1 : Int) ≤ (c7 : Int) := by omega
                    have z9' : 1 ≤ c7 := by omega
                    have z7' : 1 ≤ np := by omega
                    obtain ⟨A8, hA8⟩ : ∃ A8, (if c7 = 1 then some a7 else some (a7.add 1)) = A8 := ⟨_, rfl⟩
                    have HA8 := Lib.hid hA8
                    have HV8 := Lib.hid (show ∀ W, LawB w B [(some a7, X), (some a, L)] W → Calls Tryd.prog 21 #[.string R, .int .i64 n, .int .i64 j, .string s, .slice A8 (np - 1) (c7 - 1)] W fun e W' => e = .returned (.bool false) ∧ LawB w B [(some a7, X), (some a, L)] W' from fun W h => by
                      have hx := h.l (some a7, X) (by simp)
                      have hx8 : LAt W W.heap.size A8 .string (X.drop 1) := by
                        by_cases hc1 : c7 = 1
                        · rw [show X.drop 1 = [] from List.drop_eq_nil_of_le (by rw [HNP.out]; omega)]; exact LAt.nil
                        · rw [← HA8.out, if_neg hc1]; exact (hx.more h.z).drop 1
                      refine (verify_walk R s n j A8 (X.drop 1) (np - 1) (c7 - 1) (by rw [List.length_drop, HNP.out]) (by omega) (by omega) hss (by omega) W hx8 h.k).mono ?_
                      rintro e W' ⟨he, hb⟩
                      refine ⟨?_, h.step (hb.mono h.z)⟩
                      rw [he]
                      have := proof_other L j (by rw [HN.out]; exact hj) R s (X.drop 1) (by rw [HXX.out, List.length_drop, HNP.out]; omega) (fun x hx => by rw [← HXX.out] at hx; exact proofS_digests L j x (List.mem_of_mem_drop hx))
                      rw [HN.out] at this
                      rw [this])
                    by_cases hc1 : c7 = 1
                    · subst hc1
                      obtain rfl : np = 1 := by omega
                      rw [if_pos rfl] at hA8
                      subst hA8
                      have HV8 := Lib.hid (show ∀ W, LawB w B [(some a7, X), (some a, L)] W → Calls Tryd.prog 21 #[.string R, .int .i64 n, .int .i64 j, .string s, .slice (some a7) 0 0] W fun e W' => e = .returned (.bool false) ∧ LawB w B [(some a7, X), (some a, L)] W' from HV8.out)
                      go_region_held3 (fun w' => LawB w B [(some a7, X), (some a, L)] w' ∧ w'.cell? (a.add j) = some (.string s)) (first | exact hS1 | exact HSS.out _ (by assumption) | fail)
                        (first | (go_at_call 21; (with_reducible refine (HV8.out _ ?_).mono ?_); (· exact HL.out _ (by assumption)); rintro e W ⟨rfl, hstW⟩) | fail)
                      go_wp2_with fail
                      go_ret
                      exact ⟨rfl, LawB.b (by assumption)⟩
                    · rw [if_neg hc1, show a7.add 1 = ⟨a7.block, a7.off + 1, none⟩ by simp [Addr.add]] at hA8
                      subst hA8
                      have hc1' : ¬ 1 = c7 := fun h => hc1 h.symm
                      go_region_held3 (fun w' => LawB w B [(some a7, X), (some a, L)] w' ∧ w'.cell? (a.add j) = some (.string s)) (first | exact hS1 | exact HSS.out _ (by assumption) | fail)
                        (first | (go_at_call 21; (with_reducible refine (HV8.out _ ?_).mono ?_); (· exact HL.out _ (by assumption)); rintro e W ⟨rfl, hstW⟩) | fail)
                      go_wp2_with fail
                      go_ret
                      exact ⟨rfl, LawB.b (by assumption)⟩
                exact AllReadyH.nil
              exact AllReadyH.nil
            exact AllReadyH.nil
          refine AllReadyH.cons (o := { dst := some 109, op := Op.buildSlice 22 1 #[(0, Operand.tmp 108)], type := 22, pos := "law.go:99", after := #[{ on := 11, ground := Ground.data }], guard := none }) rfl (fun K hK => ?_) ?_
          · go_simp
            refine hK.out _ _ (HD.out _ _ (by assumption)) (fun hHeld => ?_)
            clear hK K
            try simp only [Act.put, List.setIfInBounds_toArray, List.set_cons_zero, List.set_cons_succ]
            refine wpAnyH_ready (rs := [10]) (by kernel_rfl) (by simp) ?_
            refine AllReadyH.cons (o := { dst := some 107, op := Op.call { callee := Callee.builtin Builtin.append, args := #[Operand.tmp 105, Operand.tmp 106], argTypes := #[22, 22] }, type := 22, pos := "law.go:99", after := #[{ on := 8, ground := Ground.data }, { on := 9, ground := Ground.data }], guard := none }) rfl (fun K hK => ?_) ?_
            · refine step_cat (by rfl) (.tmp 105) (.tmp 106) 22 (by rfl) elemStr (fun _ => rfl) (_) ([] : List ByteArray) (by rfl) (OL.drew (OL.alloc (OL.lit0 (B := B) (e := 9) (f := Value.string) _ (by have := HF.out.2; simp; omega)) _)) A7 X np c7 HNP.out (by rfl) hcn (((HL.out _ (by assumption)).l (A7, X) (by simp)).cat) (fun x _ u hu => by rw [List.mem_singleton.1 hu]; rfl) (by unfold maxLen; simp; omega) (by simp; omega) (by have := HF.out.2; simp; omega) ?_
              intro v5 w5 h5 hg5 hb5'
              refine hK.out _ _ (HSS.out _ (LawB.step (HL.out _ (by assumption)) hb5')) (fun hHeld => ?_)
              clear hK K
              try simp only [Act.put, List.setIfInBounds_toArray, List.set_cons_zero, List.set_cons_succ]
              refine wpAnyH_ready (rs := [13]) (by kernel_rfl) (by simp) ?_
              refine AllReadyH.cons (o := { dst := some 110, op := Op.call { callee := Callee.builtin Builtin.append, args := #[Operand.tmp 107, Operand.tmp 109], argTypes := #[22, 22] }, type := 22, pos := "law.go:99", after := #[{ on := 10, ground := Ground.data }, { on := 12, ground := Ground.data }, { on := 10, ground := Ground.chain }], guard := none }) rfl (fun K hK => ?_) ?_
              · refine step_app (by rfl) (.tmp 107) (.tmp 109) 22 (by rfl) elemStr _ ([] ++ X) np HNP.out (by rfl) (h5) R (w4.heap.size + 1) #[.string R] (by rfl) ((hg5.block _ (by simp) (by simp [Value.ownBlock])).trans (by rw [← show (w4.alloc (.cells #[] 9)).heap.size = w4.heap.size + 1 by simp]; exact World.alloc_heap_new (w4.alloc (.cells #[] 9)) _)) (by rfl) (by rfl) (by simp [one, Value.oneCell']) (by simp [HNP.out]; unfold maxLen; omega) (by simp [HNP.out]; omega) ((HL.out _ (by assumption)).z) ?_
                intro g6 c6 w6 h6 hg6 hg6' hg6l hb6
                refine hK.out _ _ (HSS.out _ (LawB.step (HL.out _ (by assumption)) hb6)) (fun hHeld => ?_)
                clear hK K
                try simp only [Act.put, List.setIfInBounds_toArray, List.set_cons_zero, List.set_cons_succ]
                refine wpAnyH_ready (rs := [14]) (by kernel_rfl) (by simp) ?_
                refine AllReadyH.cons (o := { dst := some 111, op := Op.call { callee := Callee.value (Operand.func 21), args := #[Operand.tmp 97, Operand.tmp 99, Operand.tmp 100, Operand.tmp 104, Operand.tmp 110], argTypes := #[9, 3, 3, 9, 22] }, type := 4, pos := "law.go:99", after := #[{ on := 0, ground := Ground.data }, { on := 2, ground := Ground.data }, { on := 3, ground := Ground.data }, { on := 7, ground := Ground.data }, { on := 13, ground := Ground.data }, { on := 13, ground := Ground.chain }], guard := none }) rfl (fun K hK => ?_) ?_
                · go_simp
                  go_at_call 21
                  refine (verify_walk R s n j (some ⟨g6, 0, none⟩) (([] ++ X) ++ [R]) (np + 1) c6 (by simp [HNP.out]) (by omega) (h6.len).2.1 hss (by omega) _ h6.lat (HL.out _ (by assumption)).k).mono ?_
                  rintro e w7 ⟨rfl, hb7'⟩
                  have hb7 := hb7'.mono (HL.out _ (by assumption)).z
                  clear hb7'
                  try go_wp2_with fail
                  refine hK.out _ _ (HSS.out _ (LawB.step (HL.out _ (by assumption)) hb7)) (fun hHeld => ?_)
                  clear hK K
                  try simp only [Act.put, List.setIfInBounds_toArray, List.set_cons_zero, List.set_cons_succ]
                  refine wpAnyH_take (i := 15) (oi := { dst := some 13, op := Op.assign (Operand.tmp 111), type := 4, pos := "law.go:99", after := #[{ on := 14, ground := Ground.data }, { on := 14, ground := Ground.chain }, { on := 0, ground := Ground.phase }, { on := 1, ground := Ground.phase }, { on := 2, ground := Ground.phase }, { on := 3, ground := Ground.phase }, { on := 4, ground := Ground.phase }, { on := 5, ground := Ground.phase }, { on := 6, ground := Ground.phase }, { on := 7, ground := Ground.phase }, { on := 8, ground := Ground.phase }, { on := 9, ground := Ground.phase }, { on := 10, ground := Ground.phase }, { on := 11, ground := Ground.phase }, { on := 12, ground := Ground.phase }, { on := 13, ground := Ground.phase }, { on := 14, ground := Ground.phase }], guard := none }) (v := ?_) rfl (by kernel_rfl) (by kernel_rfl) (by kernel_rfl) (fun _ _ _ h => h) (Or.inl ⟨by rfl, ?_⟩) (by assumption) ?_
                  rotate_left
                  · intro w hSw; (try dsimp only at hSw); go_simp <;> with_reducible rfl
                  try simp only [Act.put, List.setIfInBounds_toArray, List.set_cons_zero, List.set_cons_succ]
                  refine wpAnyH_done (by kernel_rfl) ?_ _
                  refine NoPanic.normal ?_
                  have hfin := Lib.hid (HL.out _ (by assumption))
                  clear h5 h6 hg5 hg6 hg6' hg6l hb7
                  rw [HVO.out]
                  go_wp2_with fail
                  by_cases hnp0 : np = 0
                  · subst hnp0
                    go_quiet (fail)
                    go_wp2_with fail
                    go_ret
                    exact ⟨rfl, Below.drewN' (LawB.b hfin.out) nq⟩
                  · obtain ⟨a7, rfl, -, -⟩ := ((LawB.st hfin.out).l (A7, X) (by simp)).get (i := 0) (by rw [HNP.out]; omega)
                    have hS1 := HSS.out _ (LawB.drew hfin.out)
                    have d5 : decide (0 < np) = true := by simp; omega
                    have d5' : decide ((0 : Int) < (np : Int)) = true := by simp; omega
                    have z7 : (1 : Int) ≤ (np : Int) := by omega
                    have z8 : (np : Int) ≤ (c7 : Int) := by omega
                    have z9 : (1 : Int) ≤ (c7 : Int) := by omega
                    have z9' : 1 ≤ c7 := by omega
                    have z7' : 1 ≤ np := by omega
                    obtain ⟨A8, hA8⟩ : ∃ A8, (if c7 = 1 then some a7 else some (a7.add 1)) = A8 := ⟨_, rfl⟩
                    have HA8 := Lib.hid hA8
                    have HV8 := Lib.hid (show ∀ W, LawB w B [(some a7, X), (some a, L)] W → Calls Tryd.prog 21 #[.string R, .int .i64 n, .int .i64 j, .string s, .slice A8 (np - 1) (c7 - 1)] W fun e W' => e = .returned (.bool false) ∧ LawB w B [(some a7, X), (some a, L)] W' from fun W h => by
                      have hx := h.l (some a7, X) (by simp)
                      have hx8 : LAt W W.heap.size A8 .string (X.drop 1) := by
                        by_cases hc1 : c7 = 1
                        · rw [show X.drop 1 = [] from List.drop_eq_nil_of_le (by rw [HNP.out]; omega)]; exact LAt.nil
                        · rw [← HA8.out, if_neg hc1]; exact (hx.more h.z).drop 1
                      refine (verify_walk R s n j A8 (X.drop 1) (np - 1) (c7 - 1) (by rw [List.length_drop, HNP.out]) (by omega) (by omega) hss (by omega) W hx8 h.k).mono ?_
                      rintro e W' ⟨he, hb⟩
                      refine ⟨?_, h.step (hb.mono h.z)⟩
                      rw [he]
                      have := proof_other L j (by rw [HN.out]; exact hj) R s (X.drop 1) (by rw [HXX.out, List.length_drop, HNP.out]; omega) (fun x hx => by rw [← HXX.out] at hx; exact proofS_digests L j x (List.mem_of_mem_drop hx))
                      rw [HN.out] at this
                      rw [this])
                    by_cases hc1 : c7 = 1
                    · subst hc1
                      obtain rfl : np = 1 := by omega
                      rw [if_pos rfl] at hA8
                      subst hA8
                      have HV8 := Lib.hid (show ∀ W, LawB w B [(some a7, X), (some a, L)] W → Calls Tryd.prog 21 #[.string R, .int .i64 n, .int .i64 j, .string s, .slice (some a7) 0 0] W fun e W' => e = .returned (.bool false) ∧ LawB w B [(some a7, X), (some a, L)] W' from HV8.out)
                      go_region_held3 (fun w' => LawB w B [(some a7, X), (some a, L)] w' ∧ w'.cell? (a.add j) = some (.string s)) (first | exact hS1 | exact HSS.out _ (by assumption) | fail)
                        (first | (go_at_call 21; (with_reducible refine (HV8.out _ ?_).mono ?_); (· exact HL.out _ (by assumption)); rintro e W ⟨rfl, hstW⟩) | fail)
                      go_wp2_with fail
                      go_ret
                      exact ⟨rfl, LawB.b (by assumption)⟩
                    · rw [if_neg hc1, show a7.add 1 = ⟨a7.block, a7.off + 1, none⟩ by simp [Addr.add]] at hA8
                      subst hA8
                      have hc1' : ¬ 1 = c7 := fun h => hc1 h.symm
                      go_region_held3 (fun w' => LawB w B [(some a7, X), (some a, L)] w' ∧ w'.cell? (a.add j) = some (.string s)) (first | exact hS1 | exact HSS.out _ (by assumption) | fail)
                        (first | (go_at_call 21; (with_reducible refine (HV8.out _ ?_).mono ?_); (· exact HL.out _ (by assumption)); rintro e W ⟨rfl, hstW⟩) | fail)
                      go_wp2_with fail
                      go_ret
                      exact ⟨rfl, LawB.b (by assumption)⟩
                exact AllReadyH.nil
              exact AllReadyH.nil
            exact AllReadyH.nil
          exact AllReadyH.nil
        refine AllReadyH.cons (o := { dst := some 109, op := Op.buildSlice 22 1 #[(0, Operand.tmp 108)], type := 22, pos := "law.go:99", after := #[{ on := 11, ground := Ground.data }], guard := none }) rfl (fun K hK => ?_) ?_
        · go_simp
          refine hK.out _ _ (HD.out _ _ (by assumption)) (fun hHeld => ?_)
          clear hK K
          try simp only [Act.put, List.setIfInBounds_toArray, List.set_cons_zero, List.set_cons_succ]
          refine wpAnyH_ready (rs := [8]) (by kernel_rfl) (by simp) ?_
          refine AllReadyH.cons (o := { dst := some 105, op := Op.buildSlice 22 0 #[], type := 22, pos := "law.go:99", after := #[], guard := none }) rfl (fun K hK => ?_) ?_
          · go_simp
            refine hK.out _ _ (HD.out _ _ (by assumption)) (fun hHeld => ?_)
            clear hK K
            try simp only [Act.put, List.setIfInBounds_toArray, List.set_cons_zero, List.set_cons_succ]
            refine wpAnyH_ready (rs := [10]) (by kernel_rfl) (by simp) ?_
            refine AllReadyH.cons (o := { dst := some 107, op := Op.call { callee := Callee.builtin Builtin.append, args := #[Operand.tmp 105, Operand.tmp 106], argTypes := #[22, 22] }, type := 22, pos := "law.go:99", after := #[{ on := 8, ground := Ground.data }, { on := 9, ground := Ground.data }], guard := none }) rfl (fun K hK => ?_) ?_
            · refine step_cat (by rfl) (.tmp 105) (.tmp 106) 22 (by rfl) elemStr (fun _ => rfl) (.slice (some ⟨w4.heap.size + 1, 0, none⟩) 0 0) ([] : List ByteArray) (by rfl) (by have h := OL.lit0 (B := B) (e := 9) (f := Value.string) (w4.alloc (.cells #[.string R] 9)) (by have := HF.out.2; simp; omega); rw [show (w4.alloc (.cells #[.string R] 9)).heap.size = w4.heap.size + 1 by simp] at h; exact OL.drew h) A7 X np c7 HNP.out (by rfl) hcn (((HL.out _ (by assumption)).l (A7, X) (by simp)).cat) (fun x _ u hu => by rw [List.mem_singleton.1 hu]; rfl) (by unfold maxLen; simp; omega) (by simp; omega) (by have := HF.out.2; simp; omega) ?_
              intro v5 w5 h5 hg5 hb5'
              refine hK.out _ _ (HSS.out _ (LawB.step (HL.out _ (by assumption)) hb5')) (fun hHeld => ?_)
              clear hK K
              try simp only [Act.put, List.setIfInBounds_toArray, List.set_cons_zero, List.set_cons_succ]
              refine wpAnyH_ready (rs := [13]) (by kernel_rfl) (by simp) ?_
              refine AllReadyH.cons (o := { dst := some 110, op := Op.call { callee := Callee.builtin Builtin.append, args := #[Operand.tmp 107, Operand.tmp 109], argTypes := #[22, 22] }, type := 22, pos := "law.go:99", after := #[{ on := 10, ground := Ground.data }, { on := 12, ground := Ground.data }, { on := 10, ground := Ground.chain }], guard := none }) rfl (fun K hK => ?_) ?_
              · refine step_app (by rfl) (.tmp 107) (.tmp 109) 22 (by rfl) elemStr _ ([] ++ X) np HNP.out (by rfl) (h5) R (_) #[.string R] (by rfl) ((hg5.block _ (by simp; omega) (by simp [Value.ownBlock])).trans ((Below.heap_alloc _ _ _ (by simp)).trans (World.alloc_heap_new w4 _))) (by rfl) (by rfl) (by simp [one, Value.oneCell']) (by simp [HNP.out]; unfold maxLen; omega) (by simp [HNP.out]; omega) ((HL.out _ (by assumption)).z) ?_
                intro g6 c6 w6 h6 hg6 hg6' hg6l hb6
                refine hK.out _ _ (HSS.out _ (LawB.step (HL.out _ (by assumption)) hb6)) (fun hHeld => ?_)
                clear hK K
                try simp only [Act.put, List.setIfInBounds_toArray, List.set_cons_zero, List.set_cons_succ]
                refine wpAnyH_ready (rs := [14]) (by kernel_rfl) (by simp) ?_
                refine AllReadyH.cons (o := { dst := some 111, op := Op.call { callee := Callee.value (Operand.func 21), args := #[Operand.tmp 97, Operand.tmp 99, Operand.tmp 100, Operand.tmp 104, Operand.tmp 110], argTypes := #[9, 3, 3, 9, 22] }, type := 4, pos := "law.go:99", after := #[{ on := 0, ground := Ground.data }, { on := 2, ground := Ground.data }, { on := 3, ground := Ground.data }, { on := 7, ground := Ground.data }, { on := 13, ground := Ground.data }, { on := 13, ground := Ground.chain }], guard := none }) rfl (fun K hK => ?_) ?_
                · go_simp
                  go_at_call 21
                  refine (verify_walk R s n j (some ⟨g6, 0, none⟩) (([] ++ X) ++ [R]) (np + 1) c6 (by simp [HNP.out]) (by omega) (h6.len).2.1 hss (by omega) _ h6.lat (HL.out _ (by assumption)).k).mono ?_
                  rintro e w7 ⟨rfl, hb7'⟩
                  have hb7 := hb7'.mono (HL.out _ (by assumption)).z
                  clear hb7'
                  try go_wp2_with fail
                  refine hK.out _ _ (HSS.out _ (LawB.step (HL.out _ (by assumption)) hb7)) (fun hHeld => ?_)
                  clear hK K
                  try simp only [Act.put, List.setIfInBounds_toArray, List.set_cons_zero, List.set_cons_succ]
                  refine wpAnyH_take (i := 15) (oi := { dst := some 13, op := Op.assign (Operand.tmp 111), type := 4, pos := "law.go:99", after := #[{ on := 14, ground := Ground.data }, { on := 14, ground := Ground.chain }, { on := 0, ground := Ground.phase }, { on := 1, ground := Ground.phase }, { on := 2, ground := Ground.phase }, { on := 3, ground := Ground.phase }, { on := 4, ground := Ground.phase }, { on := 5, ground := Ground.phase }, { on := 6, ground := Ground.phase }, { on := 7, ground := Ground.phase }, { on := 8, ground := Ground.phase }, { on := 9, ground := Ground.phase }, { on := 10, ground := Ground.phase }, { on := 11, ground := Ground.phase }, { on := 12, ground := Ground.phase }, { on := 13, ground := Ground.phase }, { on := 14, ground := Ground.phase }], guard := none }) (v := ?_) rfl (by kernel_rfl) (by kernel_rfl) (by kernel_rfl) (fun _ _ _ h => h) (Or.inl ⟨by rfl, ?_⟩) (by assumption) ?_
                  rotate_left
                  · intro w hSw; (try dsimp only at hSw); go_simp <;> with_reducible rfl
                  try simp only [Act.put, List.setIfInBounds_toArray, List.set_cons_zero, List.set_cons_succ]
                  refine wpAnyH_done (by kernel_rfl) ?_ _
                  refine NoPanic.normal ?_
                  have hfin := Lib.hid (HL.out _ (by assumption))
                  clear h5 h6 hg5 hg6 hg6' hg6l hb7
                  rw [HVO.out]
                  go_wp2_with fail
                  by_cases hnp0 : np = 0
                  · subst hnp0
                    go_quiet (fail)
                    go_wp2_with fail
                    go_ret
                    exact ⟨rfl, Below.drewN' (LawB.b hfin.out) nq⟩
                  · obtain ⟨a7, rfl, -, -⟩ := ((LawB.st hfin.out).l (A7, X) (by simp)).get (i := 0) (by rw [HNP.out]; omega)
                    have hS1 := HSS.out _ (LawB.drew hfin.out)
                    have d5 : decide (0 < np) = true := by simp; omega
                    have d5' : decide ((0 : Int) < (np : Int)) = true := by simp; omega
                    have z7 : (1 : Int) ≤ (np : Int) := by omega
                    have z8 : (np : Int) ≤ (c7 : Int) := by omega
                    have z9 : (1 : Int) ≤ (c7 : Int) := by omega
                    have z9' : 1 ≤ c7 := by omega
                    have z7' : 1 ≤ np := by omega
                    obtain ⟨A8, hA8⟩ : ∃ A8, (if c7 = 1 then some a7 else some (a7.add 1)) = A8 := ⟨_, rfl⟩
                    have HA8 := Lib.hid hA8
                    have HV8 := Lib.hid (show ∀ W, LawB w B [(some a7, X), (some a, L)] W → Calls Tryd.prog 21 #[.string R, .int .i64 n, .int .i64 j, .string s, .slice A8 (np - 1) (c7 - 1)] W fun e W' => e = .returned (.bool false) ∧ LawB w B [(some a7, X), (some a, L)] W' from fun W h => by
                      have hx := h.l (some a7, X) (by simp)
                      have hx8 : LAt W W.heap.size A8 .string (X.drop 1) := by
                        by_cases hc1 : c7 = 1
                        · rw [show X.drop 1 = [] from List.drop_eq_nil_of_le (by rw [HNP.out]; omega)]; exact LAt.nil
                        · rw [← HA8.out, if_neg hc1]; exact (hx.more h.z).drop 1
                      refine (verify_walk R s n j A8 (X.drop 1) (np - 1) (c7 - 1) (by rw [List.length_drop, HNP.out]) (by omega) (by omega) hss (by omega) W hx8 h.k).mono ?_
                      rintro e W' ⟨he, hb⟩
                      refine ⟨?_, h.step (hb.mono h.z)⟩
                      rw [he]
                      have := proof_other L j (by rw [HN.out]; exact hj) R s (X.drop 1) (by rw [HXX.out, List.length_drop, HNP.out]; omega) (fun x hx => by rw [← HXX.out] at hx; exact proofS_digests L j x (List.mem_of_mem_drop hx))
                      rw [HN.out] at this
                      rw [this])
                    by_cases hc1 : c7 = 1
                    · subst hc1
                      obtain rfl : np = 1 := by omega
                      rw [if_pos rfl] at hA8
                      subst hA8
                      have HV8 := Lib.hid (show ∀ W, LawB w B [(some a7, X), (some a, L)] W → Calls Tryd.prog 21 #[.string R, .int .i64 n, .int .i64 j, .string s, .slice (some a7) 0 0] W fun e W' => e = .returned (.bool false) ∧ LawB w B [(some a7, X), (some a, L)] W' from HV8.out)
                      go_region_held3 (fun w' => LawB w B [(some a7, X), (some a, L)] w' ∧ w'.cell? (a.add j) = some (.string s)) (first | exact hS1 | exact HSS.out _ (by assumption) | fail)
                        (first | (go_at_call 21; (with_reducible refine (HV8.out _ ?_).mono ?_); (· exact HL.out _ (by assumption)); rintro e W ⟨rfl, hstW⟩) | fail)
                      go_wp2_with fail
                      go_ret
                      exact ⟨rfl, LawB.b (by assumption)⟩
                    · rw [if_neg hc1, show a7.add 1 = ⟨a7.block, a7.off + 1, none⟩ by simp [Addr.add]] at hA8
                      subst hA8
                      have hc1' : ¬ 1 = c7 := fun h => hc1 h.symm
                      go_region_held3 (fun w' => LawB w B [(some a7, X), (some a, L)] w' ∧ w'.cell? (a.add j) = some (.string s)) (first | exact hS1 | exact HSS.out _ (by assumption) | fail)
                        (first | (go_at_call 21; (with_reducible refine (HV8.out _ ?_).mono ?_); (· exact HL.out _ (by assumption)); rintro e W ⟨rfl, hstW⟩) | fail)
                      go_wp2_with fail
                      go_ret
                      exact ⟨rfl, LawB.b (by assumption)⟩
                exact AllReadyH.nil
              exact AllReadyH.nil
            exact AllReadyH.nil
          exact AllReadyH.nil
        exact AllReadyH.nil

end Go.Proofs.YtjelniemoambaaaDoor
