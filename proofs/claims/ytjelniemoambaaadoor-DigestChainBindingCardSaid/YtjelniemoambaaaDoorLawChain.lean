/-
  The law DigestChainBinding: its walk. Condition: the table's variable holds the table.
-/
import Derived.Test.YtjelniemoambaaaDoorHeads
import Derived.Test.YtjelniemoambaaaDoorColl
namespace Go.Proofs.YtjelniemoambaaaDoor
open Go Go.RowKit Go.Shelf

/-- Block b shows 32 zero bytes. -/
def ZAt (W : World) (b : Nat) : Prop := RAt W b bv (List.replicate 32 (0 : UInt8))
theorem ZAt.new (W : World) : ZAt (W.alloc (.cells zeroC 5)) W.heap.size := zero_new W
theorem ZAt.conv (W : World) (b : Nat) (h : ZAt W b) : (Go.convert 46 9 (.slice (some ⟨b, 0, none⟩) 32 32)).run Tryd.prog W = .ok (.string zero32) W := zero_conv W b h

/-- What the law says at its end, of the texts. -/
theorem chain_found {a b : List ByteArray} (hab : a ≠ b) (hh : hdR a.reverse = hdR b.reverse) :
    collB (txR a.reverse) (txR b.reverse) = true ∨ (a.length < b.length ∧ ∃ x, (txR b.reverse)[a.length]? = some x ∧ shaB x = zero32) ∨ (b.length < a.length ∧ ∃ x, (txR a.reverse)[b.length]? = some x ∧ shaB x = zero32) := by
  cases hc : collB (txR a.reverse) (txR b.reverse)
  · rcases chain_binding a.reverse b.reverse hh hc with h | h | h
    · exact (hab (List.reverse_inj.1 h)).elim
    · simp only [List.length_reverse] at h; exact .inr (.inl h)
    · simp only [List.length_reverse] at h; exact .inr (.inr h)
  · exact .inl rfl
theorem txR_size : ∀ (l : List ByteArray), (∀ x ∈ l, x.size ≤ 60) → ∀ y ∈ txR l, y.size ≤ 100
  | [], _, y, hy => by cases hy
  | r :: l, h, y, hy => by
    rcases List.mem_cons.1 hy with rfl | hy
    · have h1 := hdR_size l
      have h2 := h r (by simp)
      unfold chainT
      rw [ba_mk_size, List.length_cons, List.length_append, ba_length, ba_length]; omega
    · exact txR_size l (fun x hx => h x (by simp [hx])) y hy

set_option maxRecDepth 100000 in
set_option maxHeartbeats 8000000 in
theorem chain_law (A1 A2 : Option Addr) (p q : List ByteArray) (cap1 cap2 : Nat) (hl1 : p.length ≤ 9223372036854775807) (hl2 : q.length ≤ 9223372036854775807) (w : World) (hA1 : LAt w w.heap.size A1 .string p) (hA2 : LAt w w.heap.size A2 .string q) (hK : KAt w) :
    Calls Tryd.prog 11 #[.slice A1 p.length cap1, .slice A2 q.length cap2] w fun e w' => e = .returned (.bool true) ∧ Below w.heap.size w w' := by
  have HA1 := Lib.hid hA1
  have HA2 := Lib.hid hA2
  have HK := Lib.hid hK
  clear hA1 hA2 hK
  go_enter Tryd.func11, Tryd.ntmps11
  go_wp2_with fail
  refine (sane_walk w HK.out).mono ?_
  rintro e w1 ⟨rfl, hb1⟩
  go_wp2_with fail
  refine (few_walk A1 p cap1 20 (by decide) hl1 w1 ((HA1.out.below hb1).more hb1.size)).mono ?_
  rintro e w2 ⟨⟨v1, rfl, h1⟩, hb2⟩
  have hPn := fewS_length p 20
  have hPs := fewS_size p 20
  obtain ⟨P, hP⟩ : ∃ P, fewS p 20 = P := ⟨_, rfl⟩
  rw [hP] at h1 hPn hPs
  obtain ⟨AP, cp, rfl, hcp, hcpm, -⟩ := h1.slice0
  clear hP
  obtain ⟨np, hnp⟩ : ∃ np, P.length = np := ⟨_, rfl⟩
  rw [hnp] at hcp hPn ⊢
  have HNP := Lib.hid hnp
  have HPS := Lib.hid hPs
  clear hnp hPs
  have hb12 := hb1.trans (hb2.mono hb1.size)
  go_wp2_with fail
  refine (few_walk A2 q cap2 20 (by decide) hl2 w2 ((HA2.out.below hb12).more hb12.size)).mono ?_
  rintro e w3 ⟨⟨v2, rfl, h2⟩, hb3⟩
  have hQn := fewS_length q 20
  have hQs := fewS_size q 20
  obtain ⟨Q, hQ⟩ : ∃ Q, fewS q 20 = Q := ⟨_, rfl⟩
  rw [hQ] at h2 hQn hQs
  obtain ⟨AQ, cq, rfl, hcq, hcqm, -⟩ := h2.slice0
  clear hQ
  obtain ⟨nq, hnq⟩ : ∃ nq, Q.length = nq := ⟨_, rfl⟩
  rw [hnq] at hcq hQn ⊢
  have HNQ := Lib.hid hnq
  have HQS := Lib.hid hQs
  clear hnq hQs
  have hst : LawSt w [(AQ, Q), (AP, P)] w3 := by
    refine LawSt.add (LawSt.below (W := w2) ⟨fun x hx => ?_, HK.out.below hb12, hb12⟩ hb3) h2.lat
    rw [List.mem_singleton.1 hx]; exact h1.lat
  have HST := Lib.hid hst
  clear h1 h2 hb1 hb2 hb12 hb3 hst
  have htl1 : (txR P.reverse).length = np := by rw [txR_length, List.length_reverse, HNP.out]
  have htl2 : (txR Q.reverse).length = nq := by rw [txR_length, List.length_reverse, HNQ.out]
  have hts1 := txR_size P.reverse (fun x hx => HPS.out x (List.mem_reverse.1 hx))
  have hts2 := txR_size Q.reverse (fun x hx => HQS.out x (List.mem_reverse.1 hx))
  have hhs1 := hdR_size P.reverse
  have hhs2 := hdR_size Q.reverse
  have hfound := fun hab hh => chain_found (a := P) (b := Q) hab hh
  have HW1 := Lib.hid (fun W hA hK => heads_walk AP P np cp HNP.out (by omega) (fun x hx => Nat.le_trans (HPS.out x hx) (by decide)) W hA hK)
  have HW2 := Lib.hid (fun W hA hK => heads_walk AQ Q nq cq HNQ.out (by omega) (fun x hx => Nat.le_trans (HQS.out x hx) (by decide)) W hA hK)
  unfold WayR at HW1 HW2
  rw [HNP.out, HNQ.out] at hfound
  obtain ⟨X, hX⟩ : ∃ X, txR P.reverse = X := ⟨_, rfl⟩
  obtain ⟨Y, hY⟩ : ∃ Y, txR Q.reverse = Y := ⟨_, rfl⟩
  obtain ⟨h, hh⟩ : ∃ h, hdR P.reverse = h := ⟨_, rfl⟩
  obtain ⟨k, hk⟩ : ∃ k, hdR Q.reverse = k := ⟨_, rfl⟩
  rw [hX, hY, hh, hk] at hfound
  rw [hX] at htl1 hts1
  rw [hY] at htl2 hts2
  rw [hh] at hhs1
  rw [hk] at hhs2
  rw [hX, hh, htl1] at HW1
  rw [hY, hk, htl2] at HW2
  have HF := Lib.hid hfound
  have HTL1 := Lib.hid htl1
  have HTL2 := Lib.hid htl2
  have HTS1 := Lib.hid hts1
  have HTS2 := Lib.hid hts2
  have HSM := Lib.hid (And.intro hh hk)
  have e32 : ((h.size : Int) != 32) = false := by rw [hhs1]; rfl
  clear hfound htl1 htl2 hts1 hts2 hX hY hh hk hhs1 hhs2
  go_wp2_with fail
  refine (HW1.out w3 (HST.out.l (AP, P) (by simp)) HST.out.k).mono ?_
  rintro e w4 ⟨⟨AX, cx, rfl, hcx, -, hAX⟩, hb4⟩
  replace HST := Lib.hid ((HST.out.below hb4).add hAX)
  clear hAX hb4
  go_wp2_with fail
  refine (HW2.out w4 (HST.out.l (AQ, Q) (by simp)) HST.out.k).mono ?_
  rintro e w5 ⟨⟨AY, cy, rfl, hcy, -, hAY⟩, hb5⟩
  replace HST := Lib.hid ((HST.out.below hb5).add hAY)
  clear hAY hb5
  go_wp2_with fail
  refine (same_walk AP AQ P Q np nq cp cq HNP.out HNQ.out (by omega) w5 (HST.out.l (AP, P) (by simp)) (HST.out.l (AQ, Q) (by simp))).mono ?_
  rintro e w6 ⟨rfl, hb6⟩
  replace HST := Lib.hid (HST.out.below hb6)
  clear hb6
  have mX : (AX, X) ∈ [(AY, Y), (AX, X), (AQ, Q), (AP, P)] := by simp
  have mY : (AY, Y) ∈ [(AY, Y), (AX, X), (AQ, Q), (AP, P)] := by simp
  obtain ⟨LS, hLS⟩ : ∃ LS, [(AY, Y), (AX, X), (AQ, Q), (AP, P)] = LS := ⟨_, rfl⟩
  rw [hLS] at HST mX mY
  clear hLS
  by_cases hPQ : P = Q
  · rw [show decide (P = Q) = true by simp [hPQ]]
    have e1 : (h.toList == k.toList) = true := by rw [str_eq, ← HSM.out.1, ← HSM.out.2, hPQ]; simp
    have HPQ := Lib.hid hPQ
    clear hPQ
    go_wp2_with fail
    go_ret
    exact ⟨rfl, HST.out.b⟩
  · rw [show decide (P = Q) = false by simp [hPQ]]
    by_cases hhk : h = k
    · have hF := HF.out hPQ hhk
      have e1 : (h.toList == k.toList) = true := by rw [str_eq, hhk]; simp
      have HFF := Lib.hid hF
      have HPQ := Lib.hid (And.intro hPQ hhk)
      clear hPQ hhk hF
      have C := Lib.hid (show ∀ (u : ByteArray) W, u.size ≤ 100 → LawSt w LS W → Calls Tryd.prog 30 #[.string u] W fun e W' => e = .returned (.string (shaB u)) ∧ LawSt w LS W' ∧ ∀ b, ZAt W b → ZAt W' b from fun u W hu h => (sum_walk u (by omega) W h.k).mono fun _ _ ⟨he, hb⟩ => ⟨he, h.below hb, fun b hr => RAt.below hr hb (RAt.lt hr)⟩)
      have CC := Lib.hid (show ∀ W, LawSt w LS W → Calls Tryd.prog 27 #[.slice AX np cx, .slice AY nq cy] W fun e W' => e = .returned (.bool (collB X Y)) ∧ LawSt w LS W' from fun W h => (collide_walk AX AY X Y np nq cx cy HTL1.out HTL2.out (by omega) (by omega) (fun x hx => Nat.le_trans (HTS1.out x hx) (by decide)) (fun x hx => Nat.le_trans (HTS2.out x hx) (by decide)) W (h.l _ mX) (h.l _ mY) h.k).mono fun _ _ ⟨he, hb⟩ => ⟨he, h.below hb⟩)
      obtain ⟨C0, hC0⟩ : ∃ C0, collB X Y = C0 := ⟨_, rfl⟩
      rw [hC0] at HFF CC
      have HMX := Lib.hid mX
      have HMY := Lib.hid mY
      clear hC0 mX mY HW1 HW2 HSM
      rcases Nat.lt_trichotomy np nq with hlt | heq | hgt
      · have hxy : np < Y.length := by rw [HTL2.out]; exact hlt
        have hxq := List.getElem?_eq_getElem hxy
        obtain ⟨a, rfl, -, hac⟩ := (HST.out.l _ HMY.out).get hxy
        have hxs := HTS2.out _ (List.getElem_mem hxy)
        obtain ⟨x, hx⟩ : ∃ x, Y[np] = x := ⟨_, rfl⟩
        rw [hx] at hxq hac hxs
        have HXQ := Lib.hid hxq
        have HCELL := Lib.hid (show ∀ W, LawSt w LS W → LawSt w LS W ∧ W.cell? (a.add np) = some (.string x) from fun W h => ⟨h, by
          obtain ⟨a', ha', -, hc'⟩ := h.l _ HMY.out np x HXQ.out
          cases ha'; exact hc'⟩)
        have HL := Lib.hid (show ∀ W, (LawSt w LS W ∧ W.cell? (a.add np) = some (.string x)) → LawSt w LS W from fun W h => h.1)
        have hS0 := HCELL.out _ (LawSt.drew HST.out)
        have d1 : decide (np < nq) = true := by simp [hlt]
        have d2 : ((np : Int) != (nq : Int)) = true := by simp; omega
        have d3 : min (np : Int) (nq : Int) = (np : Int) := by omega
        have z1 : (0 : Int) ≤ (np : Int) := by omega
        have z2 : (np : Int) < (nq : Int) := by omega
        obtain ⟨b1, hb1⟩ : ∃ b1, ((shaB x).toList == zero32.toList) = b1 := ⟨_, rfl⟩
        have hres : C0 = true ∨ b1 = true := by
          rcases HFF.out with h | ⟨-, y, hy, hy2⟩ | ⟨h, -⟩
          · exact .inl h
          · rw [HXQ.out] at hy; cases hy
            rw [str_eq, decide_eq_true hy2] at hb1
            exact .inr hb1.symm
          · omega
        have HRES := Lib.hid hres
        have hmk := mk32
        clear hx hac hxq hres hlt
        go_wp2_with fail
        have HD := Lib.hid (show ∀ W o, (LawSt w LS (World.drew W) ∧ (World.drew W).cell? (a.add np) = some (.string x)) → (LawSt w LS (World.drew (W.alloc o)) ∧ (World.drew (W.alloc o)).cell? (a.add np) = some (.string x)) from fun W o h => HCELL.out (World.drew (W.alloc o)) (LawSt.below (HL.out _ h) ((Below.refl _ _).alloc (Nat.le_refl _) o)))
        have HE := Lib.hid (show ∀ W o, (LawSt w LS W ∧ W.cell? (a.add np) = some (.string x)) → (LawSt w LS (W.alloc o) ∧ (W.alloc o).cell? (a.add np) = some (.string x)) from fun W o h => HCELL.out (W.alloc o) (LawSt.below (HL.out _ h) ((Below.refl _ _).alloc (Nat.le_refl _) o)))
        refine wp_region_noPanic ?_
        refine wp_region_held_drew (S := fun w' => LawSt w LS w' ∧ w'.cell? (a.add np) = some (.string x)) (by kernel_rfl) hS0 (fun hHeld => ?_)
        refine wpAnyH_take (i := 0) (oi := { dst := some 61, op := Op.move (Operand.tmp 6), type := 22, pos := "law.go:201", after := #[], guard := none }) (v := ?_) rfl (by kernel_rfl) (by kernel_rfl) (by kernel_rfl) (fun _ _ _ h => h) (Or.inl ⟨by rfl, ?_⟩) (by assumption) ?_
        rotate_left
        · intro w hSw; (try dsimp only at hSw); go_simp <;> with_reducible rfl
        try simp only [Act.put, List.setIfInBounds_toArray, List.set_cons_zero, List.set_cons_succ]
        refine wpAnyH_take (i := 1) (oi := { dst := some 62, op := Op.call { callee := Callee.builtin Builtin.len, args := #[Operand.tmp 61], argTypes := #[22] }, type := 3, pos := "law.go:201", after := #[{ on := 0, ground := Ground.data }], guard := none }) (v := ?_) rfl (by kernel_rfl) (by kernel_rfl) (by kernel_rfl) (fun _ _ _ h => h) (Or.inl ⟨by rfl, ?_⟩) (by assumption) ?_
        rotate_left
        · intro w hSw; (try dsimp only at hSw); go_simp <;> with_reducible rfl
        try simp only [Act.put, List.setIfInBounds_toArray, List.set_cons_zero, List.set_cons_succ]
        refine wpAnyH_take (i := 2) (oi := { dst := some 63, op := Op.move (Operand.tmp 8), type := 22, pos := "law.go:201", after := #[], guard := none }) (v := ?_) rfl (by kernel_rfl) (by kernel_rfl) (by kernel_rfl) (fun _ _ _ h => h) (Or.inl ⟨by rfl, ?_⟩) (by assumption) ?_
        rotate_left
        · intro w hSw; (try dsimp only at hSw); go_simp <;> with_reducible rfl
        try simp only [Act.put, List.setIfInBounds_toArray, List.set_cons_zero, List.set_cons_succ]
        refine wpAnyH_take (i := 3) (oi := { dst := some 64, op := Op.call { callee := Callee.builtin Builtin.len, args := #[Operand.tmp 63], argTypes := #[22] }, type := 3, pos := "law.go:201", after := #[{ on := 2, ground := Ground.data }], guard := none }) (v := ?_) rfl (by kernel_rfl) (by kernel_rfl) (by kernel_rfl) (fun _ _ _ h => h) (Or.inl ⟨by rfl, ?_⟩) (by assumption) ?_
        rotate_left
        · intro w hSw; (try dsimp only at hSw); go_simp <;> with_reducible rfl
        try simp only [Act.put, List.setIfInBounds_toArray, List.set_cons_zero, List.set_cons_succ]
        refine wpAnyH_take (i := 4) (oi := { dst := some 65, op := Op.binOp BinOp.neq 3 (Operand.tmp 62) (Operand.tmp 64) 3, type := 4, pos := "law.go:201", after := #[{ on := 1, ground := Ground.data }, { on := 3, ground := Ground.data }], guard := none }) (v := ?_) rfl (by kernel_rfl) (by kernel_rfl) (by kernel_rfl) (fun _ _ _ h => h) (Or.inl ⟨by rfl, ?_⟩) (by assumption) ?_
        rotate_left
        · intro w hSw; (try dsimp only at hSw); go_simp <;> with_reducible rfl
        try simp only [Act.put, List.setIfInBounds_toArray, List.set_cons_zero, List.set_cons_succ]
        refine wpAnyH_take (i := 5) (oi := { dst := some 66, op := Op.move (Operand.tmp 65), type := 4, pos := "law.go:201", after := #[{ on := 4, ground := Ground.data }], guard := none }) (v := ?_) rfl (by kernel_rfl) (by kernel_rfl) (by kernel_rfl) (fun _ _ _ h => h) (Or.inl ⟨by rfl, ?_⟩) (by assumption) ?_
        rotate_left
        · intro w hSw; (try dsimp only at hSw); go_simp <;> with_reducible rfl
        try simp only [Act.put, List.setIfInBounds_toArray, List.set_cons_zero, List.set_cons_succ]
        refine wpAnyH_take (i := 6) (oi := { dst := some 67, op := Op.move (Operand.tmp 11), type := 22, pos := "law.go:201", after := #[{ on := 5, ground := Ground.guard }], guard := some (5, true) }) (v := ?_) rfl (by kernel_rfl) (by kernel_rfl) (by kernel_rfl) (fun _ _ _ h => h) (Or.inl ⟨by rfl, ?_⟩) (by assumption) ?_
        rotate_left
        · intro w hSw; (try dsimp only at hSw); go_simp <;> with_reducible rfl
        try simp only [Act.put, List.setIfInBounds_toArray, List.set_cons_zero, List.set_cons_succ]
        refine wpAnyH_take (i := 7) (oi := { dst := some 68, op := Op.move (Operand.tmp 6), type := 22, pos := "law.go:201", after := #[{ on := 5, ground := Ground.guard }], guard := some (5, true) }) (v := ?_) rfl (by kernel_rfl) (by kernel_rfl) (by kernel_rfl) (fun _ _ _ h => h) (Or.inl ⟨by rfl, ?_⟩) (by assumption) ?_
        rotate_left
        · intro w hSw; (try dsimp only at hSw); go_simp <;> with_reducible rfl
        try simp only [Act.put, List.setIfInBounds_toArray, List.set_cons_zero, List.set_cons_succ]
        refine wpAnyH_take (i := 8) (oi := { dst := some 69, op := Op.call { callee := Callee.builtin Builtin.len, args := #[Operand.tmp 68], argTypes := #[22] }, type := 3, pos := "law.go:201", after := #[{ on := 7, ground := Ground.data }, { on := 5, ground := Ground.guard }], guard := some (5, true) }) (v := ?_) rfl (by kernel_rfl) (by kernel_rfl) (by kernel_rfl) (fun _ _ _ h => h) (Or.inl ⟨by rfl, ?_⟩) (by assumption) ?_
        rotate_left
        · intro w hSw; (try dsimp only at hSw); go_simp <;> with_reducible rfl
        try simp only [Act.put, List.setIfInBounds_toArray, List.set_cons_zero, List.set_cons_succ]
        refine wpAnyH_take (i := 9) (oi := { dst := some 70, op := Op.move (Operand.tmp 8), type := 22, pos := "law.go:201", after := #[{ on := 5, ground := Ground.guard }], guard := some (5, true) }) (v := ?_) rfl (by kernel_rfl) (by kernel_rfl) (by kernel_rfl) (fun _ _ _ h => h) (Or.inl ⟨by rfl, ?_⟩) (by assumption) ?_
        rotate_left
        · intro w hSw; (try dsimp only at hSw); go_simp <;> with_reducible rfl
        try simp only [Act.put, List.setIfInBounds_toArray, List.set_cons_zero, List.set_cons_succ]
        refine wpAnyH_take (i := 10) (oi := { dst := some 71, op := Op.call { callee := Callee.builtin Builtin.len, args := #[Operand.tmp 70], argTypes := #[22] }, type := 3, pos := "law.go:201", after := #[{ on := 9, ground := Ground.data }, { on := 5, ground := Ground.guard }], guard := some (5, true) }) (v := ?_) rfl (by kernel_rfl) (by kernel_rfl) (by kernel_rfl) (fun _ _ _ h => h) (Or.inl ⟨by rfl, ?_⟩) (by assumption) ?_
        rotate_left
        · intro w hSw; (try dsimp only at hSw); go_simp <;> with_reducible rfl
        try simp only [Act.put, List.setIfInBounds_toArray, List.set_cons_zero, List.set_cons_succ]
        refine wpAnyH_take (i := 11) (oi := { dst := some 72, op := Op.call { callee := Callee.builtin Builtin.min, args := #[Operand.tmp 69, Operand.tmp 71], argTypes := #[3, 3] }, type := 3, pos := "law.go:201", after := #[{ on := 8, ground := Ground.data }, { on := 10, ground := Ground.data }, { on := 5, ground := Ground.guard }], guard := some (5, true) }) (v := ?_) rfl (by kernel_rfl) (by kernel_rfl) (by kernel_rfl) (fun _ _ _ h => h) (Or.inl ⟨by rfl, ?_⟩) (by assumption) ?_
        rotate_left
        · intro w hSw; (try dsimp only at hSw); go_simp <;> with_reducible rfl
        try simp only [Act.put, List.setIfInBounds_toArray, List.set_cons_zero, List.set_cons_succ]
        refine wpAnyH_take (i := 12) (oi := { dst := some 73, op := Op.indexAddr 22 (Operand.tmp 67) (Operand.tmp 72), type := 0, pos := "law.go:201", after := #[{ on := 6, ground := Ground.data }, { on := 11, ground := Ground.data }, { on := 5, ground := Ground.guard }], guard := some (5, true) }) (v := ?_) rfl (by kernel_rfl) (by kernel_rfl) (by kernel_rfl) (fun _ _ _ h => h) (Or.inl ⟨by rfl, ?_⟩) (by assumption) ?_
        rotate_left
        · intro w hSw; (try dsimp only at hSw); go_simp <;> with_reducible rfl
        try simp only [Act.put, List.setIfInBounds_toArray, List.set_cons_zero, List.set_cons_succ]
        refine wpAnyH_take (i := 13) (oi := { dst := some 74, op := Op.load 9 (Operand.tmp 73), type := 9, pos := "law.go:201", after := #[{ on := 12, ground := Ground.data }, { on := 5, ground := Ground.guard }], guard := some (5, true) }) (v := ?_) rfl (by kernel_rfl) (by kernel_rfl) (by kernel_rfl) (fun _ _ _ h => h) (Or.inl ⟨by rfl, ?_⟩) (by assumption) ?_
        rotate_left
        · intro w hSw; (try dsimp only at hSw); go_simp <;> with_reducible rfl
        try simp only [Act.put, List.setIfInBounds_toArray, List.set_cons_zero, List.set_cons_succ]
        refine wpAnyH_ready (rs := [14, 15]) (by kernel_rfl) (by simp) ?_
        refine AllReadyH.cons (o := { dst := some 75, op := Op.call { callee := Callee.value (Operand.func 30), args := #[Operand.tmp 74], argTypes := #[9] }, type := 9, pos := "law.go:201", after := #[{ on := 13, ground := Ground.data }, { on := 5, ground := Ground.chain }, { on := 5, ground := Ground.guard }], guard := some (5, true) }) rfl (fun K hK => ?_) ?_
        · go_simp
          go_at_call 30
          refine (C.out x (_) hxs (HL.out _ (by assumption))).mono ?_
          rintro e W ⟨rfl, hstW, -⟩
          try go_wp2_with fail
          refine hK.out _ _ (HCELL.out _ (by assumption)) (fun hHeld => ?_)
          clear hK K
          try simp only [Act.put, List.setIfInBounds_toArray, List.set_cons_zero, List.set_cons_succ]
          refine wpAnyH_ready (rs := [15]) (by kernel_rfl) (by simp) ?_
          refine AllReadyH.cons (o := { dst := some 76, op := Op.makeSlice 46 (Operand.const (Value.int IntKind.i64 32)) (Operand.const (Value.int IntKind.i64 32)), type := 46, pos := "law.go:201", after := #[{ on := 5, ground := Ground.guard }], guard := some (5, true) }) rfl (fun K hK => ?_) ?_
          · go_simp
            refine hK.out _ _ (HE.out _ _ (by assumption)) (fun hHeld => ?_)
            clear hK K
            try simp only [Act.put, List.setIfInBounds_toArray, List.set_cons_zero, List.set_cons_succ]
            refine wpAnyH_ready (rs := [16]) (by kernel_rfl) (by simp) ?_
            refine AllReadyH.cons (o := { dst := some 77, op := Op.convert 46 9 (Operand.tmp 76), type := 9, pos := "law.go:201", after := #[{ on := 15, ground := Ground.data }, { on := 5, ground := Ground.guard }], guard := some (5, true) }) rfl (fun K hK => ?_) ?_
            · have hcv := ZAt.conv _ _ (ZAt.new W)
              go_simp
              refine hK.out _ _ (by assumption) (fun hHeld => ?_)
              clear hK K
              try simp only [Act.put, List.setIfInBounds_toArray, List.set_cons_zero, List.set_cons_succ]
              refine wpAnyH_take (i := 17) (oi := { dst := some 78, op := Op.binOp BinOp.eql 9 (Operand.tmp 75) (Operand.tmp 77) 9, type := 4, pos := "law.go:201", after := #[{ on := 14, ground := Ground.data }, { on := 16, ground := Ground.data }, { on := 5, ground := Ground.guard }], guard := some (5, true) }) (v := ?_) rfl (by kernel_rfl) (by kernel_rfl) (by kernel_rfl) (fun _ _ _ h => h) (Or.inl ⟨by rfl, ?_⟩) (by assumption) ?_
              rotate_left
              · intro w hSw; (try dsimp only at hSw); go_simp <;> with_reducible rfl
              try simp only [Act.put, List.setIfInBounds_toArray, List.set_cons_zero, List.set_cons_succ]
              refine wpAnyH_take (i := 18) (oi := { dst := some 79, op := Op.pick (Operand.tmp 66) (Operand.tmp 78) (Operand.const (Value.bool false)), type := 4, pos := "law.go:201", after := #[{ on := 5, ground := Ground.data }, { on := 17, ground := Ground.data }], guard := none }) (v := ?_) rfl (by kernel_rfl) (by kernel_rfl) (by kernel_rfl) (fun _ _ _ h => h) (Or.inl ⟨by rfl, ?_⟩) (by assumption) ?_
              rotate_left
              · intro w hSw; (try dsimp only at hSw); go_simp <;> with_reducible rfl
              try simp only [Act.put, List.setIfInBounds_toArray, List.set_cons_zero, List.set_cons_succ]
              refine wpAnyH_take (i := 19) (oi := { dst := some 12, op := Op.assign (Operand.tmp 79), type := 4, pos := "law.go:201", after := #[{ on := 18, ground := Ground.data }, { on := 14, ground := Ground.chain }, { on := 0, ground := Ground.phase }, { on := 1, ground := Ground.phase }, { on := 2, ground := Ground.phase }, { on := 3, ground := Ground.phase }, { on := 4, ground := Ground.phase }, { on := 5, ground := Ground.phase }, { on := 6, ground := Ground.phase }, { on := 7, ground := Ground.phase }, { on := 8, ground := Ground.phase }, { on := 9, ground := Ground.phase }, { on := 10, ground := Ground.phase }, { on := 11, ground := Ground.phase }, { on := 12, ground := Ground.phase }, { on := 13, ground := Ground.phase }, { on := 14, ground := Ground.phase }, { on := 15, ground := Ground.phase }, { on := 16, ground := Ground.phase }, { on := 17, ground := Ground.phase }, { on := 18, ground := Ground.phase }], guard := none }) (v := ?_) rfl (by kernel_rfl) (by kernel_rfl) (by kernel_rfl) (fun _ _ _ h => h) (Or.inl ⟨by rfl, ?_⟩) (by assumption) ?_
              rotate_left
              · intro w hSw; (try dsimp only at hSw); go_simp <;> with_reducible rfl
              try simp only [Act.put, List.setIfInBounds_toArray, List.set_cons_zero, List.set_cons_succ]
              refine wpAnyH_done (by kernel_rfl) ?_ _
              refine NoPanic.normal ?_
              have hW := Lib.hid (HL.out _ (by assumption))
              go_wp2_with fail
              refine (CC.out _ hW.out).mono ?_
              rintro e w9 ⟨rfl, hst9⟩
              have H9 := Lib.hid hst9
              clear hst9
              cases C0
              · have hbt : b1 = true := by simpa using HRES.out
                subst hbt
                go_wp2_with fail
                go_ret
                exact ⟨rfl, H9.out.b⟩
              · go_wp2_with fail
                go_ret
                exact ⟨rfl, H9.out.b⟩
            exact AllReadyH.nil
          exact AllReadyH.nil
        refine AllReadyH.cons (o := { dst := some 76, op := Op.makeSlice 46 (Operand.const (Value.int IntKind.i64 32)) (Operand.const (Value.int IntKind.i64 32)), type := 46, pos := "law.go:201", after := #[{ on := 5, ground := Ground.guard }], guard := some (5, true) }) rfl (fun K hK => ?_) ?_
        · go_simp
          refine hK.out _ _ (HD.out _ _ (by assumption)) (fun hHeld => ?_)
          clear hK K
          try simp only [Act.put, List.setIfInBounds_toArray, List.set_cons_zero, List.set_cons_succ]
          refine wpAnyH_ready (rs := [14, 16]) (by kernel_rfl) (by simp) ?_
          refine AllReadyH.cons (o := { dst := some 75, op := Op.call { callee := Callee.value (Operand.func 30), args := #[Operand.tmp 74], argTypes := #[9] }, type := 9, pos := "law.go:201", after := #[{ on := 13, ground := Ground.data }, { on := 5, ground := Ground.chain }, { on := 5, ground := Ground.guard }], guard := some (5, true) }) rfl (fun K hK => ?_) ?_
          · go_simp
            go_at_call 30
            refine (C.out x (_) hxs (HL.out _ (by assumption))).mono ?_
            rintro e W ⟨rfl, hstW, hrk⟩
            try go_wp2_with fail
            refine hK.out _ _ (HCELL.out _ (by assumption)) (fun hHeld => ?_)
            clear hK K
            try simp only [Act.put, List.setIfInBounds_toArray, List.set_cons_zero, List.set_cons_succ]
            refine wpAnyH_ready (rs := [16]) (by kernel_rfl) (by simp) ?_
            refine AllReadyH.cons (o := { dst := some 77, op := Op.convert 46 9 (Operand.tmp 76), type := 9, pos := "law.go:201", after := #[{ on := 15, ground := Ground.data }, { on := 5, ground := Ground.guard }], guard := some (5, true) }) rfl (fun K hK => ?_) ?_
            · have hcv := ZAt.conv _ _ (hrk _ (RAt.drew (zero_new w6)))
              go_simp
              refine hK.out _ _ (by assumption) (fun hHeld => ?_)
              clear hK K
              try simp only [Act.put, List.setIfInBounds_toArray, List.set_cons_zero, List.set_cons_succ]
              refine wpAnyH_take (i := 17) (oi := { dst := some 78, op := Op.binOp BinOp.eql 9 (Operand.tmp 75) (Operand.tmp 77) 9, type := 4, pos := "law.go:201", after := #[{ on := 14, ground := Ground.data }, { on := 16, ground := Ground.data }, { on := 5, ground := Ground.guard }], guard := some (5, true) }) (v := ?_) rfl (by kernel_rfl) (by kernel_rfl) (by kernel_rfl) (fun _ _ _ h => h) (Or.inl ⟨by rfl, ?_⟩) (by assumption) ?_
              rotate_left
              · intro w hSw; (try dsimp only at hSw); go_simp <;> with_reducible rfl
              try simp only [Act.put, List.setIfInBounds_toArray, List.set_cons_zero, List.set_cons_succ]
              refine wpAnyH_take (i := 18) (oi := { dst := some 79, op := Op.pick (Operand.tmp 66) (Operand.tmp 78) (Operand.const (Value.bool false)), type := 4, pos := "law.go:201", after := #[{ on := 5, ground := Ground.data }, { on := 17, ground := Ground.data }], guard := none }) (v := ?_) rfl (by kernel_rfl) (by kernel_rfl) (by kernel_rfl) (fun _ _ _ h => h) (Or.inl ⟨by rfl, ?_⟩) (by assumption) ?_
              rotate_left
              · intro w hSw; (try dsimp only at hSw); go_simp <;> with_reducible rfl
              try simp only [Act.put, List.setIfInBounds_toArray, List.set_cons_zero, List.set_cons_succ]
              refine wpAnyH_take (i := 19) (oi := { dst := some 12, op := Op.assign (Operand.tmp 79), type := 4, pos := "law.go:201", after := #[{ on := 18, ground := Ground.data }, { on := 14, ground := Ground.chain }, { on := 0, ground := Ground.phase }, { on := 1, ground := Ground.phase }, { on := 2, ground := Ground.phase }, { on := 3, ground := Ground.phase }, { on := 4, ground := Ground.phase }, { on := 5, ground := Ground.phase }, { on := 6, ground := Ground.phase }, { on := 7, ground := Ground.phase }, { on := 8, ground := Ground.phase }, { on := 9, ground := Ground.phase }, { on := 10, ground := Ground.phase }, { on := 11, ground := Ground.phase }, { on := 12, ground := Ground.phase }, { on := 13, ground := Ground.phase }, { on := 14, ground := Ground.phase }, { on := 15, ground := Ground.phase }, { on := 16, ground := Ground.phase }, { on := 17, ground := Ground.phase }, { on := 18, ground := Ground.phase }], guard := none }) (v := ?_) rfl (by kernel_rfl) (by kernel_rfl) (by kernel_rfl) (fun _ _ _ h => h) (Or.inl ⟨by rfl, ?_⟩) (by assumption) ?_
              rotate_left
              · intro w hSw; (try dsimp only at hSw); go_simp <;> with_reducible rfl
              try simp only [Act.put, List.setIfInBounds_toArray, List.set_cons_zero, List.set_cons_succ]
              refine wpAnyH_done (by kernel_rfl) ?_ _
              refine NoPanic.normal ?_
              have hW := Lib.hid (HL.out _ (by assumption))
              go_wp2_with fail
              refine (CC.out _ hW.out).mono ?_
              rintro e w9 ⟨rfl, hst9⟩
              have H9 := Lib.hid hst9
              clear hst9
              cases C0
              · have hbt : b1 = true := by simpa using HRES.out
                subst hbt
                go_wp2_with fail
                go_ret
                exact ⟨rfl, H9.out.b⟩
              · go_wp2_with fail
                go_ret
                exact ⟨rfl, H9.out.b⟩
            exact AllReadyH.nil
          refine AllReadyH.cons (o := { dst := some 77, op := Op.convert 46 9 (Operand.tmp 76), type := 9, pos := "law.go:201", after := #[{ on := 15, ground := Ground.data }, { on := 5, ground := Ground.guard }], guard := some (5, true) }) rfl (fun K hK => ?_) ?_
          · have hcv := ZAt.conv (World.drew (World.alloc w6 (.cells zeroC 5))) w6.heap.size (RAt.drew (zero_new w6))
            go_simp
            refine hK.out _ _ (by assumption) (fun hHeld => ?_)
            clear hK K
            try simp only [Act.put, List.setIfInBounds_toArray, List.set_cons_zero, List.set_cons_succ]
            refine wpAnyH_ready (rs := [14]) (by kernel_rfl) (by simp) ?_
            refine AllReadyH.cons (o := { dst := some 75, op := Op.call { callee := Callee.value (Operand.func 30), args := #[Operand.tmp 74], argTypes := #[9] }, type := 9, pos := "law.go:201", after := #[{ on := 13, ground := Ground.data }, { on := 5, ground := Ground.chain }, { on := 5, ground := Ground.guard }], guard := some (5, true) }) rfl (fun K hK => ?_) ?_
            · go_simp
              go_at_call 30
              refine (C.out x (_) hxs (HL.out _ (by assumption))).mono ?_
              rintro e W ⟨rfl, hstW, -⟩
              try go_wp2_with fail
              refine hK.out _ _ (HCELL.out _ (by assumption)) (fun hHeld => ?_)
              clear hK K
              try simp only [Act.put, List.setIfInBounds_toArray, List.set_cons_zero, List.set_cons_succ]
              refine wpAnyH_take (i := 17) (oi := { dst := some 78, op := Op.binOp BinOp.eql 9 (Operand.tmp 75) (Operand.tmp 77) 9, type := 4, pos := "law.go:201", after := #[{ on := 14, ground := Ground.data }, { on := 16, ground := Ground.data }, { on := 5, ground := Ground.guard }], guard := some (5, true) }) (v := ?_) rfl (by kernel_rfl) (by kernel_rfl) (by kernel_rfl) (fun _ _ _ h => h) (Or.inl ⟨by rfl, ?_⟩) (by assumption) ?_
              rotate_left
              · intro w hSw; (try dsimp only at hSw); go_simp <;> with_reducible rfl
              try simp only [Act.put, List.setIfInBounds_toArray, List.set_cons_zero, List.set_cons_succ]
              refine wpAnyH_take (i := 18) (oi := { dst := some 79, op := Op.pick (Operand.tmp 66) (Operand.tmp 78) (Operand.const (Value.bool false)), type := 4, pos := "law.go:201", after := #[{ on := 5, ground := Ground.data }, { on := 17, ground := Ground.data }], guard := none }) (v := ?_) rfl (by kernel_rfl) (by kernel_rfl) (by kernel_rfl) (fun _ _ _ h => h) (Or.inl ⟨by rfl, ?_⟩) (by assumption) ?_
              rotate_left
              · intro w hSw; (try dsimp only at hSw); go_simp <;> with_reducible rfl
              try simp only [Act.put, List.setIfInBounds_toArray, List.set_cons_zero, List.set_cons_succ]
              refine wpAnyH_take (i := 19) (oi := { dst := some 12, op := Op.assign (Operand.tmp 79), type := 4, pos := "law.go:201", after := #[{ on := 18, ground := Ground.data }, { on := 14, ground := Ground.chain }, { on := 0, ground := Ground.phase }, { on := 1, ground := Ground.phase }, { on := 2, ground := Ground.phase }, { on := 3, ground := Ground.phase }, { on := 4, ground := Ground.phase }, { on := 5, ground := Ground.phase }, { on := 6, ground := Ground.phase }, { on := 7, ground := Ground.phase }, { on := 8, ground := Ground.phase }, { on := 9, ground := Ground.phase }, { on := 10, ground := Ground.phase }, { on := 11, ground := Ground.phase }, { on := 12, ground := Ground.phase }, { on := 13, ground := Ground.phase }, { on := 14, ground := Ground.phase }, { on := 15, ground := Ground.phase }, { on := 16, ground := Ground.phase }, { on := 17, ground := Ground.phase }, { on := 18, ground := Ground.phase }], guard := none }) (v := ?_) rfl (by kernel_rfl) (by kernel_rfl) (by kernel_rfl) (fun _ _ _ h => h) (Or.inl ⟨by rfl, ?_⟩) (by assumption) ?_
              rotate_left
              · intro w hSw; (try dsimp only at hSw); go_simp <;> with_reducible rfl
              try simp only [Act.put, List.setIfInBounds_toArray, List.set_cons_zero, List.set_cons_succ]
              refine wpAnyH_done (by kernel_rfl) ?_ _
              refine NoPanic.normal ?_
              have hW := Lib.hid (HL.out _ (by assumption))
              go_wp2_with fail
              refine (CC.out _ hW.out).mono ?_
              rintro e w9 ⟨rfl, hst9⟩
              have H9 := Lib.hid hst9
              clear hst9
              cases C0
              · have hbt : b1 = true := by simpa using HRES.out
                subst hbt
                go_wp2_with fail
                go_ret
                exact ⟨rfl, H9.out.b⟩
              · go_wp2_with fail
                go_ret
                exact ⟨rfl, H9.out.b⟩
            exact AllReadyH.nil
          exact AllReadyH.nil
        exact AllReadyH.nil
      · subst heq
        have d1 : decide (np < np) = false := by simp
        have d2 : ((np : Int) != (np : Int)) = false := by simp
        have hC : C0 = true := by
          rcases HFF.out with h | ⟨h, -⟩ | ⟨h, -⟩
          · exact h
          · omega
          · omega
        subst hC
        go_wp2_with fail
        go_quiet (fail)
        go_wp2_with fail
        refine (CC.out _ (HST.out.below (Below.drewN' (Below.refl _ _) nq))).mono ?_
        rintro e w9 ⟨rfl, hst9⟩
        have H9 := Lib.hid hst9
        clear hst9
        go_wp2_with fail
        go_ret
        exact ⟨rfl, H9.out.b⟩
      · have hxy : nq < X.length := by rw [HTL1.out]; exact hgt
        have hxq := List.getElem?_eq_getElem hxy
        obtain ⟨a, rfl, -, hac⟩ := (HST.out.l _ HMX.out).get hxy
        have hxs := HTS1.out _ (List.getElem_mem hxy)
        obtain ⟨x, hx⟩ : ∃ x, X[nq] = x := ⟨_, rfl⟩
        rw [hx] at hxq hac hxs
        have HXQ := Lib.hid hxq
        have HCELL := Lib.hid (show ∀ W, LawSt w LS W → LawSt w LS W ∧ W.cell? (a.add nq) = some (.string x) from fun W h => ⟨h, by
          obtain ⟨a', ha', -, hc'⟩ := h.l _ HMX.out nq x HXQ.out
          cases ha'; exact hc'⟩)
        have HL := Lib.hid (show ∀ W, (LawSt w LS W ∧ W.cell? (a.add nq) = some (.string x)) → LawSt w LS W from fun W h => h.1)
        have hS0 := HCELL.out _ (LawSt.drew HST.out)
        have d1 : decide (np < nq) = false := by simp; omega
        have d2 : ((np : Int) != (nq : Int)) = true := by simp; omega
        have d3 : min (np : Int) (nq : Int) = (nq : Int) := by omega
        have z1 : (0 : Int) ≤ (nq : Int) := by omega
        have z2 : (nq : Int) < (np : Int) := by omega
        obtain ⟨b1, hb1⟩ : ∃ b1, ((shaB x).toList == zero32.toList) = b1 := ⟨_, rfl⟩
        have hres : C0 = true ∨ b1 = true := by
          rcases HFF.out with h | ⟨h, -⟩ | ⟨-, y, hy, hy2⟩
          · exact .inl h
          · omega
          · rw [HXQ.out] at hy; cases hy
            rw [str_eq, decide_eq_true hy2] at hb1
            exact .inr hb1.symm
        have HRES := Lib.hid hres
        have hmk := mk32
        clear hx hac hxq hres hgt
        go_wp2_with fail
        have HD := Lib.hid (show ∀ W o, (LawSt w LS (World.drew W) ∧ (World.drew W).cell? (a.add nq) = some (.string x)) → (LawSt w LS (World.drew (W.alloc o)) ∧ (World.drew (W.alloc o)).cell? (a.add nq) = some (.string x)) from fun W o h => HCELL.out (World.drew (W.alloc o)) (LawSt.below (HL.out _ h) ((Below.refl _ _).alloc (Nat.le_refl _) o)))
        have HE := Lib.hid (show ∀ W o, (LawSt w LS W ∧ W.cell? (a.add nq) = some (.string x)) → (LawSt w LS (W.alloc o) ∧ (W.alloc o).cell? (a.add nq) = some (.string x)) from fun W o h => HCELL.out (W.alloc o) (LawSt.below (HL.out _ h) ((Below.refl _ _).alloc (Nat.le_refl _) o)))
        refine wp_region_noPanic ?_
        refine wp_region_held_drew (S := fun w' => LawSt w LS w' ∧ w'.cell? (a.add nq) = some (.string x)) (by kernel_rfl) hS0 (fun hHeld => ?_)
        refine wpAnyH_take (i := 0) (oi := { dst := some 61, op := Op.move (Operand.tmp 6), type := 22, pos := "law.go:201", after := #[], guard := none }) (v := ?_) rfl (by kernel_rfl) (by kernel_rfl) (by kernel_rfl) (fun _ _ _ h => h) (Or.inl ⟨by rfl, ?_⟩) (by assumption) ?_
        rotate_left
        · intro w hSw; (try dsimp only at hSw); go_simp <;> with_reducible rfl
        try simp only [Act.put, List.setIfInBounds_toArray, List.set_cons_zero, List.set_cons_succ]
        refine wpAnyH_take (i := 1) (oi := { dst := some 62, op := Op.call { callee := Callee.builtin Builtin.len, args := #[Operand.tmp 61], argTypes := #[22] }, type := 3, pos := "law.go:201", after := #[{ on := 0, ground := Ground.data }], guard := none }) (v := ?_) rfl (by kernel_rfl) (by kernel_rfl) (by kernel_rfl) (fun _ _ _ h => h) (Or.inl ⟨by rfl, ?_⟩) (by assumption) ?_
        rotate_left
        · intro w hSw; (try dsimp only at hSw); go_simp <;> with_reducible rfl
        try simp only [Act.put, List.setIfInBounds_toArray, List.set_cons_zero, List.set_cons_succ]
        refine wpAnyH_take (i := 2) (oi := { dst := some 63, op := Op.move (Operand.tmp 8), type := 22, pos := "law.go:201", after := #[], guard := none }) (v := ?_) rfl (by kernel_rfl) (by kernel_rfl) (by kernel_rfl) (fun _ _ _ h => h) (Or.inl ⟨by rfl, ?_⟩) (by assumption) ?_
        rotate_left
        · intro w hSw; (try dsimp only at hSw); go_simp <;> with_reducible rfl
        try simp only [Act.put, List.setIfInBounds_toArray, List.set_cons_zero, List.set_cons_succ]
        refine wpAnyH_take (i := 3) (oi := { dst := some 64, op := Op.call { callee := Callee.builtin Builtin.len, args := #[Operand.tmp 63], argTypes := #[22] }, type := 3, pos := "law.go:201", after := #[{ on := 2, ground := Ground.data }], guard := none }) (v := ?_) rfl (by kernel_rfl) (by kernel_rfl) (by kernel_rfl) (fun _ _ _ h => h) (Or.inl ⟨by rfl, ?_⟩) (by assumption) ?_
        rotate_left
        · intro w hSw; (try dsimp only at hSw); go_simp <;> with_reducible rfl
        try simp only [Act.put, List.setIfInBounds_toArray, List.set_cons_zero, List.set_cons_succ]
        refine wpAnyH_take (i := 4) (oi := { dst := some 65, op := Op.binOp BinOp.neq 3 (Operand.tmp 62) (Operand.tmp 64) 3, type := 4, pos := "law.go:201", after := #[{ on := 1, ground := Ground.data }, { on := 3, ground := Ground.data }], guard := none }) (v := ?_) rfl (by kernel_rfl) (by kernel_rfl) (by kernel_rfl) (fun _ _ _ h => h) (Or.inl ⟨by rfl, ?_⟩) (by assumption) ?_
        rotate_left
        · intro w hSw; (try dsimp only at hSw); go_simp <;> with_reducible rfl
        try simp only [Act.put, List.setIfInBounds_toArray, List.set_cons_zero, List.set_cons_succ]
        refine wpAnyH_take (i := 5) (oi := { dst := some 66, op := Op.move (Operand.tmp 65), type := 4, pos := "law.go:201", after := #[{ on := 4, ground := Ground.data }], guard := none }) (v := ?_) rfl (by kernel_rfl) (by kernel_rfl) (by kernel_rfl) (fun _ _ _ h => h) (Or.inl ⟨by rfl, ?_⟩) (by assumption) ?_
        rotate_left
        · intro w hSw; (try dsimp only at hSw); go_simp <;> with_reducible rfl
        try simp only [Act.put, List.setIfInBounds_toArray, List.set_cons_zero, List.set_cons_succ]
        refine wpAnyH_take (i := 6) (oi := { dst := some 67, op := Op.move (Operand.tmp 11), type := 22, pos := "law.go:201", after := #[{ on := 5, ground := Ground.guard }], guard := some (5, true) }) (v := ?_) rfl (by kernel_rfl) (by kernel_rfl) (by kernel_rfl) (fun _ _ _ h => h) (Or.inl ⟨by rfl, ?_⟩) (by assumption) ?_
        rotate_left
        · intro w hSw; (try dsimp only at hSw); go_simp <;> with_reducible rfl
        try simp only [Act.put, List.setIfInBounds_toArray, List.set_cons_zero, List.set_cons_succ]
        refine wpAnyH_take (i := 7) (oi := { dst := some 68, op := Op.move (Operand.tmp 6), type := 22, pos := "law.go:201", after := #[{ on := 5, ground := Ground.guard }], guard := some (5, true) }) (v := ?_) rfl (by kernel_rfl) (by kernel_rfl) (by kernel_rfl) (fun _ _ _ h => h) (Or.inl ⟨by rfl, ?_⟩) (by assumption) ?_
        rotate_left
        · intro w hSw; (try dsimp only at hSw); go_simp <;> with_reducible rfl
        try simp only [Act.put, List.setIfInBounds_toArray, List.set_cons_zero, List.set_cons_succ]
        refine wpAnyH_take (i := 8) (oi := { dst := some 69, op := Op.call { callee := Callee.builtin Builtin.len, args := #[Operand.tmp 68], argTypes := #[22] }, type := 3, pos := "law.go:201", after := #[{ on := 7, ground := Ground.data }, { on := 5, ground := Ground.guard }], guard := some (5, true) }) (v := ?_) rfl (by kernel_rfl) (by kernel_rfl) (by kernel_rfl) (fun _ _ _ h => h) (Or.inl ⟨by rfl, ?_⟩) (by assumption) ?_
        rotate_left
        · intro w hSw; (try dsimp only at hSw); go_simp <;> with_reducible rfl
        try simp only [Act.put, List.setIfInBounds_toArray, List.set_cons_zero, List.set_cons_succ]
        refine wpAnyH_take (i := 9) (oi := { dst := some 70, op := Op.move (Operand.tmp 8), type := 22, pos := "law.go:201", after := #[{ on := 5, ground := Ground.guard }], guard := some (5, true) }) (v := ?_) rfl (by kernel_rfl) (by kernel_rfl) (by kernel_rfl) (fun _ _ _ h => h) (Or.inl ⟨by rfl, ?_⟩) (by assumption) ?_
        rotate_left
        · intro w hSw; (try dsimp only at hSw); go_simp <;> with_reducible rfl
        try simp only [Act.put, List.setIfInBounds_toArray, List.set_cons_zero, List.set_cons_succ]
        refine wpAnyH_take (i := 10) (oi := { dst := some 71, op := Op.call { callee := Callee.builtin Builtin.len, args := #[Operand.tmp 70], argTypes := #[22] }, type := 3, pos := "law.go:201", after := #[{ on := 9, ground := Ground.data }, { on := 5, ground := Ground.guard }], guard := some (5, true) }) (v := ?_) rfl (by kernel_rfl) (by kernel_rfl) (by kernel_rfl) (fun _ _ _ h => h) (Or.inl ⟨by rfl, ?_⟩) (by assumption) ?_
        rotate_left
        · intro w hSw; (try dsimp only at hSw); go_simp <;> with_reducible rfl
        try simp only [Act.put, List.setIfInBounds_toArray, List.set_cons_zero, List.set_cons_succ]
        refine wpAnyH_take (i := 11) (oi := { dst := some 72, op := Op.call { callee := Callee.builtin Builtin.min, args := #[Operand.tmp 69, Operand.tmp 71], argTypes := #[3, 3] }, type := 3, pos := "law.go:201", after := #[{ on := 8, ground := Ground.data }, { on := 10, ground := Ground.data }, { on := 5, ground := Ground.guard }], guard := some (5, true) }) (v := ?_) rfl (by kernel_rfl) (by kernel_rfl) (by kernel_rfl) (fun _ _ _ h => h) (Or.inl ⟨by rfl, ?_⟩) (by assumption) ?_
        rotate_left
        · intro w hSw; (try dsimp only at hSw); go_simp <;> with_reducible rfl
        try simp only [Act.put, List.setIfInBounds_toArray, List.set_cons_zero, List.set_cons_succ]
        refine wpAnyH_take (i := 12) (oi := { dst := some 73, op := Op.indexAddr 22 (Operand.tmp 67) (Operand.tmp 72), type := 0, pos := "law.go:201", after := #[{ on := 6, ground := Ground.data }, { on := 11, ground := Ground.data }, { on := 5, ground := Ground.guard }], guard := some (5, true) }) (v := ?_) rfl (by kernel_rfl) (by kernel_rfl) (by kernel_rfl) (fun _ _ _ h => h) (Or.inl ⟨by rfl, ?_⟩) (by assumption) ?_
        rotate_left
        · intro w hSw; (try dsimp only at hSw); go_simp <;> with_reducible rfl
        try simp only [Act.put, List.setIfInBounds_toArray, List.set_cons_zero, List.set_cons_succ]
        refine wpAnyH_take (i := 13) (oi := { dst := some 74, op := Op.load 9 (Operand.tmp 73), type := 9, pos := "law.go:201", after := #[{ on := 12, ground := Ground.data }, { on := 5, ground := Ground.guard }], guard := some (5, true) }) (v := ?_) rfl (by kernel_rfl) (by kernel_rfl) (by kernel_rfl) (fun _ _ _ h => h) (Or.inl ⟨by rfl, ?_⟩) (by assumption) ?_
        rotate_left
        · intro w hSw; (try dsimp only at hSw); go_simp <;> with_reducible rfl
        try simp only [Act.put, List.setIfInBounds_toArray, List.set_cons_zero, List.set_cons_succ]
        refine wpAnyH_ready (rs := [14, 15]) (by kernel_rfl) (by simp) ?_
        refine AllReadyH.cons (o := { dst := some 75, op := Op.call { callee := Callee.value (Operand.func 30), args := #[Operand.tmp 74], argTypes := #[9] }, type := 9, pos := "law.go:201", after := #[{ on := 13, ground := Ground.data }, { on := 5, ground := Ground.chain }, { on := 5, ground := Ground.guard }], guard := some (5, true) }) rfl (fun K hK => ?_) ?_
        · go_simp
          go_at_call 30
          refine (C.out x (_) hxs (HL.out _ (by assumption))).mono ?_
          rintro e W ⟨rfl, hstW, -⟩
          try go_wp2_with fail
          refine hK.out _ _ (HCELL.out _ (by assumption)) (fun hHeld => ?_)
          clear hK K
          try simp only [Act.put, List.setIfInBounds_toArray, List.set_cons_zero, List.set_cons_succ]
          refine wpAnyH_ready (rs := [15]) (by kernel_rfl) (by simp) ?_
          refine AllReadyH.cons (o := { dst := some 76, op := Op.makeSlice 46 (Operand.const (Value.int IntKind.i64 32)) (Operand.const (Value.int IntKind.i64 32)), type := 46, pos := "law.go:201", after := #[{ on := 5, ground := Ground.guard }], guard := some (5, true) }) rfl (fun K hK => ?_) ?_
          · go_simp
            refine hK.out _ _ (HE.out _ _ (by assumption)) (fun hHeld => ?_)
            clear hK K
            try simp only [Act.put, List.setIfInBounds_toArray, List.set_cons_zero, List.set_cons_succ]
            refine wpAnyH_ready (rs := [16]) (by kernel_rfl) (by simp) ?_
            refine AllReadyH.cons (o := { dst := some 77, op := Op.convert 46 9 (Operand.tmp 76), type := 9, pos := "law.go:201", after := #[{ on := 15, ground := Ground.data }, { on := 5, ground := Ground.guard }], guard := some (5, true) }) rfl (fun K hK => ?_) ?_
            · have hcv := ZAt.conv _ _ (ZAt.new W)
              go_simp
              refine hK.out _ _ (by assumption) (fun hHeld => ?_)
              clear hK K
              try simp only [Act.put, List.setIfInBounds_toArray, List.set_cons_zero, List.set_cons_succ]
              refine wpAnyH_take (i := 17) (oi := { dst := some 78, op := Op.binOp BinOp.eql 9 (Operand.tmp 75) (Operand.tmp 77) 9, type := 4, pos := "law.go:201", after := #[{ on := 14, ground := Ground.data }, { on := 16, ground := Ground.data }, { on := 5, ground := Ground.guard }], guard := some (5, true) }) (v := ?_) rfl (by kernel_rfl) (by kernel_rfl) (by kernel_rfl) (fun _ _ _ h => h) (Or.inl ⟨by rfl, ?_⟩) (by assumption) ?_
              rotate_left
              · intro w hSw; (try dsimp only at hSw); go_simp <;> with_reducible rfl
              try simp only [Act.put, List.setIfInBounds_toArray, List.set_cons_zero, List.set_cons_succ]
              refine wpAnyH_take (i := 18) (oi := { dst := some 79, op := Op.pick (Operand.tmp 66) (Operand.tmp 78) (Operand.const (Value.bool false)), type := 4, pos := "law.go:201", after := #[{ on := 5, ground := Ground.data }, { on := 17, ground := Ground.data }], guard := none }) (v := ?_) rfl (by kernel_rfl) (by kernel_rfl) (by kernel_rfl) (fun _ _ _ h => h) (Or.inl ⟨by rfl, ?_⟩) (by assumption) ?_
              rotate_left
              · intro w hSw; (try dsimp only at hSw); go_simp <;> with_reducible rfl
              try simp only [Act.put, List.setIfInBounds_toArray, List.set_cons_zero, List.set_cons_succ]
              refine wpAnyH_take (i := 19) (oi := { dst := some 12, op := Op.assign (Operand.tmp 79), type := 4, pos := "law.go:201", after := #[{ on := 18, ground := Ground.data }, { on := 14, ground := Ground.chain }, { on := 0, ground := Ground.phase }, { on := 1, ground := Ground.phase }, { on := 2, ground := Ground.phase }, { on := 3, ground := Ground.phase }, { on := 4, ground := Ground.phase }, { on := 5, ground := Ground.phase }, { on := 6, ground := Ground.phase }, { on := 7, ground := Ground.phase }, { on := 8, ground := Ground.phase }, { on := 9, ground := Ground.phase }, { on := 10, ground := Ground.phase }, { on := 11, ground := Ground.phase }, { on := 12, ground := Ground.phase }, { on := 13, ground := Ground.phase }, { on := 14, ground := Ground.phase }, { on := 15, ground := Ground.phase }, { on := 16, ground := Ground.phase }, { on := 17, ground := Ground.phase }, { on := 18, ground := Ground.phase }], guard := none }) (v := ?_) rfl (by kernel_rfl) (by kernel_rfl) (by kernel_rfl) (fun _ _ _ h => h) (Or.inl ⟨by rfl, ?_⟩) (by assumption) ?_
              rotate_left
              · intro w hSw; (try dsimp only at hSw); go_simp <;> with_reducible rfl
              try simp only [Act.put, List.setIfInBounds_toArray, List.set_cons_zero, List.set_cons_succ]
              refine wpAnyH_done (by kernel_rfl) ?_ _
              refine NoPanic.normal ?_
              have hW := Lib.hid (HL.out _ (by assumption))
              go_wp2_with fail
              refine (CC.out _ hW.out).mono ?_
              rintro e w9 ⟨rfl, hst9⟩
              have H9 := Lib.hid hst9
              clear hst9
              cases C0
              · have hbt : b1 = true := by simpa using HRES.out
                subst hbt
                go_wp2_with fail
                go_ret
                exact ⟨rfl, H9.out.b⟩
              · go_wp2_with fail
                go_ret
                exact ⟨rfl, H9.out.b⟩
            exact AllReadyH.nil
          exact AllReadyH.nil
        refine AllReadyH.cons (o := { dst := some 76, op := Op.makeSlice 46 (Operand.const (Value.int IntKind.i64 32)) (Operand.const (Value.int IntKind.i64 32)), type := 46, pos := "law.go:201", after := #[{ on := 5, ground := Ground.guard }], guard := some (5, true) }) rfl (fun K hK => ?_) ?_
        · go_simp
          refine hK.out _ _ (HD.out _ _ (by assumption)) (fun hHeld => ?_)
          clear hK K
          try simp only [Act.put, List.setIfInBounds_toArray, List.set_cons_zero, List.set_cons_succ]
          refine wpAnyH_ready (rs := [14, 16]) (by kernel_rfl) (by simp) ?_
          refine AllReadyH.cons (o := { dst := some 75, op := Op.call { callee := Callee.value (Operand.func 30), args := #[Operand.tmp 74], argTypes := #[9] }, type := 9, pos := "law.go:201", after := #[{ on := 13, ground := Ground.data }, { on := 5, ground := Ground.chain }, { on := 5, ground := Ground.guard }], guard := some (5, true) }) rfl (fun K hK => ?_) ?_
          · go_simp
            go_at_call 30
            refine (C.out x (_) hxs (HL.out _ (by assumption))).mono ?_
            rintro e W ⟨rfl, hstW, hrk⟩
            try go_wp2_with fail
            refine hK.out _ _ (HCELL.out _ (by assumption)) (fun hHeld => ?_)
            clear hK K
            try simp only [Act.put, List.setIfInBounds_toArray, List.set_cons_zero, List.set_cons_succ]
            refine wpAnyH_ready (rs := [16]) (by kernel_rfl) (by simp) ?_
            refine AllReadyH.cons (o := { dst := some 77, op := Op.convert 46 9 (Operand.tmp 76), type := 9, pos := "law.go:201", after := #[{ on := 15, ground := Ground.data }, { on := 5, ground := Ground.guard }], guard := some (5, true) }) rfl (fun K hK => ?_) ?_
            · have hcv := ZAt.conv _ _ (hrk _ (RAt.drew (zero_new w6)))
              go_simp
              refine hK.out _ _ (by assumption) (fun hHeld => ?_)
              clear hK K
              try simp only [Act.put, List.setIfInBounds_toArray, List.set_cons_zero, List.set_cons_succ]
              refine wpAnyH_take (i := 17) (oi := { dst := some 78, op := Op.binOp BinOp.eql 9 (Operand.tmp 75) (Operand.tmp 77) 9, type := 4, pos := "law.go:201", after := #[{ on := 14, ground := Ground.data }, { on := 16, ground := Ground.data }, { on := 5, ground := Ground.guard }], guard := some (5, true) }) (v := ?_) rfl (by kernel_rfl) (by kernel_rfl) (by kernel_rfl) (fun _ _ _ h => h) (Or.inl ⟨by rfl, ?_⟩) (by assumption) ?_
              rotate_left
              · intro w hSw; (try dsimp only at hSw); go_simp <;> with_reducible rfl
              try simp only [Act.put, List.setIfInBounds_toArray, List.set_cons_zero, List.set_cons_succ]
              refine wpAnyH_take (i := 18) (oi := { dst := some 79, op := Op.pick (Operand.tmp 66) (Operand.tmp 78) (Operand.const (Value.bool false)), type := 4, pos := "law.go:201", after := #[{ on := 5, ground := Ground.data }, { on := 17, ground := Ground.data }], guard := none }) (v := ?_) rfl (by kernel_rfl) (by kernel_rfl) (by kernel_rfl) (fun _ _ _ h => h) (Or.inl ⟨by rfl, ?_⟩) (by assumption) ?_
              rotate_left
              · intro w hSw; (try dsimp only at hSw); go_simp <;> with_reducible rfl
              try simp only [Act.put, List.setIfInBounds_toArray, List.set_cons_zero, List.set_cons_succ]
              refine wpAnyH_take (i := 19) (oi := { dst := some 12, op := Op.assign (Operand.tmp 79), type := 4, pos := "law.go:201", after := #[{ on := 18, ground := Ground.data }, { on := 14, ground := Ground.chain }, { on := 0, ground := Ground.phase }, { on := 1, ground := Ground.phase }, { on := 2, ground := Ground.phase }, { on := 3, ground := Ground.phase }, { on := 4, ground := Ground.phase }, { on := 5, ground := Ground.phase }, { on := 6, ground := Ground.phase }, { on := 7, ground := Ground.phase }, { on := 8, ground := Ground.phase }, { on := 9, ground := Ground.phase }, { on := 10, ground := Ground.phase }, { on := 11, ground := Ground.phase }, { on := 12, ground := Ground.phase }, { on := 13, ground := Ground.phase }, { on := 14, ground := Ground.phase }, { on := 15, ground := Ground.phase }, { on := 16, ground := Ground.phase }, { on := 17, ground := Ground.phase }, { on := 18, ground := Ground.phase }], guard := none }) (v := ?_) rfl (by kernel_rfl) (by kernel_rfl) (by kernel_rfl) (fun _ _ _ h => h) (Or.inl ⟨by rfl, ?_⟩) (by assumption) ?_
              rotate_left
              · intro w hSw; (try dsimp only at hSw); go_simp <;> with_reducible rfl
              try simp only [Act.put, List.setIfInBounds_toArray, List.set_cons_zero, List.set_cons_succ]
              refine wpAnyH_done (by kernel_rfl) ?_ _
              refine NoPanic.normal ?_
              have hW := Lib.hid (HL.out _ (by assumption))
              go_wp2_with fail
              refine (CC.out _ hW.out).mono ?_
              rintro e w9 ⟨rfl, hst9⟩
              have H9 := Lib.hid hst9
              clear hst9
              cases C0
              · have hbt : b1 = true := by simpa using HRES.out
                subst hbt
                go_wp2_with fail
                go_ret
                exact ⟨rfl, H9.out.b⟩
              · go_wp2_with fail
                go_ret
                exact ⟨rfl, H9.out.b⟩
            exact AllReadyH.nil
          refine AllReadyH.cons (o := { dst := some 77, op := Op.convert 46 9 (Operand.tmp 76), type := 9, pos := "law.go:201", after := #[{ on := 15, ground := Ground.data }, { on := 5, ground := Ground.guard }], guard := some (5, true) }) rfl (fun K hK => ?_) ?_
          · have hcv := ZAt.conv (World.drew (World.alloc w6 (.cells zeroC 5))) w6.heap.size (RAt.drew (zero_new w6))
            go_simp
            refine hK.out _ _ (by assumption) (fun hHeld => ?_)
            clear hK K
            try simp only [Act.put, List.setIfInBounds_toArray, List.set_cons_zero, List.set_cons_succ]
            refine wpAnyH_ready (rs := [14]) (by kernel_rfl) (by simp) ?_
            refine AllReadyH.cons (o := { dst := some 75, op := Op.call { callee := Callee.value (Operand.func 30), args := #[Operand.tmp 74], argTypes := #[9] }, type := 9, pos := "law.go:201", after := #[{ on := 13, ground := Ground.data }, { on := 5, ground := Ground.chain }, { on := 5, ground := Ground.guard }], guard := some (5, true) }) rfl (fun K hK => ?_) ?_
            · go_simp
              go_at_call 30
              refine (C.out x (_) hxs (HL.out _ (by assumption))).mono ?_
              rintro e W ⟨rfl, hstW, -⟩
              try go_wp2_with fail
              refine hK.out _ _ (HCELL.out _ (by assumption)) (fun hHeld => ?_)
              clear hK K
              try simp only [Act.put, List.setIfInBounds_toArray, List.set_cons_zero, List.set_cons_succ]
              refine wpAnyH_take (i := 17) (oi := { dst := some 78, op := Op.binOp BinOp.eql 9 (Operand.tmp 75) (Operand.tmp 77) 9, type := 4, pos := "law.go:201", after := #[{ on := 14, ground := Ground.data }, { on := 16, ground := Ground.data }, { on := 5, ground := Ground.guard }], guard := some (5, true) }) (v := ?_) rfl (by kernel_rfl) (by kernel_rfl) (by kernel_rfl) (fun _ _ _ h => h) (Or.inl ⟨by rfl, ?_⟩) (by assumption) ?_
              rotate_left
              · intro w hSw; (try dsimp only at hSw); go_simp <;> with_reducible rfl
              try simp only [Act.put, List.setIfInBounds_toArray, List.set_cons_zero, List.set_cons_succ]
              refine wpAnyH_take (i := 18) (oi := { dst := some 79, op := Op.pick (Operand.tmp 66) (Operand.tmp 78) (Operand.const (Value.bool false)), type := 4, pos := "law.go:201", after := #[{ on := 5, ground := Ground.data }, { on := 17, ground := Ground.data }], guard := none }) (v := ?_) rfl (by kernel_rfl) (by kernel_rfl) (by kernel_rfl) (fun _ _ _ h => h) (Or.inl ⟨by rfl, ?_⟩) (by assumption) ?_
              rotate_left
              · intro w hSw; (try dsimp only at hSw); go_simp <;> with_reducible rfl
              try simp only [Act.put, List.setIfInBounds_toArray, List.set_cons_zero, List.set_cons_succ]
              refine wpAnyH_take (i := 19) (oi := { dst := some 12, op := Op.assign (Operand.tmp 79), type := 4, pos := "law.go:201", after := #[{ on := 18, ground := Ground.data }, { on := 14, ground := Ground.chain }, { on := 0, ground := Ground.phase }, { on := 1, ground := Ground.phase }, { on := 2, ground := Ground.phase }, { on := 3, ground := Ground.phase }, { on := 4, ground := Ground.phase }, { on := 5, ground := Ground.phase }, { on := 6, ground := Ground.phase }, { on := 7, ground := Ground.phase }, { on := 8, ground := Ground.phase }, { on := 9, ground := Ground.phase }, { on := 10, ground := Ground.phase }, { on := 11, ground := Ground.phase }, { on := 12, ground := Ground.phase }, { on := 13, ground := Ground.phase }, { on := 14, ground := Ground.phase }, { on := 15, ground := Ground.phase }, { on := 16, ground := Ground.phase }, { on := 17, ground := Ground.phase }, { on := 18, ground := Ground.phase }], guard := none }) (v := ?_) rfl (by kernel_rfl) (by kernel_rfl) (by kernel_rfl) (fun _ _ _ h => h) (Or.inl ⟨by rfl, ?_⟩) (by assumption) ?_
              rotate_left
              · intro w hSw; (try dsimp only at hSw); go_simp <;> with_reducible rfl
              try simp only [Act.put, List.setIfInBounds_toArray, List.set_cons_zero, List.set_cons_succ]
              refine wpAnyH_done (by kernel_rfl) ?_ _
              refine NoPanic.normal ?_
              have hW := Lib.hid (HL.out _ (by assumption))
              go_wp2_with fail
              refine (CC.out _ hW.out).mono ?_
              rintro e w9 ⟨rfl, hst9⟩
              have H9 := Lib.hid hst9
              clear hst9
              cases C0
              · have hbt : b1 = true := by simpa using HRES.out
                subst hbt
                go_wp2_with fail
                go_ret
                exact ⟨rfl, H9.out.b⟩
              · go_wp2_with fail
                go_ret
                exact ⟨rfl, H9.out.b⟩
            exact AllReadyH.nil
          exact AllReadyH.nil
        exact AllReadyH.nil
    · have e1 : (h.toList == k.toList) = false := by rw [str_eq]; simp [hhk]
      go_wp2_with fail
      go_ret
      exact ⟨rfl, HST.out.b⟩

end Go.Proofs.YtjelniemoambaaaDoor
