/-
  Contracts of the reference's Proof, part, Extension. Conditions: at most 1000 strings of at most 100000 bytes.
-/
import Derived.Test.YtjelniemoambaaaDoorRefE
namespace Go.Proofs.YtjelniemoambaaaDoor
open Go Go.RowKit Go.Shelf

set_option maxHeartbeats 1000000 in
theorem refproof_no (A : Option Addr) (l : List ByteArray) (cap : Nat) (i : Int) (h : i < 0 ∨ (l.length : Int) ≤ i) (w : World) :
    Calls Tryd.prog 15 #[.slice A l.length cap, .int .i64 i] w fun e w' => e = .returned (.tuple #[.slice none 0 0, .int .i64 2]) ∧ w = w' := by
  rcases h with h | h
  · go_enter Tryd.func15, Tryd.ntmps15
    go_wp2_with fail
    go_ret2
    exact ⟨rfl, rfl⟩
  · have h' : decide (i < 0) = false := by simp; omega
    go_enter Tryd.func15, Tryd.ntmps15
    go_wp2_with fail
    go_ret2
    exact ⟨rfl, rfl⟩

set_option maxRecDepth 100000 in
set_option maxHeartbeats 4000000 in
theorem refproof_walk : ∀ (n : Nat) (A : Option Addr) (l : List ByteArray) (cap i : Nat), l.length = n → n ≤ 1000 → n ≤ cap → cap ≤ maxLen → i < n → (∀ s ∈ l, s.size ≤ 100000) → ∀ w, LAt w w.heap.size A .string l →
    Calls Tryd.prog 15 #[.slice A n cap, .int .i64 i] w fun e w' => (∃ v, e = .returned (.tuple #[v, .int .i64 0]) ∧ StrL w' w.heap.size v (proofS l i)) ∧ Below w.heap.size w w' := by
  intro n
  induction n using Nat.strongRecOn with
  | ind n ih =>
    intro A l cap i hn hl hc hcm hi hs w hA
    unfold maxLen at hcm
    have q1 : decide ((i : Int) < 0) = false := by simp
    have q2 : decide (n ≤ i) = false := by simp; omega
    rcases Nat.lt_or_ge n 2 with h2 | h2
    · obtain rfl : n = 1 := by omega
      have hp := proofS_one (l := l) (i := i) (by omega)
      have HP := Lib.hid hp
      clear hp hA ih hs hn
      go_enter Tryd.func15, Tryd.ntmps15
      go_wp2_with fail
      go_ret2
      exact ⟨⟨_, rfl, by rw [HP.out]; exact OL.nil⟩, Below.refl _ _⟩
    · have hp2 := proofS_two i (l := l) (by rw [hn]; exact h2)
      rw [hn] at hp2
      obtain ⟨k0, k1, k2⟩ := leftN_ok h2
      have hle := refleft_walk n h2 (by omega) w
      obtain ⟨k, hk⟩ : ∃ k, leftN n = k := ⟨_, rfl⟩
      rw [hk] at hp2 k0 k1 k2 hle
      obtain ⟨a, rfl, hab, -⟩ := hA.get (i := 0) (by rw [hn]; omega)
      have hl1 : (l.take k).length = k := by rw [List.length_take, hn]; omega
      have hl2 : (l.drop k).length = n - k := by rw [List.length_drop, hn]
      have z1 : (0 : Int) ≤ (k : Int) := by omega
      have z2 : (k : Int) ≤ (n : Int) := by omega
      have z3 : (k : Int) ≤ (cap : Int) := by omega
      have z4 : ¬ cap = k := by omega
      have z5 : ¬ k = cap := by omega
      have z6 : k ≤ n := by omega
      have z7 : (n : Int) ≤ (cap : Int) := by omega
      have d1 : ((n : Int) == 1) = false := by simp; omega
      have HLE := Lib.hid hle
      have C1 := Lib.hid (show ∀ W, Below w.heap.size w W → Calls Tryd.prog 20 #[.slice (some a) k cap] W fun e W' => e = .returned (.string (rootS (l.take k))) ∧ Below W.heap.size W W' from fun W hb =>
        refroot_walk k (some a) (l.take k) cap hl1 (by omega) (by omega) (by unfold maxLen; omega) (fun s h => hs s (List.mem_of_mem_take h)) W (((hA.below hb).more hb.size).take k))
      have C2 := Lib.hid (show ∀ W, Below w.heap.size w W → Calls Tryd.prog 20 #[.slice (some (a.add k)) (n - k) (cap - k)] W fun e W' => e = .returned (.string (rootS (l.drop k))) ∧ Below W.heap.size W W' from fun W hb =>
        refroot_walk (n - k) (some (a.add k)) (l.drop k) (cap - k) hl2 (by omega) (by omega) (by unfold maxLen; omega) (fun s h => hs s (List.mem_of_mem_drop h)) W (((hA.below hb).more hb.size).drop k))
      by_cases hik : i < k
      · rw [if_pos hik] at hp2
        have hP := ih k (by omega) (some a) (l.take k) cap i hl1 (by omega) (by omega) (by unfold maxLen; omega) hik (fun s h => hs s (List.mem_of_mem_take h)) w (hA.take k)
        have hpl : (proofS (l.take k) i).length ≤ 1000 := by have := proofS_binN (l.take k) i; rw [hl1] at this; have := binN_le (n := k) (k := 10) (by omega); omega
        obtain ⟨P, hPP⟩ : ∃ P, proofS (l.take k) i = P := ⟨_, rfl⟩
        obtain ⟨R, hRR⟩ : ∃ R, rootS (l.drop k) = R := ⟨_, rfl⟩
        rw [hRR] at C2
        have d3 : decide (i < k) = true := by simp [hik]
        rw [hPP, hRR] at hp2
        rw [hPP] at hP hpl
        obtain ⟨np, hnp⟩ : ∃ np, P.length = np := ⟨_, rfl⟩
        rw [hnp] at hpl
        have HNP := Lib.hid hnp
        have HP := Lib.hid hP
        have HP2 := Lib.hid hp2
        clear hP hp2 hPP hRR hnp hle hk hA hl1 hl2 ih hs hn hik
        go_enter Tryd.func15, Tryd.ntmps15
        go_wp2_with fail
        refine HLE.out.mono ?_
        rintro e w' ⟨rfl, rfl⟩
        go_wp2_with fail
        refine HP.out.mono ?_
        rintro e w1 ⟨⟨v1, rfl, h1⟩, hb1⟩
        go_wp2_with fail
        refine (C2.out _ hb1).mono ?_
        rintro e w2 ⟨rfl, hb2⟩
        have hz1 := hb1.size
        have hz2 := hb2.size
        have HB2 := Lib.hid (hb1.trans (hb2.mono hz1))
        have H1 := Lib.hid (h1.below hb2 (Nat.le_refl _))
        clear h1 hb1 hb2
        go_wp2_with (at_builtin; refine wpList_app rfl (.tmp 36) (.tmp 41) 22 rfl elemStr _ P np HNP.out rfl (H1.out.alloc _) R w2.heap.size #[.string R] rfl ?hc rfl rfl (by simp [one, Value.oneCell']) (by rw [HNP.out]; unfold maxLen; omega) (by rw [HNP.out]; omega) (by simp; omega) ?_; (case hc => exact World.alloc_heap_new _ _); intro g3 c3 w3 h3 hg3 hg3' hg3l hb3)
        go_ret2
        exact ⟨⟨_, rfl, by rw [HP2.out]; exact h3⟩, (HB2.out.alloc (by omega) _).trans hb3⟩
      · rw [if_neg hik] at hp2
        have hP := ih (n - k) (by omega) (some (a.add k)) (l.drop k) (cap - k) (i - k) hl2 (by omega) (by omega) (by unfold maxLen; omega) (by omega) (fun s h => hs s (List.mem_of_mem_drop h)) w (hA.drop k)
        have hpl : (proofS (l.drop k) (i - k)).length ≤ 1000 := by have := proofS_binN (l.drop k) (i - k); rw [hl2] at this; have := binN_le (n := n - k) (k := 10) (by omega); omega
        obtain ⟨P, hPP⟩ : ∃ P, proofS (l.drop k) (i - k) = P := ⟨_, rfl⟩
        obtain ⟨R, hRR⟩ : ∃ R, rootS (l.take k) = R := ⟨_, rfl⟩
        rw [hRR] at C1
        obtain ⟨i2, hi2⟩ : ∃ i2, i - k = i2 := ⟨_, rfl⟩
        rw [hi2] at hP hPP hpl hp2
        have e1 : (i : Int) - (k : Int) = (i2 : Int) := by omega
        have e2 : IntKind.i64.wrap (i2 : Int) = (i2 : Int) := by rw [IntKind.wrap_i64]; omega
        have d3 : decide (i < k) = false := by simp; omega
        rw [hPP, hRR] at hp2
        rw [hPP] at hP hpl
        obtain ⟨np, hnp⟩ : ∃ np, P.length = np := ⟨_, rfl⟩
        rw [hnp] at hpl
        have HNP := Lib.hid hnp
        have HP := Lib.hid hP
        have HP2 := Lib.hid hp2
        clear hP hp2 hPP hRR hnp hle hk hA hl1 hl2 ih hs hn hik hi2
        go_enter Tryd.func15, Tryd.ntmps15
        go_wp2_with fail
        refine HLE.out.mono ?_
        rintro e w' ⟨rfl, rfl⟩
        go_wp2_with fail
        refine HP.out.mono ?_
        rintro e w1 ⟨⟨v1, rfl, h1⟩, hb1⟩
        go_wp2_with fail
        refine (C1.out _ hb1).mono ?_
        rintro e w2 ⟨rfl, hb2⟩
        have hz1 := hb1.size
        have hz2 := hb2.size
        have HB2 := Lib.hid (hb1.trans (hb2.mono hz1))
        have H1 := Lib.hid (h1.below hb2 (Nat.le_refl _))
        clear h1 hb1 hb2
        go_wp2_with (at_builtin; refine wpList_app rfl (.tmp 53) (.tmp 58) 22 rfl elemStr _ P np HNP.out rfl (H1.out.alloc _) R w2.heap.size #[.string R] rfl ?hc rfl rfl (by simp [one, Value.oneCell']) (by rw [HNP.out]; unfold maxLen; omega) (by rw [HNP.out]; omega) (by simp; omega) ?_; (case hc => exact World.alloc_heap_new _ _); intro g3 c3 w3 h3 hg3 hg3' hg3l hb3)
        go_ret2
        exact ⟨⟨_, rfl, by rw [HP2.out]; exact h3⟩, (HB2.out.alloc (by omega) _).trans hb3⟩

set_option maxRecDepth 100000 in
set_option maxHeartbeats 8000000 in
theorem refpart_walk : ∀ (n : Nat) (A : Option Addr) (l : List ByteArray) (cap m : Nat) (whole : Bool), l.length = n → n ≤ 1000 → n ≤ cap → cap ≤ maxLen → 1 ≤ m → m ≤ n → (∀ s ∈ l, s.size ≤ 100000) → ∀ w, LAt w w.heap.size A .string l →
    Calls Tryd.prog 43 #[.slice A n cap, .int .i64 m, .bool whole] w fun e w' => (∃ v, e = .returned v ∧ StrL w' w.heap.size v (extS l m whole)) ∧ Below w.heap.size w w' := by
  intro n
  induction n using Nat.strongRecOn with
  | ind n ih =>
    intro A l cap m whole hn hl hc hcm hm0 hmn hs w hA
    rcases Nat.eq_or_lt_of_le hmn with he | h2
    · subst he
      have hx := extS_done (l := l) (m := m) whole (by omega)
      have HX := Lib.hid hx
      have C1 := Lib.hid (refroot_walk m A l cap hn hl hc hcm hs w hA)
      have d1 : ((m : Int) == (m : Int)) = true := by simp
      unfold maxLen at hcm
      clear hx hA ih hs hn
      cases whole
      · go_enter Tryd.func43, Tryd.ntmps43
        go_wp2_with fail
        refine C1.out.mono ?_
        rintro e w1 ⟨rfl, hb1⟩
        have hz1 := hb1.size
        go_wp2_with fail
        go_ret
        exact ⟨⟨_, rfl, by rw [HX.out]; exact OL.lit1 w1 _ hz1⟩, hb1.alloc hz1 _⟩
      · go_enter Tryd.func43, Tryd.ntmps43
        go_wp2_with fail
        go_ret
        exact ⟨⟨_, rfl, by rw [HX.out]; exact OL.nil⟩, Below.refl _ _⟩
    · have hx := extS_step (l := l) whole hm0 (by rw [hn]; exact h2)
      rw [hn] at hx
      obtain ⟨k0, k1, k2⟩ := leftN_ok (n := n) (by omega)
      have hle := refleft_walk n (by omega) (by omega) w
      obtain ⟨k, hk⟩ : ∃ k, leftN n = k := ⟨_, rfl⟩
      rw [hk] at hx k0 k1 k2 hle
      obtain ⟨a, rfl, hab, -⟩ := hA.get (i := 0) (by rw [hn]; omega)
      have hl1 : (l.take k).length = k := by rw [List.length_take, hn]; omega
      have hl2 : (l.drop k).length = n - k := by rw [List.length_drop, hn]
      unfold maxLen at hcm
      have z1 : (0 : Int) ≤ (k : Int) := by omega
      have z2 : (k : Int) ≤ (n : Int) := by omega
      have z3 : (k : Int) ≤ (cap : Int) := by omega
      have z4 : ¬ cap = k := by omega
      have z5 : ¬ k = cap := by omega
      have z6 : k ≤ n := by omega
      have z7 : (n : Int) ≤ (cap : Int) := by omega
      have d1 : ((m : Int) == (n : Int)) = false := by simp; omega
      have HLE := Lib.hid hle
      have hS0 : Below w.heap.size w w.drew := (Below.refl _ _).drew
      by_cases hik : m ≤ k
      · rw [if_pos hik] at hx
        have CR := Lib.hid (show ∀ W, Below w.heap.size w W → Calls Tryd.prog 20 #[.slice (some (a.add k)) (n - k) (cap - k)] W fun e W' => e = .returned (.string (rootS (l.drop k))) ∧ Below W.heap.size W W' from fun W hb =>
          refroot_walk (n - k) (some (a.add k)) (l.drop k) (cap - k) hl2 (by omega) (by omega) (by unfold maxLen; omega) (fun s h => hs s (List.mem_of_mem_drop h)) W (((hA.below hb).more hb.size).drop k))
        have CP := Lib.hid (show ∀ W, Below w.heap.size w W → Calls Tryd.prog 43 #[.slice (some a) k cap, .int .i64 m, .bool whole] W fun e W' => (∃ v, e = .returned v ∧ StrL W' W.heap.size v (extS (l.take k) m whole)) ∧ Below W.heap.size W W' from fun W hb =>
          ih k (by omega) (some a) (l.take k) cap m whole hl1 (by omega) (by omega) (by unfold maxLen; omega) hm0 hik (fun s h => hs s (List.mem_of_mem_take h)) W (((hA.below hb).more hb.size).take k))
        have hpl : (extS (l.take k) m whole).length ≤ 2000 := by have := exF_length (l.take k).length (l.take k) m whole; rw [hl1] at this; unfold extS; rw [hl1]; omega
        obtain ⟨P, hPP⟩ : ∃ P, extS (l.take k) m whole = P := ⟨_, rfl⟩
        obtain ⟨R, hRR⟩ : ∃ R, rootS (l.drop k) = R := ⟨_, rfl⟩
        have d3 : decide (m ≤ k) = true := by simp [hik]
        rw [hPP, hRR] at hx
        rw [hRR] at CR
        rw [hPP] at CP hpl
        obtain ⟨np, hnp⟩ : ∃ np, P.length = np := ⟨_, rfl⟩
        rw [hnp] at hpl
        have HNP := Lib.hid hnp
        have HX := Lib.hid hx
        clear hx hPP hRR hnp hle hk hA hl1 hl2 ih hs hn hik
        go_enter Tryd.func43, Tryd.ntmps43
        go_wp2_with fail
        refine HLE.out.mono ?_
        rintro e w' ⟨rfl, rfl⟩
        go_wp2_with fail
        refine wp_region_noPanic ?_
        refine wp_region_held_drew (S := fun w' => Below w.heap.size w w') (by kernel_rfl) hS0 (fun hHeld => ?_)
        refine wpAnyH_take (i := 0) (oi := { dst := some 22, op := Op.move (Operand.tmp 0), type := 22, pos := "ref.go:181", after := #[], guard := none }) (v := ?_) rfl (by kernel_rfl) (by kernel_rfl) (by kernel_rfl) (fun _ _ _ h => h) (Or.inl ⟨by rfl, ?_⟩) (by assumption) ?_
        rotate_left
        · intro w hSw; (try dsimp only at hSw); go_simp <;> with_reducible rfl
        try simp only [Act.put, List.setIfInBounds_toArray, List.set_cons_zero, List.set_cons_succ]
        refine wpAnyH_take (i := 1) (oi := { dst := some 23, op := Op.move (Operand.tmp 7), type := 3, pos := "ref.go:181", after := #[], guard := none }) (v := ?_) rfl (by kernel_rfl) (by kernel_rfl) (by kernel_rfl) (fun _ _ _ h => h) (Or.inl ⟨by rfl, ?_⟩) (by assumption) ?_
        rotate_left
        · intro w hSw; (try dsimp only at hSw); go_simp <;> with_reducible rfl
        try simp only [Act.put, List.setIfInBounds_toArray, List.set_cons_zero, List.set_cons_succ]
        refine wpAnyH_take (i := 2) (oi := { dst := some 24, op := Op.slice 22 (Operand.tmp 22) none (some (Operand.tmp 23)) none, type := 22, pos := "ref.go:181", after := #[{ on := 0, ground := Ground.data }, { on := 1, ground := Ground.data }], guard := none }) (v := ?_) rfl (by kernel_rfl) (by kernel_rfl) (by kernel_rfl) (fun _ _ _ h => h) (Or.inl ⟨by rfl, ?_⟩) (by assumption) ?_
        rotate_left
        · intro w hSw; (try dsimp only at hSw); go_simp <;> with_reducible rfl
        try simp only [Act.put, List.setIfInBounds_toArray, List.set_cons_zero, List.set_cons_succ]
        refine wpAnyH_take (i := 3) (oi := { dst := some 25, op := Op.move (Operand.tmp 1), type := 3, pos := "ref.go:181", after := #[], guard := none }) (v := ?_) rfl (by kernel_rfl) (by kernel_rfl) (by kernel_rfl) (fun _ _ _ h => h) (Or.inl ⟨by rfl, ?_⟩) (by assumption) ?_
        rotate_left
        · intro w hSw; (try dsimp only at hSw); go_simp <;> with_reducible rfl
        try simp only [Act.put, List.setIfInBounds_toArray, List.set_cons_zero, List.set_cons_succ]
        refine wpAnyH_take (i := 4) (oi := { dst := some 26, op := Op.move (Operand.tmp 2), type := 4, pos := "ref.go:181", after := #[], guard := none }) (v := ?_) rfl (by kernel_rfl) (by kernel_rfl) (by kernel_rfl) (fun _ _ _ h => h) (Or.inl ⟨by rfl, ?_⟩) (by assumption) ?_
        rotate_left
        · intro w hSw; (try dsimp only at hSw); go_simp <;> with_reducible rfl
        try simp only [Act.put, List.setIfInBounds_toArray, List.set_cons_zero, List.set_cons_succ]
        refine wpAnyH_take (i := 6) (oi := { dst := some 28, op := Op.move (Operand.tmp 0), type := 22, pos := "ref.go:181", after := #[], guard := none }) (v := ?_) rfl (by kernel_rfl) (by kernel_rfl) (by kernel_rfl) (fun _ _ _ h => h) (Or.inl ⟨by rfl, ?_⟩) (by assumption) ?_
        rotate_left
        · intro w hSw; (try dsimp only at hSw); go_simp <;> with_reducible rfl
        try simp only [Act.put, List.setIfInBounds_toArray, List.set_cons_zero, List.set_cons_succ]
        refine wpAnyH_take (i := 7) (oi := { dst := some 29, op := Op.move (Operand.tmp 7), type := 3, pos := "ref.go:181", after := #[], guard := none }) (v := ?_) rfl (by kernel_rfl) (by kernel_rfl) (by kernel_rfl) (fun _ _ _ h => h) (Or.inl ⟨by rfl, ?_⟩) (by assumption) ?_
        rotate_left
        · intro w hSw; (try dsimp only at hSw); go_simp <;> with_reducible rfl
        try simp only [Act.put, List.setIfInBounds_toArray, List.set_cons_zero, List.set_cons_succ]
        refine wpAnyH_take (i := 8) (oi := { dst := some 30, op := Op.slice 22 (Operand.tmp 28) (some (Operand.tmp 29)) none none, type := 22, pos := "ref.go:181", after := #[{ on := 6, ground := Ground.data }, { on := 7, ground := Ground.data }], guard := none }) (v := ?_) rfl (by kernel_rfl) (by kernel_rfl) (by kernel_rfl) (fun _ _ _ h => h) (Or.inl ⟨by rfl, ?_⟩) (by assumption) ?_
        rotate_left
        · intro w hSw; (try dsimp only at hSw); go_simp <;> with_reducible rfl
        try simp only [Act.put, List.setIfInBounds_toArray, List.set_cons_zero, List.set_cons_succ]
        refine wpAnyH_ready (rs := [5]) (by kernel_rfl) (by simp) ?_
        refine AllReadyH.cons (o := { dst := some 27, op := Op.call { callee := Callee.value (Operand.func 43), args := #[Operand.tmp 24, Operand.tmp 25, Operand.tmp 26], argTypes := #[22, 3, 4] }, type := 22, pos := "ref.go:181", after := #[{ on := 2, ground := Ground.data }, { on := 3, ground := Ground.data }, { on := 4, ground := Ground.data }], guard := none }) rfl (fun K hK => ?_) ?_
        · go_simp
          go_at_call 43
          refine (CP.out _ (by assumption)).mono ?_
          rintro e W1 ⟨⟨v1, rfl, h1⟩, hb1⟩
          try go_wp2_with fail
          refine hK.out _ _ ((by assumption : Below w.heap.size w _).trans (hb1.mono (by assumption : Below w.heap.size w _).size)) (fun hHeld => ?_)
          clear hK K
          try simp only [Act.put, List.setIfInBounds_toArray, List.set_cons_zero, List.set_cons_succ]
          refine wpAnyH_ready (rs := [9]) (by kernel_rfl) (by simp) ?_
          refine AllReadyH.cons (o := { dst := some 31, op := Op.call { callee := Callee.value (Operand.func 20), args := #[Operand.tmp 30], argTypes := #[22] }, type := 9, pos := "ref.go:181", after := #[{ on := 8, ground := Ground.data }, { on := 5, ground := Ground.chain }], guard := none }) rfl (fun K hK => ?_) ?_
          · go_simp
            go_at_call 20
            refine (CR.out _ (by assumption)).mono ?_
            rintro e W2 ⟨rfl, hb2⟩
            try go_wp2_with fail
            refine hK.out _ _ ((by assumption : Below w.heap.size w _).trans (hb2.mono (by assumption : Below w.heap.size w _).size)) (fun hHeld => ?_)
            clear hK K
            try simp only [Act.put, List.setIfInBounds_toArray, List.set_cons_zero, List.set_cons_succ]
            refine wpAnyH_ready (rs := [10]) (by kernel_rfl) (by simp) ?_
            refine AllReadyH.cons (o := { dst := some 32, op := Op.buildSlice 22 1 #[(0, Operand.tmp 31)], type := 22, pos := "ref.go:181", after := #[{ on := 9, ground := Ground.data }], guard := none }) rfl (fun K hK => ?_) ?_
            · go_simp
              refine hK.out _ _ ((by assumption : Below w.heap.size w _).alloc (by assumption : Below w.heap.size w _).size _) (fun hHeld => ?_)
              clear hK K
              try simp only [Act.put, List.setIfInBounds_toArray, List.set_cons_zero, List.set_cons_succ]
              refine wpAnyH_ready (rs := [11]) (by kernel_rfl) (by simp) ?_
              refine AllReadyH.cons (o := { dst := some 33, op := Op.call { callee := Callee.builtin Builtin.append, args := #[Operand.tmp 27, Operand.tmp 32], argTypes := #[22, 22] }, type := 22, pos := "ref.go:181", after := #[{ on := 5, ground := Ground.data }, { on := 10, ground := Ground.data }, { on := 9, ground := Ground.chain }], guard := none }) rfl (fun K hK => ?_) ?_
              · refine step_app (by rfl) (.tmp 27) (.tmp 32) 22 (by rfl) elemStr _ P np HNP.out (by rfl) (((h1.base (Nat.le_refl _)).below hb2 (Nat.le_refl _)).alloc _) R _ #[.string R] (by rfl) (World.alloc_heap_new _ _) (by rfl) (by rfl) (by simp [one, Value.oneCell']) (by rw [HNP.out]; unfold maxLen; omega) (by rw [HNP.out]; omega) ((by assumption : Below w.heap.size w _).size) ?_
                intro g3 c3 w3 h3 hg3 hg3' hg3l hb3
                refine hK.out _ _ ((by assumption : Below w.heap.size w _).trans hb3) (fun hHeld => ?_)
                clear hK K
                try simp only [Act.put, List.setIfInBounds_toArray, List.set_cons_zero, List.set_cons_succ]
                refine wpAnyH_take (i := 12) (oi := { dst := some 6, op := Op.assign (Operand.tmp 33), type := 22, pos := "ref.go:181", after := #[{ on := 11, ground := Ground.data }, { on := 11, ground := Ground.chain }, { on := 0, ground := Ground.phase }, { on := 1, ground := Ground.phase }, { on := 2, ground := Ground.phase }, { on := 3, ground := Ground.phase }, { on := 4, ground := Ground.phase }, { on := 5, ground := Ground.phase }, { on := 6, ground := Ground.phase }, { on := 7, ground := Ground.phase }, { on := 8, ground := Ground.phase }, { on := 9, ground := Ground.phase }, { on := 10, ground := Ground.phase }, { on := 11, ground := Ground.phase }], guard := none }) (v := ?_) rfl (by kernel_rfl) (by kernel_rfl) (by kernel_rfl) (fun _ _ _ h => h) (Or.inl ⟨by rfl, ?_⟩) (by assumption) ?_
                rotate_left
                · intro w hSw; (try dsimp only at hSw); go_simp <;> with_reducible rfl
                try simp only [Act.put, List.setIfInBounds_toArray, List.set_cons_zero, List.set_cons_succ]
                refine wpAnyH_done (by kernel_rfl) ?_ _
                refine NoPanic.normal ?_
                go_wp2_with fail
                go_ret
                exact ⟨⟨_, rfl, by rw [HX.out]; exact h3⟩, by assumption⟩
              exact AllReadyH.nil
            exact AllReadyH.nil
          exact AllReadyH.nil
        exact AllReadyH.nil
      · rw [if_neg hik] at hx
        have CR := Lib.hid (show ∀ W, Below w.heap.size w W → Calls Tryd.prog 20 #[.slice (some a) k cap] W fun e W' => e = .returned (.string (rootS (l.take k))) ∧ Below W.heap.size W W' from fun W hb =>
          refroot_walk k (some a) (l.take k) cap hl1 (by omega) (by omega) (by unfold maxLen; omega) (fun s h => hs s (List.mem_of_mem_take h)) W (((hA.below hb).more hb.size).take k))
        obtain ⟨m2, hm2⟩ : ∃ m2, m - k = m2 := ⟨_, rfl⟩
        rw [hm2] at hx
        have e1 : (m : Int) - (k : Int) = (m2 : Int) := by omega
        have e2 : IntKind.i64.wrap (m2 : Int) = (m2 : Int) := by rw [IntKind.wrap_i64]; omega
        have CP := Lib.hid (show ∀ W, Below w.heap.size w W → Calls Tryd.prog 43 #[.slice (some (a.add k)) (n - k) (cap - k), .int .i64 m2, .bool false] W fun e W' => (∃ v, e = .returned v ∧ StrL W' W.heap.size v (extS (l.drop k) m2 false)) ∧ Below W.heap.size W W' from fun W hb =>
          ih (n - k) (by omega) (some (a.add k)) (l.drop k) (cap - k) m2 false hl2 (by omega) (by omega) (by unfold maxLen; omega) (by omega) (by omega) (fun s h => hs s (List.mem_of_mem_drop h)) W (((hA.below hb).more hb.size).drop k))
        have hpl : (extS (l.drop k) m2 false).length ≤ 2000 := by have := exF_length (l.drop k).length (l.drop k) m2 false; rw [hl2] at this; unfold extS; rw [hl2]; omega
        obtain ⟨P, hPP⟩ : ∃ P, extS (l.drop k) m2 false = P := ⟨_, rfl⟩
        obtain ⟨R, hRR⟩ : ∃ R, rootS (l.take k) = R := ⟨_, rfl⟩
        have d3 : decide (m ≤ k) = false := by simp; omega
        rw [hPP, hRR] at hx
        rw [hRR] at CR
        rw [hPP] at CP hpl
        obtain ⟨np, hnp⟩ : ∃ np, P.length = np := ⟨_, rfl⟩
        rw [hnp] at hpl
        have HNP := Lib.hid hnp
        have HX := Lib.hid hx
        clear hx hPP hRR hnp hle hk hA hl1 hl2 ih hs hn hik hm2
        go_enter Tryd.func43, Tryd.ntmps43
        go_wp2_with fail
        refine HLE.out.mono ?_
        rintro e w' ⟨rfl, rfl⟩
        go_wp2_with fail
        refine wp_region_noPanic ?_
        refine wp_region_held_drew (S := fun w' => Below w.heap.size w w') (by kernel_rfl) hS0 (fun hHeld => ?_)
        refine wpAnyH_take (i := 0) (oi := { dst := some 34, op := Op.move (Operand.tmp 0), type := 22, pos := "ref.go:183", after := #[], guard := none }) (v := ?_) rfl (by kernel_rfl) (by kernel_rfl) (by kernel_rfl) (fun _ _ _ h => h) (Or.inl ⟨by rfl, ?_⟩) (by assumption) ?_
        rotate_left
        · intro w hSw; (try dsimp only at hSw); go_simp <;> with_reducible rfl
        try simp only [Act.put, List.setIfInBounds_toArray, List.set_cons_zero, List.set_cons_succ]
        refine wpAnyH_take (i := 1) (oi := { dst := some 35, op := Op.move (Operand.tmp 7), type := 3, pos := "ref.go:183", after := #[], guard := none }) (v := ?_) rfl (by kernel_rfl) (by kernel_rfl) (by kernel_rfl) (fun _ _ _ h => h) (Or.inl ⟨by rfl, ?_⟩) (by assumption) ?_
        rotate_left
        · intro w hSw; (try dsimp only at hSw); go_simp <;> with_reducible rfl
        try simp only [Act.put, List.setIfInBounds_toArray, List.set_cons_zero, List.set_cons_succ]
        refine wpAnyH_take (i := 2) (oi := { dst := some 36, op := Op.slice 22 (Operand.tmp 34) (some (Operand.tmp 35)) none none, type := 22, pos := "ref.go:183", after := #[{ on := 0, ground := Ground.data }, { on := 1, ground := Ground.data }], guard := none }) (v := ?_) rfl (by kernel_rfl) (by kernel_rfl) (by kernel_rfl) (fun _ _ _ h => h) (Or.inl ⟨by rfl, ?_⟩) (by assumption) ?_
        rotate_left
        · intro w hSw; (try dsimp only at hSw); go_simp <;> with_reducible rfl
        try simp only [Act.put, List.setIfInBounds_toArray, List.set_cons_zero, List.set_cons_succ]
        refine wpAnyH_take (i := 3) (oi := { dst := some 37, op := Op.move (Operand.tmp 1), type := 3, pos := "ref.go:183", after := #[], guard := none }) (v := ?_) rfl (by kernel_rfl) (by kernel_rfl) (by kernel_rfl) (fun _ _ _ h => h) (Or.inl ⟨by rfl, ?_⟩) (by assumption) ?_
        rotate_left
        · intro w hSw; (try dsimp only at hSw); go_simp <;> with_reducible rfl
        try simp only [Act.put, List.setIfInBounds_toArray, List.set_cons_zero, List.set_cons_succ]
        refine wpAnyH_take (i := 4) (oi := { dst := some 38, op := Op.move (Operand.tmp 7), type := 3, pos := "ref.go:183", after := #[], guard := none }) (v := ?_) rfl (by kernel_rfl) (by kernel_rfl) (by kernel_rfl) (fun _ _ _ h => h) (Or.inl ⟨by rfl, ?_⟩) (by assumption) ?_
        rotate_left
        · intro w hSw; (try dsimp only at hSw); go_simp <;> with_reducible rfl
        try simp only [Act.put, List.setIfInBounds_toArray, List.set_cons_zero, List.set_cons_succ]
        refine wpAnyH_take (i := 5) (oi := { dst := some 39, op := Op.binOp BinOp.sub 3 (Operand.tmp 37) (Operand.tmp 38) 3, type := 3, pos := "ref.go:183", after := #[{ on := 3, ground := Ground.data }, { on := 4, ground := Ground.data }], guard := none }) (v := ?_) rfl (by kernel_rfl) (by kernel_rfl) (by kernel_rfl) (fun _ _ _ h => h) (Or.inl ⟨by rfl, ?_⟩) (by assumption) ?_
        rotate_left
        · intro w hSw; (try dsimp only at hSw); go_simp <;> with_reducible rfl
        try simp only [Act.put, List.setIfInBounds_toArray, List.set_cons_zero, List.set_cons_succ]
        refine wpAnyH_take (i := 7) (oi := { dst := some 41, op := Op.move (Operand.tmp 0), type := 22, pos := "ref.go:183", after := #[], guard := none }) (v := ?_) rfl (by kernel_rfl) (by kernel_rfl) (by kernel_rfl) (fun _ _ _ h => h) (Or.inl ⟨by rfl, ?_⟩) (by assumption) ?_
        rotate_left
        · intro w hSw; (try dsimp only at hSw); go_simp <;> with_reducible rfl
        try simp only [Act.put, List.setIfInBounds_toArray, List.set_cons_zero, List.set_cons_succ]
        refine wpAnyH_take (i := 8) (oi := { dst := some 42, op := Op.move (Operand.tmp 7), type := 3, pos := "ref.go:183", after := #[], guard := none }) (v := ?_) rfl (by kernel_rfl) (by kernel_rfl) (by kernel_rfl) (fun _ _ _ h => h) (Or.inl ⟨by rfl, ?_⟩) (by assumption) ?_
        rotate_left
        · intro w hSw; (try dsimp only at hSw); go_simp <;> with_reducible rfl
        try simp only [Act.put, List.setIfInBounds_toArray, List.set_cons_zero, List.set_cons_succ]
        refine wpAnyH_take (i := 9) (oi := { dst := some 43, op := Op.slice 22 (Operand.tmp 41) none (some (Operand.tmp 42)) none, type := 22, pos := "ref.go:183", after := #[{ on := 7, ground := Ground.data }, { on := 8, ground := Ground.data }], guard := none }) (v := ?_) rfl (by kernel_rfl) (by kernel_rfl) (by kernel_rfl) (fun _ _ _ h => h) (Or.inl ⟨by rfl, ?_⟩) (by assumption) ?_
        rotate_left
        · intro w hSw; (try dsimp only at hSw); go_simp <;> with_reducible rfl
        try simp only [Act.put, List.setIfInBounds_toArray, List.set_cons_zero, List.set_cons_succ]
        refine wpAnyH_ready (rs := [6]) (by kernel_rfl) (by simp) ?_
        refine AllReadyH.cons (o := { dst := some 40, op := Op.call { callee := Callee.value (Operand.func 43), args := #[Operand.tmp 36, Operand.tmp 39, Operand.const (Value.bool false)], argTypes := #[22, 3, 4] }, type := 22, pos := "ref.go:183", after := #[{ on := 2, ground := Ground.data }, { on := 5, ground := Ground.data }], guard := none }) rfl (fun K hK => ?_) ?_
        · go_simp
          go_at_call 43
          refine (CP.out _ (by assumption)).mono ?_
          rintro e W1 ⟨⟨v1, rfl, h1⟩, hb1⟩
          try go_wp2_with fail
          refine hK.out _ _ ((by assumption : Below w.heap.size w _).trans (hb1.mono (by assumption : Below w.heap.size w _).size)) (fun hHeld => ?_)
          clear hK K
          try simp only [Act.put, List.setIfInBounds_toArray, List.set_cons_zero, List.set_cons_succ]
          refine wpAnyH_ready (rs := [10]) (by kernel_rfl) (by simp) ?_
          refine AllReadyH.cons (o := { dst := some 44, op := Op.call { callee := Callee.value (Operand.func 20), args := #[Operand.tmp 43], argTypes := #[22] }, type := 9, pos := "ref.go:183", after := #[{ on := 9, ground := Ground.data }, { on := 6, ground := Ground.chain }], guard := none }) rfl (fun K hK => ?_) ?_
          · go_simp
            go_at_call 20
            refine (CR.out _ (by assumption)).mono ?_
            rintro e W2 ⟨rfl, hb2⟩
            try go_wp2_with fail
            refine hK.out _ _ ((by assumption : Below w.heap.size w _).trans (hb2.mono (by assumption : Below w.heap.size w _).size)) (fun hHeld => ?_)
            clear hK K
            try simp only [Act.put, List.setIfInBounds_toArray, List.set_cons_zero, List.set_cons_succ]
            refine wpAnyH_ready (rs := [11]) (by kernel_rfl) (by simp) ?_
            refine AllReadyH.cons (o := { dst := some 45, op := Op.buildSlice 22 1 #[(0, Operand.tmp 44)], type := 22, pos := "ref.go:183", after := #[{ on := 10, ground := Ground.data }], guard := none }) rfl (fun K hK => ?_) ?_
            · go_simp
              refine hK.out _ _ ((by assumption : Below w.heap.size w _).alloc (by assumption : Below w.heap.size w _).size _) (fun hHeld => ?_)
              clear hK K
              try simp only [Act.put, List.setIfInBounds_toArray, List.set_cons_zero, List.set_cons_succ]
              refine wpAnyH_ready (rs := [12]) (by kernel_rfl) (by simp) ?_
              refine AllReadyH.cons (o := { dst := some 46, op := Op.call { callee := Callee.builtin Builtin.append, args := #[Operand.tmp 40, Operand.tmp 45], argTypes := #[22, 22] }, type := 22, pos := "ref.go:183", after := #[{ on := 6, ground := Ground.data }, { on := 11, ground := Ground.data }, { on := 10, ground := Ground.chain }], guard := none }) rfl (fun K hK => ?_) ?_
              · refine step_app (by rfl) (.tmp 40) (.tmp 45) 22 (by rfl) elemStr _ P np HNP.out (by rfl) (((h1.base (Nat.le_refl _)).below hb2 (Nat.le_refl _)).alloc _) R _ #[.string R] (by rfl) (World.alloc_heap_new _ _) (by rfl) (by rfl) (by simp [one, Value.oneCell']) (by rw [HNP.out]; unfold maxLen; omega) (by rw [HNP.out]; omega) ((by assumption : Below w.heap.size w _).size) ?_
                intro g3 c3 w3 h3 hg3 hg3' hg3l hb3
                refine hK.out _ _ ((by assumption : Below w.heap.size w _).trans hb3) (fun hHeld => ?_)
                clear hK K
                try simp only [Act.put, List.setIfInBounds_toArray, List.set_cons_zero, List.set_cons_succ]
                refine wpAnyH_take (i := 13) (oi := { dst := some 6, op := Op.assign (Operand.tmp 46), type := 22, pos := "ref.go:183", after := #[{ on := 12, ground := Ground.data }, { on := 12, ground := Ground.chain }, { on := 0, ground := Ground.phase }, { on := 1, ground := Ground.phase }, { on := 2, ground := Ground.phase }, { on := 3, ground := Ground.phase }, { on := 4, ground := Ground.phase }, { on := 5, ground := Ground.phase }, { on := 6, ground := Ground.phase }, { on := 7, ground := Ground.phase }, { on := 8, ground := Ground.phase }, { on := 9, ground := Ground.phase }, { on := 10, ground := Ground.phase }, { on := 11, ground := Ground.phase }, { on := 12, ground := Ground.phase }], guard := none }) (v := ?_) rfl (by kernel_rfl) (by kernel_rfl) (by kernel_rfl) (fun _ _ _ h => h) (Or.inl ⟨by rfl, ?_⟩) (by assumption) ?_
                rotate_left
                · intro w hSw; (try dsimp only at hSw); go_simp <;> with_reducible rfl
                try simp only [Act.put, List.setIfInBounds_toArray, List.set_cons_zero, List.set_cons_succ]
                refine wpAnyH_done (by kernel_rfl) ?_ _
                refine NoPanic.normal ?_
                go_wp2_with fail
                go_ret
                exact ⟨⟨_, rfl, by rw [HX.out]; exact h3⟩, by assumption⟩
              exact AllReadyH.nil
            exact AllReadyH.nil
          exact AllReadyH.nil
        exact AllReadyH.nil

end Go.Proofs.YtjelniemoambaaaDoor
