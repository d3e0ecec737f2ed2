/-
  The law DiskMatchesReference answers true for all arguments. Conditions: the arguments are such as the row reads.
-/
import Derived.Test.YtmpjoncemgangaaDiskY
namespace Go.Proofs.Ytmpjoncemgangaa
open Go Go.RowKit Go.Shelf Go.Sort Go.ChangeShapes Go.WideShapes Go.Deep

set_option maxRecDepth 100000 in
theorem open_stepsAt {H : Type} {enc : TypeId × Value → H} {W : World} {base : Nat} {sp : Nat → Bool} {held : Bool} {b0 : Nat} {r : Reach} {v : Value} {d : DataW H} {p : List MemPlace}
    (hv : Value.okWide Try.prog W r b0 32 v) (h : DataW.Trod enc Try.prog W base sp held 32 v d p) :
    ∃ (A : Option Addr) (l : List ST) (cap : Nat), v = .slice A l.length cap ∧ l.length ≤ cap ∧ cap ≤ maxLen ∧ CAt W W.heap.size A 5 ST.cells l ∧ ∀ y ∈ l, y.ok W := by
  refine open_rowsAt ST.cells (fun y => y.ok W) Try.underlying32 5 (by kernel_rfl) (by decide) (fun n cs x hl ht => ?_) hv h
  obtain ⟨ys, m, _, _, _, hyl, hf⟩ := DataW.trod_struct Try.underlying39 ht
  match cs, hl with
  | [c0, c1, c2, c3, c4], _ =>
    have h0 := hf 0 _ rfl
    have h1 := hf 1 _ rfl
    have h2 := hf 2 _ rfl
    have h3 := hf 3 _ rfl
    have h4 := hf 4 _ rfl
    match ys, hyl with
    | [y0, y1, y2, y3, y4], _ =>
      obtain ⟨z0, e0, _, w0⟩ := DataW.trod_int Try.underlying3 (x := y0) (cs := [c0]) h0
      obtain ⟨z1, e1, _, w1⟩ := DataW.trod_int Try.underlying3 (x := y1) (cs := [c1]) h1
      obtain ⟨z2, e2, _, w2⟩ := DataW.trod_int Try.underlying3 (x := y2) (cs := [c2]) h2
      obtain ⟨s, e3, _, w3⟩ := DataW.trod_string Try.underlying9 (x := y3) (cs := [c3]) h3
      simp only [List.cons.injEq, and_true] at e0 e1 e2 e3
      subst e0 e1 e2 e3
      rcases open_ints (cs := [c4]) (x := y4) Try.underlying37 Try.underlying3 (by kernel_rfl) h4 with ⟨e4, _⟩ | ⟨a, len, cap, zs, e4, _, hl4, hm4, hz, _, hx4, hw4⟩
      · simp only [List.cons.injEq, and_true] at e4
        subst e4
        exact ⟨⟨z0, z1, z2, s, none, [], 0⟩, rfl, (bounds_i64 w0).1, (bounds_i64 w0).2, (bounds_i64 w2).2, w3, Nat.le_refl _, LAt.nil, by simp⟩
      · simp only [List.cons.injEq, and_true] at e4
        subst e4
        have hlm : len ≤ zs.length := by rw [hz]; split <;> omega
        have hlen : (zs.take len).length = len := by rw [List.length_take]; omega
        unfold maxLen at hm4
        refine ⟨⟨z0, z1, z2, s, some a, zs.take len, cap⟩, by unfold ST.cells; rw [hlen], (bounds_i64 w0).1, (bounds_i64 w0).2, (bounds_i64 w2).2, w3, by rw [hlen]; exact hl4, fun i x hi => ?_, by rw [hlen]; omega⟩
        rw [List.getElem?_take] at hi
        split at hi
        · have hi3 : i < zs.length := by omega
          have := hx4 i hi3
          rw [List.getD_eq_getElem?_getD, hi] at this
          exact ⟨a, rfl, by have := cell_lt this; rwa [addr_add_block] at this, this⟩
        · cases hi

set_option maxRecDepth 100000 in
set_option maxHeartbeats 16000000 in
theorem matches_walk (W : World) (z : Int) (A : Option Addr) (l : List ST) (cap : Nat) (h1 : -9223372036854775808 ≤ z) (h2 : z ≤ 9223372036854775807) (hA : CAt W W.heap.size A 5 ST.cells l) (hok : ∀ y ∈ l, y.ok W) :
    Calls Try.prog 4 #[.int .i64 z, .slice A l.length cap] W fun e W' => e = .returned (.bool true) ∧ Below W.heap.size W W' := by
  obtain ⟨q1, q2⟩ := pickZ_range z (n := 400) (by omega)
  have HP := Lib.hid (pick_walk (x := z) (n := 400) · h1 h2 (by omega) (by omega))
  obtain ⟨n, hn⟩ : ∃ n : Nat, 1 + pickZ z 400 = n := ⟨(1 + pickZ z 400).toNat, by omega⟩
  obtain ⟨q, hq⟩ : ∃ q, pickZ z 400 = q := ⟨_, rfl⟩
  rw [hq] at HP q1 q2 hn
  have w1 : IntKind.i64.wrap (1 + q) = (n : Int) := by rw [IntKind.wrap_i64]; omega
  have hn1 : 1 ≤ n := by omega
  have hn2 : n ≤ 400 := by omega
  have HA := Lib.hid hA
  have HOK := Lib.hid hok
  clear hn hq hA hok
  go_enter Try.func4, Try.ntmps4
  go_wp2_with fail
  refine (sane_walk W).mono ?_
  rintro e W1 ⟨rfl, hb⟩
  have HB := Lib.hid hb
  clear hb
  go_wp2_with fail
  refine (HP.out W1).mono ?_
  rintro e W2 ⟨rfl, rfl⟩
  go_wp2_with fail
  refine (new_walk (W := W1) n hn1 (by omega)).mono ?_
  rintro e W2 ⟨⟨d, gd, gv, F1, p1, rfl, hd1, hF1⟩, ht1⟩
  have H1 := Lib.hid (And.intro hd1 (And.intro hF1 ht1))
  clear hd1 hF1 ht1
  go_wp2_with fail
  refine (refnewD_walk (W := W2) n hn1 (by omega)).mono ?_
  rintro e W3 ⟨⟨x, g, cc, F2, p2, rfl, hd2, hF2⟩, ht2⟩
  have hL : Two W (fun _ => False) W3 n d (DS.fresh n) x (DS.fresh n) := by
    have z0 := HB.out.size
    have z1 := H1.out.2.2.size
    refine ⟨gd, gv, g, cc, F1, F2, p1, p2, H1.out.1.keep ht2 (fun _ _ e => e), hd2, fun k hk q => ?_, fun k hk => ⟨?_, fun e => e⟩, ((Turns.of_below HB.out).trans H1.out.2.2).trans ht2⟩
    · have a := H1.out.1.lf k hk; have b := hF2 k q; omega
    · rcases hk with hk | hk
      · have := H1.out.2.1 k hk; omega
      · have := hF2 k hk; omega
  have HL := Lib.hid hL
  clear hd2 hF2 ht2 hL
  go_wp2_with fail
  go_loopw [10, 11, 12, 13, 14] (fun v _ _ _ _ wr => ∃ (k : Nat) (s : DS), k ≤ l.length ∧ k ≤ 60 ∧ v = .int .i64 (k : Int) ∧ Two W (fun _ => False) wr n d s x s ∧ Hid (s.pend.length ≤ k ∧ s.left ≤ 9223372036854775807)) (fun v _ _ _ _ _ => 60 - (intOf v).toNat)
  case atStart => exact ⟨0, DS.fresh n, by omega, by omega, rfl, HL.out, Lib.hid ⟨Nat.le_refl _, Nat.zero_le _⟩⟩
  case round =>
    obtain ⟨k, s, hk1, hk2, rfl, hT, HC⟩ := hrel
    have HLk := Lib.hid hT
    clear hT HL
    by_cases hlt : k < l.length ∧ k < 60
    · have d1 : decide ((k : Int) < (l.length : Int)) = true := by simp [hlt]
      have d2 : decide ((k : Int) < 60) = true := by simp; omega
      have hlt2 := hlt.2
      replace hlt := hlt.1
      obtain ⟨y, hy⟩ : ∃ y, l[k] = y := ⟨_, rfl⟩
      have HY := Lib.hid (HOK.out y (by rw [← hy]; exact List.getElem_mem hlt))
      obtain ⟨a, rfl, hab, -⟩ := HA.out.get hlt
      have hcell : ∀ V : World, Below W.heap.size W V → ∀ j v, (y.cells)[j]? = some v → V.cell? (a.add (k * 5 + j)) = some v := fun V hV => by
        obtain ⟨a', e, -, hc⟩ := (HA.out.below hV).get hlt
        cases e
        rw [hy] at hc
        exact hc
      obtain ⟨c, off, m, str, kA, keep, kc⟩ := y
      have HSS : Hid (∀ V : World, Below W.heap.size W V → V.cell? (a.add (k * 5)) = some (.int .i64 c) ∧ V.cell? ⟨(a.add (k * 5)).block, (a.add (k * 5)).off + 1, none⟩ = some (.int .i64 off) ∧ V.cell? ⟨(a.add (k * 5)).block, (a.add (k * 5)).off + 2, none⟩ = some (.int .i64 m) ∧ V.cell? ⟨(a.add (k * 5)).block, (a.add (k * 5)).off + 3, none⟩ = some (.string str) ∧ V.cell? ⟨(a.add (k * 5)).block, (a.add (k * 5)).off + 4, none⟩ = some (.slice kA keep.length kc)) := Lib.hid (fun V hV => by
        have h := hcell V hV
        refine ⟨h 0 _ rfl, ?_, ?_, ?_, ?_⟩
        · have := h 1 _ rfl; rw [add_field a (k * 5) 0] at this; exact this
        · have := h 2 _ rfl; rw [add_field a (k * 5) 1] at this; exact this
        · have := h 3 _ rfl; rw [add_field a (k * 5) 2] at this; exact this
        · have := h 4 _ rfl; rw [add_field a (k * 5) 3] at this; exact this)
      have HST : Hid (∀ V : World, Below W.heap.size W V ∧ Two W (fun _ => False) V n d s x s → Calls Try.prog 19 #[.pointer (some ⟨d, 0, none⟩), .pointer (some ⟨x, 0, none⟩), .agg #[.int .i64 c, .int .i64 off, .int .i64 m, .string str, .slice kA keep.length kc]] V fun e V' => e = .returned (.bool true) ∧ ∃ s', Below W.heap.size W V' ∧ Two W (fun _ => False) V' n d s' x s' ∧ s'.pend.length ≤ s.pend.length + 1 ∧ s'.left ≤ 9223372036854775807) := Lib.hid (fun V hv => by
        refine (step_walk ⟨c, off, m, str, kA, keep, kc⟩ HY.out hv.2 (fun _ e => e.elim) hn1 (by have := HC.out.1; omega) HC.out.2).mono ?_
        rintro e V' ⟨rfl, ⟨s', h, hp, hl⟩, -⟩
        exact ⟨rfl, s', h.below, h, hp, hl⟩)
      have y1 : (0 : Int) ≤ (k : Int) := by omega
      have y2 : (k : Int) < (l.length : Int) := by omega
      have w2 : IntKind.i64.wrap ((k : Int) + 1) = ((k + 1 : Nat) : Int) := by rw [IntKind.wrap_i64]; omega
      have hb0 : Below W.heap.size W wr.drew ∧ Two W (fun _ => False) wr.drew n d s x s := ⟨Below.drewN' HLk.out.below 1, HLk.out.quiet (Turns.drew _)⟩
      clear hcell hy
      go_wp2_with fail
      refine wp_region_noPanic ?_
      refine wp_region_held_drew (S := fun w' => w'.cell? (a.add (k * 5)) = some (.int .i64 c) ∧ w'.cell? ⟨(a.add (k * 5)).block, (a.add (k * 5)).off + 1, none⟩ = some (.int .i64 off) ∧ w'.cell? ⟨(a.add (k * 5)).block, (a.add (k * 5)).off + 2, none⟩ = some (.int .i64 m) ∧ w'.cell? ⟨(a.add (k * 5)).block, (a.add (k * 5)).off + 3, none⟩ = some (.string str) ∧ w'.cell? ⟨(a.add (k * 5)).block, (a.add (k * 5)).off + 4, none⟩ = some (.slice kA keep.length kc)) (by kernel_rfl) (HSS.out _ hb0.1) (fun hHeld => ?_)
      refine wpAnyH_take (i := 0) (oi := { dst := some 45, op := Op.move (Operand.tmp 6), type := 23, pos := "law.go:94", after := #[], guard := none }) (v := ?_) rfl (by kernel_rfl) (by kernel_rfl) (by kernel_rfl) (fun _ _ _ h => h) (Or.inl ⟨by rfl, ?_⟩) (by assumption) ?_
      rotate_left
      · intro w hSw; (try dsimp only at hSw); go_simp <;> with_reducible rfl
      try simp only [Act.put, List.setIfInBounds_toArray, List.set_cons_zero, List.set_cons_succ]
      refine wpAnyH_take (i := 1) (oi := { dst := some 46, op := Op.move (Operand.tmp 8), type := 33, pos := "law.go:94", after := #[], guard := none }) (v := ?_) rfl (by kernel_rfl) (by kernel_rfl) (by kernel_rfl) (fun _ _ _ h => h) (Or.inl ⟨by rfl, ?_⟩) (by assumption) ?_
      rotate_left
      · intro w hSw; (try dsimp only at hSw); go_simp <;> with_reducible rfl
      try simp only [Act.put, List.setIfInBounds_toArray, List.set_cons_zero, List.set_cons_succ]
      refine wpAnyH_take (i := 2) (oi := { dst := some 47, op := Op.move (Operand.tmp 1), type := 32, pos := "law.go:94", after := #[], guard := none }) (v := ?_) rfl (by kernel_rfl) (by kernel_rfl) (by kernel_rfl) (fun _ _ _ h => h) (Or.inl ⟨by rfl, ?_⟩) (by assumption) ?_
      rotate_left
      · intro w hSw; (try dsimp only at hSw); go_simp <;> with_reducible rfl
      try simp only [Act.put, List.setIfInBounds_toArray, List.set_cons_zero, List.set_cons_succ]
      refine wpAnyH_take (i := 3) (oi := { dst := some 48, op := Op.move (Operand.tmp 10), type := 3, pos := "law.go:94", after := #[], guard := none }) (v := ?_) rfl (by kernel_rfl) (by kernel_rfl) (by kernel_rfl) (fun _ _ _ h => h) (Or.inl ⟨by rfl, ?_⟩) (by assumption) ?_
      rotate_left
      · intro w hSw; (try dsimp only at hSw); go_simp <;> with_reducible rfl
      try simp only [Act.put, List.setIfInBounds_toArray, List.set_cons_zero, List.set_cons_succ]
      refine wpAnyH_take (i := 4) (oi := { dst := some 49, op := Op.indexAddr 32 (Operand.tmp 47) (Operand.tmp 48), type := 0, pos := "law.go:94", after := #[{ on := 2, ground := Ground.data }, { on := 3, ground := Ground.data }], guard := none }) (v := ?_) rfl (by kernel_rfl) (by kernel_rfl) (by kernel_rfl) (fun _ _ _ h => h) (Or.inl ⟨by rfl, ?_⟩) (by assumption) ?_
      rotate_left
      · intro w hSw; (try dsimp only at hSw); go_simp <;> with_reducible rfl
      try simp only [Act.put, List.setIfInBounds_toArray, List.set_cons_zero, List.set_cons_succ]
      refine wpAnyH_take (i := 5) (oi := { dst := some 50, op := Op.load 39 (Operand.tmp 49), type := 39, pos := "law.go:94", after := #[{ on := 4, ground := Ground.data }], guard := none }) (v := ?_) rfl (by kernel_rfl) (by kernel_rfl) (by kernel_rfl) (fun _ _ _ h => h) (Or.inl ⟨by rfl, ?_⟩) (by assumption) ?_
      rotate_left
      · intro w hSw; (try dsimp only at hSw); go_simp <;> with_reducible rfl
      try simp only [Act.put, List.setIfInBounds_toArray, List.set_cons_zero, List.set_cons_succ]
      refine wpAnyH_ready (rs := [6]) (by kernel_rfl) (by simp) ?_
      refine AllReadyH.cons (o := { dst := some 51, op := Op.call { callee := Callee.value (Operand.func 19), args := #[Operand.tmp 45, Operand.tmp 46, Operand.tmp 50], argTypes := #[23, 33, 39] }, type := 4, pos := "law.go:94", after := #[{ on := 0, ground := Ground.data }, { on := 1, ground := Ground.data }, { on := 5, ground := Ground.data }], guard := none }) rfl (fun K hK => ?_) ?_
      · go_simp
        go_at_call 19
        with_reducible refine (HST.out _ (by assumption)).mono ?_
        rintro e V1 ⟨rfl, s', hb1, h2, hp2, hl2⟩
        obtain ⟨LA, lc, hc1⟩ := h2.log
        have H2 := Lib.hid (And.intro h2 (And.intro hp2 hl2))
        clear h2 hp2 hl2
        try go_wp2_with fail
        refine hK.out _ _ (HSS.out _ (by assumption)) (fun hHeld => ?_)
        clear hK K
        try simp only [Act.put, List.setIfInBounds_toArray, List.set_cons_zero, List.set_cons_succ]
        refine wpAnyH_take (i := 7) (oi := { dst := some 52, op := Op.unOp UnOp.not 4 (Operand.tmp 51), type := 4, pos := "law.go:94", after := #[{ on := 6, ground := Ground.data }], guard := none }) (v := ?_) rfl (by kernel_rfl) (by kernel_rfl) (by kernel_rfl) (fun _ _ _ h => h) (Or.inl ⟨by rfl, ?_⟩) (by assumption) ?_
        rotate_left
        · intro w hSw; (try dsimp only at hSw); go_simp <;> with_reducible rfl
        try simp only [Act.put, List.setIfInBounds_toArray, List.set_cons_zero, List.set_cons_succ]
        refine wpAnyH_take (i := 8) (oi := { dst := some 53, op := Op.move (Operand.tmp 52), type := 4, pos := "law.go:94", after := #[{ on := 7, ground := Ground.data }, { on := 6, ground := Ground.chain }], guard := none }) (v := ?_) rfl (by kernel_rfl) (by kernel_rfl) (by kernel_rfl) (fun _ _ _ h => h) (Or.inl ⟨by rfl, ?_⟩) (by assumption) ?_
        rotate_left
        · intro w hSw; (try dsimp only at hSw); go_simp <;> with_reducible rfl
        try simp only [Act.put, List.setIfInBounds_toArray, List.set_cons_zero, List.set_cons_succ]
        refine wpAnyH_take (i := 9) (oi := { dst := some 54, op := Op.move (Operand.tmp 6), type := 23, pos := "law.go:94", after := #[{ on := 8, ground := Ground.guard }], guard := some (8, false) }) (v := ?_) rfl (by kernel_rfl) (by kernel_rfl) (by kernel_rfl) (fun _ _ _ h => h) (Or.inl ⟨by rfl, ?_⟩) (by assumption) ?_
        rotate_left
        · intro w hSw; (try dsimp only at hSw); go_simp <;> with_reducible rfl
        try simp only [Act.put, List.setIfInBounds_toArray, List.set_cons_zero, List.set_cons_succ]
        refine wpAnyH_take (i := 11) (oi := { dst := some 56, op := Op.move (Operand.tmp 8), type := 33, pos := "law.go:94", after := #[{ on := 8, ground := Ground.guard }], guard := some (8, false) }) (v := ?_) rfl (by kernel_rfl) (by kernel_rfl) (by kernel_rfl) (fun _ _ _ h => h) (Or.inl ⟨by rfl, ?_⟩) (by assumption) ?_
        rotate_left
        · intro w hSw; (try dsimp only at hSw); go_simp <;> with_reducible rfl
        try simp only [Act.put, List.setIfInBounds_toArray, List.set_cons_zero, List.set_cons_succ]
        refine wpAnyH_take (i := 12) (oi := { dst := some 57, op := Op.nilCheck (Operand.tmp 56), type := 0, pos := "law.go:94", after := #[{ on := 11, ground := Ground.data }, { on := 8, ground := Ground.guard }], guard := some (8, false) }) (v := ?_) rfl (by kernel_rfl) (by kernel_rfl) (by kernel_rfl) (fun _ _ _ h => h) (Or.inl ⟨by rfl, ?_⟩) (by assumption) ?_
        rotate_left
        · intro w hSw; (try dsimp only at hSw); go_simp <;> with_reducible rfl
        try simp only [Act.put, List.setIfInBounds_toArray, List.set_cons_zero, List.set_cons_succ]
        refine wpAnyH_take (i := 13) (oi := { dst := some 58, op := Op.fieldAddr 43 (Operand.tmp 57) 1, type := 0, pos := "law.go:94", after := #[{ on := 12, ground := Ground.data }, { on := 8, ground := Ground.guard }], guard := some (8, false) }) (v := ?_) rfl (by kernel_rfl) (by kernel_rfl) (by kernel_rfl) (fun _ _ _ h => h) (Or.inl ⟨by rfl, ?_⟩) (by assumption) ?_
        rotate_left
        · intro w hSw; (try dsimp only at hSw); go_simp <;> with_reducible rfl
        try simp only [Act.put, List.setIfInBounds_toArray, List.set_cons_zero, List.set_cons_succ]
        refine wpAnyH_ready (rs := [10, 14]) (by kernel_rfl) (by simp) ?_
        refine AllReadyH.cons (o := { dst := some 55, op := Op.call { callee := Callee.value (Operand.func 17), args := #[Operand.tmp 54], argTypes := #[23] }, type := 3, pos := "law.go:94", after := #[{ on := 9, ground := Ground.data }, { on := 8, ground := Ground.chain }, { on := 8, ground := Ground.guard }], guard := some (8, false) }) rfl (fun K hK => ?_) ?_
        · go_simp
          go_at_call 17
          refine (H2.out.1.pending).mono ?_
          rintro e V9 ⟨rfl, rfl⟩
          try go_wp2_with fail
          refine hK.out _ _ (HSS.out _ (by assumption)) (fun hHeld => ?_)
          clear hK K
          try simp only [Act.put, List.setIfInBounds_toArray, List.set_cons_zero, List.set_cons_succ]
          refine wpAnyH_ready (rs := [14]) (by kernel_rfl) (by simp) ?_
          refine AllReadyH.cons (o := { dst := some 59, op := Op.load 41 (Operand.tmp 58), type := 41, pos := "law.go:94", after := #[{ on := 13, ground := Ground.data }, { on := 8, ground := Ground.guard }], guard := some (8, false) }) rfl (fun K hK => ?_) ?_
          · go_simp
            try go_wp2_with fail
            refine hK.out _ _ (HSS.out _ (by assumption)) (fun hHeld => ?_)
            clear hK K
            try simp only [Act.put, List.setIfInBounds_toArray, List.set_cons_zero, List.set_cons_succ]
            refine wpAnyH_take (i := 15) (oi := { dst := some 60, op := Op.call { callee := Callee.builtin Builtin.len, args := #[Operand.tmp 59], argTypes := #[41] }, type := 3, pos := "law.go:94", after := #[{ on := 14, ground := Ground.data }, { on := 8, ground := Ground.guard }], guard := some (8, false) }) (v := ?_) rfl (by kernel_rfl) (by kernel_rfl) (by kernel_rfl) (fun _ _ _ h => h) (Or.inl ⟨by rfl, ?_⟩) (by assumption) ?_
            rotate_left
            · intro w hSw; (try dsimp only at hSw); go_simp <;> with_reducible rfl
            try simp only [Act.put, List.setIfInBounds_toArray, List.set_cons_zero, List.set_cons_succ]
            refine wpAnyH_take (i := 16) (oi := { dst := some 61, op := Op.binOp BinOp.neq 3 (Operand.tmp 55) (Operand.tmp 60) 3, type := 4, pos := "law.go:94", after := #[{ on := 10, ground := Ground.data }, { on := 15, ground := Ground.data }, { on := 8, ground := Ground.guard }], guard := some (8, false) }) (v := ?_) rfl (by kernel_rfl) (by kernel_rfl) (by kernel_rfl) (fun _ _ _ h => h) (Or.inl ⟨by rfl, ?_⟩) (by assumption) ?_
            rotate_left
            · intro w hSw; (try dsimp only at hSw); go_simp <;> with_reducible rfl
            try simp only [Act.put, List.setIfInBounds_toArray, List.set_cons_zero, List.set_cons_succ]
            refine wpAnyH_take (i := 17) (oi := { dst := some 62, op := Op.pick (Operand.tmp 53) (Operand.const (Value.bool true)) (Operand.tmp 61), type := 4, pos := "law.go:94", after := #[{ on := 8, ground := Ground.data }, { on := 16, ground := Ground.data }], guard := none }) (v := ?_) rfl (by kernel_rfl) (by kernel_rfl) (by kernel_rfl) (fun _ _ _ h => h) (Or.inl ⟨by rfl, ?_⟩) (by assumption) ?_
            rotate_left
            · intro w hSw; (try dsimp only at hSw); go_simp <;> with_reducible rfl
            try simp only [Act.put, List.setIfInBounds_toArray, List.set_cons_zero, List.set_cons_succ]
            refine wpAnyH_take (i := 18) (oi := { dst := some 63, op := Op.move (Operand.tmp 62), type := 4, pos := "law.go:94", after := #[{ on := 17, ground := Ground.data }, { on := 10, ground := Ground.chain }], guard := none }) (v := ?_) rfl (by kernel_rfl) (by kernel_rfl) (by kernel_rfl) (fun _ _ _ h => h) (Or.inl ⟨by rfl, ?_⟩) (by assumption) ?_
            rotate_left
            · intro w hSw; (try dsimp only at hSw); go_simp <;> with_reducible rfl
            try simp only [Act.put, List.setIfInBounds_toArray, List.set_cons_zero, List.set_cons_succ]
            refine wpAnyH_take (i := 19) (oi := { dst := some 64, op := Op.move (Operand.tmp 6), type := 23, pos := "law.go:94", after := #[{ on := 18, ground := Ground.guard }], guard := some (18, false) }) (v := ?_) rfl (by kernel_rfl) (by kernel_rfl) (by kernel_rfl) (fun _ _ _ h => h) (Or.inl ⟨by rfl, ?_⟩) (by assumption) ?_
            rotate_left
            · intro w hSw; (try dsimp only at hSw); go_simp <;> with_reducible rfl
            try simp only [Act.put, List.setIfInBounds_toArray, List.set_cons_zero, List.set_cons_succ]
            refine wpAnyH_take (i := 21) (oi := { dst := some 66, op := Op.move (Operand.tmp 0), type := 3, pos := "law.go:94", after := #[{ on := 18, ground := Ground.guard }], guard := some (18, false) }) (v := ?_) rfl (by kernel_rfl) (by kernel_rfl) (by kernel_rfl) (fun _ _ _ h => h) (Or.inl ⟨by rfl, ?_⟩) (by assumption) ?_
            rotate_left
            · intro w hSw; (try dsimp only at hSw); go_simp <;> with_reducible rfl
            try simp only [Act.put, List.setIfInBounds_toArray, List.set_cons_zero, List.set_cons_succ]
            refine wpAnyH_ready (rs := [20]) (by kernel_rfl) (by simp) ?_
            refine AllReadyH.cons (o := { dst := some 65, op := Op.call { callee := Callee.value (Operand.func 16), args := #[Operand.tmp 64], argTypes := #[23] }, type := 3, pos := "law.go:94", after := #[{ on := 19, ground := Ground.data }, { on := 18, ground := Ground.chain }, { on := 18, ground := Ground.guard }], guard := some (18, false) }) rfl (fun K hK => ?_) ?_
            · go_simp
              go_at_call 16
              refine (H2.out.1.dsize).mono ?_
              rintro e V9 ⟨rfl, rfl⟩
              try go_wp2_with fail
              refine hK.out _ _ (HSS.out _ (by assumption)) (fun hHeld => ?_)
              clear hK K
              try simp only [Act.put, List.setIfInBounds_toArray, List.set_cons_zero, List.set_cons_succ]
              refine wpAnyH_take (i := 22) (oi := { dst := some 67, op := Op.binOp BinOp.neq 3 (Operand.tmp 65) (Operand.tmp 66) 3, type := 4, pos := "law.go:94", after := #[{ on := 20, ground := Ground.data }, { on := 21, ground := Ground.data }, { on := 18, ground := Ground.guard }], guard := some (18, false) }) (v := ?_) rfl (by kernel_rfl) (by kernel_rfl) (by kernel_rfl) (fun _ _ _ h => h) (Or.inl ⟨by rfl, ?_⟩) (by assumption) ?_
              rotate_left
              · intro w hSw; (try dsimp only at hSw); go_simp <;> with_reducible rfl
              try simp only [Act.put, List.setIfInBounds_toArray, List.set_cons_zero, List.set_cons_succ]
              refine wpAnyH_take (i := 23) (oi := { dst := some 68, op := Op.pick (Operand.tmp 63) (Operand.const (Value.bool true)) (Operand.tmp 67), type := 4, pos := "law.go:94", after := #[{ on := 18, ground := Ground.data }, { on := 22, ground := Ground.data }], guard := none }) (v := ?_) rfl (by kernel_rfl) (by kernel_rfl) (by kernel_rfl) (fun _ _ _ h => h) (Or.inl ⟨by rfl, ?_⟩) (by assumption) ?_
              rotate_left
              · intro w hSw; (try dsimp only at hSw); go_simp <;> with_reducible rfl
              try simp only [Act.put, List.setIfInBounds_toArray, List.set_cons_zero, List.set_cons_succ]
              refine wpAnyH_done (by kernel_rfl) ?_ _
              refine NoPanic.normal ?_
              clear hc1
              go_wp2_with fail
              refine (H2.out.1.read 0 n).mono ?_
              rintro e V3 ⟨rfl, rfl⟩
              go_wp2_with fail
              refine (H2.out.1.refread hn1 (by have := H2.out.2.1; have := HC.out.1; omega) 0 n).mono ?_
              rintro e V4 ⟨rfl, h4, -⟩
              have H4 := Lib.hid h4
              clear h4
              go_wp2_with fail
              exact ⟨⟨k + 1, s', by omega, by omega, rfl, H4.out, Lib.hid ⟨by have := H2.out.2.1; have := HC.out.1; omega, H2.out.2.2⟩⟩, by simp [intOf]; omega⟩
            exact AllReadyH.nil
          exact AllReadyH.nil
        refine AllReadyH.cons (o := { dst := some 59, op := Op.load 41 (Operand.tmp 58), type := 41, pos := "law.go:94", after := #[{ on := 13, ground := Ground.data }, { on := 8, ground := Ground.guard }], guard := some (8, false) }) rfl (fun K hK => ?_) ?_
        · go_simp
          try go_wp2_with fail
          refine hK.out _ _ (HSS.out _ (by assumption)) (fun hHeld => ?_)
          clear hK K
          try simp only [Act.put, List.setIfInBounds_toArray, List.set_cons_zero, List.set_cons_succ]
          refine wpAnyH_take (i := 15) (oi := { dst := some 60, op := Op.call { callee := Callee.builtin Builtin.len, args := #[Operand.tmp 59], argTypes := #[41] }, type := 3, pos := "law.go:94", after := #[{ on := 14, ground := Ground.data }, { on := 8, ground := Ground.guard }], guard := some (8, false) }) (v := ?_) rfl (by kernel_rfl) (by kernel_rfl) (by kernel_rfl) (fun _ _ _ h => h) (Or.inl ⟨by rfl, ?_⟩) (by assumption) ?_
          rotate_left
          · intro w hSw; (try dsimp only at hSw); go_simp <;> with_reducible rfl
          try simp only [Act.put, List.setIfInBounds_toArray, List.set_cons_zero, List.set_cons_succ]
          refine wpAnyH_ready (rs := [10]) (by kernel_rfl) (by simp) ?_
          refine AllReadyH.cons (o := { dst := some 55, op := Op.call { callee := Callee.value (Operand.func 17), args := #[Operand.tmp 54], argTypes := #[23] }, type := 3, pos := "law.go:94", after := #[{ on := 9, ground := Ground.data }, { on := 8, ground := Ground.chain }, { on := 8, ground := Ground.guard }], guard := some (8, false) }) rfl (fun K hK => ?_) ?_
          · go_simp
            go_at_call 17
            refine (H2.out.1.pending).mono ?_
            rintro e V9 ⟨rfl, rfl⟩
            try go_wp2_with fail
            refine hK.out _ _ (HSS.out _ (by assumption)) (fun hHeld => ?_)
            clear hK K
            try simp only [Act.put, List.setIfInBounds_toArray, List.set_cons_zero, List.set_cons_succ]
            refine wpAnyH_take (i := 16) (oi := { dst := some 61, op := Op.binOp BinOp.neq 3 (Operand.tmp 55) (Operand.tmp 60) 3, type := 4, pos := "law.go:94", after := #[{ on := 10, ground := Ground.data }, { on := 15, ground := Ground.data }, { on := 8, ground := Ground.guard }], guard := some (8, false) }) (v := ?_) rfl (by kernel_rfl) (by kernel_rfl) (by kernel_rfl) (fun _ _ _ h => h) (Or.inl ⟨by rfl, ?_⟩) (by assumption) ?_
            rotate_left
            · intro w hSw; (try dsimp only at hSw); go_simp <;> with_reducible rfl
            try simp only [Act.put, List.setIfInBounds_toArray, List.set_cons_zero, List.set_cons_succ]
            refine wpAnyH_take (i := 17) (oi := { dst := some 62, op := Op.pick (Operand.tmp 53) (Operand.const (Value.bool true)) (Operand.tmp 61), type := 4, pos := "law.go:94", after := #[{ on := 8, ground := Ground.data }, { on := 16, ground := Ground.data }], guard := none }) (v := ?_) rfl (by kernel_rfl) (by kernel_rfl) (by kernel_rfl) (fun _ _ _ h => h) (Or.inl ⟨by rfl, ?_⟩) (by assumption) ?_
            rotate_left
            · intro w hSw; (try dsimp only at hSw); go_simp <;> with_reducible rfl
            try simp only [Act.put, List.setIfInBounds_toArray, List.set_cons_zero, List.set_cons_succ]
            refine wpAnyH_take (i := 18) (oi := { dst := some 63, op := Op.move (Operand.tmp 62), type := 4, pos := "law.go:94", after := #[{ on := 17, ground := Ground.data }, { on := 10, ground := Ground.chain }], guard := none }) (v := ?_) rfl (by kernel_rfl) (by kernel_rfl) (by kernel_rfl) (fun _ _ _ h => h) (Or.inl ⟨by rfl, ?_⟩) (by assumption) ?_
            rotate_left
            · intro w hSw; (try dsimp only at hSw); go_simp <;> with_reducible rfl
            try simp only [Act.put, List.setIfInBounds_toArray, List.set_cons_zero, List.set_cons_succ]
            refine wpAnyH_take (i := 19) (oi := { dst := some 64, op := Op.move (Operand.tmp 6), type := 23, pos := "law.go:94", after := #[{ on := 18, ground := Ground.guard }], guard := some (18, false) }) (v := ?_) rfl (by kernel_rfl) (by kernel_rfl) (by kernel_rfl) (fun _ _ _ h => h) (Or.inl ⟨by rfl, ?_⟩) (by assumption) ?_
            rotate_left
            · intro w hSw; (try dsimp only at hSw); go_simp <;> with_reducible rfl
            try simp only [Act.put, List.setIfInBounds_toArray, List.set_cons_zero, List.set_cons_succ]
            refine wpAnyH_take (i := 21) (oi := { dst := some 66, op := Op.move (Operand.tmp 0), type := 3, pos := "law.go:94", after := #[{ on := 18, ground := Ground.guard }], guard := some (18, false) }) (v := ?_) rfl (by kernel_rfl) (by kernel_rfl) (by kernel_rfl) (fun _ _ _ h => h) (Or.inl ⟨by rfl, ?_⟩) (by assumption) ?_
            rotate_left
            · intro w hSw; (try dsimp only at hSw); go_simp <;> with_reducible rfl
            try simp only [Act.put, List.setIfInBounds_toArray, List.set_cons_zero, List.set_cons_succ]
            refine wpAnyH_ready (rs := [20]) (by kernel_rfl) (by simp) ?_
            refine AllReadyH.cons (o := { dst := some 65, op := Op.call { callee := Callee.value (Operand.func 16), args := #[Operand.tmp 64], argTypes := #[23] }, type := 3, pos := "law.go:94", after := #[{ on := 19, ground := Ground.data }, { on := 18, ground := Ground.chain }, { on := 18, ground := Ground.guard }], guard := some (18, false) }) rfl (fun K hK => ?_) ?_
            · go_simp
              go_at_call 16
              refine (H2.out.1.dsize).mono ?_
              rintro e V9 ⟨rfl, rfl⟩
              try go_wp2_with fail
              refine hK.out _ _ (HSS.out _ (by assumption)) (fun hHeld => ?_)
              clear hK K
              try simp only [Act.put, List.setIfInBounds_toArray, List.set_cons_zero, List.set_cons_succ]
              refine wpAnyH_take (i := 22) (oi := { dst := some 67, op := Op.binOp BinOp.neq 3 (Operand.tmp 65) (Operand.tmp 66) 3, type := 4, pos := "law.go:94", after := #[{ on := 20, ground := Ground.data }, { on := 21, ground := Ground.data }, { on := 18, ground := Ground.guard }], guard := some (18, false) }) (v := ?_) rfl (by kernel_rfl) (by kernel_rfl) (by kernel_rfl) (fun _ _ _ h => h) (Or.inl ⟨by rfl, ?_⟩) (by assumption) ?_
              rotate_left
              · intro w hSw; (try dsimp only at hSw); go_simp <;> with_reducible rfl
              try simp only [Act.put, List.setIfInBounds_toArray, List.set_cons_zero, List.set_cons_succ]
              refine wpAnyH_take (i := 23) (oi := { dst := some 68, op := Op.pick (Operand.tmp 63) (Operand.const (Value.bool true)) (Operand.tmp 67), type := 4, pos := "law.go:94", after := #[{ on := 18, ground := Ground.data }, { on := 22, ground := Ground.data }], guard := none }) (v := ?_) rfl (by kernel_rfl) (by kernel_rfl) (by kernel_rfl) (fun _ _ _ h => h) (Or.inl ⟨by rfl, ?_⟩) (by assumption) ?_
              rotate_left
              · intro w hSw; (try dsimp only at hSw); go_simp <;> with_reducible rfl
              try simp only [Act.put, List.setIfInBounds_toArray, List.set_cons_zero, List.set_cons_succ]
              refine wpAnyH_done (by kernel_rfl) ?_ _
              refine NoPanic.normal ?_
              clear hc1
              go_wp2_with fail
              refine (H2.out.1.read 0 n).mono ?_
              rintro e V3 ⟨rfl, rfl⟩
              go_wp2_with fail
              refine (H2.out.1.refread hn1 (by have := H2.out.2.1; have := HC.out.1; omega) 0 n).mono ?_
              rintro e V4 ⟨rfl, h4, -⟩
              have H4 := Lib.hid h4
              clear h4
              go_wp2_with fail
              exact ⟨⟨k + 1, s', by omega, by omega, rfl, H4.out, Lib.hid ⟨by have := H2.out.2.1; have := HC.out.1; omega, H2.out.2.2⟩⟩, by simp [intOf]; omega⟩
            exact AllReadyH.nil
          exact AllReadyH.nil
        exact AllReadyH.nil
      exact AllReadyH.nil
    · by_cases hl1 : k < l.length
      · have d1 : decide ((k : Int) < (l.length : Int)) = true := by simp [hl1]
        have d2 : decide ((k : Int) < 60) = false := by simp; omega
        go_wp2_with fail
        go_ret
        exact ⟨rfl, HLk.out.below⟩
      · have d1 : decide ((k : Int) < (l.length : Int)) = false := by simp; omega
        go_wp2_with fail
        go_ret
        exact ⟨rfl, HLk.out.below⟩

end Go.Proofs.Ytmpjoncemgangaa
