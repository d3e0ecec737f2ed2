/-
  JournalSurvives returns true. Conditions: the package's variables hold what they hold. JournalSurvives: for every input the law returns true, and each argument reads afterwards as before. Condition: the listed package-level variables read as the program's text lays them (the card ties that).
-/
import Derived.Test.YtllmciiadceinaaGreatDoorJourR
import Derived.Test.YtllmciiadceinaaGreatDoorCards
import Derived.Test.YtllmciiadceinaaGreatDoorTie
import Derived.Test.YtllmciiadceinaaGreatDoorRow
import Derived.Deep.DeepHandedRow
import Derived.Lib.LaidTab
import Derived.Lay
section
namespace Go.Proofs.YtllmciiadceinaaGreatDoor
open Go Go.RowKit Go.Shelf Wr

/-- What an append to a clean disk does, the three ways. -/
theorem surv_step {n : Nat} {s : DS} {t : TS} {L : List ByteArray} (hc : Clean n s t) (hg : Good n t) (hs : longB L = false) :
    ∃ s' t' b' E, appE n s t false L = E ∧ appD n s t false L = s' ∧ appT n s t false L = t' ∧ appB n s t false L = b' ∧ Good n t' ∧ s'.pend.length ≤ 1 ∧
      ((E = 0 ∧ Clean n s' t' ∧ t'.recs = t.recs ++ L ∧ b' = false ∧ s'.left ≤ s.left) ∨ (E = 261 ∧ s' = s ∧ t' = t ∧ b' = false) ∨ (E = 251 ∧ Half n s' t L ∧ t' = t ∧ b' = true ∧ (s.left = 1 ∨ s.left = 2))) := by
  by_cases hf : t.size + (outL t L).length ≤ n
  · rcases clean_append hc hg hs hf with ⟨h1, h2, h3, h4, h5, -, h7⟩ | ⟨h1, h2, h3, h4, h5⟩
    · exact ⟨_, _, _, _, h1, rfl, h4, h5, h3, by rw [h2.pend]; decide, .inl ⟨rfl, h2, adds_recs t L, rfl, h7⟩⟩
    · refine ⟨_, _, _, _, h1, rfl, h3, h4, hg, ?_, .inr (.inr ⟨rfl, h2, rfl, rfl, h5⟩)⟩
      rcases h2.st with ⟨q, -⟩ | ⟨q, -⟩ <;> rw [q] <;> simp
  · obtain ⟨h1, h2, h3, h4⟩ := app_full (s := s) hs (by omega : n < t.size + (outL t L).length)
    exact ⟨_, _, _, _, h1, h2, h3, h4, hg, by rw [hc.pend]; decide, .inr (.inl ⟨rfl, rfl, rfl, rfl⟩)⟩

/-- What is known at the head of a round. -/
structure SurvR (n : Nat) (s : DS) (t : TS) (b : Bool) (was want : List ByteArray) (more : Prop) : Prop where
  go : more → b = false ∧ Clean n s t ∧ s.left = 0 ∧ was = t.recs ∧ want = t.recs
  good : Good n t
  sv : Sv n s was want
  pend : s.pend.length ≤ 1
/-- Two lists of strings that are kept apart. -/
structure TwoL (W : World) (Z : Nat → Prop) (v6 v7 : Value) (was want : List ByteArray) : Prop where
  o6 : OLs W 0 v6 was
  o7 : OLs W 0 v7 want
  z6 : ∀ g, v6.ownBlock = some g → Z g
  z7 : ∀ g, v7.ownBlock = some g → Z g
theorem TwoL.keep {W W' : World} {Z : Nat → Prop} {v6 v7 : Value} {was want : List ByteArray} (h : TwoL W Z v6 v7 was want) (t : Turns (fun k => ¬ Z k) W W') : TwoL W' Z v6 v7 was want :=
  ⟨h.o6.keep fun g hg => t.block g (h.o6.lt g hg).2 (fun e => e (h.z6 g hg)), h.o7.keep fun g hg => t.block g (h.o7.lt g hg).2 (fun e => e (h.z7 g hg)), h.z6, h.z7⟩
theorem TwoL.quiet {W W' : World} {Z : Nat → Prop} {v6 v7 : Value} {was want : List ByteArray} (h : TwoL W Z v6 v7 was want) (t : Turns (fun _ => False) W W') : TwoL W' Z v6 v7 was want := h.keep (t.mono fun _ e => e.elim)

set_option maxRecDepth 100000 in
set_option maxHeartbeats 32000000 in
theorem survives_law (W : World) (a : Addr) (hK : KAt W) (hE : ErrAt W a) (N : Int) (hN1 : -9223372036854775808 ≤ N) (hN2 : N ≤ 9223372036854775807) (A : Option Addr) (l : List GR) (c : Nat) (hl : l.length ≤ 9223372036854775807) (hA : CAt W W.heap.size A 1 GR.cells l) (hok : ∀ y ∈ l, y.ok W)
    (cut : Int) (hc1 : -9223372036854775808 ≤ cut) (hc2 : cut ≤ 9223372036854775807) (kA : Option Addr) (keep : List Int) (kc : Nat) (hkl : keep.length ≤ 9223372036854775807) (hkc : keep.length ≤ kc) (hkA : LAt W W.heap.size kA iv keep) (torn : Int) :
    Calls Tryz.prog 5 #[.int .i64 N, .slice A l.length c, .int .i64 cut, .slice kA keep.length kc, .int .i64 torn] W fun e W' => e = .returned (.bool true) ∧ Below W.heap.size W W' := by
  have HK := Lib.hid hK
  have HE := Lib.hid hE
  have HA := Lib.hid hA
  have HOK := Lib.hid hok
  have HKA := Lib.hid hkA
  have HSZ := Lib.hid (jsize_walk · N hN1 hN2)
  have HPK := Lib.hid (pick_walk (x := cut) (n := 3) · hc1 hc2 (by omega) (by omega))
  have hpr := pickZ_range cut (n := 3) (by omega)
  obtain ⟨pc, hpc⟩ : ∃ pc : Nat, pickZ cut 3 = (pc : Int) := ⟨(pickZ cut 3).toNat, by omega⟩
  rw [hpc] at HPK hpr
  have hnr := sizeN_range N
  obtain ⟨n, hn⟩ : ∃ n, sizeN N = n := ⟨_, rfl⟩
  rw [hn] at HSZ hnr
  have HSN := Lib.hid (sane_walk W a hK hE)
  clear hK hE hA hn hok hkA hpc
  go_enter Tryz.func5, Tryz.ntmps5
  go_wp2_with fail
  refine HSN.out.mono ?_
  rintro e W1 ⟨rfl, hb1⟩
  have hu1 : Turns (fun _ => False) W W1 := Turns.of_below hb1
  have HU1 := Lib.hid hu1
  clear hb1 hu1
  go_wp2_with (first | (go_at_call 15; refine (HSZ.out _).mono ?_; rintro e w1 ⟨rfl, rfl⟩) | fail)
  refine (new_D (W0 := W) (Z := fun _ => False) HU1.out (fun k e => e.elim) n hnr.1 (by omega)).mono ?_
  rintro e W2 ⟨⟨d, rfl, h⟩, -⟩
  have HD := Lib.hid h
  clear h
  go_wp2_with fail
  refine (open_D HD.out (fun k e => e.elim) a HK.out HE.out (by rw [show (DS.fresh n).pend = [] from rfl]; decide) (by rw [show (DS.fresh n).left = 0 from rfl]; decide)).mono ?_
  obtain ⟨he, ho⟩ := sane_open n
  rintro e W3 ⟨hr, -⟩
  unfold OpenD at hr
  rw [he, ho, (fresh_clean n).load Good.zero] at hr
  rcases hr with ⟨-, j, t, rfl, ht, hj⟩ | ⟨hn, -⟩
  case inr => exact absurd rfl hn
  cases ht
  obtain ⟨Z, hZ⟩ : ∃ Z : Nat → Prop, Z = fun _ => False := ⟨_, rfl⟩
  rw [← hZ] at hj
  have HJ := Lib.hid hj
  have HZ : Hid (∀ k, Z k → k < W3.heap.size) := Lib.hid (by rw [hZ]; exact fun k e => e.elim)
  have HTL : Hid (TwoL W3 Z (.slice none ([] : List ByteArray).length 0) (.slice none ([] : List ByteArray).length 0) [] []) := Lib.hid ⟨OL.nil, OL.nil, fun g e => by simp [Value.ownBlock] at e, fun g e => by simp [Value.ownBlock] at e⟩
  have HC : Hid (SurvR n (DS.fresh n) TS.zero false [] [] (0 < l.length ∧ 0 < 8)) := Lib.hid ⟨fun _ => ⟨rfl, fresh_clean n, rfl, rfl, rfl⟩, Good.zero, Sv.clean (fresh_clean n) Good.zero, Nat.zero_le _⟩
  clear hj he ho HD hZ
  go_wp2_with fail
  go_loopw [16, 17, 18] (fun v16 v17 v18 wr => ∃ (k : Nat) (s : DS) (t : TS) (b : Bool) (Z : Nat → Prop) (A6 A7 : Option Addr) (c6 c7 : Nat) (was want : List ByteArray), k ≤ l.length ∧ k ≤ 8 ∧ v18 = .int .i64 k ∧ v16 = .slice A6 was.length c6 ∧ v17 = .slice A7 want.length c7 ∧ Hid (JL W Z wr n d s j t b) ∧ Hid (∀ k, Z k → k < wr.heap.size) ∧ Hid (TwoL wr Z v16 v17 was want) ∧ Hid (SurvR n s t b was want (k < l.length ∧ k < 8))) (fun _ _ v _ => l.length - (intOf v).toNat)
  case atStart => exact ⟨0, _, _, _, Z, none, none, 0, 0, [], [], by omega, by omega, rfl, rfl, rfl, HJ, HZ, HTL, HC⟩
  case round =>
    clear HJ HZ HTL HC
    obtain ⟨k, s, t, b, Z, A6, A7, c6, c7, was, want, hk, hk8, rfl, rfl, rfl, hJ, hZ, hTL, hC⟩ := hrel
    by_cases hlt : k < l.length
    · by_cases hlt2 : k < 8
      · obtain ⟨rfl, hcl, hleft, rfl, rfl⟩ := hC.out.go ⟨hlt, hlt2⟩
        have d1 : decide ((k : Int) < (l.length : Int)) = true := by simp [hlt]
        obtain ⟨p, rfl, hpb, hpc⟩ := HA.out.get hlt
        have hyo := HOK.out _ (List.getElem_mem hlt)
        obtain ⟨y, hy⟩ : ∃ y, l[k] = y := ⟨_, rfl⟩
        rw [hy] at hpc hyo
        obtain ⟨yA, yl, yc⟩ := y
        obtain ⟨o1, o2, o3, o4⟩ := hyo
        dsimp only at o1 o2 o3 o4
        unfold maxLen at o2
        have HCELL : Hid (∀ V, Below W.heap.size W V → V.cell? (p.add k) = some (.slice yA yl.length yc)) := Lib.hid (fun V hb => by
          rw [hb.cell (p := p.add k) (by rw [addr_add_block]; exact hpb)]
          have := hpc 0 (.slice yA yl.length yc) rfl
          rw [Nat.mul_one, Nat.add_zero] at this
          exact this)
        have HFEW : Hid (∀ V, Below W.heap.size W V → Calls Tryz.prog 11 #[.slice yA yl.length yc] V fun e w' => (∃ v, e = .returned v ∧ OLs w' V.heap.size v (fewS yl)) ∧ Below V.heap.size V w') := Lib.hid (fun V hb => few_walk yA yl yc (by omega) V ((o3.below hb).more hb.size))
        have hfl := fewS_length yl
        have hsh := fewS_short yl
        obtain ⟨L, hL⟩ : ∃ L, fewS yl = L := ⟨_, rfl⟩
        rw [hL] at HFEW hfl hsh
        have HSH := Lib.hid hsh
        have HCL := Lib.hid (And.intro hcl (And.intro hleft hC.out.good))
        have hrl := recs_le hC.out.good
        clear hy hL hpc o1 o2 o3 o4 hcl hleft hpb hC hTL hsh
        go_wp2_with fail
        refine (records_O hJ.out.old (by omega)).mono ?_
        rintro e W5 ⟨⟨v5, rfl, ho5⟩, hb5⟩
        obtain ⟨A5, c5, rfl, -, -⟩ := ho5.slice
        have HBW5 := Lib.hid (hJ.out.quiet (Turns.of_below hb5)).below
        have HO5 := Lib.hid ho5
        have hcell5 := HCELL.out W5 HBW5.out
        have hcn5 := ho5.nilcap
        have z1 : (0 : Int) ≤ (k : Int) := by omega
        have z2 : (k : Int) < (l.length : Int) := by omega
        clear ho5
        go_wp2_with fail
        have hS4 : W5.drew.cell? (p.add k) = some (.slice yA yl.length yc) := hcell5
        have hBL : Below W.heap.size W (W5.alloc (.cells #[] 9)).drew := (HBW5.out.alloc HBW5.out.size _).drew
        have hS5 := HCELL.out _ hBL
        have HB7 : Hid (∀ W7, Below W5.heap.size (W5.alloc (.cells #[] 9)).drew W7 → Below W.heap.size W W7) := Lib.hid (fun W7 hb => hBL.trans (hb.mono HBW5.out.size))
        have HS7 : Hid (∀ W7, Below W5.heap.size (W5.alloc (.cells #[] 9)).drew W7 → W5.heap.size ≤ W7.heap.size) := Lib.hid (fun W7 hb => Nat.le_trans (by show _ ≤ (World.alloc _ _).heap.size; rw [World.size_alloc]; omega) hb.size)
        have hlat5 := LAt.cat (HO5.out.lat.below ((Below.refl _ W5).alloc (Nat.le_refl _) (.cells #[] 9)).drew)
        clear hBL
        refine wp_region_noPanic ?_
        refine wp_region_held_drew (S := fun w' => w'.cell? (p.add k) = some (.slice yA yl.length yc)) (by kernel_rfl) hS4 (fun hHeld => ?_)
        refine wpAnyH_take (i := 1) (oi := { dst := some 50, op := Op.move (Operand.tmp 16), type := 22, pos := "law.go:183", after := #[], guard := none }) (v := ?_) rfl (by kernel_rfl) (by kernel_rfl) (by kernel_rfl) (fun _ _ _ h => h) (Or.inl ⟨by rfl, ?_⟩) (by assumption) ?_
        rotate_left
        · intro w hSw; (try dsimp only at hSw); go_simp <;> with_reducible rfl
        try simp only [Act.put, List.setIfInBounds_toArray, List.set_cons_zero, List.set_cons_succ]
        refine wpAnyH_take (i := 3) (oi := { dst := some 52, op := Op.move (Operand.tmp 1), type := 48, pos := "law.go:183", after := #[], guard := none }) (v := ?_) rfl (by kernel_rfl) (by kernel_rfl) (by kernel_rfl) (fun _ _ _ h => h) (Or.inl ⟨by rfl, ?_⟩) (by assumption) ?_
        rotate_left
        · intro w hSw; (try dsimp only at hSw); go_simp <;> with_reducible rfl
        try simp only [Act.put, List.setIfInBounds_toArray, List.set_cons_zero, List.set_cons_succ]
        refine wpAnyH_take (i := 4) (oi := { dst := some 53, op := Op.move (Operand.tmp 18), type := 3, pos := "law.go:183", after := #[], guard := none }) (v := ?_) rfl (by kernel_rfl) (by kernel_rfl) (by kernel_rfl) (fun _ _ _ h => h) (Or.inl ⟨by rfl, ?_⟩) (by assumption) ?_
        rotate_left
        · intro w hSw; (try dsimp only at hSw); go_simp <;> with_reducible rfl
        try simp only [Act.put, List.setIfInBounds_toArray, List.set_cons_zero, List.set_cons_succ]
        refine wpAnyH_take (i := 5) (oi := { dst := some 54, op := Op.indexAddr 48 (Operand.tmp 52) (Operand.tmp 53), type := 0, pos := "law.go:183", after := #[{ on := 3, ground := Ground.data }, { on := 4, ground := Ground.data }], guard := none }) (v := ?_) rfl (by kernel_rfl) (by kernel_rfl) (by kernel_rfl) (fun _ _ _ h => h) (Or.inl ⟨by rfl, ?_⟩) (by assumption) ?_
        rotate_left
        · intro w hSw; (try dsimp only at hSw); go_simp <;> with_reducible rfl
        try simp only [Act.put, List.setIfInBounds_toArray, List.set_cons_zero, List.set_cons_succ]
        refine wpAnyH_take (i := 6) (oi := { dst := some 55, op := Op.load 22 (Operand.tmp 54), type := 22, pos := "law.go:183", after := #[{ on := 5, ground := Ground.data }], guard := none }) (v := ?_) rfl (by kernel_rfl) (by kernel_rfl) (by kernel_rfl) (fun _ _ _ h => h) (Or.inl ⟨by rfl, ?_⟩) (by assumption) ?_
        rotate_left
        · intro w hSw; (try dsimp only at hSw); go_simp <;> with_reducible rfl
        try simp only [Act.put, List.setIfInBounds_toArray, List.set_cons_zero, List.set_cons_succ]
        refine wpAnyH_ready (rs := [0]) (by kernel_rfl) (by simp) ?_
        refine AllReadyH.cons (o := { dst := some 49, op := Op.buildSlice 22 0 #[], type := 22, pos := "law.go:183", after := #[], guard := none }) rfl (fun K hK => ?_) ?_
        · go_simp
          refine hK.out _ _ (by exact hS5) (fun hHeld => ?_)
          clear hK K
          try simp only [Act.put, List.setIfInBounds_toArray, List.set_cons_zero, List.set_cons_succ]
          refine wpAnyH_ready (rs := [2]) (by kernel_rfl) (by simp) ?_
          refine AllReadyH.cons (o := { dst := some 51, op := Op.call { callee := Callee.builtin Builtin.append, args := #[Operand.tmp 49, Operand.tmp 50], argTypes := #[22, 22] }, type := 22, pos := "law.go:183", after := #[{ on := 0, ground := Ground.data }, { on := 1, ground := Ground.data }], guard := none }) rfl (fun K hK => ?_) ?_
          · refine step_cat (by rfl) (.tmp 49) (.tmp 50) 22 (by rfl) elemStr (fun _ => rfl) (.slice (some ⟨W5.heap.size, 0, none⟩) 0 0) ([] : List ByteArray) (by rfl) (OL.drew (OL.lit0 (B := W5.heap.size) (e := 9) W5 (Nat.le_refl _))) A5 t.recs t.recs.length c5 rfl (by rfl) hcn5 hlat5 (fun x _ u hu => by rw [List.mem_singleton.1 hu]; rfl) (by unfold maxLen; simp; omega) (by simp; omega) (by show _ ≤ (World.alloc _ _).heap.size; rw [World.size_alloc]; omega) ?_
            intro v7 W7 ho7 hg7 hb7
            refine hK.out _ _ (HCELL.out _ (HB7.out _ hb7)) (fun hHeld => ?_)
            clear hK K
            try simp only [Act.put, List.setIfInBounds_toArray, List.set_cons_zero, List.set_cons_succ]
            refine wpAnyH_ready (rs := [7]) (by kernel_rfl) (by simp) ?_
            refine AllReadyH.cons (o := { dst := some 56, op := Op.call { callee := Callee.value (Operand.func 11), args := #[Operand.tmp 55], argTypes := #[22] }, type := 22, pos := "law.go:183", after := #[{ on := 6, ground := Ground.data }, { on := 2, ground := Ground.chain }], guard := none }) rfl (fun K hK => ?_) ?_
            · go_simp
              go_at_call 11
              refine (HFEW.out _ (HB7.out _ hb7)).mono ?_
              rintro e W8 ⟨⟨v8, rfl, ho8⟩, hb8⟩
              obtain ⟨A8, c8, rfl, -, -⟩ := ho8.slice
              refine hK.out _ _ (HCELL.out _ ((HB7.out _ hb7).trans (hb8.mono (HB7.out _ hb7).size))) (fun hHeld => ?_)
              clear hK K
              try simp only [Act.put, List.setIfInBounds_toArray, List.set_cons_zero, List.set_cons_succ]
              refine wpAnyH_ready (rs := [8]) (by kernel_rfl) (by simp) ?_
              refine AllReadyH.cons (o := { dst := some 57, op := Op.call { callee := Callee.builtin Builtin.append, args := #[Operand.tmp 51, Operand.tmp 56], argTypes := #[22, 22] }, type := 22, pos := "law.go:183", after := #[{ on := 2, ground := Ground.data }, { on := 7, ground := Ground.data }, { on := 7, ground := Ground.chain }], guard := none }) rfl (fun K hK => ?_) ?_
              · refine step_cat (by rfl) (.tmp 51) (.tmp 56) 22 (by rfl) elemStr (fun _ => rfl) v7 ([] ++ t.recs) (by rfl) (ho7.below hb8 (Nat.le_refl _)) A8 L L.length c8 rfl (by rfl) ho8.nilcap ho8.lat.cat (fun x _ u hu => by rw [List.mem_singleton.1 hu]; rfl) (by unfold maxLen; simp; omega) (by simp; omega) (Nat.le_trans (HS7.out _ hb7) hb8.size) ?_
                intro v9 W9 ho9 hg9 hb9
                refine hK.out _ _ (HCELL.out _ (((HB7.out _ hb7).trans (hb8.mono (HB7.out _ hb7).size)).trans (hb9.mono (HBW5.out.size)))) (fun hHeld => ?_)
                clear hK K
                try simp only [Act.put, List.setIfInBounds_toArray, List.set_cons_zero, List.set_cons_succ]
                refine wpAnyH_take (i := 9) (oi := { dst := some 17, op := Op.assign (Operand.tmp 57), type := 22, pos := "law.go:183", after := #[{ on := 8, ground := Ground.data }, { on := 8, ground := Ground.chain }, { on := 0, ground := Ground.phase }, { on := 1, ground := Ground.phase }, { on := 2, ground := Ground.phase }, { on := 3, ground := Ground.phase }, { on := 4, ground := Ground.phase }, { on := 5, ground := Ground.phase }, { on := 6, ground := Ground.phase }, { on := 7, ground := Ground.phase }, { on := 8, ground := Ground.phase }], guard := none }) (v := ?_) rfl (by kernel_rfl) (by kernel_rfl) (by kernel_rfl) (fun _ _ _ h => h) (Or.inl ⟨by rfl, ?_⟩) (by assumption) ?_
                rotate_left
                · intro w hSw; (try dsimp only at hSw); go_simp <;> with_reducible rfl
                try simp only [Act.put, List.setIfInBounds_toArray, List.set_cons_zero, List.set_cons_succ]
                refine wpAnyH_done (by kernel_rfl) ?_ _
                refine NoPanic.normal ?_
                have ho9' : OLs W9 W5.heap.size v9 (t.recs ++ L) := ho9
                obtain ⟨RL, hRL⟩ : ∃ RL, t.recs ++ L = RL := ⟨_, rfl⟩
                rw [hRL] at ho9'
                have HRL2 := Lib.hid hRL
                clear hRL
                obtain ⟨A9, c9, rfl, -, -⟩ := ho9'.slice
                have b59 : Below W5.heap.size W5 W9 := (((((Below.refl _ W5).alloc (Nat.le_refl _) _).drew.trans hb7).trans (hb8.mono (HS7.out _ hb7))).trans hb9)
                have br9 : Below wr.heap.size wr W9 := hb5.trans (b59.mono hb5.size)
                obtain ⟨Z9, hZ9⟩ : ∃ Z9 : Nat → Prop, Z9 = fun q => Z q ∨ (wr.heap.size ≤ q ∧ q < W9.heap.size) := ⟨_, rfl⟩
                have HJ9 : Hid (JL W Z9 W9 n d s j t false) := Lib.hid (by rw [hZ9]; exact hJ.out.reserve br9)
                have HZ9 : Hid (∀ q, Z9 q → q < W9.heap.size) := Lib.hid (by rw [hZ9]; exact reserve_lt hZ.out br9.size)
                have HTL9 : Hid (TwoL W9 Z9 (.slice A5 t.recs.length c5) (.slice A9 RL.length c9) t.recs RL) := Lib.hid (by
                  rw [hZ9]
                  refine ⟨(HO5.out.below b59 (Nat.le_refl _)).base (Nat.zero_le _), ho9'.base (Nat.zero_le _), fun g hg => .inr ?_, fun g hg => .inr ?_⟩
                  · have h1 := HO5.out.lt g hg
                    have h2 := b59.size
                    exact ⟨h1.1, by omega⟩
                  · have h1 := ho9'.lt g hg
                    have h2 := hb5.size
                    exact ⟨by omega, h1.2⟩)
                clear ho9 ho9' b59 br9 hZ9 hb9 hg9 ho8 hb8 hg7 ho7 hb7 HS7 HB7 hlat5 hS5 hS4 hcell5 hcn5 HO5 hb5 hHeld
                have wl : IntKind.i64.wrap ((l.length : Int) - 1) = (l.length : Int) - 1 := by rw [IntKind.wrap_i64]; omega
                have h3 : (((k : Int) == (l.length : Int) - 1) = true ∧ k + 1 = l.length) ∨ ((((k : Int) == (l.length : Int) - 1) = false ∧ ((k : Int) == 7) = true) ∧ k = 7) ∨ ((((k : Int) == (l.length : Int) - 1) = false ∧ ((k : Int) == 7) = false) ∧ k + 1 < l.length ∧ k < 7) := by
                  by_cases q1 : k + 1 = l.length
                  · left; exact ⟨by simp; omega, q1⟩
                  · right
                    by_cases q2 : k = 7
                    · left; exact ⟨⟨by simp; omega, by simp; omega⟩, q2⟩
                    · right; exact ⟨⟨by simp; omega, by simp; omega⟩, by omega, by omega⟩
                rcases h3 with ⟨e1, hq⟩ | ⟨⟨e1, e7⟩, hq⟩ | ⟨⟨e1, e7⟩, hq⟩
                · have HQ : Hid (¬ (k + 1 < l.length ∧ k + 1 < 8)) := Lib.hid (by omega)
                  clear hq
                  go_wp2_with (first | (go_at_call 14; refine (HPK.out _).mono ?_; rintro e w1 ⟨rfl, rfl⟩) | fail)
                  obtain ⟨f1, f2, f3⟩ := cut1 HCL.out.1 (pc + 1) (by omega)
                  rw [show ((pc + 1 : Nat) : Int) = 1 + (pc : Int) by omega] at f1 f2 f3
                  refine (cut_J HJ9.out (1 + (pc : Int))).mono ?_
                  rintro e W10 ⟨rfl, hj10, ht10⟩
                  have HJ10 := Lib.hid hj10
                  have HTL10 := Lib.hid (HTL9.out.keep ht10)
                  have HZ10 : Hid (∀ q, Z9 q → q < W10.heap.size) := Lib.hid (fun q hq => Nat.lt_of_lt_of_le (HZ9.out q hq) ht10.size)
                  obtain ⟨s10, hs10⟩ : ∃ s10, s.cut (1 + (pc : Int)) = s10 := ⟨_, rfl⟩
                  rw [hs10] at HJ10 f1 f2 f3
                  have HC10 := Lib.hid f1
                  have HP10 := Lib.hid f3
                  have HL10 := Lib.hid (show s10.left ≤ 3 by omega)
                  have HG10 : Hid ((k + 1 < l.length ∧ k + 1 < 8) → s10.left = 0) := Lib.hid (fun q => (HQ.out q).elim)
                  have HN10 : Hid (¬ (s10.left = 1 ∨ s10.left = 2) ∨ ¬ (k + 1 < l.length ∧ k + 1 < 8)) := Lib.hid (.inr HQ.out)
                  clear hj10 ht10 HJ9 HTL9 HZ9 f1 f2 f3 hs10
                  have HB10 := Lib.hid HJ10.out.below
                  have hcell10 := HCELL.out W10 HB10.out
                  go_wp2_with fail
                  refine (HFEW.out W10 HB10.out).mono ?_
                  rintro e W11 ⟨⟨v11, rfl, ho11⟩, hb11⟩
                  obtain ⟨A11, c11, rfl, -, -⟩ := ho11.slice
                  obtain ⟨s', t', b', E, g1, g2, g3, g4, g5, g6, g7⟩ := surv_step HC10.out HCL.out.2.2 HSH.out
                  have HG5 := Lib.hid g5
                  have HG6 := Lib.hid g6
                  have hl10 := HL10.out
                  have HAP := Lib.hid (append_J (HJ10.out.quiet (Turns.of_below hb11)) (fun q hq => Nat.lt_of_lt_of_le (HZ10.out q hq) hb11.size) A11 L L.length c11 rfl ho11.lat (by omega) HK.out (by rw [HP10.out]; decide) (by omega) HCL.out.2.2)
                  rw [g1, g2, g3, g4] at HAP
                  have HTL11 := Lib.hid (HTL10.out.quiet (Turns.of_below hb11))
                  have HZ11 : Hid (∀ q, Z9 q → q < W11.heap.size) := Lib.hid (fun q hq => Nat.lt_of_lt_of_le (HZ10.out q hq) hb11.size)
                  clear g1 g2 g3 g4 g5 g6 ho11 hb11 hl10 HJ10 HTL10 HZ10 hcell10
                  go_wp2_with fail
                  refine HAP.out.mono ?_
                  rintro e W12 ⟨rfl, hj12, ht12⟩
                  have HJ12 := Lib.hid hj12
                  have HTL12 := Lib.hid (HTL11.out.keep ht12)
                  have HZ12 : Hid (∀ q, Z9 q → q < W12.heap.size) := Lib.hid (fun q hq => Nat.lt_of_lt_of_le (HZ11.out q hq) ht12.size)
                  clear hj12 ht12 HAP HTL11 HZ11
                  rcases g7 with ⟨rfl, q1, q2, rfl, q4⟩ | ⟨rfl, rfl, rfl, rfl⟩ | ⟨rfl, q1, rfl, rfl, q4⟩
                  · have HS : Hid (SurvR n s' t' false RL RL (k + 1 < l.length ∧ k + 1 < 8)) := Lib.hid ⟨fun q => ⟨rfl, q1, by have := HG10.out q; omega, by rw [q2, HRL2.out], by rw [q2, HRL2.out]⟩, HG5.out, by have := Sv.clean q1 HG5.out; rw [q2, HRL2.out] at this; exact this, HG6.out⟩
                    clear q1 q2 q4
                    go_wp2_with fail
                    exact ⟨⟨k + 1, s', t', false, Z9, A9, A9, c9, c9, _, _, by omega, by omega, by go_num, rfl, rfl, HJ12, HZ12, Lib.hid ⟨HTL12.out.o7, HTL12.out.o7, HTL12.out.z7, HTL12.out.z7⟩, HS⟩, by simp only [intOf]; omega⟩
                  · have HS : Hid (SurvR n s' t' false t'.recs t'.recs (k + 1 < l.length ∧ k + 1 < 8)) := Lib.hid ⟨fun q => ⟨rfl, HC10.out, HG10.out q, rfl, rfl⟩, HG5.out, Sv.clean HC10.out HG5.out, HG6.out⟩
                    go_wp2_with fail
                    exact ⟨⟨k + 1, s', t', false, Z9, A5, A5, c5, c5, _, _, by omega, by omega, by go_num, rfl, rfl, HJ12, HZ12, Lib.hid ⟨HTL12.out.o6, HTL12.out.o6, HTL12.out.z6, HTL12.out.z6⟩, HS⟩, by simp only [intOf]; omega⟩
                  · have HS : Hid (SurvR n s' t' true t'.recs RL (k + 1 < l.length ∧ k + 1 < 8)) := Lib.hid ⟨fun q => (HQ.out q).elim, HG5.out, by have := Sv.half q1 HG5.out; rw [HRL2.out] at this; exact this, HG6.out⟩
                    clear q1 q4
                    go_wp2_with fail
                    exact ⟨⟨k + 1, s', t', true, Z9, A5, A9, c5, c9, _, _, by omega, by omega, by go_num, rfl, rfl, HJ12, HZ12, HTL12, HS⟩, by simp only [intOf]; omega⟩
                · have HQ : Hid (¬ (k + 1 < l.length ∧ k + 1 < 8)) := Lib.hid (by omega)
                  clear hq
                  go_wp2_with (first | (go_at_call 14; refine (HPK.out _).mono ?_; rintro e w1 ⟨rfl, rfl⟩) | fail)
                  obtain ⟨f1, f2, f3⟩ := cut1 HCL.out.1 (pc + 1) (by omega)
                  rw [show ((pc + 1 : Nat) : Int) = 1 + (pc : Int) by omega] at f1 f2 f3
                  refine (cut_J HJ9.out (1 + (pc : Int))).mono ?_
                  rintro e W10 ⟨rfl, hj10, ht10⟩
                  have HJ10 := Lib.hid hj10
                  have HTL10 := Lib.hid (HTL9.out.keep ht10)
                  have HZ10 : Hid (∀ q, Z9 q → q < W10.heap.size) := Lib.hid (fun q hq => Nat.lt_of_lt_of_le (HZ9.out q hq) ht10.size)
                  obtain ⟨s10, hs10⟩ : ∃ s10, s.cut (1 + (pc : Int)) = s10 := ⟨_, rfl⟩
                  rw [hs10] at HJ10 f1 f2 f3
                  have HC10 := Lib.hid f1
                  have HP10 := Lib.hid f3
                  have HL10 := Lib.hid (show s10.left ≤ 3 by omega)
                  have HG10 : Hid ((k + 1 < l.length ∧ k + 1 < 8) → s10.left = 0) := Lib.hid (fun q => (HQ.out q).elim)
                  have HN10 : Hid (¬ (s10.left = 1 ∨ s10.left = 2) ∨ ¬ (k + 1 < l.length ∧ k + 1 < 8)) := Lib.hid (.inr HQ.out)
                  clear hj10 ht10 HJ9 HTL9 HZ9 f1 f2 f3 hs10
                  have HB10 := Lib.hid HJ10.out.below
                  have hcell10 := HCELL.out W10 HB10.out
                  go_wp2_with fail
                  refine (HFEW.out W10 HB10.out).mono ?_
                  rintro e W11 ⟨⟨v11, rfl, ho11⟩, hb11⟩
                  obtain ⟨A11, c11, rfl, -, -⟩ := ho11.slice
                  obtain ⟨s', t', b', E, g1, g2, g3, g4, g5, g6, g7⟩ := surv_step HC10.out HCL.out.2.2 HSH.out
                  have HG5 := Lib.hid g5
                  have HG6 := Lib.hid g6
                  have hl10 := HL10.out
                  have HAP := Lib.hid (append_J (HJ10.out.quiet (Turns.of_below hb11)) (fun q hq => Nat.lt_of_lt_of_le (HZ10.out q hq) hb11.size) A11 L L.length c11 rfl ho11.lat (by omega) HK.out (by rw [HP10.out]; decide) (by omega) HCL.out.2.2)
                  rw [g1, g2, g3, g4] at HAP
                  have HTL11 := Lib.hid (HTL10.out.quiet (Turns.of_below hb11))
                  have HZ11 : Hid (∀ q, Z9 q → q < W11.heap.size) := Lib.hid (fun q hq => Nat.lt_of_lt_of_le (HZ10.out q hq) hb11.size)
                  clear g1 g2 g3 g4 g5 g6 ho11 hb11 hl10 HJ10 HTL10 HZ10 hcell10
                  go_wp2_with fail
                  refine HAP.out.mono ?_
                  rintro e W12 ⟨rfl, hj12, ht12⟩
                  have HJ12 := Lib.hid hj12
                  have HTL12 := Lib.hid (HTL11.out.keep ht12)
                  have HZ12 : Hid (∀ q, Z9 q → q < W12.heap.size) := Lib.hid (fun q hq => Nat.lt_of_lt_of_le (HZ11.out q hq) ht12.size)
                  clear hj12 ht12 HAP HTL11 HZ11
                  rcases g7 with ⟨rfl, q1, q2, rfl, q4⟩ | ⟨rfl, rfl, rfl, rfl⟩ | ⟨rfl, q1, rfl, rfl, q4⟩
                  · have HS : Hid (SurvR n s' t' false RL RL (k + 1 < l.length ∧ k + 1 < 8)) := Lib.hid ⟨fun q => ⟨rfl, q1, by have := HG10.out q; omega, by rw [q2, HRL2.out], by rw [q2, HRL2.out]⟩, HG5.out, by have := Sv.clean q1 HG5.out; rw [q2, HRL2.out] at this; exact this, HG6.out⟩
                    clear q1 q2 q4
                    go_wp2_with fail
                    exact ⟨⟨k + 1, s', t', false, Z9, A9, A9, c9, c9, _, _, by omega, by omega, by go_num, rfl, rfl, HJ12, HZ12, Lib.hid ⟨HTL12.out.o7, HTL12.out.o7, HTL12.out.z7, HTL12.out.z7⟩, HS⟩, by simp only [intOf]; omega⟩
                  · have HS : Hid (SurvR n s' t' false t'.recs t'.recs (k + 1 < l.length ∧ k + 1 < 8)) := Lib.hid ⟨fun q => ⟨rfl, HC10.out, HG10.out q, rfl, rfl⟩, HG5.out, Sv.clean HC10.out HG5.out, HG6.out⟩
                    go_wp2_with fail
                    exact ⟨⟨k + 1, s', t', false, Z9, A5, A5, c5, c5, _, _, by omega, by omega, by go_num, rfl, rfl, HJ12, HZ12, Lib.hid ⟨HTL12.out.o6, HTL12.out.o6, HTL12.out.z6, HTL12.out.z6⟩, HS⟩, by simp only [intOf]; omega⟩
                  · have HS : Hid (SurvR n s' t' true t'.recs RL (k + 1 < l.length ∧ k + 1 < 8)) := Lib.hid ⟨fun q => (HQ.out q).elim, HG5.out, by have := Sv.half q1 HG5.out; rw [HRL2.out] at this; exact this, HG6.out⟩
                    clear q1 q4
                    go_wp2_with fail
                    exact ⟨⟨k + 1, s', t', true, Z9, A5, A9, c5, c9, _, _, by omega, by omega, by go_num, rfl, rfl, HJ12, HZ12, HTL12, HS⟩, by simp only [intOf]; omega⟩
                · have HJ10 := HJ9
                  have HTL10 := HTL9
                  have HZ10 := HZ9
                  obtain ⟨W10, hW10⟩ : ∃ W10, W9 = W10 := ⟨_, rfl⟩
                  obtain ⟨s10, hs10⟩ : ∃ s10, s = s10 := ⟨_, rfl⟩
                  subst hW10 hs10
                  have HC10 := Lib.hid HCL.out.1
                  have HP10 := Lib.hid HCL.out.1.pend
                  have HL10 := Lib.hid (show s.left ≤ 3 by rw [HCL.out.2.1]; omega)
                  have HG10 : Hid ((k + 1 < l.length ∧ k + 1 < 8) → s.left = 0) := Lib.hid (fun q => HCL.out.2.1)
                  have HN10 : Hid (¬ (s.left = 1 ∨ s.left = 2) ∨ ¬ (k + 1 < l.length ∧ k + 1 < 8)) := Lib.hid (.inl (by rw [HCL.out.2.1]; omega))
                  clear HJ9 HTL9 HZ9
                  have HNL := Lib.hid hq
                  clear hq
                  have HB10 := Lib.hid HJ10.out.below
                  have hcell10 := HCELL.out W9 HB10.out
                  go_wp2_with fail
                  refine (HFEW.out W9 HB10.out).mono ?_
                  rintro e W11 ⟨⟨v11, rfl, ho11⟩, hb11⟩
                  obtain ⟨A11, c11, rfl, -, -⟩ := ho11.slice
                  obtain ⟨s', t', b', E, g1, g2, g3, g4, g5, g6, g7⟩ := surv_step HC10.out HCL.out.2.2 HSH.out
                  have HG5 := Lib.hid g5
                  have HG6 := Lib.hid g6
                  have hl10 := HL10.out
                  have HAP := Lib.hid (append_J (HJ10.out.quiet (Turns.of_below hb11)) (fun q hq => Nat.lt_of_lt_of_le (HZ10.out q hq) hb11.size) A11 L L.length c11 rfl ho11.lat (by omega) HK.out (by rw [HP10.out]; decide) (by omega) HCL.out.2.2)
                  rw [g1, g2, g3, g4] at HAP
                  have HTL11 := Lib.hid (HTL10.out.quiet (Turns.of_below hb11))
                  have HZ11 : Hid (∀ q, Z9 q → q < W11.heap.size) := Lib.hid (fun q hq => Nat.lt_of_lt_of_le (HZ10.out q hq) hb11.size)
                  clear g1 g2 g3 g4 g5 g6 ho11 hb11 hl10 HJ10 HTL10 HZ10 hcell10
                  go_wp2_with fail
                  refine HAP.out.mono ?_
                  rintro e W12 ⟨rfl, hj12, ht12⟩
                  have HJ12 := Lib.hid hj12
                  have HTL12 := Lib.hid (HTL11.out.keep ht12)
                  have HZ12 : Hid (∀ q, Z9 q → q < W12.heap.size) := Lib.hid (fun q hq => Nat.lt_of_lt_of_le (HZ11.out q hq) ht12.size)
                  clear hj12 ht12 HAP HTL11 HZ11
                  rcases g7 with ⟨rfl, q1, q2, rfl, q4⟩ | ⟨rfl, rfl, rfl, rfl⟩ | ⟨rfl, q1, rfl, rfl, q4⟩
                  · have HS : Hid (SurvR n s' t' false RL RL (k + 1 < l.length ∧ k + 1 < 8)) := Lib.hid ⟨fun q => ⟨rfl, q1, by have := HG10.out q; omega, by rw [q2, HRL2.out], by rw [q2, HRL2.out]⟩, HG5.out, by have := Sv.clean q1 HG5.out; rw [q2, HRL2.out] at this; exact this, HG6.out⟩
                    clear q1 q2 q4
                    go_wp2_with fail
                    exact ⟨⟨k + 1, s', t', false, Z9, A9, A9, c9, c9, _, _, by omega, by omega, by go_num, rfl, rfl, HJ12, HZ12, Lib.hid ⟨HTL12.out.o7, HTL12.out.o7, HTL12.out.z7, HTL12.out.z7⟩, HS⟩, by simp only [intOf]; omega⟩
                  · have HS : Hid (SurvR n s' t' false t'.recs t'.recs (k + 1 < l.length ∧ k + 1 < 8)) := Lib.hid ⟨fun q => ⟨rfl, HC10.out, HG10.out q, rfl, rfl⟩, HG5.out, Sv.clean HC10.out HG5.out, HG6.out⟩
                    go_wp2_with fail
                    exact ⟨⟨k + 1, s', t', false, Z9, A5, A5, c5, c5, _, _, by omega, by omega, by go_num, rfl, rfl, HJ12, HZ12, Lib.hid ⟨HTL12.out.o6, HTL12.out.o6, HTL12.out.z6, HTL12.out.z6⟩, HS⟩, by simp only [intOf]; omega⟩
                  · exfalso
                    rcases HN10.out with q | q
                    · exact q q4
                    · exact q (by have := HNL.out; omega)
              exact AllReadyH.nil
            exact AllReadyH.nil
          exact AllReadyH.nil
        exact AllReadyH.nil
      · have d2 : decide ((k : Int) < 8) = false := by simp; omega
        have d1 : decide ((k : Int) < (l.length : Int)) = true := by simp [hlt]
        clear hlt2
        obtain ⟨kn, hkn⟩ : ∃ kn : Nat, min (keep.length : Int) 20 = (kn : Int) := ⟨min keep.length 20, by omega⟩
        have hkn2 : (keep.take kn).length = kn ∧ kn ≤ 20 := ⟨by rw [List.length_take]; omega, by omega⟩
        have y3 : (0 : Int) ≤ (kn : Int) := by omega
        have y4 : (kn : Int) ≤ (kc : Int) := by omega
        have hsp := hC.out.pend
        have HCR := Lib.hid (crash_D hJ.out.dl kA (keep.take kn) kn kc hkn2.1 (by omega) (((HKA.out.below hJ.out.below).more hJ.out.below.size).take kn) torn (by omega))
        obtain ⟨t9, o1, o2, o3, o4, o5, o6⟩ := open_after hC.out.sv (keep.take kn) torn
        obtain ⟨r1, r2, r3, r4⟩ := crash_rest s (keep.take kn) torn
        obtain ⟨s9, hs9⟩ : ∃ s9, s.crash (keep.take kn) torn = s9 := ⟨_, rfl⟩
        rw [hs9] at HCR o1 o2 o3 o5 r1 r2 r3 r4
        have HO := Lib.hid (And.intro o1 (And.intro o2 (And.intro o4 o6)))
        have HRR := Lib.hid (And.intro r2 r3)
        clear hs9 o1 o2 o3 o4 o5 o6 r1 r2 r3 r4 hkn2 hsp
        go_wp2_with fail
        refine HCR.out.mono ?_
        rintro e W5 ⟨rfl, hd5, ht5⟩
        have HD5 := Lib.hid hd5
        have HTL5 := Lib.hid (hTL.out.keep ht5)
        have HZ5 : Hid (∀ q, Z q → q < W5.heap.size) := Lib.hid (fun q hq => Nat.lt_of_lt_of_le (hZ.out q hq) ht5.size)
        clear hd5 ht5 HCR
        go_wp2_with fail
        refine (open_D HD5.out HZ5.out a HK.out HE.out (by rw [HRR.out.2]; decide) (by rw [HRR.out.1]; decide)).mono ?_
        rintro e W6 ⟨hr, ht6⟩
        unfold OpenD at hr
        rw [HO.out.1, HO.out.2.1] at hr
        rcases hr with ⟨-, j6, t6, rfl, ht6', hj6⟩ | ⟨hn, -⟩
        case inr => exact absurd rfl hn
        cases ht6'
        have HJ6 := Lib.hid hj6
        have HTL6 := Lib.hid (HTL5.out.keep ht6)
        have hrl := recs_le HO.out.2.2.1
        have HRL := Lib.hid hrl
        clear hj6 ht6 HTL5 HD5
        go_wp2_with fail
        refine (records_O HJ6.out.old (by omega)).mono ?_
        rintro e W7 ⟨⟨v7, rfl, ho7⟩, hb7⟩
        obtain ⟨A70, c70, rfl, -, -⟩ := ho7.slice
        have HJ7 := Lib.hid (HJ6.out.quiet (Turns.of_below hb7))
        have HTL7 := Lib.hid (HTL6.out.quiet (Turns.of_below hb7))
        have HSM := Lib.hid (same_walk A70 A6 t9.recs was t9.recs.length was.length c70 c6 rfl rfl (by omega) W7 ho7.lat HTL7.out.o6.lat)
        clear ho7 hb7 HTL6 HJ6
        by_cases hw : t9.recs = was
        · rw [show decide (t9.recs = was) = true by simp [hw]] at HSM
          clear hw
          go_wp2_with fail
          refine HSM.out.mono ?_
          rintro e W8 ⟨rfl, hb8⟩
          have HB8 := Lib.hid (HJ7.out.quiet (Turns.of_below hb8)).below
          clear hb8
          go_wp2_with fail
          go_ret
          exact ⟨rfl, HB8.out⟩
        · rw [show decide (t9.recs = was) = false by simp [hw]] at HSM
          have hw2 : t9.recs = want := HO.out.2.2.2.resolve_left hw
          have HW2 := Lib.hid hw2
          clear hw hw2
          go_wp2_with fail
          refine HSM.out.mono ?_
          rintro e W8 ⟨rfl, hb8⟩
          have HJ8 := Lib.hid (HJ7.out.quiet (Turns.of_below hb8))
          have HTL8 := Lib.hid (HTL7.out.quiet (Turns.of_below hb8))
          clear hb8 HSM HJ7 HTL7
          go_wp2_with fail
          refine (records_O HJ8.out.old (by omega)).mono ?_
          rintro e W9 ⟨⟨v9, rfl, ho9⟩, hb9⟩
          obtain ⟨A9, c9, rfl, -, -⟩ := ho9.slice
          have HJ9 := Lib.hid (HJ8.out.quiet (Turns.of_below hb9))
          have HTL9 := Lib.hid (HTL8.out.quiet (Turns.of_below hb9))
          have HSM2 := Lib.hid (same_walk A9 A7 t9.recs want t9.recs.length want.length c9 c7 rfl rfl (by omega) W9 ho9.lat HTL9.out.o7.lat)
          rw [show decide (t9.recs = want) = true by simp [HW2.out]] at HSM2
          clear ho9 hb9 HTL8 HJ8
          go_wp2_with fail
          refine HSM2.out.mono ?_
          rintro e W10 ⟨rfl, hb10⟩
          have HB10 := Lib.hid (HJ9.out.quiet (Turns.of_below hb10)).below
          clear hb10
          go_wp2_with fail
          go_ret
          exact ⟨rfl, HB10.out⟩
    · have d1 : decide ((k : Int) < (l.length : Int)) = false := by simp; omega
      obtain rfl : k = l.length := by omega
      clear hlt hk8
      obtain ⟨kn, hkn⟩ : ∃ kn : Nat, min (keep.length : Int) 20 = (kn : Int) := ⟨min keep.length 20, by omega⟩
      have hkn2 : (keep.take kn).length = kn ∧ kn ≤ 20 := ⟨by rw [List.length_take]; omega, by omega⟩
      have y3 : (0 : Int) ≤ (kn : Int) := by omega
      have y4 : (kn : Int) ≤ (kc : Int) := by omega
      have hsp := hC.out.pend
      have HCR := Lib.hid (crash_D hJ.out.dl kA (keep.take kn) kn kc hkn2.1 (by omega) (((HKA.out.below hJ.out.below).more hJ.out.below.size).take kn) torn (by omega))
      obtain ⟨t9, o1, o2, o3, o4, o5, o6⟩ := open_after hC.out.sv (keep.take kn) torn
      obtain ⟨r1, r2, r3, r4⟩ := crash_rest s (keep.take kn) torn
      obtain ⟨s9, hs9⟩ : ∃ s9, s.crash (keep.take kn) torn = s9 := ⟨_, rfl⟩
      rw [hs9] at HCR o1 o2 o3 o5 r1 r2 r3 r4
      have HO := Lib.hid (And.intro o1 (And.intro o2 (And.intro o4 o6)))
      have HRR := Lib.hid (And.intro r2 r3)
      clear hs9 o1 o2 o3 o4 o5 o6 r1 r2 r3 r4 hkn2 hsp
      go_wp2_with fail
      refine HCR.out.mono ?_
      rintro e W5 ⟨rfl, hd5, ht5⟩
      have HD5 := Lib.hid hd5
      have HTL5 := Lib.hid (hTL.out.keep ht5)
      have HZ5 : Hid (∀ q, Z q → q < W5.heap.size) := Lib.hid (fun q hq => Nat.lt_of_lt_of_le (hZ.out q hq) ht5.size)
      clear hd5 ht5 HCR
      go_wp2_with fail
      refine (open_D HD5.out HZ5.out a HK.out HE.out (by rw [HRR.out.2]; decide) (by rw [HRR.out.1]; decide)).mono ?_
      rintro e W6 ⟨hr, ht6⟩
      unfold OpenD at hr
      rw [HO.out.1, HO.out.2.1] at hr
      rcases hr with ⟨-, j6, t6, rfl, ht6', hj6⟩ | ⟨hn, -⟩
      case inr => exact absurd rfl hn
      cases ht6'
      have HJ6 := Lib.hid hj6
      have HTL6 := Lib.hid (HTL5.out.keep ht6)
      have hrl := recs_le HO.out.2.2.1
      have HRL := Lib.hid hrl
      clear hj6 ht6 HTL5 HD5
      go_wp2_with fail
      refine (records_O HJ6.out.old (by omega)).mono ?_
      rintro e W7 ⟨⟨v7, rfl, ho7⟩, hb7⟩
      obtain ⟨A70, c70, rfl, -, -⟩ := ho7.slice
      have HJ7 := Lib.hid (HJ6.out.quiet (Turns.of_below hb7))
      have HTL7 := Lib.hid (HTL6.out.quiet (Turns.of_below hb7))
      have HSM := Lib.hid (same_walk A70 A6 t9.recs was t9.recs.length was.length c70 c6 rfl rfl (by omega) W7 ho7.lat HTL7.out.o6.lat)
      clear ho7 hb7 HTL6 HJ6
      by_cases hw : t9.recs = was
      · rw [show decide (t9.recs = was) = true by simp [hw]] at HSM
        clear hw
        go_wp2_with fail
        refine HSM.out.mono ?_
        rintro e W8 ⟨rfl, hb8⟩
        have HB8 := Lib.hid (HJ7.out.quiet (Turns.of_below hb8)).below
        clear hb8
        go_wp2_with fail
        go_ret
        exact ⟨rfl, HB8.out⟩
      · rw [show decide (t9.recs = was) = false by simp [hw]] at HSM
        have hw2 : t9.recs = want := HO.out.2.2.2.resolve_left hw
        have HW2 := Lib.hid hw2
        clear hw hw2
        go_wp2_with fail
        refine HSM.out.mono ?_
        rintro e W8 ⟨rfl, hb8⟩
        have HJ8 := Lib.hid (HJ7.out.quiet (Turns.of_below hb8))
        have HTL8 := Lib.hid (HTL7.out.quiet (Turns.of_below hb8))
        clear hb8 HSM HJ7 HTL7
        go_wp2_with fail
        refine (records_O HJ8.out.old (by omega)).mono ?_
        rintro e W9 ⟨⟨v9, rfl, ho9⟩, hb9⟩
        obtain ⟨A9, c9, rfl, -, -⟩ := ho9.slice
        have HJ9 := Lib.hid (HJ8.out.quiet (Turns.of_below hb9))
        have HTL9 := Lib.hid (HTL8.out.quiet (Turns.of_below hb9))
        have HSM2 := Lib.hid (same_walk A9 A7 t9.recs want t9.recs.length want.length c9 c7 rfl rfl (by omega) W9 ho9.lat HTL9.out.o7.lat)
        rw [show decide (t9.recs = want) = true by simp [HW2.out]] at HSM2
        clear ho9 hb9 HTL8 HJ8
        go_wp2_with fail
        refine HSM2.out.mono ?_
        rintro e W10 ⟨rfl, hb10⟩
        have HB10 := Lib.hid (HJ9.out.quiet (Turns.of_below hb10)).below
        clear hb10
        go_wp2_with fail
        go_ret
        exact ⟨rfl, HB10.out⟩
end Go.Proofs.YtllmciiadceinaaGreatDoor
end
section
namespace Go.Proofs.YtllmciiadceinaaGreatDoor.lawJournalSurvives
open Go.ChangeShapes Go.WideShapes Go.ChangeAt Go.RowKit
open Go.ChangeMaps (open_string)

theorem own : ownKnob Tryz.prog.godebug = none := by kernel_rfl
theorem laidOut : laidOutB Tryz.prog = true := by kernel_rfl
theorem reads_ok : ∀ t ∈ Tryz.f5.params.toList, Tryz.prog.readableRec t = true ∧ t < Tryz.prog.types.size := by
  have h : (Tryz.f5.params.toList.all fun t => Tryz.prog.readableRec t && decide (t < Tryz.prog.types.size)) = true := by kernel_rfl
  intro t ht
  have := List.all_eq_true.1 h t ht
  simpa using this

theorem star : "*" ++ "errors.errorString" = "*errors.errorString" := by decide
theorem rowErr (u : TypeId) (h : Tryz.prog.typeName? 3 u = some "*errors.errorString") : u = 222 :=
  typeName_ptr_named (nm := "errors.errorString") (by rw [star]; kernel_rfl) (by kernel_rfl) (by decide) u (by rw [star]; exact h)
set_option maxRecDepth 100000 in
/-- What the listed variables hold. -/
theorem facts {W : World} (h : laidMetH Tryz.prog Rows.journalSurvivesRow.laid W) : KAt W ∧ ∃ a, ErrAt W a := by
  have h' : laidMet Tryz.prog Rows.journalSurvivesRow.laid W := h
  obtain ⟨ps, ⟨g0, t0, cs0, f0, p0, q0, hg0, ht0, hv0, hd0, ⟨g1, t1, cs1, f1, p1, q1, hg1, ht1, hv1, hd1, ⟨g2, t2, cs2, f2, p2, q2, hg2, ht2, hv2, hd2, -, e2⟩, e1⟩, e0⟩, -, hrows⟩ := h'
  obtain rfl := Option.some.inj ((by kernel_rfl : Tryz.prog.globalNamed "yardstick/digest.round" = some 3).symm.trans hg1)
  obtain rfl := Option.some.inj ((by kernel_rfl : Tryz.prog.globalNamed "yardstick/journal.errDamaged" = some 0).symm.trans hg2)
  obtain rfl := Option.some.inj ((by kernel_rfl : (Tryz.prog.globals[3]?).map (·.type) = some 214).symm.trans ht1)
  obtain rfl := Option.some.inj ((by kernel_rfl : (Tryz.prog.globals[0]?).map (·.type) = some 80).symm.trans ht2)
  subst e2
  subst e1
  subst e0
  refine ⟨?_, ?_⟩
  · have hc : cs1.toList = (shaK.map fun (n : Nat) => (n : Int)).map fun z => Value.int .u32 z :=
      Lib.cells_of_tab (n := 64) (k := .u32) (zs := shaK.map fun (n : Nat) => (n : Int)) Tryz.underlying214 Tryz.underlying109 (by kernel_rfl) (by kernel_rfl) hd1
    have hT : Lib.TabIs Tryz.prog W "yardstick/digest.round" .u32 (shaK.map fun (n : Nat) => (n : Int)) := by
      unfold Lib.TabIs
      rw [hv1, ← hc]
    intro j v hv
    rw [List.getElem?_map] at hv
    obtain ⟨x, hx, rfl⟩ := Option.map_eq_some_iff.1 hv
    have hj : j < shaK.length := (List.getElem?_eq_some_iff.1 hx).1
    have := hT.cell (g := 3) (by kernel_rfl) j (by simpa using hj)
    rw [Nat.zero_add, this]
    simp [List.getD_eq_getElem?_getD, List.getElem?_map, hx, wv]
  · obtain ⟨l2⟩ := cs2
    have ok2 : ∀ u v, l2 = [.iface u v] → Value.okWide Tryz.prog W .any 0 u v := fun u v e => by
      subst e
      exact (hrows 0 0 (by simp [MemPlace.row])).2 u v (by simpa using World.var?_cell hg2 hv2 0)
    obtain ⟨a, s, rfl, -⟩ := errorString_of_trod Tryz.underlying80 rowErr Tryz.underlying222 Tryz.underlying244 rfl rfl Tryz.underlying9 (by kernel_rfl) (by kernel_rfl) hd2 ok2
    exact ⟨a, show W.cell? ⟨0, 0, none⟩ = some (.iface 222 (.pointer (some a))) from by simpa using World.var?_cell hg2 hv2 0⟩

set_option maxRecDepth 100000 in
theorem contract (H : Type) (enc : TypeId × Value → H) (W : World) (base : Nat) (args : Array Value) (ds gs : List (DataW H)) (before : List MemPlace)
    (hval : ∀ (j : Nat) t v, Tryz.f5.params[j]? = some t → args[j]? = some v → Value.okWide Tryz.prog W .any base t v)
    (hW : DataW.Whole enc Tryz.prog Tryz.f5.params.toList Rows.journalSurvivesSpec.vars false W args.toList ds gs before) (hL : laidMetH Tryz.prog Rows.journalSurvivesRow.laid W) :
    Calls Tryz.prog 5 args W fun e W' => ∃ v, e = .returned v ∧ Rows.journalSurvivesSpec.post enc Tryz.prog Tryz.f5 false true false false W args v W' := by
  have hW' := hW
  obtain ⟨p, q, hA0, hV, rfl, hfz, hnd⟩ := hW
  have hA : DataW.TrodAll enc Tryz.prog W 0 (fun _ => true) true Tryz.f5.params.toList args.toList ds p := hA0
  rw [Tryz.params5] at hA hval
  obtain ⟨v0, vs0, d0, ds0, p0, q0, hargs, rfl, rfl, h0, r0⟩ := trodAll_cons hA
  obtain ⟨v1, vs1, d1, ds1, p1, q1, rfl, rfl, rfl, h1, r1⟩ := trodAll_cons r0
  obtain ⟨v2, vs2, d2, ds2, p2, q2, rfl, rfl, rfl, h2, r2⟩ := trodAll_cons r1
  obtain ⟨v3, vs3, d3, ds3, p3, q3, rfl, rfl, rfl, h3, r3⟩ := trodAll_cons r2
  obtain ⟨v4, vs4, d4, ds4, p4, q4, rfl, rfl, rfl, h4, r4⟩ := trodAll_cons r3
  obtain ⟨rfl, rfl, rfl⟩ := trodAll_nil r4
  obtain rfl : args = #[v0, v1, v2, v3, v4] := by cases args; simp_all
  obtain ⟨rfl, rfl⟩ := trodVars_none hV
  obtain ⟨n, rfl, _, _, w0⟩ := open_int Tryz.underlying3 (hval 0 3 v0 rfl rfl) h0
  have c0 := bounds_i64 w0
  obtain ⟨lA, l, lc, rfl, lw1, lwc, lw2, lw3⟩ := open_groupsAt Tryz.underlying48 Tryz.underlying22 Tryz.underlying9 (by kernel_rfl) (by kernel_rfl) (hval 1 48 v1 rfl rfl) h1
  obtain ⟨cut, rfl, _, _, w2⟩ := open_int Tryz.underlying3 (hval 2 3 v2 rfl rfl) h2
  have c2 := bounds_i64 w2
  obtain ⟨kpA, kp, kpc, rfl, kpw1, kpwc, kpw2, kpw3⟩ := open_intsAt Tryz.underlying56 Tryz.underlying3 (by kernel_rfl) (hval 3 56 v3 rfl rfl) h3
  obtain ⟨torn, rfl, _, _, w4⟩ := open_int Tryz.underlying3 (hval 4 3 v4 rfl rfl) h4
  have c4 := bounds_i64 w4
  unfold maxLen at lwc kpwc
  obtain ⟨hk, a, he⟩ := facts hL
  refine (survives_law W a hk he n c0.1 c0.2 lA l lc (by omega) lw2 lw3 cut c2.1 c2.2 kpA kp kpc (by omega) kpw1 kpw2 torn).mono fun e W' ⟨he, hb⟩ => ?_
  subst he
  exact ⟨_, rfl, law_post laidOut reads_ok rfl Tryz.underlying4 rfl hW' rfl hb⟩

def wargs : Array Value := #[.int .i64 0, .slice none 0 0, .int .i64 0, .slice none 0 0, .int .i64 0]
noncomputable def laidWorld (os : Os) : World := World.laidAll Tryz.prog os Rows.journalSurvivesRow.laid
theorem laid_met (os : Os) : laidMet Tryz.prog Rows.journalSurvivesRow.laid ((laidWorld os).forCall (fun _ _ => 0) ⟨#[], wargs, []⟩).memory :=
  laidMet_laidAll wargs (by kernel_rfl) (by kernel_rfl)
theorem reads (os : Os) {H : Type} (enc : TypeId × Value → H) : ∃ places, DataW.whole enc Tryz.prog ((laidWorld os).forCall (fun _ _ => 0) ⟨#[], wargs, []⟩).memory Tryz.f5.params.toList Rows.journalSurvivesSpec.vars false wargs.toList 8 = some ([.lit (.int .i64 0), .nil, .lit (.int .i64 0), .nil, .lit (.int .i64 0)], [], places) :=
  ⟨[], by kernel_rfl⟩

set_option maxRecDepth 100000 in
theorem lifted (os : Os) (started : os.Started) (H : Type) (enc : TypeId × Value → H) (F : Stop.Interp) :
    ReturnsInHanded {} Tryz.checked os 5 .any ((OpenSpec.ofChange Rows.journalSurvivesSpec).preRow enc Tryz.prog Tryz.f5 Rows.journalSurvivesRow.domain false Rows.journalSurvivesRow.laid) (((OpenSpec.ofChange Rows.journalSurvivesSpec).at F).post enc Tryz.prog Tryz.f5 false true false false) := by
  obtain ⟨places, hx⟩ := reads os enc
  refine returnsInHanded_of_row (C := Tryz.checked) (s := OpenSpec.ofChange Rows.journalSurvivesSpec) own started (by kernel_rfl) Tryz.func5
    (witness_row_at (enc := enc) (C := Tryz.checked) false (laidWorld os) wargs (World.laidAll_os _ _ _) (by kernel_rfl) (by kernel_rfl) (by kernel_rfl)
      (OpenSpec.preRow_of_cond 8 hx (by kernel_rfl) (fun k hk => by cases hk) (by kernel_rfl) (laid_met os))) ?_
  intro W base args ds gs before hval hW _ _ _ hL _ _
  exact contract H enc W base args ds gs before hval hW hL

theorem said : Rows.JournalSurvivesSaid :=
  OpenClaim.holds_of_cond 5 Tryz.f5 rfl rfl rfl rfl rfl rfl rfl ⟨rfl, rfl, rfl, rfl, rfl⟩ rfl rfl rfl rfl rfl (by kernel_rfl) Tryz.func5 (by kernel_rfl)
    (of_decide_eq_true (by kernel_rfl)) (by unfold Func.isWrapper; rw [if_neg (of_decide_eq_false (by kernel_rfl))]; exact ⟨rfl, rfl⟩)
    (fun os started H enc _ F => by rw [OpenClaim.pre_eq_preRow]; exact lifted os started H enc F)

theorem plain (f : FuncId) (fn : Func) (hf : Tryz.pinned.checked.prog.funcNamed "yardstick/yardsticklaw26.JournalSurvives" = some f) (hfn : Tryz.pinned.checked.prog.funcs[f]? = some fn) :
    true = Tryz.pinned.checked.prog.looks [] ∧ ∀ (j : Nat) t, fn.params[j]? = some t → Tryz.pinned.checked.prog.wantsStandIn t = false := by
  obtain rfl : f = 5 := Option.some.inj ((show Tryz.prog.funcNamed "yardstick/yardsticklaw26.JournalSurvives" = some 5 by kernel_rfl).symm.trans hf) |>.symm
  obtain rfl : fn = Tryz.f5 := (Option.some.inj (Tryz.func5.symm.trans hfn)).symm
  refine ⟨by kernel_rfl, fun j t ht => ?_⟩
  have h : (Tryz.f5.params.toList.all fun t => Tryz.prog.wantsStandIn t == false) = true := by kernel_rfl
  have h2 := List.all_eq_true.1 h t (Array.mem_toList_iff.2 (Array.mem_of_getElem? ht))
  have h3 : Tryz.prog.wantsStandIn t = false := by simpa using h2
  exact h3

/-- THE CARD. -/
theorem card : Rows.JournalSurvivesCardSaid :=
  Claim7.holds_tied_plain_at .later [] _ _ _ _ said (fun _ h => by cases h) (by kernel_rfl) (fun _ h => by cases h) journalSurvives_row_tie rfl ⟨rfl, rfl⟩ (by kernel_rfl) rfl plain (by kernel_rfl)

end Go.Proofs.YtllmciiadceinaaGreatDoor.lawJournalSurvives
end
