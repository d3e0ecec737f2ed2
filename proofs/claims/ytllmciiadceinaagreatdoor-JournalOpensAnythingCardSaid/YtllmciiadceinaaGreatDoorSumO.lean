/-
  JournalOpensAnything returns true. Conditions: the package's variables hold what they hold. JournalOpensAnything: for every input the law returns true, and each argument reads afterwards as before. Condition: the listed package-level variables read as the program's text lays them (the card ties that).
-/
import Derived.Test.YtllmciiadceinaaGreatDoorSumX2
import Derived.Test.YtllmciiadceinaaGreatDoorCards
import Derived.Test.YtllmciiadceinaaGreatDoorTie
import Derived.Test.YtllmciiadceinaaGreatDoorRow
import Derived.Deep.DeepHandedRow
import Derived.Lib.LaidTab
import Derived.Lay
section
namespace Go.Proofs.YtllmciiadceinaaGreatDoor
open Go Go.RowKit Go.Shelf Go.ChangeShapes Go.WideShapes Go.Deep Wr

theorem cvOneB (c : UInt8) (W : World) : (Go.convert 39 9 (.slice (some ⟨W.heap.size, 0, none⟩) 1 1)).run Tryz.prog (W.alloc (.cells #[.int .u8 (c.toNat : Int)] 5)) = .ok (.string ⟨#[c]⟩) (W.alloc (.cells #[.int .u8 (c.toNat : Int)] 5)) :=
  (RAt.alloc_new (f := bv) (l := [c]) W #[.int .u8 (c.toNat : Int)] 5 rfl).convert (P := Tryz.prog) (cap := 1) (by simp) 39 9 5 Tryz.underlying39 Tryz.underlying5 Tryz.underlying9
theorem wp_cutF {P : Program} {c : Code} {Q' : Exit → Act → World → Prop} {a : Act} {w : World} (F : Act) (R : World → Prop) (h : Code.wp P c (fun e a' w' => e = .normal ∧ a' = F ∧ R w') a w) (k : ∀ w', R w' → Q' .normal F w') : Code.wp P c Q' a w :=
  Code.wp_mono (fun e a' w' h => by obtain ⟨rfl, rfl, hr⟩ := h; exact k _ hr) h
theorem open_on {s : DS} (h : openE s = 0) : (openD s).off = false := by
  unfold openE at h
  unfold openD
  split at h
  · cases h
  · rename_i ho
    rw [if_neg ho]
    split at h
    · cases h
    · split at h
      · rename_i hz
        rw [if_pos hz]
        simpa using ho
      · rename_i hz
        rw [if_neg hz, sync_keepsoff]
        unfold chkE at h
        split at h
        · cases h
        · rename_i h2; simpa using h2
set_option maxRecDepth 100000 in
set_option maxHeartbeats 64000000 in
theorem opens_law (W : World) (a : Addr) (hK : KAt W) (hE : ErrAt W a) (N : Int) (hN1 : -9223372036854775808 ≤ N) (hN2 : N ≤ 9223372036854775807) (S : ByteArray) (hS : S.size ≤ 9223372036854775807) (A : Option Addr) (l : List ByteArray) (c : Nat) (hl : l.length ≤ 9223372036854775807) (hA : LAt W W.heap.size A .string l) (at0 : Int) (ha1 : -9223372036854775808 ≤ at0) (ha2 : at0 ≤ 9223372036854775807) (c8 : UInt8) :
    Calls Tryz.prog 3 #[.int .i64 N, .string S, .slice A l.length c, .int .i64 at0, .int .u8 (c8.toNat : Int)] W fun e W' => e = .returned (.bool true) ∧ Below W.heap.size W W' := by
  have HSN := Lib.hid (sane_walk W a hK hE)
  have hnr := sizeN_range N
  have HBG := Lib.hid (fun (V : World) (h0 : Turns (fun _ => False) W V) => begin_walk h0 a hK hE N hN1 hN2)
  have HSZ := Lib.hid (jsize_walk · N hN1 hN2)
  obtain ⟨n, hn⟩ : ∃ n, sizeN N = n := ⟨_, rfl⟩
  rw [hn] at hnr HBG HSZ
  have HPK := Lib.hid (pick_walk (x := at0) (n := (n : Int)) · ha1 ha2 (by omega) (by omega))
  have hpr := pickZ_range at0 (n := (n : Int)) (by omega)
  obtain ⟨pk, hpk⟩ : ∃ pk, pickZ at0 (n : Int) = pk := ⟨_, rfl⟩
  rw [hpk] at HPK hpr
  have hfl := fewS_length l
  have HFW : Hid (∀ (Z : Nat → Prop) (W1 : World) (d x : Nat) (s1 s2 : DS) (J K : JO) (L : List ByteArray) (q : Nat), fewS l = L → L.length = q → ∀ V, (∀ k, Z k → k < V.heap.size) → Trk W Z W1 n d x s1 J s2 K V → Calls Tryz.prog 11 #[.slice A l.length c] V fun e V' => ∃ A c, e = .returned (.slice A q c) ∧ TrkL W Z W1 n d x s1 J s2 K L A c V') := Lib.hid (fun Z W1 d x s1 s2 J K L q h1 h2 V hz hv => by
    subst h1
    exact hv.few hz hl hA h2)
  have HK := Lib.hid hK
  have HE := Lib.hid hE
  have HS := Lib.hid hS
  obtain ⟨ln, hln⟩ : ∃ ln, l.length = ln := ⟨_, rfl⟩
  rw [hln] at HFW ⊢
  clear hK hE hA hn hpk hl hln hS hN1 hN2 ha1 ha2
  go_enter Tryz.func3, Tryz.ntmps3
  go_wp2_with fail
  refine HSN.out.mono ?_
  rintro e W1 ⟨rfl, hb1⟩
  have HU1 := Lib.hid (Turns.of_below (Z := fun _ => False) hb1)
  clear hb1 HSN
  go_wp2_with fail
  refine (HBG.out W1 HU1.out).mono ?_
  rintro e W2 ⟨w, d, x, j, k, rfl, hw2⟩
  have HW2 := Lib.hid hw2
  obtain ⟨Z, hZ⟩ : ∃ Z : Nat → Prop, (fun q => q = w) = Z := ⟨_, rfl⟩
  rw [hZ] at hw2
  have HZ := Lib.hid hZ
  have HZW : Hid (Z w) := Lib.hid hw2.zw
  have HZZ : Hid (∀ V : World, Turns (fun k => ¬ Z k) W2 V → ∀ k, Z k → k < V.heap.size) := Lib.hid (fun V hV k hk => Nat.lt_of_lt_of_le (hw2.zl k hk) hV.size)
  have HCE : Hid (∀ V, Turns (fun k => ¬ Z k) W2 V → V.cell? ⟨w, 0, none⟩ = some (.pointer (some ⟨d, 0, none⟩)) ∧ V.cell? ⟨w, 1, none⟩ = some (.pointer (some ⟨j, 0, none⟩)) ∧ V.cell? ⟨w, 2, none⟩ = some (.pointer (some ⟨x, 0, none⟩)) ∧ V.cell? ⟨w, 3, none⟩ = some (.pointer (some ⟨k, 0, none⟩))) := Lib.hid (fun V u => by
    have h1 := hw2.wo.turns u (fun e => e hw2.zw)
    exact ⟨h1.cell 0, h1.cell 1, h1.cell 2, h1.cell 3⟩)
  have HT2 : Hid (Trk W Z W2 n d x (DS.fresh n) (some (j, TS.zero, false)) (DS.fresh n) (some (k, TS.zero, false)) W2) := Lib.hid ⟨Turns.refl _ _, hw2.duo⟩
  have HOPEN : Hid (∀ (V : World) (s' : DS) (t : TS) (b : Bool), Trk W Z W2 n d x s' (some (j, t, b)) s' (some (k, t, b)) V → Bnd 1000 s' → Calls Tryz.prog 17 #[.pointer (some ⟨w, 0, none⟩)] V fun e W' => e = .returned (.bool true) ∧ ∃ s2 o2, Wor W Z W' n d x w s2 o2 ∧ Bnd 1001 s2 ∧ GoodO n o2 ∧ (s2.off = false ∨ o2 = none)) := Lib.hid (fun V s' t b hv hb => by
    have hwor : Wor W Z V n d x w s' (some (j, k, t, b)) := ⟨hv.2, hw2.wo.turns hv.1 (fun e => e hw2.zw), hw2.zw, HZZ.out V hv.1, hw2.zb⟩
    refine (wopen_walk hwor a HK.out HE.out hnr.1 (by have := hb.1; omega) hb.2).mono ?_
    rintro e W3 ⟨rfl, ⟨o2, g1, g2⟩, g3⟩
    refine ⟨rfl, _, o2, g2, hb.open, GoodO.open hwor.duo.vlen g1, ?_⟩
    rcases g1 with ⟨h0, -⟩ | ⟨-, h0⟩
    · exact .inl (open_on h0)
    · exact .inr h0)
  clear hw2 hZ HBG HU1
  by_cases hl0 : 0 < ln
  · have d1 : decide ((0 : Int) < (ln : Int)) = true := by simp [hl0]
    have d1n : decide (0 < ln) = true := by simp [hl0]
    obtain ⟨L, hL⟩ : ∃ L, fewS l = L := ⟨_, rfl⟩
    obtain ⟨q, hq⟩ : ∃ q, L.length = q := ⟨_, rfl⟩
    rw [hL, hq] at hfl
    have h0 : Trk W Z W2 n d x (DS.fresh n) (some (j, TS.zero, false)) (DS.fresh n) (some (k, TS.zero, false)) W2.drew := ⟨Turns.drew _, HT2.out.2.quiet (Turns.drew _)⟩
    obtain ⟨E, hE⟩ : ∃ E, appE n (DS.fresh n) TS.zero false L = E := ⟨_, rfl⟩
    obtain ⟨s9, hs9⟩ : ∃ s9, appD n (DS.fresh n) TS.zero false L = s9 := ⟨_, rfl⟩
    obtain ⟨t9, ht9⟩ : ∃ t9, appT n (DS.fresh n) TS.zero false L = t9 := ⟨_, rfl⟩
    obtain ⟨b9, hb9⟩ : ∃ b9, appB n (DS.fresh n) TS.zero false L = b9 := ⟨_, rfl⟩
    have hbf : Bnd 0 (DS.fresh n) := ⟨Nat.le_refl _, Nat.zero_le _⟩
    have HF1 := Lib.hid (HFW.out Z W2 d x (DS.fresh n) (DS.fresh n) (some (j, TS.zero, false)) (some (k, TS.zero, false)) L q hL hq)
    have HF2 := Lib.hid (HFW.out Z W2 d x s9 (DS.fresh n) (some (j, t9, b9)) (some (k, TS.zero, false)) L q hL hq)
    have HA1 : Hid (∀ V A c, TrkL W Z W2 n d x (DS.fresh n) (some (j, TS.zero, false)) (DS.fresh n) (some (k, TS.zero, false)) L A c V → Calls Tryz.prog 10 #[.pointer (some ⟨j, 0, none⟩), .slice A q c] V fun e V' => e = .returned (.int .i64 E) ∧ Trk W Z W2 n d x s9 (some (j, t9, b9)) (DS.fresh n) (some (k, TS.zero, false)) V') := Lib.hid (fun V A c hv => by
      have h1 := hv.appL hq (by omega) HK.out (by have := hbf.1; omega) hbf.2 Good.zero
      rw [hE, hs9, ht9, hb9] at h1
      exact h1)
    have HA2 : Hid (∀ V A c, TrkL W Z W2 n d x s9 (some (j, t9, b9)) (DS.fresh n) (some (k, TS.zero, false)) L A c V → Calls Tryz.prog 12 #[.pointer (some ⟨k, 0, none⟩), .slice A q c] V fun e V' => e = .returned (.int .i64 E) ∧ Trk W Z W2 n d x s9 (some (j, t9, b9)) s9 (some (k, t9, b9)) V') := Lib.hid (fun V A c hv => by
      have h1 := hv.appR hnr.1 hq (by omega) (by have := hbf.1; omega) hbf.2 Good.zero
      rw [hE, hs9, ht9, hb9] at h1
      exact h1)
    have HB9 : Hid (Bnd 2 s9) := Lib.hid (by rw [← hs9]; exact hbf.app n TS.zero false L)
    have hs0 := HCE.out _ h0.1
    clear hL hE hs9 ht9 hb9 hbf hq HFW
    go_wp2_with fail
    refine wp_region_noPanic ?_
    refine wp_region_held_drew (S := fun V => V.cell? ⟨w, 0, none⟩ = some (.pointer (some ⟨d, 0, none⟩)) ∧ V.cell? ⟨w, 1, none⟩ = some (.pointer (some ⟨j, 0, none⟩)) ∧ V.cell? ⟨w, 2, none⟩ = some (.pointer (some ⟨x, 0, none⟩)) ∧ V.cell? ⟨w, 3, none⟩ = some (.pointer (some ⟨k, 0, none⟩))) (by kernel_rfl) hs0 (fun hHeld => ?_)
    refine wpAnyH_take (i := 0) (oi := { dst := some 26, op := Op.move (Operand.tmp 12), type := 24, pos := "law.go:158", after := #[], guard := none }) (v := ?_) rfl (by kernel_rfl) (by kernel_rfl) (by kernel_rfl) (fun _ _ _ h => h) (Or.inl ⟨by rfl, ?_⟩) (by assumption) ?_
    rotate_left
    · intro w hSw; (try dsimp only at hSw); go_simp <;> with_reducible rfl
    try simp only [Act.put, List.setIfInBounds_toArray, List.set_cons_zero, List.set_cons_succ]
    refine wpAnyH_take (i := 1) (oi := { dst := some 27, op := Op.nilCheck (Operand.tmp 26), type := 0, pos := "law.go:158", after := #[{ on := 0, ground := Ground.data }], guard := none }) (v := ?_) rfl (by kernel_rfl) (by kernel_rfl) (by kernel_rfl) (fun _ _ _ h => h) (Or.inl ⟨by rfl, ?_⟩) (by assumption) ?_
    rotate_left
    · intro w hSw; (try dsimp only at hSw); go_simp <;> with_reducible rfl
    try simp only [Act.put, List.setIfInBounds_toArray, List.set_cons_zero, List.set_cons_succ]
    refine wpAnyH_take (i := 2) (oi := { dst := some 28, op := Op.fieldAddr 32 (Operand.tmp 27) 1, type := 0, pos := "law.go:158", after := #[{ on := 1, ground := Ground.data }], guard := none }) (v := ?_) rfl (by kernel_rfl) (by kernel_rfl) (by kernel_rfl) (fun _ _ _ h => h) (Or.inl ⟨by rfl, ?_⟩) (by assumption) ?_
    rotate_left
    · intro w hSw; (try dsimp only at hSw); go_simp <;> with_reducible rfl
    try simp only [Act.put, List.setIfInBounds_toArray, List.set_cons_zero, List.set_cons_succ]
    refine wpAnyH_take (i := 3) (oi := { dst := some 29, op := Op.load 28 (Operand.tmp 28), type := 28, pos := "law.go:158", after := #[{ on := 2, ground := Ground.data }], guard := none }) (v := ?_) rfl (by kernel_rfl) (by kernel_rfl) (by kernel_rfl) (fun _ _ _ h => h) (Or.inl ⟨by rfl, ?_⟩) (by assumption) ?_
    rotate_left
    · intro w hSw; (try dsimp only at hSw); go_simp <;> with_reducible rfl
    try simp only [Act.put, List.setIfInBounds_toArray, List.set_cons_zero, List.set_cons_succ]
    refine wpAnyH_take (i := 4) (oi := { dst := some 30, op := Op.binOp BinOp.eql 28 (Operand.tmp 29) (Operand.const (Value.pointer none)) 28, type := 4, pos := "law.go:158", after := #[{ on := 3, ground := Ground.data }], guard := none }) (v := ?_) rfl (by kernel_rfl) (by kernel_rfl) (by kernel_rfl) (fun _ _ _ h => h) (Or.inl ⟨by rfl, ?_⟩) (by assumption) ?_
    rotate_left
    · intro w hSw; (try dsimp only at hSw); go_simp <;> with_reducible rfl
    try simp only [Act.put, List.setIfInBounds_toArray, List.set_cons_zero, List.set_cons_succ]
    refine wpAnyH_take (i := 5) (oi := { dst := some 31, op := Op.move (Operand.tmp 30), type := 4, pos := "law.go:158", after := #[{ on := 4, ground := Ground.data }], guard := none }) (v := ?_) rfl (by kernel_rfl) (by kernel_rfl) (by kernel_rfl) (fun _ _ _ h => h) (Or.inl ⟨by rfl, ?_⟩) (by assumption) ?_
    rotate_left
    · intro w hSw; (try dsimp only at hSw); go_simp <;> with_reducible rfl
    try simp only [Act.put, List.setIfInBounds_toArray, List.set_cons_zero, List.set_cons_succ]
    refine wpAnyH_take (i := 6) (oi := { dst := some 32, op := Op.move (Operand.tmp 12), type := 24, pos := "law.go:158", after := #[{ on := 5, ground := Ground.guard }], guard := some (5, false) }) (v := ?_) rfl (by kernel_rfl) (by kernel_rfl) (by kernel_rfl) (fun _ _ _ h => h) (Or.inl ⟨by rfl, ?_⟩) (by assumption) ?_
    rotate_left
    · intro w hSw; (try dsimp only at hSw); go_simp <;> with_reducible rfl
    try simp only [Act.put, List.setIfInBounds_toArray, List.set_cons_zero, List.set_cons_succ]
    refine wpAnyH_take (i := 7) (oi := { dst := some 33, op := Op.nilCheck (Operand.tmp 32), type := 0, pos := "law.go:158", after := #[{ on := 6, ground := Ground.data }, { on := 5, ground := Ground.guard }], guard := some (5, false) }) (v := ?_) rfl (by kernel_rfl) (by kernel_rfl) (by kernel_rfl) (fun _ _ _ h => h) (Or.inl ⟨by rfl, ?_⟩) (by assumption) ?_
    rotate_left
    · intro w hSw; (try dsimp only at hSw); go_simp <;> with_reducible rfl
    try simp only [Act.put, List.setIfInBounds_toArray, List.set_cons_zero, List.set_cons_succ]
    refine wpAnyH_take (i := 8) (oi := { dst := some 34, op := Op.fieldAddr 32 (Operand.tmp 33) 1, type := 0, pos := "law.go:158", after := #[{ on := 7, ground := Ground.data }, { on := 5, ground := Ground.guard }], guard := some (5, false) }) (v := ?_) rfl (by kernel_rfl) (by kernel_rfl) (by kernel_rfl) (fun _ _ _ h => h) (Or.inl ⟨by rfl, ?_⟩) (by assumption) ?_
    rotate_left
    · intro w hSw; (try dsimp only at hSw); go_simp <;> with_reducible rfl
    try simp only [Act.put, List.setIfInBounds_toArray, List.set_cons_zero, List.set_cons_succ]
    refine wpAnyH_take (i := 9) (oi := { dst := some 35, op := Op.load 28 (Operand.tmp 34), type := 28, pos := "law.go:158", after := #[{ on := 8, ground := Ground.data }, { on := 5, ground := Ground.guard }], guard := some (5, false) }) (v := ?_) rfl (by kernel_rfl) (by kernel_rfl) (by kernel_rfl) (fun _ _ _ h => h) (Or.inl ⟨by rfl, ?_⟩) (by assumption) ?_
    rotate_left
    · intro w hSw; (try dsimp only at hSw); go_simp <;> with_reducible rfl
    try simp only [Act.put, List.setIfInBounds_toArray, List.set_cons_zero, List.set_cons_succ]
    refine wpAnyH_take (i := 10) (oi := { dst := some 36, op := Op.move (Operand.tmp 2), type := 22, pos := "law.go:158", after := #[{ on := 5, ground := Ground.guard }], guard := some (5, false) }) (v := ?_) rfl (by kernel_rfl) (by kernel_rfl) (by kernel_rfl) (fun _ _ _ h => h) (Or.inl ⟨by rfl, ?_⟩) (by assumption) ?_
    rotate_left
    · intro w hSw; (try dsimp only at hSw); go_simp <;> with_reducible rfl
    try simp only [Act.put, List.setIfInBounds_toArray, List.set_cons_zero, List.set_cons_succ]
    refine wpAnyH_take (i := 13) (oi := { dst := some 39, op := Op.move (Operand.tmp 12), type := 24, pos := "law.go:158", after := #[{ on := 5, ground := Ground.guard }], guard := some (5, false) }) (v := ?_) rfl (by kernel_rfl) (by kernel_rfl) (by kernel_rfl) (fun _ _ _ h => h) (Or.inl ⟨by rfl, ?_⟩) (by assumption) ?_
    rotate_left
    · intro w hSw; (try dsimp only at hSw); go_simp <;> with_reducible rfl
    try simp only [Act.put, List.setIfInBounds_toArray, List.set_cons_zero, List.set_cons_succ]
    refine wpAnyH_take (i := 14) (oi := { dst := some 40, op := Op.nilCheck (Operand.tmp 39), type := 0, pos := "law.go:158", after := #[{ on := 13, ground := Ground.data }, { on := 5, ground := Ground.guard }], guard := some (5, false) }) (v := ?_) rfl (by kernel_rfl) (by kernel_rfl) (by kernel_rfl) (fun _ _ _ h => h) (Or.inl ⟨by rfl, ?_⟩) (by assumption) ?_
    rotate_left
    · intro w hSw; (try dsimp only at hSw); go_simp <;> with_reducible rfl
    try simp only [Act.put, List.setIfInBounds_toArray, List.set_cons_zero, List.set_cons_succ]
    refine wpAnyH_take (i := 15) (oi := { dst := some 41, op := Op.fieldAddr 32 (Operand.tmp 40) 3, type := 0, pos := "law.go:158", after := #[{ on := 14, ground := Ground.data }, { on := 5, ground := Ground.guard }], guard := some (5, false) }) (v := ?_) rfl (by kernel_rfl) (by kernel_rfl) (by kernel_rfl) (fun _ _ _ h => h) (Or.inl ⟨by rfl, ?_⟩) (by assumption) ?_
    rotate_left
    · intro w hSw; (try dsimp only at hSw); go_simp <;> with_reducible rfl
    try simp only [Act.put, List.setIfInBounds_toArray, List.set_cons_zero, List.set_cons_succ]
    refine wpAnyH_take (i := 16) (oi := { dst := some 42, op := Op.load 30 (Operand.tmp 41), type := 30, pos := "law.go:158", after := #[{ on := 15, ground := Ground.data }, { on := 5, ground := Ground.guard }], guard := some (5, false) }) (v := ?_) rfl (by kernel_rfl) (by kernel_rfl) (by kernel_rfl) (fun _ _ _ h => h) (Or.inl ⟨by rfl, ?_⟩) (by assumption) ?_
    rotate_left
    · intro w hSw; (try dsimp only at hSw); go_simp <;> with_reducible rfl
    try simp only [Act.put, List.setIfInBounds_toArray, List.set_cons_zero, List.set_cons_succ]
    refine wpAnyH_take (i := 17) (oi := { dst := some 43, op := Op.move (Operand.tmp 2), type := 22, pos := "law.go:158", after := #[{ on := 5, ground := Ground.guard }], guard := some (5, false) }) (v := ?_) rfl (by kernel_rfl) (by kernel_rfl) (by kernel_rfl) (fun _ _ _ h => h) (Or.inl ⟨by rfl, ?_⟩) (by assumption) ?_
    rotate_left
    · intro w hSw; (try dsimp only at hSw); go_simp <;> with_reducible rfl
    try simp only [Act.put, List.setIfInBounds_toArray, List.set_cons_zero, List.set_cons_succ]
    refine wpAnyH_ready (rs := [11]) (by kernel_rfl) (by simp) ?_
    refine AllReadyH.cons (o := { dst := some 37, op := Op.call { callee := Callee.value (Operand.func 11), args := #[Operand.tmp 36], argTypes := #[22] }, type := 22, pos := "law.go:158", after := #[{ on := 10, ground := Ground.data }, { on := 5, ground := Ground.chain }, { on := 5, ground := Ground.guard }], guard := some (5, false) }) rfl (fun K hK => ?_) ?_
    · go_simp
      go_at_call 11
      refine (HF1.out _ (HZZ.out _ h0.1) h0).mono ?_
      rintro e V1 ⟨A1, c1, rfl, hv1⟩
      refine hK.out _ _ ((HCE.out _ hv1.1)) (fun hHeld => ?_)
      clear hK K
      try simp only [Act.put, List.setIfInBounds_toArray, List.set_cons_zero, List.set_cons_succ]
      refine wpAnyH_ready (rs := [12]) (by kernel_rfl) (by simp) ?_
      refine AllReadyH.cons (o := { dst := some 38, op := Op.call { callee := Callee.value (Operand.func 10), args := #[Operand.tmp 35, Operand.tmp 37], argTypes := #[28, 22] }, type := 33, pos := "law.go:158", after := #[{ on := 9, ground := Ground.data }, { on := 11, ground := Ground.data }, { on := 11, ground := Ground.chain }, { on := 5, ground := Ground.guard }], guard := some (5, false) }) rfl (fun K hK => ?_) ?_
      · go_simp
        go_at_call 10
        refine (HA1.out _ _ _ hv1).mono ?_
        rintro e V2 ⟨rfl, hv2⟩
        refine hK.out _ _ ((HCE.out _ hv2.1)) (fun hHeld => ?_)
        clear hK K
        try simp only [Act.put, List.setIfInBounds_toArray, List.set_cons_zero, List.set_cons_succ]
        refine wpAnyH_ready (rs := [18]) (by kernel_rfl) (by simp) ?_
        refine AllReadyH.cons (o := { dst := some 44, op := Op.call { callee := Callee.value (Operand.func 11), args := #[Operand.tmp 43], argTypes := #[22] }, type := 22, pos := "law.go:158", after := #[{ on := 17, ground := Ground.data }, { on := 12, ground := Ground.chain }, { on := 5, ground := Ground.guard }], guard := some (5, false) }) rfl (fun K hK => ?_) ?_
        · go_simp
          go_at_call 11
          refine (HF2.out _ (HZZ.out _ hv2.1) hv2).mono ?_
          rintro e V3 ⟨A3, c3, rfl, hv3⟩
          refine hK.out _ _ ((HCE.out _ hv3.1)) (fun hHeld => ?_)
          clear hK K
          try simp only [Act.put, List.setIfInBounds_toArray, List.set_cons_zero, List.set_cons_succ]
          refine wpAnyH_ready (rs := [19]) (by kernel_rfl) (by simp) ?_
          refine AllReadyH.cons (o := { dst := some 45, op := Op.call { callee := Callee.value (Operand.func 12), args := #[Operand.tmp 42, Operand.tmp 44], argTypes := #[30, 22] }, type := 33, pos := "law.go:158", after := #[{ on := 16, ground := Ground.data }, { on := 18, ground := Ground.data }, { on := 18, ground := Ground.chain }, { on := 5, ground := Ground.guard }], guard := some (5, false) }) rfl (fun K hK => ?_) ?_
          · go_simp
            go_at_call 12
            refine (HA2.out _ _ _ hv3).mono ?_
            rintro e V4 ⟨rfl, hv4⟩
            refine hK.out _ _ ((HCE.out _ hv4.1)) (fun hHeld => ?_)
            clear hK K
            try simp only [Act.put, List.setIfInBounds_toArray, List.set_cons_zero, List.set_cons_succ]
            refine wpAnyH_take (i := 20) (oi := { dst := some 46, op := Op.binOp BinOp.neq 33 (Operand.tmp 38) (Operand.tmp 45) 33, type := 4, pos := "law.go:158", after := #[{ on := 12, ground := Ground.data }, { on := 19, ground := Ground.data }, { on := 5, ground := Ground.guard }], guard := some (5, false) }) (v := ?_) rfl (by kernel_rfl) (by kernel_rfl) (by kernel_rfl) (fun _ _ _ h => h) (Or.inl ⟨by rfl, ?_⟩) (by assumption) ?_
            rotate_left
            · intro w hSw; (try dsimp only at hSw); go_simp <;> with_reducible rfl
            try simp only [Act.put, List.setIfInBounds_toArray, List.set_cons_zero, List.set_cons_succ]
            refine wpAnyH_take (i := 21) (oi := { dst := some 47, op := Op.pick (Operand.tmp 31) (Operand.const (Value.bool true)) (Operand.tmp 46), type := 4, pos := "law.go:158", after := #[{ on := 5, ground := Ground.data }, { on := 20, ground := Ground.data }], guard := none }) (v := ?_) rfl (by kernel_rfl) (by kernel_rfl) (by kernel_rfl) (fun _ _ _ h => h) (Or.inl ⟨by rfl, ?_⟩) (by assumption) ?_
            rotate_left
            · intro w hSw; (try dsimp only at hSw); go_simp <;> with_reducible rfl
            try simp only [Act.put, List.setIfInBounds_toArray, List.set_cons_zero, List.set_cons_succ]
            refine wpAnyH_done (by kernel_rfl) ?_ _
            refine NoPanic.normal ?_
            have HV4 := Lib.hid hv4
            have hcv : (Go.convert 39 9 (.slice (some ⟨V4.heap.size, 0, none⟩) 1 1)).run Tryz.prog (V4.alloc (.cells #[.int .u8 (c8.toNat : Int)] 5)).drew = .ok (.string ⟨#[c8]⟩) (V4.alloc (.cells #[.int .u8 (c8.toNat : Int)] 5)).drew := cvOneB c8 V4.drew
            obtain ⟨sA, hsA⟩ : ∃ sA, s9.wr pk ⟨#[c8]⟩ = sA := ⟨_, rfl⟩
            obtain ⟨EA, hEA⟩ : ∃ EA, s9.writeE pk ⟨#[c8]⟩ = EA := ⟨_, rfl⟩
            have HWL : Hid (∀ V, Trk W Z W2 n d x s9 (some (j, t9, b9)) s9 (some (k, t9, b9)) V → Calls Tryz.prog 13 #[.pointer (some ⟨d, 0, none⟩), .int .i64 pk, .string ⟨#[c8]⟩] V fun e V' => e = .returned (.int .i64 EA) ∧ Trk W Z W2 n d x sA (some (j, t9, b9)) s9 (some (k, t9, b9)) V') := Lib.hid (fun V hv => by
              rw [← hsA, ← hEA]
              exact (hv.2.writeL (HZZ.out V hv.1) pk ⟨#[c8]⟩ (by show 1 ≤ _; omega) (by have := HB9.out.1; omega) HB9.out.2).mono fun e V' q => ⟨q.1, hv.1.trans q.2.2, q.2.1⟩)
            have HWR : Hid (∀ V, Trk W Z W2 n d x sA (some (j, t9, b9)) s9 (some (k, t9, b9)) V → Calls Tryz.prog 16 #[.pointer (some ⟨x, 0, none⟩), .int .i64 pk, .string ⟨#[c8]⟩] V fun e V' => e = .returned (.int .i64 EA) ∧ Trk W Z W2 n d x sA (some (j, t9, b9)) sA (some (k, t9, b9)) V') := Lib.hid (fun V hv => by
              have h1 := hv.2.writeR (HZZ.out V hv.1) pk ⟨#[c8]⟩ (by show 1 ≤ _; omega) (by have := HB9.out.1; omega) HB9.out.2
              rw [hsA, hEA] at h1
              exact h1.mono fun e V' q => ⟨q.1, hv.1.trans q.2.2, q.2.1⟩)
            have HBA : Hid (Bnd 3 sA) := Lib.hid (by rw [← hsA]; exact HB9.out.wr _ _)
            have h5 : Trk W Z W2 n d x s9 (some (j, t9, b9)) s9 (some (k, t9, b9)) V4.drew := ⟨hv4.1.trans (Turns.drew _), hv4.2.quiet (Turns.drew _)⟩
            have h6 : Trk W Z W2 n d x s9 (some (j, t9, b9)) s9 (some (k, t9, b9)) (V4.alloc (.cells #[.int .u8 (c8.toNat : Int)] 5)).drew := ⟨h5.1.trans (Turns.alloc V4.drew _), h5.2.quiet (Turns.alloc V4.drew _)⟩
            have hs5 := HCE.out _ h5.1
            have hs6 := HCE.out _ h6.1
            clear hv1 hv2 hv3 hv4 hHeld h0 hs0 HF1 HF2 HA1 HA2 hsA hEA
            go_wp2_with fail
            apply wp_cutF (R := fun V => Trk W Z W2 n d x sA (some (j, t9, b9)) s9 (some (k, t9, b9)) V)
            · refine wp_region_noPanic ?_
              refine wp_region_held_drew (S := fun V => V.cell? ⟨w, 0, none⟩ = some (.pointer (some ⟨d, 0, none⟩)) ∧ V.cell? ⟨w, 1, none⟩ = some (.pointer (some ⟨j, 0, none⟩)) ∧ V.cell? ⟨w, 2, none⟩ = some (.pointer (some ⟨x, 0, none⟩)) ∧ V.cell? ⟨w, 3, none⟩ = some (.pointer (some ⟨k, 0, none⟩))) (by kernel_rfl) hs5 (fun hHeld => ?_)
              refine wpAnyH_take (i := 0) (oi := { dst := some 48, op := Op.move (Operand.tmp 12), type := 24, pos := "law.go:161", after := #[], guard := none }) (v := ?_) rfl (by kernel_rfl) (by kernel_rfl) (by kernel_rfl) (fun _ _ _ h => h) (Or.inl ⟨by rfl, ?_⟩) (by assumption) ?_
              rotate_left
              · intro w hSw; (try dsimp only at hSw); go_simp <;> with_reducible rfl
              try simp only [Act.put, List.setIfInBounds_toArray, List.set_cons_zero, List.set_cons_succ]
              refine wpAnyH_take (i := 1) (oi := { dst := some 49, op := Op.nilCheck (Operand.tmp 48), type := 0, pos := "law.go:161", after := #[{ on := 0, ground := Ground.data }], guard := none }) (v := ?_) rfl (by kernel_rfl) (by kernel_rfl) (by kernel_rfl) (fun _ _ _ h => h) (Or.inl ⟨by rfl, ?_⟩) (by assumption) ?_
              rotate_left
              · intro w hSw; (try dsimp only at hSw); go_simp <;> with_reducible rfl
              try simp only [Act.put, List.setIfInBounds_toArray, List.set_cons_zero, List.set_cons_succ]
              refine wpAnyH_take (i := 2) (oi := { dst := some 50, op := Op.fieldAddr 32 (Operand.tmp 49) 0, type := 0, pos := "law.go:161", after := #[{ on := 1, ground := Ground.data }], guard := none }) (v := ?_) rfl (by kernel_rfl) (by kernel_rfl) (by kernel_rfl) (fun _ _ _ h => h) (Or.inl ⟨by rfl, ?_⟩) (by assumption) ?_
              rotate_left
              · intro w hSw; (try dsimp only at hSw); go_simp <;> with_reducible rfl
              try simp only [Act.put, List.setIfInBounds_toArray, List.set_cons_zero, List.set_cons_succ]
              refine wpAnyH_take (i := 3) (oi := { dst := some 51, op := Op.load 27 (Operand.tmp 50), type := 27, pos := "law.go:161", after := #[{ on := 2, ground := Ground.data }], guard := none }) (v := ?_) rfl (by kernel_rfl) (by kernel_rfl) (by kernel_rfl) (fun _ _ _ h => h) (Or.inl ⟨by rfl, ?_⟩) (by assumption) ?_
              rotate_left
              · intro w hSw; (try dsimp only at hSw); go_simp <;> with_reducible rfl
              try simp only [Act.put, List.setIfInBounds_toArray, List.set_cons_zero, List.set_cons_succ]
              refine wpAnyH_take (i := 4) (oi := { dst := some 52, op := Op.move (Operand.tmp 3), type := 3, pos := "law.go:161", after := #[], guard := none }) (v := ?_) rfl (by kernel_rfl) (by kernel_rfl) (by kernel_rfl) (fun _ _ _ h => h) (Or.inl ⟨by rfl, ?_⟩) (by assumption) ?_
              rotate_left
              · intro w hSw; (try dsimp only at hSw); go_simp <;> with_reducible rfl
              try simp only [Act.put, List.setIfInBounds_toArray, List.set_cons_zero, List.set_cons_succ]
              refine wpAnyH_take (i := 5) (oi := { dst := some 53, op := Op.move (Operand.tmp 0), type := 3, pos := "law.go:161", after := #[], guard := none }) (v := ?_) rfl (by kernel_rfl) (by kernel_rfl) (by kernel_rfl) (fun _ _ _ h => h) (Or.inl ⟨by rfl, ?_⟩) (by assumption) ?_
              rotate_left
              · intro w hSw; (try dsimp only at hSw); go_simp <;> with_reducible rfl
              try simp only [Act.put, List.setIfInBounds_toArray, List.set_cons_zero, List.set_cons_succ]
              refine wpAnyH_take (i := 8) (oi := { dst := some 56, op := Op.move (Operand.tmp 4), type := 5, pos := "law.go:161", after := #[], guard := none }) (v := ?_) rfl (by kernel_rfl) (by kernel_rfl) (by kernel_rfl) (fun _ _ _ h => h) (Or.inl ⟨by rfl, ?_⟩) (by assumption) ?_
              rotate_left
              · intro w hSw; (try dsimp only at hSw); go_simp <;> with_reducible rfl
              try simp only [Act.put, List.setIfInBounds_toArray, List.set_cons_zero, List.set_cons_succ]
              refine wpAnyH_ready (rs := [6, 9]) (by kernel_rfl) (by simp) ?_
              refine AllReadyH.cons (o := { dst := some 54, op := Op.call { callee := Callee.value (Operand.func 15), args := #[Operand.tmp 53], argTypes := #[3] }, type := 3, pos := "law.go:161", after := #[{ on := 5, ground := Ground.data }], guard := none }) rfl (fun K hK => ?_) ?_
              · go_simp
                go_at_call 15
                refine (HSZ.out _).mono ?_
                rintro e w1 ⟨rfl, rfl⟩
                refine hK.out _ _ (hs5) (fun hHeld => ?_)
                clear hK K
                try simp only [Act.put, List.setIfInBounds_toArray, List.set_cons_zero, List.set_cons_succ]
                refine wpAnyH_ready (rs := [7, 9]) (by kernel_rfl) (by simp) ?_
                refine AllReadyH.cons (o := { dst := some 55, op := Op.call { callee := Callee.value (Operand.func 14), args := #[Operand.tmp 52, Operand.tmp 54], argTypes := #[3, 3] }, type := 3, pos := "law.go:161", after := #[{ on := 4, ground := Ground.data }, { on := 6, ground := Ground.data }, { on := 6, ground := Ground.chain }], guard := none }) rfl (fun K hK => ?_) ?_
                · go_simp
                  go_at_call 14
                  refine (HPK.out _).mono ?_
                  rintro e w1 ⟨rfl, rfl⟩
                  refine hK.out _ _ (hs5) (fun hHeld => ?_)
                  clear hK K
                  try simp only [Act.put, List.setIfInBounds_toArray, List.set_cons_zero, List.set_cons_succ]
                  refine wpAnyH_ready (rs := [9]) (by kernel_rfl) (by simp) ?_
                  refine AllReadyH.cons (o := { dst := some 57, op := Op.buildSlice 39 1 #[(0, Operand.tmp 56)], type := 39, pos := "law.go:161", after := #[{ on := 8, ground := Ground.data }], guard := none }) rfl (fun K hK => ?_) ?_
                  · go_simp
                    refine hK.out _ _ (hs6) (fun hHeld => ?_)
                    clear hK K
                    try simp only [Act.put, List.setIfInBounds_toArray, List.set_cons_zero, List.set_cons_succ]
                    refine wpAnyH_ready (rs := [10]) (by kernel_rfl) (by simp) ?_
                    refine AllReadyH.cons (o := { dst := some 58, op := Op.convert 39 9 (Operand.tmp 57), type := 9, pos := "law.go:161", after := #[{ on := 9, ground := Ground.data }], guard := none }) rfl (fun K hK => ?_) ?_
                    · go_simp
                      refine hK.out _ _ (hs6) (fun hHeld => ?_)
                      clear hK K
                      try simp only [Act.put, List.setIfInBounds_toArray, List.set_cons_zero, List.set_cons_succ]
                      refine wpAnyH_ready (rs := [11]) (by kernel_rfl) (by simp) ?_
                      refine AllReadyH.cons (o := { dst := some 59, op := Op.call { callee := Callee.value (Operand.func 13), args := #[Operand.tmp 51, Operand.tmp 55, Operand.tmp 58], argTypes := #[27, 3, 9] }, type := 33, pos := "law.go:161", after := #[{ on := 3, ground := Ground.data }, { on := 7, ground := Ground.data }, { on := 10, ground := Ground.data }, { on := 7, ground := Ground.chain }], guard := none }) rfl (fun K hK => ?_) ?_
                      · go_simp
                        go_at_call 13
                        refine (HWL.out _ h6).mono ?_
                        rintro e V7 ⟨rfl, hv7⟩
                        refine hK.out _ _ ((HCE.out _ hv7.1)) (fun hHeld => ?_)
                        clear hK K
                        try simp only [Act.put, List.setIfInBounds_toArray, List.set_cons_zero, List.set_cons_succ]
                        refine wpAnyH_done (by kernel_rfl) ?_ _
                        refine NoPanic.normal ?_
                        exact ⟨rfl, rfl, hv7⟩
                      exact AllReadyH.nil
                    exact AllReadyH.nil
                  exact AllReadyH.nil
                refine AllReadyH.cons (o := { dst := some 57, op := Op.buildSlice 39 1 #[(0, Operand.tmp 56)], type := 39, pos := "law.go:161", after := #[{ on := 8, ground := Ground.data }], guard := none }) rfl (fun K hK => ?_) ?_
                · go_simp
                  refine hK.out _ _ (hs6) (fun hHeld => ?_)
                  clear hK K
                  try simp only [Act.put, List.setIfInBounds_toArray, List.set_cons_zero, List.set_cons_succ]
                  refine wpAnyH_ready (rs := [7, 10]) (by kernel_rfl) (by simp) ?_
                  refine AllReadyH.cons (o := { dst := some 55, op := Op.call { callee := Callee.value (Operand.func 14), args := #[Operand.tmp 52, Operand.tmp 54], argTypes := #[3, 3] }, type := 3, pos := "law.go:161", after := #[{ on := 4, ground := Ground.data }, { on := 6, ground := Ground.data }, { on := 6, ground := Ground.chain }], guard := none }) rfl (fun K hK => ?_) ?_
                  · go_simp
                    go_at_call 14
                    refine (HPK.out _).mono ?_
                    rintro e w1 ⟨rfl, rfl⟩
                    refine hK.out _ _ (hs6) (fun hHeld => ?_)
                    clear hK K
                    try simp only [Act.put, List.setIfInBounds_toArray, List.set_cons_zero, List.set_cons_succ]
                    refine wpAnyH_ready (rs := [10]) (by kernel_rfl) (by simp) ?_
                    refine AllReadyH.cons (o := { dst := some 58, op := Op.convert 39 9 (Operand.tmp 57), type := 9, pos := "law.go:161", after := #[{ on := 9, ground := Ground.data }], guard := none }) rfl (fun K hK => ?_) ?_
                    · go_simp
                      refine hK.out _ _ (hs6) (fun hHeld => ?_)
                      clear hK K
                      try simp only [Act.put, List.setIfInBounds_toArray, List.set_cons_zero, List.set_cons_succ]
                      refine wpAnyH_ready (rs := [11]) (by kernel_rfl) (by simp) ?_
                      refine AllReadyH.cons (o := { dst := some 59, op := Op.call { callee := Callee.value (Operand.func 13), args := #[Operand.tmp 51, Operand.tmp 55, Operand.tmp 58], argTypes := #[27, 3, 9] }, type := 33, pos := "law.go:161", after := #[{ on := 3, ground := Ground.data }, { on := 7, ground := Ground.data }, { on := 10, ground := Ground.data }, { on := 7, ground := Ground.chain }], guard := none }) rfl (fun K hK => ?_) ?_
                      · go_simp
                        go_at_call 13
                        refine (HWL.out _ h6).mono ?_
                        rintro e V7 ⟨rfl, hv7⟩
                        refine hK.out _ _ ((HCE.out _ hv7.1)) (fun hHeld => ?_)
                        clear hK K
                        try simp only [Act.put, List.setIfInBounds_toArray, List.set_cons_zero, List.set_cons_succ]
                        refine wpAnyH_done (by kernel_rfl) ?_ _
                        refine NoPanic.normal ?_
                        exact ⟨rfl, rfl, hv7⟩
                      exact AllReadyH.nil
                    exact AllReadyH.nil
                  refine AllReadyH.cons (o := { dst := some 58, op := Op.convert 39 9 (Operand.tmp 57), type := 9, pos := "law.go:161", after := #[{ on := 9, ground := Ground.data }], guard := none }) rfl (fun K hK => ?_) ?_
                  · go_simp
                    refine hK.out _ _ (hs6) (fun hHeld => ?_)
                    clear hK K
                    try simp only [Act.put, List.setIfInBounds_toArray, List.set_cons_zero, List.set_cons_succ]
                    refine wpAnyH_ready (rs := [7]) (by kernel_rfl) (by simp) ?_
                    refine AllReadyH.cons (o := { dst := some 55, op := Op.call { callee := Callee.value (Operand.func 14), args := #[Operand.tmp 52, Operand.tmp 54], argTypes := #[3, 3] }, type := 3, pos := "law.go:161", after := #[{ on := 4, ground := Ground.data }, { on := 6, ground := Ground.data }, { on := 6, ground := Ground.chain }], guard := none }) rfl (fun K hK => ?_) ?_
                    · go_simp
                      go_at_call 14
                      refine (HPK.out _).mono ?_
                      rintro e w1 ⟨rfl, rfl⟩
                      refine hK.out _ _ (hs6) (fun hHeld => ?_)
                      clear hK K
                      try simp only [Act.put, List.setIfInBounds_toArray, List.set_cons_zero, List.set_cons_succ]
                      refine wpAnyH_ready (rs := [11]) (by kernel_rfl) (by simp) ?_
                      refine AllReadyH.cons (o := { dst := some 59, op := Op.call { callee := Callee.value (Operand.func 13), args := #[Operand.tmp 51, Operand.tmp 55, Operand.tmp 58], argTypes := #[27, 3, 9] }, type := 33, pos := "law.go:161", after := #[{ on := 3, ground := Ground.data }, { on := 7, ground := Ground.data }, { on := 10, ground := Ground.data }, { on := 7, ground := Ground.chain }], guard := none }) rfl (fun K hK => ?_) ?_
                      · go_simp
                        go_at_call 13
                        refine (HWL.out _ h6).mono ?_
                        rintro e V7 ⟨rfl, hv7⟩
                        refine hK.out _ _ ((HCE.out _ hv7.1)) (fun hHeld => ?_)
                        clear hK K
                        try simp only [Act.put, List.setIfInBounds_toArray, List.set_cons_zero, List.set_cons_succ]
                        refine wpAnyH_done (by kernel_rfl) ?_ _
                        refine NoPanic.normal ?_
                        exact ⟨rfl, rfl, hv7⟩
                      exact AllReadyH.nil
                    exact AllReadyH.nil
                  exact AllReadyH.nil
                exact AllReadyH.nil
              refine AllReadyH.cons (o := { dst := some 57, op := Op.buildSlice 39 1 #[(0, Operand.tmp 56)], type := 39, pos := "law.go:161", after := #[{ on := 8, ground := Ground.data }], guard := none }) rfl (fun K hK => ?_) ?_
              · go_simp
                refine hK.out _ _ (hs6) (fun hHeld => ?_)
                clear hK K
                try simp only [Act.put, List.setIfInBounds_toArray, List.set_cons_zero, List.set_cons_succ]
                refine wpAnyH_ready (rs := [6, 10]) (by kernel_rfl) (by simp) ?_
                refine AllReadyH.cons (o := { dst := some 54, op := Op.call { callee := Callee.value (Operand.func 15), args := #[Operand.tmp 53], argTypes := #[3] }, type := 3, pos := "law.go:161", after := #[{ on := 5, ground := Ground.data }], guard := none }) rfl (fun K hK => ?_) ?_
                · go_simp
                  go_at_call 15
                  refine (HSZ.out _).mono ?_
                  rintro e w1 ⟨rfl, rfl⟩
                  refine hK.out _ _ (hs6) (fun hHeld => ?_)
                  clear hK K
                  try simp only [Act.put, List.setIfInBounds_toArray, List.set_cons_zero, List.set_cons_succ]
                  refine wpAnyH_ready (rs := [7, 10]) (by kernel_rfl) (by simp) ?_
                  refine AllReadyH.cons (o := { dst := some 55, op := Op.call { callee := Callee.value (Operand.func 14), args := #[Operand.tmp 52, Operand.tmp 54], argTypes := #[3, 3] }, type := 3, pos := "law.go:161", after := #[{ on := 4, ground := Ground.data }, { on := 6, ground := Ground.data }, { on := 6, ground := Ground.chain }], guard := none }) rfl (fun K hK => ?_) ?_
                  · go_simp
                    go_at_call 14
                    refine (HPK.out _).mono ?_
                    rintro e w1 ⟨rfl, rfl⟩
                    refine hK.out _ _ (hs6) (fun hHeld => ?_)
                    clear hK K
                    try simp only [Act.put, List.setIfInBounds_toArray, List.set_cons_zero, List.set_cons_succ]
                    refine wpAnyH_ready (rs := [10]) (by kernel_rfl) (by simp) ?_
                    refine AllReadyH.cons (o := { dst := some 58, op := Op.convert 39 9 (Operand.tmp 57), type := 9, pos := "law.go:161", after := #[{ on := 9, ground := Ground.data }], guard := none }) rfl (fun K hK => ?_) ?_
                    · go_simp
                      refine hK.out _ _ (hs6) (fun hHeld => ?_)
                      clear hK K
                      try simp only [Act.put, List.setIfInBounds_toArray, List.set_cons_zero, List.set_cons_succ]
                      refine wpAnyH_ready (rs := [11]) (by kernel_rfl) (by simp) ?_
                      refine AllReadyH.cons (o := { dst := some 59, op := Op.call { callee := Callee.value (Operand.func 13), args := #[Operand.tmp 51, Operand.tmp 55, Operand.tmp 58], argTypes := #[27, 3, 9] }, type := 33, pos := "law.go:161", after := #[{ on := 3, ground := Ground.data }, { on := 7, ground := Ground.data }, { on := 10, ground := Ground.data }, { on := 7, ground := Ground.chain }], guard := none }) rfl (fun K hK => ?_) ?_
                      · go_simp
                        go_at_call 13
                        refine (HWL.out _ h6).mono ?_
                        rintro e V7 ⟨rfl, hv7⟩
                        refine hK.out _ _ ((HCE.out _ hv7.1)) (fun hHeld => ?_)
                        clear hK K
                        try simp only [Act.put, List.setIfInBounds_toArray, List.set_cons_zero, List.set_cons_succ]
                        refine wpAnyH_done (by kernel_rfl) ?_ _
                        refine NoPanic.normal ?_
                        exact ⟨rfl, rfl, hv7⟩
                      exact AllReadyH.nil
                    exact AllReadyH.nil
                  refine AllReadyH.cons (o := { dst := some 58, op := Op.convert 39 9 (Operand.tmp 57), type := 9, pos := "law.go:161", after := #[{ on := 9, ground := Ground.data }], guard := none }) rfl (fun K hK => ?_) ?_
                  · go_simp
                    refine hK.out _ _ (hs6) (fun hHeld => ?_)
                    clear hK K
                    try simp only [Act.put, List.setIfInBounds_toArray, List.set_cons_zero, List.set_cons_succ]
                    refine wpAnyH_ready (rs := [7]) (by kernel_rfl) (by simp) ?_
                    refine AllReadyH.cons (o := { dst := some 55, op := Op.call { callee := Callee.value (Operand.func 14), args := #[Operand.tmp 52, Operand.tmp 54], argTypes := #[3, 3] }, type := 3, pos := "law.go:161", after := #[{ on := 4, ground := Ground.data }, { on := 6, ground := Ground.data }, { on := 6, ground := Ground.chain }], guard := none }) rfl (fun K hK => ?_) ?_
                    · go_simp
                      go_at_call 14
                      refine (HPK.out _).mono ?_
                      rintro e w1 ⟨rfl, rfl⟩
                      refine hK.out _ _ (hs6) (fun hHeld => ?_)
                      clear hK K
                      try simp only [Act.put, List.setIfInBounds_toArray, List.set_cons_zero, List.set_cons_succ]
                      refine wpAnyH_ready (rs := [11]) (by kernel_rfl) (by simp) ?_
                      refine AllReadyH.cons (o := { dst := some 59, op := Op.call { callee := Callee.value (Operand.func 13), args := #[Operand.tmp 51, Operand.tmp 55, Operand.tmp 58], argTypes := #[27, 3, 9] }, type := 33, pos := "law.go:161", after := #[{ on := 3, ground := Ground.data }, { on := 7, ground := Ground.data }, { on := 10, ground := Ground.data }, { on := 7, ground := Ground.chain }], guard := none }) rfl (fun K hK => ?_) ?_
                      · go_simp
                        go_at_call 13
                        refine (HWL.out _ h6).mono ?_
                        rintro e V7 ⟨rfl, hv7⟩
                        refine hK.out _ _ ((HCE.out _ hv7.1)) (fun hHeld => ?_)
                        clear hK K
                        try simp only [Act.put, List.setIfInBounds_toArray, List.set_cons_zero, List.set_cons_succ]
                        refine wpAnyH_done (by kernel_rfl) ?_ _
                        refine NoPanic.normal ?_
                        exact ⟨rfl, rfl, hv7⟩
                      exact AllReadyH.nil
                    exact AllReadyH.nil
                  exact AllReadyH.nil
                refine AllReadyH.cons (o := { dst := some 58, op := Op.convert 39 9 (Operand.tmp 57), type := 9, pos := "law.go:161", after := #[{ on := 9, ground := Ground.data }], guard := none }) rfl (fun K hK => ?_) ?_
                · go_simp
                  refine hK.out _ _ (hs6) (fun hHeld => ?_)
                  clear hK K
                  try simp only [Act.put, List.setIfInBounds_toArray, List.set_cons_zero, List.set_cons_succ]
                  refine wpAnyH_ready (rs := [6]) (by kernel_rfl) (by simp) ?_
                  refine AllReadyH.cons (o := { dst := some 54, op := Op.call { callee := Callee.value (Operand.func 15), args := #[Operand.tmp 53], argTypes := #[3] }, type := 3, pos := "law.go:161", after := #[{ on := 5, ground := Ground.data }], guard := none }) rfl (fun K hK => ?_) ?_
                  · go_simp
                    go_at_call 15
                    refine (HSZ.out _).mono ?_
                    rintro e w1 ⟨rfl, rfl⟩
                    refine hK.out _ _ (hs6) (fun hHeld => ?_)
                    clear hK K
                    try simp only [Act.put, List.setIfInBounds_toArray, List.set_cons_zero, List.set_cons_succ]
                    refine wpAnyH_ready (rs := [7]) (by kernel_rfl) (by simp) ?_
                    refine AllReadyH.cons (o := { dst := some 55, op := Op.call { callee := Callee.value (Operand.func 14), args := #[Operand.tmp 52, Operand.tmp 54], argTypes := #[3, 3] }, type := 3, pos := "law.go:161", after := #[{ on := 4, ground := Ground.data }, { on := 6, ground := Ground.data }, { on := 6, ground := Ground.chain }], guard := none }) rfl (fun K hK => ?_) ?_
                    · go_simp
                      go_at_call 14
                      refine (HPK.out _).mono ?_
                      rintro e w1 ⟨rfl, rfl⟩
                      refine hK.out _ _ (hs6) (fun hHeld => ?_)
                      clear hK K
                      try simp only [Act.put, List.setIfInBounds_toArray, List.set_cons_zero, List.set_cons_succ]
                      refine wpAnyH_ready (rs := [11]) (by kernel_rfl) (by simp) ?_
                      refine AllReadyH.cons (o := { dst := some 59, op := Op.call { callee := Callee.value (Operand.func 13), args := #[Operand.tmp 51, Operand.tmp 55, Operand.tmp 58], argTypes := #[27, 3, 9] }, type := 33, pos := "law.go:161", after := #[{ on := 3, ground := Ground.data }, { on := 7, ground := Ground.data }, { on := 10, ground := Ground.data }, { on := 7, ground := Ground.chain }], guard := none }) rfl (fun K hK => ?_) ?_
                      · go_simp
                        go_at_call 13
                        refine (HWL.out _ h6).mono ?_
                        rintro e V7 ⟨rfl, hv7⟩
                        refine hK.out _ _ ((HCE.out _ hv7.1)) (fun hHeld => ?_)
                        clear hK K
                        try simp only [Act.put, List.setIfInBounds_toArray, List.set_cons_zero, List.set_cons_succ]
                        refine wpAnyH_done (by kernel_rfl) ?_ _
                        refine NoPanic.normal ?_
                        exact ⟨rfl, rfl, hv7⟩
                      exact AllReadyH.nil
                    exact AllReadyH.nil
                  exact AllReadyH.nil
                exact AllReadyH.nil
              exact AllReadyH.nil
            intro V7 hv7
            have hcv7 : (Go.convert 39 9 (.slice (some ⟨V7.heap.size, 0, none⟩) 1 1)).run Tryz.prog (V7.alloc (.cells #[.int .u8 (c8.toNat : Int)] 5)).drew = .ok (.string ⟨#[c8]⟩) (V7.alloc (.cells #[.int .u8 (c8.toNat : Int)] 5)).drew := cvOneB c8 V7.drew
            have h7 : Trk W Z W2 n d x sA (some (j, t9, b9)) s9 (some (k, t9, b9)) V7.drew := ⟨hv7.1.trans (Turns.drew _), hv7.2.quiet (Turns.drew _)⟩
            have h8 : Trk W Z W2 n d x sA (some (j, t9, b9)) s9 (some (k, t9, b9)) (V7.alloc (.cells #[.int .u8 (c8.toNat : Int)] 5)).drew := ⟨h7.1.trans (Turns.alloc V7.drew _), h7.2.quiet (Turns.alloc V7.drew _)⟩
            have hs7 := HCE.out _ h7.1
            have hs8 := HCE.out _ h8.1
            clear hcv h5 h6 hs5 hs6 HWL hv7
            go_wp2_with fail
            apply wp_cutF (R := fun V => Trk W Z W2 n d x sA (some (j, t9, b9)) sA (some (k, t9, b9)) V)
            · refine wp_region_noPanic ?_
              refine wp_region_held_drew (S := fun V => V.cell? ⟨w, 0, none⟩ = some (.pointer (some ⟨d, 0, none⟩)) ∧ V.cell? ⟨w, 1, none⟩ = some (.pointer (some ⟨j, 0, none⟩)) ∧ V.cell? ⟨w, 2, none⟩ = some (.pointer (some ⟨x, 0, none⟩)) ∧ V.cell? ⟨w, 3, none⟩ = some (.pointer (some ⟨k, 0, none⟩))) (by kernel_rfl) hs7 (fun hHeld => ?_)
              refine wpAnyH_take (i := 0) (oi := { dst := some 60, op := Op.move (Operand.tmp 12), type := 24, pos := "law.go:162", after := #[], guard := none }) (v := ?_) rfl (by kernel_rfl) (by kernel_rfl) (by kernel_rfl) (fun _ _ _ h => h) (Or.inl ⟨by rfl, ?_⟩) (by assumption) ?_
              rotate_left
              · intro w hSw; (try dsimp only at hSw); go_simp <;> with_reducible rfl
              try simp only [Act.put, List.setIfInBounds_toArray, List.set_cons_zero, List.set_cons_succ]
              refine wpAnyH_take (i := 1) (oi := { dst := some 61, op := Op.nilCheck (Operand.tmp 60), type := 0, pos := "law.go:162", after := #[{ on := 0, ground := Ground.data }], guard := none }) (v := ?_) rfl (by kernel_rfl) (by kernel_rfl) (by kernel_rfl) (fun _ _ _ h => h) (Or.inl ⟨by rfl, ?_⟩) (by assumption) ?_
              rotate_left
              · intro w hSw; (try dsimp only at hSw); go_simp <;> with_reducible rfl
              try simp only [Act.put, List.setIfInBounds_toArray, List.set_cons_zero, List.set_cons_succ]
              refine wpAnyH_take (i := 2) (oi := { dst := some 62, op := Op.fieldAddr 32 (Operand.tmp 61) 2, type := 0, pos := "law.go:162", after := #[{ on := 1, ground := Ground.data }], guard := none }) (v := ?_) rfl (by kernel_rfl) (by kernel_rfl) (by kernel_rfl) (fun _ _ _ h => h) (Or.inl ⟨by rfl, ?_⟩) (by assumption) ?_
              rotate_left
              · intro w hSw; (try dsimp only at hSw); go_simp <;> with_reducible rfl
              try simp only [Act.put, List.setIfInBounds_toArray, List.set_cons_zero, List.set_cons_succ]
              refine wpAnyH_take (i := 3) (oi := { dst := some 63, op := Op.load 29 (Operand.tmp 62), type := 29, pos := "law.go:162", after := #[{ on := 2, ground := Ground.data }], guard := none }) (v := ?_) rfl (by kernel_rfl) (by kernel_rfl) (by kernel_rfl) (fun _ _ _ h => h) (Or.inl ⟨by rfl, ?_⟩) (by assumption) ?_
              rotate_left
              · intro w hSw; (try dsimp only at hSw); go_simp <;> with_reducible rfl
              try simp only [Act.put, List.setIfInBounds_toArray, List.set_cons_zero, List.set_cons_succ]
              refine wpAnyH_take (i := 4) (oi := { dst := some 64, op := Op.move (Operand.tmp 3), type := 3, pos := "law.go:162", after := #[], guard := none }) (v := ?_) rfl (by kernel_rfl) (by kernel_rfl) (by kernel_rfl) (fun _ _ _ h => h) (Or.inl ⟨by rfl, ?_⟩) (by assumption) ?_
              rotate_left
              · intro w hSw; (try dsimp only at hSw); go_simp <;> with_reducible rfl
              try simp only [Act.put, List.setIfInBounds_toArray, List.set_cons_zero, List.set_cons_succ]
              refine wpAnyH_take (i := 5) (oi := { dst := some 65, op := Op.move (Operand.tmp 0), type := 3, pos := "law.go:162", after := #[], guard := none }) (v := ?_) rfl (by kernel_rfl) (by kernel_rfl) (by kernel_rfl) (fun _ _ _ h => h) (Or.inl ⟨by rfl, ?_⟩) (by assumption) ?_
              rotate_left
              · intro w hSw; (try dsimp only at hSw); go_simp <;> with_reducible rfl
              try simp only [Act.put, List.setIfInBounds_toArray, List.set_cons_zero, List.set_cons_succ]
              refine wpAnyH_take (i := 8) (oi := { dst := some 68, op := Op.move (Operand.tmp 4), type := 5, pos := "law.go:162", after := #[], guard := none }) (v := ?_) rfl (by kernel_rfl) (by kernel_rfl) (by kernel_rfl) (fun _ _ _ h => h) (Or.inl ⟨by rfl, ?_⟩) (by assumption) ?_
              rotate_left
              · intro w hSw; (try dsimp only at hSw); go_simp <;> with_reducible rfl
              try simp only [Act.put, List.setIfInBounds_toArray, List.set_cons_zero, List.set_cons_succ]
              refine wpAnyH_ready (rs := [6, 9]) (by kernel_rfl) (by simp) ?_
              refine AllReadyH.cons (o := { dst := some 66, op := Op.call { callee := Callee.value (Operand.func 15), args := #[Operand.tmp 65], argTypes := #[3] }, type := 3, pos := "law.go:162", after := #[{ on := 5, ground := Ground.data }], guard := none }) rfl (fun K hK => ?_) ?_
              · go_simp
                go_at_call 15
                refine (HSZ.out _).mono ?_
                rintro e w1 ⟨rfl, rfl⟩
                refine hK.out _ _ (hs7) (fun hHeld => ?_)
                clear hK K
                try simp only [Act.put, List.setIfInBounds_toArray, List.set_cons_zero, List.set_cons_succ]
                refine wpAnyH_ready (rs := [7, 9]) (by kernel_rfl) (by simp) ?_
                refine AllReadyH.cons (o := { dst := some 67, op := Op.call { callee := Callee.value (Operand.func 14), args := #[Operand.tmp 64, Operand.tmp 66], argTypes := #[3, 3] }, type := 3, pos := "law.go:162", after := #[{ on := 4, ground := Ground.data }, { on := 6, ground := Ground.data }, { on := 6, ground := Ground.chain }], guard := none }) rfl (fun K hK => ?_) ?_
                · go_simp
                  go_at_call 14
                  refine (HPK.out _).mono ?_
                  rintro e w1 ⟨rfl, rfl⟩
                  refine hK.out _ _ (hs7) (fun hHeld => ?_)
                  clear hK K
                  try simp only [Act.put, List.setIfInBounds_toArray, List.set_cons_zero, List.set_cons_succ]
                  refine wpAnyH_ready (rs := [9]) (by kernel_rfl) (by simp) ?_
                  refine AllReadyH.cons (o := { dst := some 69, op := Op.buildSlice 39 1 #[(0, Operand.tmp 68)], type := 39, pos := "law.go:162", after := #[{ on := 8, ground := Ground.data }], guard := none }) rfl (fun K hK => ?_) ?_
                  · go_simp
                    refine hK.out _ _ (hs8) (fun hHeld => ?_)
                    clear hK K
                    try simp only [Act.put, List.setIfInBounds_toArray, List.set_cons_zero, List.set_cons_succ]
                    refine wpAnyH_ready (rs := [10]) (by kernel_rfl) (by simp) ?_
                    refine AllReadyH.cons (o := { dst := some 70, op := Op.convert 39 9 (Operand.tmp 69), type := 9, pos := "law.go:162", after := #[{ on := 9, ground := Ground.data }], guard := none }) rfl (fun K hK => ?_) ?_
                    · go_simp
                      refine hK.out _ _ (hs8) (fun hHeld => ?_)
                      clear hK K
                      try simp only [Act.put, List.setIfInBounds_toArray, List.set_cons_zero, List.set_cons_succ]
                      refine wpAnyH_ready (rs := [11]) (by kernel_rfl) (by simp) ?_
                      refine AllReadyH.cons (o := { dst := some 71, op := Op.call { callee := Callee.value (Operand.func 16), args := #[Operand.tmp 63, Operand.tmp 67, Operand.tmp 70], argTypes := #[29, 3, 9] }, type := 33, pos := "law.go:162", after := #[{ on := 3, ground := Ground.data }, { on := 7, ground := Ground.data }, { on := 10, ground := Ground.data }, { on := 7, ground := Ground.chain }], guard := none }) rfl (fun K hK => ?_) ?_
                      · go_simp
                        go_at_call 16
                        refine (HWR.out _ h8).mono ?_
                        rintro e V8 ⟨rfl, hv8⟩
                        refine hK.out _ _ ((HCE.out _ hv8.1)) (fun hHeld => ?_)
                        clear hK K
                        try simp only [Act.put, List.setIfInBounds_toArray, List.set_cons_zero, List.set_cons_succ]
                        refine wpAnyH_done (by kernel_rfl) ?_ _
                        refine NoPanic.normal ?_
                        exact ⟨rfl, rfl, hv8⟩
                      exact AllReadyH.nil
                    exact AllReadyH.nil
                  exact AllReadyH.nil
                refine AllReadyH.cons (o := { dst := some 69, op := Op.buildSlice 39 1 #[(0, Operand.tmp 68)], type := 39, pos := "law.go:162", after := #[{ on := 8, ground := Ground.data }], guard := none }) rfl (fun K hK => ?_) ?_
                · go_simp
                  refine hK.out _ _ (hs8) (fun hHeld => ?_)
                  clear hK K
                  try simp only [Act.put, List.setIfInBounds_toArray, List.set_cons_zero, List.set_cons_succ]
                  refine wpAnyH_ready (rs := [7, 10]) (by kernel_rfl) (by simp) ?_
                  refine AllReadyH.cons (o := { dst := some 67, op := Op.call { callee := Callee.value (Operand.func 14), args := #[Operand.tmp 64, Operand.tmp 66], argTypes := #[3, 3] }, type := 3, pos := "law.go:162", after := #[{ on := 4, ground := Ground.data }, { on := 6, ground := Ground.data }, { on := 6, ground := Ground.chain }], guard := none }) rfl (fun K hK => ?_) ?_
                  · go_simp
                    go_at_call 14
                    refine (HPK.out _).mono ?_
                    rintro e w1 ⟨rfl, rfl⟩
                    refine hK.out _ _ (hs8) (fun hHeld => ?_)
                    clear hK K
                    try simp only [Act.put, List.setIfInBounds_toArray, List.set_cons_zero, List.set_cons_succ]
                    refine wpAnyH_ready (rs := [10]) (by kernel_rfl) (by simp) ?_
                    refine AllReadyH.cons (o := { dst := some 70, op := Op.convert 39 9 (Operand.tmp 69), type := 9, pos := "law.go:162", after := #[{ on := 9, ground := Ground.data }], guard := none }) rfl (fun K hK => ?_) ?_
                    · go_simp
                      refine hK.out _ _ (hs8) (fun hHeld => ?_)
                      clear hK K
                      try simp only [Act.put, List.setIfInBounds_toArray, List.set_cons_zero, List.set_cons_succ]
                      refine wpAnyH_ready (rs := [11]) (by kernel_rfl) (by simp) ?_
                      refine AllReadyH.cons (o := { dst := some 71, op := Op.call { callee := Callee.value (Operand.func 16), args := #[Operand.tmp 63, Operand.tmp 67, Operand.tmp 70], argTypes := #[29, 3, 9] }, type := 33, pos := "law.go:162", after := #[{ on := 3, ground := Ground.data }, { on := 7, ground := Ground.data }, { on := 10, ground := Ground.data }, { on := 7, ground := Ground.chain }], guard := none }) rfl (fun K hK => ?_) ?_
                      · go_simp
                        go_at_call 16
                        refine (HWR.out _ h8).mono ?_
                        rintro e V8 ⟨rfl, hv8⟩
                        refine hK.out _ _ ((HCE.out _ hv8.1)) (fun hHeld => ?_)
                        clear hK K
                        try simp only [Act.put, List.setIfInBounds_toArray, List.set_cons_zero, List.set_cons_succ]
                        refine wpAnyH_done (by kernel_rfl) ?_ _
                        refine NoPanic.normal ?_
                        exact ⟨rfl, rfl, hv8⟩
                      exact AllReadyH.nil
                    exact AllReadyH.nil
                  refine AllReadyH.cons (o := { dst := some 70, op := Op.convert 39 9 (Operand.tmp 69), type := 9, pos := "law.go:162", after := #[{ on := 9, ground := Ground.data }], guard := none }) rfl (fun K hK => ?_) ?_
                  · go_simp
                    refine hK.out _ _ (hs8) (fun hHeld => ?_)
                    clear hK K
                    try simp only [Act.put, List.setIfInBounds_toArray, List.set_cons_zero, List.set_cons_succ]
                    refine wpAnyH_ready (rs := [7]) (by kernel_rfl) (by simp) ?_
                    refine AllReadyH.cons (o := { dst := some 67, op := Op.call { callee := Callee.value (Operand.func 14), args := #[Operand.tmp 64, Operand.tmp 66], argTypes := #[3, 3] }, type := 3, pos := "law.go:162", after := #[{ on := 4, ground := Ground.data }, { on := 6, ground := Ground.data }, { on := 6, ground := Ground.chain }], guard := none }) rfl (fun K hK => ?_) ?_
                    · go_simp
                      go_at_call 14
                      refine (HPK.out _).mono ?_
                      rintro e w1 ⟨rfl, rfl⟩
                      refine hK.out _ _ (hs8) (fun hHeld => ?_)
                      clear hK K
                      try simp only [Act.put, List.setIfInBounds_toArray, List.set_cons_zero, List.set_cons_succ]
                      refine wpAnyH_ready (rs := [11]) (by kernel_rfl) (by simp) ?_
                      refine AllReadyH.cons (o := { dst := some 71, op := Op.call { callee := Callee.value (Operand.func 16), args := #[Operand.tmp 63, Operand.tmp 67, Operand.tmp 70], argTypes := #[29, 3, 9] }, type := 33, pos := "law.go:162", after := #[{ on := 3, ground := Ground.data }, { on := 7, ground := Ground.data }, { on := 10, ground := Ground.data }, { on := 7, ground := Ground.chain }], guard := none }) rfl (fun K hK => ?_) ?_
                      · go_simp
                        go_at_call 16
                        refine (HWR.out _ h8).mono ?_
                        rintro e V8 ⟨rfl, hv8⟩
                        refine hK.out _ _ ((HCE.out _ hv8.1)) (fun hHeld => ?_)
                        clear hK K
                        try simp only [Act.put, List.setIfInBounds_toArray, List.set_cons_zero, List.set_cons_succ]
                        refine wpAnyH_done (by kernel_rfl) ?_ _
                        refine NoPanic.normal ?_
                        exact ⟨rfl, rfl, hv8⟩
                      exact AllReadyH.nil
                    exact AllReadyH.nil
                  exact AllReadyH.nil
                exact AllReadyH.nil
              refine AllReadyH.cons (o := { dst := some 69, op := Op.buildSlice 39 1 #[(0, Operand.tmp 68)], type := 39, pos := "law.go:162", after := #[{ on := 8, ground := Ground.data }], guard := none }) rfl (fun K hK => ?_) ?_
              · go_simp
                refine hK.out _ _ (hs8) (fun hHeld => ?_)
                clear hK K
                try simp only [Act.put, List.setIfInBounds_toArray, List.set_cons_zero, List.set_cons_succ]
                refine wpAnyH_ready (rs := [6, 10]) (by kernel_rfl) (by simp) ?_
                refine AllReadyH.cons (o := { dst := some 66, op := Op.call { callee := Callee.value (Operand.func 15), args := #[Operand.tmp 65], argTypes := #[3] }, type := 3, pos := "law.go:162", after := #[{ on := 5, ground := Ground.data }], guard := none }) rfl (fun K hK => ?_) ?_
                · go_simp
                  go_at_call 15
                  refine (HSZ.out _).mono ?_
                  rintro e w1 ⟨rfl, rfl⟩
                  refine hK.out _ _ (hs8) (fun hHeld => ?_)
                  clear hK K
                  try simp only [Act.put, List.setIfInBounds_toArray, List.set_cons_zero, List.set_cons_succ]
                  refine wpAnyH_ready (rs := [7, 10]) (by kernel_rfl) (by simp) ?_
                  refine AllReadyH.cons (o := { dst := some 67, op := Op.call { callee := Callee.value (Operand.func 14), args := #[Operand.tmp 64, Operand.tmp 66], argTypes := #[3, 3] }, type := 3, pos := "law.go:162", after := #[{ on := 4, ground := Ground.data }, { on := 6, ground := Ground.data }, { on := 6, ground := Ground.chain }], guard := none }) rfl (fun K hK => ?_) ?_
                  · go_simp
                    go_at_call 14
                    refine (HPK.out _).mono ?_
                    rintro e w1 ⟨rfl, rfl⟩
                    refine hK.out _ _ (hs8) (fun hHeld => ?_)
                    clear hK K
                    try simp only [Act.put, List.setIfInBounds_toArray, List.set_cons_zero, List.set_cons_succ]
                    refine wpAnyH_ready (rs := [10]) (by kernel_rfl) (by simp) ?_
                    refine AllReadyH.cons (o := { dst := some 70, op := Op.convert 39 9 (Operand.tmp 69), type := 9, pos := "law.go:162", after := #[{ on := 9, ground := Ground.data }], guard := none }) rfl (fun K hK => ?_) ?_
                    · go_simp
                      refine hK.out _ _ (hs8) (fun hHeld => ?_)
                      clear hK K
                      try simp only [Act.put, List.setIfInBounds_toArray, List.set_cons_zero, List.set_cons_succ]
                      refine wpAnyH_ready (rs := [11]) (by kernel_rfl) (by simp) ?_
                      refine AllReadyH.cons (o := { dst := some 71, op := Op.call { callee := Callee.value (Operand.func 16), args := #[Operand.tmp 63, Operand.tmp 67, Operand.tmp 70], argTypes := #[29, 3, 9] }, type := 33, pos := "law.go:162", after := #[{ on := 3, ground := Ground.data }, { on := 7, ground := Ground.data }, { on := 10, ground := Ground.data }, { on := 7, ground := Ground.chain }], guard := none }) rfl (fun K hK => ?_) ?_
                      · go_simp
                        go_at_call 16
                        refine (HWR.out _ h8).mono ?_
                        rintro e V8 ⟨rfl, hv8⟩
                        refine hK.out _ _ ((HCE.out _ hv8.1)) (fun hHeld => ?_)
                        clear hK K
                        try simp only [Act.put, List.setIfInBounds_toArray, List.set_cons_zero, List.set_cons_succ]
                        refine wpAnyH_done (by kernel_rfl) ?_ _
                        refine NoPanic.normal ?_
                        exact ⟨rfl, rfl, hv8⟩
                      exact AllReadyH.nil
                    exact AllReadyH.nil
                  refine AllReadyH.cons (o := { dst := some 70, op := Op.convert 39 9 (Operand.tmp 69), type := 9, pos := "law.go:162", after := #[{ on := 9, ground := Ground.data }], guard := none }) rfl (fun K hK => ?_) ?_
                  · go_simp
                    refine hK.out _ _ (hs8) (fun hHeld => ?_)
                    clear hK K
                    try simp only [Act.put, List.setIfInBounds_toArray, List.set_cons_zero, List.set_cons_succ]
                    refine wpAnyH_ready (rs := [7]) (by kernel_rfl) (by simp) ?_
                    refine AllReadyH.cons (o := { dst := some 67, op := Op.call { callee := Callee.value (Operand.func 14), args := #[Operand.tmp 64, Operand.tmp 66], argTypes := #[3, 3] }, type := 3, pos := "law.go:162", after := #[{ on := 4, ground := Ground.data }, { on := 6, ground := Ground.data }, { on := 6, ground := Ground.chain }], guard := none }) rfl (fun K hK => ?_) ?_
                    · go_simp
                      go_at_call 14
                      refine (HPK.out _).mono ?_
                      rintro e w1 ⟨rfl, rfl⟩
                      refine hK.out _ _ (hs8) (fun hHeld => ?_)
                      clear hK K
                      try simp only [Act.put, List.setIfInBounds_toArray, List.set_cons_zero, List.set_cons_succ]
                      refine wpAnyH_ready (rs := [11]) (by kernel_rfl) (by simp) ?_
                      refine AllReadyH.cons (o := { dst := some 71, op := Op.call { callee := Callee.value (Operand.func 16), args := #[Operand.tmp 63, Operand.tmp 67, Operand.tmp 70], argTypes := #[29, 3, 9] }, type := 33, pos := "law.go:162", after := #[{ on := 3, ground := Ground.data }, { on := 7, ground := Ground.data }, { on := 10, ground := Ground.data }, { on := 7, ground := Ground.chain }], guard := none }) rfl (fun K hK => ?_) ?_
                      · go_simp
                        go_at_call 16
                        refine (HWR.out _ h8).mono ?_
                        rintro e V8 ⟨rfl, hv8⟩
                        refine hK.out _ _ ((HCE.out _ hv8.1)) (fun hHeld => ?_)
                        clear hK K
                        try simp only [Act.put, List.setIfInBounds_toArray, List.set_cons_zero, List.set_cons_succ]
                        refine wpAnyH_done (by kernel_rfl) ?_ _
                        refine NoPanic.normal ?_
                        exact ⟨rfl, rfl, hv8⟩
                      exact AllReadyH.nil
                    exact AllReadyH.nil
                  exact AllReadyH.nil
                refine AllReadyH.cons (o := { dst := some 70, op := Op.convert 39 9 (Operand.tmp 69), type := 9, pos := "law.go:162", after := #[{ on := 9, ground := Ground.data }], guard := none }) rfl (fun K hK => ?_) ?_
                · go_simp
                  refine hK.out _ _ (hs8) (fun hHeld => ?_)
                  clear hK K
                  try simp only [Act.put, List.setIfInBounds_toArray, List.set_cons_zero, List.set_cons_succ]
                  refine wpAnyH_ready (rs := [6]) (by kernel_rfl) (by simp) ?_
                  refine AllReadyH.cons (o := { dst := some 66, op := Op.call { callee := Callee.value (Operand.func 15), args := #[Operand.tmp 65], argTypes := #[3] }, type := 3, pos := "law.go:162", after := #[{ on := 5, ground := Ground.data }], guard := none }) rfl (fun K hK => ?_) ?_
                  · go_simp
                    go_at_call 15
                    refine (HSZ.out _).mono ?_
                    rintro e w1 ⟨rfl, rfl⟩
                    refine hK.out _ _ (hs8) (fun hHeld => ?_)
                    clear hK K
                    try simp only [Act.put, List.setIfInBounds_toArray, List.set_cons_zero, List.set_cons_succ]
                    refine wpAnyH_ready (rs := [7]) (by kernel_rfl) (by simp) ?_
                    refine AllReadyH.cons (o := { dst := some 67, op := Op.call { callee := Callee.value (Operand.func 14), args := #[Operand.tmp 64, Operand.tmp 66], argTypes := #[3, 3] }, type := 3, pos := "law.go:162", after := #[{ on := 4, ground := Ground.data }, { on := 6, ground := Ground.data }, { on := 6, ground := Ground.chain }], guard := none }) rfl (fun K hK => ?_) ?_
                    · go_simp
                      go_at_call 14
                      refine (HPK.out _).mono ?_
                      rintro e w1 ⟨rfl, rfl⟩
                      refine hK.out _ _ (hs8) (fun hHeld => ?_)
                      clear hK K
                      try simp only [Act.put, List.setIfInBounds_toArray, List.set_cons_zero, List.set_cons_succ]
                      refine wpAnyH_ready (rs := [11]) (by kernel_rfl) (by simp) ?_
                      refine AllReadyH.cons (o := { dst := some 71, op := Op.call { callee := Callee.value (Operand.func 16), args := #[Operand.tmp 63, Operand.tmp 67, Operand.tmp 70], argTypes := #[29, 3, 9] }, type := 33, pos := "law.go:162", after := #[{ on := 3, ground := Ground.data }, { on := 7, ground := Ground.data }, { on := 10, ground := Ground.data }, { on := 7, ground := Ground.chain }], guard := none }) rfl (fun K hK => ?_) ?_
                      · go_simp
                        go_at_call 16
                        refine (HWR.out _ h8).mono ?_
                        rintro e V8 ⟨rfl, hv8⟩
                        refine hK.out _ _ ((HCE.out _ hv8.1)) (fun hHeld => ?_)
                        clear hK K
                        try simp only [Act.put, List.setIfInBounds_toArray, List.set_cons_zero, List.set_cons_succ]
                        refine wpAnyH_done (by kernel_rfl) ?_ _
                        refine NoPanic.normal ?_
                        exact ⟨rfl, rfl, hv8⟩
                      exact AllReadyH.nil
                    exact AllReadyH.nil
                  exact AllReadyH.nil
                exact AllReadyH.nil
              exact AllReadyH.nil
            intro V8 hv8
            clear hcv7 h7 h8 hs7 hs8 HWR
            go_wp2_with fail
            refine (HOPEN.out _ _ t9 b9 hv8 (HBA.out.more (by omega))).mono ?_
            rintro e V9 ⟨rfl, s2, o2, hw9, hb9, hg9, hoff⟩
            have HW9 := Lib.hid hw9
            have HG9 := Lib.hid hg9
            have HB9 := Lib.hid hb9
            have HCE9 := Lib.hid (fun (V : World) (u : Turns (fun _ => False) V9 V) => hw9.cells u)
            have HNEXT : Hid (∀ V, Turns (fun _ => False) V9 V → Below W.heap.size W V) := Lib.hid (fun V u => (hw9.quiet u).duo.below)
            have u0 : Turns (fun _ => False) V9 V9.drew := Turns.drew V9
            have HRV := Lib.hid (fun (ho : s2.off = false) => read_vis ho hw9.duo.vlen)
            have HOFF := Lib.hid hoff
            clear hw9 hg9 hb9 hoff hv8
            rcases o2 with _ | ⟨j1, k1, t, b⟩
            · have v1 : V9.drew.cell? ⟨w, 1, none⟩ = some (.pointer none) := (HCE9.out _ u0).2.1
              go_wp2_with fail
              refine wp_region_noPanic ?_
              refine wp_region_held_drew (S := fun V => V.cell? ⟨w, 1, none⟩ = some (.pointer none)) (by kernel_rfl) v1 (fun hHeld => ?_)
              refine wpAnyH_take (i := 0) (oi := { dst := some 98, op := Op.move (Operand.tmp 11), type := 4, pos := "law.go:168", after := #[], guard := none }) (v := ?_) rfl (by kernel_rfl) (by kernel_rfl) (by kernel_rfl) (fun _ _ _ h => h) (Or.inl ⟨by rfl, ?_⟩) (by assumption) ?_
              rotate_left
              · intro w hSw; (try dsimp only at hSw); go_simp <;> with_reducible rfl
              try simp only [Act.put, List.setIfInBounds_toArray, List.set_cons_zero, List.set_cons_succ]
              refine wpAnyH_take (i := 1) (oi := { dst := some 99, op := Op.move (Operand.tmp 98), type := 4, pos := "law.go:168", after := #[{ on := 0, ground := Ground.data }], guard := none }) (v := ?_) rfl (by kernel_rfl) (by kernel_rfl) (by kernel_rfl) (fun _ _ _ h => h) (Or.inl ⟨by rfl, ?_⟩) (by assumption) ?_
              rotate_left
              · intro w hSw; (try dsimp only at hSw); go_simp <;> with_reducible rfl
              try simp only [Act.put, List.setIfInBounds_toArray, List.set_cons_zero, List.set_cons_succ]
              refine wpAnyH_take (i := 2) (oi := { dst := some 100, op := Op.move (Operand.tmp 14), type := 4, pos := "law.go:168", after := #[{ on := 1, ground := Ground.guard }], guard := some (1, true) }) (v := ?_) rfl (by kernel_rfl) (by kernel_rfl) (by kernel_rfl) (fun _ _ _ h => h) (Or.inl ⟨by rfl, ?_⟩) (by assumption) ?_
              rotate_left
              · intro w hSw; (try dsimp only at hSw); go_simp <;> with_reducible rfl
              try simp only [Act.put, List.setIfInBounds_toArray, List.set_cons_zero, List.set_cons_succ]
              refine wpAnyH_take (i := 3) (oi := { dst := some 101, op := Op.pick (Operand.tmp 99) (Operand.tmp 100) (Operand.const (Value.bool false)), type := 4, pos := "law.go:168", after := #[{ on := 1, ground := Ground.data }, { on := 2, ground := Ground.data }], guard := none }) (v := ?_) rfl (by kernel_rfl) (by kernel_rfl) (by kernel_rfl) (fun _ _ _ h => h) (Or.inl ⟨by rfl, ?_⟩) (by assumption) ?_
              rotate_left
              · intro w hSw; (try dsimp only at hSw); go_simp <;> with_reducible rfl
              try simp only [Act.put, List.setIfInBounds_toArray, List.set_cons_zero, List.set_cons_succ]
              refine wpAnyH_take (i := 4) (oi := { dst := some 102, op := Op.move (Operand.tmp 101), type := 4, pos := "law.go:168", after := #[{ on := 3, ground := Ground.data }, { on := 1, ground := Ground.chain }], guard := none }) (v := ?_) rfl (by kernel_rfl) (by kernel_rfl) (by kernel_rfl) (fun _ _ _ h => h) (Or.inl ⟨by rfl, ?_⟩) (by assumption) ?_
              rotate_left
              · intro w hSw; (try dsimp only at hSw); go_simp <;> with_reducible rfl
              try simp only [Act.put, List.setIfInBounds_toArray, List.set_cons_zero, List.set_cons_succ]
              refine wpAnyH_take (i := 5) (oi := { dst := some 103, op := Op.move (Operand.tmp 12), type := 24, pos := "law.go:168", after := #[{ on := 4, ground := Ground.guard }], guard := some (4, true) }) (v := ?_) rfl (by kernel_rfl) (by kernel_rfl) (by kernel_rfl) (fun _ _ _ h => h) (Or.inl ⟨by rfl, ?_⟩) (by assumption) ?_
              rotate_left
              · intro w hSw; (try dsimp only at hSw); go_simp <;> with_reducible rfl
              try simp only [Act.put, List.setIfInBounds_toArray, List.set_cons_zero, List.set_cons_succ]
              refine wpAnyH_take (i := 6) (oi := { dst := some 104, op := Op.nilCheck (Operand.tmp 103), type := 0, pos := "law.go:168", after := #[{ on := 5, ground := Ground.data }, { on := 4, ground := Ground.guard }], guard := some (4, true) }) (v := ?_) rfl (by kernel_rfl) (by kernel_rfl) (by kernel_rfl) (fun _ _ _ h => h) (Or.inl ⟨by rfl, ?_⟩) (by assumption) ?_
              rotate_left
              · intro w hSw; (try dsimp only at hSw); go_simp <;> with_reducible rfl
              try simp only [Act.put, List.setIfInBounds_toArray, List.set_cons_zero, List.set_cons_succ]
              refine wpAnyH_take (i := 7) (oi := { dst := some 105, op := Op.fieldAddr 32 (Operand.tmp 104) 1, type := 0, pos := "law.go:168", after := #[{ on := 6, ground := Ground.data }, { on := 4, ground := Ground.guard }], guard := some (4, true) }) (v := ?_) rfl (by kernel_rfl) (by kernel_rfl) (by kernel_rfl) (fun _ _ _ h => h) (Or.inl ⟨by rfl, ?_⟩) (by assumption) ?_
              rotate_left
              · intro w hSw; (try dsimp only at hSw); go_simp <;> with_reducible rfl
              try simp only [Act.put, List.setIfInBounds_toArray, List.set_cons_zero, List.set_cons_succ]
              refine wpAnyH_take (i := 8) (oi := { dst := some 106, op := Op.load 28 (Operand.tmp 105), type := 28, pos := "law.go:168", after := #[{ on := 7, ground := Ground.data }, { on := 4, ground := Ground.guard }], guard := some (4, true) }) (v := ?_) rfl (by kernel_rfl) (by kernel_rfl) (by kernel_rfl) (fun _ _ _ h => h) (Or.inl ⟨by rfl, ?_⟩) (by assumption) ?_
              rotate_left
              · intro w hSw; (try dsimp only at hSw); go_simp <;> with_reducible rfl
              try simp only [Act.put, List.setIfInBounds_toArray, List.set_cons_zero, List.set_cons_succ]
              refine wpAnyH_take (i := 9) (oi := { dst := some 107, op := Op.binOp BinOp.eql 28 (Operand.tmp 106) (Operand.const (Value.pointer none)) 28, type := 4, pos := "law.go:168", after := #[{ on := 8, ground := Ground.data }, { on := 4, ground := Ground.guard }], guard := some (4, true) }) (v := ?_) rfl (by kernel_rfl) (by kernel_rfl) (by kernel_rfl) (fun _ _ _ h => h) (Or.inl ⟨by rfl, ?_⟩) (by assumption) ?_
              rotate_left
              · intro w hSw; (try dsimp only at hSw); go_simp <;> with_reducible rfl
              try simp only [Act.put, List.setIfInBounds_toArray, List.set_cons_zero, List.set_cons_succ]
              refine wpAnyH_take (i := 10) (oi := { dst := some 108, op := Op.move (Operand.tmp 107), type := 4, pos := "law.go:168", after := #[{ on := 9, ground := Ground.data }, { on := 4, ground := Ground.chain }, { on := 4, ground := Ground.guard }], guard := some (4, true) }) (v := ?_) rfl (by kernel_rfl) (by kernel_rfl) (by kernel_rfl) (fun _ _ _ h => h) (Or.inl ⟨by rfl, ?_⟩) (by assumption) ?_
              rotate_left
              · intro w hSw; (try dsimp only at hSw); go_simp <;> with_reducible rfl
              try simp only [Act.put, List.setIfInBounds_toArray, List.set_cons_zero, List.set_cons_succ]
              refine wpAnyH_take (i := 11) (oi := { dst := some 109, op := Op.move (Operand.tmp 12), type := 24, pos := "law.go:168", after := #[{ on := 10, ground := Ground.guard }], guard := some (10, false) }) (v := undef) rfl (by kernel_rfl) (by kernel_rfl) (by kernel_rfl) (fun _ _ _ h => h) (Or.inr ⟨by rfl, rfl⟩) (by assumption) ?_
              try simp only [Act.put, List.setIfInBounds_toArray, List.set_cons_zero, List.set_cons_succ]
              refine wpAnyH_take (i := 12) (oi := { dst := some 110, op := Op.nilCheck (Operand.tmp 109), type := 0, pos := "law.go:168", after := #[{ on := 11, ground := Ground.data }, { on := 10, ground := Ground.guard }], guard := some (10, false) }) (v := undef) rfl (by kernel_rfl) (by kernel_rfl) (by kernel_rfl) (fun _ _ _ h => h) (Or.inr ⟨by rfl, rfl⟩) (by assumption) ?_
              try simp only [Act.put, List.setIfInBounds_toArray, List.set_cons_zero, List.set_cons_succ]
              refine wpAnyH_take (i := 13) (oi := { dst := some 111, op := Op.fieldAddr 32 (Operand.tmp 110) 1, type := 0, pos := "law.go:168", after := #[{ on := 12, ground := Ground.data }, { on := 10, ground := Ground.guard }], guard := some (10, false) }) (v := undef) rfl (by kernel_rfl) (by kernel_rfl) (by kernel_rfl) (fun _ _ _ h => h) (Or.inr ⟨by rfl, rfl⟩) (by assumption) ?_
              try simp only [Act.put, List.setIfInBounds_toArray, List.set_cons_zero, List.set_cons_succ]
              refine wpAnyH_take (i := 14) (oi := { dst := some 112, op := Op.load 28 (Operand.tmp 111), type := 28, pos := "law.go:168", after := #[{ on := 13, ground := Ground.data }, { on := 10, ground := Ground.guard }], guard := some (10, false) }) (v := undef) rfl (by kernel_rfl) (by kernel_rfl) (by kernel_rfl) (fun _ _ _ h => h) (Or.inr ⟨by rfl, rfl⟩) (by assumption) ?_
              try simp only [Act.put, List.setIfInBounds_toArray, List.set_cons_zero, List.set_cons_succ]
              refine wpAnyH_take (i := 15) (oi := { dst := some 113, op := Op.call { callee := Callee.value (Operand.func 19), args := #[Operand.tmp 112], argTypes := #[28] }, type := 22, pos := "law.go:168", after := #[{ on := 14, ground := Ground.data }, { on := 10, ground := Ground.chain }, { on := 10, ground := Ground.guard }], guard := some (10, false) }) (v := undef) rfl (by kernel_rfl) (by kernel_rfl) (by kernel_rfl) (fun _ _ _ h => h) (Or.inr ⟨by rfl, rfl⟩) (by assumption) ?_
              try simp only [Act.put, List.setIfInBounds_toArray, List.set_cons_zero, List.set_cons_succ]
              refine wpAnyH_take (i := 16) (oi := { dst := some 114, op := Op.move (Operand.tmp 12), type := 24, pos := "law.go:168", after := #[{ on := 10, ground := Ground.guard }], guard := some (10, false) }) (v := undef) rfl (by kernel_rfl) (by kernel_rfl) (by kernel_rfl) (fun _ _ _ h => h) (Or.inr ⟨by rfl, rfl⟩) (by assumption) ?_
              try simp only [Act.put, List.setIfInBounds_toArray, List.set_cons_zero, List.set_cons_succ]
              refine wpAnyH_take (i := 17) (oi := { dst := some 115, op := Op.nilCheck (Operand.tmp 114), type := 0, pos := "law.go:168", after := #[{ on := 16, ground := Ground.data }, { on := 10, ground := Ground.guard }], guard := some (10, false) }) (v := undef) rfl (by kernel_rfl) (by kernel_rfl) (by kernel_rfl) (fun _ _ _ h => h) (Or.inr ⟨by rfl, rfl⟩) (by assumption) ?_
              try simp only [Act.put, List.setIfInBounds_toArray, List.set_cons_zero, List.set_cons_succ]
              refine wpAnyH_take (i := 18) (oi := { dst := some 116, op := Op.fieldAddr 32 (Operand.tmp 115) 3, type := 0, pos := "law.go:168", after := #[{ on := 17, ground := Ground.data }, { on := 10, ground := Ground.guard }], guard := some (10, false) }) (v := undef) rfl (by kernel_rfl) (by kernel_rfl) (by kernel_rfl) (fun _ _ _ h => h) (Or.inr ⟨by rfl, rfl⟩) (by assumption) ?_
              try simp only [Act.put, List.setIfInBounds_toArray, List.set_cons_zero, List.set_cons_succ]
              refine wpAnyH_take (i := 19) (oi := { dst := some 117, op := Op.load 30 (Operand.tmp 116), type := 30, pos := "law.go:168", after := #[{ on := 18, ground := Ground.data }, { on := 10, ground := Ground.guard }], guard := some (10, false) }) (v := undef) rfl (by kernel_rfl) (by kernel_rfl) (by kernel_rfl) (fun _ _ _ h => h) (Or.inr ⟨by rfl, rfl⟩) (by assumption) ?_
              try simp only [Act.put, List.setIfInBounds_toArray, List.set_cons_zero, List.set_cons_succ]
              refine wpAnyH_take (i := 20) (oi := { dst := some 118, op := Op.nilCheck (Operand.tmp 117), type := 0, pos := "law.go:168", after := #[{ on := 19, ground := Ground.data }, { on := 10, ground := Ground.guard }], guard := some (10, false) }) (v := undef) rfl (by kernel_rfl) (by kernel_rfl) (by kernel_rfl) (fun _ _ _ h => h) (Or.inr ⟨by rfl, rfl⟩) (by assumption) ?_
              try simp only [Act.put, List.setIfInBounds_toArray, List.set_cons_zero, List.set_cons_succ]
              refine wpAnyH_take (i := 21) (oi := { dst := some 119, op := Op.fieldAddr 43 (Operand.tmp 118) 1, type := 0, pos := "law.go:168", after := #[{ on := 20, ground := Ground.data }, { on := 10, ground := Ground.guard }], guard := some (10, false) }) (v := undef) rfl (by kernel_rfl) (by kernel_rfl) (by kernel_rfl) (fun _ _ _ h => h) (Or.inr ⟨by rfl, rfl⟩) (by assumption) ?_
              try simp only [Act.put, List.setIfInBounds_toArray, List.set_cons_zero, List.set_cons_succ]
              refine wpAnyH_take (i := 22) (oi := { dst := some 120, op := Op.load 22 (Operand.tmp 119), type := 22, pos := "law.go:168", after := #[{ on := 21, ground := Ground.data }, { on := 10, ground := Ground.guard }], guard := some (10, false) }) (v := undef) rfl (by kernel_rfl) (by kernel_rfl) (by kernel_rfl) (fun _ _ _ h => h) (Or.inr ⟨by rfl, rfl⟩) (by assumption) ?_
              try simp only [Act.put, List.setIfInBounds_toArray, List.set_cons_zero, List.set_cons_succ]
              refine wpAnyH_take (i := 23) (oi := { dst := some 121, op := Op.call { callee := Callee.value (Operand.func 18), args := #[Operand.tmp 113, Operand.tmp 120], argTypes := #[22, 22] }, type := 4, pos := "law.go:168", after := #[{ on := 15, ground := Ground.data }, { on := 22, ground := Ground.data }, { on := 15, ground := Ground.chain }, { on := 10, ground := Ground.guard }], guard := some (10, false) }) (v := undef) rfl (by kernel_rfl) (by kernel_rfl) (by kernel_rfl) (fun _ _ _ h => h) (Or.inr ⟨by rfl, rfl⟩) (by assumption) ?_
              try simp only [Act.put, List.setIfInBounds_toArray, List.set_cons_zero, List.set_cons_succ]
              refine wpAnyH_take (i := 24) (oi := { dst := some 122, op := Op.move (Operand.tmp 121), type := 4, pos := "law.go:168", after := #[{ on := 23, ground := Ground.data }, { on := 23, ground := Ground.chain }, { on := 10, ground := Ground.guard }], guard := some (10, false) }) (v := undef) rfl (by kernel_rfl) (by kernel_rfl) (by kernel_rfl) (fun _ _ _ h => h) (Or.inr ⟨by rfl, rfl⟩) (by assumption) ?_
              try simp only [Act.put, List.setIfInBounds_toArray, List.set_cons_zero, List.set_cons_succ]
              refine wpAnyH_take (i := 25) (oi := { dst := some 123, op := Op.move (Operand.tmp 12), type := 24, pos := "law.go:168", after := #[{ on := 24, ground := Ground.guard }], guard := some (24, true) }) (v := undef) rfl (by kernel_rfl) (by kernel_rfl) (by kernel_rfl) (fun _ _ _ h => h) (Or.inr ⟨by rfl, rfl⟩) (by assumption) ?_
              try simp only [Act.put, List.setIfInBounds_toArray, List.set_cons_zero, List.set_cons_succ]
              refine wpAnyH_take (i := 26) (oi := { dst := some 124, op := Op.nilCheck (Operand.tmp 123), type := 0, pos := "law.go:168", after := #[{ on := 25, ground := Ground.data }, { on := 24, ground := Ground.guard }], guard := some (24, true) }) (v := undef) rfl (by kernel_rfl) (by kernel_rfl) (by kernel_rfl) (fun _ _ _ h => h) (Or.inr ⟨by rfl, rfl⟩) (by assumption) ?_
              try simp only [Act.put, List.setIfInBounds_toArray, List.set_cons_zero, List.set_cons_succ]
              refine wpAnyH_take (i := 27) (oi := { dst := some 125, op := Op.fieldAddr 32 (Operand.tmp 124) 1, type := 0, pos := "law.go:168", after := #[{ on := 26, ground := Ground.data }, { on := 24, ground := Ground.guard }], guard := some (24, true) }) (v := undef) rfl (by kernel_rfl) (by kernel_rfl) (by kernel_rfl) (fun _ _ _ h => h) (Or.inr ⟨by rfl, rfl⟩) (by assumption) ?_
              try simp only [Act.put, List.setIfInBounds_toArray, List.set_cons_zero, List.set_cons_succ]
              refine wpAnyH_take (i := 28) (oi := { dst := some 126, op := Op.load 28 (Operand.tmp 125), type := 28, pos := "law.go:168", after := #[{ on := 27, ground := Ground.data }, { on := 24, ground := Ground.guard }], guard := some (24, true) }) (v := undef) rfl (by kernel_rfl) (by kernel_rfl) (by kernel_rfl) (fun _ _ _ h => h) (Or.inr ⟨by rfl, rfl⟩) (by assumption) ?_
              try simp only [Act.put, List.setIfInBounds_toArray, List.set_cons_zero, List.set_cons_succ]
              refine wpAnyH_take (i := 29) (oi := { dst := some 127, op := Op.call { callee := Callee.value (Operand.func 20), args := #[Operand.tmp 126], argTypes := #[28] }, type := 3, pos := "law.go:168", after := #[{ on := 28, ground := Ground.data }, { on := 24, ground := Ground.chain }, { on := 24, ground := Ground.guard }], guard := some (24, true) }) (v := undef) rfl (by kernel_rfl) (by kernel_rfl) (by kernel_rfl) (fun _ _ _ h => h) (Or.inr ⟨by rfl, rfl⟩) (by assumption) ?_
              try simp only [Act.put, List.setIfInBounds_toArray, List.set_cons_zero, List.set_cons_succ]
              refine wpAnyH_take (i := 30) (oi := { dst := some 128, op := Op.move (Operand.tmp 12), type := 24, pos := "law.go:168", after := #[{ on := 24, ground := Ground.guard }], guard := some (24, true) }) (v := undef) rfl (by kernel_rfl) (by kernel_rfl) (by kernel_rfl) (fun _ _ _ h => h) (Or.inr ⟨by rfl, rfl⟩) (by assumption) ?_
              try simp only [Act.put, List.setIfInBounds_toArray, List.set_cons_zero, List.set_cons_succ]
              refine wpAnyH_take (i := 31) (oi := { dst := some 129, op := Op.nilCheck (Operand.tmp 128), type := 0, pos := "law.go:168", after := #[{ on := 30, ground := Ground.data }, { on := 24, ground := Ground.guard }], guard := some (24, true) }) (v := undef) rfl (by kernel_rfl) (by kernel_rfl) (by kernel_rfl) (fun _ _ _ h => h) (Or.inr ⟨by rfl, rfl⟩) (by assumption) ?_
              try simp only [Act.put, List.setIfInBounds_toArray, List.set_cons_zero, List.set_cons_succ]
              refine wpAnyH_take (i := 32) (oi := { dst := some 130, op := Op.fieldAddr 32 (Operand.tmp 129) 3, type := 0, pos := "law.go:168", after := #[{ on := 31, ground := Ground.data }, { on := 24, ground := Ground.guard }], guard := some (24, true) }) (v := undef) rfl (by kernel_rfl) (by kernel_rfl) (by kernel_rfl) (fun _ _ _ h => h) (Or.inr ⟨by rfl, rfl⟩) (by assumption) ?_
              try simp only [Act.put, List.setIfInBounds_toArray, List.set_cons_zero, List.set_cons_succ]
              refine wpAnyH_take (i := 33) (oi := { dst := some 131, op := Op.load 30 (Operand.tmp 130), type := 30, pos := "law.go:168", after := #[{ on := 32, ground := Ground.data }, { on := 24, ground := Ground.guard }], guard := some (24, true) }) (v := undef) rfl (by kernel_rfl) (by kernel_rfl) (by kernel_rfl) (fun _ _ _ h => h) (Or.inr ⟨by rfl, rfl⟩) (by assumption) ?_
              try simp only [Act.put, List.setIfInBounds_toArray, List.set_cons_zero, List.set_cons_succ]
              refine wpAnyH_take (i := 34) (oi := { dst := some 132, op := Op.call { callee := Callee.value (Operand.func 21), args := #[Operand.tmp 131], argTypes := #[30] }, type := 3, pos := "law.go:168", after := #[{ on := 33, ground := Ground.data }, { on := 29, ground := Ground.chain }, { on := 24, ground := Ground.guard }], guard := some (24, true) }) (v := undef) rfl (by kernel_rfl) (by kernel_rfl) (by kernel_rfl) (fun _ _ _ h => h) (Or.inr ⟨by rfl, rfl⟩) (by assumption) ?_
              try simp only [Act.put, List.setIfInBounds_toArray, List.set_cons_zero, List.set_cons_succ]
              refine wpAnyH_take (i := 35) (oi := { dst := some 133, op := Op.binOp BinOp.eql 3 (Operand.tmp 127) (Operand.tmp 132) 3, type := 4, pos := "law.go:168", after := #[{ on := 29, ground := Ground.data }, { on := 34, ground := Ground.data }, { on := 24, ground := Ground.guard }], guard := some (24, true) }) (v := undef) rfl (by kernel_rfl) (by kernel_rfl) (by kernel_rfl) (fun _ _ _ h => h) (Or.inr ⟨by rfl, rfl⟩) (by assumption) ?_
              try simp only [Act.put, List.setIfInBounds_toArray, List.set_cons_zero, List.set_cons_succ]
              refine wpAnyH_take (i := 36) (oi := { dst := some 134, op := Op.pick (Operand.tmp 122) (Operand.tmp 133) (Operand.const (Value.bool false)), type := 4, pos := "law.go:168", after := #[{ on := 24, ground := Ground.data }, { on := 35, ground := Ground.data }, { on := 10, ground := Ground.guard }], guard := some (10, false) }) (v := undef) rfl (by kernel_rfl) (by kernel_rfl) (by kernel_rfl) (fun _ _ _ h => h) (Or.inr ⟨by rfl, rfl⟩) (by assumption) ?_
              try simp only [Act.put, List.setIfInBounds_toArray, List.set_cons_zero, List.set_cons_succ]
              refine wpAnyH_take (i := 37) (oi := { dst := some 135, op := Op.move (Operand.tmp 134), type := 4, pos := "law.go:168", after := #[{ on := 36, ground := Ground.data }, { on := 34, ground := Ground.chain }, { on := 10, ground := Ground.guard }], guard := some (10, false) }) (v := undef) rfl (by kernel_rfl) (by kernel_rfl) (by kernel_rfl) (fun _ _ _ h => h) (Or.inr ⟨by rfl, rfl⟩) (by assumption) ?_
              try simp only [Act.put, List.setIfInBounds_toArray, List.set_cons_zero, List.set_cons_succ]
              refine wpAnyH_take (i := 38) (oi := { dst := some 136, op := Op.move (Operand.tmp 12), type := 24, pos := "law.go:168", after := #[{ on := 37, ground := Ground.guard }], guard := some (37, true) }) (v := undef) rfl (by kernel_rfl) (by kernel_rfl) (by kernel_rfl) (fun _ _ _ h => h) (Or.inr ⟨by rfl, rfl⟩) (by assumption) ?_
              try simp only [Act.put, List.setIfInBounds_toArray, List.set_cons_zero, List.set_cons_succ]
              refine wpAnyH_take (i := 39) (oi := { dst := some 137, op := Op.nilCheck (Operand.tmp 136), type := 0, pos := "law.go:168", after := #[{ on := 38, ground := Ground.data }, { on := 37, ground := Ground.guard }], guard := some (37, true) }) (v := undef) rfl (by kernel_rfl) (by kernel_rfl) (by kernel_rfl) (fun _ _ _ h => h) (Or.inr ⟨by rfl, rfl⟩) (by assumption) ?_
              try simp only [Act.put, List.setIfInBounds_toArray, List.set_cons_zero, List.set_cons_succ]
              refine wpAnyH_take (i := 40) (oi := { dst := some 138, op := Op.fieldAddr 32 (Operand.tmp 137) 0, type := 0, pos := "law.go:168", after := #[{ on := 39, ground := Ground.data }, { on := 37, ground := Ground.guard }], guard := some (37, true) }) (v := undef) rfl (by kernel_rfl) (by kernel_rfl) (by kernel_rfl) (fun _ _ _ h => h) (Or.inr ⟨by rfl, rfl⟩) (by assumption) ?_
              try simp only [Act.put, List.setIfInBounds_toArray, List.set_cons_zero, List.set_cons_succ]
              refine wpAnyH_take (i := 41) (oi := { dst := some 139, op := Op.load 27 (Operand.tmp 138), type := 27, pos := "law.go:168", after := #[{ on := 40, ground := Ground.data }, { on := 37, ground := Ground.guard }], guard := some (37, true) }) (v := undef) rfl (by kernel_rfl) (by kernel_rfl) (by kernel_rfl) (fun _ _ _ h => h) (Or.inr ⟨by rfl, rfl⟩) (by assumption) ?_
              try simp only [Act.put, List.setIfInBounds_toArray, List.set_cons_zero, List.set_cons_succ]
              refine wpAnyH_take (i := 42) (oi := { dst := some 140, op := Op.call { callee := Callee.value (Operand.func 22), args := #[Operand.tmp 139], argTypes := #[27] }, type := 9, pos := "law.go:168", after := #[{ on := 41, ground := Ground.data }, { on := 37, ground := Ground.chain }, { on := 37, ground := Ground.guard }], guard := some (37, true) }) (v := undef) rfl (by kernel_rfl) (by kernel_rfl) (by kernel_rfl) (fun _ _ _ h => h) (Or.inr ⟨by rfl, rfl⟩) (by assumption) ?_
              try simp only [Act.put, List.setIfInBounds_toArray, List.set_cons_zero, List.set_cons_succ]
              refine wpAnyH_take (i := 43) (oi := { dst := some 141, op := Op.move (Operand.tmp 12), type := 24, pos := "law.go:168", after := #[{ on := 37, ground := Ground.guard }], guard := some (37, true) }) (v := undef) rfl (by kernel_rfl) (by kernel_rfl) (by kernel_rfl) (fun _ _ _ h => h) (Or.inr ⟨by rfl, rfl⟩) (by assumption) ?_
              try simp only [Act.put, List.setIfInBounds_toArray, List.set_cons_zero, List.set_cons_succ]
              refine wpAnyH_take (i := 44) (oi := { dst := some 142, op := Op.nilCheck (Operand.tmp 141), type := 0, pos := "law.go:168", after := #[{ on := 43, ground := Ground.data }, { on := 37, ground := Ground.guard }], guard := some (37, true) }) (v := undef) rfl (by kernel_rfl) (by kernel_rfl) (by kernel_rfl) (fun _ _ _ h => h) (Or.inr ⟨by rfl, rfl⟩) (by assumption) ?_
              try simp only [Act.put, List.setIfInBounds_toArray, List.set_cons_zero, List.set_cons_succ]
              refine wpAnyH_take (i := 45) (oi := { dst := some 143, op := Op.fieldAddr 32 (Operand.tmp 142) 2, type := 0, pos := "law.go:168", after := #[{ on := 44, ground := Ground.data }, { on := 37, ground := Ground.guard }], guard := some (37, true) }) (v := undef) rfl (by kernel_rfl) (by kernel_rfl) (by kernel_rfl) (fun _ _ _ h => h) (Or.inr ⟨by rfl, rfl⟩) (by assumption) ?_
              try simp only [Act.put, List.setIfInBounds_toArray, List.set_cons_zero, List.set_cons_succ]
              refine wpAnyH_take (i := 46) (oi := { dst := some 144, op := Op.load 29 (Operand.tmp 143), type := 29, pos := "law.go:168", after := #[{ on := 45, ground := Ground.data }, { on := 37, ground := Ground.guard }], guard := some (37, true) }) (v := undef) rfl (by kernel_rfl) (by kernel_rfl) (by kernel_rfl) (fun _ _ _ h => h) (Or.inr ⟨by rfl, rfl⟩) (by assumption) ?_
              try simp only [Act.put, List.setIfInBounds_toArray, List.set_cons_zero, List.set_cons_succ]
              refine wpAnyH_take (i := 47) (oi := { dst := some 145, op := Op.call { callee := Callee.value (Operand.func 23), args := #[Operand.tmp 144], argTypes := #[29] }, type := 39, pos := "law.go:168", after := #[{ on := 46, ground := Ground.data }, { on := 42, ground := Ground.chain }, { on := 37, ground := Ground.guard }], guard := some (37, true) }) (v := undef) rfl (by kernel_rfl) (by kernel_rfl) (by kernel_rfl) (fun _ _ _ h => h) (Or.inr ⟨by rfl, rfl⟩) (by assumption) ?_
              try simp only [Act.put, List.setIfInBounds_toArray, List.set_cons_zero, List.set_cons_succ]
              refine wpAnyH_take (i := 48) (oi := { dst := some 146, op := Op.convert 39 9 (Operand.tmp 145), type := 9, pos := "law.go:168", after := #[{ on := 47, ground := Ground.data }, { on := 37, ground := Ground.guard }], guard := some (37, true) }) (v := undef) rfl (by kernel_rfl) (by kernel_rfl) (by kernel_rfl) (fun _ _ _ h => h) (Or.inr ⟨by rfl, rfl⟩) (by assumption) ?_
              try simp only [Act.put, List.setIfInBounds_toArray, List.set_cons_zero, List.set_cons_succ]
              refine wpAnyH_take (i := 49) (oi := { dst := some 147, op := Op.binOp BinOp.eql 9 (Operand.tmp 140) (Operand.tmp 146) 9, type := 4, pos := "law.go:168", after := #[{ on := 42, ground := Ground.data }, { on := 48, ground := Ground.data }, { on := 37, ground := Ground.guard }], guard := some (37, true) }) (v := undef) rfl (by kernel_rfl) (by kernel_rfl) (by kernel_rfl) (fun _ _ _ h => h) (Or.inr ⟨by rfl, rfl⟩) (by assumption) ?_
              try simp only [Act.put, List.setIfInBounds_toArray, List.set_cons_zero, List.set_cons_succ]
              refine wpAnyH_take (i := 50) (oi := { dst := some 148, op := Op.pick (Operand.tmp 135) (Operand.tmp 147) (Operand.const (Value.bool false)), type := 4, pos := "law.go:168", after := #[{ on := 37, ground := Ground.data }, { on := 49, ground := Ground.data }, { on := 10, ground := Ground.guard }], guard := some (10, false) }) (v := undef) rfl (by kernel_rfl) (by kernel_rfl) (by kernel_rfl) (fun _ _ _ h => h) (Or.inr ⟨by rfl, rfl⟩) (by assumption) ?_
              try simp only [Act.put, List.setIfInBounds_toArray, List.set_cons_zero, List.set_cons_succ]
              refine wpAnyH_take (i := 51) (oi := { dst := some 149, op := Op.pick (Operand.tmp 108) (Operand.const (Value.bool true)) (Operand.tmp 148), type := 4, pos := "law.go:168", after := #[{ on := 10, ground := Ground.data }, { on := 50, ground := Ground.data }, { on := 4, ground := Ground.guard }], guard := some (4, true) }) (v := ?_) rfl (by kernel_rfl) (by kernel_rfl) (by kernel_rfl) (fun _ _ _ h => h) (Or.inl ⟨by rfl, ?_⟩) (by assumption) ?_
              rotate_left
              · intro w hSw; (try dsimp only at hSw); go_simp <;> with_reducible rfl
              try simp only [Act.put, List.setIfInBounds_toArray, List.set_cons_zero, List.set_cons_succ]
              refine wpAnyH_take (i := 52) (oi := { dst := some 150, op := Op.pick (Operand.tmp 102) (Operand.tmp 149) (Operand.const (Value.bool false)), type := 4, pos := "law.go:168", after := #[{ on := 4, ground := Ground.data }, { on := 51, ground := Ground.data }], guard := none }) (v := ?_) rfl (by kernel_rfl) (by kernel_rfl) (by kernel_rfl) (fun _ _ _ h => h) (Or.inl ⟨by rfl, ?_⟩) (by assumption) ?_
              rotate_left
              · intro w hSw; (try dsimp only at hSw); go_simp <;> with_reducible rfl
              try simp only [Act.put, List.setIfInBounds_toArray, List.set_cons_zero, List.set_cons_succ]
              refine wpAnyH_take (i := 53) (oi := { dst := some 10, op := Op.assign (Operand.tmp 150), type := 4, pos := "law.go:168", after := #[{ on := 52, ground := Ground.data }, { on := 47, ground := Ground.chain }, { on := 0, ground := Ground.phase }, { on := 1, ground := Ground.phase }, { on := 2, ground := Ground.phase }, { on := 3, ground := Ground.phase }, { on := 4, ground := Ground.phase }, { on := 5, ground := Ground.phase }, { on := 6, ground := Ground.phase }, { on := 7, ground := Ground.phase }, { on := 8, ground := Ground.phase }, { on := 9, ground := Ground.phase }, { on := 10, ground := Ground.phase }, { on := 11, ground := Ground.phase }, { on := 12, ground := Ground.phase }, { on := 13, ground := Ground.phase }, { on := 14, ground := Ground.phase }, { on := 15, ground := Ground.phase }, { on := 16, ground := Ground.phase }, { on := 17, ground := Ground.phase }, { on := 18, ground := Ground.phase }, { on := 19, ground := Ground.phase }, { on := 20, ground := Ground.phase }, { on := 21, ground := Ground.phase }, { on := 22, ground := Ground.phase }, { on := 23, ground := Ground.phase }, { on := 24, ground := Ground.phase }, { on := 25, ground := Ground.phase }, { on := 26, ground := Ground.phase }, { on := 27, ground := Ground.phase }, { on := 28, ground := Ground.phase }, { on := 29, ground := Ground.phase }, { on := 30, ground := Ground.phase }, { on := 31, ground := Ground.phase }, { on := 32, ground := Ground.phase }, { on := 33, ground := Ground.phase }, { on := 34, ground := Ground.phase }, { on := 35, ground := Ground.phase }, { on := 36, ground := Ground.phase }, { on := 37, ground := Ground.phase }, { on := 38, ground := Ground.phase }, { on := 39, ground := Ground.phase }, { on := 40, ground := Ground.phase }, { on := 41, ground := Ground.phase }, { on := 42, ground := Ground.phase }, { on := 43, ground := Ground.phase }, { on := 44, ground := Ground.phase }, { on := 45, ground := Ground.phase }, { on := 46, ground := Ground.phase }, { on := 47, ground := Ground.phase }, { on := 48, ground := Ground.phase }, { on := 49, ground := Ground.phase }, { on := 50, ground := Ground.phase }, { on := 51, ground := Ground.phase }, { on := 52, ground := Ground.phase }], guard := none }) (v := ?_) rfl (by kernel_rfl) (by kernel_rfl) (by kernel_rfl) (fun _ _ _ h => h) (Or.inl ⟨by rfl, ?_⟩) (by assumption) ?_
              rotate_left
              · intro w hSw; (try dsimp only at hSw); go_simp <;> with_reducible rfl
              try simp only [Act.put, List.setIfInBounds_toArray, List.set_cons_zero, List.set_cons_succ]
              refine wpAnyH_done (by kernel_rfl) ?_ _
              refine NoPanic.normal ?_
              clear hHeld v1
              go_wp2_with fail
              go_ret
              exact ⟨rfl, HNEXT.out _ u0⟩
            · have hof : s2.off = false := by rcases HOFF.out with q | q; exact q; cases q
              have hcc := HRV.out hof
              have hgd := HG9.out j1 k1 t b rfl
              have hrl := good_recs hgd
              obtain ⟨A6, c6, hkl⟩ := HW9.out.klist
              have hsz := hgd.fit
              have HRC := Lib.hid (fun (V : World) (u : Turns (fun _ => False) V9 V) => HW9.out.records u (by omega))
              have HSM : Hid (∀ (V : World) (A : Option Addr) (c : Nat), LAt V V.heap.size A .string t.recs → Turns (fun _ => False) V9 V → Calls Tryz.prog 18 #[.slice A t.recs.length c, .slice A6 t.recs.length c6] V fun e V' => e = .returned (.bool true) ∧ Turns (fun _ => False) V V') := Lib.hid (fun V A c hA u => by
                have h1 := same_walk A A6 t.recs t.recs t.recs.length t.recs.length c c6 rfl rfl (by omega) V hA (hkl V u).2
                rw [show decide (t.recs = t.recs) = true by simp] at h1
                exact h1.mono fun e V' q => ⟨q.1, Turns.of_below q.2⟩)
              have HRL := Lib.hid (fun (V : World) (u : Turns (fun _ => False) V9 V) => HW9.out.roomL u hsz)
              have HRR := Lib.hid (fun (V : World) (u : Turns (fun _ => False) V9 V) => HW9.out.roomR u hsz)
              have HCT := Lib.hid (fun (V : World) (u : Turns (fun _ => False) V9 V) => HW9.out.content u)
              have HVS := Lib.hid (fun (V : World) (u : Turns (fun _ => False) V9 V) => HW9.out.visible u hnr.1 (by have := HB9.out.1; omega))
              obtain ⟨C2, hC2⟩ : ∃ C2 : ByteArray, ⟨s2.vis.toArray⟩ = C2 := ⟨_, rfl⟩
              rw [hcc] at HCT
              rw [hC2] at HCT HVS
              have HKC := Lib.hid (fun (V : World) (u : Turns (fun _ => False) V9 V) => (hkl V u).1)
              obtain ⟨ql, hql⟩ : ∃ ql, t.recs.length = ql := ⟨_, rfl⟩
              obtain ⟨rm, hrm⟩ : ∃ rm, n - t.size = rm := ⟨_, rfl⟩
              rw [hql] at HRC HSM HKC
              rw [hrm] at HRL HRR
              have HS1 : Hid (∀ V, Turns (fun _ => False) V9 V → V.cell? ⟨w, 0, none⟩ = some (.pointer (some ⟨d, 0, none⟩)) ∧ V.cell? ⟨w, 1, none⟩ = some (.pointer (some ⟨j1, 0, none⟩)) ∧ V.cell? ⟨w, 2, none⟩ = some (.pointer (some ⟨x, 0, none⟩)) ∧ V.cell? ⟨w, 3, none⟩ = some (.pointer (some ⟨k1, 0, none⟩)) ∧ V.cell? ⟨k1, 1, none⟩ = some (.slice A6 ql c6)) := Lib.hid (fun V u => ⟨(HCE9.out V u).1, (HCE9.out V u).2.1, (HCE9.out V u).2.2.1, (HCE9.out V u).2.2.2, HKC.out V u⟩)
              have hr0 := HS1.out _ u0
              clear hkl hql hrm hgd hrl hsz hof hcc hC2
              go_wp2_with fail
              refine wp_region_noPanic ?_
              refine wp_region_held_drew (S := fun V => V.cell? ⟨w, 0, none⟩ = some (.pointer (some ⟨d, 0, none⟩)) ∧ V.cell? ⟨w, 1, none⟩ = some (.pointer (some ⟨j1, 0, none⟩)) ∧ V.cell? ⟨w, 2, none⟩ = some (.pointer (some ⟨x, 0, none⟩)) ∧ V.cell? ⟨w, 3, none⟩ = some (.pointer (some ⟨k1, 0, none⟩)) ∧ V.cell? ⟨k1, 1, none⟩ = some (.slice A6 ql c6)) (by kernel_rfl) hr0 (fun hHeld => ?_)
              refine wpAnyH_take (i := 0) (oi := { dst := some 98, op := Op.move (Operand.tmp 11), type := 4, pos := "law.go:168", after := #[], guard := none }) (v := ?_) rfl (by kernel_rfl) (by kernel_rfl) (by kernel_rfl) (fun _ _ _ h => h) (Or.inl ⟨by rfl, ?_⟩) (by assumption) ?_
              rotate_left
              · intro w hSw; (try dsimp only at hSw); go_simp <;> with_reducible rfl
              try simp only [Act.put, List.setIfInBounds_toArray, List.set_cons_zero, List.set_cons_succ]
              refine wpAnyH_take (i := 1) (oi := { dst := some 99, op := Op.move (Operand.tmp 98), type := 4, pos := "law.go:168", after := #[{ on := 0, ground := Ground.data }], guard := none }) (v := ?_) rfl (by kernel_rfl) (by kernel_rfl) (by kernel_rfl) (fun _ _ _ h => h) (Or.inl ⟨by rfl, ?_⟩) (by assumption) ?_
              rotate_left
              · intro w hSw; (try dsimp only at hSw); go_simp <;> with_reducible rfl
              try simp only [Act.put, List.setIfInBounds_toArray, List.set_cons_zero, List.set_cons_succ]
              refine wpAnyH_take (i := 2) (oi := { dst := some 100, op := Op.move (Operand.tmp 14), type := 4, pos := "law.go:168", after := #[{ on := 1, ground := Ground.guard }], guard := some (1, true) }) (v := ?_) rfl (by kernel_rfl) (by kernel_rfl) (by kernel_rfl) (fun _ _ _ h => h) (Or.inl ⟨by rfl, ?_⟩) (by assumption) ?_
              rotate_left
              · intro w hSw; (try dsimp only at hSw); go_simp <;> with_reducible rfl
              try simp only [Act.put, List.setIfInBounds_toArray, List.set_cons_zero, List.set_cons_succ]
              refine wpAnyH_take (i := 3) (oi := { dst := some 101, op := Op.pick (Operand.tmp 99) (Operand.tmp 100) (Operand.const (Value.bool false)), type := 4, pos := "law.go:168", after := #[{ on := 1, ground := Ground.data }, { on := 2, ground := Ground.data }], guard := none }) (v := ?_) rfl (by kernel_rfl) (by kernel_rfl) (by kernel_rfl) (fun _ _ _ h => h) (Or.inl ⟨by rfl, ?_⟩) (by assumption) ?_
              rotate_left
              · intro w hSw; (try dsimp only at hSw); go_simp <;> with_reducible rfl
              try simp only [Act.put, List.setIfInBounds_toArray, List.set_cons_zero, List.set_cons_succ]
              refine wpAnyH_take (i := 4) (oi := { dst := some 102, op := Op.move (Operand.tmp 101), type := 4, pos := "law.go:168", after := #[{ on := 3, ground := Ground.data }, { on := 1, ground := Ground.chain }], guard := none }) (v := ?_) rfl (by kernel_rfl) (by kernel_rfl) (by kernel_rfl) (fun _ _ _ h => h) (Or.inl ⟨by rfl, ?_⟩) (by assumption) ?_
              rotate_left
              · intro w hSw; (try dsimp only at hSw); go_simp <;> with_reducible rfl
              try simp only [Act.put, List.setIfInBounds_toArray, List.set_cons_zero, List.set_cons_succ]
              refine wpAnyH_take (i := 5) (oi := { dst := some 103, op := Op.move (Operand.tmp 12), type := 24, pos := "law.go:168", after := #[{ on := 4, ground := Ground.guard }], guard := some (4, true) }) (v := ?_) rfl (by kernel_rfl) (by kernel_rfl) (by kernel_rfl) (fun _ _ _ h => h) (Or.inl ⟨by rfl, ?_⟩) (by assumption) ?_
              rotate_left
              · intro w hSw; (try dsimp only at hSw); go_simp <;> with_reducible rfl
              try simp only [Act.put, List.setIfInBounds_toArray, List.set_cons_zero, List.set_cons_succ]
              refine wpAnyH_take (i := 6) (oi := { dst := some 104, op := Op.nilCheck (Operand.tmp 103), type := 0, pos := "law.go:168", after := #[{ on := 5, ground := Ground.data }, { on := 4, ground := Ground.guard }], guard := some (4, true) }) (v := ?_) rfl (by kernel_rfl) (by kernel_rfl) (by kernel_rfl) (fun _ _ _ h => h) (Or.inl ⟨by rfl, ?_⟩) (by assumption) ?_
              rotate_left
              · intro w hSw; (try dsimp only at hSw); go_simp <;> with_reducible rfl
              try simp only [Act.put, List.setIfInBounds_toArray, List.set_cons_zero, List.set_cons_succ]
              refine wpAnyH_take (i := 7) (oi := { dst := some 105, op := Op.fieldAddr 32 (Operand.tmp 104) 1, type := 0, pos := "law.go:168", after := #[{ on := 6, ground := Ground.data }, { on := 4, ground := Ground.guard }], guard := some (4, true) }) (v := ?_) rfl (by kernel_rfl) (by kernel_rfl) (by kernel_rfl) (fun _ _ _ h => h) (Or.inl ⟨by rfl, ?_⟩) (by assumption) ?_
              rotate_left
              · intro w hSw; (try dsimp only at hSw); go_simp <;> with_reducible rfl
              try simp only [Act.put, List.setIfInBounds_toArray, List.set_cons_zero, List.set_cons_succ]
              refine wpAnyH_take (i := 8) (oi := { dst := some 106, op := Op.load 28 (Operand.tmp 105), type := 28, pos := "law.go:168", after := #[{ on := 7, ground := Ground.data }, { on := 4, ground := Ground.guard }], guard := some (4, true) }) (v := ?_) rfl (by kernel_rfl) (by kernel_rfl) (by kernel_rfl) (fun _ _ _ h => h) (Or.inl ⟨by rfl, ?_⟩) (by assumption) ?_
              rotate_left
              · intro w hSw; (try dsimp only at hSw); go_simp <;> with_reducible rfl
              try simp only [Act.put, List.setIfInBounds_toArray, List.set_cons_zero, List.set_cons_succ]
              refine wpAnyH_take (i := 9) (oi := { dst := some 107, op := Op.binOp BinOp.eql 28 (Operand.tmp 106) (Operand.const (Value.pointer none)) 28, type := 4, pos := "law.go:168", after := #[{ on := 8, ground := Ground.data }, { on := 4, ground := Ground.guard }], guard := some (4, true) }) (v := ?_) rfl (by kernel_rfl) (by kernel_rfl) (by kernel_rfl) (fun _ _ _ h => h) (Or.inl ⟨by rfl, ?_⟩) (by assumption) ?_
              rotate_left
              · intro w hSw; (try dsimp only at hSw); go_simp <;> with_reducible rfl
              try simp only [Act.put, List.setIfInBounds_toArray, List.set_cons_zero, List.set_cons_succ]
              refine wpAnyH_take (i := 10) (oi := { dst := some 108, op := Op.move (Operand.tmp 107), type := 4, pos := "law.go:168", after := #[{ on := 9, ground := Ground.data }, { on := 4, ground := Ground.chain }, { on := 4, ground := Ground.guard }], guard := some (4, true) }) (v := ?_) rfl (by kernel_rfl) (by kernel_rfl) (by kernel_rfl) (fun _ _ _ h => h) (Or.inl ⟨by rfl, ?_⟩) (by assumption) ?_
              rotate_left
              · intro w hSw; (try dsimp only at hSw); go_simp <;> with_reducible rfl
              try simp only [Act.put, List.setIfInBounds_toArray, List.set_cons_zero, List.set_cons_succ]
              refine wpAnyH_take (i := 11) (oi := { dst := some 109, op := Op.move (Operand.tmp 12), type := 24, pos := "law.go:168", after := #[{ on := 10, ground := Ground.guard }], guard := some (10, false) }) (v := ?_) rfl (by kernel_rfl) (by kernel_rfl) (by kernel_rfl) (fun _ _ _ h => h) (Or.inl ⟨by rfl, ?_⟩) (by assumption) ?_
              rotate_left
              · intro w hSw; (try dsimp only at hSw); go_simp <;> with_reducible rfl
              try simp only [Act.put, List.setIfInBounds_toArray, List.set_cons_zero, List.set_cons_succ]
              refine wpAnyH_take (i := 12) (oi := { dst := some 110, op := Op.nilCheck (Operand.tmp 109), type := 0, pos := "law.go:168", after := #[{ on := 11, ground := Ground.data }, { on := 10, ground := Ground.guard }], guard := some (10, false) }) (v := ?_) rfl (by kernel_rfl) (by kernel_rfl) (by kernel_rfl) (fun _ _ _ h => h) (Or.inl ⟨by rfl, ?_⟩) (by assumption) ?_
              rotate_left
              · intro w hSw; (try dsimp only at hSw); go_simp <;> with_reducible rfl
              try simp only [Act.put, List.setIfInBounds_toArray, List.set_cons_zero, List.set_cons_succ]
              refine wpAnyH_take (i := 13) (oi := { dst := some 111, op := Op.fieldAddr 32 (Operand.tmp 110) 1, type := 0, pos := "law.go:168", after := #[{ on := 12, ground := Ground.data }, { on := 10, ground := Ground.guard }], guard := some (10, false) }) (v := ?_) rfl (by kernel_rfl) (by kernel_rfl) (by kernel_rfl) (fun _ _ _ h => h) (Or.inl ⟨by rfl, ?_⟩) (by assumption) ?_
              rotate_left
              · intro w hSw; (try dsimp only at hSw); go_simp <;> with_reducible rfl
              try simp only [Act.put, List.setIfInBounds_toArray, List.set_cons_zero, List.set_cons_succ]
              refine wpAnyH_take (i := 14) (oi := { dst := some 112, op := Op.load 28 (Operand.tmp 111), type := 28, pos := "law.go:168", after := #[{ on := 13, ground := Ground.data }, { on := 10, ground := Ground.guard }], guard := some (10, false) }) (v := ?_) rfl (by kernel_rfl) (by kernel_rfl) (by kernel_rfl) (fun _ _ _ h => h) (Or.inl ⟨by rfl, ?_⟩) (by assumption) ?_
              rotate_left
              · intro w hSw; (try dsimp only at hSw); go_simp <;> with_reducible rfl
              try simp only [Act.put, List.setIfInBounds_toArray, List.set_cons_zero, List.set_cons_succ]
              refine wpAnyH_take (i := 16) (oi := { dst := some 114, op := Op.move (Operand.tmp 12), type := 24, pos := "law.go:168", after := #[{ on := 10, ground := Ground.guard }], guard := some (10, false) }) (v := ?_) rfl (by kernel_rfl) (by kernel_rfl) (by kernel_rfl) (fun _ _ _ h => h) (Or.inl ⟨by rfl, ?_⟩) (by assumption) ?_
              rotate_left
              · intro w hSw; (try dsimp only at hSw); go_simp <;> with_reducible rfl
              try simp only [Act.put, List.setIfInBounds_toArray, List.set_cons_zero, List.set_cons_succ]
              refine wpAnyH_take (i := 17) (oi := { dst := some 115, op := Op.nilCheck (Operand.tmp 114), type := 0, pos := "law.go:168", after := #[{ on := 16, ground := Ground.data }, { on := 10, ground := Ground.guard }], guard := some (10, false) }) (v := ?_) rfl (by kernel_rfl) (by kernel_rfl) (by kernel_rfl) (fun _ _ _ h => h) (Or.inl ⟨by rfl, ?_⟩) (by assumption) ?_
              rotate_left
              · intro w hSw; (try dsimp only at hSw); go_simp <;> with_reducible rfl
              try simp only [Act.put, List.setIfInBounds_toArray, List.set_cons_zero, List.set_cons_succ]
              refine wpAnyH_take (i := 18) (oi := { dst := some 116, op := Op.fieldAddr 32 (Operand.tmp 115) 3, type := 0, pos := "law.go:168", after := #[{ on := 17, ground := Ground.data }, { on := 10, ground := Ground.guard }], guard := some (10, false) }) (v := ?_) rfl (by kernel_rfl) (by kernel_rfl) (by kernel_rfl) (fun _ _ _ h => h) (Or.inl ⟨by rfl, ?_⟩) (by assumption) ?_
              rotate_left
              · intro w hSw; (try dsimp only at hSw); go_simp <;> with_reducible rfl
              try simp only [Act.put, List.setIfInBounds_toArray, List.set_cons_zero, List.set_cons_succ]
              refine wpAnyH_take (i := 19) (oi := { dst := some 117, op := Op.load 30 (Operand.tmp 116), type := 30, pos := "law.go:168", after := #[{ on := 18, ground := Ground.data }, { on := 10, ground := Ground.guard }], guard := some (10, false) }) (v := ?_) rfl (by kernel_rfl) (by kernel_rfl) (by kernel_rfl) (fun _ _ _ h => h) (Or.inl ⟨by rfl, ?_⟩) (by assumption) ?_
              rotate_left
              · intro w hSw; (try dsimp only at hSw); go_simp <;> with_reducible rfl
              try simp only [Act.put, List.setIfInBounds_toArray, List.set_cons_zero, List.set_cons_succ]
              refine wpAnyH_take (i := 20) (oi := { dst := some 118, op := Op.nilCheck (Operand.tmp 117), type := 0, pos := "law.go:168", after := #[{ on := 19, ground := Ground.data }, { on := 10, ground := Ground.guard }], guard := some (10, false) }) (v := ?_) rfl (by kernel_rfl) (by kernel_rfl) (by kernel_rfl) (fun _ _ _ h => h) (Or.inl ⟨by rfl, ?_⟩) (by assumption) ?_
              rotate_left
              · intro w hSw; (try dsimp only at hSw); go_simp <;> with_reducible rfl
              try simp only [Act.put, List.setIfInBounds_toArray, List.set_cons_zero, List.set_cons_succ]
              refine wpAnyH_take (i := 21) (oi := { dst := some 119, op := Op.fieldAddr 43 (Operand.tmp 118) 1, type := 0, pos := "law.go:168", after := #[{ on := 20, ground := Ground.data }, { on := 10, ground := Ground.guard }], guard := some (10, false) }) (v := ?_) rfl (by kernel_rfl) (by kernel_rfl) (by kernel_rfl) (fun _ _ _ h => h) (Or.inl ⟨by rfl, ?_⟩) (by assumption) ?_
              rotate_left
              · intro w hSw; (try dsimp only at hSw); go_simp <;> with_reducible rfl
              try simp only [Act.put, List.setIfInBounds_toArray, List.set_cons_zero, List.set_cons_succ]
              refine wpAnyH_take (i := 22) (oi := { dst := some 120, op := Op.load 22 (Operand.tmp 119), type := 22, pos := "law.go:168", after := #[{ on := 21, ground := Ground.data }, { on := 10, ground := Ground.guard }], guard := some (10, false) }) (v := ?_) rfl (by kernel_rfl) (by kernel_rfl) (by kernel_rfl) (fun _ _ _ h => h) (Or.inl ⟨by rfl, ?_⟩) (by assumption) ?_
              rotate_left
              · intro w hSw; (try dsimp only at hSw); go_simp <;> with_reducible rfl
              try simp only [Act.put, List.setIfInBounds_toArray, List.set_cons_zero, List.set_cons_succ]
              refine wpAnyH_ready (rs := [15]) (by kernel_rfl) (by simp) ?_
              refine AllReadyH.cons (o := { dst := some 113, op := Op.call { callee := Callee.value (Operand.func 19), args := #[Operand.tmp 112], argTypes := #[28] }, type := 22, pos := "law.go:168", after := #[{ on := 14, ground := Ground.data }, { on := 10, ground := Ground.chain }, { on := 10, ground := Ground.guard }], guard := some (10, false) }) rfl (fun K hK => ?_) ?_
              · go_simp
                go_at_call 19
                refine (HRC.out _ u0).mono ?_
                rintro e U5 ⟨A5, c5, rfl, hl5, hu5⟩
                have r1 := u0.trans hu5
                refine hK.out _ _ ((HS1.out _ r1)) (fun hHeld => ?_)
                clear hK K
                try simp only [Act.put, List.setIfInBounds_toArray, List.set_cons_zero, List.set_cons_succ]
                refine wpAnyH_ready (rs := [23]) (by kernel_rfl) (by simp) ?_
                refine AllReadyH.cons (o := { dst := some 121, op := Op.call { callee := Callee.value (Operand.func 18), args := #[Operand.tmp 113, Operand.tmp 120], argTypes := #[22, 22] }, type := 4, pos := "law.go:168", after := #[{ on := 15, ground := Ground.data }, { on := 22, ground := Ground.data }, { on := 15, ground := Ground.chain }, { on := 10, ground := Ground.guard }], guard := some (10, false) }) rfl (fun K hK => ?_) ?_
                · go_simp
                  go_at_call 18
                  refine (HSM.out _ _ _ hl5 r1).mono ?_
                  rintro e U6 ⟨rfl, hu6⟩
                  have r2 := r1.trans hu6
                  refine hK.out _ _ ((HS1.out _ r2)) (fun hHeld => ?_)
                  clear hK K
                  try simp only [Act.put, List.setIfInBounds_toArray, List.set_cons_zero, List.set_cons_succ]
                  refine wpAnyH_take (i := 24) (oi := { dst := some 122, op := Op.move (Operand.tmp 121), type := 4, pos := "law.go:168", after := #[{ on := 23, ground := Ground.data }, { on := 23, ground := Ground.chain }, { on := 10, ground := Ground.guard }], guard := some (10, false) }) (v := ?_) rfl (by kernel_rfl) (by kernel_rfl) (by kernel_rfl) (fun _ _ _ h => h) (Or.inl ⟨by rfl, ?_⟩) (by assumption) ?_
                  rotate_left
                  · intro w hSw; (try dsimp only at hSw); go_simp <;> with_reducible rfl
                  try simp only [Act.put, List.setIfInBounds_toArray, List.set_cons_zero, List.set_cons_succ]
                  refine wpAnyH_take (i := 25) (oi := { dst := some 123, op := Op.move (Operand.tmp 12), type := 24, pos := "law.go:168", after := #[{ on := 24, ground := Ground.guard }], guard := some (24, true) }) (v := ?_) rfl (by kernel_rfl) (by kernel_rfl) (by kernel_rfl) (fun _ _ _ h => h) (Or.inl ⟨by rfl, ?_⟩) (by assumption) ?_
                  rotate_left
                  · intro w hSw; (try dsimp only at hSw); go_simp <;> with_reducible rfl
                  try simp only [Act.put, List.setIfInBounds_toArray, List.set_cons_zero, List.set_cons_succ]
                  refine wpAnyH_take (i := 26) (oi := { dst := some 124, op := Op.nilCheck (Operand.tmp 123), type := 0, pos := "law.go:168", after := #[{ on := 25, ground := Ground.data }, { on := 24, ground := Ground.guard }], guard := some (24, true) }) (v := ?_) rfl (by kernel_rfl) (by kernel_rfl) (by kernel_rfl) (fun _ _ _ h => h) (Or.inl ⟨by rfl, ?_⟩) (by assumption) ?_
                  rotate_left
                  · intro w hSw; (try dsimp only at hSw); go_simp <;> with_reducible rfl
                  try simp only [Act.put, List.setIfInBounds_toArray, List.set_cons_zero, List.set_cons_succ]
                  refine wpAnyH_take (i := 27) (oi := { dst := some 125, op := Op.fieldAddr 32 (Operand.tmp 124) 1, type := 0, pos := "law.go:168", after := #[{ on := 26, ground := Ground.data }, { on := 24, ground := Ground.guard }], guard := some (24, true) }) (v := ?_) rfl (by kernel_rfl) (by kernel_rfl) (by kernel_rfl) (fun _ _ _ h => h) (Or.inl ⟨by rfl, ?_⟩) (by assumption) ?_
                  rotate_left
                  · intro w hSw; (try dsimp only at hSw); go_simp <;> with_reducible rfl
                  try simp only [Act.put, List.setIfInBounds_toArray, List.set_cons_zero, List.set_cons_succ]
                  refine wpAnyH_take (i := 28) (oi := { dst := some 126, op := Op.load 28 (Operand.tmp 125), type := 28, pos := "law.go:168", after := #[{ on := 27, ground := Ground.data }, { on := 24, ground := Ground.guard }], guard := some (24, true) }) (v := ?_) rfl (by kernel_rfl) (by kernel_rfl) (by kernel_rfl) (fun _ _ _ h => h) (Or.inl ⟨by rfl, ?_⟩) (by assumption) ?_
                  rotate_left
                  · intro w hSw; (try dsimp only at hSw); go_simp <;> with_reducible rfl
                  try simp only [Act.put, List.setIfInBounds_toArray, List.set_cons_zero, List.set_cons_succ]
                  refine wpAnyH_take (i := 30) (oi := { dst := some 128, op := Op.move (Operand.tmp 12), type := 24, pos := "law.go:168", after := #[{ on := 24, ground := Ground.guard }], guard := some (24, true) }) (v := ?_) rfl (by kernel_rfl) (by kernel_rfl) (by kernel_rfl) (fun _ _ _ h => h) (Or.inl ⟨by rfl, ?_⟩) (by assumption) ?_
                  rotate_left
                  · intro w hSw; (try dsimp only at hSw); go_simp <;> with_reducible rfl
                  try simp only [Act.put, List.setIfInBounds_toArray, List.set_cons_zero, List.set_cons_succ]
                  refine wpAnyH_take (i := 31) (oi := { dst := some 129, op := Op.nilCheck (Operand.tmp 128), type := 0, pos := "law.go:168", after := #[{ on := 30, ground := Ground.data }, { on := 24, ground := Ground.guard }], guard := some (24, true) }) (v := ?_) rfl (by kernel_rfl) (by kernel_rfl) (by kernel_rfl) (fun _ _ _ h => h) (Or.inl ⟨by rfl, ?_⟩) (by assumption) ?_
                  rotate_left
                  · intro w hSw; (try dsimp only at hSw); go_simp <;> with_reducible rfl
                  try simp only [Act.put, List.setIfInBounds_toArray, List.set_cons_zero, List.set_cons_succ]
                  refine wpAnyH_take (i := 32) (oi := { dst := some 130, op := Op.fieldAddr 32 (Operand.tmp 129) 3, type := 0, pos := "law.go:168", after := #[{ on := 31, ground := Ground.data }, { on := 24, ground := Ground.guard }], guard := some (24, true) }) (v := ?_) rfl (by kernel_rfl) (by kernel_rfl) (by kernel_rfl) (fun _ _ _ h => h) (Or.inl ⟨by rfl, ?_⟩) (by assumption) ?_
                  rotate_left
                  · intro w hSw; (try dsimp only at hSw); go_simp <;> with_reducible rfl
                  try simp only [Act.put, List.setIfInBounds_toArray, List.set_cons_zero, List.set_cons_succ]
                  refine wpAnyH_take (i := 33) (oi := { dst := some 131, op := Op.load 30 (Operand.tmp 130), type := 30, pos := "law.go:168", after := #[{ on := 32, ground := Ground.data }, { on := 24, ground := Ground.guard }], guard := some (24, true) }) (v := ?_) rfl (by kernel_rfl) (by kernel_rfl) (by kernel_rfl) (fun _ _ _ h => h) (Or.inl ⟨by rfl, ?_⟩) (by assumption) ?_
                  rotate_left
                  · intro w hSw; (try dsimp only at hSw); go_simp <;> with_reducible rfl
                  try simp only [Act.put, List.setIfInBounds_toArray, List.set_cons_zero, List.set_cons_succ]
                  refine wpAnyH_ready (rs := [29]) (by kernel_rfl) (by simp) ?_
                  refine AllReadyH.cons (o := { dst := some 127, op := Op.call { callee := Callee.value (Operand.func 20), args := #[Operand.tmp 126], argTypes := #[28] }, type := 3, pos := "law.go:168", after := #[{ on := 28, ground := Ground.data }, { on := 24, ground := Ground.chain }, { on := 24, ground := Ground.guard }], guard := some (24, true) }) rfl (fun K hK => ?_) ?_
                  · go_simp
                    go_at_call 20
                    refine (HRL.out _ r2).mono ?_
                    rintro e U7 ⟨rfl, hu7⟩
                    have r3 := r2.trans hu7
                    refine hK.out _ _ ((HS1.out _ r3)) (fun hHeld => ?_)
                    clear hK K
                    try simp only [Act.put, List.setIfInBounds_toArray, List.set_cons_zero, List.set_cons_succ]
                    refine wpAnyH_ready (rs := [34]) (by kernel_rfl) (by simp) ?_
                    refine AllReadyH.cons (o := { dst := some 132, op := Op.call { callee := Callee.value (Operand.func 21), args := #[Operand.tmp 131], argTypes := #[30] }, type := 3, pos := "law.go:168", after := #[{ on := 33, ground := Ground.data }, { on := 29, ground := Ground.chain }, { on := 24, ground := Ground.guard }], guard := some (24, true) }) rfl (fun K hK => ?_) ?_
                    · go_simp
                      go_at_call 21
                      refine (HRR.out _ r3).mono ?_
                      rintro e U8 ⟨rfl, hu8⟩
                      have r4 := r3.trans hu8
                      refine hK.out _ _ ((HS1.out _ r4)) (fun hHeld => ?_)
                      clear hK K
                      try simp only [Act.put, List.setIfInBounds_toArray, List.set_cons_zero, List.set_cons_succ]
                      refine wpAnyH_take (i := 35) (oi := { dst := some 133, op := Op.binOp BinOp.eql 3 (Operand.tmp 127) (Operand.tmp 132) 3, type := 4, pos := "law.go:168", after := #[{ on := 29, ground := Ground.data }, { on := 34, ground := Ground.data }, { on := 24, ground := Ground.guard }], guard := some (24, true) }) (v := ?_) rfl (by kernel_rfl) (by kernel_rfl) (by kernel_rfl) (fun _ _ _ h => h) (Or.inl ⟨by rfl, ?_⟩) (by assumption) ?_
                      rotate_left
                      · intro w hSw; (try dsimp only at hSw); go_simp <;> with_reducible rfl
                      try simp only [Act.put, List.setIfInBounds_toArray, List.set_cons_zero, List.set_cons_succ]
                      refine wpAnyH_take (i := 36) (oi := { dst := some 134, op := Op.pick (Operand.tmp 122) (Operand.tmp 133) (Operand.const (Value.bool false)), type := 4, pos := "law.go:168", after := #[{ on := 24, ground := Ground.data }, { on := 35, ground := Ground.data }, { on := 10, ground := Ground.guard }], guard := some (10, false) }) (v := ?_) rfl (by kernel_rfl) (by kernel_rfl) (by kernel_rfl) (fun _ _ _ h => h) (Or.inl ⟨by rfl, ?_⟩) (by assumption) ?_
                      rotate_left
                      · intro w hSw; (try dsimp only at hSw); go_simp <;> with_reducible rfl
                      try simp only [Act.put, List.setIfInBounds_toArray, List.set_cons_zero, List.set_cons_succ]
                      refine wpAnyH_take (i := 37) (oi := { dst := some 135, op := Op.move (Operand.tmp 134), type := 4, pos := "law.go:168", after := #[{ on := 36, ground := Ground.data }, { on := 34, ground := Ground.chain }, { on := 10, ground := Ground.guard }], guard := some (10, false) }) (v := ?_) rfl (by kernel_rfl) (by kernel_rfl) (by kernel_rfl) (fun _ _ _ h => h) (Or.inl ⟨by rfl, ?_⟩) (by assumption) ?_
                      rotate_left
                      · intro w hSw; (try dsimp only at hSw); go_simp <;> with_reducible rfl
                      try simp only [Act.put, List.setIfInBounds_toArray, List.set_cons_zero, List.set_cons_succ]
                      refine wpAnyH_take (i := 38) (oi := { dst := some 136, op := Op.move (Operand.tmp 12), type := 24, pos := "law.go:168", after := #[{ on := 37, ground := Ground.guard }], guard := some (37, true) }) (v := ?_) rfl (by kernel_rfl) (by kernel_rfl) (by kernel_rfl) (fun _ _ _ h => h) (Or.inl ⟨by rfl, ?_⟩) (by assumption) ?_
                      rotate_left
                      · intro w hSw; (try dsimp only at hSw); go_simp <;> with_reducible rfl
                      try simp only [Act.put, List.setIfInBounds_toArray, List.set_cons_zero, List.set_cons_succ]
                      refine wpAnyH_take (i := 39) (oi := { dst := some 137, op := Op.nilCheck (Operand.tmp 136), type := 0, pos := "law.go:168", after := #[{ on := 38, ground := Ground.data }, { on := 37, ground := Ground.guard }], guard := some (37, true) }) (v := ?_) rfl (by kernel_rfl) (by kernel_rfl) (by kernel_rfl) (fun _ _ _ h => h) (Or.inl ⟨by rfl, ?_⟩) (by assumption) ?_
                      rotate_left
                      · intro w hSw; (try dsimp only at hSw); go_simp <;> with_reducible rfl
                      try simp only [Act.put, List.setIfInBounds_toArray, List.set_cons_zero, List.set_cons_succ]
                      refine wpAnyH_take (i := 40) (oi := { dst := some 138, op := Op.fieldAddr 32 (Operand.tmp 137) 0, type := 0, pos := "law.go:168", after := #[{ on := 39, ground := Ground.data }, { on := 37, ground := Ground.guard }], guard := some (37, true) }) (v := ?_) rfl (by kernel_rfl) (by kernel_rfl) (by kernel_rfl) (fun _ _ _ h => h) (Or.inl ⟨by rfl, ?_⟩) (by assumption) ?_
                      rotate_left
                      · intro w hSw; (try dsimp only at hSw); go_simp <;> with_reducible rfl
                      try simp only [Act.put, List.setIfInBounds_toArray, List.set_cons_zero, List.set_cons_succ]
                      refine wpAnyH_take (i := 41) (oi := { dst := some 139, op := Op.load 27 (Operand.tmp 138), type := 27, pos := "law.go:168", after := #[{ on := 40, ground := Ground.data }, { on := 37, ground := Ground.guard }], guard := some (37, true) }) (v := ?_) rfl (by kernel_rfl) (by kernel_rfl) (by kernel_rfl) (fun _ _ _ h => h) (Or.inl ⟨by rfl, ?_⟩) (by assumption) ?_
                      rotate_left
                      · intro w hSw; (try dsimp only at hSw); go_simp <;> with_reducible rfl
                      try simp only [Act.put, List.setIfInBounds_toArray, List.set_cons_zero, List.set_cons_succ]
                      refine wpAnyH_take (i := 43) (oi := { dst := some 141, op := Op.move (Operand.tmp 12), type := 24, pos := "law.go:168", after := #[{ on := 37, ground := Ground.guard }], guard := some (37, true) }) (v := ?_) rfl (by kernel_rfl) (by kernel_rfl) (by kernel_rfl) (fun _ _ _ h => h) (Or.inl ⟨by rfl, ?_⟩) (by assumption) ?_
                      rotate_left
                      · intro w hSw; (try dsimp only at hSw); go_simp <;> with_reducible rfl
                      try simp only [Act.put, List.setIfInBounds_toArray, List.set_cons_zero, List.set_cons_succ]
                      refine wpAnyH_take (i := 44) (oi := { dst := some 142, op := Op.nilCheck (Operand.tmp 141), type := 0, pos := "law.go:168", after := #[{ on := 43, ground := Ground.data }, { on := 37, ground := Ground.guard }], guard := some (37, true) }) (v := ?_) rfl (by kernel_rfl) (by kernel_rfl) (by kernel_rfl) (fun _ _ _ h => h) (Or.inl ⟨by rfl, ?_⟩) (by assumption) ?_
                      rotate_left
                      · intro w hSw; (try dsimp only at hSw); go_simp <;> with_reducible rfl
                      try simp only [Act.put, List.setIfInBounds_toArray, List.set_cons_zero, List.set_cons_succ]
                      refine wpAnyH_take (i := 45) (oi := { dst := some 143, op := Op.fieldAddr 32 (Operand.tmp 142) 2, type := 0, pos := "law.go:168", after := #[{ on := 44, ground := Ground.data }, { on := 37, ground := Ground.guard }], guard := some (37, true) }) (v := ?_) rfl (by kernel_rfl) (by kernel_rfl) (by kernel_rfl) (fun _ _ _ h => h) (Or.inl ⟨by rfl, ?_⟩) (by assumption) ?_
                      rotate_left
                      · intro w hSw; (try dsimp only at hSw); go_simp <;> with_reducible rfl
                      try simp only [Act.put, List.setIfInBounds_toArray, List.set_cons_zero, List.set_cons_succ]
                      refine wpAnyH_take (i := 46) (oi := { dst := some 144, op := Op.load 29 (Operand.tmp 143), type := 29, pos := "law.go:168", after := #[{ on := 45, ground := Ground.data }, { on := 37, ground := Ground.guard }], guard := some (37, true) }) (v := ?_) rfl (by kernel_rfl) (by kernel_rfl) (by kernel_rfl) (fun _ _ _ h => h) (Or.inl ⟨by rfl, ?_⟩) (by assumption) ?_
                      rotate_left
                      · intro w hSw; (try dsimp only at hSw); go_simp <;> with_reducible rfl
                      try simp only [Act.put, List.setIfInBounds_toArray, List.set_cons_zero, List.set_cons_succ]
                      refine wpAnyH_ready (rs := [42]) (by kernel_rfl) (by simp) ?_
                      refine AllReadyH.cons (o := { dst := some 140, op := Op.call { callee := Callee.value (Operand.func 22), args := #[Operand.tmp 139], argTypes := #[27] }, type := 9, pos := "law.go:168", after := #[{ on := 41, ground := Ground.data }, { on := 37, ground := Ground.chain }, { on := 37, ground := Ground.guard }], guard := some (37, true) }) rfl (fun K hK => ?_) ?_
                      · go_simp
                        go_at_call 22
                        refine (HCT.out _ r4).mono ?_
                        rintro e U9 ⟨rfl, rfl⟩
                        refine hK.out _ _ ((HS1.out _ r4)) (fun hHeld => ?_)
                        clear hK K
                        try simp only [Act.put, List.setIfInBounds_toArray, List.set_cons_zero, List.set_cons_succ]
                        refine wpAnyH_ready (rs := [47]) (by kernel_rfl) (by simp) ?_
                        refine AllReadyH.cons (o := { dst := some 145, op := Op.call { callee := Callee.value (Operand.func 23), args := #[Operand.tmp 144], argTypes := #[29] }, type := 39, pos := "law.go:168", after := #[{ on := 46, ground := Ground.data }, { on := 42, ground := Ground.chain }, { on := 37, ground := Ground.guard }], guard := some (37, true) }) rfl (fun K hK => ?_) ?_
                        · go_simp
                          go_at_call 23
                          refine (HVS.out _ r4).mono ?_
                          rintro e U3 ⟨qq, cq, rfl, hcv3, hu3⟩
                          have r5 := r4.trans hu3
                          refine hK.out _ _ ((HS1.out _ r5)) (fun hHeld => ?_)
                          clear hK K
                          try simp only [Act.put, List.setIfInBounds_toArray, List.set_cons_zero, List.set_cons_succ]
                          refine wpAnyH_ready (rs := [48]) (by kernel_rfl) (by simp) ?_
                          refine AllReadyH.cons (o := { dst := some 146, op := Op.convert 39 9 (Operand.tmp 145), type := 9, pos := "law.go:168", after := #[{ on := 47, ground := Ground.data }, { on := 37, ground := Ground.guard }], guard := some (37, true) }) rfl (fun K hK => ?_) ?_
                          · go_simp
                            refine hK.out _ _ ((HS1.out _ r5)) (fun hHeld => ?_)
                            clear hK K
                            try simp only [Act.put, List.setIfInBounds_toArray, List.set_cons_zero, List.set_cons_succ]
                            refine wpAnyH_take (i := 49) (oi := { dst := some 147, op := Op.binOp BinOp.eql 9 (Operand.tmp 140) (Operand.tmp 146) 9, type := 4, pos := "law.go:168", after := #[{ on := 42, ground := Ground.data }, { on := 48, ground := Ground.data }, { on := 37, ground := Ground.guard }], guard := some (37, true) }) (v := ?_) rfl (by kernel_rfl) (by kernel_rfl) (by kernel_rfl) (fun _ _ _ h => h) (Or.inl ⟨by rfl, ?_⟩) (by assumption) ?_
                            rotate_left
                            · intro w hSw; (try dsimp only at hSw); go_simp <;> with_reducible rfl
                            try simp only [Act.put, List.setIfInBounds_toArray, List.set_cons_zero, List.set_cons_succ]
                            refine wpAnyH_take (i := 50) (oi := { dst := some 148, op := Op.pick (Operand.tmp 135) (Operand.tmp 147) (Operand.const (Value.bool false)), type := 4, pos := "law.go:168", after := #[{ on := 37, ground := Ground.data }, { on := 49, ground := Ground.data }, { on := 10, ground := Ground.guard }], guard := some (10, false) }) (v := ?_) rfl (by kernel_rfl) (by kernel_rfl) (by kernel_rfl) (fun _ _ _ h => h) (Or.inl ⟨by rfl, ?_⟩) (by assumption) ?_
                            rotate_left
                            · intro w hSw; (try dsimp only at hSw); go_simp <;> with_reducible rfl
                            try simp only [Act.put, List.setIfInBounds_toArray, List.set_cons_zero, List.set_cons_succ]
                            refine wpAnyH_take (i := 51) (oi := { dst := some 149, op := Op.pick (Operand.tmp 108) (Operand.const (Value.bool true)) (Operand.tmp 148), type := 4, pos := "law.go:168", after := #[{ on := 10, ground := Ground.data }, { on := 50, ground := Ground.data }, { on := 4, ground := Ground.guard }], guard := some (4, true) }) (v := ?_) rfl (by kernel_rfl) (by kernel_rfl) (by kernel_rfl) (fun _ _ _ h => h) (Or.inl ⟨by rfl, ?_⟩) (by assumption) ?_
                            rotate_left
                            · intro w hSw; (try dsimp only at hSw); go_simp <;> with_reducible rfl
                            try simp only [Act.put, List.setIfInBounds_toArray, List.set_cons_zero, List.set_cons_succ]
                            refine wpAnyH_take (i := 52) (oi := { dst := some 150, op := Op.pick (Operand.tmp 102) (Operand.tmp 149) (Operand.const (Value.bool false)), type := 4, pos := "law.go:168", after := #[{ on := 4, ground := Ground.data }, { on := 51, ground := Ground.data }], guard := none }) (v := ?_) rfl (by kernel_rfl) (by kernel_rfl) (by kernel_rfl) (fun _ _ _ h => h) (Or.inl ⟨by rfl, ?_⟩) (by assumption) ?_
                            rotate_left
                            · intro w hSw; (try dsimp only at hSw); go_simp <;> with_reducible rfl
                            try simp only [Act.put, List.setIfInBounds_toArray, List.set_cons_zero, List.set_cons_succ]
                            refine wpAnyH_take (i := 53) (oi := { dst := some 10, op := Op.assign (Operand.tmp 150), type := 4, pos := "law.go:168", after := #[{ on := 52, ground := Ground.data }, { on := 47, ground := Ground.chain }, { on := 0, ground := Ground.phase }, { on := 1, ground := Ground.phase }, { on := 2, ground := Ground.phase }, { on := 3, ground := Ground.phase }, { on := 4, ground := Ground.phase }, { on := 5, ground := Ground.phase }, { on := 6, ground := Ground.phase }, { on := 7, ground := Ground.phase }, { on := 8, ground := Ground.phase }, { on := 9, ground := Ground.phase }, { on := 10, ground := Ground.phase }, { on := 11, ground := Ground.phase }, { on := 12, ground := Ground.phase }, { on := 13, ground := Ground.phase }, { on := 14, ground := Ground.phase }, { on := 15, ground := Ground.phase }, { on := 16, ground := Ground.phase }, { on := 17, ground := Ground.phase }, { on := 18, ground := Ground.phase }, { on := 19, ground := Ground.phase }, { on := 20, ground := Ground.phase }, { on := 21, ground := Ground.phase }, { on := 22, ground := Ground.phase }, { on := 23, ground := Ground.phase }, { on := 24, ground := Ground.phase }, { on := 25, ground := Ground.phase }, { on := 26, ground := Ground.phase }, { on := 27, ground := Ground.phase }, { on := 28, ground := Ground.phase }, { on := 29, ground := Ground.phase }, { on := 30, ground := Ground.phase }, { on := 31, ground := Ground.phase }, { on := 32, ground := Ground.phase }, { on := 33, ground := Ground.phase }, { on := 34, ground := Ground.phase }, { on := 35, ground := Ground.phase }, { on := 36, ground := Ground.phase }, { on := 37, ground := Ground.phase }, { on := 38, ground := Ground.phase }, { on := 39, ground := Ground.phase }, { on := 40, ground := Ground.phase }, { on := 41, ground := Ground.phase }, { on := 42, ground := Ground.phase }, { on := 43, ground := Ground.phase }, { on := 44, ground := Ground.phase }, { on := 45, ground := Ground.phase }, { on := 46, ground := Ground.phase }, { on := 47, ground := Ground.phase }, { on := 48, ground := Ground.phase }, { on := 49, ground := Ground.phase }, { on := 50, ground := Ground.phase }, { on := 51, ground := Ground.phase }, { on := 52, ground := Ground.phase }], guard := none }) (v := ?_) rfl (by kernel_rfl) (by kernel_rfl) (by kernel_rfl) (fun _ _ _ h => h) (Or.inl ⟨by rfl, ?_⟩) (by assumption) ?_
                            rotate_left
                            · intro w hSw; (try dsimp only at hSw); go_simp <;> with_reducible rfl
                            try simp only [Act.put, List.setIfInBounds_toArray, List.set_cons_zero, List.set_cons_succ]
                            refine wpAnyH_done (by kernel_rfl) ?_ _
                            refine NoPanic.normal ?_
                            go_wp2_with fail
                            go_ret
                            exact ⟨rfl, HNEXT.out _ r5⟩
                          exact AllReadyH.nil
                        exact AllReadyH.nil
                      exact AllReadyH.nil
                    exact AllReadyH.nil
                  exact AllReadyH.nil
                exact AllReadyH.nil
              exact AllReadyH.nil
          exact AllReadyH.nil
        exact AllReadyH.nil
      exact AllReadyH.nil
    exact AllReadyH.nil
  · have d1 : decide ((0 : Int) < (ln : Int)) = false := by simp; omega
    have d1n : decide (0 < ln) = false := by simp; omega
    obtain ⟨m0, hm0⟩ : ∃ m0 : Nat, min (S.size : Int) (n : Int) = (m0 : Int) := ⟨min S.size n, by omega⟩
    have y3 : (0 : Int) ≤ (m0 : Int) := by omega
    have y4 : (m0 : Int) ≤ (S.size : Int) := by omega
    obtain ⟨T, hT⟩ : ∃ T, S.extract 0 m0 = T := ⟨_, rfl⟩
    have hTs : T.size ≤ 4194304 := by rw [← hT, ByteArray.size_extract]; omega
    have hbf : Bnd 0 (DS.fresh n) := ⟨Nat.le_refl _, Nat.zero_le _⟩
    obtain ⟨sA, hsA⟩ : ∃ sA, (DS.fresh n).wr 0 T = sA := ⟨_, rfl⟩
    obtain ⟨EA, hEA⟩ : ∃ EA, (DS.fresh n).writeE 0 T = EA := ⟨_, rfl⟩
    have HWL : Hid (∀ V, Trk W Z W2 n d x (DS.fresh n) (some (j, TS.zero, false)) (DS.fresh n) (some (k, TS.zero, false)) V → Calls Tryz.prog 13 #[.pointer (some ⟨d, 0, none⟩), .int .i64 0, .string T] V fun e V' => e = .returned (.int .i64 EA) ∧ Trk W Z W2 n d x sA (some (j, TS.zero, false)) (DS.fresh n) (some (k, TS.zero, false)) V') := Lib.hid (fun V hv => by
      have h1 := hv.2.writeL (HZZ.out V hv.1) 0 T hTs (by have := hbf.1; omega) hbf.2
      rw [hsA, hEA] at h1
      exact h1.mono fun e V' q => ⟨q.1, hv.1.trans q.2.2, q.2.1⟩)
    have HWR : Hid (∀ V, Trk W Z W2 n d x sA (some (j, TS.zero, false)) (DS.fresh n) (some (k, TS.zero, false)) V → Calls Tryz.prog 16 #[.pointer (some ⟨x, 0, none⟩), .int .i64 0, .string T] V fun e V' => e = .returned (.int .i64 EA) ∧ Trk W Z W2 n d x sA (some (j, TS.zero, false)) sA (some (k, TS.zero, false)) V') := Lib.hid (fun V hv => by
      have h1 := hv.2.writeR (HZZ.out V hv.1) 0 T hTs (by have := hbf.1; omega) hbf.2
      rw [hsA, hEA] at h1
      exact h1.mono fun e V' q => ⟨q.1, hv.1.trans q.2.2, q.2.1⟩)
    have HBA : Hid (Bnd 1 sA) := Lib.hid (by rw [← hsA]; exact hbf.wr _ _)
    have h0 : Trk W Z W2 n d x (DS.fresh n) (some (j, TS.zero, false)) (DS.fresh n) (some (k, TS.zero, false)) W2.drew := ⟨Turns.drew _, HT2.out.2.quiet (Turns.drew _)⟩
    have hs0 := HCE.out _ h0.1
    clear hsA hEA hTs hbf HFW hfl
    go_wp2_with fail
    refine wp_region_noPanic ?_
    refine wp_region_held_drew (S := fun V => V.cell? ⟨w, 0, none⟩ = some (.pointer (some ⟨d, 0, none⟩)) ∧ V.cell? ⟨w, 1, none⟩ = some (.pointer (some ⟨j, 0, none⟩)) ∧ V.cell? ⟨w, 2, none⟩ = some (.pointer (some ⟨x, 0, none⟩)) ∧ V.cell? ⟨w, 3, none⟩ = some (.pointer (some ⟨k, 0, none⟩))) (by kernel_rfl) hs0 (fun hHeld => ?_)
    refine wpAnyH_take (i := 0) (oi := { dst := some 72, op := Op.move (Operand.tmp 12), type := 24, pos := "law.go:164", after := #[], guard := none }) (v := ?_) rfl (by kernel_rfl) (by kernel_rfl) (by kernel_rfl) (fun _ _ _ h => h) (Or.inl ⟨by rfl, ?_⟩) (by assumption) ?_
    rotate_left
    · intro w hSw; (try dsimp only at hSw); go_simp <;> with_reducible rfl
    try simp only [Act.put, List.setIfInBounds_toArray, List.set_cons_zero, List.set_cons_succ]
    refine wpAnyH_take (i := 1) (oi := { dst := some 73, op := Op.nilCheck (Operand.tmp 72), type := 0, pos := "law.go:164", after := #[{ on := 0, ground := Ground.data }], guard := none }) (v := ?_) rfl (by kernel_rfl) (by kernel_rfl) (by kernel_rfl) (fun _ _ _ h => h) (Or.inl ⟨by rfl, ?_⟩) (by assumption) ?_
    rotate_left
    · intro w hSw; (try dsimp only at hSw); go_simp <;> with_reducible rfl
    try simp only [Act.put, List.setIfInBounds_toArray, List.set_cons_zero, List.set_cons_succ]
    refine wpAnyH_take (i := 2) (oi := { dst := some 74, op := Op.fieldAddr 32 (Operand.tmp 73) 0, type := 0, pos := "law.go:164", after := #[{ on := 1, ground := Ground.data }], guard := none }) (v := ?_) rfl (by kernel_rfl) (by kernel_rfl) (by kernel_rfl) (fun _ _ _ h => h) (Or.inl ⟨by rfl, ?_⟩) (by assumption) ?_
    rotate_left
    · intro w hSw; (try dsimp only at hSw); go_simp <;> with_reducible rfl
    try simp only [Act.put, List.setIfInBounds_toArray, List.set_cons_zero, List.set_cons_succ]
    refine wpAnyH_take (i := 3) (oi := { dst := some 75, op := Op.load 27 (Operand.tmp 74), type := 27, pos := "law.go:164", after := #[{ on := 2, ground := Ground.data }], guard := none }) (v := ?_) rfl (by kernel_rfl) (by kernel_rfl) (by kernel_rfl) (fun _ _ _ h => h) (Or.inl ⟨by rfl, ?_⟩) (by assumption) ?_
    rotate_left
    · intro w hSw; (try dsimp only at hSw); go_simp <;> with_reducible rfl
    try simp only [Act.put, List.setIfInBounds_toArray, List.set_cons_zero, List.set_cons_succ]
    refine wpAnyH_take (i := 4) (oi := { dst := some 76, op := Op.move (Operand.tmp 1), type := 9, pos := "law.go:164", after := #[], guard := none }) (v := ?_) rfl (by kernel_rfl) (by kernel_rfl) (by kernel_rfl) (fun _ _ _ h => h) (Or.inl ⟨by rfl, ?_⟩) (by assumption) ?_
    rotate_left
    · intro w hSw; (try dsimp only at hSw); go_simp <;> with_reducible rfl
    try simp only [Act.put, List.setIfInBounds_toArray, List.set_cons_zero, List.set_cons_succ]
    refine wpAnyH_take (i := 5) (oi := { dst := some 77, op := Op.move (Operand.tmp 1), type := 9, pos := "law.go:164", after := #[], guard := none }) (v := ?_) rfl (by kernel_rfl) (by kernel_rfl) (by kernel_rfl) (fun _ _ _ h => h) (Or.inl ⟨by rfl, ?_⟩) (by assumption) ?_
    rotate_left
    · intro w hSw; (try dsimp only at hSw); go_simp <;> with_reducible rfl
    try simp only [Act.put, List.setIfInBounds_toArray, List.set_cons_zero, List.set_cons_succ]
    refine wpAnyH_take (i := 6) (oi := { dst := some 78, op := Op.call { callee := Callee.builtin Builtin.len, args := #[Operand.tmp 77], argTypes := #[9] }, type := 3, pos := "law.go:164", after := #[{ on := 5, ground := Ground.data }], guard := none }) (v := ?_) rfl (by kernel_rfl) (by kernel_rfl) (by kernel_rfl) (fun _ _ _ h => h) (Or.inl ⟨by rfl, ?_⟩) (by assumption) ?_
    rotate_left
    · intro w hSw; (try dsimp only at hSw); go_simp <;> with_reducible rfl
    try simp only [Act.put, List.setIfInBounds_toArray, List.set_cons_zero, List.set_cons_succ]
    refine wpAnyH_take (i := 7) (oi := { dst := some 79, op := Op.move (Operand.tmp 0), type := 3, pos := "law.go:164", after := #[], guard := none }) (v := ?_) rfl (by kernel_rfl) (by kernel_rfl) (by kernel_rfl) (fun _ _ _ h => h) (Or.inl ⟨by rfl, ?_⟩) (by assumption) ?_
    rotate_left
    · intro w hSw; (try dsimp only at hSw); go_simp <;> with_reducible rfl
    try simp only [Act.put, List.setIfInBounds_toArray, List.set_cons_zero, List.set_cons_succ]
    refine wpAnyH_ready (rs := [8]) (by kernel_rfl) (by simp) ?_
    refine AllReadyH.cons (o := { dst := some 80, op := Op.call { callee := Callee.value (Operand.func 15), args := #[Operand.tmp 79], argTypes := #[3] }, type := 3, pos := "law.go:164", after := #[{ on := 7, ground := Ground.data }], guard := none }) rfl (fun K hK => ?_) ?_
    · go_simp
      go_at_call 15
      refine (HSZ.out _).mono ?_
      rintro e w1 ⟨rfl, rfl⟩
      refine hK.out _ _ (hs0) (fun hHeld => ?_)
      clear hK K
      try simp only [Act.put, List.setIfInBounds_toArray, List.set_cons_zero, List.set_cons_succ]
      refine wpAnyH_take (i := 9) (oi := { dst := some 81, op := Op.call { callee := Callee.builtin Builtin.min, args := #[Operand.tmp 78, Operand.tmp 80], argTypes := #[3, 3] }, type := 3, pos := "law.go:164", after := #[{ on := 6, ground := Ground.data }, { on := 8, ground := Ground.data }], guard := none }) (v := ?_) rfl (by kernel_rfl) (by kernel_rfl) (by kernel_rfl) (fun _ _ _ h => h) (Or.inl ⟨by rfl, ?_⟩) (by assumption) ?_
      rotate_left
      · intro w hSw; (try dsimp only at hSw); go_simp <;> with_reducible rfl
      try simp only [Act.put, List.setIfInBounds_toArray, List.set_cons_zero, List.set_cons_succ]
      refine wpAnyH_take (i := 10) (oi := { dst := some 82, op := Op.slice 9 (Operand.tmp 76) none (some (Operand.tmp 81)) none, type := 9, pos := "law.go:164", after := #[{ on := 4, ground := Ground.data }, { on := 9, ground := Ground.data }], guard := none }) (v := ?_) rfl (by kernel_rfl) (by kernel_rfl) (by kernel_rfl) (fun _ _ _ h => h) (Or.inl ⟨by rfl, ?_⟩) (by assumption) ?_
      rotate_left
      · intro w hSw; (try dsimp only at hSw); go_simp <;> with_reducible rfl
      try simp only [Act.put, List.setIfInBounds_toArray, List.set_cons_zero, List.set_cons_succ]
      refine wpAnyH_ready (rs := [11]) (by kernel_rfl) (by simp) ?_
      refine AllReadyH.cons (o := { dst := some 83, op := Op.call { callee := Callee.value (Operand.func 13), args := #[Operand.tmp 75, Operand.const (Value.int IntKind.i64 0), Operand.tmp 82], argTypes := #[27, 3, 9] }, type := 33, pos := "law.go:164", after := #[{ on := 3, ground := Ground.data }, { on := 10, ground := Ground.data }, { on := 8, ground := Ground.chain }], guard := none }) rfl (fun K hK => ?_) ?_
      · go_simp
        go_at_call 13
        refine (HWL.out _ h0).mono ?_
        rintro e V7 ⟨rfl, hv7⟩
        refine hK.out _ _ ((HCE.out _ hv7.1)) (fun hHeld => ?_)
        clear hK K
        try simp only [Act.put, List.setIfInBounds_toArray, List.set_cons_zero, List.set_cons_succ]
        refine wpAnyH_done (by kernel_rfl) ?_ _
        refine NoPanic.normal ?_
        have h7 : Trk W Z W2 n d x sA (some (j, TS.zero, false)) (DS.fresh n) (some (k, TS.zero, false)) V7.drew := ⟨hv7.1.trans (Turns.drew _), hv7.2.quiet (Turns.drew _)⟩
        have hs7 := HCE.out _ h7.1
        clear hv7 h0 hs0 hHeld HWL
        go_wp2_with fail
        refine wp_region_noPanic ?_
        refine wp_region_held_drew (S := fun V => V.cell? ⟨w, 0, none⟩ = some (.pointer (some ⟨d, 0, none⟩)) ∧ V.cell? ⟨w, 1, none⟩ = some (.pointer (some ⟨j, 0, none⟩)) ∧ V.cell? ⟨w, 2, none⟩ = some (.pointer (some ⟨x, 0, none⟩)) ∧ V.cell? ⟨w, 3, none⟩ = some (.pointer (some ⟨k, 0, none⟩))) (by kernel_rfl) hs7 (fun hHeld => ?_)
        refine wpAnyH_take (i := 0) (oi := { dst := some 84, op := Op.move (Operand.tmp 12), type := 24, pos := "law.go:165", after := #[], guard := none }) (v := ?_) rfl (by kernel_rfl) (by kernel_rfl) (by kernel_rfl) (fun _ _ _ h => h) (Or.inl ⟨by rfl, ?_⟩) (by assumption) ?_
        rotate_left
        · intro w hSw; (try dsimp only at hSw); go_simp <;> with_reducible rfl
        try simp only [Act.put, List.setIfInBounds_toArray, List.set_cons_zero, List.set_cons_succ]
        refine wpAnyH_take (i := 1) (oi := { dst := some 85, op := Op.nilCheck (Operand.tmp 84), type := 0, pos := "law.go:165", after := #[{ on := 0, ground := Ground.data }], guard := none }) (v := ?_) rfl (by kernel_rfl) (by kernel_rfl) (by kernel_rfl) (fun _ _ _ h => h) (Or.inl ⟨by rfl, ?_⟩) (by assumption) ?_
        rotate_left
        · intro w hSw; (try dsimp only at hSw); go_simp <;> with_reducible rfl
        try simp only [Act.put, List.setIfInBounds_toArray, List.set_cons_zero, List.set_cons_succ]
        refine wpAnyH_take (i := 2) (oi := { dst := some 86, op := Op.fieldAddr 32 (Operand.tmp 85) 2, type := 0, pos := "law.go:165", after := #[{ on := 1, ground := Ground.data }], guard := none }) (v := ?_) rfl (by kernel_rfl) (by kernel_rfl) (by kernel_rfl) (fun _ _ _ h => h) (Or.inl ⟨by rfl, ?_⟩) (by assumption) ?_
        rotate_left
        · intro w hSw; (try dsimp only at hSw); go_simp <;> with_reducible rfl
        try simp only [Act.put, List.setIfInBounds_toArray, List.set_cons_zero, List.set_cons_succ]
        refine wpAnyH_take (i := 3) (oi := { dst := some 87, op := Op.load 29 (Operand.tmp 86), type := 29, pos := "law.go:165", after := #[{ on := 2, ground := Ground.data }], guard := none }) (v := ?_) rfl (by kernel_rfl) (by kernel_rfl) (by kernel_rfl) (fun _ _ _ h => h) (Or.inl ⟨by rfl, ?_⟩) (by assumption) ?_
        rotate_left
        · intro w hSw; (try dsimp only at hSw); go_simp <;> with_reducible rfl
        try simp only [Act.put, List.setIfInBounds_toArray, List.set_cons_zero, List.set_cons_succ]
        refine wpAnyH_take (i := 4) (oi := { dst := some 88, op := Op.move (Operand.tmp 1), type := 9, pos := "law.go:165", after := #[], guard := none }) (v := ?_) rfl (by kernel_rfl) (by kernel_rfl) (by kernel_rfl) (fun _ _ _ h => h) (Or.inl ⟨by rfl, ?_⟩) (by assumption) ?_
        rotate_left
        · intro w hSw; (try dsimp only at hSw); go_simp <;> with_reducible rfl
        try simp only [Act.put, List.setIfInBounds_toArray, List.set_cons_zero, List.set_cons_succ]
        refine wpAnyH_take (i := 5) (oi := { dst := some 89, op := Op.move (Operand.tmp 1), type := 9, pos := "law.go:165", after := #[], guard := none }) (v := ?_) rfl (by kernel_rfl) (by kernel_rfl) (by kernel_rfl) (fun _ _ _ h => h) (Or.inl ⟨by rfl, ?_⟩) (by assumption) ?_
        rotate_left
        · intro w hSw; (try dsimp only at hSw); go_simp <;> with_reducible rfl
        try simp only [Act.put, List.setIfInBounds_toArray, List.set_cons_zero, List.set_cons_succ]
        refine wpAnyH_take (i := 6) (oi := { dst := some 90, op := Op.call { callee := Callee.builtin Builtin.len, args := #[Operand.tmp 89], argTypes := #[9] }, type := 3, pos := "law.go:165", after := #[{ on := 5, ground := Ground.data }], guard := none }) (v := ?_) rfl (by kernel_rfl) (by kernel_rfl) (by kernel_rfl) (fun _ _ _ h => h) (Or.inl ⟨by rfl, ?_⟩) (by assumption) ?_
        rotate_left
        · intro w hSw; (try dsimp only at hSw); go_simp <;> with_reducible rfl
        try simp only [Act.put, List.setIfInBounds_toArray, List.set_cons_zero, List.set_cons_succ]
        refine wpAnyH_take (i := 7) (oi := { dst := some 91, op := Op.move (Operand.tmp 0), type := 3, pos := "law.go:165", after := #[], guard := none }) (v := ?_) rfl (by kernel_rfl) (by kernel_rfl) (by kernel_rfl) (fun _ _ _ h => h) (Or.inl ⟨by rfl, ?_⟩) (by assumption) ?_
        rotate_left
        · intro w hSw; (try dsimp only at hSw); go_simp <;> with_reducible rfl
        try simp only [Act.put, List.setIfInBounds_toArray, List.set_cons_zero, List.set_cons_succ]
        refine wpAnyH_ready (rs := [8]) (by kernel_rfl) (by simp) ?_
        refine AllReadyH.cons (o := { dst := some 92, op := Op.call { callee := Callee.value (Operand.func 15), args := #[Operand.tmp 91], argTypes := #[3] }, type := 3, pos := "law.go:165", after := #[{ on := 7, ground := Ground.data }], guard := none }) rfl (fun K hK => ?_) ?_
        · go_simp
          go_at_call 15
          refine (HSZ.out _).mono ?_
          rintro e w1 ⟨rfl, rfl⟩
          refine hK.out _ _ (hs7) (fun hHeld => ?_)
          clear hK K
          try simp only [Act.put, List.setIfInBounds_toArray, List.set_cons_zero, List.set_cons_succ]
          refine wpAnyH_take (i := 9) (oi := { dst := some 93, op := Op.call { callee := Callee.builtin Builtin.min, args := #[Operand.tmp 90, Operand.tmp 92], argTypes := #[3, 3] }, type := 3, pos := "law.go:165", after := #[{ on := 6, ground := Ground.data }, { on := 8, ground := Ground.data }], guard := none }) (v := ?_) rfl (by kernel_rfl) (by kernel_rfl) (by kernel_rfl) (fun _ _ _ h => h) (Or.inl ⟨by rfl, ?_⟩) (by assumption) ?_
          rotate_left
          · intro w hSw; (try dsimp only at hSw); go_simp <;> with_reducible rfl
          try simp only [Act.put, List.setIfInBounds_toArray, List.set_cons_zero, List.set_cons_succ]
          refine wpAnyH_take (i := 10) (oi := { dst := some 94, op := Op.slice 9 (Operand.tmp 88) none (some (Operand.tmp 93)) none, type := 9, pos := "law.go:165", after := #[{ on := 4, ground := Ground.data }, { on := 9, ground := Ground.data }], guard := none }) (v := ?_) rfl (by kernel_rfl) (by kernel_rfl) (by kernel_rfl) (fun _ _ _ h => h) (Or.inl ⟨by rfl, ?_⟩) (by assumption) ?_
          rotate_left
          · intro w hSw; (try dsimp only at hSw); go_simp <;> with_reducible rfl
          try simp only [Act.put, List.setIfInBounds_toArray, List.set_cons_zero, List.set_cons_succ]
          refine wpAnyH_ready (rs := [11]) (by kernel_rfl) (by simp) ?_
          refine AllReadyH.cons (o := { dst := some 95, op := Op.call { callee := Callee.value (Operand.func 16), args := #[Operand.tmp 87, Operand.const (Value.int IntKind.i64 0), Operand.tmp 94], argTypes := #[29, 3, 9] }, type := 33, pos := "law.go:165", after := #[{ on := 3, ground := Ground.data }, { on := 10, ground := Ground.data }, { on := 8, ground := Ground.chain }], guard := none }) rfl (fun K hK => ?_) ?_
          · go_simp
            go_at_call 16
            refine (HWR.out _ h7).mono ?_
            rintro e V8 ⟨rfl, hv8⟩
            refine hK.out _ _ ((HCE.out _ hv8.1)) (fun hHeld => ?_)
            clear hK K
            try simp only [Act.put, List.setIfInBounds_toArray, List.set_cons_zero, List.set_cons_succ]
            refine wpAnyH_done (by kernel_rfl) ?_ _
            refine NoPanic.normal ?_
            clear h7 hs7 hHeld HWR
            go_wp2_with fail
            refine (HOPEN.out _ _ TS.zero false hv8 (HBA.out.more (by omega))).mono ?_
            rintro e V9 ⟨rfl, s2, o2, hw9, hb9, hg9, hoff⟩
            have HW9 := Lib.hid hw9
            have HG9 := Lib.hid hg9
            have HB9 := Lib.hid hb9
            have HCE9 := Lib.hid (fun (V : World) (u : Turns (fun _ => False) V9 V) => hw9.cells u)
            have HNEXT : Hid (∀ V, Turns (fun _ => False) V9 V → Below W.heap.size W V) := Lib.hid (fun V u => (hw9.quiet u).duo.below)
            have u0 : Turns (fun _ => False) V9 V9.drew := Turns.drew V9
            have HRV := Lib.hid (fun (ho : s2.off = false) => read_vis ho hw9.duo.vlen)
            have HOFF := Lib.hid hoff
            clear hw9 hg9 hb9 hoff hv8
            rcases o2 with _ | ⟨j1, k1, t, b⟩
            · have v1 : V9.drew.cell? ⟨w, 1, none⟩ = some (.pointer none) := (HCE9.out _ u0).2.1
              go_wp2_with fail
              refine wp_region_noPanic ?_
              refine wp_region_held_drew (S := fun V => V.cell? ⟨w, 1, none⟩ = some (.pointer none)) (by kernel_rfl) v1 (fun hHeld => ?_)
              refine wpAnyH_take (i := 0) (oi := { dst := some 98, op := Op.move (Operand.tmp 11), type := 4, pos := "law.go:168", after := #[], guard := none }) (v := ?_) rfl (by kernel_rfl) (by kernel_rfl) (by kernel_rfl) (fun _ _ _ h => h) (Or.inl ⟨by rfl, ?_⟩) (by assumption) ?_
              rotate_left
              · intro w hSw; (try dsimp only at hSw); go_simp <;> with_reducible rfl
              try simp only [Act.put, List.setIfInBounds_toArray, List.set_cons_zero, List.set_cons_succ]
              refine wpAnyH_take (i := 1) (oi := { dst := some 99, op := Op.move (Operand.tmp 98), type := 4, pos := "law.go:168", after := #[{ on := 0, ground := Ground.data }], guard := none }) (v := ?_) rfl (by kernel_rfl) (by kernel_rfl) (by kernel_rfl) (fun _ _ _ h => h) (Or.inl ⟨by rfl, ?_⟩) (by assumption) ?_
              rotate_left
              · intro w hSw; (try dsimp only at hSw); go_simp <;> with_reducible rfl
              try simp only [Act.put, List.setIfInBounds_toArray, List.set_cons_zero, List.set_cons_succ]
              refine wpAnyH_take (i := 2) (oi := { dst := some 100, op := Op.move (Operand.tmp 14), type := 4, pos := "law.go:168", after := #[{ on := 1, ground := Ground.guard }], guard := some (1, true) }) (v := ?_) rfl (by kernel_rfl) (by kernel_rfl) (by kernel_rfl) (fun _ _ _ h => h) (Or.inl ⟨by rfl, ?_⟩) (by assumption) ?_
              rotate_left
              · intro w hSw; (try dsimp only at hSw); go_simp <;> with_reducible rfl
              try simp only [Act.put, List.setIfInBounds_toArray, List.set_cons_zero, List.set_cons_succ]
              refine wpAnyH_take (i := 3) (oi := { dst := some 101, op := Op.pick (Operand.tmp 99) (Operand.tmp 100) (Operand.const (Value.bool false)), type := 4, pos := "law.go:168", after := #[{ on := 1, ground := Ground.data }, { on := 2, ground := Ground.data }], guard := none }) (v := ?_) rfl (by kernel_rfl) (by kernel_rfl) (by kernel_rfl) (fun _ _ _ h => h) (Or.inl ⟨by rfl, ?_⟩) (by assumption) ?_
              rotate_left
              · intro w hSw; (try dsimp only at hSw); go_simp <;> with_reducible rfl
              try simp only [Act.put, List.setIfInBounds_toArray, List.set_cons_zero, List.set_cons_succ]
              refine wpAnyH_take (i := 4) (oi := { dst := some 102, op := Op.move (Operand.tmp 101), type := 4, pos := "law.go:168", after := #[{ on := 3, ground := Ground.data }, { on := 1, ground := Ground.chain }], guard := none }) (v := ?_) rfl (by kernel_rfl) (by kernel_rfl) (by kernel_rfl) (fun _ _ _ h => h) (Or.inl ⟨by rfl, ?_⟩) (by assumption) ?_
              rotate_left
              · intro w hSw; (try dsimp only at hSw); go_simp <;> with_reducible rfl
              try simp only [Act.put, List.setIfInBounds_toArray, List.set_cons_zero, List.set_cons_succ]
              refine wpAnyH_take (i := 5) (oi := { dst := some 103, op := Op.move (Operand.tmp 12), type := 24, pos := "law.go:168", after := #[{ on := 4, ground := Ground.guard }], guard := some (4, true) }) (v := ?_) rfl (by kernel_rfl) (by kernel_rfl) (by kernel_rfl) (fun _ _ _ h => h) (Or.inl ⟨by rfl, ?_⟩) (by assumption) ?_
              rotate_left
              · intro w hSw; (try dsimp only at hSw); go_simp <;> with_reducible rfl
              try simp only [Act.put, List.setIfInBounds_toArray, List.set_cons_zero, List.set_cons_succ]
              refine wpAnyH_take (i := 6) (oi := { dst := some 104, op := Op.nilCheck (Operand.tmp 103), type := 0, pos := "law.go:168", after := #[{ on := 5, ground := Ground.data }, { on := 4, ground := Ground.guard }], guard := some (4, true) }) (v := ?_) rfl (by kernel_rfl) (by kernel_rfl) (by kernel_rfl) (fun _ _ _ h => h) (Or.inl ⟨by rfl, ?_⟩) (by assumption) ?_
              rotate_left
              · intro w hSw; (try dsimp only at hSw); go_simp <;> with_reducible rfl
              try simp only [Act.put, List.setIfInBounds_toArray, List.set_cons_zero, List.set_cons_succ]
              refine wpAnyH_take (i := 7) (oi := { dst := some 105, op := Op.fieldAddr 32 (Operand.tmp 104) 1, type := 0, pos := "law.go:168", after := #[{ on := 6, ground := Ground.data }, { on := 4, ground := Ground.guard }], guard := some (4, true) }) (v := ?_) rfl (by kernel_rfl) (by kernel_rfl) (by kernel_rfl) (fun _ _ _ h => h) (Or.inl ⟨by rfl, ?_⟩) (by assumption) ?_
              rotate_left
              · intro w hSw; (try dsimp only at hSw); go_simp <;> with_reducible rfl
              try simp only [Act.put, List.setIfInBounds_toArray, List.set_cons_zero, List.set_cons_succ]
              refine wpAnyH_take (i := 8) (oi := { dst := some 106, op := Op.load 28 (Operand.tmp 105), type := 28, pos := "law.go:168", after := #[{ on := 7, ground := Ground.data }, { on := 4, ground := Ground.guard }], guard := some (4, true) }) (v := ?_) rfl (by kernel_rfl) (by kernel_rfl) (by kernel_rfl) (fun _ _ _ h => h) (Or.inl ⟨by rfl, ?_⟩) (by assumption) ?_
              rotate_left
              · intro w hSw; (try dsimp only at hSw); go_simp <;> with_reducible rfl
              try simp only [Act.put, List.setIfInBounds_toArray, List.set_cons_zero, List.set_cons_succ]
              refine wpAnyH_take (i := 9) (oi := { dst := some 107, op := Op.binOp BinOp.eql 28 (Operand.tmp 106) (Operand.const (Value.pointer none)) 28, type := 4, pos := "law.go:168", after := #[{ on := 8, ground := Ground.data }, { on := 4, ground := Ground.guard }], guard := some (4, true) }) (v := ?_) rfl (by kernel_rfl) (by kernel_rfl) (by kernel_rfl) (fun _ _ _ h => h) (Or.inl ⟨by rfl, ?_⟩) (by assumption) ?_
              rotate_left
              · intro w hSw; (try dsimp only at hSw); go_simp <;> with_reducible rfl
              try simp only [Act.put, List.setIfInBounds_toArray, List.set_cons_zero, List.set_cons_succ]
              refine wpAnyH_take (i := 10) (oi := { dst := some 108, op := Op.move (Operand.tmp 107), type := 4, pos := "law.go:168", after := #[{ on := 9, ground := Ground.data }, { on := 4, ground := Ground.chain }, { on := 4, ground := Ground.guard }], guard := some (4, true) }) (v := ?_) rfl (by kernel_rfl) (by kernel_rfl) (by kernel_rfl) (fun _ _ _ h => h) (Or.inl ⟨by rfl, ?_⟩) (by assumption) ?_
              rotate_left
              · intro w hSw; (try dsimp only at hSw); go_simp <;> with_reducible rfl
              try simp only [Act.put, List.setIfInBounds_toArray, List.set_cons_zero, List.set_cons_succ]
              refine wpAnyH_take (i := 11) (oi := { dst := some 109, op := Op.move (Operand.tmp 12), type := 24, pos := "law.go:168", after := #[{ on := 10, ground := Ground.guard }], guard := some (10, false) }) (v := undef) rfl (by kernel_rfl) (by kernel_rfl) (by kernel_rfl) (fun _ _ _ h => h) (Or.inr ⟨by rfl, rfl⟩) (by assumption) ?_
              try simp only [Act.put, List.setIfInBounds_toArray, List.set_cons_zero, List.set_cons_succ]
              refine wpAnyH_take (i := 12) (oi := { dst := some 110, op := Op.nilCheck (Operand.tmp 109), type := 0, pos := "law.go:168", after := #[{ on := 11, ground := Ground.data }, { on := 10, ground := Ground.guard }], guard := some (10, false) }) (v := undef) rfl (by kernel_rfl) (by kernel_rfl) (by kernel_rfl) (fun _ _ _ h => h) (Or.inr ⟨by rfl, rfl⟩) (by assumption) ?_
              try simp only [Act.put, List.setIfInBounds_toArray, List.set_cons_zero, List.set_cons_succ]
              refine wpAnyH_take (i := 13) (oi := { dst := some 111, op := Op.fieldAddr 32 (Operand.tmp 110) 1, type := 0, pos := "law.go:168", after := #[{ on := 12, ground := Ground.data }, { on := 10, ground := Ground.guard }], guard := some (10, false) }) (v := undef) rfl (by kernel_rfl) (by kernel_rfl) (by kernel_rfl) (fun _ _ _ h => h) (Or.inr ⟨by rfl, rfl⟩) (by assumption) ?_
              try simp only [Act.put, List.setIfInBounds_toArray, List.set_cons_zero, List.set_cons_succ]
              refine wpAnyH_take (i := 14) (oi := { dst := some 112, op := Op.load 28 (Operand.tmp 111), type := 28, pos := "law.go:168", after := #[{ on := 13, ground := Ground.data }, { on := 10, ground := Ground.guard }], guard := some (10, false) }) (v := undef) rfl (by kernel_rfl) (by kernel_rfl) (by kernel_rfl) (fun _ _ _ h => h) (Or.inr ⟨by rfl, rfl⟩) (by assumption) ?_
              try simp only [Act.put, List.setIfInBounds_toArray, List.set_cons_zero, List.set_cons_succ]
              refine wpAnyH_take (i := 15) (oi := { dst := some 113, op := Op.call { callee := Callee.value (Operand.func 19), args := #[Operand.tmp 112], argTypes := #[28] }, type := 22, pos := "law.go:168", after := #[{ on := 14, ground := Ground.data }, { on := 10, ground := Ground.chain }, { on := 10, ground := Ground.guard }], guard := some (10, false) }) (v := undef) rfl (by kernel_rfl) (by kernel_rfl) (by kernel_rfl) (fun _ _ _ h => h) (Or.inr ⟨by rfl, rfl⟩) (by assumption) ?_
              try simp only [Act.put, List.setIfInBounds_toArray, List.set_cons_zero, List.set_cons_succ]
              refine wpAnyH_take (i := 16) (oi := { dst := some 114, op := Op.move (Operand.tmp 12), type := 24, pos := "law.go:168", after := #[{ on := 10, ground := Ground.guard }], guard := some (10, false) }) (v := undef) rfl (by kernel_rfl) (by kernel_rfl) (by kernel_rfl) (fun _ _ _ h => h) (Or.inr ⟨by rfl, rfl⟩) (by assumption) ?_
              try simp only [Act.put, List.setIfInBounds_toArray, List.set_cons_zero, List.set_cons_succ]
              refine wpAnyH_take (i := 17) (oi := { dst := some 115, op := Op.nilCheck (Operand.tmp 114), type := 0, pos := "law.go:168", after := #[{ on := 16, ground := Ground.data }, { on := 10, ground := Ground.guard }], guard := some (10, false) }) (v := undef) rfl (by kernel_rfl) (by kernel_rfl) (by kernel_rfl) (fun _ _ _ h => h) (Or.inr ⟨by rfl, rfl⟩) (by assumption) ?_
              try simp only [Act.put, List.setIfInBounds_toArray, List.set_cons_zero, List.set_cons_succ]
              refine wpAnyH_take (i := 18) (oi := { dst := some 116, op := Op.fieldAddr 32 (Operand.tmp 115) 3, type := 0, pos := "law.go:168", after := #[{ on := 17, ground := Ground.data }, { on := 10, ground := Ground.guard }], guard := some (10, false) }) (v := undef) rfl (by kernel_rfl) (by kernel_rfl) (by kernel_rfl) (fun _ _ _ h => h) (Or.inr ⟨by rfl, rfl⟩) (by assumption) ?_
              try simp only [Act.put, List.setIfInBounds_toArray, List.set_cons_zero, List.set_cons_succ]
              refine wpAnyH_take (i := 19) (oi := { dst := some 117, op := Op.load 30 (Operand.tmp 116), type := 30, pos := "law.go:168", after := #[{ on := 18, ground := Ground.data }, { on := 10, ground := Ground.guard }], guard := some (10, false) }) (v := undef) rfl (by kernel_rfl) (by kernel_rfl) (by kernel_rfl) (fun _ _ _ h => h) (Or.inr ⟨by rfl, rfl⟩) (by assumption) ?_
              try simp only [Act.put, List.setIfInBounds_toArray, List.set_cons_zero, List.set_cons_succ]
              refine wpAnyH_take (i := 20) (oi := { dst := some 118, op := Op.nilCheck (Operand.tmp 117), type := 0, pos := "law.go:168", after := #[{ on := 19, ground := Ground.data }, { on := 10, ground := Ground.guard }], guard := some (10, false) }) (v := undef) rfl (by kernel_rfl) (by kernel_rfl) (by kernel_rfl) (fun _ _ _ h => h) (Or.inr ⟨by rfl, rfl⟩) (by assumption) ?_
              try simp only [Act.put, List.setIfInBounds_toArray, List.set_cons_zero, List.set_cons_succ]
              refine wpAnyH_take (i := 21) (oi := { dst := some 119, op := Op.fieldAddr 43 (Operand.tmp 118) 1, type := 0, pos := "law.go:168", after := #[{ on := 20, ground := Ground.data }, { on := 10, ground := Ground.guard }], guard := some (10, false) }) (v := undef) rfl (by kernel_rfl) (by kernel_rfl) (by kernel_rfl) (fun _ _ _ h => h) (Or.inr ⟨by rfl, rfl⟩) (by assumption) ?_
              try simp only [Act.put, List.setIfInBounds_toArray, List.set_cons_zero, List.set_cons_succ]
              refine wpAnyH_take (i := 22) (oi := { dst := some 120, op := Op.load 22 (Operand.tmp 119), type := 22, pos := "law.go:168", after := #[{ on := 21, ground := Ground.data }, { on := 10, ground := Ground.guard }], guard := some (10, false) }) (v := undef) rfl (by kernel_rfl) (by kernel_rfl) (by kernel_rfl) (fun _ _ _ h => h) (Or.inr ⟨by rfl, rfl⟩) (by assumption) ?_
              try simp only [Act.put, List.setIfInBounds_toArray, List.set_cons_zero, List.set_cons_succ]
              refine wpAnyH_take (i := 23) (oi := { dst := some 121, op := Op.call { callee := Callee.value (Operand.func 18), args := #[Operand.tmp 113, Operand.tmp 120], argTypes := #[22, 22] }, type := 4, pos := "law.go:168", after := #[{ on := 15, ground := Ground.data }, { on := 22, ground := Ground.data }, { on := 15, ground := Ground.chain }, { on := 10, ground := Ground.guard }], guard := some (10, false) }) (v := undef) rfl (by kernel_rfl) (by kernel_rfl) (by kernel_rfl) (fun _ _ _ h => h) (Or.inr ⟨by rfl, rfl⟩) (by assumption) ?_
              try simp only [Act.put, List.setIfInBounds_toArray, List.set_cons_zero, List.set_cons_succ]
              refine wpAnyH_take (i := 24) (oi := { dst := some 122, op := Op.move (Operand.tmp 121), type := 4, pos := "law.go:168", after := #[{ on := 23, ground := Ground.data }, { on := 23, ground := Ground.chain }, { on := 10, ground := Ground.guard }], guard := some (10, false) }) (v := undef) rfl (by kernel_rfl) (by kernel_rfl) (by kernel_rfl) (fun _ _ _ h => h) (Or.inr ⟨by rfl, rfl⟩) (by assumption) ?_
              try simp only [Act.put, List.setIfInBounds_toArray, List.set_cons_zero, List.set_cons_succ]
              refine wpAnyH_take (i := 25) (oi := { dst := some 123, op := Op.move (Operand.tmp 12), type := 24, pos := "law.go:168", after := #[{ on := 24, ground := Ground.guard }], guard := some (24, true) }) (v := undef) rfl (by kernel_rfl) (by kernel_rfl) (by kernel_rfl) (fun _ _ _ h => h) (Or.inr ⟨by rfl, rfl⟩) (by assumption) ?_
              try simp only [Act.put, List.setIfInBounds_toArray, List.set_cons_zero, List.set_cons_succ]
              refine wpAnyH_take (i := 26) (oi := { dst := some 124, op := Op.nilCheck (Operand.tmp 123), type := 0, pos := "law.go:168", after := #[{ on := 25, ground := Ground.data }, { on := 24, ground := Ground.guard }], guard := some (24, true) }) (v := undef) rfl (by kernel_rfl) (by kernel_rfl) (by kernel_rfl) (fun _ _ _ h => h) (Or.inr ⟨by rfl, rfl⟩) (by assumption) ?_
              try simp only [Act.put, List.setIfInBounds_toArray, List.set_cons_zero, List.set_cons_succ]
              refine wpAnyH_take (i := 27) (oi := { dst := some 125, op := Op.fieldAddr 32 (Operand.tmp 124) 1, type := 0, pos := "law.go:168", after := #[{ on := 26, ground := Ground.data }, { on := 24, ground := Ground.guard }], guard := some (24, true) }) (v := undef) rfl (by kernel_rfl) (by kernel_rfl) (by kernel_rfl) (fun _ _ _ h => h) (Or.inr ⟨by rfl, rfl⟩) (by assumption) ?_
              try simp only [Act.put, List.setIfInBounds_toArray, List.set_cons_zero, List.set_cons_succ]
              refine wpAnyH_take (i := 28) (oi := { dst := some 126, op := Op.load 28 (Operand.tmp 125), type := 28, pos := "law.go:168", after := #[{ on := 27, ground := Ground.data }, { on := 24, ground := Ground.guard }], guard := some (24, true) }) (v := undef) rfl (by kernel_rfl) (by kernel_rfl) (by kernel_rfl) (fun _ _ _ h => h) (Or.inr ⟨by rfl, rfl⟩) (by assumption) ?_
              try simp only [Act.put, List.setIfInBounds_toArray, List.set_cons_zero, List.set_cons_succ]
              refine wpAnyH_take (i := 29) (oi := { dst := some 127, op := Op.call { callee := Callee.value (Operand.func 20), args := #[Operand.tmp 126], argTypes := #[28] }, type := 3, pos := "law.go:168", after := #[{ on := 28, ground := Ground.data }, { on := 24, ground := Ground.chain }, { on := 24, ground := Ground.guard }], guard := some (24, true) }) (v := undef) rfl (by kernel_rfl) (by kernel_rfl) (by kernel_rfl) (fun _ _ _ h => h) (Or.inr ⟨by rfl, rfl⟩) (by assumption) ?_
              try simp only [Act.put, List.setIfInBounds_toArray, List.set_cons_zero, List.set_cons_succ]
              refine wpAnyH_take (i := 30) (oi := { dst := some 128, op := Op.move (Operand.tmp 12), type := 24, pos := "law.go:168", after := #[{ on := 24, ground := Ground.guard }], guard := some (24, true) }) (v := undef) rfl (by kernel_rfl) (by kernel_rfl) (by kernel_rfl) (fun _ _ _ h => h) (Or.inr ⟨by rfl, rfl⟩) (by assumption) ?_
              try simp only [Act.put, List.setIfInBounds_toArray, List.set_cons_zero, List.set_cons_succ]
              refine wpAnyH_take (i := 31) (oi := { dst := some 129, op := Op.nilCheck (Operand.tmp 128), type := 0, pos := "law.go:168", after := #[{ on := 30, ground := Ground.data }, { on := 24, ground := Ground.guard }], guard := some (24, true) }) (v := undef) rfl (by kernel_rfl) (by kernel_rfl) (by kernel_rfl) (fun _ _ _ h => h) (Or.inr ⟨by rfl, rfl⟩) (by assumption) ?_
              try simp only [Act.put, List.setIfInBounds_toArray, List.set_cons_zero, List.set_cons_succ]
              refine wpAnyH_take (i := 32) (oi := { dst := some 130, op := Op.fieldAddr 32 (Operand.tmp 129) 3, type := 0, pos := "law.go:168", after := #[{ on := 31, ground := Ground.data }, { on := 24, ground := Ground.guard }], guard := some (24, true) }) (v := undef) rfl (by kernel_rfl) (by kernel_rfl) (by kernel_rfl) (fun _ _ _ h => h) (Or.inr ⟨by rfl, rfl⟩) (by assumption) ?_
              try simp only [Act.put, List.setIfInBounds_toArray, List.set_cons_zero, List.set_cons_succ]
              refine wpAnyH_take (i := 33) (oi := { dst := some 131, op := Op.load 30 (Operand.tmp 130), type := 30, pos := "law.go:168", after := #[{ on := 32, ground := Ground.data }, { on := 24, ground := Ground.guard }], guard := some (24, true) }) (v := undef) rfl (by kernel_rfl) (by kernel_rfl) (by kernel_rfl) (fun _ _ _ h => h) (Or.inr ⟨by rfl, rfl⟩) (by assumption) ?_
              try simp only [Act.put, List.setIfInBounds_toArray, List.set_cons_zero, List.set_cons_succ]
              refine wpAnyH_take (i := 34) (oi := { dst := some 132, op := Op.call { callee := Callee.value (Operand.func 21), args := #[Operand.tmp 131], argTypes := #[30] }, type := 3, pos := "law.go:168", after := #[{ on := 33, ground := Ground.data }, { on := 29, ground := Ground.chain }, { on := 24, ground := Ground.guard }], guard := some (24, true) }) (v := undef) rfl (by kernel_rfl) (by kernel_rfl) (by kernel_rfl) (fun _ _ _ h => h) (Or.inr ⟨by rfl, rfl⟩) (by assumption) ?_
              try simp only [Act.put, List.setIfInBounds_toArray, List.set_cons_zero, List.set_cons_succ]
              refine wpAnyH_take (i := 35) (oi := { dst := some 133, op := Op.binOp BinOp.eql 3 (Operand.tmp 127) (Operand.tmp 132) 3, type := 4, pos := "law.go:168", after := #[{ on := 29, ground := Ground.data }, { on := 34, ground := Ground.data }, { on := 24, ground := Ground.guard }], guard := some (24, true) }) (v := undef) rfl (by kernel_rfl) (by kernel_rfl) (by kernel_rfl) (fun _ _ _ h => h) (Or.inr ⟨by rfl, rfl⟩) (by assumption) ?_
              try simp only [Act.put, List.setIfInBounds_toArray, List.set_cons_zero, List.set_cons_succ]
              refine wpAnyH_take (i := 36) (oi := { dst := some 134, op := Op.pick (Operand.tmp 122) (Operand.tmp 133) (Operand.const (Value.bool false)), type := 4, pos := "law.go:168", after := #[{ on := 24, ground := Ground.data }, { on := 35, ground := Ground.data }, { on := 10, ground := Ground.guard }], guard := some (10, false) }) (v := undef) rfl (by kernel_rfl) (by kernel_rfl) (by kernel_rfl) (fun _ _ _ h => h) (Or.inr ⟨by rfl, rfl⟩) (by assumption) ?_
              try simp only [Act.put, List.setIfInBounds_toArray, List.set_cons_zero, List.set_cons_succ]
              refine wpAnyH_take (i := 37) (oi := { dst := some 135, op := Op.move (Operand.tmp 134), type := 4, pos := "law.go:168", after := #[{ on := 36, ground := Ground.data }, { on := 34, ground := Ground.chain }, { on := 10, ground := Ground.guard }], guard := some (10, false) }) (v := undef) rfl (by kernel_rfl) (by kernel_rfl) (by kernel_rfl) (fun _ _ _ h => h) (Or.inr ⟨by rfl, rfl⟩) (by assumption) ?_
              try simp only [Act.put, List.setIfInBounds_toArray, List.set_cons_zero, List.set_cons_succ]
              refine wpAnyH_take (i := 38) (oi := { dst := some 136, op := Op.move (Operand.tmp 12), type := 24, pos := "law.go:168", after := #[{ on := 37, ground := Ground.guard }], guard := some (37, true) }) (v := undef) rfl (by kernel_rfl) (by kernel_rfl) (by kernel_rfl) (fun _ _ _ h => h) (Or.inr ⟨by rfl, rfl⟩) (by assumption) ?_
              try simp only [Act.put, List.setIfInBounds_toArray, List.set_cons_zero, List.set_cons_succ]
              refine wpAnyH_take (i := 39) (oi := { dst := some 137, op := Op.nilCheck (Operand.tmp 136), type := 0, pos := "law.go:168", after := #[{ on := 38, ground := Ground.data }, { on := 37, ground := Ground.guard }], guard := some (37, true) }) (v := undef) rfl (by kernel_rfl) (by kernel_rfl) (by kernel_rfl) (fun _ _ _ h => h) (Or.inr ⟨by rfl, rfl⟩) (by assumption) ?_
              try simp only [Act.put, List.setIfInBounds_toArray, List.set_cons_zero, List.set_cons_succ]
              refine wpAnyH_take (i := 40) (oi := { dst := some 138, op := Op.fieldAddr 32 (Operand.tmp 137) 0, type := 0, pos := "law.go:168", after := #[{ on := 39, ground := Ground.data }, { on := 37, ground := Ground.guard }], guard := some (37, true) }) (v := undef) rfl (by kernel_rfl) (by kernel_rfl) (by kernel_rfl) (fun _ _ _ h => h) (Or.inr ⟨by rfl, rfl⟩) (by assumption) ?_
              try simp only [Act.put, List.setIfInBounds_toArray, List.set_cons_zero, List.set_cons_succ]
              refine wpAnyH_take (i := 41) (oi := { dst := some 139, op := Op.load 27 (Operand.tmp 138), type := 27, pos := "law.go:168", after := #[{ on := 40, ground := Ground.data }, { on := 37, ground := Ground.guard }], guard := some (37, true) }) (v := undef) rfl (by kernel_rfl) (by kernel_rfl) (by kernel_rfl) (fun _ _ _ h => h) (Or.inr ⟨by rfl, rfl⟩) (by assumption) ?_
              try simp only [Act.put, List.setIfInBounds_toArray, List.set_cons_zero, List.set_cons_succ]
              refine wpAnyH_take (i := 42) (oi := { dst := some 140, op := Op.call { callee := Callee.value (Operand.func 22), args := #[Operand.tmp 139], argTypes := #[27] }, type := 9, pos := "law.go:168", after := #[{ on := 41, ground := Ground.data }, { on := 37, ground := Ground.chain }, { on := 37, ground := Ground.guard }], guard := some (37, true) }) (v := undef) rfl (by kernel_rfl) (by kernel_rfl) (by kernel_rfl) (fun _ _ _ h => h) (Or.inr ⟨by rfl, rfl⟩) (by assumption) ?_
              try simp only [Act.put, List.setIfInBounds_toArray, List.set_cons_zero, List.set_cons_succ]
              refine wpAnyH_take (i := 43) (oi := { dst := some 141, op := Op.move (Operand.tmp 12), type := 24, pos := "law.go:168", after := #[{ on := 37, ground := Ground.guard }], guard := some (37, true) }) (v := undef) rfl (by kernel_rfl) (by kernel_rfl) (by kernel_rfl) (fun _ _ _ h => h) (Or.inr ⟨by rfl, rfl⟩) (by assumption) ?_
              try simp only [Act.put, List.setIfInBounds_toArray, List.set_cons_zero, List.set_cons_succ]
              refine wpAnyH_take (i := 44) (oi := { dst := some 142, op := Op.nilCheck (Operand.tmp 141), type := 0, pos := "law.go:168", after := #[{ on := 43, ground := Ground.data }, { on := 37, ground := Ground.guard }], guard := some (37, true) }) (v := undef) rfl (by kernel_rfl) (by kernel_rfl) (by kernel_rfl) (fun _ _ _ h => h) (Or.inr ⟨by rfl, rfl⟩) (by assumption) ?_
              try simp only [Act.put, List.setIfInBounds_toArray, List.set_cons_zero, List.set_cons_succ]
              refine wpAnyH_take (i := 45) (oi := { dst := some 143, op := Op.fieldAddr 32 (Operand.tmp 142) 2, type := 0, pos := "law.go:168", after := #[{ on := 44, ground := Ground.data }, { on := 37, ground := Ground.guard }], guard := some (37, true) }) (v := undef) rfl (by kernel_rfl) (by kernel_rfl) (by kernel_rfl) (fun _ _ _ h => h) (Or.inr ⟨by rfl, rfl⟩) (by assumption) ?_
              try simp only [Act.put, List.setIfInBounds_toArray, List.set_cons_zero, List.set_cons_succ]
              refine wpAnyH_take (i := 46) (oi := { dst := some 144, op := Op.load 29 (Operand.tmp 143), type := 29, pos := "law.go:168", after := #[{ on := 45, ground := Ground.data }, { on := 37, ground := Ground.guard }], guard := some (37, true) }) (v := undef) rfl (by kernel_rfl) (by kernel_rfl) (by kernel_rfl) (fun _ _ _ h => h) (Or.inr ⟨by rfl, rfl⟩) (by assumption) ?_
              try simp only [Act.put, List.setIfInBounds_toArray, List.set_cons_zero, List.set_cons_succ]
              refine wpAnyH_take (i := 47) (oi := { dst := some 145, op := Op.call { callee := Callee.value (Operand.func 23), args := #[Operand.tmp 144], argTypes := #[29] }, type := 39, pos := "law.go:168", after := #[{ on := 46, ground := Ground.data }, { on := 42, ground := Ground.chain }, { on := 37, ground := Ground.guard }], guard := some (37, true) }) (v := undef) rfl (by kernel_rfl) (by kernel_rfl) (by kernel_rfl) (fun _ _ _ h => h) (Or.inr ⟨by rfl, rfl⟩) (by assumption) ?_
              try simp only [Act.put, List.setIfInBounds_toArray, List.set_cons_zero, List.set_cons_succ]
              refine wpAnyH_take (i := 48) (oi := { dst := some 146, op := Op.convert 39 9 (Operand.tmp 145), type := 9, pos := "law.go:168", after := #[{ on := 47, ground := Ground.data }, { on := 37, ground := Ground.guard }], guard := some (37, true) }) (v := undef) rfl (by kernel_rfl) (by kernel_rfl) (by kernel_rfl) (fun _ _ _ h => h) (Or.inr ⟨by rfl, rfl⟩) (by assumption) ?_
              try simp only [Act.put, List.setIfInBounds_toArray, List.set_cons_zero, List.set_cons_succ]
              refine wpAnyH_take (i := 49) (oi := { dst := some 147, op := Op.binOp BinOp.eql 9 (Operand.tmp 140) (Operand.tmp 146) 9, type := 4, pos := "law.go:168", after := #[{ on := 42, ground := Ground.data }, { on := 48, ground := Ground.data }, { on := 37, ground := Ground.guard }], guard := some (37, true) }) (v := undef) rfl (by kernel_rfl) (by kernel_rfl) (by kernel_rfl) (fun _ _ _ h => h) (Or.inr ⟨by rfl, rfl⟩) (by assumption) ?_
              try simp only [Act.put, List.setIfInBounds_toArray, List.set_cons_zero, List.set_cons_succ]
              refine wpAnyH_take (i := 50) (oi := { dst := some 148, op := Op.pick (Operand.tmp 135) (Operand.tmp 147) (Operand.const (Value.bool false)), type := 4, pos := "law.go:168", after := #[{ on := 37, ground := Ground.data }, { on := 49, ground := Ground.data }, { on := 10, ground := Ground.guard }], guard := some (10, false) }) (v := undef) rfl (by kernel_rfl) (by kernel_rfl) (by kernel_rfl) (fun _ _ _ h => h) (Or.inr ⟨by rfl, rfl⟩) (by assumption) ?_
              try simp only [Act.put, List.setIfInBounds_toArray, List.set_cons_zero, List.set_cons_succ]
              refine wpAnyH_take (i := 51) (oi := { dst := some 149, op := Op.pick (Operand.tmp 108) (Operand.const (Value.bool true)) (Operand.tmp 148), type := 4, pos := "law.go:168", after := #[{ on := 10, ground := Ground.data }, { on := 50, ground := Ground.data }, { on := 4, ground := Ground.guard }], guard := some (4, true) }) (v := ?_) rfl (by kernel_rfl) (by kernel_rfl) (by kernel_rfl) (fun _ _ _ h => h) (Or.inl ⟨by rfl, ?_⟩) (by assumption) ?_
              rotate_left
              · intro w hSw; (try dsimp only at hSw); go_simp <;> with_reducible rfl
              try simp only [Act.put, List.setIfInBounds_toArray, List.set_cons_zero, List.set_cons_succ]
              refine wpAnyH_take (i := 52) (oi := { dst := some 150, op := Op.pick (Operand.tmp 102) (Operand.tmp 149) (Operand.const (Value.bool false)), type := 4, pos := "law.go:168", after := #[{ on := 4, ground := Ground.data }, { on := 51, ground := Ground.data }], guard := none }) (v := ?_) rfl (by kernel_rfl) (by kernel_rfl) (by kernel_rfl) (fun _ _ _ h => h) (Or.inl ⟨by rfl, ?_⟩) (by assumption) ?_
              rotate_left
              · intro w hSw; (try dsimp only at hSw); go_simp <;> with_reducible rfl
              try simp only [Act.put, List.setIfInBounds_toArray, List.set_cons_zero, List.set_cons_succ]
              refine wpAnyH_take (i := 53) (oi := { dst := some 10, op := Op.assign (Operand.tmp 150), type := 4, pos := "law.go:168", after := #[{ on := 52, ground := Ground.data }, { on := 47, ground := Ground.chain }, { on := 0, ground := Ground.phase }, { on := 1, ground := Ground.phase }, { on := 2, ground := Ground.phase }, { on := 3, ground := Ground.phase }, { on := 4, ground := Ground.phase }, { on := 5, ground := Ground.phase }, { on := 6, ground := Ground.phase }, { on := 7, ground := Ground.phase }, { on := 8, ground := Ground.phase }, { on := 9, ground := Ground.phase }, { on := 10, ground := Ground.phase }, { on := 11, ground := Ground.phase }, { on := 12, ground := Ground.phase }, { on := 13, ground := Ground.phase }, { on := 14, ground := Ground.phase }, { on := 15, ground := Ground.phase }, { on := 16, ground := Ground.phase }, { on := 17, ground := Ground.phase }, { on := 18, ground := Ground.phase }, { on := 19, ground := Ground.phase }, { on := 20, ground := Ground.phase }, { on := 21, ground := Ground.phase }, { on := 22, ground := Ground.phase }, { on := 23, ground := Ground.phase }, { on := 24, ground := Ground.phase }, { on := 25, ground := Ground.phase }, { on := 26, ground := Ground.phase }, { on := 27, ground := Ground.phase }, { on := 28, ground := Ground.phase }, { on := 29, ground := Ground.phase }, { on := 30, ground := Ground.phase }, { on := 31, ground := Ground.phase }, { on := 32, ground := Ground.phase }, { on := 33, ground := Ground.phase }, { on := 34, ground := Ground.phase }, { on := 35, ground := Ground.phase }, { on := 36, ground := Ground.phase }, { on := 37, ground := Ground.phase }, { on := 38, ground := Ground.phase }, { on := 39, ground := Ground.phase }, { on := 40, ground := Ground.phase }, { on := 41, ground := Ground.phase }, { on := 42, ground := Ground.phase }, { on := 43, ground := Ground.phase }, { on := 44, ground := Ground.phase }, { on := 45, ground := Ground.phase }, { on := 46, ground := Ground.phase }, { on := 47, ground := Ground.phase }, { on := 48, ground := Ground.phase }, { on := 49, ground := Ground.phase }, { on := 50, ground := Ground.phase }, { on := 51, ground := Ground.phase }, { on := 52, ground := Ground.phase }], guard := none }) (v := ?_) rfl (by kernel_rfl) (by kernel_rfl) (by kernel_rfl) (fun _ _ _ h => h) (Or.inl ⟨by rfl, ?_⟩) (by assumption) ?_
              rotate_left
              · intro w hSw; (try dsimp only at hSw); go_simp <;> with_reducible rfl
              try simp only [Act.put, List.setIfInBounds_toArray, List.set_cons_zero, List.set_cons_succ]
              refine wpAnyH_done (by kernel_rfl) ?_ _
              refine NoPanic.normal ?_
              clear hHeld v1
              go_wp2_with fail
              go_ret
              exact ⟨rfl, HNEXT.out _ u0⟩
            · have hof : s2.off = false := by rcases HOFF.out with q | q; exact q; cases q
              have hcc := HRV.out hof
              have hgd := HG9.out j1 k1 t b rfl
              have hrl := good_recs hgd
              obtain ⟨A6, c6, hkl⟩ := HW9.out.klist
              have hsz := hgd.fit
              have HRC := Lib.hid (fun (V : World) (u : Turns (fun _ => False) V9 V) => HW9.out.records u (by omega))
              have HSM : Hid (∀ (V : World) (A : Option Addr) (c : Nat), LAt V V.heap.size A .string t.recs → Turns (fun _ => False) V9 V → Calls Tryz.prog 18 #[.slice A t.recs.length c, .slice A6 t.recs.length c6] V fun e V' => e = .returned (.bool true) ∧ Turns (fun _ => False) V V') := Lib.hid (fun V A c hA u => by
                have h1 := same_walk A A6 t.recs t.recs t.recs.length t.recs.length c c6 rfl rfl (by omega) V hA (hkl V u).2
                rw [show decide (t.recs = t.recs) = true by simp] at h1
                exact h1.mono fun e V' q => ⟨q.1, Turns.of_below q.2⟩)
              have HRL := Lib.hid (fun (V : World) (u : Turns (fun _ => False) V9 V) => HW9.out.roomL u hsz)
              have HRR := Lib.hid (fun (V : World) (u : Turns (fun _ => False) V9 V) => HW9.out.roomR u hsz)
              have HCT := Lib.hid (fun (V : World) (u : Turns (fun _ => False) V9 V) => HW9.out.content u)
              have HVS := Lib.hid (fun (V : World) (u : Turns (fun _ => False) V9 V) => HW9.out.visible u hnr.1 (by have := HB9.out.1; omega))
              obtain ⟨C2, hC2⟩ : ∃ C2 : ByteArray, ⟨s2.vis.toArray⟩ = C2 := ⟨_, rfl⟩
              rw [hcc] at HCT
              rw [hC2] at HCT HVS
              have HKC := Lib.hid (fun (V : World) (u : Turns (fun _ => False) V9 V) => (hkl V u).1)
              obtain ⟨ql, hql⟩ : ∃ ql, t.recs.length = ql := ⟨_, rfl⟩
              obtain ⟨rm, hrm⟩ : ∃ rm, n - t.size = rm := ⟨_, rfl⟩
              rw [hql] at HRC HSM HKC
              rw [hrm] at HRL HRR
              have HS1 : Hid (∀ V, Turns (fun _ => False) V9 V → V.cell? ⟨w, 0, none⟩ = some (.pointer (some ⟨d, 0, none⟩)) ∧ V.cell? ⟨w, 1, none⟩ = some (.pointer (some ⟨j1, 0, none⟩)) ∧ V.cell? ⟨w, 2, none⟩ = some (.pointer (some ⟨x, 0, none⟩)) ∧ V.cell? ⟨w, 3, none⟩ = some (.pointer (some ⟨k1, 0, none⟩)) ∧ V.cell? ⟨k1, 1, none⟩ = some (.slice A6 ql c6)) := Lib.hid (fun V u => ⟨(HCE9.out V u).1, (HCE9.out V u).2.1, (HCE9.out V u).2.2.1, (HCE9.out V u).2.2.2, HKC.out V u⟩)
              have hr0 := HS1.out _ u0
              clear hkl hql hrm hgd hrl hsz hof hcc hC2
              go_wp2_with fail
              refine wp_region_noPanic ?_
              refine wp_region_held_drew (S := fun V => V.cell? ⟨w, 0, none⟩ = some (.pointer (some ⟨d, 0, none⟩)) ∧ V.cell? ⟨w, 1, none⟩ = some (.pointer (some ⟨j1, 0, none⟩)) ∧ V.cell? ⟨w, 2, none⟩ = some (.pointer (some ⟨x, 0, none⟩)) ∧ V.cell? ⟨w, 3, none⟩ = some (.pointer (some ⟨k1, 0, none⟩)) ∧ V.cell? ⟨k1, 1, none⟩ = some (.slice A6 ql c6)) (by kernel_rfl) hr0 (fun hHeld => ?_)
              refine wpAnyH_take (i := 0) (oi := { dst := some 98, op := Op.move (Operand.tmp 11), type := 4, pos := "law.go:168", after := #[], guard := none }) (v := ?_) rfl (by kernel_rfl) (by kernel_rfl) (by kernel_rfl) (fun _ _ _ h => h) (Or.inl ⟨by rfl, ?_⟩) (by assumption) ?_
              rotate_left
              · intro w hSw; (try dsimp only at hSw); go_simp <;> with_reducible rfl
              try simp only [Act.put, List.setIfInBounds_toArray, List.set_cons_zero, List.set_cons_succ]
              refine wpAnyH_take (i := 1) (oi := { dst := some 99, op := Op.move (Operand.tmp 98), type := 4, pos := "law.go:168", after := #[{ on := 0, ground := Ground.data }], guard := none }) (v := ?_) rfl (by kernel_rfl) (by kernel_rfl) (by kernel_rfl) (fun _ _ _ h => h) (Or.inl ⟨by rfl, ?_⟩) (by assumption) ?_
              rotate_left
              · intro w hSw; (try dsimp only at hSw); go_simp <;> with_reducible rfl
              try simp only [Act.put, List.setIfInBounds_toArray, List.set_cons_zero, List.set_cons_succ]
              refine wpAnyH_take (i := 2) (oi := { dst := some 100, op := Op.move (Operand.tmp 14), type := 4, pos := "law.go:168", after := #[{ on := 1, ground := Ground.guard }], guard := some (1, true) }) (v := ?_) rfl (by kernel_rfl) (by kernel_rfl) (by kernel_rfl) (fun _ _ _ h => h) (Or.inl ⟨by rfl, ?_⟩) (by assumption) ?_
              rotate_left
              · intro w hSw; (try dsimp only at hSw); go_simp <;> with_reducible rfl
              try simp only [Act.put, List.setIfInBounds_toArray, List.set_cons_zero, List.set_cons_succ]
              refine wpAnyH_take (i := 3) (oi := { dst := some 101, op := Op.pick (Operand.tmp 99) (Operand.tmp 100) (Operand.const (Value.bool false)), type := 4, pos := "law.go:168", after := #[{ on := 1, ground := Ground.data }, { on := 2, ground := Ground.data }], guard := none }) (v := ?_) rfl (by kernel_rfl) (by kernel_rfl) (by kernel_rfl) (fun _ _ _ h => h) (Or.inl ⟨by rfl, ?_⟩) (by assumption) ?_
              rotate_left
              · intro w hSw; (try dsimp only at hSw); go_simp <;> with_reducible rfl
              try simp only [Act.put, List.setIfInBounds_toArray, List.set_cons_zero, List.set_cons_succ]
              refine wpAnyH_take (i := 4) (oi := { dst := some 102, op := Op.move (Operand.tmp 101), type := 4, pos := "law.go:168", after := #[{ on := 3, ground := Ground.data }, { on := 1, ground := Ground.chain }], guard := none }) (v := ?_) rfl (by kernel_rfl) (by kernel_rfl) (by kernel_rfl) (fun _ _ _ h => h) (Or.inl ⟨by rfl, ?_⟩) (by assumption) ?_
              rotate_left
              · intro w hSw; (try dsimp only at hSw); go_simp <;> with_reducible rfl
              try simp only [Act.put, List.setIfInBounds_toArray, List.set_cons_zero, List.set_cons_succ]
              refine wpAnyH_take (i := 5) (oi := { dst := some 103, op := Op.move (Operand.tmp 12), type := 24, pos := "law.go:168", after := #[{ on := 4, ground := Ground.guard }], guard := some (4, true) }) (v := ?_) rfl (by kernel_rfl) (by kernel_rfl) (by kernel_rfl) (fun _ _ _ h => h) (Or.inl ⟨by rfl, ?_⟩) (by assumption) ?_
              rotate_left
              · intro w hSw; (try dsimp only at hSw); go_simp <;> with_reducible rfl
              try simp only [Act.put, List.setIfInBounds_toArray, List.set_cons_zero, List.set_cons_succ]
              refine wpAnyH_take (i := 6) (oi := { dst := some 104, op := Op.nilCheck (Operand.tmp 103), type := 0, pos := "law.go:168", after := #[{ on := 5, ground := Ground.data }, { on := 4, ground := Ground.guard }], guard := some (4, true) }) (v := ?_) rfl (by kernel_rfl) (by kernel_rfl) (by kernel_rfl) (fun _ _ _ h => h) (Or.inl ⟨by rfl, ?_⟩) (by assumption) ?_
              rotate_left
              · intro w hSw; (try dsimp only at hSw); go_simp <;> with_reducible rfl
              try simp only [Act.put, List.setIfInBounds_toArray, List.set_cons_zero, List.set_cons_succ]
              refine wpAnyH_take (i := 7) (oi := { dst := some 105, op := Op.fieldAddr 32 (Operand.tmp 104) 1, type := 0, pos := "law.go:168", after := #[{ on := 6, ground := Ground.data }, { on := 4, ground := Ground.guard }], guard := some (4, true) }) (v := ?_) rfl (by kernel_rfl) (by kernel_rfl) (by kernel_rfl) (fun _ _ _ h => h) (Or.inl ⟨by rfl, ?_⟩) (by assumption) ?_
              rotate_left
              · intro w hSw; (try dsimp only at hSw); go_simp <;> with_reducible rfl
              try simp only [Act.put, List.setIfInBounds_toArray, List.set_cons_zero, List.set_cons_succ]
              refine wpAnyH_take (i := 8) (oi := { dst := some 106, op := Op.load 28 (Operand.tmp 105), type := 28, pos := "law.go:168", after := #[{ on := 7, ground := Ground.data }, { on := 4, ground := Ground.guard }], guard := some (4, true) }) (v := ?_) rfl (by kernel_rfl) (by kernel_rfl) (by kernel_rfl) (fun _ _ _ h => h) (Or.inl ⟨by rfl, ?_⟩) (by assumption) ?_
              rotate_left
              · intro w hSw; (try dsimp only at hSw); go_simp <;> with_reducible rfl
              try simp only [Act.put, List.setIfInBounds_toArray, List.set_cons_zero, List.set_cons_succ]
              refine wpAnyH_take (i := 9) (oi := { dst := some 107, op := Op.binOp BinOp.eql 28 (Operand.tmp 106) (Operand.const (Value.pointer none)) 28, type := 4, pos := "law.go:168", after := #[{ on := 8, ground := Ground.data }, { on := 4, ground := Ground.guard }], guard := some (4, true) }) (v := ?_) rfl (by kernel_rfl) (by kernel_rfl) (by kernel_rfl) (fun _ _ _ h => h) (Or.inl ⟨by rfl, ?_⟩) (by assumption) ?_
              rotate_left
              · intro w hSw; (try dsimp only at hSw); go_simp <;> with_reducible rfl
              try simp only [Act.put, List.setIfInBounds_toArray, List.set_cons_zero, List.set_cons_succ]
              refine wpAnyH_take (i := 10) (oi := { dst := some 108, op := Op.move (Operand.tmp 107), type := 4, pos := "law.go:168", after := #[{ on := 9, ground := Ground.data }, { on := 4, ground := Ground.chain }, { on := 4, ground := Ground.guard }], guard := some (4, true) }) (v := ?_) rfl (by kernel_rfl) (by kernel_rfl) (by kernel_rfl) (fun _ _ _ h => h) (Or.inl ⟨by rfl, ?_⟩) (by assumption) ?_
              rotate_left
              · intro w hSw; (try dsimp only at hSw); go_simp <;> with_reducible rfl
              try simp only [Act.put, List.setIfInBounds_toArray, List.set_cons_zero, List.set_cons_succ]
              refine wpAnyH_take (i := 11) (oi := { dst := some 109, op := Op.move (Operand.tmp 12), type := 24, pos := "law.go:168", after := #[{ on := 10, ground := Ground.guard }], guard := some (10, false) }) (v := ?_) rfl (by kernel_rfl) (by kernel_rfl) (by kernel_rfl) (fun _ _ _ h => h) (Or.inl ⟨by rfl, ?_⟩) (by assumption) ?_
              rotate_left
              · intro w hSw; (try dsimp only at hSw); go_simp <;> with_reducible rfl
              try simp only [Act.put, List.setIfInBounds_toArray, List.set_cons_zero, List.set_cons_succ]
              refine wpAnyH_take (i := 12) (oi := { dst := some 110, op := Op.nilCheck (Operand.tmp 109), type := 0, pos := "law.go:168", after := #[{ on := 11, ground := Ground.data }, { on := 10, ground := Ground.guard }], guard := some (10, false) }) (v := ?_) rfl (by kernel_rfl) (by kernel_rfl) (by kernel_rfl) (fun _ _ _ h => h) (Or.inl ⟨by rfl, ?_⟩) (by assumption) ?_
              rotate_left
              · intro w hSw; (try dsimp only at hSw); go_simp <;> with_reducible rfl
              try simp only [Act.put, List.setIfInBounds_toArray, List.set_cons_zero, List.set_cons_succ]
              refine wpAnyH_take (i := 13) (oi := { dst := some 111, op := Op.fieldAddr 32 (Operand.tmp 110) 1, type := 0, pos := "law.go:168", after := #[{ on := 12, ground := Ground.data }, { on := 10, ground := Ground.guard }], guard := some (10, false) }) (v := ?_) rfl (by kernel_rfl) (by kernel_rfl) (by kernel_rfl) (fun _ _ _ h => h) (Or.inl ⟨by rfl, ?_⟩) (by assumption) ?_
              rotate_left
              · intro w hSw; (try dsimp only at hSw); go_simp <;> with_reducible rfl
              try simp only [Act.put, List.setIfInBounds_toArray, List.set_cons_zero, List.set_cons_succ]
              refine wpAnyH_take (i := 14) (oi := { dst := some 112, op := Op.load 28 (Operand.tmp 111), type := 28, pos := "law.go:168", after := #[{ on := 13, ground := Ground.data }, { on := 10, ground := Ground.guard }], guard := some (10, false) }) (v := ?_) rfl (by kernel_rfl) (by kernel_rfl) (by kernel_rfl) (fun _ _ _ h => h) (Or.inl ⟨by rfl, ?_⟩) (by assumption) ?_
              rotate_left
              · intro w hSw; (try dsimp only at hSw); go_simp <;> with_reducible rfl
              try simp only [Act.put, List.setIfInBounds_toArray, List.set_cons_zero, List.set_cons_succ]
              refine wpAnyH_take (i := 16) (oi := { dst := some 114, op := Op.move (Operand.tmp 12), type := 24, pos := "law.go:168", after := #[{ on := 10, ground := Ground.guard }], guard := some (10, false) }) (v := ?_) rfl (by kernel_rfl) (by kernel_rfl) (by kernel_rfl) (fun _ _ _ h => h) (Or.inl ⟨by rfl, ?_⟩) (by assumption) ?_
              rotate_left
              · intro w hSw; (try dsimp only at hSw); go_simp <;> with_reducible rfl
              try simp only [Act.put, List.setIfInBounds_toArray, List.set_cons_zero, List.set_cons_succ]
              refine wpAnyH_take (i := 17) (oi := { dst := some 115, op := Op.nilCheck (Operand.tmp 114), type := 0, pos := "law.go:168", after := #[{ on := 16, ground := Ground.data }, { on := 10, ground := Ground.guard }], guard := some (10, false) }) (v := ?_) rfl (by kernel_rfl) (by kernel_rfl) (by kernel_rfl) (fun _ _ _ h => h) (Or.inl ⟨by rfl, ?_⟩) (by assumption) ?_
              rotate_left
              · intro w hSw; (try dsimp only at hSw); go_simp <;> with_reducible rfl
              try simp only [Act.put, List.setIfInBounds_toArray, List.set_cons_zero, List.set_cons_succ]
              refine wpAnyH_take (i := 18) (oi := { dst := some 116, op := Op.fieldAddr 32 (Operand.tmp 115) 3, type := 0, pos := "law.go:168", after := #[{ on := 17, ground := Ground.data }, { on := 10, ground := Ground.guard }], guard := some (10, false) }) (v := ?_) rfl (by kernel_rfl) (by kernel_rfl) (by kernel_rfl) (fun _ _ _ h => h) (Or.inl ⟨by rfl, ?_⟩) (by assumption) ?_
              rotate_left
              · intro w hSw; (try dsimp only at hSw); go_simp <;> with_reducible rfl
              try simp only [Act.put, List.setIfInBounds_toArray, List.set_cons_zero, List.set_cons_succ]
              refine wpAnyH_take (i := 19) (oi := { dst := some 117, op := Op.load 30 (Operand.tmp 116), type := 30, pos := "law.go:168", after := #[{ on := 18, ground := Ground.data }, { on := 10, ground := Ground.guard }], guard := some (10, false) }) (v := ?_) rfl (by kernel_rfl) (by kernel_rfl) (by kernel_rfl) (fun _ _ _ h => h) (Or.inl ⟨by rfl, ?_⟩) (by assumption) ?_
              rotate_left
              · intro w hSw; (try dsimp only at hSw); go_simp <;> with_reducible rfl
              try simp only [Act.put, List.setIfInBounds_toArray, List.set_cons_zero, List.set_cons_succ]
              refine wpAnyH_take (i := 20) (oi := { dst := some 118, op := Op.nilCheck (Operand.tmp 117), type := 0, pos := "law.go:168", after := #[{ on := 19, ground := Ground.data }, { on := 10, ground := Ground.guard }], guard := some (10, false) }) (v := ?_) rfl (by kernel_rfl) (by kernel_rfl) (by kernel_rfl) (fun _ _ _ h => h) (Or.inl ⟨by rfl, ?_⟩) (by assumption) ?_
              rotate_left
              · intro w hSw; (try dsimp only at hSw); go_simp <;> with_reducible rfl
              try simp only [Act.put, List.setIfInBounds_toArray, List.set_cons_zero, List.set_cons_succ]
              refine wpAnyH_take (i := 21) (oi := { dst := some 119, op := Op.fieldAddr 43 (Operand.tmp 118) 1, type := 0, pos := "law.go:168", after := #[{ on := 20, ground := Ground.data }, { on := 10, ground := Ground.guard }], guard := some (10, false) }) (v := ?_) rfl (by kernel_rfl) (by kernel_rfl) (by kernel_rfl) (fun _ _ _ h => h) (Or.inl ⟨by rfl, ?_⟩) (by assumption) ?_
              rotate_left
              · intro w hSw; (try dsimp only at hSw); go_simp <;> with_reducible rfl
              try simp only [Act.put, List.setIfInBounds_toArray, List.set_cons_zero, List.set_cons_succ]
              refine wpAnyH_take (i := 22) (oi := { dst := some 120, op := Op.load 22 (Operand.tmp 119), type := 22, pos := "law.go:168", after := #[{ on := 21, ground := Ground.data }, { on := 10, ground := Ground.guard }], guard := some (10, false) }) (v := ?_) rfl (by kernel_rfl) (by kernel_rfl) (by kernel_rfl) (fun _ _ _ h => h) (Or.inl ⟨by rfl, ?_⟩) (by assumption) ?_
              rotate_left
              · intro w hSw; (try dsimp only at hSw); go_simp <;> with_reducible rfl
              try simp only [Act.put, List.setIfInBounds_toArray, List.set_cons_zero, List.set_cons_succ]
              refine wpAnyH_ready (rs := [15]) (by kernel_rfl) (by simp) ?_
              refine AllReadyH.cons (o := { dst := some 113, op := Op.call { callee := Callee.value (Operand.func 19), args := #[Operand.tmp 112], argTypes := #[28] }, type := 22, pos := "law.go:168", after := #[{ on := 14, ground := Ground.data }, { on := 10, ground := Ground.chain }, { on := 10, ground := Ground.guard }], guard := some (10, false) }) rfl (fun K hK => ?_) ?_
              · go_simp
                go_at_call 19
                refine (HRC.out _ u0).mono ?_
                rintro e U5 ⟨A5, c5, rfl, hl5, hu5⟩
                have r1 := u0.trans hu5
                refine hK.out _ _ ((HS1.out _ r1)) (fun hHeld => ?_)
                clear hK K
                try simp only [Act.put, List.setIfInBounds_toArray, List.set_cons_zero, List.set_cons_succ]
                refine wpAnyH_ready (rs := [23]) (by kernel_rfl) (by simp) ?_
                refine AllReadyH.cons (o := { dst := some 121, op := Op.call { callee := Callee.value (Operand.func 18), args := #[Operand.tmp 113, Operand.tmp 120], argTypes := #[22, 22] }, type := 4, pos := "law.go:168", after := #[{ on := 15, ground := Ground.data }, { on := 22, ground := Ground.data }, { on := 15, ground := Ground.chain }, { on := 10, ground := Ground.guard }], guard := some (10, false) }) rfl (fun K hK => ?_) ?_
                · go_simp
                  go_at_call 18
                  refine (HSM.out _ _ _ hl5 r1).mono ?_
                  rintro e U6 ⟨rfl, hu6⟩
                  have r2 := r1.trans hu6
                  refine hK.out _ _ ((HS1.out _ r2)) (fun hHeld => ?_)
                  clear hK K
                  try simp only [Act.put, List.setIfInBounds_toArray, List.set_cons_zero, List.set_cons_succ]
                  refine wpAnyH_take (i := 24) (oi := { dst := some 122, op := Op.move (Operand.tmp 121), type := 4, pos := "law.go:168", after := #[{ on := 23, ground := Ground.data }, { on := 23, ground := Ground.chain }, { on := 10, ground := Ground.guard }], guard := some (10, false) }) (v := ?_) rfl (by kernel_rfl) (by kernel_rfl) (by kernel_rfl) (fun _ _ _ h => h) (Or.inl ⟨by rfl, ?_⟩) (by assumption) ?_
                  rotate_left
                  · intro w hSw; (try dsimp only at hSw); go_simp <;> with_reducible rfl
                  try simp only [Act.put, List.setIfInBounds_toArray, List.set_cons_zero, List.set_cons_succ]
                  refine wpAnyH_take (i := 25) (oi := { dst := some 123, op := Op.move (Operand.tmp 12), type := 24, pos := "law.go:168", after := #[{ on := 24, ground := Ground.guard }], guard := some (24, true) }) (v := ?_) rfl (by kernel_rfl) (by kernel_rfl) (by kernel_rfl) (fun _ _ _ h => h) (Or.inl ⟨by rfl, ?_⟩) (by assumption) ?_
                  rotate_left
                  · intro w hSw; (try dsimp only at hSw); go_simp <;> with_reducible rfl
                  try simp only [Act.put, List.setIfInBounds_toArray, List.set_cons_zero, List.set_cons_succ]
                  refine wpAnyH_take (i := 26) (oi := { dst := some 124, op := Op.nilCheck (Operand.tmp 123), type := 0, pos := "law.go:168", after := #[{ on := 25, ground := Ground.data }, { on := 24, ground := Ground.guard }], guard := some (24, true) }) (v := ?_) rfl (by kernel_rfl) (by kernel_rfl) (by kernel_rfl) (fun _ _ _ h => h) (Or.inl ⟨by rfl, ?_⟩) (by assumption) ?_
                  rotate_left
                  · intro w hSw; (try dsimp only at hSw); go_simp <;> with_reducible rfl
                  try simp only [Act.put, List.setIfInBounds_toArray, List.set_cons_zero, List.set_cons_succ]
                  refine wpAnyH_take (i := 27) (oi := { dst := some 125, op := Op.fieldAddr 32 (Operand.tmp 124) 1, type := 0, pos := "law.go:168", after := #[{ on := 26, ground := Ground.data }, { on := 24, ground := Ground.guard }], guard := some (24, true) }) (v := ?_) rfl (by kernel_rfl) (by kernel_rfl) (by kernel_rfl) (fun _ _ _ h => h) (Or.inl ⟨by rfl, ?_⟩) (by assumption) ?_
                  rotate_left
                  · intro w hSw; (try dsimp only at hSw); go_simp <;> with_reducible rfl
                  try simp only [Act.put, List.setIfInBounds_toArray, List.set_cons_zero, List.set_cons_succ]
                  refine wpAnyH_take (i := 28) (oi := { dst := some 126, op := Op.load 28 (Operand.tmp 125), type := 28, pos := "law.go:168", after := #[{ on := 27, ground := Ground.data }, { on := 24, ground := Ground.guard }], guard := some (24, true) }) (v := ?_) rfl (by kernel_rfl) (by kernel_rfl) (by kernel_rfl) (fun _ _ _ h => h) (Or.inl ⟨by rfl, ?_⟩) (by assumption) ?_
                  rotate_left
                  · intro w hSw; (try dsimp only at hSw); go_simp <;> with_reducible rfl
                  try simp only [Act.put, List.setIfInBounds_toArray, List.set_cons_zero, List.set_cons_succ]
                  refine wpAnyH_take (i := 30) (oi := { dst := some 128, op := Op.move (Operand.tmp 12), type := 24, pos := "law.go:168", after := #[{ on := 24, ground := Ground.guard }], guard := some (24, true) }) (v := ?_) rfl (by kernel_rfl) (by kernel_rfl) (by kernel_rfl) (fun _ _ _ h => h) (Or.inl ⟨by rfl, ?_⟩) (by assumption) ?_
                  rotate_left
                  · intro w hSw; (try dsimp only at hSw); go_simp <;> with_reducible rfl
                  try simp only [Act.put, List.setIfInBounds_toArray, List.set_cons_zero, List.set_cons_succ]
                  refine wpAnyH_take (i := 31) (oi := { dst := some 129, op := Op.nilCheck (Operand.tmp 128), type := 0, pos := "law.go:168", after := #[{ on := 30, ground := Ground.data }, { on := 24, ground := Ground.guard }], guard := some (24, true) }) (v := ?_) rfl (by kernel_rfl) (by kernel_rfl) (by kernel_rfl) (fun _ _ _ h => h) (Or.inl ⟨by rfl, ?_⟩) (by assumption) ?_
                  rotate_left
                  · intro w hSw; (try dsimp only at hSw); go_simp <;> with_reducible rfl
                  try simp only [Act.put, List.setIfInBounds_toArray, List.set_cons_zero, List.set_cons_succ]
                  refine wpAnyH_take (i := 32) (oi := { dst := some 130, op := Op.fieldAddr 32 (Operand.tmp 129) 3, type := 0, pos := "law.go:168", after := #[{ on := 31, ground := Ground.data }, { on := 24, ground := Ground.guard }], guard := some (24, true) }) (v := ?_) rfl (by kernel_rfl) (by kernel_rfl) (by kernel_rfl) (fun _ _ _ h => h) (Or.inl ⟨by rfl, ?_⟩) (by assumption) ?_
                  rotate_left
                  · intro w hSw; (try dsimp only at hSw); go_simp <;> with_reducible rfl
                  try simp only [Act.put, List.setIfInBounds_toArray, List.set_cons_zero, List.set_cons_succ]
                  refine wpAnyH_take (i := 33) (oi := { dst := some 131, op := Op.load 30 (Operand.tmp 130), type := 30, pos := "law.go:168", after := #[{ on := 32, ground := Ground.data }, { on := 24, ground := Ground.guard }], guard := some (24, true) }) (v := ?_) rfl (by kernel_rfl) (by kernel_rfl) (by kernel_rfl) (fun _ _ _ h => h) (Or.inl ⟨by rfl, ?_⟩) (by assumption) ?_
                  rotate_left
                  · intro w hSw; (try dsimp only at hSw); go_simp <;> with_reducible rfl
                  try simp only [Act.put, List.setIfInBounds_toArray, List.set_cons_zero, List.set_cons_succ]
                  refine wpAnyH_ready (rs := [29]) (by kernel_rfl) (by simp) ?_
                  refine AllReadyH.cons (o := { dst := some 127, op := Op.call { callee := Callee.value (Operand.func 20), args := #[Operand.tmp 126], argTypes := #[28] }, type := 3, pos := "law.go:168", after := #[{ on := 28, ground := Ground.data }, { on := 24, ground := Ground.chain }, { on := 24, ground := Ground.guard }], guard := some (24, true) }) rfl (fun K hK => ?_) ?_
                  · go_simp
                    go_at_call 20
                    refine (HRL.out _ r2).mono ?_
                    rintro e U7 ⟨rfl, hu7⟩
                    have r3 := r2.trans hu7
                    refine hK.out _ _ ((HS1.out _ r3)) (fun hHeld => ?_)
                    clear hK K
                    try simp only [Act.put, List.setIfInBounds_toArray, List.set_cons_zero, List.set_cons_succ]
                    refine wpAnyH_ready (rs := [34]) (by kernel_rfl) (by simp) ?_
                    refine AllReadyH.cons (o := { dst := some 132, op := Op.call { callee := Callee.value (Operand.func 21), args := #[Operand.tmp 131], argTypes := #[30] }, type := 3, pos := "law.go:168", after := #[{ on := 33, ground := Ground.data }, { on := 29, ground := Ground.chain }, { on := 24, ground := Ground.guard }], guard := some (24, true) }) rfl (fun K hK => ?_) ?_
                    · go_simp
                      go_at_call 21
                      refine (HRR.out _ r3).mono ?_
                      rintro e U8 ⟨rfl, hu8⟩
                      have r4 := r3.trans hu8
                      refine hK.out _ _ ((HS1.out _ r4)) (fun hHeld => ?_)
                      clear hK K
                      try simp only [Act.put, List.setIfInBounds_toArray, List.set_cons_zero, List.set_cons_succ]
                      refine wpAnyH_take (i := 35) (oi := { dst := some 133, op := Op.binOp BinOp.eql 3 (Operand.tmp 127) (Operand.tmp 132) 3, type := 4, pos := "law.go:168", after := #[{ on := 29, ground := Ground.data }, { on := 34, ground := Ground.data }, { on := 24, ground := Ground.guard }], guard := some (24, true) }) (v := ?_) rfl (by kernel_rfl) (by kernel_rfl) (by kernel_rfl) (fun _ _ _ h => h) (Or.inl ⟨by rfl, ?_⟩) (by assumption) ?_
                      rotate_left
                      · intro w hSw; (try dsimp only at hSw); go_simp <;> with_reducible rfl
                      try simp only [Act.put, List.setIfInBounds_toArray, List.set_cons_zero, List.set_cons_succ]
                      refine wpAnyH_take (i := 36) (oi := { dst := some 134, op := Op.pick (Operand.tmp 122) (Operand.tmp 133) (Operand.const (Value.bool false)), type := 4, pos := "law.go:168", after := #[{ on := 24, ground := Ground.data }, { on := 35, ground := Ground.data }, { on := 10, ground := Ground.guard }], guard := some (10, false) }) (v := ?_) rfl (by kernel_rfl) (by kernel_rfl) (by kernel_rfl) (fun _ _ _ h => h) (Or.inl ⟨by rfl, ?_⟩) (by assumption) ?_
                      rotate_left
                      · intro w hSw; (try dsimp only at hSw); go_simp <;> with_reducible rfl
                      try simp only [Act.put, List.setIfInBounds_toArray, List.set_cons_zero, List.set_cons_succ]
                      refine wpAnyH_take (i := 37) (oi := { dst := some 135, op := Op.move (Operand.tmp 134), type := 4, pos := "law.go:168", after := #[{ on := 36, ground := Ground.data }, { on := 34, ground := Ground.chain }, { on := 10, ground := Ground.guard }], guard := some (10, false) }) (v := ?_) rfl (by kernel_rfl) (by kernel_rfl) (by kernel_rfl) (fun _ _ _ h => h) (Or.inl ⟨by rfl, ?_⟩) (by assumption) ?_
                      rotate_left
                      · intro w hSw; (try dsimp only at hSw); go_simp <;> with_reducible rfl
                      try simp only [Act.put, List.setIfInBounds_toArray, List.set_cons_zero, List.set_cons_succ]
                      refine wpAnyH_take (i := 38) (oi := { dst := some 136, op := Op.move (Operand.tmp 12), type := 24, pos := "law.go:168", after := #[{ on := 37, ground := Ground.guard }], guard := some (37, true) }) (v := ?_) rfl (by kernel_rfl) (by kernel_rfl) (by kernel_rfl) (fun _ _ _ h => h) (Or.inl ⟨by rfl, ?_⟩) (by assumption) ?_
                      rotate_left
                      · intro w hSw; (try dsimp only at hSw); go_simp <;> with_reducible rfl
                      try simp only [Act.put, List.setIfInBounds_toArray, List.set_cons_zero, List.set_cons_succ]
                      refine wpAnyH_take (i := 39) (oi := { dst := some 137, op := Op.nilCheck (Operand.tmp 136), type := 0, pos := "law.go:168", after := #[{ on := 38, ground := Ground.data }, { on := 37, ground := Ground.guard }], guard := some (37, true) }) (v := ?_) rfl (by kernel_rfl) (by kernel_rfl) (by kernel_rfl) (fun _ _ _ h => h) (Or.inl ⟨by rfl, ?_⟩) (by assumption) ?_
                      rotate_left
                      · intro w hSw; (try dsimp only at hSw); go_simp <;> with_reducible rfl
                      try simp only [Act.put, List.setIfInBounds_toArray, List.set_cons_zero, List.set_cons_succ]
                      refine wpAnyH_take (i := 40) (oi := { dst := some 138, op := Op.fieldAddr 32 (Operand.tmp 137) 0, type := 0, pos := "law.go:168", after := #[{ on := 39, ground := Ground.data }, { on := 37, ground := Ground.guard }], guard := some (37, true) }) (v := ?_) rfl (by kernel_rfl) (by kernel_rfl) (by kernel_rfl) (fun _ _ _ h => h) (Or.inl ⟨by rfl, ?_⟩) (by assumption) ?_
                      rotate_left
                      · intro w hSw; (try dsimp only at hSw); go_simp <;> with_reducible rfl
                      try simp only [Act.put, List.setIfInBounds_toArray, List.set_cons_zero, List.set_cons_succ]
                      refine wpAnyH_take (i := 41) (oi := { dst := some 139, op := Op.load 27 (Operand.tmp 138), type := 27, pos := "law.go:168", after := #[{ on := 40, ground := Ground.data }, { on := 37, ground := Ground.guard }], guard := some (37, true) }) (v := ?_) rfl (by kernel_rfl) (by kernel_rfl) (by kernel_rfl) (fun _ _ _ h => h) (Or.inl ⟨by rfl, ?_⟩) (by assumption) ?_
                      rotate_left
                      · intro w hSw; (try dsimp only at hSw); go_simp <;> with_reducible rfl
                      try simp only [Act.put, List.setIfInBounds_toArray, List.set_cons_zero, List.set_cons_succ]
                      refine wpAnyH_take (i := 43) (oi := { dst := some 141, op := Op.move (Operand.tmp 12), type := 24, pos := "law.go:168", after := #[{ on := 37, ground := Ground.guard }], guard := some (37, true) }) (v := ?_) rfl (by kernel_rfl) (by kernel_rfl) (by kernel_rfl) (fun _ _ _ h => h) (Or.inl ⟨by rfl, ?_⟩) (by assumption) ?_
                      rotate_left
                      · intro w hSw; (try dsimp only at hSw); go_simp <;> with_reducible rfl
                      try simp only [Act.put, List.setIfInBounds_toArray, List.set_cons_zero, List.set_cons_succ]
                      refine wpAnyH_take (i := 44) (oi := { dst := some 142, op := Op.nilCheck (Operand.tmp 141), type := 0, pos := "law.go:168", after := #[{ on := 43, ground := Ground.data }, { on := 37, ground := Ground.guard }], guard := some (37, true) }) (v := ?_) rfl (by kernel_rfl) (by kernel_rfl) (by kernel_rfl) (fun _ _ _ h => h) (Or.inl ⟨by rfl, ?_⟩) (by assumption) ?_
                      rotate_left
                      · intro w hSw; (try dsimp only at hSw); go_simp <;> with_reducible rfl
                      try simp only [Act.put, List.setIfInBounds_toArray, List.set_cons_zero, List.set_cons_succ]
                      refine wpAnyH_take (i := 45) (oi := { dst := some 143, op := Op.fieldAddr 32 (Operand.tmp 142) 2, type := 0, pos := "law.go:168", after := #[{ on := 44, ground := Ground.data }, { on := 37, ground := Ground.guard }], guard := some (37, true) }) (v := ?_) rfl (by kernel_rfl) (by kernel_rfl) (by kernel_rfl) (fun _ _ _ h => h) (Or.inl ⟨by rfl, ?_⟩) (by assumption) ?_
                      rotate_left
                      · intro w hSw; (try dsimp only at hSw); go_simp <;> with_reducible rfl
                      try simp only [Act.put, List.setIfInBounds_toArray, List.set_cons_zero, List.set_cons_succ]
                      refine wpAnyH_take (i := 46) (oi := { dst := some 144, op := Op.load 29 (Operand.tmp 143), type := 29, pos := "law.go:168", after := #[{ on := 45, ground := Ground.data }, { on := 37, ground := Ground.guard }], guard := some (37, true) }) (v := ?_) rfl (by kernel_rfl) (by kernel_rfl) (by kernel_rfl) (fun _ _ _ h => h) (Or.inl ⟨by rfl, ?_⟩) (by assumption) ?_
                      rotate_left
                      · intro w hSw; (try dsimp only at hSw); go_simp <;> with_reducible rfl
                      try simp only [Act.put, List.setIfInBounds_toArray, List.set_cons_zero, List.set_cons_succ]
                      refine wpAnyH_ready (rs := [42]) (by kernel_rfl) (by simp) ?_
                      refine AllReadyH.cons (o := { dst := some 140, op := Op.call { callee := Callee.value (Operand.func 22), args := #[Operand.tmp 139], argTypes := #[27] }, type := 9, pos := "law.go:168", after := #[{ on := 41, ground := Ground.data }, { on := 37, ground := Ground.chain }, { on := 37, ground := Ground.guard }], guard := some (37, true) }) rfl (fun K hK => ?_) ?_
                      · go_simp
                        go_at_call 22
                        refine (HCT.out _ r4).mono ?_
                        rintro e U9 ⟨rfl, rfl⟩
                        refine hK.out _ _ ((HS1.out _ r4)) (fun hHeld => ?_)
                        clear hK K
                        try simp only [Act.put, List.setIfInBounds_toArray, List.set_cons_zero, List.set_cons_succ]
                        refine wpAnyH_ready (rs := [47]) (by kernel_rfl) (by simp) ?_
                        refine AllReadyH.cons (o := { dst := some 145, op := Op.call { callee := Callee.value (Operand.func 23), args := #[Operand.tmp 144], argTypes := #[29] }, type := 39, pos := "law.go:168", after := #[{ on := 46, ground := Ground.data }, { on := 42, ground := Ground.chain }, { on := 37, ground := Ground.guard }], guard := some (37, true) }) rfl (fun K hK => ?_) ?_
                        · go_simp
                          go_at_call 23
                          refine (HVS.out _ r4).mono ?_
                          rintro e U3 ⟨qq, cq, rfl, hcv3, hu3⟩
                          have r5 := r4.trans hu3
                          refine hK.out _ _ ((HS1.out _ r5)) (fun hHeld => ?_)
                          clear hK K
                          try simp only [Act.put, List.setIfInBounds_toArray, List.set_cons_zero, List.set_cons_succ]
                          refine wpAnyH_ready (rs := [48]) (by kernel_rfl) (by simp) ?_
                          refine AllReadyH.cons (o := { dst := some 146, op := Op.convert 39 9 (Operand.tmp 145), type := 9, pos := "law.go:168", after := #[{ on := 47, ground := Ground.data }, { on := 37, ground := Ground.guard }], guard := some (37, true) }) rfl (fun K hK => ?_) ?_
                          · go_simp
                            refine hK.out _ _ ((HS1.out _ r5)) (fun hHeld => ?_)
                            clear hK K
                            try simp only [Act.put, List.setIfInBounds_toArray, List.set_cons_zero, List.set_cons_succ]
                            refine wpAnyH_take (i := 49) (oi := { dst := some 147, op := Op.binOp BinOp.eql 9 (Operand.tmp 140) (Operand.tmp 146) 9, type := 4, pos := "law.go:168", after := #[{ on := 42, ground := Ground.data }, { on := 48, ground := Ground.data }, { on := 37, ground := Ground.guard }], guard := some (37, true) }) (v := ?_) rfl (by kernel_rfl) (by kernel_rfl) (by kernel_rfl) (fun _ _ _ h => h) (Or.inl ⟨by rfl, ?_⟩) (by assumption) ?_
                            rotate_left
                            · intro w hSw; (try dsimp only at hSw); go_simp <;> with_reducible rfl
                            try simp only [Act.put, List.setIfInBounds_toArray, List.set_cons_zero, List.set_cons_succ]
                            refine wpAnyH_take (i := 50) (oi := { dst := some 148, op := Op.pick (Operand.tmp 135) (Operand.tmp 147) (Operand.const (Value.bool false)), type := 4, pos := "law.go:168", after := #[{ on := 37, ground := Ground.data }, { on := 49, ground := Ground.data }, { on := 10, ground := Ground.guard }], guard := some (10, false) }) (v := ?_) rfl (by kernel_rfl) (by kernel_rfl) (by kernel_rfl) (fun _ _ _ h => h) (Or.inl ⟨by rfl, ?_⟩) (by assumption) ?_
                            rotate_left
                            · intro w hSw; (try dsimp only at hSw); go_simp <;> with_reducible rfl
                            try simp only [Act.put, List.setIfInBounds_toArray, List.set_cons_zero, List.set_cons_succ]
                            refine wpAnyH_take (i := 51) (oi := { dst := some 149, op := Op.pick (Operand.tmp 108) (Operand.const (Value.bool true)) (Operand.tmp 148), type := 4, pos := "law.go:168", after := #[{ on := 10, ground := Ground.data }, { on := 50, ground := Ground.data }, { on := 4, ground := Ground.guard }], guard := some (4, true) }) (v := ?_) rfl (by kernel_rfl) (by kernel_rfl) (by kernel_rfl) (fun _ _ _ h => h) (Or.inl ⟨by rfl, ?_⟩) (by assumption) ?_
                            rotate_left
                            · intro w hSw; (try dsimp only at hSw); go_simp <;> with_reducible rfl
                            try simp only [Act.put, List.setIfInBounds_toArray, List.set_cons_zero, List.set_cons_succ]
                            refine wpAnyH_take (i := 52) (oi := { dst := some 150, op := Op.pick (Operand.tmp 102) (Operand.tmp 149) (Operand.const (Value.bool false)), type := 4, pos := "law.go:168", after := #[{ on := 4, ground := Ground.data }, { on := 51, ground := Ground.data }], guard := none }) (v := ?_) rfl (by kernel_rfl) (by kernel_rfl) (by kernel_rfl) (fun _ _ _ h => h) (Or.inl ⟨by rfl, ?_⟩) (by assumption) ?_
                            rotate_left
                            · intro w hSw; (try dsimp only at hSw); go_simp <;> with_reducible rfl
                            try simp only [Act.put, List.setIfInBounds_toArray, List.set_cons_zero, List.set_cons_succ]
                            refine wpAnyH_take (i := 53) (oi := { dst := some 10, op := Op.assign (Operand.tmp 150), type := 4, pos := "law.go:168", after := #[{ on := 52, ground := Ground.data }, { on := 47, ground := Ground.chain }, { on := 0, ground := Ground.phase }, { on := 1, ground := Ground.phase }, { on := 2, ground := Ground.phase }, { on := 3, ground := Ground.phase }, { on := 4, ground := Ground.phase }, { on := 5, ground := Ground.phase }, { on := 6, ground := Ground.phase }, { on := 7, ground := Ground.phase }, { on := 8, ground := Ground.phase }, { on := 9, ground := Ground.phase }, { on := 10, ground := Ground.phase }, { on := 11, ground := Ground.phase }, { on := 12, ground := Ground.phase }, { on := 13, ground := Ground.phase }, { on := 14, ground := Ground.phase }, { on := 15, ground := Ground.phase }, { on := 16, ground := Ground.phase }, { on := 17, ground := Ground.phase }, { on := 18, ground := Ground.phase }, { on := 19, ground := Ground.phase }, { on := 20, ground := Ground.phase }, { on := 21, ground := Ground.phase }, { on := 22, ground := Ground.phase }, { on := 23, ground := Ground.phase }, { on := 24, ground := Ground.phase }, { on := 25, ground := Ground.phase }, { on := 26, ground := Ground.phase }, { on := 27, ground := Ground.phase }, { on := 28, ground := Ground.phase }, { on := 29, ground := Ground.phase }, { on := 30, ground := Ground.phase }, { on := 31, ground := Ground.phase }, { on := 32, ground := Ground.phase }, { on := 33, ground := Ground.phase }, { on := 34, ground := Ground.phase }, { on := 35, ground := Ground.phase }, { on := 36, ground := Ground.phase }, { on := 37, ground := Ground.phase }, { on := 38, ground := Ground.phase }, { on := 39, ground := Ground.phase }, { on := 40, ground := Ground.phase }, { on := 41, ground := Ground.phase }, { on := 42, ground := Ground.phase }, { on := 43, ground := Ground.phase }, { on := 44, ground := Ground.phase }, { on := 45, ground := Ground.phase }, { on := 46, ground := Ground.phase }, { on := 47, ground := Ground.phase }, { on := 48, ground := Ground.phase }, { on := 49, ground := Ground.phase }, { on := 50, ground := Ground.phase }, { on := 51, ground := Ground.phase }, { on := 52, ground := Ground.phase }], guard := none }) (v := ?_) rfl (by kernel_rfl) (by kernel_rfl) (by kernel_rfl) (fun _ _ _ h => h) (Or.inl ⟨by rfl, ?_⟩) (by assumption) ?_
                            rotate_left
                            · intro w hSw; (try dsimp only at hSw); go_simp <;> with_reducible rfl
                            try simp only [Act.put, List.setIfInBounds_toArray, List.set_cons_zero, List.set_cons_succ]
                            refine wpAnyH_done (by kernel_rfl) ?_ _
                            refine NoPanic.normal ?_
                            go_wp2_with fail
                            go_ret
                            exact ⟨rfl, HNEXT.out _ r5⟩
                          exact AllReadyH.nil
                        exact AllReadyH.nil
                      exact AllReadyH.nil
                    exact AllReadyH.nil
                  exact AllReadyH.nil
                exact AllReadyH.nil
              exact AllReadyH.nil
          exact AllReadyH.nil
        exact AllReadyH.nil
      exact AllReadyH.nil
    exact AllReadyH.nil
end Go.Proofs.YtllmciiadceinaaGreatDoor
end
section
namespace Go.Proofs.YtllmciiadceinaaGreatDoor.lawJournalOpensAnything
open Go.ChangeShapes Go.WideShapes Go.ChangeAt Go.RowKit
open Go.ChangeMaps (open_string)

theorem own : ownKnob Tryz.prog.godebug = none := by kernel_rfl
theorem laidOut : laidOutB Tryz.prog = true := by kernel_rfl
theorem reads_ok : ∀ t ∈ Tryz.f3.params.toList, Tryz.prog.readableRec t = true ∧ t < Tryz.prog.types.size := by
  have h : (Tryz.f3.params.toList.all fun t => Tryz.prog.readableRec t && decide (t < Tryz.prog.types.size)) = true := by kernel_rfl
  intro t ht
  have := List.all_eq_true.1 h t ht
  simpa using this

theorem star : "*" ++ "errors.errorString" = "*errors.errorString" := by decide
theorem rowErr (u : TypeId) (h : Tryz.prog.typeName? 3 u = some "*errors.errorString") : u = 222 :=
  typeName_ptr_named (nm := "errors.errorString") (by rw [star]; kernel_rfl) (by kernel_rfl) (by decide) u (by rw [star]; exact h)
set_option maxRecDepth 100000 in
/-- What the listed variables hold. -/
theorem facts {W : World} (h : laidMetH Tryz.prog Rows.journalOpensAnythingRow.laid W) : KAt W ∧ ∃ a, ErrAt W a := by
  have h' : laidMet Tryz.prog Rows.journalOpensAnythingRow.laid W := h
  obtain ⟨ps, ⟨g0, t0, cs0, f0, p0, q0, hg0, ht0, hv0, hd0, ⟨g1, t1, cs1, f1, p1, q1, hg1, ht1, hv1, hd1, ⟨g2, t2, cs2, f2, p2, q2, hg2, ht2, hv2, hd2, -, e2⟩, e1⟩, e0⟩, -, hrows⟩ := h'
  obtain rfl := Option.some.inj ((by kernel_rfl : Tryz.prog.globalNamed "yardstick/digest.round" = some 3).symm.trans hg1)
  obtain rfl := Option.some.inj ((by kernel_rfl : Tryz.prog.globalNamed "yardstick/journal.errDamaged" = some 0).symm.trans hg2)
  obtain rfl := Option.some.inj ((by kernel_rfl : (Tryz.prog.globals[3]?).map (·.type) = some 214).symm.trans ht1)
  obtain rfl := Option.some.inj ((by kernel_rfl : (Tryz.prog.globals[0]?).map (·.type) = some 80).symm.trans ht2)
  subst e2
  subst e1
  subst e0
  refine ⟨?_, ?_⟩
  · have hc : cs1.toList = (shaK.map fun (n : Nat) => (n : Int)).map fun z => Value.int .u32 z :=
      Lib.cells_of_tab (n := 64) (k := .u32) (zs := shaK.map fun (n : Nat) => (n : Int)) Tryz.underlying214 Tryz.underlying109 (by kernel_rfl) (by kernel_rfl) hd1
    have hT : Lib.TabIs Tryz.prog W "yardstick/digest.round" .u32 (shaK.map fun (n : Nat) => (n : Int)) := by
      unfold Lib.TabIs
      rw [hv1, ← hc]
    intro j v hv
    rw [List.getElem?_map] at hv
    obtain ⟨x, hx, rfl⟩ := Option.map_eq_some_iff.1 hv
    have hj : j < shaK.length := (List.getElem?_eq_some_iff.1 hx).1
    have := hT.cell (g := 3) (by kernel_rfl) j (by simpa using hj)
    rw [Nat.zero_add, this]
    simp [List.getD_eq_getElem?_getD, List.getElem?_map, hx, wv]
  · obtain ⟨l2⟩ := cs2
    have ok2 : ∀ u v, l2 = [.iface u v] → Value.okWide Tryz.prog W .any 0 u v := fun u v e => by
      subst e
      exact (hrows 0 0 (by simp [MemPlace.row])).2 u v (by simpa using World.var?_cell hg2 hv2 0)
    obtain ⟨a, s, rfl, -⟩ := errorString_of_trod Tryz.underlying80 rowErr Tryz.underlying222 Tryz.underlying244 rfl rfl Tryz.underlying9 (by kernel_rfl) (by kernel_rfl) hd2 ok2
    exact ⟨a, show W.cell? ⟨0, 0, none⟩ = some (.iface 222 (.pointer (some a))) from by simpa using World.var?_cell hg2 hv2 0⟩

set_option maxHeartbeats 2000000 in
set_option maxRecDepth 100000 in
theorem contract (H : Type) (enc : TypeId × Value → H) (W : World) (base : Nat) (args : Array Value) (ds gs : List (DataW H)) (before : List MemPlace)
    (hval : ∀ (j : Nat) t v, Tryz.f3.params[j]? = some t → args[j]? = some v → Value.okWide Tryz.prog W .any base t v)
    (hW : DataW.Whole enc Tryz.prog Tryz.f3.params.toList Rows.journalOpensAnythingSpec.vars false W args.toList ds gs before) (hL : laidMetH Tryz.prog Rows.journalOpensAnythingRow.laid W) :
    Calls Tryz.prog 3 args W fun e W' => ∃ v, e = .returned v ∧ Rows.journalOpensAnythingSpec.post enc Tryz.prog Tryz.f3 false true false false W args v W' := by
  have hW' := hW
  obtain ⟨p, q, hA0, hV, rfl, hfz, hnd⟩ := hW
  have hA : DataW.TrodAll enc Tryz.prog W 0 (fun _ => true) true Tryz.f3.params.toList args.toList ds p := hA0
  rw [Tryz.params3] at hA hval
  obtain ⟨v0, vs0, d0, ds0, p0, q0, hargs, rfl, rfl, h0, r0⟩ := trodAll_cons hA
  obtain ⟨v1, vs1, d1, ds1, p1, q1, rfl, rfl, rfl, h1, r1⟩ := trodAll_cons r0
  obtain ⟨v2, vs2, d2, ds2, p2, q2, rfl, rfl, rfl, h2, r2⟩ := trodAll_cons r1
  obtain ⟨v3, vs3, d3, ds3, p3, q3, rfl, rfl, rfl, h3, r3⟩ := trodAll_cons r2
  obtain ⟨v4, vs4, d4, ds4, p4, q4, rfl, rfl, rfl, h4, r4⟩ := trodAll_cons r3
  obtain ⟨rfl, rfl, rfl⟩ := trodAll_nil r4
  obtain rfl : args = #[v0, v1, v2, v3, v4] := by cases args; simp_all
  obtain ⟨rfl, rfl⟩ := trodVars_none hV
  obtain ⟨n, rfl, _, _, w0⟩ := open_int Tryz.underlying3 (hval 0 3 v0 rfl rfl) h0
  have c0 := bounds_i64 w0
  obtain ⟨s, rfl, _, _, w1⟩ := open_string Tryz.underlying9 (hval 1 9 v1 rfl rfl) h1
  unfold maxLen at w1
  obtain ⟨lA, l, lc, rfl, lw1, lwc, lw2, lw3⟩ := open_strsAt Tryz.underlying22 Tryz.underlying9 (by kernel_rfl) (hval 2 22 v2 rfl rfl) h2
  obtain ⟨at0, rfl, _, _, w3⟩ := open_int Tryz.underlying3 (hval 3 3 v3 rfl rfl) h3
  have c3 := bounds_i64 w3
  obtain ⟨c, rfl, _, _, w4⟩ := open_int Tryz.underlying5 (hval 4 5 v4 rfl rfl) h4
  have c4 := bounds_u8 w4
  unfold maxLen at lwc
  obtain ⟨hk, a, he⟩ := facts hL
  obtain ⟨c8, rfl⟩ : ∃ c8 : UInt8, c = (c8.toNat : Int) := ⟨UInt8.ofNat c.toNat, by simp; omega⟩
  refine (opens_law W a hk he n c0.1 c0.2 s w1 lA l lc (by omega) lw2 at0 c3.1 c3.2 c8).mono fun e W' ⟨he, hb⟩ => ?_
  subst he
  exact ⟨_, rfl, law_post laidOut reads_ok rfl Tryz.underlying4 rfl hW' rfl hb⟩

def wargs : Array Value := #[.int .i64 0, .string ⟨#[]⟩, .slice none 0 0, .int .i64 0, .int .u8 0]
noncomputable def laidWorld (os : Os) : World := World.laidAll Tryz.prog os Rows.journalOpensAnythingRow.laid
theorem laid_met (os : Os) : laidMet Tryz.prog Rows.journalOpensAnythingRow.laid ((laidWorld os).forCall (fun _ _ => 0) ⟨#[], wargs, []⟩).memory :=
  laidMet_laidAll wargs (by kernel_rfl) (by kernel_rfl)
theorem reads (os : Os) {H : Type} (enc : TypeId × Value → H) : ∃ places, DataW.whole enc Tryz.prog ((laidWorld os).forCall (fun _ _ => 0) ⟨#[], wargs, []⟩).memory Tryz.f3.params.toList Rows.journalOpensAnythingSpec.vars false wargs.toList 8 = some ([.lit (.int .i64 0), .lit (.string []), .nil, .lit (.int .i64 0), .lit (.int .u8 0)], [], places) :=
  ⟨[], by kernel_rfl⟩

set_option maxRecDepth 100000 in
theorem lifted (os : Os) (started : os.Started) (H : Type) (enc : TypeId × Value → H) (F : Stop.Interp) :
    ReturnsInHanded {} Tryz.checked os 3 .any ((OpenSpec.ofChange Rows.journalOpensAnythingSpec).preRow enc Tryz.prog Tryz.f3 Rows.journalOpensAnythingRow.domain false Rows.journalOpensAnythingRow.laid) (((OpenSpec.ofChange Rows.journalOpensAnythingSpec).at F).post enc Tryz.prog Tryz.f3 false true false false) := by
  obtain ⟨places, hx⟩ := reads os enc
  refine returnsInHanded_of_row (C := Tryz.checked) (s := OpenSpec.ofChange Rows.journalOpensAnythingSpec) own started (by kernel_rfl) Tryz.func3
    (witness_row_at (enc := enc) (C := Tryz.checked) false (laidWorld os) wargs (World.laidAll_os _ _ _) (by kernel_rfl) (by kernel_rfl) (by kernel_rfl)
      (OpenSpec.preRow_of_cond 8 hx (by kernel_rfl) (fun k hk => by cases hk) (by kernel_rfl) (laid_met os))) ?_
  intro W base args ds gs before hval hW _ _ _ hL _ _
  exact contract H enc W base args ds gs before hval hW hL

theorem said : Rows.JournalOpensAnythingSaid :=
  OpenClaim.holds_of_cond 3 Tryz.f3 rfl rfl rfl rfl rfl rfl rfl ⟨rfl, rfl, rfl, rfl, rfl⟩ rfl rfl rfl rfl rfl (by kernel_rfl) Tryz.func3 (by kernel_rfl)
    (of_decide_eq_true (by kernel_rfl)) (by unfold Func.isWrapper; rw [if_neg (of_decide_eq_false (by kernel_rfl))]; exact ⟨rfl, rfl⟩)
    (fun os started H enc _ F => by rw [OpenClaim.pre_eq_preRow]; exact lifted os started H enc F)

theorem plain (f : FuncId) (fn : Func) (hf : Tryz.pinned.checked.prog.funcNamed "yardstick/yardsticklaw26.JournalOpensAnything" = some f) (hfn : Tryz.pinned.checked.prog.funcs[f]? = some fn) :
    true = Tryz.pinned.checked.prog.looks [] ∧ ∀ (j : Nat) t, fn.params[j]? = some t → Tryz.pinned.checked.prog.wantsStandIn t = false := by
  obtain rfl : f = 3 := Option.some.inj ((show Tryz.prog.funcNamed "yardstick/yardsticklaw26.JournalOpensAnything" = some 3 by kernel_rfl).symm.trans hf) |>.symm
  obtain rfl : fn = Tryz.f3 := (Option.some.inj (Tryz.func3.symm.trans hfn)).symm
  refine ⟨by kernel_rfl, fun j t ht => ?_⟩
  have h : (Tryz.f3.params.toList.all fun t => Tryz.prog.wantsStandIn t == false) = true := by kernel_rfl
  have h2 := List.all_eq_true.1 h t (Array.mem_toList_iff.2 (Array.mem_of_getElem? ht))
  have h3 : Tryz.prog.wantsStandIn t = false := by simpa using h2
  exact h3

/-- THE CARD. -/
theorem card : Rows.JournalOpensAnythingCardSaid :=
  Claim7.holds_tied_plain_at .later [] _ _ _ _ said (fun _ h => by cases h) (by kernel_rfl) (fun _ h => by cases h) journalOpensAnything_row_tie rfl ⟨rfl, rfl⟩ (by kernel_rfl) rfl plain (by kernel_rfl)

end Go.Proofs.YtllmciiadceinaaGreatDoor.lawJournalOpensAnything
end
