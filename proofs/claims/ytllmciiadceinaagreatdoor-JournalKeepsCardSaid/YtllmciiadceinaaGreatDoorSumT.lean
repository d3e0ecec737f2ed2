/-
  Crash on a law's disk; what a disk holds for a crash; list laws of the journal's laws. Conditions: each contract's own. JournalSurvives returns true. Conditions: the package's variables hold what they hold. JournalKeeps returns true. Conditions: the package's variables hold what they hold. JournalKeeps: for every input the law returns true, and each argument reads afterwards as before. Condition: the listed package-level variables read as the program's text lays them (the card ties that).
-/
import Derived.Test.YtllmciiadceinaaGreatDoorJourN
import Derived.Test.YtllmciiadceinaaGreatDoorJourLc
import Derived.Test.YtllmciiadceinaaGreatDoorCAt
import Derived.Test.YtllmciiadceinaaGreatDoorCards
import Derived.Test.YtllmciiadceinaaGreatDoorTie
import Derived.Test.YtllmciiadceinaaGreatDoorRow
import Derived.Deep.DeepHandedRow
import Derived.Lib.LaidTab
import Derived.Lay
section
namespace Go.Proofs.YtllmciiadceinaaGreatDoor
open Go Go.RowKit Go.Shelf Wr

theorem LAt.cat {α : Type} {w : World} {B : Nat} {A : Option Addr} {f : α → Value} {l : List α} (h : LAt w B A f l) : ∀ j x, (l.flatMap (one f))[j]? = some x → ∃ a, A = some a ∧ w.cell? (a.add j) = some x := fun j x hx => by
  rw [flatMap_one, List.getElem?_map] at hx
  obtain ⟨y, hy, rfl⟩ := Option.map_eq_some_iff.1 hx
  obtain ⟨a, ha, _, hac⟩ := h j y hy
  exact ⟨a, ha, hac⟩
theorem OL.lit0 {α : Type} {B : Nat} {e : TypeId} {f : α → Value} (W : World) (hB : B ≤ W.heap.size) : OL (W.alloc (.cells #[] e)) B e 1 (one f) (.slice (some ⟨W.heap.size, 0, none⟩) 0 0) ([] : List α) :=
  World.ownsRow_lit (base := B) (e := e) (size := 1) W #[] 0 hB (by unfold maxLen; omega) rfl
theorem step_cat {P : Program} {α : Type} {w : World} {B : Nat} {e : TypeId} {size bytes : Nat} {f : α → List Value} {ops : Array Oper} {o : Oper} {a : Act} {K : Act → World → Prop} {Q : Exit → Act → World → Prop} {D : Prop} (hgd : o.guard = none) (s x : Operand) (t : TypeId)
    (ho : o.op = .call { callee := .builtin .append, args := #[s, x], argTypes := #[t, t] }) (E : Elem P t e size bytes) (hf : ∀ x, (f x).length = size) (v : Value) (l : List α) (hs : a.eval s = v) (h : OL w B e size f v l) (A : Option Addr) (m : List α) (k c : Nat) (hk : m.length = k) (hx : a.eval x = .slice A k c) (hc0 : A = none → c = 0)
    (hA : ∀ j x, (m.flatMap f)[j]? = some x → ∃ a, A = some a ∧ w.cell? (a.add j) = some x) (hone : ∀ x ∈ m, ∀ u ∈ f x, u.oneCell' = true) (h63 : l.length + k ≤ maxLen) (hby : (l.length + k) * bytes ≤ 140737488355328) (hB : B ≤ w.heap.size)
    (hk' : ∀ v' w', OL w' B e size f v' (l ++ m) → w.grownBy w' v.ownBlock → Below B w w' → K (a.put o.dst v') w') :
    if Region.wanted o (yielded ops a.tmps) = true then Oper.wp P o a w K Q else D := by
  have hw : Region.wanted o (yielded ops a.tmps) = true := by simp [Region.wanted, hgd]
  rw [if_pos hw]
  obtain ⟨v', w', r1, r2, r3, r4⟩ := h.run_cat (P := P) E o.type hf A m k c hk hc0 hA hone h63 hby hB
  unfold Oper.wp execOp
  simp only [ho, resolve, invoke, builtin, Sem.run_bind, Sem.run_pure, Result.andThen_ok, List.map_toArray, List.map_cons, List.map_nil, hs, hx, r1]
  exact hk' v' w' r2 r3 r4
theorem OL.nilcap {w : World} {B : Nat} {e : TypeId} {α : Type} {f : α → List Value} {A : Option Addr} {k c : Nat} {l : List α} {sz : Nat} (h : OL w B e sz f (.slice A k c) l) : A = none → c = 0 := fun e => by
  rcases h.2 with ⟨he, -⟩ | ⟨g, cap, cur, he, -⟩
  · injection he
  · injection he with e1 _ _; rw [e] at e1; cases e1
/-- The blocks that a call has laid are kept apart. -/
theorem DL.reserve {W0 W W' : World} {Z : Nat → Prop} {n d : Nat} {s : DS} (h : DL W0 Z W n d s) (u : Below W.heap.size W W') : DL W0 (fun k => Z k ∨ (W.heap.size ≤ k ∧ k < W'.heap.size)) W' n d s :=
  (h.mono (fun k hk hlt => by rcases hk with hk | hk; exact hk; omega)).quiet (Turns.of_below u)
theorem JL.reserve {W0 W W' : World} {Z : Nat → Prop} {n d j : Nat} {s : DS} {t : TS} {brk : Bool} (h : JL W0 Z W n d s j t brk) (u : Below W.heap.size W W') : JL W0 (fun k => Z k ∨ (W.heap.size ≤ k ∧ k < W'.heap.size)) W' n d s j t brk :=
  (h.mono (fun k hk hlt => by rcases hk with hk | hk; exact hk; omega)).quiet (Turns.of_below u)
theorem reserve_lt {W W' : World} {Z : Nat → Prop} (hZ : ∀ k, Z k → k < W.heap.size) (hs : W.heap.size ≤ W'.heap.size) : ∀ k, (Z k ∨ (W.heap.size ≤ k ∧ k < W'.heap.size)) → k < W'.heap.size := fun k hk => by
  rcases hk with hk | hk
  · have := hZ k hk; omega
  · exact hk.2
theorem crash_D {W0 W : World} {Z : Nat → Prop} {n d : Nat} {s : DS} (h : DL W0 Z W n d s) (A : Option Addr) (keep : List Int) (kn cap : Nat) (hkn : keep.length = kn) (hk : kn ≤ 1000000) (hA : LAt W W.heap.size A iv keep) (torn : Int) (hp : s.pend.length ≤ 1000000) :
    Calls Tryz.prog 30 #[.pointer (some ⟨d, 0, none⟩), .slice A kn cap, .int .i64 torn] W fun e W' => e = .returned (.int .i64 0) ∧ DL W0 Z W' n d (s.crash keep torn) ∧ Turns (fun k => ¬ Z k) W W' := by
  obtain ⟨gd, gv, F, vp, h1, h2, h3⟩ := h
  refine (crash_walk h1 A keep kn cap hkn hk hA torn hp).mono ?_
  rintro e W1 ⟨rfl, ⟨vp', hd⟩, ht⟩
  exact ⟨rfl, ⟨gd, gv, F, vp', hd, h2, h3.then ht (fun k hk => .inr (h2 k hk).1)⟩, ht.mono fun k hk => (h2 k hk).2⟩

/-- Whatever survives a crash, the disk holds the one list or the other. -/
def Sv (n : Nat) (s : DS) (was want : List ByteArray) : Prop := ∀ keep torn, (s.crash keep torn).vis.length = n ∧ ∃ t, loadW (s.crash keep torn).vis TS.zero = some t ∧ (t.recs = was ∨ t.recs = want)
theorem Sv.clean {n : Nat} {s : DS} {t : TS} (hc : Clean n s t) (hg : Good n t) : Sv n s t.recs t.recs := fun keep torn => by
  obtain ⟨h1, h2⟩ := clean_crash hc hg keep torn
  exact ⟨h1, t, h2, .inl rfl⟩
theorem Sv.half {n : Nat} {s : DS} {t : TS} {L : List ByteArray} (hh : Half n s t L) (hg : Good n t) : Sv n s t.recs (t.recs ++ L) := fun keep torn => by
  obtain ⟨h1, h2⟩ := half_crash hh hg keep torn
  refine ⟨h1, ?_⟩
  rcases h2 with h2 | h2
  · exact ⟨t, h2, .inl rfl⟩
  · exact ⟨t.adds L, h2, .inr (adds_recs t L)⟩
theorem recs_le {n : Nat} {t : TS} (h : Good n t) : t.recs.length ≤ n := by
  have h1 := (storeL_le zero32 t.recs h.ok).2
  have h2 := h.size
  have h3 := h.fit
  omega
theorem cut1 {n : Nat} {s : DS} {t : TS} (hc : Clean n s t) (k : Nat) (hk : 0 < k) : Clean n (s.cut (k : Int)) t ∧ (s.cut (k : Int)).left = k ∧ (s.cut (k : Int)).pend = [] := by
  have e : s.cut (k : Int) = { s with off := false, left := k } := by
    unfold DS.cut
    rw [hc.off, if_neg (by decide), if_neg (by omega)]
    simp
    omega
  rw [e]
  exact ⟨⟨rfl, hc.pend, hc.dur, hc.vis⟩, rfl, hc.pend⟩
/-- Open behind a crash. -/
theorem open_after {n : Nat} {s : DS} {was want : List ByteArray} (h : Sv n s was want) (keep : List Int) (torn : Int) :
    ∃ t, openE (s.crash keep torn) = 0 ∧ loadW (s.crash keep torn).vis TS.zero = some t ∧ Clean n (openD (s.crash keep torn)) t ∧ Good n t ∧ (openD (s.crash keep torn)).left = 0 ∧ (t.recs = was ∨ t.recs = want) := by
  obtain ⟨h1, t, h2, h3⟩ := h keep torn
  obtain ⟨r1, r2, r3, r4⟩ := crash_rest s keep torn
  obtain ⟨o1, o2, o3, o4⟩ := open_law r1 r3 r4 r2 h1 h2
  exact ⟨t, o1, h2, o2, o3, o4, h3⟩
end Go.Proofs.YtllmciiadceinaaGreatDoor
end
section
namespace Go.Proofs.YtllmciiadceinaaGreatDoor
open Go Go.RowKit Go.Shelf Wr

/-- What an append to a clean disk does, the three ways. -/
theorem surv_step {n : Nat} {s : DS} {t : TS} {L : List ByteArray} (hc : Clean n s t) (hg : Good n t) (hs : longB L = false) :
    ∃ s' t' b' E, appE n s t false L = E ∧ appD n s t false L = s' ∧ appT n s t false L = t' ∧ appB n s t false L = b' ∧ Good n t' ∧ s'.pend.length ≤ 1 ∧
      ((E = 0 ∧ Clean n s' t' ∧ t'.recs = t.recs ++ L ∧ b' = false ∧ s'.left ≤ s.left) ∨ (E = 261 ∧ s' = s ∧ t' = t ∧ b' = false) ∨ (E = 251 ∧ Half n s' t L ∧ t' = t ∧ b' = true ∧ (s.left = 1 ∨ s.left = 2))) := by
  by_cases hf : t.size + (outL t L).length ≤ n
  · rcases clean_append hc hg hs hf with ⟨h1, h2, h3, h4, h5, -, h7⟩ | ⟨h1, h2, h3, h4, h5⟩
    · exact ⟨_, _, _, _, h1, rfl, h4, h5, h3, by rw [h2.pend]; decide, .inl ⟨rfl, h2, adds_recs t L, rfl, h7⟩⟩
    · refine ⟨_, _, _, _, h1, rfl, h3, h4, hg, ?_, .inr (.inr ⟨rfl, h2, rfl, rfl, h5⟩)⟩
      rcases h2.st with ⟨q, -⟩ | ⟨q, -⟩ <;> rw [q] <;> simp
  · obtain ⟨h1, h2, h3, h4⟩ := app_full (s := s) hs (by omega : n < t.size + (outL t L).length)
    exact ⟨_, _, _, _, h1, h2, h3, h4, hg, by rw [hc.pend]; decide, .inr (.inl ⟨rfl, rfl, rfl, rfl⟩)⟩

/-- What is known at the head of a round. -/
structure SurvR (n : Nat) (s : DS) (t : TS) (b : Bool) (was want : List ByteArray) (more : Prop) : Prop where
  go : more → b = false ∧ Clean n s t ∧ s.left = 0 ∧ was = t.recs ∧ want = t.recs
  good : Good n t
  sv : Sv n s was want
  pend : s.pend.length ≤ 1
/-- Two lists of strings that are kept apart. -/
structure TwoL (W : World) (Z : Nat → Prop) (v6 v7 : Value) (was want : List ByteArray) : Prop where
  o6 : OLs W 0 v6 was
  o7 : OLs W 0 v7 want
  z6 : ∀ g, v6.ownBlock = some g → Z g
  z7 : ∀ g, v7.ownBlock = some g → Z g
theorem TwoL.keep {W W' : World} {Z : Nat → Prop} {v6 v7 : Value} {was want : List ByteArray} (h : TwoL W Z v6 v7 was want) (t : Turns (fun k => ¬ Z k) W W') : TwoL W' Z v6 v7 was want :=
  ⟨h.o6.keep fun g hg => t.block g (h.o6.lt g hg).2 (fun e => e (h.z6 g hg)), h.o7.keep fun g hg => t.block g (h.o7.lt g hg).2 (fun e => e (h.z7 g hg)), h.z6, h.z7⟩
theorem TwoL.quiet {W W' : World} {Z : Nat → Prop} {v6 v7 : Value} {was want : List ByteArray} (h : TwoL W Z v6 v7 was want) (t : Turns (fun _ => False) W W') : TwoL W' Z v6 v7 was want := h.keep (t.mono fun _ e => e.elim)

set_option maxRecDepth 100000 in
set_option maxHeartbeats 32000000 in
theorem survives_law (W : World) (a : Addr) (hK : KAt W) (hE : ErrAt W a) (N : Int) (hN1 : -9223372036854775808 ≤ N) (hN2 : N ≤ 9223372036854775807) (A : Option Addr) (l : List GR) (c : Nat) (hl : l.length ≤ 9223372036854775807) (hA : CAt W W.heap.size A 1 GR.cells l) (hok : ∀ y ∈ l, y.ok W)
    (cut : Int) (hc1 : -9223372036854775808 ≤ cut) (hc2 : cut ≤ 9223372036854775807) (kA : Option Addr) (keep : List Int) (kc : Nat) (hkl : keep.length ≤ 9223372036854775807) (hkc : keep.length ≤ kc) (hkA : LAt W W.heap.size kA iv keep) (torn : Int) :
    Calls Tryz.prog 5 #[.int .i64 N, .slice A l.length c, .int .i64 cut, .slice kA keep.length kc, .int .i64 torn] W fun e W' => e = .returned (.bool true) ∧ Below W.heap.size W W' := by
  have HK := Lib.hid hK
  have HE := Lib.hid hE
  have HA := Lib.hid hA
  have HOK := Lib.hid hok
  have HKA := Lib.hid hkA
  have HSZ := Lib.hid (jsize_walk · N hN1 hN2)
  have HPK := Lib.hid (pick_walk (x := cut) (n := 3) · hc1 hc2 (by omega) (by omega))
  have hpr := pickZ_range cut (n := 3) (by omega)
  obtain ⟨pc, hpc⟩ : ∃ pc : Nat, pickZ cut 3 = (pc : Int) := ⟨(pickZ cut 3).toNat, by omega⟩
  rw [hpc] at HPK hpr
  have hnr := sizeN_range N
  obtain ⟨n, hn⟩ : ∃ n, sizeN N = n := ⟨_, rfl⟩
  rw [hn] at HSZ hnr
  have HSN := Lib.hid (sane_walk W a hK hE)
  clear hK hE hA hn hok hkA hpc
  go_enter Tryz.func5, Tryz.ntmps5
  go_wp2_with fail
  refine HSN.out.mono ?_
  rintro e W1 ⟨rfl, hb1⟩
  have hu1 : Turns (fun _ => False) W W1 := Turns.of_below hb1
  have HU1 := Lib.hid hu1
  clear hb1 hu1
  go_wp2_with (first | (go_at_call 15; refine (HSZ.out _).mono ?_; rintro e w1 ⟨rfl, rfl⟩) | fail)
  refine (new_D (W0 := W) (Z := fun _ => False) HU1.out (fun k e => e.elim) n hnr.1 (by omega)).mono ?_
  rintro e W2 ⟨⟨d, rfl, h⟩, -⟩
  have HD := Lib.hid h
  clear h
  go_wp2_with fail
  refine (open_D HD.out (fun k e => e.elim) a HK.out HE.out (by rw [show (DS.fresh n).pend = [] from rfl]; decide) (by rw [show (DS.fresh n).left = 0 from rfl]; decide)).mono ?_
  obtain ⟨he, ho⟩ := sane_open n
  rintro e W3 ⟨hr, -⟩
  unfold OpenD at hr
  rw [he, ho, (fresh_clean n).load Good.zero] at hr
  rcases hr with ⟨-, j, t, rfl, ht, hj⟩ | ⟨hn, -⟩
  case inr => exact absurd rfl hn
  cases ht
  obtain ⟨Z, hZ⟩ : ∃ Z : Nat → Prop, Z = fun _ => False := ⟨_, rfl⟩
  rw [← hZ] at hj
  have HJ := Lib.hid hj
  have HZ : Hid (∀ k, Z k → k < W3.heap.size) := Lib.hid (by rw [hZ]; exact fun k e => e.elim)
  have HTL : Hid (TwoL W3 Z (.slice none ([] : List ByteArray).length 0) (.slice none ([] : List ByteArray).length 0) [] []) := Lib.hid ⟨OL.nil, OL.nil, fun g e => by simp [Value.ownBlock] at e, fun g e => by simp [Value.ownBlock] at e⟩
  have HC : Hid (SurvR n (DS.fresh n) TS.zero false [] [] (0 < l.length ∧ 0 < 8)) := Lib.hid ⟨fun _ => ⟨rfl, fresh_clean n, rfl, rfl, rfl⟩, Good.zero, Sv.clean (fresh_clean n) Good.zero, Nat.zero_le _⟩
  clear hj he ho HD hZ
  go_wp2_with fail
  go_loopw [16, 17, 18] (fun v16 v17 v18 wr => ∃ (k : Nat) (s : DS) (t : TS) (b : Bool) (Z : Nat → Prop) (A6 A7 : Option Addr) (c6 c7 : Nat) (was want : List ByteArray), k ≤ l.length ∧ k ≤ 8 ∧ v18 = .int .i64 k ∧ v16 = .slice A6 was.length c6 ∧ v17 = .slice A7 want.length c7 ∧ Hid (JL W Z wr n d s j t b) ∧ Hid (∀ k, Z k → k < wr.heap.size) ∧ Hid (TwoL wr Z v16 v17 was want) ∧ Hid (SurvR n s t b was want (k < l.length ∧ k < 8))) (fun _ _ v _ => l.length - (intOf v).toNat)
  case atStart => exact ⟨0, _, _, _, Z, none, none, 0, 0, [], [], by omega, by omega, rfl, rfl, rfl, HJ, HZ, HTL, HC⟩
  case round =>
    clear HJ HZ HTL HC
    obtain ⟨k, s, t, b, Z, A6, A7, c6, c7, was, want, hk, hk8, rfl, rfl, rfl, hJ, hZ, hTL, hC⟩ := hrel
    by_cases hlt : k < l.length
    · by_cases hlt2 : k < 8
      · obtain ⟨rfl, hcl, hleft, rfl, rfl⟩ := hC.out.go ⟨hlt, hlt2⟩
        have d1 : decide ((k : Int) < (l.length : Int)) = true := by simp [hlt]
        obtain ⟨p, rfl, hpb, hpc⟩ := HA.out.get hlt
        have hyo := HOK.out _ (List.getElem_mem hlt)
        obtain ⟨y, hy⟩ : ∃ y, l[k] = y := ⟨_, rfl⟩
        rw [hy] at hpc hyo
        obtain ⟨yA, yl, yc⟩ := y
        obtain ⟨o1, o2, o3, o4⟩ := hyo
        dsimp only at o1 o2 o3 o4
        unfold maxLen at o2
        have HCELL : Hid (∀ V, Below W.heap.size W V → V.cell? (p.add k) = some (.slice yA yl.length yc)) := Lib.hid (fun V hb => by
          rw [hb.cell (p := p.add k) (by rw [addr_add_block]; exact hpb)]
          have := hpc 0 (.slice yA yl.length yc) rfl
          rw [Nat.mul_one, Nat.add_zero] at this
          exact this)
        have HFEW : Hid (∀ V, Below W.heap.size W V → Calls Tryz.prog 11 #[.slice yA yl.length yc] V fun e w' => (∃ v, e = .returned v ∧ OLs w' V.heap.size v (fewS yl)) ∧ Below V.heap.size V w') := Lib.hid (fun V hb => few_walk yA yl yc (by omega) V ((o3.below hb).more hb.size))
        have hfl := fewS_length yl
        have hsh := fewS_short yl
        obtain ⟨L, hL⟩ : ∃ L, fewS yl = L := ⟨_, rfl⟩
        rw [hL] at HFEW hfl hsh
        have HSH := Lib.hid hsh
        have HCL := Lib.hid (And.intro hcl (And.intro hleft hC.out.good))
        have hrl := recs_le hC.out.good
        clear hy hL hpc o1 o2 o3 o4 hcl hleft hpb hC hTL hsh
        go_wp2_with fail
        refine (records_O hJ.out.old (by omega)).mono ?_
        rintro e W5 ⟨⟨v5, rfl, ho5⟩, hb5⟩
        obtain ⟨A5, c5, rfl, -, -⟩ := ho5.slice
        have HBW5 := Lib.hid (hJ.out.quiet (Turns.of_below hb5)).below
        have HO5 := Lib.hid ho5
        have hcell5 := HCELL.out W5 HBW5.out
        have hcn5 := ho5.nilcap
        have z1 : (0 : Int) ≤ (k : Int) := by omega
        have z2 : (k : Int) < (l.length : Int) := by omega
        clear ho5
        go_wp2_with fail
        have hS4 : W5.drew.cell? (p.add k) = some (.slice yA yl.length yc) := hcell5
        have hBL : Below W.heap.size W (W5.alloc (.cells #[] 9)).drew := (HBW5.out.alloc HBW5.out.size _).drew
        have hS5 := HCELL.out _ hBL
        have HB7 : Hid (∀ W7, Below W5.heap.size (W5.alloc (.cells #[] 9)).drew W7 → Below W.heap.size W W7) := Lib.hid (fun W7 hb => hBL.trans (hb.mono HBW5.out.size))
        have HS7 : Hid (∀ W7, Below W5.heap.size (W5.alloc (.cells #[] 9)).drew W7 → W5.heap.size ≤ W7.heap.size) := Lib.hid (fun W7 hb => Nat.le_trans (by show _ ≤ (World.alloc _ _).heap.size; rw [World.size_alloc]; omega) hb.size)
        have hlat5 := LAt.cat (HO5.out.lat.below ((Below.refl _ W5).alloc (Nat.le_refl _) (.cells #[] 9)).drew)
        clear hBL
        refine wp_region_noPanic ?_
        refine wp_region_held_drew (S := fun w' => w'.cell? (p.add k) = some (.slice yA yl.length yc)) (by kernel_rfl) hS4 (fun hHeld => ?_)
        refine wpAnyH_take (i := 1) (oi := { dst := some 50, op := Op.move (Operand.tmp 16), type := 22, pos := "law.go:183", after := #[], guard := none }) (v := ?_) rfl (by kernel_rfl) (by kernel_rfl) (by kernel_rfl) (fun _ _ _ h => h) (Or.inl ⟨by rfl, ?_⟩) (by assumption) ?_
        rotate_left
        · intro w hSw; (try dsimp only at hSw); go_simp <;> with_reducible rfl
        try simp only [Act.put, List.setIfInBounds_toArray, List.set_cons_zero, List.set_cons_succ]
        refine wpAnyH_take (i := 3) (oi := { dst := some 52, op := Op.move (Operand.tmp 1), type := 48, pos := "law.go:183", after := #[], guard := none }) (v := ?_) rfl (by kernel_rfl) (by kernel_rfl) (by kernel_rfl) (fun _ _ _ h => h) (Or.inl ⟨by rfl, ?_⟩) (by assumption) ?_
        rotate_left
        · intro w hSw; (try dsimp only at hSw); go_simp <;> with_reducible rfl
        try simp only [Act.put, List.setIfInBounds_toArray, List.set_cons_zero, List.set_cons_succ]
        refine wpAnyH_take (i := 4) (oi := { dst := some 53, op := Op.move (Operand.tmp 18), type := 3, pos := "law.go:183", after := #[], guard := none }) (v := ?_) rfl (by kernel_rfl) (by kernel_rfl) (by kernel_rfl) (fun _ _ _ h => h) (Or.inl ⟨by rfl, ?_⟩) (by assumption) ?_
        rotate_left
        · intro w hSw; (try dsimp only at hSw); go_simp <;> with_reducible rfl
        try simp only [Act.put, List.setIfInBounds_toArray, List.set_cons_zero, List.set_cons_succ]
        refine wpAnyH_take (i := 5) (oi := { dst := some 54, op := Op.indexAddr 48 (Operand.tmp 52) (Operand.tmp 53), type := 0, pos := "law.go:183", after := #[{ on := 3, ground := Ground.data }, { on := 4, ground := Ground.data }], guard := none }) (v := ?_) rfl (by kernel_rfl) (by kernel_rfl) (by kernel_rfl) (fun _ _ _ h => h) (Or.inl ⟨by rfl, ?_⟩) (by assumption) ?_
        rotate_left
        · intro w hSw; (try dsimp only at hSw); go_simp <;> with_reducible rfl
        try simp only [Act.put, List.setIfInBounds_toArray, List.set_cons_zero, List.set_cons_succ]
        refine wpAnyH_take (i := 6) (oi := { dst := some 55, op := Op.load 22 (Operand.tmp 54), type := 22, pos := "law.go:183", after := #[{ on := 5, ground := Ground.data }], guard := none }) (v := ?_) rfl (by kernel_rfl) (by kernel_rfl) (by kernel_rfl) (fun _ _ _ h => h) (Or.inl ⟨by rfl, ?_⟩) (by assumption) ?_
        rotate_left
        · intro w hSw; (try dsimp only at hSw); go_simp <;> with_reducible rfl
        try simp only [Act.put, List.setIfInBounds_toArray, List.set_cons_zero, List.set_cons_succ]
        refine wpAnyH_ready (rs := [0]) (by kernel_rfl) (by simp) ?_
        refine AllReadyH.cons (o := { dst := some 49, op := Op.buildSlice 22 0 #[], type := 22, pos := "law.go:183", after := #[], guard := none }) rfl (fun K hK => ?_) ?_
        · go_simp
          refine hK.out _ _ (by exact hS5) (fun hHeld => ?_)
          clear hK K
          try simp only [Act.put, List.setIfInBounds_toArray, List.set_cons_zero, List.set_cons_succ]
          refine wpAnyH_ready (rs := [2]) (by kernel_rfl) (by simp) ?_
          refine AllReadyH.cons (o := { dst := some 51, op := Op.call { callee := Callee.builtin Builtin.append, args := #[Operand.tmp 49, Operand.tmp 50], argTypes := #[22, 22] }, type := 22, pos := "law.go:183", after := #[{ on := 0, ground := Ground.data }, { on := 1, ground := Ground.data }], guard := none }) rfl (fun K hK => ?_) ?_
          · refine step_cat (by rfl) (.tmp 49) (.tmp 50) 22 (by rfl) elemStr (fun _ => rfl) (.slice (some ⟨W5.heap.size, 0, none⟩) 0 0) ([] : List ByteArray) (by rfl) (OL.drew (OL.lit0 (B := W5.heap.size) (e := 9) W5 (Nat.le_refl _))) A5 t.recs t.recs.length c5 rfl (by rfl) hcn5 hlat5 (fun x _ u hu => by rw [List.mem_singleton.1 hu]; rfl) (by unfold maxLen; simp; omega) (by simp; omega) (by show _ ≤ (World.alloc _ _).heap.size; rw [World.size_alloc]; omega) ?_
            intro v7 W7 ho7 hg7 hb7
            refine hK.out _ _ (HCELL.out _ (HB7.out _ hb7)) (fun hHeld => ?_)
            clear hK K
            try simp only [Act.put, List.setIfInBounds_toArray, List.set_cons_zero, List.set_cons_succ]
            refine wpAnyH_ready (rs := [7]) (by kernel_rfl) (by simp) ?_
            refine AllReadyH.cons (o := { dst := some 56, op := Op.call { callee := Callee.value (Operand.func 11), args := #[Operand.tmp 55], argTypes := #[22] }, type := 22, pos := "law.go:183", after := #[{ on := 6, ground := Ground.data }, { on := 2, ground := Ground.chain }], guard := none }) rfl (fun K hK => ?_) ?_
            · go_simp
              go_at_call 11
              refine (HFEW.out _ (HB7.out _ hb7)).mono ?_
              rintro e W8 ⟨⟨v8, rfl, ho8⟩, hb8⟩
              obtain ⟨A8, c8, rfl, -, -⟩ := ho8.slice
              refine hK.out _ _ (HCELL.out _ ((HB7.out _ hb7).trans (hb8.mono (HB7.out _ hb7).size))) (fun hHeld => ?_)
              clear hK K
              try simp only [Act.put, List.setIfInBounds_toArray, List.set_cons_zero, List.set_cons_succ]
              refine wpAnyH_ready (rs := [8]) (by kernel_rfl) (by simp) ?_
              refine AllReadyH.cons (o := { dst := some 57, op := Op.call { callee := Callee.builtin Builtin.append, args := #[Operand.tmp 51, Operand.tmp 56], argTypes := #[22, 22] }, type := 22, pos := "law.go:183", after := #[{ on := 2, ground := Ground.data }, { on := 7, ground := Ground.data }, { on := 7, ground := Ground.chain }], guard := none }) rfl (fun K hK => ?_) ?_
              · refine step_cat (by rfl) (.tmp 51) (.tmp 56) 22 (by rfl) elemStr (fun _ => rfl) v7 ([] ++ t.recs) (by rfl) (ho7.below hb8 (Nat.le_refl _)) A8 L L.length c8 rfl (by rfl) ho8.nilcap ho8.lat.cat (fun x _ u hu => by rw [List.mem_singleton.1 hu]; rfl) (by unfold maxLen; simp; omega) (by simp; omega) (Nat.le_trans (HS7.out _ hb7) hb8.size) ?_
                intro v9 W9 ho9 hg9 hb9
                refine hK.out _ _ (HCELL.out _ (((HB7.out _ hb7).trans (hb8.mono (HB7.out _ hb7).size)).trans (hb9.mono (HBW5.out.size)))) (fun hHeld => ?_)
                clear hK K
                try simp only [Act.put, List.setIfInBounds_toArray, List.set_cons_zero, List.set_cons_succ]
                refine wpAnyH_take (i := 9) (oi := { dst := some 17, op := Op.assign (Operand.tmp 57), type := 22, pos := "law.go:183", after := #[{ on := 8, ground := Ground.data }, { on := 8, ground := Ground.chain }, { on := 0, ground := Ground.phase }, { on := 1, ground := Ground.phase }, { on := 2, ground := Ground.phase }, { on := 3, ground := Ground.phase }, { on := 4, ground := Ground.phase }, { on := 5, ground := Ground.phase }, { on := 6, ground := Ground.phase }, { on := 7, ground := Ground.phase }, { on := 8, ground := Ground.phase }], guard := none }) (v := ?_) rfl (by kernel_rfl) (by kernel_rfl) (by kernel_rfl) (fun _ _ _ h => h) (Or.inl ⟨by rfl, ?_⟩) (by assumption) ?_
                rotate_left
                · intro w hSw; (try dsimp only at hSw); go_simp <;> with_reducible rfl
                try simp only [Act.put, List.setIfInBounds_toArray, List.set_cons_zero, List.set_cons_succ]
                refine wpAnyH_done (by kernel_rfl) ?_ _
                refine NoPanic.normal ?_
                have ho9' : OLs W9 W5.heap.size v9 (t.recs ++ L) := ho9
                obtain ⟨RL, hRL⟩ : ∃ RL, t.recs ++ L = RL := ⟨_, rfl⟩
                rw [hRL] at ho9'
                have HRL2 := Lib.hid hRL
                clear hRL
                obtain ⟨A9, c9, rfl, -, -⟩ := ho9'.slice
                have b59 : Below W5.heap.size W5 W9 := (((((Below.refl _ W5).alloc (Nat.le_refl _) _).drew.trans hb7).trans (hb8.mono (HS7.out _ hb7))).trans hb9)
                have br9 : Below wr.heap.size wr W9 := hb5.trans (b59.mono hb5.size)
                obtain ⟨Z9, hZ9⟩ : ∃ Z9 : Nat → Prop, Z9 = fun q => Z q ∨ (wr.heap.size ≤ q ∧ q < W9.heap.size) := ⟨_, rfl⟩
                have HJ9 : Hid (JL W Z9 W9 n d s j t false) := Lib.hid (by rw [hZ9]; exact hJ.out.reserve br9)
                have HZ9 : Hid (∀ q, Z9 q → q < W9.heap.size) := Lib.hid (by rw [hZ9]; exact reserve_lt hZ.out br9.size)
                have HTL9 : Hid (TwoL W9 Z9 (.slice A5 t.recs.length c5) (.slice A9 RL.length c9) t.recs RL) := Lib.hid (by
                  rw [hZ9]
                  refine ⟨(HO5.out.below b59 (Nat.le_refl _)).base (Nat.zero_le _), ho9'.base (Nat.zero_le _), fun g hg => .inr ?_, fun g hg => .inr ?_⟩
                  · have h1 := HO5.out.lt g hg
                    have h2 := b59.size
                    exact ⟨h1.1, by omega⟩
                  · have h1 := ho9'.lt g hg
                    have h2 := hb5.size
                    exact ⟨by omega, h1.2⟩)
                clear ho9 ho9' b59 br9 hZ9 hb9 hg9 ho8 hb8 hg7 ho7 hb7 HS7 HB7 hlat5 hS5 hS4 hcell5 hcn5 HO5 hb5 hHeld
                have wl : IntKind.i64.wrap ((l.length : Int) - 1) = (l.length : Int) - 1 := by rw [IntKind.wrap_i64]; omega
                have h3 : (((k : Int) == (l.length : Int) - 1) = true ∧ k + 1 = l.length) ∨ ((((k : Int) == (l.length : Int) - 1) = false ∧ ((k : Int) == 7) = true) ∧ k = 7) ∨ ((((k : Int) == (l.length : Int) - 1) = false ∧ ((k : Int) == 7) = false) ∧ k + 1 < l.length ∧ k < 7) := by
                  by_cases q1 : k + 1 = l.length
                  · left; exact ⟨by simp; omega, q1⟩
                  · right
                    by_cases q2 : k = 7
                    · left; exact ⟨⟨by simp; omega, by simp; omega⟩, q2⟩
                    · right; exact ⟨⟨by simp; omega, by simp; omega⟩, by omega, by omega⟩
                rcases h3 with ⟨e1, hq⟩ | ⟨⟨e1, e7⟩, hq⟩ | ⟨⟨e1, e7⟩, hq⟩
                · have HQ : Hid (¬ (k + 1 < l.length ∧ k + 1 < 8)) := Lib.hid (by omega)
                  clear hq
                  go_wp2_with (first | (go_at_call 14; refine (HPK.out _).mono ?_; rintro e w1 ⟨rfl, rfl⟩) | fail)
                  obtain ⟨f1, f2, f3⟩ := cut1 HCL.out.1 (pc + 1) (by omega)
                  rw [show ((pc + 1 : Nat) : Int) = 1 + (pc : Int) by omega] at f1 f2 f3
                  refine (cut_J HJ9.out (1 + (pc : Int))).mono ?_
                  rintro e W10 ⟨rfl, hj10, ht10⟩
                  have HJ10 := Lib.hid hj10
                  have HTL10 := Lib.hid (HTL9.out.keep ht10)
                  have HZ10 : Hid (∀ q, Z9 q → q < W10.heap.size) := Lib.hid (fun q hq => Nat.lt_of_lt_of_le (HZ9.out q hq) ht10.size)
                  obtain ⟨s10, hs10⟩ : ∃ s10, s.cut (1 + (pc : Int)) = s10 := ⟨_, rfl⟩
                  rw [hs10] at HJ10 f1 f2 f3
                  have HC10 := Lib.hid f1
                  have HP10 := Lib.hid f3
                  have HL10 := Lib.hid (show s10.left ≤ 3 by omega)
                  have HG10 : Hid ((k + 1 < l.length ∧ k + 1 < 8) → s10.left = 0) := Lib.hid (fun q => (HQ.out q).elim)
                  have HN10 : Hid (¬ (s10.left = 1 ∨ s10.left = 2) ∨ ¬ (k + 1 < l.length ∧ k + 1 < 8)) := Lib.hid (.inr HQ.out)
                  clear hj10 ht10 HJ9 HTL9 HZ9 f1 f2 f3 hs10
                  have HB10 := Lib.hid HJ10.out.below
                  have hcell10 := HCELL.out W10 HB10.out
                  go_wp2_with fail
                  refine (HFEW.out W10 HB10.out).mono ?_
                  rintro e W11 ⟨⟨v11, rfl, ho11⟩, hb11⟩
                  obtain ⟨A11, c11, rfl, -, -⟩ := ho11.slice
                  obtain ⟨s', t', b', E, g1, g2, g3, g4, g5, g6, g7⟩ := surv_step HC10.out HCL.out.2.2 HSH.out
                  have HG5 := Lib.hid g5
                  have HG6 := Lib.hid g6
                  have hl10 := HL10.out
                  have HAP := Lib.hid (append_J (HJ10.out.quiet (Turns.of_below hb11)) (fun q hq => Nat.lt_of_lt_of_le (HZ10.out q hq) hb11.size) A11 L L.length c11 rfl ho11.lat (by omega) HK.out (by rw [HP10.out]; decide) (by omega) HCL.out.2.2)
                  rw [g1, g2, g3, g4] at HAP
                  have HTL11 := Lib.hid (HTL10.out.quiet (Turns.of_below hb11))
                  have HZ11 : Hid (∀ q, Z9 q → q < W11.heap.size) := Lib.hid (fun q hq => Nat.lt_of_lt_of_le (HZ10.out q hq) hb11.size)
                  clear g1 g2 g3 g4 g5 g6 ho11 hb11 hl10 HJ10 HTL10 HZ10 hcell10
                  go_wp2_with fail
                  refine HAP.out.mono ?_
                  rintro e W12 ⟨rfl, hj12, ht12⟩
                  have HJ12 := Lib.hid hj12
                  have HTL12 := Lib.hid (HTL11.out.keep ht12)
                  have HZ12 : Hid (∀ q, Z9 q → q < W12.heap.size) := Lib.hid (fun q hq => Nat.lt_of_lt_of_le (HZ11.out q hq) ht12.size)
                  clear hj12 ht12 HAP HTL11 HZ11
                  rcases g7 with ⟨rfl, q1, q2, rfl, q4⟩ | ⟨rfl, rfl, rfl, rfl⟩ | ⟨rfl, q1, rfl, rfl, q4⟩
                  · have HS : Hid (SurvR n s' t' false RL RL (k + 1 < l.length ∧ k + 1 < 8)) := Lib.hid ⟨fun q => ⟨rfl, q1, by have := HG10.out q; omega, by rw [q2, HRL2.out], by rw [q2, HRL2.out]⟩, HG5.out, by have := Sv.clean q1 HG5.out; rw [q2, HRL2.out] at this; exact this, HG6.out⟩
                    clear q1 q2 q4
                    go_wp2_with fail
                    exact ⟨⟨k + 1, s', t', false, Z9, A9, A9, c9, c9, _, _, by omega, by omega, by go_num, rfl, rfl, HJ12, HZ12, Lib.hid ⟨HTL12.out.o7, HTL12.out.o7, HTL12.out.z7, HTL12.out.z7⟩, HS⟩, by simp only [intOf]; omega⟩
                  · have HS : Hid (SurvR n s' t' false t'.recs t'.recs (k + 1 < l.length ∧ k + 1 < 8)) := Lib.hid ⟨fun q => ⟨rfl, HC10.out, HG10.out q, rfl, rfl⟩, HG5.out, Sv.clean HC10.out HG5.out, HG6.out⟩
                    go_wp2_with fail
                    exact ⟨⟨k + 1, s', t', false, Z9, A5, A5, c5, c5, _, _, by omega, by omega, by go_num, rfl, rfl, HJ12, HZ12, Lib.hid ⟨HTL12.out.o6, HTL12.out.o6, HTL12.out.z6, HTL12.out.z6⟩, HS⟩, by simp only [intOf]; omega⟩
                  · have HS : Hid (SurvR n s' t' true t'.recs RL (k + 1 < l.length ∧ k + 1 < 8)) := Lib.hid ⟨fun q => (HQ.out q).elim, HG5.out, by have := Sv.half q1 HG5.out; rw [HRL2.out] at this; exact this, HG6.out⟩
                    clear q1 q4
                    go_wp2_with fail
                    exact ⟨⟨k + 1, s', t', true, Z9, A5, A9, c5, c9, _, _, by omega, by omega, by go_num, rfl, rfl, HJ12, HZ12, HTL12, HS⟩, by simp only [intOf]; omega⟩
                · have HQ : Hid (¬ (k + 1 < l.length ∧ k + 1 < 8)) := Lib.hid (by omega)
                  clear hq
                  go_wp2_with (first | (go_at_call 14; refine (HPK.out _).mono ?_; rintro e w1 ⟨rfl, rfl⟩) | fail)
                  obtain ⟨f1, f2, f3⟩ := cut1 HCL.out.1 (pc + 1) (by omega)
                  rw [show ((pc + 1 : Nat) : Int) = 1 + (pc : Int) by omega] at f1 f2 f3
                  refine (cut_J HJ9.out (1 + (pc : Int))).mono ?_
                  rintro e W10 ⟨rfl, hj10, ht10⟩
                  have HJ10 := Lib.hid hj10
                  have HTL10 := Lib.hid (HTL9.out.keep ht10)
                  have HZ10 : Hid (∀ q, Z9 q → q < W10.heap.size) := Lib.hid (fun q hq => Nat.lt_of_lt_of_le (HZ9.out q hq) ht10.size)
                  obtain ⟨s10, hs10⟩ : ∃ s10, s.cut (1 + (pc : Int)) = s10 := ⟨_, rfl⟩
                  rw [hs10] at HJ10 f1 f2 f3
                  have HC10 := Lib.hid f1
                  have HP10 := Lib.hid f3
                  have HL10 := Lib.hid (show s10.left ≤ 3 by omega)
                  have HG10 : Hid ((k + 1 < l.length ∧ k + 1 < 8) → s10.left = 0) := Lib.hid (fun q => (HQ.out q).elim)
                  have HN10 : Hid (¬ (s10.left = 1 ∨ s10.left = 2) ∨ ¬ (k + 1 < l.length ∧ k + 1 < 8)) := Lib.hid (.inr HQ.out)
                  clear hj10 ht10 HJ9 HTL9 HZ9 f1 f2 f3 hs10
                  have HB10 := Lib.hid HJ10.out.below
                  have hcell10 := HCELL.out W10 HB10.out
                  go_wp2_with fail
                  refine (HFEW.out W10 HB10.out).mono ?_
                  rintro e W11 ⟨⟨v11, rfl, ho11⟩, hb11⟩
                  obtain ⟨A11, c11, rfl, -, -⟩ := ho11.slice
                  obtain ⟨s', t', b', E, g1, g2, g3, g4, g5, g6, g7⟩ := surv_step HC10.out HCL.out.2.2 HSH.out
                  have HG5 := Lib.hid g5
                  have HG6 := Lib.hid g6
                  have hl10 := HL10.out
                  have HAP := Lib.hid (append_J (HJ10.out.quiet (Turns.of_below hb11)) (fun q hq => Nat.lt_of_lt_of_le (HZ10.out q hq) hb11.size) A11 L L.length c11 rfl ho11.lat (by omega) HK.out (by rw [HP10.out]; decide) (by omega) HCL.out.2.2)
                  rw [g1, g2, g3, g4] at HAP
                  have HTL11 := Lib.hid (HTL10.out.quiet (Turns.of_below hb11))
                  have HZ11 : Hid (∀ q, Z9 q → q < W11.heap.size) := Lib.hid (fun q hq => Nat.lt_of_lt_of_le (HZ10.out q hq) hb11.size)
                  clear g1 g2 g3 g4 g5 g6 ho11 hb11 hl10 HJ10 HTL10 HZ10 hcell10
                  go_wp2_with fail
                  refine HAP.out.mono ?_
                  rintro e W12 ⟨rfl, hj12, ht12⟩
                  have HJ12 := Lib.hid hj12
                  have HTL12 := Lib.hid (HTL11.out.keep ht12)
                  have HZ12 : Hid (∀ q, Z9 q → q < W12.heap.size) := Lib.hid (fun q hq => Nat.lt_of_lt_of_le (HZ11.out q hq) ht12.size)
                  clear hj12 ht12 HAP HTL11 HZ11
                  rcases g7 with ⟨rfl, q1, q2, rfl, q4⟩ | ⟨rfl, rfl, rfl, rfl⟩ | ⟨rfl, q1, rfl, rfl, q4⟩
                  · have HS : Hid (SurvR n s' t' false RL RL (k + 1 < l.length ∧ k + 1 < 8)) := Lib.hid ⟨fun q => ⟨rfl, q1, by have := HG10.out q; omega, by rw [q2, HRL2.out], by rw [q2, HRL2.out]⟩, HG5.out, by have := Sv.clean q1 HG5.out; rw [q2, HRL2.out] at this; exact this, HG6.out⟩
                    clear q1 q2 q4
                    go_wp2_with fail
                    exact ⟨⟨k + 1, s', t', false, Z9, A9, A9, c9, c9, _, _, by omega, by omega, by go_num, rfl, rfl, HJ12, HZ12, Lib.hid ⟨HTL12.out.o7, HTL12.out.o7, HTL12.out.z7, HTL12.out.z7⟩, HS⟩, by simp only [intOf]; omega⟩
                  · have HS : Hid (SurvR n s' t' false t'.recs t'.recs (k + 1 < l.length ∧ k + 1 < 8)) := Lib.hid ⟨fun q => ⟨rfl, HC10.out, HG10.out q, rfl, rfl⟩, HG5.out, Sv.clean HC10.out HG5.out, HG6.out⟩
                    go_wp2_with fail
                    exact ⟨⟨k + 1, s', t', false, Z9, A5, A5, c5, c5, _, _, by omega, by omega, by go_num, rfl, rfl, HJ12, HZ12, Lib.hid ⟨HTL12.out.o6, HTL12.out.o6, HTL12.out.z6, HTL12.out.z6⟩, HS⟩, by simp only [intOf]; omega⟩
                  · have HS : Hid (SurvR n s' t' true t'.recs RL (k + 1 < l.length ∧ k + 1 < 8)) := Lib.hid ⟨fun q => (HQ.out q).elim, HG5.out, by have := Sv.half q1 HG5.out; rw [HRL2.out] at this; exact this, HG6.out⟩
                    clear q1 q4
                    go_wp2_with fail
                    exact ⟨⟨k + 1, s', t', true, Z9, A5, A9, c5, c9, _, _, by omega, by omega, by go_num, rfl, rfl, HJ12, HZ12, HTL12, HS⟩, by simp only [intOf]; omega⟩
                · have HJ10 := HJ9
                  have HTL10 := HTL9
                  have HZ10 := HZ9
                  obtain ⟨W10, hW10⟩ : ∃ W10, W9 = W10 := ⟨_, rfl⟩
                  obtain ⟨s10, hs10⟩ : ∃ s10, s = s10 := ⟨_, rfl⟩
                  subst hW10 hs10
                  have HC10 := Lib.hid HCL.out.1
                  have HP10 := Lib.hid HCL.out.1.pend
                  have HL10 := Lib.hid (show s.left ≤ 3 by rw [HCL.out.2.1]; omega)
                  have HG10 : Hid ((k + 1 < l.length ∧ k + 1 < 8) → s.left = 0) := Lib.hid (fun q => HCL.out.2.1)
                  have HN10 : Hid (¬ (s.left = 1 ∨ s.left = 2) ∨ ¬ (k + 1 < l.length ∧ k + 1 < 8)) := Lib.hid (.inl (by rw [HCL.out.2.1]; omega))
                  clear HJ9 HTL9 HZ9
                  have HNL := Lib.hid hq
                  clear hq
                  have HB10 := Lib.hid HJ10.out.below
                  have hcell10 := HCELL.out W9 HB10.out
                  go_wp2_with fail
                  refine (HFEW.out W9 HB10.out).mono ?_
                  rintro e W11 ⟨⟨v11, rfl, ho11⟩, hb11⟩
                  obtain ⟨A11, c11, rfl, -, -⟩ := ho11.slice
                  obtain ⟨s', t', b', E, g1, g2, g3, g4, g5, g6, g7⟩ := surv_step HC10.out HCL.out.2.2 HSH.out
                  have HG5 := Lib.hid g5
                  have HG6 := Lib.hid g6
                  have hl10 := HL10.out
                  have HAP := Lib.hid (append_J (HJ10.out.quiet (Turns.of_below hb11)) (fun q hq => Nat.lt_of_lt_of_le (HZ10.out q hq) hb11.size) A11 L L.length c11 rfl ho11.lat (by omega) HK.out (by rw [HP10.out]; decide) (by omega) HCL.out.2.2)
                  rw [g1, g2, g3, g4] at HAP
                  have HTL11 := Lib.hid (HTL10.out.quiet (Turns.of_below hb11))
                  have HZ11 : Hid (∀ q, Z9 q → q < W11.heap.size) := Lib.hid (fun q hq => Nat.lt_of_lt_of_le (HZ10.out q hq) hb11.size)
                  clear g1 g2 g3 g4 g5 g6 ho11 hb11 hl10 HJ10 HTL10 HZ10 hcell10
                  go_wp2_with fail
                  refine HAP.out.mono ?_
                  rintro e W12 ⟨rfl, hj12, ht12⟩
                  have HJ12 := Lib.hid hj12
                  have HTL12 := Lib.hid (HTL11.out.keep ht12)
                  have HZ12 : Hid (∀ q, Z9 q → q < W12.heap.size) := Lib.hid (fun q hq => Nat.lt_of_lt_of_le (HZ11.out q hq) ht12.size)
                  clear hj12 ht12 HAP HTL11 HZ11
                  rcases g7 with ⟨rfl, q1, q2, rfl, q4⟩ | ⟨rfl, rfl, rfl, rfl⟩ | ⟨rfl, q1, rfl, rfl, q4⟩
                  · have HS : Hid (SurvR n s' t' false RL RL (k + 1 < l.length ∧ k + 1 < 8)) := Lib.hid ⟨fun q => ⟨rfl, q1, by have := HG10.out q; omega, by rw [q2, HRL2.out], by rw [q2, HRL2.out]⟩, HG5.out, by have := Sv.clean q1 HG5.out; rw [q2, HRL2.out] at this; exact this, HG6.out⟩
                    clear q1 q2 q4
                    go_wp2_with fail
                    exact ⟨⟨k + 1, s', t', false, Z9, A9, A9, c9, c9, _, _, by omega, by omega, by go_num, rfl, rfl, HJ12, HZ12, Lib.hid ⟨HTL12.out.o7, HTL12.out.o7, HTL12.out.z7, HTL12.out.z7⟩, HS⟩, by simp only [intOf]; omega⟩
                  · have HS : Hid (SurvR n s' t' false t'.recs t'.recs (k + 1 < l.length ∧ k + 1 < 8)) := Lib.hid ⟨fun q => ⟨rfl, HC10.out, HG10.out q, rfl, rfl⟩, HG5.out, Sv.clean HC10.out HG5.out, HG6.out⟩
                    go_wp2_with fail
                    exact ⟨⟨k + 1, s', t', false, Z9, A5, A5, c5, c5, _, _, by omega, by omega, by go_num, rfl, rfl, HJ12, HZ12, Lib.hid ⟨HTL12.out.o6, HTL12.out.o6, HTL12.out.z6, HTL12.out.z6⟩, HS⟩, by simp only [intOf]; omega⟩
                  · exfalso
                    rcases HN10.out with q | q
                    · exact q q4
                    · exact q (by have := HNL.out; omega)
              exact AllReadyH.nil
            exact AllReadyH.nil
          exact AllReadyH.nil
        exact AllReadyH.nil
      · have d2 : decide ((k : Int) < 8) = false := by simp; omega
        have d1 : decide ((k : Int) < (l.length : Int)) = true := by simp [hlt]
        clear hlt2
        obtain ⟨kn, hkn⟩ : ∃ kn : Nat, min (keep.length : Int) 20 = (kn : Int) := ⟨min keep.length 20, by omega⟩
        have hkn2 : (keep.take kn).length = kn ∧ kn ≤ 20 := ⟨by rw [List.length_take]; omega, by omega⟩
        have y3 : (0 : Int) ≤ (kn : Int) := by omega
        have y4 : (kn : Int) ≤ (kc : Int) := by omega
        have hsp := hC.out.pend
        have HCR := Lib.hid (crash_D hJ.out.dl kA (keep.take kn) kn kc hkn2.1 (by omega) (((HKA.out.below hJ.out.below).more hJ.out.below.size).take kn) torn (by omega))
        obtain ⟨t9, o1, o2, o3, o4, o5, o6⟩ := open_after hC.out.sv (keep.take kn) torn
        obtain ⟨r1, r2, r3, r4⟩ := crash_rest s (keep.take kn) torn
        obtain ⟨s9, hs9⟩ : ∃ s9, s.crash (keep.take kn) torn = s9 := ⟨_, rfl⟩
        rw [hs9] at HCR o1 o2 o3 o5 r1 r2 r3 r4
        have HO := Lib.hid (And.intro o1 (And.intro o2 (And.intro o4 o6)))
        have HRR := Lib.hid (And.intro r2 r3)
        clear hs9 o1 o2 o3 o4 o5 o6 r1 r2 r3 r4 hkn2 hsp
        go_wp2_with fail
        refine HCR.out.mono ?_
        rintro e W5 ⟨rfl, hd5, ht5⟩
        have HD5 := Lib.hid hd5
        have HTL5 := Lib.hid (hTL.out.keep ht5)
        have HZ5 : Hid (∀ q, Z q → q < W5.heap.size) := Lib.hid (fun q hq => Nat.lt_of_lt_of_le (hZ.out q hq) ht5.size)
        clear hd5 ht5 HCR
        go_wp2_with fail
        refine (open_D HD5.out HZ5.out a HK.out HE.out (by rw [HRR.out.2]; decide) (by rw [HRR.out.1]; decide)).mono ?_
        rintro e W6 ⟨hr, ht6⟩
        unfold OpenD at hr
        rw [HO.out.1, HO.out.2.1] at hr
        rcases hr with ⟨-, j6, t6, rfl, ht6', hj6⟩ | ⟨hn, -⟩
        case inr => exact absurd rfl hn
        cases ht6'
        have HJ6 := Lib.hid hj6
        have HTL6 := Lib.hid (HTL5.out.keep ht6)
        have hrl := recs_le HO.out.2.2.1
        have HRL := Lib.hid hrl
        clear hj6 ht6 HTL5 HD5
        go_wp2_with fail
        refine (records_O HJ6.out.old (by omega)).mono ?_
        rintro e W7 ⟨⟨v7, rfl, ho7⟩, hb7⟩
        obtain ⟨A70, c70, rfl, -, -⟩ := ho7.slice
        have HJ7 := Lib.hid (HJ6.out.quiet (Turns.of_below hb7))
        have HTL7 := Lib.hid (HTL6.out.quiet (Turns.of_below hb7))
        have HSM := Lib.hid (same_walk A70 A6 t9.recs was t9.recs.length was.length c70 c6 rfl rfl (by omega) W7 ho7.lat HTL7.out.o6.lat)
        clear ho7 hb7 HTL6 HJ6
        by_cases hw : t9.recs = was
        · rw [show decide (t9.recs = was) = true by simp [hw]] at HSM
          clear hw
          go_wp2_with fail
          refine HSM.out.mono ?_
          rintro e W8 ⟨rfl, hb8⟩
          have HB8 := Lib.hid (HJ7.out.quiet (Turns.of_below hb8)).below
          clear hb8
          go_wp2_with fail
          go_ret
          exact ⟨rfl, HB8.out⟩
        · rw [show decide (t9.recs = was) = false by simp [hw]] at HSM
          have hw2 : t9.recs = want := HO.out.2.2.2.resolve_left hw
          have HW2 := Lib.hid hw2
          clear hw hw2
          go_wp2_with fail
          refine HSM.out.mono ?_
          rintro e W8 ⟨rfl, hb8⟩
          have HJ8 := Lib.hid (HJ7.out.quiet (Turns.of_below hb8))
          have HTL8 := Lib.hid (HTL7.out.quiet (Turns.of_below hb8))
          clear hb8 HSM HJ7 HTL7
          go_wp2_with fail
          refine (records_O HJ8.out.old (by omega)).mono ?_
          rintro e W9 ⟨⟨v9, rfl, ho9⟩, hb9⟩
          obtain ⟨A9, c9, rfl, -, -⟩ := ho9.slice
          have HJ9 := Lib.hid (HJ8.out.quiet (Turns.of_below hb9))
          have HTL9 := Lib.hid (HTL8.out.quiet (Turns.of_below hb9))
          have HSM2 := Lib.hid (same_walk A9 A7 t9.recs want t9.recs.length want.length c9 c7 rfl rfl (by omega) W9 ho9.lat HTL9.out.o7.lat)
          rw [show decide (t9.recs = want) = true by simp [HW2.out]] at HSM2
          clear ho9 hb9 HTL8 HJ8
          go_wp2_with fail
          refine HSM2.out.mono ?_
          rintro e W10 ⟨rfl, hb10⟩
          have HB10 := Lib.hid (HJ9.out.quiet (Turns.of_below hb10)).below
          clear hb10
          go_wp2_with fail
          go_ret
          exact ⟨rfl, HB10.out⟩
    · have d1 : decide ((k : Int) < (l.length : Int)) = false := by simp; omega
      obtain rfl : k = l.length := by omega
      clear hlt hk8
      obtain ⟨kn, hkn⟩ : ∃ kn : Nat, min (keep.length : Int) 20 = (kn : Int) := ⟨min keep.length 20, by omega⟩
      have hkn2 : (keep.take kn).length = kn ∧ kn ≤ 20 := ⟨by rw [List.length_take]; omega, by omega⟩
      have y3 : (0 : Int) ≤ (kn : Int) := by omega
      have y4 : (kn : Int) ≤ (kc : Int) := by omega
      have hsp := hC.out.pend
      have HCR := Lib.hid (crash_D hJ.out.dl kA (keep.take kn) kn kc hkn2.1 (by omega) (((HKA.out.below hJ.out.below).more hJ.out.below.size).take kn) torn (by omega))
      obtain ⟨t9, o1, o2, o3, o4, o5, o6⟩ := open_after hC.out.sv (keep.take kn) torn
      obtain ⟨r1, r2, r3, r4⟩ := crash_rest s (keep.take kn) torn
      obtain ⟨s9, hs9⟩ : ∃ s9, s.crash (keep.take kn) torn = s9 := ⟨_, rfl⟩
      rw [hs9] at HCR o1 o2 o3 o5 r1 r2 r3 r4
      have HO := Lib.hid (And.intro o1 (And.intro o2 (And.intro o4 o6)))
      have HRR := Lib.hid (And.intro r2 r3)
      clear hs9 o1 o2 o3 o4 o5 o6 r1 r2 r3 r4 hkn2 hsp
      go_wp2_with fail
      refine HCR.out.mono ?_
      rintro e W5 ⟨rfl, hd5, ht5⟩
      have HD5 := Lib.hid hd5
      have HTL5 := Lib.hid (hTL.out.keep ht5)
      have HZ5 : Hid (∀ q, Z q → q < W5.heap.size) := Lib.hid (fun q hq => Nat.lt_of_lt_of_le (hZ.out q hq) ht5.size)
      clear hd5 ht5 HCR
      go_wp2_with fail
      refine (open_D HD5.out HZ5.out a HK.out HE.out (by rw [HRR.out.2]; decide) (by rw [HRR.out.1]; decide)).mono ?_
      rintro e W6 ⟨hr, ht6⟩
      unfold OpenD at hr
      rw [HO.out.1, HO.out.2.1] at hr
      rcases hr with ⟨-, j6, t6, rfl, ht6', hj6⟩ | ⟨hn, -⟩
      case inr => exact absurd rfl hn
      cases ht6'
      have HJ6 := Lib.hid hj6
      have HTL6 := Lib.hid (HTL5.out.keep ht6)
      have hrl := recs_le HO.out.2.2.1
      have HRL := Lib.hid hrl
      clear hj6 ht6 HTL5 HD5
      go_wp2_with fail
      refine (records_O HJ6.out.old (by omega)).mono ?_
      rintro e W7 ⟨⟨v7, rfl, ho7⟩, hb7⟩
      obtain ⟨A70, c70, rfl, -, -⟩ := ho7.slice
      have HJ7 := Lib.hid (HJ6.out.quiet (Turns.of_below hb7))
      have HTL7 := Lib.hid (HTL6.out.quiet (Turns.of_below hb7))
      have HSM := Lib.hid (same_walk A70 A6 t9.recs was t9.recs.length was.length c70 c6 rfl rfl (by omega) W7 ho7.lat HTL7.out.o6.lat)
      clear ho7 hb7 HTL6 HJ6
      by_cases hw : t9.recs = was
      · rw [show decide (t9.recs = was) = true by simp [hw]] at HSM
        clear hw
        go_wp2_with fail
        refine HSM.out.mono ?_
        rintro e W8 ⟨rfl, hb8⟩
        have HB8 := Lib.hid (HJ7.out.quiet (Turns.of_below hb8)).below
        clear hb8
        go_wp2_with fail
        go_ret
        exact ⟨rfl, HB8.out⟩
      · rw [show decide (t9.recs = was) = false by simp [hw]] at HSM
        have hw2 : t9.recs = want := HO.out.2.2.2.resolve_left hw
        have HW2 := Lib.hid hw2
        clear hw hw2
        go_wp2_with fail
        refine HSM.out.mono ?_
        rintro e W8 ⟨rfl, hb8⟩
        have HJ8 := Lib.hid (HJ7.out.quiet (Turns.of_below hb8))
        have HTL8 := Lib.hid (HTL7.out.quiet (Turns.of_below hb8))
        clear hb8 HSM HJ7 HTL7
        go_wp2_with fail
        refine (records_O HJ8.out.old (by omega)).mono ?_
        rintro e W9 ⟨⟨v9, rfl, ho9⟩, hb9⟩
        obtain ⟨A9, c9, rfl, -, -⟩ := ho9.slice
        have HJ9 := Lib.hid (HJ8.out.quiet (Turns.of_below hb9))
        have HTL9 := Lib.hid (HTL8.out.quiet (Turns.of_below hb9))
        have HSM2 := Lib.hid (same_walk A9 A7 t9.recs want t9.recs.length want.length c9 c7 rfl rfl (by omega) W9 ho9.lat HTL9.out.o7.lat)
        rw [show decide (t9.recs = want) = true by simp [HW2.out]] at HSM2
        clear ho9 hb9 HTL8 HJ8
        go_wp2_with fail
        refine HSM2.out.mono ?_
        rintro e W10 ⟨rfl, hb10⟩
        have HB10 := Lib.hid (HJ9.out.quiet (Turns.of_below hb10)).below
        clear hb10
        go_wp2_with fail
        go_ret
        exact ⟨rfl, HB10.out⟩
end Go.Proofs.YtllmciiadceinaaGreatDoor
end
section
namespace Go.Proofs.YtllmciiadceinaaGreatDoor
open Go Go.RowKit Go.Shelf Go.ChangeShapes Go.WideShapes Go.Deep Wr

theorem add_field (a : Addr) (m j : Nat) : a.add (m + (j + 1)) = ⟨(a.add m).block, (a.add m).off + (j + 1), none⟩ := by
  unfold Addr.add
  by_cases h : m = 0
  · subst h; simp
  · simp [h]; omega
/-- A call of the law: its cells; what it holds. -/
structure OP where
  kind : Int
  lA : Option Addr
  l : List ByteArray
  lc : Nat
  n : Int
  kA : Option Addr
  keep : List Int
  kc : Nat
def OP.cells (y : OP) : List Value := [.int .i64 y.kind, .slice y.lA y.l.length y.lc, .int .i64 y.n, .slice y.kA y.keep.length y.kc]
structure OP.ok (W : World) (y : OP) : Prop where
  k1 : -9223372036854775808 ≤ y.kind
  k2 : y.kind ≤ 9223372036854775807
  n1 : -9223372036854775808 ≤ y.n
  n2 : y.n ≤ 9223372036854775807
  lcap : y.l.length ≤ y.lc
  lmax : y.lc ≤ 9223372036854775807
  llat : LAt W W.heap.size y.lA .string y.l
  kcap : y.keep.length ≤ y.kc
  kmax : y.kc ≤ 9223372036854775807
  klat : LAt W W.heap.size y.kA iv y.keep

set_option maxRecDepth 100000 in
theorem open_opsAt {H : Type} {enc : TypeId × Value → H} {W : World} {base : Nat} {sp : Nat → Bool} {held : Bool} {b0 : Nat} {r : Reach} {v : Value} {d : DataW H} {p : List MemPlace}
    (hv : Value.okWide Tryz.prog W r b0 60 v) (h : DataW.Trod enc Tryz.prog W base sp held 60 v d p) :
    ∃ (A : Option Addr) (l : List OP) (cap : Nat), v = .slice A l.length cap ∧ l.length ≤ cap ∧ cap ≤ maxLen ∧ CAt W W.heap.size A 4 OP.cells l ∧ ∀ y ∈ l, y.ok W := by
  refine open_rowsAt OP.cells (OP.ok W) Tryz.underlying60 4 (by kernel_rfl) (by decide) (fun n cs x hl ht => ?_) hv h
  obtain ⟨ys, m, _, _, _, hyl, hf⟩ := DataW.trod_struct Tryz.underlying62 ht
  match cs, hl with
  | [c0, c1, c2, c3], _ =>
    have h0 := hf 0 _ rfl
    have h1 := hf 1 _ rfl
    have h2 := hf 2 _ rfl
    have h3 := hf 3 _ rfl
    match ys, hyl with
    | [y0, y1, y2, y3], _ =>
      obtain ⟨z0, e0, _, w0⟩ := DataW.trod_int Tryz.underlying3 (x := y0) (cs := [c0]) h0
      obtain ⟨z2, e2, _, w2⟩ := DataW.trod_int Tryz.underlying3 (x := y2) (cs := [c2]) h2
      simp only [List.cons.injEq, and_true] at e0 e2
      subst e0 e2
      have hs : ∃ (lA : Option Addr) (l : List ByteArray) (lc : Nat), c1 = .slice lA l.length lc ∧ l.length ≤ lc ∧ lc ≤ 9223372036854775807 ∧ LAt W W.heap.size lA .string l := by
        rcases Deep.open_strs (cs := [c1]) (x := y1) Tryz.underlying22 Tryz.underlying9 (by kernel_rfl) h1 with ⟨e1, _⟩ | ⟨a, len, cap, m, Sx, e1, _, hl, hm, hmm, _, hx⟩
        · simp only [List.cons.injEq, and_true] at e1
          exact ⟨none, [], 0, e1, Nat.le_refl _, by omega, LAt.nil⟩
        · simp only [List.cons.injEq, and_true] at e1
          have hlm : len ≤ m := by rw [hmm]; split <;> omega
          unfold maxLen at hm
          refine ⟨some a, (List.range len).map Sx, cap, by rw [e1]; simp, by simpa using hl, hm, fun i x hi => ?_⟩
          rw [List.getElem?_map] at hi
          have hi2 : i < len := by
            rcases Nat.lt_or_ge i len with q | q
            · exact q
            · rw [List.getElem?_eq_none (by simpa using q)] at hi; cases hi
          rw [List.getElem?_range hi2] at hi
          cases hi
          have := (hx i (by omega)).1
          exact ⟨a, rfl, by have := cell_lt this; rwa [addr_add_block] at this, this⟩
      have hk : ∃ (kA : Option Addr) (k : List Int) (kc : Nat), c3 = .slice kA k.length kc ∧ k.length ≤ kc ∧ kc ≤ 9223372036854775807 ∧ LAt W W.heap.size kA iv k := by
        rcases open_ints (cs := [c3]) (x := y3) Tryz.underlying56 Tryz.underlying3 (by kernel_rfl) h3 with ⟨e4, _⟩ | ⟨a, len, cap, zs, e4, _, hl4, hm4, hz, _, hx4, hw4⟩
        · simp only [List.cons.injEq, and_true] at e4
          exact ⟨none, [], 0, e4, Nat.le_refl _, by omega, LAt.nil⟩
        · simp only [List.cons.injEq, and_true] at e4
          have hlm : len ≤ zs.length := by rw [hz]; split <;> omega
          have hlen : (zs.take len).length = len := by rw [List.length_take]; omega
          unfold maxLen at hm4
          refine ⟨some a, zs.take len, cap, by rw [hlen]; exact e4, by rw [hlen]; exact hl4, hm4, fun i x hi => ?_⟩
          rw [List.getElem?_take] at hi
          split at hi
          · have hi3 : i < zs.length := by omega
            have := hx4 i hi3
            rw [List.getD_eq_getElem?_getD, hi] at this
            exact ⟨a, rfl, by have := cell_lt this; rwa [addr_add_block] at this, this⟩
          · cases hi
      obtain ⟨lA, l, lc, rfl, a1, a2, a3⟩ := hs
      obtain ⟨kA, k, kc, rfl, b1, b2, b3⟩ := hk
      exact ⟨⟨z0, lA, l, lc, z2, kA, k, kc⟩, rfl, (bounds_i64 w0).1, (bounds_i64 w0).2, (bounds_i64 w2).1, (bounds_i64 w2).2, a1, a2, a3, b1, b2, b3⟩

theorem app_left (n : Nat) (s : DS) (t : TS) (b : Bool) (L : List ByteArray) : (appD n s t b L).left ≤ s.left := by
  unfold appD
  cases appK n t b L with
  | group =>
    show ((s.grp t.size (outL t L)).sync).left ≤ _
    rw [(sync_pend _).2]
    unfold DS.grp
    have h1 := (wr_pend ((s.wr ((t.size + 1 : Nat) : Int) ⟨((outL t L).drop 1).toArray⟩).sync) (t.size : Int) ⟨((outL t L).take 1).toArray⟩).2
    rw [(sync_pend _).2] at h1
    have h2 := (wr_pend s ((t.size + 1 : Nat) : Int) ⟨((outL t L).drop 1).toArray⟩).2
    omega
  | _ => exact Nat.le_refl _
/-- How a journal stands between two calls. -/
structure KeepR (n : Nat) (s : DS) (t : TS) (b : Bool) : Prop where
  good : Good n t
  st : (b = false ∧ Clean n s t) ∨ (b = true ∧ ∃ L, Half n s t L)
  left : s.left ≤ 5
  pend : s.pend.length ≤ 1
theorem KeepR.sv {n : Nat} {s : DS} {t : TS} {b : Bool} (h : KeepR n s t b) : ∃ M, Sv n s t.recs (t.recs ++ M) := by
  rcases h.st with ⟨-, hc⟩ | ⟨-, L, hh⟩
  · exact ⟨[], by rw [List.append_nil]; exact Sv.clean hc h.good⟩
  · exact ⟨L, Sv.half hh h.good⟩
theorem KeepR.cut {n : Nat} {s : DS} {t : TS} {b : Bool} (h : KeepR n s t b) (q : Nat) (hq : q ≤ 4) : KeepR n (s.cut (1 + (q : Int))) t b := by
  rcases h.st with ⟨hb, hc⟩ | ⟨hb, L, hh⟩
  · obtain ⟨f1, f2, f3⟩ := cut1 hc (q + 1) (by omega)
    rw [show ((q + 1 : Nat) : Int) = 1 + (q : Int) by omega] at f1 f2 f3
    exact ⟨h.good, .inl ⟨hb, f1⟩, by omega, by rw [f3]; exact Nat.zero_le _⟩
  · have : s.cut (1 + (q : Int)) = s := by unfold DS.cut; rw [hh.off, if_pos rfl]
    rw [this]; exact h
theorem KeepR.app {n : Nat} {s : DS} {t : TS} {b : Bool} {L : List ByteArray} (h : KeepR n s t b) (hs : longB L = false) :
    ∃ s' t' b' E, appE n s t b L = E ∧ appD n s t b L = s' ∧ appT n s t b L = t' ∧ appB n s t b L = b' ∧ KeepR n s' t' b' ∧ ((E = 0 ∧ t'.recs = t.recs ++ L) ∨ ((E == 0) = false ∧ t' = t)) := by
  rcases h.st with ⟨rfl, hc⟩ | ⟨rfl, M, hh⟩
  · obtain ⟨s', t', b', E, g1, g2, g3, g4, g5, g6, g7⟩ := surv_step hc h.good hs
    refine ⟨s', t', b', E, g1, g2, g3, g4, ?_, ?_⟩
    · rcases g7 with ⟨-, q1, -, q3, q4⟩ | ⟨-, rfl, rfl, q3⟩ | ⟨-, q1, rfl, q3, q4⟩
      · exact ⟨g5, .inl ⟨q3, q1⟩, by have := h.left; omega, g6⟩
      · exact ⟨g5, .inl ⟨q3, hc⟩, h.left, g6⟩
      · refine ⟨g5, .inr ⟨q3, L, q1⟩, ?_, g6⟩
        have h1 := (app_left n s t' false L)
        rw [g2] at h1
        have := h.left
        omega
    · rcases g7 with ⟨q0, -, q2, -, -⟩ | ⟨q0, -, q2, -⟩ | ⟨q0, -, q2, -, -⟩
      · exact .inl ⟨q0, q2⟩
      · exact .inr ⟨by rw [q0]; decide, q2⟩
      · exact .inr ⟨by rw [q0]; decide, q2⟩
  · obtain ⟨f1, f2, f3, f4⟩ := app_broken (n := n) (s := s) (t := t) (b := true) (L := L) (by simp)
    exact ⟨_, _, _, _, f1, f2, f3, f4, h, .inr ⟨by decide, rfl⟩⟩

/-- A list of strings that is kept apart. -/
structure OneL (W : World) (Z : Nat → Prop) (v : Value) (l : List ByteArray) : Prop where
  o : OLs W 0 v l
  z : ∀ g, v.ownBlock = some g → Z g
theorem OneL.keep {W W' : World} {Z : Nat → Prop} {v : Value} {l : List ByteArray} (h : OneL W Z v l) (t : Turns (fun k => ¬ Z k) W W') : OneL W' Z v l :=
  ⟨h.o.keep fun g hg => t.block g (h.o.lt g hg).2 (fun e => e (h.z g hg)), h.z⟩
theorem OneL.quiet {W W' : World} {Z : Nat → Prop} {v : Value} {l : List ByteArray} (h : OneL W Z v l) (t : Turns (fun _ => False) W W') : OneL W' Z v l := h.keep (t.mono fun _ e => e.elim)

set_option maxRecDepth 100000 in
set_option maxHeartbeats 64000000 in
theorem keeps_law (W : World) (a : Addr) (hK : KAt W) (hE : ErrAt W a) (N : Int) (hN1 : -9223372036854775808 ≤ N) (hN2 : N ≤ 9223372036854775807) (A : Option Addr) (l : List OP) (c : Nat) (hl : l.length ≤ 9223372036854775807) (hA : CAt W W.heap.size A 4 OP.cells l) (hok : ∀ y ∈ l, y.ok W) :
    Calls Tryz.prog 6 #[.int .i64 N, .slice A l.length c] W fun e W' => e = .returned (.bool true) ∧ Below W.heap.size W W' := by
  have HK := Lib.hid hK
  have HE := Lib.hid hE
  have HA := Lib.hid hA
  have HOK := Lib.hid hok
  have HSZ := Lib.hid (jsize_walk · N hN1 hN2)
  have hnr := sizeN_range N
  obtain ⟨n, hn⟩ : ∃ n, sizeN N = n := ⟨_, rfl⟩
  rw [hn] at HSZ hnr
  have HSN := Lib.hid (sane_walk W a hK hE)
  clear hK hE hA hn hok
  go_enter Tryz.func6, Tryz.ntmps6
  go_wp2_with fail
  refine HSN.out.mono ?_
  rintro e W1 ⟨rfl, hb1⟩
  have hu1 : Turns (fun _ => False) W W1 := Turns.of_below hb1
  have HU1 := Lib.hid hu1
  clear hb1 hu1
  go_wp2_with (first | (go_at_call 15; refine (HSZ.out _).mono ?_; rintro e w1 ⟨rfl, rfl⟩) | fail)
  refine (new_D (W0 := W) (Z := fun _ => False) HU1.out (fun k e => e.elim) n hnr.1 (by omega)).mono ?_
  rintro e W2 ⟨⟨d, rfl, h⟩, -⟩
  have HD := Lib.hid h
  clear h
  go_wp2_with fail
  refine (open_D HD.out (fun k e => e.elim) a HK.out HE.out (by rw [show (DS.fresh n).pend = [] from rfl]; decide) (by rw [show (DS.fresh n).left = 0 from rfl]; decide)).mono ?_
  obtain ⟨he, ho⟩ := sane_open n
  rintro e W3 ⟨hr, -⟩
  unfold OpenD at hr
  rw [he, ho, (fresh_clean n).load Good.zero] at hr
  rcases hr with ⟨-, j, t, rfl, ht, hj⟩ | ⟨hn, -⟩
  case inr => exact absurd rfl hn
  cases ht
  obtain ⟨Z, hZ⟩ : ∃ Z : Nat → Prop, Z = fun _ => False := ⟨_, rfl⟩
  rw [← hZ] at hj
  have HJ := Lib.hid hj
  have HZ : Hid (∀ k, Z k → k < W3.heap.size) := Lib.hid (by rw [hZ]; exact fun k e => e.elim)
  have HTL : Hid (OneL W3 Z (.slice none TS.zero.recs.length 0) TS.zero.recs) := Lib.hid ⟨OL.nil, fun g e => by simp [Value.ownBlock] at e⟩
  have HC : Hid (KeepR n (DS.fresh n) TS.zero false) := Lib.hid ⟨Good.zero, .inl ⟨rfl, fresh_clean n⟩, Nat.zero_le _, Nat.zero_le _⟩
  clear hj he ho HD hZ
  go_wp2_with fail
  go_loopw [8, 10, 11] (fun v8 v10 v11 wr => ∃ (k : Nat) (s : DS) (t : TS) (b : Bool) (j : Nat) (Z : Nat → Prop) (A6 : Option Addr) (c6 : Nat), k ≤ l.length ∧ k ≤ 20 ∧ v11 = .int .i64 k ∧ v8 = .pointer (some ⟨j, 0, none⟩) ∧ v10 = .slice A6 t.recs.length c6 ∧ Hid (JL W Z wr n d s j t b) ∧ Hid (∀ k, Z k → k < wr.heap.size) ∧ Hid (OneL wr Z v10 t.recs) ∧ Hid (KeepR n s t b)) (fun _ _ v _ => l.length - (intOf v).toNat)
  case atStart => exact ⟨0, _, _, _, j, Z, none, 0, by omega, by omega, rfl, rfl, rfl, HJ, HZ, HTL, HC⟩
  case round =>
    clear HJ HZ HTL HC
    obtain ⟨k, s, t, b, j, Z, A6, c6, hk, hk8, rfl, rfl, rfl, hJ, hZ, hTL, hC⟩ := hrel
    by_cases hlt : k < l.length
    · by_cases hlt2 : k < 20
      · have d1 : decide ((k : Int) < (l.length : Int)) = true := by simp [hlt]
        obtain ⟨p, rfl, hpb, hpc⟩ := HA.out.get hlt
        have hyo := HOK.out _ (List.getElem_mem hlt)
        obtain ⟨y, hy⟩ : ∃ y, l[k] = y := ⟨_, rfl⟩
        rw [hy] at hpc hyo
        obtain ⟨yk, yA, yl, yc, yn, yB, yp, yd⟩ := y
        have HY := Lib.hid hyo
        have HCELL : Hid (∀ V, Below W.heap.size W V → V.cell? (p.add (k * 4)) = some (.int .i64 yk) ∧ V.cell? ⟨(p.add (k * 4)).block, (p.add (k * 4)).off + 1, none⟩ = some (.slice yA yl.length yc) ∧ V.cell? ⟨(p.add (k * 4)).block, (p.add (k * 4)).off + 2, none⟩ = some (.int .i64 yn) ∧ V.cell? ⟨(p.add (k * 4)).block, (p.add (k * 4)).off + 3, none⟩ = some (.slice yB yp.length yd)) := Lib.hid (fun V hb => by
          have c0 := hpc 0 _ rfl
          have c1 := hpc 1 _ rfl
          have c2 := hpc 2 _ rfl
          have c3 := hpc 3 _ rfl
          rw [Nat.add_zero] at c0
          rw [add_field p (k * 4) 0] at c1
          rw [add_field p (k * 4) 1] at c2
          rw [add_field p (k * 4) 2] at c3
          have hbl : (p.add (k * 4)).block < W.heap.size := by rw [addr_add_block]; exact hpb
          exact ⟨(hb.cell (p := p.add (k * 4)) hbl).trans c0, (hb.cell (p := ⟨(p.add (k * 4)).block, (p.add (k * 4)).off + 1, none⟩) hbl).trans c1, (hb.cell (p := ⟨(p.add (k * 4)).block, (p.add (k * 4)).off + 2, none⟩) hbl).trans c2, (hb.cell (p := ⟨(p.add (k * 4)).block, (p.add (k * 4)).off + 3, none⟩) hbl).trans c3⟩)
        have HFEW : Hid (∀ V, Below W.heap.size W V → Calls Tryz.prog 11 #[.slice yA yl.length yc] V fun e w' => (∃ v, e = .returned v ∧ OLs w' V.heap.size v (fewS yl)) ∧ Below V.heap.size V w') := Lib.hid (fun V hb => few_walk yA yl yc (by have h1 := HY.out.lcap; have h2 := HY.out.lmax; dsimp only at h1 h2; omega) V ((HY.out.llat.below hb).more hb.size))
        have hfl := fewS_length yl
        have hsh := fewS_short yl
        obtain ⟨L, hL⟩ : ∃ L, fewS yl = L := ⟨_, rfl⟩
        rw [hL] at HFEW hfl hsh
        have HSH := Lib.hid hsh
        have hrl := recs_le hC.out.good
        have hpr := pickZ_range yk (n := 8) (by omega)
        obtain ⟨P, hP⟩ : ∃ P, pickZ yk 8 = P := ⟨_, rfl⟩
        have HPK := Lib.hid (pick_walk (x := yk) (n := 8) · HY.out.k1 HY.out.k2 (by omega) (by omega))
        rw [hP] at HPK hpr
        have HPN := Lib.hid (pick_walk (x := yn) (n := 5) · HY.out.n1 HY.out.n2 (by omega) (by omega))
        have hqr := pickZ_range yn (n := 5) (by omega)
        obtain ⟨pq, hpq⟩ : ∃ pq : Nat, pickZ yn 5 = (pq : Int) := ⟨(pickZ yn 5).toNat, by omega⟩
        rw [hpq] at HPN hqr
        have z1 : (0 : Int) ≤ (k : Int) := by omega
        have z2 : (k : Int) < (l.length : Int) := by omega
        have h3 : (P == 5) = true ∨ ((P == 5) = false ∧ ((P == 6) = true ∨ ((P == 6) = false ∧ (P == 7) = true))) ∨ ((P == 5) = false ∧ (P == 6) = false ∧ (P == 7) = false) := by
          by_cases q5 : P = 5
          · left; simp [q5]
          · right
            by_cases q6 : P = 6
            · left; exact ⟨by simp [q5], .inl (by simp [q6])⟩
            · by_cases q7 : P = 7
              · left; exact ⟨by simp [q5], .inr ⟨by simp [q6], by simp [q7]⟩⟩
              · right; exact ⟨by simp [q5], by simp [q6], by simp [q7]⟩
        have HBW := Lib.hid hJ.out.below
        obtain ⟨hc0, hc1, hc2, hc3⟩ := HCELL.out wr HBW.out
        clear hy hL hpc hpb hP hpq hsh
        rcases h3 with e5 | ⟨e5, e67⟩ | ⟨e5, e6, e7⟩
        · go_wp2_with (first | (go_at_call 14; first | ((with_reducible refine (HPK.out _).mono ?_); rintro e w1 ⟨rfl, rfl⟩) | ((with_reducible refine (HPN.out _).mono ?_); rintro e w2 ⟨rfl, rfl⟩)) | fail)
          refine (cut_J hJ.out (1 + (pq : Int))).mono ?_
          rintro e W9 ⟨rfl, hj9, ht9⟩
          obtain ⟨s9, hs9⟩ : ∃ s9, s.cut (1 + (pq : Int)) = s9 := ⟨_, rfl⟩
          obtain ⟨t9, ht9e⟩ : ∃ t9, t = t9 := ⟨_, rfl⟩
          obtain ⟨b9, hb9e⟩ : ∃ b9, b = b9 := ⟨_, rfl⟩
          obtain ⟨j9, hj9e⟩ : ∃ j9, j = j9 := ⟨_, rfl⟩
          obtain ⟨Z9, hZ9e⟩ : ∃ Z9, Z = Z9 := ⟨_, rfl⟩
          obtain ⟨A9, hA9e⟩ : ∃ A9, A6 = A9 := ⟨_, rfl⟩
          obtain ⟨c9, hc9e⟩ : ∃ c9, c6 = c9 := ⟨_, rfl⟩
          have hc9 := hC.out.cut pq (by omega)
          subst ht9e hb9e hj9e hZ9e hA9e hc9e
          rw [hs9] at hc9 hj9
          have HJ9 := Lib.hid hj9
          have HC9 := Lib.hid hc9
          have HT9 := Lib.hid (hTL.out.keep ht9)
          have HZ9 : Hid (∀ q, Z q → q < W9.heap.size) := Lib.hid (fun q hq => Nat.lt_of_lt_of_le (hZ.out q hq) ht9.size)
          clear hj9 ht9 hs9 hc9 hJ hTL hZ hC
          go_wp2_with fail
          refine (records_O HJ9.out.old (by omega)).mono ?_
          rintro e W15 ⟨⟨v15, rfl, ho15⟩, hb15⟩
          obtain ⟨A15, c15, rfl, hlc15, -⟩ := ho15.slice
          have HJ15 := Lib.hid (HJ9.out.quiet (Turns.of_below hb15))
          have HT15 := Lib.hid (HT9.out.quiet (Turns.of_below hb15))
          have HZ15 : Hid (∀ q, Z q → q < W15.heap.size) := Lib.hid (fun q hq => Nat.lt_of_lt_of_le (HZ9.out q hq) hb15.size)
          have HSM := Lib.hid (same_walk A15 A6 t.recs t.recs t.recs.length t.recs.length c15 c6 rfl rfl (by omega) W15 ho15.lat HT15.out.o.lat)
          rw [show decide (t.recs = t.recs) = true by simp] at HSM
          have y5 : (0 : Int) ≤ (t.recs.length : Int) := by omega
          have y6 : (t.recs.length : Int) ≤ (c15 : Int) := by omega
          clear ho15 hb15 HJ9 HT9 HZ9
          go_wp2_with fail
          refine HSM.out.mono ?_
          rintro e W16 ⟨rfl, hb16⟩
          have HJ16 := Lib.hid (HJ15.out.quiet (Turns.of_below hb16))
          have HT16 := Lib.hid (HT15.out.quiet (Turns.of_below hb16))
          have HZ16 : Hid (∀ q, Z q → q < W16.heap.size) := Lib.hid (fun q hq => Nat.lt_of_lt_of_le (HZ15.out q hq) hb16.size)
          clear hb16 HJ15 HT15 HZ15 HSM
          go_wp2_with fail
          exact ⟨⟨k + 1, s9, t, b, j, Z, A6, c6, by omega, by omega, by go_num, rfl, rfl, HJ16, HZ16, HT16, HC9⟩, by simp only [intOf]; omega⟩
        · rcases e67 with e6 | ⟨e6, e7⟩
          · go_wp2_with (first | (go_at_call 14; (with_reducible refine (HPK.out _).mono ?_); rintro e w1 ⟨rfl, rfl⟩) | fail)
            obtain ⟨kn, hkn⟩ : ∃ kn : Nat, min (yp.length : Int) 20 = (kn : Int) := ⟨min yp.length 20, by omega⟩
            have hkn2 : (yp.take kn).length = kn ∧ kn ≤ 20 := ⟨by rw [List.length_take]; omega, by omega⟩
            have y3 : (0 : Int) ≤ (kn : Int) := by omega
            have y4 : (kn : Int) ≤ (yd : Int) := by have := HY.out.kcap; dsimp only at this; omega
            have hsp := hC.out.pend
            have HCR : Hid (∀ V, Turns (fun _ => False) wr V → Calls Tryz.prog 30 #[.pointer (some ⟨d, 0, none⟩), .slice yB kn yd, .int .i64 yn] V fun e W' => e = .returned (.int .i64 0) ∧ DL W Z W' n d (s.crash (yp.take kn) yn) ∧ Turns (fun k => ¬ Z k) V W') := Lib.hid (fun V hV => crash_D (hJ.out.quiet hV).dl yB (yp.take kn) kn yd hkn2.1 (by omega) (((HY.out.klat.below (hJ.out.quiet hV).below).more (hJ.out.quiet hV).below.size).take kn) yn (by omega))
            obtain ⟨M, hsv⟩ := hC.out.sv
            obtain ⟨t9, o1, o2, o3, o4, o5, o6⟩ := open_after hsv (yp.take kn) yn
            obtain ⟨r1, r2, r3, r4⟩ := crash_rest s (yp.take kn) yn
            obtain ⟨s8, hs8⟩ : ∃ s8, s.crash (yp.take kn) yn = s8 := ⟨_, rfl⟩
            rw [hs8] at HCR o1 o2 o3 o5 r1 r2 r3 r4
            have hpre : t.recs.length ≤ t9.recs.length ∧ t9.recs.take t.recs.length = t.recs := by
              rcases o6 with q | q
              · rw [q]; exact ⟨Nat.le_refl _, List.take_length ..⟩
              · rw [q]; exact ⟨by simp, by simp⟩
            have HO := Lib.hid (And.intro o1 (And.intro o2 (And.intro o4 (And.intro o3 (And.intro o5 hpre)))))
            have HRR := Lib.hid (And.intro r2 r3)
            clear hs8 o1 o2 o3 o4 o5 o6 r1 r2 r3 r4 hkn2 hsp hsv hpre
            have hS0 : wr.drew.cell? ⟨(p.add (k * 4)).block, (p.add (k * 4)).off + 2, none⟩ = some (.int .i64 yn) ∧ wr.drew.cell? ⟨(p.add (k * 4)).block, (p.add (k * 4)).off + 3, none⟩ = some (.slice yB yp.length yd) := ⟨hc2, hc3⟩
            refine wp_region_noPanic ?_
            refine wp_region_held_drew (S := fun w' => w'.cell? ⟨(p.add (k * 4)).block, (p.add (k * 4)).off + 2, none⟩ = some (.int .i64 yn) ∧ w'.cell? ⟨(p.add (k * 4)).block, (p.add (k * 4)).off + 3, none⟩ = some (.slice yB yp.length yd)) (by kernel_rfl) hS0 (fun hHeld => ?_)
            refine wpAnyH_take (i := 0) (oi := { dst := some 81, op := Op.move (Operand.tmp 6), type := 27, pos := "law.go:216", after := #[], guard := none }) (v := ?_) rfl (by kernel_rfl) (by kernel_rfl) (by kernel_rfl) (fun _ _ _ h => h) (Or.inl ⟨by rfl, ?_⟩) (by assumption) ?_
            rotate_left
            · intro w hSw; (try dsimp only at hSw); go_simp <;> with_reducible rfl
            try simp only [Act.put, List.setIfInBounds_toArray, List.set_cons_zero, List.set_cons_succ]
            refine wpAnyH_take (i := 1) (oi := { dst := some 82, op := Op.move (Operand.tmp 1), type := 60, pos := "law.go:216", after := #[], guard := none }) (v := ?_) rfl (by kernel_rfl) (by kernel_rfl) (by kernel_rfl) (fun _ _ _ h => h) (Or.inl ⟨by rfl, ?_⟩) (by assumption) ?_
            rotate_left
            · intro w hSw; (try dsimp only at hSw); go_simp <;> with_reducible rfl
            try simp only [Act.put, List.setIfInBounds_toArray, List.set_cons_zero, List.set_cons_succ]
            refine wpAnyH_take (i := 2) (oi := { dst := some 83, op := Op.move (Operand.tmp 11), type := 3, pos := "law.go:216", after := #[], guard := none }) (v := ?_) rfl (by kernel_rfl) (by kernel_rfl) (by kernel_rfl) (fun _ _ _ h => h) (Or.inl ⟨by rfl, ?_⟩) (by assumption) ?_
            rotate_left
            · intro w hSw; (try dsimp only at hSw); go_simp <;> with_reducible rfl
            try simp only [Act.put, List.setIfInBounds_toArray, List.set_cons_zero, List.set_cons_succ]
            refine wpAnyH_take (i := 3) (oi := { dst := some 84, op := Op.indexAddr 60 (Operand.tmp 82) (Operand.tmp 83), type := 0, pos := "law.go:216", after := #[{ on := 1, ground := Ground.data }, { on := 2, ground := Ground.data }], guard := none }) (v := ?_) rfl (by kernel_rfl) (by kernel_rfl) (by kernel_rfl) (fun _ _ _ h => h) (Or.inl ⟨by rfl, ?_⟩) (by assumption) ?_
            rotate_left
            · intro w hSw; (try dsimp only at hSw); go_simp <;> with_reducible rfl
            try simp only [Act.put, List.setIfInBounds_toArray, List.set_cons_zero, List.set_cons_succ]
            refine wpAnyH_take (i := 4) (oi := { dst := some 85, op := Op.fieldAddr 62 (Operand.tmp 84) 3, type := 0, pos := "law.go:216", after := #[{ on := 3, ground := Ground.data }], guard := none }) (v := ?_) rfl (by kernel_rfl) (by kernel_rfl) (by kernel_rfl) (fun _ _ _ h => h) (Or.inl ⟨by rfl, ?_⟩) (by assumption) ?_
            rotate_left
            · intro w hSw; (try dsimp only at hSw); go_simp <;> with_reducible rfl
            try simp only [Act.put, List.setIfInBounds_toArray, List.set_cons_zero, List.set_cons_succ]
            refine wpAnyH_take (i := 5) (oi := { dst := some 86, op := Op.load 56 (Operand.tmp 85), type := 56, pos := "law.go:216", after := #[{ on := 4, ground := Ground.data }], guard := none }) (v := ?_) rfl (by kernel_rfl) (by kernel_rfl) (by kernel_rfl) (fun _ _ _ h => h) (Or.inl ⟨by rfl, ?_⟩) (by assumption) ?_
            rotate_left
            · intro w hSw; (try dsimp only at hSw); go_simp <;> with_reducible rfl
            try simp only [Act.put, List.setIfInBounds_toArray, List.set_cons_zero, List.set_cons_succ]
            refine wpAnyH_take (i := 6) (oi := { dst := some 87, op := Op.move (Operand.tmp 1), type := 60, pos := "law.go:216", after := #[], guard := none }) (v := ?_) rfl (by kernel_rfl) (by kernel_rfl) (by kernel_rfl) (fun _ _ _ h => h) (Or.inl ⟨by rfl, ?_⟩) (by assumption) ?_
            rotate_left
            · intro w hSw; (try dsimp only at hSw); go_simp <;> with_reducible rfl
            try simp only [Act.put, List.setIfInBounds_toArray, List.set_cons_zero, List.set_cons_succ]
            refine wpAnyH_take (i := 7) (oi := { dst := some 88, op := Op.move (Operand.tmp 11), type := 3, pos := "law.go:216", after := #[], guard := none }) (v := ?_) rfl (by kernel_rfl) (by kernel_rfl) (by kernel_rfl) (fun _ _ _ h => h) (Or.inl ⟨by rfl, ?_⟩) (by assumption) ?_
            rotate_left
            · intro w hSw; (try dsimp only at hSw); go_simp <;> with_reducible rfl
            try simp only [Act.put, List.setIfInBounds_toArray, List.set_cons_zero, List.set_cons_succ]
            refine wpAnyH_take (i := 8) (oi := { dst := some 89, op := Op.indexAddr 60 (Operand.tmp 87) (Operand.tmp 88), type := 0, pos := "law.go:216", after := #[{ on := 6, ground := Ground.data }, { on := 7, ground := Ground.data }], guard := none }) (v := ?_) rfl (by kernel_rfl) (by kernel_rfl) (by kernel_rfl) (fun _ _ _ h => h) (Or.inl ⟨by rfl, ?_⟩) (by assumption) ?_
            rotate_left
            · intro w hSw; (try dsimp only at hSw); go_simp <;> with_reducible rfl
            try simp only [Act.put, List.setIfInBounds_toArray, List.set_cons_zero, List.set_cons_succ]
            refine wpAnyH_take (i := 9) (oi := { dst := some 90, op := Op.fieldAddr 62 (Operand.tmp 89) 3, type := 0, pos := "law.go:216", after := #[{ on := 8, ground := Ground.data }], guard := none }) (v := ?_) rfl (by kernel_rfl) (by kernel_rfl) (by kernel_rfl) (fun _ _ _ h => h) (Or.inl ⟨by rfl, ?_⟩) (by assumption) ?_
            rotate_left
            · intro w hSw; (try dsimp only at hSw); go_simp <;> with_reducible rfl
            try simp only [Act.put, List.setIfInBounds_toArray, List.set_cons_zero, List.set_cons_succ]
            refine wpAnyH_take (i := 10) (oi := { dst := some 91, op := Op.load 56 (Operand.tmp 90), type := 56, pos := "law.go:216", after := #[{ on := 9, ground := Ground.data }], guard := none }) (v := ?_) rfl (by kernel_rfl) (by kernel_rfl) (by kernel_rfl) (fun _ _ _ h => h) (Or.inl ⟨by rfl, ?_⟩) (by assumption) ?_
            rotate_left
            · intro w hSw; (try dsimp only at hSw); go_simp <;> with_reducible rfl
            try simp only [Act.put, List.setIfInBounds_toArray, List.set_cons_zero, List.set_cons_succ]
            refine wpAnyH_take (i := 11) (oi := { dst := some 92, op := Op.call { callee := Callee.builtin Builtin.len, args := #[Operand.tmp 91], argTypes := #[56] }, type := 3, pos := "law.go:216", after := #[{ on := 10, ground := Ground.data }], guard := none }) (v := ?_) rfl (by kernel_rfl) (by kernel_rfl) (by kernel_rfl) (fun _ _ _ h => h) (Or.inl ⟨by rfl, ?_⟩) (by assumption) ?_
            rotate_left
            · intro w hSw; (try dsimp only at hSw); go_simp <;> with_reducible rfl
            try simp only [Act.put, List.setIfInBounds_toArray, List.set_cons_zero, List.set_cons_succ]
            refine wpAnyH_take (i := 12) (oi := { dst := some 93, op := Op.call { callee := Callee.builtin Builtin.min, args := #[Operand.tmp 92, Operand.const (Value.int IntKind.i64 20)], argTypes := #[3, 3] }, type := 3, pos := "law.go:216", after := #[{ on := 11, ground := Ground.data }], guard := none }) (v := ?_) rfl (by kernel_rfl) (by kernel_rfl) (by kernel_rfl) (fun _ _ _ h => h) (Or.inl ⟨by rfl, ?_⟩) (by assumption) ?_
            rotate_left
            · intro w hSw; (try dsimp only at hSw); go_simp <;> with_reducible rfl
            try simp only [Act.put, List.setIfInBounds_toArray, List.set_cons_zero, List.set_cons_succ]
            refine wpAnyH_take (i := 13) (oi := { dst := some 94, op := Op.slice 56 (Operand.tmp 86) none (some (Operand.tmp 93)) none, type := 56, pos := "law.go:216", after := #[{ on := 5, ground := Ground.data }, { on := 12, ground := Ground.data }], guard := none }) (v := ?_) rfl (by kernel_rfl) (by kernel_rfl) (by kernel_rfl) (fun _ _ _ h => h) (Or.inl ⟨by rfl, ?_⟩) (by assumption) ?_
            rotate_left
            · intro w hSw; (try dsimp only at hSw); go_simp <;> with_reducible rfl
            try simp only [Act.put, List.setIfInBounds_toArray, List.set_cons_zero, List.set_cons_succ]
            refine wpAnyH_take (i := 14) (oi := { dst := some 95, op := Op.move (Operand.tmp 1), type := 60, pos := "law.go:216", after := #[], guard := none }) (v := ?_) rfl (by kernel_rfl) (by kernel_rfl) (by kernel_rfl) (fun _ _ _ h => h) (Or.inl ⟨by rfl, ?_⟩) (by assumption) ?_
            rotate_left
            · intro w hSw; (try dsimp only at hSw); go_simp <;> with_reducible rfl
            try simp only [Act.put, List.setIfInBounds_toArray, List.set_cons_zero, List.set_cons_succ]
            refine wpAnyH_take (i := 15) (oi := { dst := some 96, op := Op.move (Operand.tmp 11), type := 3, pos := "law.go:216", after := #[], guard := none }) (v := ?_) rfl (by kernel_rfl) (by kernel_rfl) (by kernel_rfl) (fun _ _ _ h => h) (Or.inl ⟨by rfl, ?_⟩) (by assumption) ?_
            rotate_left
            · intro w hSw; (try dsimp only at hSw); go_simp <;> with_reducible rfl
            try simp only [Act.put, List.setIfInBounds_toArray, List.set_cons_zero, List.set_cons_succ]
            refine wpAnyH_take (i := 16) (oi := { dst := some 97, op := Op.indexAddr 60 (Operand.tmp 95) (Operand.tmp 96), type := 0, pos := "law.go:216", after := #[{ on := 14, ground := Ground.data }, { on := 15, ground := Ground.data }], guard := none }) (v := ?_) rfl (by kernel_rfl) (by kernel_rfl) (by kernel_rfl) (fun _ _ _ h => h) (Or.inl ⟨by rfl, ?_⟩) (by assumption) ?_
            rotate_left
            · intro w hSw; (try dsimp only at hSw); go_simp <;> with_reducible rfl
            try simp only [Act.put, List.setIfInBounds_toArray, List.set_cons_zero, List.set_cons_succ]
            refine wpAnyH_take (i := 17) (oi := { dst := some 98, op := Op.fieldAddr 62 (Operand.tmp 97) 2, type := 0, pos := "law.go:216", after := #[{ on := 16, ground := Ground.data }], guard := none }) (v := ?_) rfl (by kernel_rfl) (by kernel_rfl) (by kernel_rfl) (fun _ _ _ h => h) (Or.inl ⟨by rfl, ?_⟩) (by assumption) ?_
            rotate_left
            · intro w hSw; (try dsimp only at hSw); go_simp <;> with_reducible rfl
            try simp only [Act.put, List.setIfInBounds_toArray, List.set_cons_zero, List.set_cons_succ]
            refine wpAnyH_take (i := 18) (oi := { dst := some 99, op := Op.load 3 (Operand.tmp 98), type := 3, pos := "law.go:216", after := #[{ on := 17, ground := Ground.data }], guard := none }) (v := ?_) rfl (by kernel_rfl) (by kernel_rfl) (by kernel_rfl) (fun _ _ _ h => h) (Or.inl ⟨by rfl, ?_⟩) (by assumption) ?_
            rotate_left
            · intro w hSw; (try dsimp only at hSw); go_simp <;> with_reducible rfl
            try simp only [Act.put, List.setIfInBounds_toArray, List.set_cons_zero, List.set_cons_succ]
            refine wpAnyH_ready (rs := [19]) (by kernel_rfl) (by simp) ?_
            refine AllReadyH.cons (o := { dst := some 100, op := Op.call { callee := Callee.value (Operand.func 30), args := #[Operand.tmp 81, Operand.tmp 94, Operand.tmp 99], argTypes := #[27, 56, 3] }, type := 33, pos := "law.go:216", after := #[{ on := 0, ground := Ground.data }, { on := 13, ground := Ground.data }, { on := 18, ground := Ground.data }], guard := none }) rfl (fun K hK => ?_) ?_
            · go_simp
              go_at_call 30
              refine (HCR.out _ (Turns.drew wr)).mono ?_
              rintro e W5 ⟨rfl, hd5, ht5⟩
              refine hK.out _ _ ((HCELL.out _ hd5.below).2.2) (fun hHeld => ?_)
              clear hK K
              try simp only [Act.put, List.setIfInBounds_toArray, List.set_cons_zero, List.set_cons_succ]
              refine wpAnyH_done (by kernel_rfl) ?_ _
              refine NoPanic.normal ?_
              have HD5 := Lib.hid hd5
              have HT5 := Lib.hid ((hTL.out.quiet (Turns.drew wr)).keep ht5)
              have HZ5 : Hid (∀ q, Z q → q < W5.heap.size) := Lib.hid (fun q hq => Nat.lt_of_lt_of_le (hZ.out q hq) ht5.size)
              clear hd5 ht5 HCR hS0 hHeld hc0 hc1 hc2 hc3
              go_wp2_with fail
              refine (open_D HD5.out HZ5.out a HK.out HE.out (by rw [HRR.out.2]; decide) (by rw [HRR.out.1]; decide)).mono ?_
              rintro e W6 ⟨hr, ht6⟩
              unfold OpenD at hr
              rw [HO.out.1, HO.out.2.1] at hr
              rcases hr with ⟨-, j9, t6, rfl, ht6', hj6⟩ | ⟨hn, -⟩
              case inr => exact absurd rfl hn
              cases ht6'
              have HJ6 := Lib.hid hj6
              have HT6 := Lib.hid (HT5.out.keep ht6)
              have HZ6 : Hid (∀ q, Z q → q < W6.heap.size) := Lib.hid (fun q hq => Nat.lt_of_lt_of_le (HZ5.out q hq) ht6.size)
              have hrl9 := recs_le HO.out.2.2.1
              have hml := HO.out.2.2.2.2.2.1
              have d4 : decide ((t9.recs.length : Int) < (t.recs.length : Int)) = false := by simp; omega
              have d4n : decide (t9.recs.length < t.recs.length) = false := by simp; omega
              clear hj6 ht6 HT5 HD5 HZ5
              go_wp2_with fail
              refine (records_O HJ6.out.old (by omega)).mono ?_
              rintro e W7 ⟨⟨v7, rfl, ho7⟩, hb7⟩
              obtain ⟨A7, c7, rfl, -, -⟩ := ho7.slice
              have HJ7 := Lib.hid (HJ6.out.quiet (Turns.of_below hb7))
              have HT7 := Lib.hid (HT6.out.quiet (Turns.of_below hb7))
              have HZ7 : Hid (∀ q, Z q → q < W7.heap.size) := Lib.hid (fun q hq => Nat.lt_of_lt_of_le (HZ6.out q hq) hb7.size)
              clear ho7 hb7 HJ6 HT6 HZ6
              go_wp2_with fail
              refine (records_O HJ7.out.old (by omega)).mono ?_
              rintro e W8 ⟨⟨v8, rfl, ho8⟩, hb8⟩
              obtain ⟨A8, c8, rfl, hlc8, -⟩ := ho8.slice
              have HJ8 := Lib.hid (HJ7.out.quiet (Turns.of_below hb8))
              have HT8 := Lib.hid (HT7.out.quiet (Turns.of_below hb8))
              have HZ8 : Hid (∀ q, Z q → q < W8.heap.size) := Lib.hid (fun q hq => Nat.lt_of_lt_of_le (HZ7.out q hq) hb8.size)
              have hl8 : LAt W8 W8.heap.size A8 .string t.recs := by have := ho8.lat.take t.recs.length; rw [HO.out.2.2.2.2.2.2] at this; exact this
              have HSM8 := Lib.hid (same_walk A8 A6 t.recs t.recs t.recs.length t.recs.length c8 c6 rfl rfl (by omega) W8 hl8 HT8.out.o.lat)
              rw [show decide (t.recs = t.recs) = true by simp] at HSM8
              have y7 : (0 : Int) ≤ (t.recs.length : Int) := by omega
              have y8 : (t.recs.length : Int) ≤ (c8 : Int) := by omega
              clear ho8 hb8 HJ7 HT7 HZ7 hl8
              go_wp2_with fail
              refine HSM8.out.mono ?_
              rintro e W10 ⟨rfl, hb10⟩
              have HJ10 := Lib.hid (HJ8.out.quiet (Turns.of_below hb10))
              have HZ10 : Hid (∀ q, Z q → q < W10.heap.size) := Lib.hid (fun q hq => Nat.lt_of_lt_of_le (HZ8.out q hq) hb10.size)
              clear hb10 HJ8 HT8 HZ8 HSM8 d4 d4n hml
              go_wp2_with fail
              refine (records_O HJ10.out.old (by omega)).mono ?_
              rintro e W9 ⟨⟨v9, rfl, ho9⟩, hb9⟩
              obtain ⟨A9, c9, rfl, -, -⟩ := ho9.slice
              obtain ⟨Z9, hZ9e⟩ : ∃ Z9 : Nat → Prop, Z9 = fun q => Z q ∨ (W10.heap.size ≤ q ∧ q < W9.heap.size) := ⟨_, rfl⟩
              obtain ⟨s9, hs9⟩ : ∃ s9, openD s8 = s9 := ⟨_, rfl⟩
              rw [hs9] at HJ10 HO
              have HJ9 : Hid (JL W Z9 W9 n d s9 j9 t9 false) := Lib.hid (by rw [hZ9e]; exact HJ10.out.reserve hb9)
              have HZ9 : Hid (∀ q, Z9 q → q < W9.heap.size) := Lib.hid (by rw [hZ9e]; exact reserve_lt HZ10.out hb9.size)
              have HT9 : Hid (OneL W9 Z9 (.slice A9 t9.recs.length c9) t9.recs) := Lib.hid (by rw [hZ9e]; exact ⟨ho9.base (Nat.zero_le _), fun g hg => .inr (ho9.lt g hg)⟩)
              have HC9 : Hid (KeepR n s9 t9 false) := Lib.hid ⟨HO.out.2.2.1, .inl ⟨rfl, HO.out.2.2.2.1⟩, by rw [HO.out.2.2.2.2.1]; omega, by rw [HO.out.2.2.2.1.pend]; exact Nat.zero_le _⟩
              clear ho9 hb9 hZ9e hs9 HJ10 HZ10
              go_wp2_with fail
              refine (records_O HJ9.out.old (by omega)).mono ?_
              rintro e W15 ⟨⟨v15, rfl, ho15⟩, hb15⟩
              obtain ⟨A15, c15, rfl, hlc15, -⟩ := ho15.slice
              have HJ15 := Lib.hid (HJ9.out.quiet (Turns.of_below hb15))
              have HT15 := Lib.hid (HT9.out.quiet (Turns.of_below hb15))
              have HZ15 : Hid (∀ q, Z9 q → q < W15.heap.size) := Lib.hid (fun q hq => Nat.lt_of_lt_of_le (HZ9.out q hq) hb15.size)
              have HSM := Lib.hid (same_walk A15 A9 t9.recs t9.recs t9.recs.length t9.recs.length c15 c9 rfl rfl (by omega) W15 ho15.lat HT15.out.o.lat)
              rw [show decide (t9.recs = t9.recs) = true by simp] at HSM
              have y5 : (0 : Int) ≤ (t9.recs.length : Int) := by omega
              have y6 : (t9.recs.length : Int) ≤ (c15 : Int) := by omega
              clear ho15 hb15 HJ9 HT9 HZ9
              go_wp2_with fail
              refine HSM.out.mono ?_
              rintro e W16 ⟨rfl, hb16⟩
              have HJ16 := Lib.hid (HJ15.out.quiet (Turns.of_below hb16))
              have HT16 := Lib.hid (HT15.out.quiet (Turns.of_below hb16))
              have HZ16 : Hid (∀ q, Z9 q → q < W16.heap.size) := Lib.hid (fun q hq => Nat.lt_of_lt_of_le (HZ15.out q hq) hb16.size)
              clear hb16 HJ15 HT15 HZ15 HSM
              go_wp2_with fail
              exact ⟨⟨k + 1, s9, t9, false, j9, Z9, A9, c9, by omega, by omega, by go_num, rfl, rfl, HJ16, HZ16, HT16, HC9⟩, by simp only [intOf]; omega⟩
            exact AllReadyH.nil
          · go_wp2_with (first | (go_at_call 14; (with_reducible refine (HPK.out _).mono ?_); rintro e w1 ⟨rfl, rfl⟩) | fail)
            obtain ⟨kn, hkn⟩ : ∃ kn : Nat, min (yp.length : Int) 20 = (kn : Int) := ⟨min yp.length 20, by omega⟩
            have hkn2 : (yp.take kn).length = kn ∧ kn ≤ 20 := ⟨by rw [List.length_take]; omega, by omega⟩
            have y3 : (0 : Int) ≤ (kn : Int) := by omega
            have y4 : (kn : Int) ≤ (yd : Int) := by have := HY.out.kcap; dsimp only at this; omega
            have hsp := hC.out.pend
            have HCR : Hid (∀ V, Turns (fun _ => False) wr V → Calls Tryz.prog 30 #[.pointer (some ⟨d, 0, none⟩), .slice yB kn yd, .int .i64 yn] V fun e W' => e = .returned (.int .i64 0) ∧ DL W Z W' n d (s.crash (yp.take kn) yn) ∧ Turns (fun k => ¬ Z k) V W') := Lib.hid (fun V hV => crash_D (hJ.out.quiet hV).dl yB (yp.take kn) kn yd hkn2.1 (by omega) (((HY.out.klat.below (hJ.out.quiet hV).below).more (hJ.out.quiet hV).below.size).take kn) yn (by omega))
            obtain ⟨M, hsv⟩ := hC.out.sv
            obtain ⟨t9, o1, o2, o3, o4, o5, o6⟩ := open_after hsv (yp.take kn) yn
            obtain ⟨r1, r2, r3, r4⟩ := crash_rest s (yp.take kn) yn
            obtain ⟨s8, hs8⟩ : ∃ s8, s.crash (yp.take kn) yn = s8 := ⟨_, rfl⟩
            rw [hs8] at HCR o1 o2 o3 o5 r1 r2 r3 r4
            have hpre : t.recs.length ≤ t9.recs.length ∧ t9.recs.take t.recs.length = t.recs := by
              rcases o6 with q | q
              · rw [q]; exact ⟨Nat.le_refl _, List.take_length ..⟩
              · rw [q]; exact ⟨by simp, by simp⟩
            have HO := Lib.hid (And.intro o1 (And.intro o2 (And.intro o4 (And.intro o3 (And.intro o5 hpre)))))
            have HRR := Lib.hid (And.intro r2 r3)
            clear hs8 o1 o2 o3 o4 o5 o6 r1 r2 r3 r4 hkn2 hsp hsv hpre
            have hS0 : wr.drew.cell? ⟨(p.add (k * 4)).block, (p.add (k * 4)).off + 2, none⟩ = some (.int .i64 yn) ∧ wr.drew.cell? ⟨(p.add (k * 4)).block, (p.add (k * 4)).off + 3, none⟩ = some (.slice yB yp.length yd) := ⟨hc2, hc3⟩
            refine wp_region_noPanic ?_
            refine wp_region_held_drew (S := fun w' => w'.cell? ⟨(p.add (k * 4)).block, (p.add (k * 4)).off + 2, none⟩ = some (.int .i64 yn) ∧ w'.cell? ⟨(p.add (k * 4)).block, (p.add (k * 4)).off + 3, none⟩ = some (.slice yB yp.length yd)) (by kernel_rfl) hS0 (fun hHeld => ?_)
            refine wpAnyH_take (i := 0) (oi := { dst := some 81, op := Op.move (Operand.tmp 6), type := 27, pos := "law.go:216", after := #[], guard := none }) (v := ?_) rfl (by kernel_rfl) (by kernel_rfl) (by kernel_rfl) (fun _ _ _ h => h) (Or.inl ⟨by rfl, ?_⟩) (by assumption) ?_
            rotate_left
            · intro w hSw; (try dsimp only at hSw); go_simp <;> with_reducible rfl
            try simp only [Act.put, List.setIfInBounds_toArray, List.set_cons_zero, List.set_cons_succ]
            refine wpAnyH_take (i := 1) (oi := { dst := some 82, op := Op.move (Operand.tmp 1), type := 60, pos := "law.go:216", after := #[], guard := none }) (v := ?_) rfl (by kernel_rfl) (by kernel_rfl) (by kernel_rfl) (fun _ _ _ h => h) (Or.inl ⟨by rfl, ?_⟩) (by assumption) ?_
            rotate_left
            · intro w hSw; (try dsimp only at hSw); go_simp <;> with_reducible rfl
            try simp only [Act.put, List.setIfInBounds_toArray, List.set_cons_zero, List.set_cons_succ]
            refine wpAnyH_take (i := 2) (oi := { dst := some 83, op := Op.move (Operand.tmp 11), type := 3, pos := "law.go:216", after := #[], guard := none }) (v := ?_) rfl (by kernel_rfl) (by kernel_rfl) (by kernel_rfl) (fun _ _ _ h => h) (Or.inl ⟨by rfl, ?_⟩) (by assumption) ?_
            rotate_left
            · intro w hSw; (try dsimp only at hSw); go_simp <;> with_reducible rfl
            try simp only [Act.put, List.setIfInBounds_toArray, List.set_cons_zero, List.set_cons_succ]
            refine wpAnyH_take (i := 3) (oi := { dst := some 84, op := Op.indexAddr 60 (Operand.tmp 82) (Operand.tmp 83), type := 0, pos := "law.go:216", after := #[{ on := 1, ground := Ground.data }, { on := 2, ground := Ground.data }], guard := none }) (v := ?_) rfl (by kernel_rfl) (by kernel_rfl) (by kernel_rfl) (fun _ _ _ h => h) (Or.inl ⟨by rfl, ?_⟩) (by assumption) ?_
            rotate_left
            · intro w hSw; (try dsimp only at hSw); go_simp <;> with_reducible rfl
            try simp only [Act.put, List.setIfInBounds_toArray, List.set_cons_zero, List.set_cons_succ]
            refine wpAnyH_take (i := 4) (oi := { dst := some 85, op := Op.fieldAddr 62 (Operand.tmp 84) 3, type := 0, pos := "law.go:216", after := #[{ on := 3, ground := Ground.data }], guard := none }) (v := ?_) rfl (by kernel_rfl) (by kernel_rfl) (by kernel_rfl) (fun _ _ _ h => h) (Or.inl ⟨by rfl, ?_⟩) (by assumption) ?_
            rotate_left
            · intro w hSw; (try dsimp only at hSw); go_simp <;> with_reducible rfl
            try simp only [Act.put, List.setIfInBounds_toArray, List.set_cons_zero, List.set_cons_succ]
            refine wpAnyH_take (i := 5) (oi := { dst := some 86, op := Op.load 56 (Operand.tmp 85), type := 56, pos := "law.go:216", after := #[{ on := 4, ground := Ground.data }], guard := none }) (v := ?_) rfl (by kernel_rfl) (by kernel_rfl) (by kernel_rfl) (fun _ _ _ h => h) (Or.inl ⟨by rfl, ?_⟩) (by assumption) ?_
            rotate_left
            · intro w hSw; (try dsimp only at hSw); go_simp <;> with_reducible rfl
            try simp only [Act.put, List.setIfInBounds_toArray, List.set_cons_zero, List.set_cons_succ]
            refine wpAnyH_take (i := 6) (oi := { dst := some 87, op := Op.move (Operand.tmp 1), type := 60, pos := "law.go:216", after := #[], guard := none }) (v := ?_) rfl (by kernel_rfl) (by kernel_rfl) (by kernel_rfl) (fun _ _ _ h => h) (Or.inl ⟨by rfl, ?_⟩) (by assumption) ?_
            rotate_left
            · intro w hSw; (try dsimp only at hSw); go_simp <;> with_reducible rfl
            try simp only [Act.put, List.setIfInBounds_toArray, List.set_cons_zero, List.set_cons_succ]
            refine wpAnyH_take (i := 7) (oi := { dst := some 88, op := Op.move (Operand.tmp 11), type := 3, pos := "law.go:216", after := #[], guard := none }) (v := ?_) rfl (by kernel_rfl) (by kernel_rfl) (by kernel_rfl) (fun _ _ _ h => h) (Or.inl ⟨by rfl, ?_⟩) (by assumption) ?_
            rotate_left
            · intro w hSw; (try dsimp only at hSw); go_simp <;> with_reducible rfl
            try simp only [Act.put, List.setIfInBounds_toArray, List.set_cons_zero, List.set_cons_succ]
            refine wpAnyH_take (i := 8) (oi := { dst := some 89, op := Op.indexAddr 60 (Operand.tmp 87) (Operand.tmp 88), type := 0, pos := "law.go:216", after := #[{ on := 6, ground := Ground.data }, { on := 7, ground := Ground.data }], guard := none }) (v := ?_) rfl (by kernel_rfl) (by kernel_rfl) (by kernel_rfl) (fun _ _ _ h => h) (Or.inl ⟨by rfl, ?_⟩) (by assumption) ?_
            rotate_left
            · intro w hSw; (try dsimp only at hSw); go_simp <;> with_reducible rfl
            try simp only [Act.put, List.setIfInBounds_toArray, List.set_cons_zero, List.set_cons_succ]
            refine wpAnyH_take (i := 9) (oi := { dst := some 90, op := Op.fieldAddr 62 (Operand.tmp 89) 3, type := 0, pos := "law.go:216", after := #[{ on := 8, ground := Ground.data }], guard := none }) (v := ?_) rfl (by kernel_rfl) (by kernel_rfl) (by kernel_rfl) (fun _ _ _ h => h) (Or.inl ⟨by rfl, ?_⟩) (by assumption) ?_
            rotate_left
            · intro w hSw; (try dsimp only at hSw); go_simp <;> with_reducible rfl
            try simp only [Act.put, List.setIfInBounds_toArray, List.set_cons_zero, List.set_cons_succ]
            refine wpAnyH_take (i := 10) (oi := { dst := some 91, op := Op.load 56 (Operand.tmp 90), type := 56, pos := "law.go:216", after := #[{ on := 9, ground := Ground.data }], guard := none }) (v := ?_) rfl (by kernel_rfl) (by kernel_rfl) (by kernel_rfl) (fun _ _ _ h => h) (Or.inl ⟨by rfl, ?_⟩) (by assumption) ?_
            rotate_left
            · intro w hSw; (try dsimp only at hSw); go_simp <;> with_reducible rfl
            try simp only [Act.put, List.setIfInBounds_toArray, List.set_cons_zero, List.set_cons_succ]
            refine wpAnyH_take (i := 11) (oi := { dst := some 92, op := Op.call { callee := Callee.builtin Builtin.len, args := #[Operand.tmp 91], argTypes := #[56] }, type := 3, pos := "law.go:216", after := #[{ on := 10, ground := Ground.data }], guard := none }) (v := ?_) rfl (by kernel_rfl) (by kernel_rfl) (by kernel_rfl) (fun _ _ _ h => h) (Or.inl ⟨by rfl, ?_⟩) (by assumption) ?_
            rotate_left
            · intro w hSw; (try dsimp only at hSw); go_simp <;> with_reducible rfl
            try simp only [Act.put, List.setIfInBounds_toArray, List.set_cons_zero, List.set_cons_succ]
            refine wpAnyH_take (i := 12) (oi := { dst := some 93, op := Op.call { callee := Callee.builtin Builtin.min, args := #[Operand.tmp 92, Operand.const (Value.int IntKind.i64 20)], argTypes := #[3, 3] }, type := 3, pos := "law.go:216", after := #[{ on := 11, ground := Ground.data }], guard := none }) (v := ?_) rfl (by kernel_rfl) (by kernel_rfl) (by kernel_rfl) (fun _ _ _ h => h) (Or.inl ⟨by rfl, ?_⟩) (by assumption) ?_
            rotate_left
            · intro w hSw; (try dsimp only at hSw); go_simp <;> with_reducible rfl
            try simp only [Act.put, List.setIfInBounds_toArray, List.set_cons_zero, List.set_cons_succ]
            refine wpAnyH_take (i := 13) (oi := { dst := some 94, op := Op.slice 56 (Operand.tmp 86) none (some (Operand.tmp 93)) none, type := 56, pos := "law.go:216", after := #[{ on := 5, ground := Ground.data }, { on := 12, ground := Ground.data }], guard := none }) (v := ?_) rfl (by kernel_rfl) (by kernel_rfl) (by kernel_rfl) (fun _ _ _ h => h) (Or.inl ⟨by rfl, ?_⟩) (by assumption) ?_
            rotate_left
            · intro w hSw; (try dsimp only at hSw); go_simp <;> with_reducible rfl
            try simp only [Act.put, List.setIfInBounds_toArray, List.set_cons_zero, List.set_cons_succ]
            refine wpAnyH_take (i := 14) (oi := { dst := some 95, op := Op.move (Operand.tmp 1), type := 60, pos := "law.go:216", after := #[], guard := none }) (v := ?_) rfl (by kernel_rfl) (by kernel_rfl) (by kernel_rfl) (fun _ _ _ h => h) (Or.inl ⟨by rfl, ?_⟩) (by assumption) ?_
            rotate_left
            · intro w hSw; (try dsimp only at hSw); go_simp <;> with_reducible rfl
            try simp only [Act.put, List.setIfInBounds_toArray, List.set_cons_zero, List.set_cons_succ]
            refine wpAnyH_take (i := 15) (oi := { dst := some 96, op := Op.move (Operand.tmp 11), type := 3, pos := "law.go:216", after := #[], guard := none }) (v := ?_) rfl (by kernel_rfl) (by kernel_rfl) (by kernel_rfl) (fun _ _ _ h => h) (Or.inl ⟨by rfl, ?_⟩) (by assumption) ?_
            rotate_left
            · intro w hSw; (try dsimp only at hSw); go_simp <;> with_reducible rfl
            try simp only [Act.put, List.setIfInBounds_toArray, List.set_cons_zero, List.set_cons_succ]
            refine wpAnyH_take (i := 16) (oi := { dst := some 97, op := Op.indexAddr 60 (Operand.tmp 95) (Operand.tmp 96), type := 0, pos := "law.go:216", after := #[{ on := 14, ground := Ground.data }, { on := 15, ground := Ground.data }], guard := none }) (v := ?_) rfl (by kernel_rfl) (by kernel_rfl) (by kernel_rfl) (fun _ _ _ h => h) (Or.inl ⟨by rfl, ?_⟩) (by assumption) ?_
            rotate_left
            · intro w hSw; (try dsimp only at hSw); go_simp <;> with_reducible rfl
            try simp only [Act.put, List.setIfInBounds_toArray, List.set_cons_zero, List.set_cons_succ]
            refine wpAnyH_take (i := 17) (oi := { dst := some 98, op := Op.fieldAddr 62 (Operand.tmp 97) 2, type := 0, pos := "law.go:216", after := #[{ on := 16, ground := Ground.data }], guard := none }) (v := ?_) rfl (by kernel_rfl) (by kernel_rfl) (by kernel_rfl) (fun _ _ _ h => h) (Or.inl ⟨by rfl, ?_⟩) (by assumption) ?_
            rotate_left
            · intro w hSw; (try dsimp only at hSw); go_simp <;> with_reducible rfl
            try simp only [Act.put, List.setIfInBounds_toArray, List.set_cons_zero, List.set_cons_succ]
            refine wpAnyH_take (i := 18) (oi := { dst := some 99, op := Op.load 3 (Operand.tmp 98), type := 3, pos := "law.go:216", after := #[{ on := 17, ground := Ground.data }], guard := none }) (v := ?_) rfl (by kernel_rfl) (by kernel_rfl) (by kernel_rfl) (fun _ _ _ h => h) (Or.inl ⟨by rfl, ?_⟩) (by assumption) ?_
            rotate_left
            · intro w hSw; (try dsimp only at hSw); go_simp <;> with_reducible rfl
            try simp only [Act.put, List.setIfInBounds_toArray, List.set_cons_zero, List.set_cons_succ]
            refine wpAnyH_ready (rs := [19]) (by kernel_rfl) (by simp) ?_
            refine AllReadyH.cons (o := { dst := some 100, op := Op.call { callee := Callee.value (Operand.func 30), args := #[Operand.tmp 81, Operand.tmp 94, Operand.tmp 99], argTypes := #[27, 56, 3] }, type := 33, pos := "law.go:216", after := #[{ on := 0, ground := Ground.data }, { on := 13, ground := Ground.data }, { on := 18, ground := Ground.data }], guard := none }) rfl (fun K hK => ?_) ?_
            · go_simp
              go_at_call 30
              refine (HCR.out _ (Turns.drew wr)).mono ?_
              rintro e W5 ⟨rfl, hd5, ht5⟩
              refine hK.out _ _ ((HCELL.out _ hd5.below).2.2) (fun hHeld => ?_)
              clear hK K
              try simp only [Act.put, List.setIfInBounds_toArray, List.set_cons_zero, List.set_cons_succ]
              refine wpAnyH_done (by kernel_rfl) ?_ _
              refine NoPanic.normal ?_
              have HD5 := Lib.hid hd5
              have HT5 := Lib.hid ((hTL.out.quiet (Turns.drew wr)).keep ht5)
              have HZ5 : Hid (∀ q, Z q → q < W5.heap.size) := Lib.hid (fun q hq => Nat.lt_of_lt_of_le (hZ.out q hq) ht5.size)
              clear hd5 ht5 HCR hS0 hHeld hc0 hc1 hc2 hc3
              go_wp2_with fail
              refine (open_D HD5.out HZ5.out a HK.out HE.out (by rw [HRR.out.2]; decide) (by rw [HRR.out.1]; decide)).mono ?_
              rintro e W6 ⟨hr, ht6⟩
              unfold OpenD at hr
              rw [HO.out.1, HO.out.2.1] at hr
              rcases hr with ⟨-, j9, t6, rfl, ht6', hj6⟩ | ⟨hn, -⟩
              case inr => exact absurd rfl hn
              cases ht6'
              have HJ6 := Lib.hid hj6
              have HT6 := Lib.hid (HT5.out.keep ht6)
              have HZ6 : Hid (∀ q, Z q → q < W6.heap.size) := Lib.hid (fun q hq => Nat.lt_of_lt_of_le (HZ5.out q hq) ht6.size)
              have hrl9 := recs_le HO.out.2.2.1
              have hml := HO.out.2.2.2.2.2.1
              have d4 : decide ((t9.recs.length : Int) < (t.recs.length : Int)) = false := by simp; omega
              have d4n : decide (t9.recs.length < t.recs.length) = false := by simp; omega
              clear hj6 ht6 HT5 HD5 HZ5
              go_wp2_with fail
              refine (records_O HJ6.out.old (by omega)).mono ?_
              rintro e W7 ⟨⟨v7, rfl, ho7⟩, hb7⟩
              obtain ⟨A7, c7, rfl, -, -⟩ := ho7.slice
              have HJ7 := Lib.hid (HJ6.out.quiet (Turns.of_below hb7))
              have HT7 := Lib.hid (HT6.out.quiet (Turns.of_below hb7))
              have HZ7 : Hid (∀ q, Z q → q < W7.heap.size) := Lib.hid (fun q hq => Nat.lt_of_lt_of_le (HZ6.out q hq) hb7.size)
              clear ho7 hb7 HJ6 HT6 HZ6
              go_wp2_with fail
              refine (records_O HJ7.out.old (by omega)).mono ?_
              rintro e W8 ⟨⟨v8, rfl, ho8⟩, hb8⟩
              obtain ⟨A8, c8, rfl, hlc8, -⟩ := ho8.slice
              have HJ8 := Lib.hid (HJ7.out.quiet (Turns.of_below hb8))
              have HT8 := Lib.hid (HT7.out.quiet (Turns.of_below hb8))
              have HZ8 : Hid (∀ q, Z q → q < W8.heap.size) := Lib.hid (fun q hq => Nat.lt_of_lt_of_le (HZ7.out q hq) hb8.size)
              have hl8 : LAt W8 W8.heap.size A8 .string t.recs := by have := ho8.lat.take t.recs.length; rw [HO.out.2.2.2.2.2.2] at this; exact this
              have HSM8 := Lib.hid (same_walk A8 A6 t.recs t.recs t.recs.length t.recs.length c8 c6 rfl rfl (by omega) W8 hl8 HT8.out.o.lat)
              rw [show decide (t.recs = t.recs) = true by simp] at HSM8
              have y7 : (0 : Int) ≤ (t.recs.length : Int) := by omega
              have y8 : (t.recs.length : Int) ≤ (c8 : Int) := by omega
              clear ho8 hb8 HJ7 HT7 HZ7 hl8
              go_wp2_with fail
              refine HSM8.out.mono ?_
              rintro e W10 ⟨rfl, hb10⟩
              have HJ10 := Lib.hid (HJ8.out.quiet (Turns.of_below hb10))
              have HZ10 : Hid (∀ q, Z q → q < W10.heap.size) := Lib.hid (fun q hq => Nat.lt_of_lt_of_le (HZ8.out q hq) hb10.size)
              clear hb10 HJ8 HT8 HZ8 HSM8 d4 d4n hml
              go_wp2_with fail
              refine (records_O HJ10.out.old (by omega)).mono ?_
              rintro e W9 ⟨⟨v9, rfl, ho9⟩, hb9⟩
              obtain ⟨A9, c9, rfl, -, -⟩ := ho9.slice
              obtain ⟨Z9, hZ9e⟩ : ∃ Z9 : Nat → Prop, Z9 = fun q => Z q ∨ (W10.heap.size ≤ q ∧ q < W9.heap.size) := ⟨_, rfl⟩
              obtain ⟨s9, hs9⟩ : ∃ s9, openD s8 = s9 := ⟨_, rfl⟩
              rw [hs9] at HJ10 HO
              have HJ9 : Hid (JL W Z9 W9 n d s9 j9 t9 false) := Lib.hid (by rw [hZ9e]; exact HJ10.out.reserve hb9)
              have HZ9 : Hid (∀ q, Z9 q → q < W9.heap.size) := Lib.hid (by rw [hZ9e]; exact reserve_lt HZ10.out hb9.size)
              have HT9 : Hid (OneL W9 Z9 (.slice A9 t9.recs.length c9) t9.recs) := Lib.hid (by rw [hZ9e]; exact ⟨ho9.base (Nat.zero_le _), fun g hg => .inr (ho9.lt g hg)⟩)
              have HC9 : Hid (KeepR n s9 t9 false) := Lib.hid ⟨HO.out.2.2.1, .inl ⟨rfl, HO.out.2.2.2.1⟩, by rw [HO.out.2.2.2.2.1]; omega, by rw [HO.out.2.2.2.1.pend]; exact Nat.zero_le _⟩
              clear ho9 hb9 hZ9e hs9 HJ10 HZ10
              go_wp2_with fail
              refine (records_O HJ9.out.old (by omega)).mono ?_
              rintro e W15 ⟨⟨v15, rfl, ho15⟩, hb15⟩
              obtain ⟨A15, c15, rfl, hlc15, -⟩ := ho15.slice
              have HJ15 := Lib.hid (HJ9.out.quiet (Turns.of_below hb15))
              have HT15 := Lib.hid (HT9.out.quiet (Turns.of_below hb15))
              have HZ15 : Hid (∀ q, Z9 q → q < W15.heap.size) := Lib.hid (fun q hq => Nat.lt_of_lt_of_le (HZ9.out q hq) hb15.size)
              have HSM := Lib.hid (same_walk A15 A9 t9.recs t9.recs t9.recs.length t9.recs.length c15 c9 rfl rfl (by omega) W15 ho15.lat HT15.out.o.lat)
              rw [show decide (t9.recs = t9.recs) = true by simp] at HSM
              have y5 : (0 : Int) ≤ (t9.recs.length : Int) := by omega
              have y6 : (t9.recs.length : Int) ≤ (c15 : Int) := by omega
              clear ho15 hb15 HJ9 HT9 HZ9
              go_wp2_with fail
              refine HSM.out.mono ?_
              rintro e W16 ⟨rfl, hb16⟩
              have HJ16 := Lib.hid (HJ15.out.quiet (Turns.of_below hb16))
              have HT16 := Lib.hid (HT15.out.quiet (Turns.of_below hb16))
              have HZ16 : Hid (∀ q, Z9 q → q < W16.heap.size) := Lib.hid (fun q hq => Nat.lt_of_lt_of_le (HZ15.out q hq) hb16.size)
              clear hb16 HJ15 HT15 HZ15 HSM
              go_wp2_with fail
              exact ⟨⟨k + 1, s9, t9, false, j9, Z9, A9, c9, by omega, by omega, by go_num, rfl, rfl, HJ16, HZ16, HT16, HC9⟩, by simp only [intOf]; omega⟩
            exact AllReadyH.nil
        · go_wp2_with (first | (go_at_call 14; (with_reducible refine (HPK.out _).mono ?_); rintro e w1 ⟨rfl, rfl⟩) | fail)
          refine (records_O hJ.out.old (by omega)).mono ?_
          rintro e W4 ⟨⟨v4, rfl, ho4⟩, hb4⟩
          obtain ⟨A4, c4, rfl, -, -⟩ := ho4.slice
          obtain ⟨Z4, hZ4⟩ : ∃ Z4 : Nat → Prop, Z4 = fun q => Z q ∨ (wr.heap.size ≤ q ∧ q < W4.heap.size) := ⟨_, rfl⟩
          have HJ4 : Hid (JL W Z4 W4 n d s j t b) := Lib.hid (by rw [hZ4]; exact hJ.out.reserve hb4)
          have HZ4 : Hid (∀ q, Z4 q → q < W4.heap.size) := Lib.hid (by rw [hZ4]; exact reserve_lt hZ.out hb4.size)
          have HT4 : Hid (TwoL W4 Z4 (.slice A6 t.recs.length c6) (.slice A4 t.recs.length c4) t.recs t.recs) := Lib.hid (by
            have h6 := hTL.out.quiet (Turns.of_below hb4)
            rw [hZ4]
            exact ⟨h6.o, ho4.base (Nat.zero_le _), fun g hg => .inl (h6.z g hg), fun g hg => .inr (ho4.lt g hg)⟩)
          obtain ⟨hd0, hd1, hd2, hd3⟩ := HCELL.out W4 HJ4.out.below
          clear ho4 hb4 hZ4 hJ hZ hTL hc0 hc1 hc2 hc3
          go_wp2_with fail
          refine (HFEW.out W4 HJ4.out.below).mono ?_
          rintro e W11 ⟨⟨v11, rfl, ho11⟩, hb11⟩
          obtain ⟨A11, c11, rfl, -, -⟩ := ho11.slice
          obtain ⟨s9, t9, b9, E, g1, g2, g3, g4, g5, g6⟩ := hC.out.app HSH.out
          have HC9 := Lib.hid g5
          have hlf := hC.out.left
          have hpe := hC.out.pend
          have HAP := Lib.hid (append_J (HJ4.out.quiet (Turns.of_below hb11)) (fun q hq => Nat.lt_of_lt_of_le (HZ4.out q hq) hb11.size) A11 L L.length c11 rfl ho11.lat (by omega) HK.out (by omega) (by omega) hC.out.good)
          rw [g1, g2, g3, g4] at HAP
          have HT11 := Lib.hid (HT4.out.quiet (Turns.of_below hb11))
          have HZ11 : Hid (∀ q, Z4 q → q < W11.heap.size) := Lib.hid (fun q hq => Nat.lt_of_lt_of_le (HZ4.out q hq) hb11.size)
          have hrl9 := recs_le g5.good
          clear g1 g2 g3 g4 g5 ho11 hb11 HJ4 HT4 HZ4 hlf hpe hd0 hd1 hd2 hd3
          go_wp2_with fail
          refine HAP.out.mono ?_
          rintro e W5 ⟨rfl, hj5, ht5⟩
          have HJ5 := Lib.hid hj5
          have HT5 := Lib.hid (HT11.out.keep ht5)
          have HZ5 : Hid (∀ q, Z4 q → q < W5.heap.size) := Lib.hid (fun q hq => Nat.lt_of_lt_of_le (HZ11.out q hq) ht5.size)
          clear hj5 ht5 HAP HT11 HZ11
          rcases g6 with ⟨rfl, hrec⟩ | ⟨hE0, rfl⟩
          · have HREC := Lib.hid hrec
            have HBW5 := Lib.hid HJ5.out.below
            have hcell5 := (HCELL.out W5 HBW5.out).2.1
            have hcn5 := HT5.out.o7.nilcap
            have hS4 : W5.drew.cell? ⟨(p.add (k * 4)).block, (p.add (k * 4)).off + 1, none⟩ = some (.slice yA yl.length yc) := hcell5
            have hBL : Below W.heap.size W (W5.alloc (.cells #[] 9)).drew := (HBW5.out.alloc HBW5.out.size _).drew
            have hS5 := (HCELL.out _ hBL).2.1
            have HB7 : Hid (∀ W7, Below W5.heap.size (W5.alloc (.cells #[] 9)).drew W7 → Below W.heap.size W W7) := Lib.hid (fun W7 hb => hBL.trans (hb.mono HBW5.out.size))
            have HS7 : Hid (∀ W7, Below W5.heap.size (W5.alloc (.cells #[] 9)).drew W7 → W5.heap.size ≤ W7.heap.size) := Lib.hid (fun W7 hb => Nat.le_trans (by show _ ≤ (World.alloc _ _).heap.size; rw [World.size_alloc]; omega) hb.size)
            have hlat5 := LAt.cat (HT5.out.o7.lat.below ((Below.refl _ W5).alloc (Nat.le_refl _) (.cells #[] 9)).drew)
            clear hBL hrec
            go_wp2_with fail
            refine wp_region_noPanic ?_
            refine wp_region_held_drew (S := fun w' => w'.cell? ⟨(p.add (k * 4)).block, (p.add (k * 4)).off + 1, none⟩ = some (.slice yA yl.length yc)) (by kernel_rfl) hS4 (fun hHeld => ?_)
            refine wpAnyH_take (i := 1) (oi := { dst := some 58, op := Op.move (Operand.tmp 14), type := 22, pos := "law.go:226", after := #[], guard := none }) (v := ?_) rfl (by kernel_rfl) (by kernel_rfl) (by kernel_rfl) (fun _ _ _ h => h) (Or.inl ⟨by rfl, ?_⟩) (by assumption) ?_
            rotate_left
            · intro w hSw; (try dsimp only at hSw); go_simp <;> with_reducible rfl
            try simp only [Act.put, List.setIfInBounds_toArray, List.set_cons_zero, List.set_cons_succ]
            refine wpAnyH_take (i := 3) (oi := { dst := some 60, op := Op.move (Operand.tmp 1), type := 60, pos := "law.go:226", after := #[], guard := none }) (v := ?_) rfl (by kernel_rfl) (by kernel_rfl) (by kernel_rfl) (fun _ _ _ h => h) (Or.inl ⟨by rfl, ?_⟩) (by assumption) ?_
            rotate_left
            · intro w hSw; (try dsimp only at hSw); go_simp <;> with_reducible rfl
            try simp only [Act.put, List.setIfInBounds_toArray, List.set_cons_zero, List.set_cons_succ]
            refine wpAnyH_take (i := 4) (oi := { dst := some 61, op := Op.move (Operand.tmp 11), type := 3, pos := "law.go:226", after := #[], guard := none }) (v := ?_) rfl (by kernel_rfl) (by kernel_rfl) (by kernel_rfl) (fun _ _ _ h => h) (Or.inl ⟨by rfl, ?_⟩) (by assumption) ?_
            rotate_left
            · intro w hSw; (try dsimp only at hSw); go_simp <;> with_reducible rfl
            try simp only [Act.put, List.setIfInBounds_toArray, List.set_cons_zero, List.set_cons_succ]
            refine wpAnyH_take (i := 5) (oi := { dst := some 62, op := Op.indexAddr 60 (Operand.tmp 60) (Operand.tmp 61), type := 0, pos := "law.go:226", after := #[{ on := 3, ground := Ground.data }, { on := 4, ground := Ground.data }], guard := none }) (v := ?_) rfl (by kernel_rfl) (by kernel_rfl) (by kernel_rfl) (fun _ _ _ h => h) (Or.inl ⟨by rfl, ?_⟩) (by assumption) ?_
            rotate_left
            · intro w hSw; (try dsimp only at hSw); go_simp <;> with_reducible rfl
            try simp only [Act.put, List.setIfInBounds_toArray, List.set_cons_zero, List.set_cons_succ]
            refine wpAnyH_take (i := 6) (oi := { dst := some 63, op := Op.fieldAddr 62 (Operand.tmp 62) 1, type := 0, pos := "law.go:226", after := #[{ on := 5, ground := Ground.data }], guard := none }) (v := ?_) rfl (by kernel_rfl) (by kernel_rfl) (by kernel_rfl) (fun _ _ _ h => h) (Or.inl ⟨by rfl, ?_⟩) (by assumption) ?_
            rotate_left
            · intro w hSw; (try dsimp only at hSw); go_simp <;> with_reducible rfl
            try simp only [Act.put, List.setIfInBounds_toArray, List.set_cons_zero, List.set_cons_succ]
            refine wpAnyH_take (i := 7) (oi := { dst := some 64, op := Op.load 22 (Operand.tmp 63), type := 22, pos := "law.go:226", after := #[{ on := 6, ground := Ground.data }], guard := none }) (v := ?_) rfl (by kernel_rfl) (by kernel_rfl) (by kernel_rfl) (fun _ _ _ h => h) (Or.inl ⟨by rfl, ?_⟩) (by assumption) ?_
            rotate_left
            · intro w hSw; (try dsimp only at hSw); go_simp <;> with_reducible rfl
            try simp only [Act.put, List.setIfInBounds_toArray, List.set_cons_zero, List.set_cons_succ]
            refine wpAnyH_ready (rs := [0]) (by kernel_rfl) (by simp) ?_
            refine AllReadyH.cons (o := { dst := some 57, op := Op.buildSlice 22 0 #[], type := 22, pos := "law.go:226", after := #[], guard := none }) rfl (fun K hK => ?_) ?_
            · go_simp
              refine hK.out _ _ (by exact hS5) (fun hHeld => ?_)
              clear hK K
              try simp only [Act.put, List.setIfInBounds_toArray, List.set_cons_zero, List.set_cons_succ]
              refine wpAnyH_ready (rs := [2]) (by kernel_rfl) (by simp) ?_
              refine AllReadyH.cons (o := { dst := some 59, op := Op.call { callee := Callee.builtin Builtin.append, args := #[Operand.tmp 57, Operand.tmp 58], argTypes := #[22, 22] }, type := 22, pos := "law.go:226", after := #[{ on := 0, ground := Ground.data }, { on := 1, ground := Ground.data }], guard := none }) rfl (fun K hK => ?_) ?_
              · refine step_cat (by rfl) (.tmp 57) (.tmp 58) 22 (by rfl) elemStr (fun _ => rfl) (.slice (some ⟨W5.heap.size, 0, none⟩) 0 0) ([] : List ByteArray) (by rfl) (OL.drew (OL.lit0 (B := W5.heap.size) (e := 9) W5 (Nat.le_refl _))) A4 t.recs t.recs.length c4 rfl (by rfl) hcn5 hlat5 (fun x _ u hu => by rw [List.mem_singleton.1 hu]; rfl) (by unfold maxLen; simp; omega) (by simp; omega) (by show _ ≤ (World.alloc _ _).heap.size; rw [World.size_alloc]; omega) ?_
                intro v7 W7 ho7 hg7 hb7
                refine hK.out _ _ ((HCELL.out _ (HB7.out _ hb7)).2.1) (fun hHeld => ?_)
                clear hK K
                try simp only [Act.put, List.setIfInBounds_toArray, List.set_cons_zero, List.set_cons_succ]
                refine wpAnyH_ready (rs := [8]) (by kernel_rfl) (by simp) ?_
                refine AllReadyH.cons (o := { dst := some 65, op := Op.call { callee := Callee.value (Operand.func 11), args := #[Operand.tmp 64], argTypes := #[22] }, type := 22, pos := "law.go:226", after := #[{ on := 7, ground := Ground.data }, { on := 2, ground := Ground.chain }], guard := none }) rfl (fun K hK => ?_) ?_
                · go_simp
                  go_at_call 11
                  refine (HFEW.out _ (HB7.out _ hb7)).mono ?_
                  rintro e W8 ⟨⟨v8, rfl, ho8⟩, hb8⟩
                  obtain ⟨A8, c8, rfl, -, -⟩ := ho8.slice
                  refine hK.out _ _ ((HCELL.out _ ((HB7.out _ hb7).trans (hb8.mono (HB7.out _ hb7).size))).2.1) (fun hHeld => ?_)
                  clear hK K
                  try simp only [Act.put, List.setIfInBounds_toArray, List.set_cons_zero, List.set_cons_succ]
                  refine wpAnyH_ready (rs := [9]) (by kernel_rfl) (by simp) ?_
                  refine AllReadyH.cons (o := { dst := some 66, op := Op.call { callee := Callee.builtin Builtin.append, args := #[Operand.tmp 59, Operand.tmp 65], argTypes := #[22, 22] }, type := 22, pos := "law.go:226", after := #[{ on := 2, ground := Ground.data }, { on := 8, ground := Ground.data }, { on := 8, ground := Ground.chain }], guard := none }) rfl (fun K hK => ?_) ?_
                  · refine step_cat (by rfl) (.tmp 59) (.tmp 65) 22 (by rfl) elemStr (fun _ => rfl) v7 ([] ++ t.recs) (by rfl) (ho7.below hb8 (Nat.le_refl _)) A8 L L.length c8 rfl (by rfl) ho8.nilcap ho8.lat.cat (fun x _ u hu => by rw [List.mem_singleton.1 hu]; rfl) (by unfold maxLen; simp; omega) (by simp; omega) (Nat.le_trans (HS7.out _ hb7) hb8.size) ?_
                    intro v9 W9 ho9 hg9 hb9
                    refine hK.out _ _ ((HCELL.out _ (((HB7.out _ hb7).trans (hb8.mono (HB7.out _ hb7).size)).trans (hb9.mono (HBW5.out.size)))).2.1) (fun hHeld => ?_)
                    clear hK K
                    try simp only [Act.put, List.setIfInBounds_toArray, List.set_cons_zero, List.set_cons_succ]
                    refine wpAnyH_take (i := 10) (oi := { dst := some 10, op := Op.assign (Operand.tmp 66), type := 22, pos := "law.go:226", after := #[{ on := 9, ground := Ground.data }, { on := 9, ground := Ground.chain }, { on := 0, ground := Ground.phase }, { on := 1, ground := Ground.phase }, { on := 2, ground := Ground.phase }, { on := 3, ground := Ground.phase }, { on := 4, ground := Ground.phase }, { on := 5, ground := Ground.phase }, { on := 6, ground := Ground.phase }, { on := 7, ground := Ground.phase }, { on := 8, ground := Ground.phase }, { on := 9, ground := Ground.phase }], guard := none }) (v := ?_) rfl (by kernel_rfl) (by kernel_rfl) (by kernel_rfl) (fun _ _ _ h => h) (Or.inl ⟨by rfl, ?_⟩) (by assumption) ?_
                    rotate_left
                    · intro w hSw; (try dsimp only at hSw); go_simp <;> with_reducible rfl
                    try simp only [Act.put, List.setIfInBounds_toArray, List.set_cons_zero, List.set_cons_succ]
                    refine wpAnyH_done (by kernel_rfl) ?_ _
                    refine NoPanic.normal ?_
                    have ho9' : OLs W9 W5.heap.size v9 (t.recs ++ L) := ho9
                    rw [← HREC.out] at ho9'
                    obtain ⟨A9, c9, rfl, -, -⟩ := ho9'.slice
                    have hlen9 : (t.recs ++ L).length = t9.recs.length := by rw [HREC.out]
                    have b59 : Below W5.heap.size W5 W9 := (((((Below.refl _ W5).alloc (Nat.le_refl _) _).drew.trans hb7).trans (hb8.mono (HS7.out _ hb7))).trans hb9)
                    obtain ⟨Z9, hZ9⟩ : ∃ Z9 : Nat → Prop, Z9 = fun q => Z4 q ∨ (W5.heap.size ≤ q ∧ q < W9.heap.size) := ⟨_, rfl⟩
                    have HJ9 : Hid (JL W Z9 W9 n d s9 j t9 b9) := Lib.hid (by rw [hZ9]; exact HJ5.out.reserve b59)
                    have HZ9 : Hid (∀ q, Z9 q → q < W9.heap.size) := Lib.hid (by rw [hZ9]; exact reserve_lt HZ5.out b59.size)
                    have HT9 : Hid (OneL W9 Z9 (.slice A9 t9.recs.length c9) t9.recs) := Lib.hid (by
                      rw [hZ9]
                      exact ⟨ho9'.base (Nat.zero_le _), fun g hg => .inr (ho9'.lt g hg)⟩)
                    clear ho9 ho9' b59 hZ9 hb9 hg9 ho8 hb8 hg7 ho7 hb7 HS7 HB7 hlat5 hS5 hS4 hcell5 hcn5 HJ5 HZ5 HT5 hHeld hlen9
                    go_wp2_with fail
                    refine (records_O HJ9.out.old (by omega)).mono ?_
                    rintro e W15 ⟨⟨v15, rfl, ho15⟩, hb15⟩
                    obtain ⟨A15, c15, rfl, hlc15, -⟩ := ho15.slice
                    have HJ15 := Lib.hid (HJ9.out.quiet (Turns.of_below hb15))
                    have HT15 := Lib.hid (HT9.out.quiet (Turns.of_below hb15))
                    have HZ15 : Hid (∀ q, Z9 q → q < W15.heap.size) := Lib.hid (fun q hq => Nat.lt_of_lt_of_le (HZ9.out q hq) hb15.size)
                    have HSM := Lib.hid (same_walk A15 A9 t9.recs t9.recs t9.recs.length t9.recs.length c15 c9 rfl rfl (by omega) W15 ho15.lat HT15.out.o.lat)
                    rw [show decide (t9.recs = t9.recs) = true by simp] at HSM
                    have y5 : (0 : Int) ≤ (t9.recs.length : Int) := by omega
                    have y6 : (t9.recs.length : Int) ≤ (c15 : Int) := by omega
                    clear ho15 hb15 HJ9 HT9 HZ9
                    go_wp2_with fail
                    refine HSM.out.mono ?_
                    rintro e W16 ⟨rfl, hb16⟩
                    have HJ16 := Lib.hid (HJ15.out.quiet (Turns.of_below hb16))
                    have HT16 := Lib.hid (HT15.out.quiet (Turns.of_below hb16))
                    have HZ16 : Hid (∀ q, Z9 q → q < W16.heap.size) := Lib.hid (fun q hq => Nat.lt_of_lt_of_le (HZ15.out q hq) hb16.size)
                    clear hb16 HJ15 HT15 HZ15 HSM
                    go_wp2_with fail
                    exact ⟨⟨k + 1, s9, t9, b9, j, Z9, A9, c9, by omega, by omega, by go_num, rfl, rfl, HJ16, HZ16, HT16, HC9⟩, by simp only [intOf]; omega⟩
                  exact AllReadyH.nil
                exact AllReadyH.nil
              exact AllReadyH.nil
            exact AllReadyH.nil
          · have HJ9 := HJ5
            have HZ9 := HZ5
            have HT9 : Hid (OneL W5 Z4 (.slice A6 t9.recs.length c6) t9.recs) := Lib.hid ⟨HT5.out.o6, HT5.out.z6⟩
            clear HT5 HJ5 HZ5
            go_wp2_with fail
            refine (records_O HJ9.out.old (by omega)).mono ?_
            rintro e W15 ⟨⟨v15, rfl, ho15⟩, hb15⟩
            obtain ⟨A15, c15, rfl, hlc15, -⟩ := ho15.slice
            have HJ15 := Lib.hid (HJ9.out.quiet (Turns.of_below hb15))
            have HT15 := Lib.hid (HT9.out.quiet (Turns.of_below hb15))
            have HZ15 : Hid (∀ q, Z4 q → q < W15.heap.size) := Lib.hid (fun q hq => Nat.lt_of_lt_of_le (HZ9.out q hq) hb15.size)
            have HSM := Lib.hid (same_walk A15 A6 t9.recs t9.recs t9.recs.length t9.recs.length c15 c6 rfl rfl (by omega) W15 ho15.lat HT15.out.o.lat)
            rw [show decide (t9.recs = t9.recs) = true by simp] at HSM
            have y5 : (0 : Int) ≤ (t9.recs.length : Int) := by omega
            have y6 : (t9.recs.length : Int) ≤ (c15 : Int) := by omega
            clear ho15 hb15 HJ9 HT9 HZ9
            go_wp2_with fail
            refine HSM.out.mono ?_
            rintro e W16 ⟨rfl, hb16⟩
            have HJ16 := Lib.hid (HJ15.out.quiet (Turns.of_below hb16))
            have HT16 := Lib.hid (HT15.out.quiet (Turns.of_below hb16))
            have HZ16 : Hid (∀ q, Z4 q → q < W16.heap.size) := Lib.hid (fun q hq => Nat.lt_of_lt_of_le (HZ15.out q hq) hb16.size)
            clear hb16 HJ15 HT15 HZ15 HSM
            go_wp2_with fail
            exact ⟨⟨k + 1, s9, t9, b9, j, Z4, A6, c6, by omega, by omega, by go_num, rfl, rfl, HJ16, HZ16, HT16, HC9⟩, by simp only [intOf]; omega⟩
      · have d2 : decide ((k : Int) < 20) = false := by simp; omega
        have d1 : decide ((k : Int) < (l.length : Int)) = true := by simp [hlt]
        clear hlt2
        go_wp2_with fail
        go_ret
        exact ⟨rfl, hJ.out.below⟩
    · have d1 : decide ((k : Int) < (l.length : Int)) = false := by simp; omega
      obtain rfl : k = l.length := by omega
      clear hlt hk8
      go_wp2_with fail
      go_ret
      exact ⟨rfl, hJ.out.below⟩
end Go.Proofs.YtllmciiadceinaaGreatDoor
end
section
namespace Go.Proofs.YtllmciiadceinaaGreatDoor.lawJournalKeeps
open Go.ChangeShapes Go.WideShapes Go.ChangeAt Go.RowKit
open Go.ChangeMaps (open_string)

theorem own : ownKnob Tryz.prog.godebug = none := by kernel_rfl
theorem laidOut : laidOutB Tryz.prog = true := by kernel_rfl
theorem reads_ok : ∀ t ∈ Tryz.f6.params.toList, Tryz.prog.readableRec t = true ∧ t < Tryz.prog.types.size := by
  have h : (Tryz.f6.params.toList.all fun t => Tryz.prog.readableRec t && decide (t < Tryz.prog.types.size)) = true := by kernel_rfl
  intro t ht
  have := List.all_eq_true.1 h t ht
  simpa using this

theorem star : "*" ++ "errors.errorString" = "*errors.errorString" := by decide
theorem rowErr (u : TypeId) (h : Tryz.prog.typeName? 3 u = some "*errors.errorString") : u = 222 :=
  typeName_ptr_named (nm := "errors.errorString") (by rw [star]; kernel_rfl) (by kernel_rfl) (by decide) u (by rw [star]; exact h)
set_option maxRecDepth 100000 in
/-- What the listed variables hold. -/
theorem facts {W : World} (h : laidMetH Tryz.prog Rows.journalKeepsRow.laid W) : KAt W ∧ ∃ a, ErrAt W a := by
  have h' : laidMet Tryz.prog Rows.journalKeepsRow.laid W := h
  obtain ⟨ps, ⟨g0, t0, cs0, f0, p0, q0, hg0, ht0, hv0, hd0, ⟨g1, t1, cs1, f1, p1, q1, hg1, ht1, hv1, hd1, ⟨g2, t2, cs2, f2, p2, q2, hg2, ht2, hv2, hd2, -, e2⟩, e1⟩, e0⟩, -, hrows⟩ := h'
  obtain rfl := Option.some.inj ((by kernel_rfl : Tryz.prog.globalNamed "yardstick/digest.round" = some 3).symm.trans hg1)
  obtain rfl := Option.some.inj ((by kernel_rfl : Tryz.prog.globalNamed "yardstick/journal.errDamaged" = some 0).symm.trans hg2)
  obtain rfl := Option.some.inj ((by kernel_rfl : (Tryz.prog.globals[3]?).map (·.type) = some 214).symm.trans ht1)
  obtain rfl := Option.some.inj ((by kernel_rfl : (Tryz.prog.globals[0]?).map (·.type) = some 80).symm.trans ht2)
  subst e2
  subst e1
  subst e0
  refine ⟨?_, ?_⟩
  · have hc : cs1.toList = (shaK.map fun (n : Nat) => (n : Int)).map fun z => Value.int .u32 z :=
      Lib.cells_of_tab (n := 64) (k := .u32) (zs := shaK.map fun (n : Nat) => (n : Int)) Tryz.underlying214 Tryz.underlying109 (by kernel_rfl) (by kernel_rfl) hd1
    have hT : Lib.TabIs Tryz.prog W "yardstick/digest.round" .u32 (shaK.map fun (n : Nat) => (n : Int)) := by
      unfold Lib.TabIs
      rw [hv1, ← hc]
    intro j v hv
    rw [List.getElem?_map] at hv
    obtain ⟨x, hx, rfl⟩ := Option.map_eq_some_iff.1 hv
    have hj : j < shaK.length := (List.getElem?_eq_some_iff.1 hx).1
    have := hT.cell (g := 3) (by kernel_rfl) j (by simpa using hj)
    rw [Nat.zero_add, this]
    simp [List.getD_eq_getElem?_getD, List.getElem?_map, hx, wv]
  · obtain ⟨l2⟩ := cs2
    have ok2 : ∀ u v, l2 = [.iface u v] → Value.okWide Tryz.prog W .any 0 u v := fun u v e => by
      subst e
      exact (hrows 0 0 (by simp [MemPlace.row])).2 u v (by simpa using World.var?_cell hg2 hv2 0)
    obtain ⟨a, s, rfl, -⟩ := errorString_of_trod Tryz.underlying80 rowErr Tryz.underlying222 Tryz.underlying244 rfl rfl Tryz.underlying9 (by kernel_rfl) (by kernel_rfl) hd2 ok2
    exact ⟨a, show W.cell? ⟨0, 0, none⟩ = some (.iface 222 (.pointer (some a))) from by simpa using World.var?_cell hg2 hv2 0⟩

set_option maxRecDepth 100000 in
theorem contract (H : Type) (enc : TypeId × Value → H) (W : World) (base : Nat) (args : Array Value) (ds gs : List (DataW H)) (before : List MemPlace)
    (hval : ∀ (j : Nat) t v, Tryz.f6.params[j]? = some t → args[j]? = some v → Value.okWide Tryz.prog W .any base t v)
    (hW : DataW.Whole enc Tryz.prog Tryz.f6.params.toList Rows.journalKeepsSpec.vars false W args.toList ds gs before) (hL : laidMetH Tryz.prog Rows.journalKeepsRow.laid W) :
    Calls Tryz.prog 6 args W fun e W' => ∃ v, e = .returned v ∧ Rows.journalKeepsSpec.post enc Tryz.prog Tryz.f6 false true false false W args v W' := by
  have hW' := hW
  obtain ⟨p, q, hA0, hV, rfl, hfz, hnd⟩ := hW
  have hA : DataW.TrodAll enc Tryz.prog W 0 (fun _ => true) true Tryz.f6.params.toList args.toList ds p := hA0
  rw [Tryz.params6] at hA hval
  obtain ⟨v0, vs0, d0, ds0, p0, q0, hargs, rfl, rfl, h0, r0⟩ := trodAll_cons hA
  obtain ⟨v1, vs1, d1, ds1, p1, q1, rfl, rfl, rfl, h1, r1⟩ := trodAll_cons r0
  obtain ⟨rfl, rfl, rfl⟩ := trodAll_nil r1
  obtain rfl : args = #[v0, v1] := by cases args; simp_all
  obtain ⟨rfl, rfl⟩ := trodVars_none hV
  obtain ⟨n, rfl, _, _, w0⟩ := open_int Tryz.underlying3 (hval 0 3 v0 rfl rfl) h0
  have c0 := bounds_i64 w0
  obtain ⟨lA, l, lc, rfl, lw1, lwc, lw2, lw3⟩ := open_opsAt (hval 1 60 v1 rfl rfl) h1
  unfold maxLen at lwc
  obtain ⟨hk, a, he⟩ := facts hL
  refine (keeps_law W a hk he n c0.1 c0.2 lA l lc (by omega) lw2 lw3).mono fun e W' ⟨he, hb⟩ => ?_
  subst he
  exact ⟨_, rfl, law_post laidOut reads_ok rfl Tryz.underlying4 rfl hW' rfl hb⟩

def wargs : Array Value := #[.int .i64 0, .slice none 0 0]
noncomputable def laidWorld (os : Os) : World := World.laidAll Tryz.prog os Rows.journalKeepsRow.laid
theorem laid_met (os : Os) : laidMet Tryz.prog Rows.journalKeepsRow.laid ((laidWorld os).forCall (fun _ _ => 0) ⟨#[], wargs, []⟩).memory :=
  laidMet_laidAll wargs (by kernel_rfl) (by kernel_rfl)
theorem reads (os : Os) {H : Type} (enc : TypeId × Value → H) : ∃ places, DataW.whole enc Tryz.prog ((laidWorld os).forCall (fun _ _ => 0) ⟨#[], wargs, []⟩).memory Tryz.f6.params.toList Rows.journalKeepsSpec.vars false wargs.toList 8 = some ([.lit (.int .i64 0), .nil], [], places) :=
  ⟨[], by kernel_rfl⟩

set_option maxRecDepth 100000 in
theorem lifted (os : Os) (started : os.Started) (H : Type) (enc : TypeId × Value → H) (F : Stop.Interp) :
    ReturnsInHanded {} Tryz.checked os 6 .any ((OpenSpec.ofChange Rows.journalKeepsSpec).preRow enc Tryz.prog Tryz.f6 Rows.journalKeepsRow.domain false Rows.journalKeepsRow.laid) (((OpenSpec.ofChange Rows.journalKeepsSpec).at F).post enc Tryz.prog Tryz.f6 false true false false) := by
  obtain ⟨places, hx⟩ := reads os enc
  refine returnsInHanded_of_row (C := Tryz.checked) (s := OpenSpec.ofChange Rows.journalKeepsSpec) own started (by kernel_rfl) Tryz.func6
    (witness_row_at (enc := enc) (C := Tryz.checked) false (laidWorld os) wargs (World.laidAll_os _ _ _) (by kernel_rfl) (by kernel_rfl) (by kernel_rfl)
      (OpenSpec.preRow_of_cond 8 hx (by kernel_rfl) (fun k hk => by cases hk) (by kernel_rfl) (laid_met os))) ?_
  intro W base args ds gs before hval hW _ _ _ hL _ _
  exact contract H enc W base args ds gs before hval hW hL

theorem said : Rows.JournalKeepsSaid :=
  OpenClaim.holds_of_cond 6 Tryz.f6 rfl rfl rfl rfl rfl rfl rfl ⟨rfl, rfl, rfl, rfl, rfl⟩ rfl rfl rfl rfl rfl (by kernel_rfl) Tryz.func6 (by kernel_rfl)
    (of_decide_eq_true (by kernel_rfl)) (by unfold Func.isWrapper; rw [if_neg (of_decide_eq_false (by kernel_rfl))]; exact ⟨rfl, rfl⟩)
    (fun os started H enc _ F => by rw [OpenClaim.pre_eq_preRow]; exact lifted os started H enc F)

theorem plain (f : FuncId) (fn : Func) (hf : Tryz.pinned.checked.prog.funcNamed "yardstick/yardsticklaw26.JournalKeeps" = some f) (hfn : Tryz.pinned.checked.prog.funcs[f]? = some fn) :
    true = Tryz.pinned.checked.prog.looks [] ∧ ∀ (j : Nat) t, fn.params[j]? = some t → Tryz.pinned.checked.prog.wantsStandIn t = false := by
  obtain rfl : f = 6 := Option.some.inj ((show Tryz.prog.funcNamed "yardstick/yardsticklaw26.JournalKeeps" = some 6 by kernel_rfl).symm.trans hf) |>.symm
  obtain rfl : fn = Tryz.f6 := (Option.some.inj (Tryz.func6.symm.trans hfn)).symm
  refine ⟨by kernel_rfl, fun j t ht => ?_⟩
  have h : (Tryz.f6.params.toList.all fun t => Tryz.prog.wantsStandIn t == false) = true := by kernel_rfl
  have h2 := List.all_eq_true.1 h t (Array.mem_toList_iff.2 (Array.mem_of_getElem? ht))
  have h3 : Tryz.prog.wantsStandIn t = false := by simpa using h2
  exact h3

/-- THE CARD. -/
theorem card : Rows.JournalKeepsCardSaid :=
  Claim7.holds_tied_plain_at .later [] _ _ _ _ said (fun _ h => by cases h) (by kernel_rfl) (fun _ h => by cases h) journalKeeps_row_tie rfl ⟨rfl, rfl⟩ (by kernel_rfl) rfl plain (by kernel_rfl)

end Go.Proofs.YtllmciiadceinaaGreatDoor.lawJournalKeeps
end
