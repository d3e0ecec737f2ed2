/-
  The law DiskTwins answers true for all arguments. Conditions: the arguments are such as the row reads.
-/
import Derived.Test.YtmpjoncemgangaaDiskLawBytes
namespace Go.Proofs.Ytmpjoncemgangaa
open Go Go.RowKit Go.Shelf Go.Sort

/-- Three disks made since W0, apart from one another and from the blocks of Z. -/
def Three (W0 : World) (Z : Nat → Prop) (W : World) (n : Nat) (d1 g1 v1 : Nat) (s1 : DS) (d2 g2 v2 : Nat) (s2 : DS) (d3 g3 v3 : Nat) (s3 : DS) : Prop :=
  ∃ F1 F2 F3 p1 p2 p3, DAt W F1 d1 g1 v1 p1 n s1 ∧ DAt W F2 d2 g2 v2 p2 n s2 ∧ DAt W F3 d3 g3 v3 p3 n s3 ∧ (∀ k, F1 k → ¬ F2 k ∧ ¬ F3 k) ∧ (∀ k, F2 k → ¬ F3 k) ∧ (∀ k, (F1 k ∨ F2 k ∨ F3 k) → W0.heap.size ≤ k ∧ ¬ Z k) ∧ Turns (fun _ => False) W0 W
section
variable {W0 W W' : World} {Z : Nat → Prop} {n d1 g1 v1 d2 g2 v2 d3 g3 v3 : Nat} {s1 s1' s2 s3 : DS}
theorem Three.rot (h : Three W0 Z W n d1 g1 v1 s1 d2 g2 v2 s2 d3 g3 v3 s3) : Three W0 Z W n d2 g2 v2 s2 d3 g3 v3 s3 d1 g1 v1 s1 := by
  obtain ⟨F1, F2, F3, p1, p2, p3, h1, h2, h3, e1, e2, e3, ht⟩ := h
  exact ⟨F2, F3, F1, p2, p3, p1, h2, h3, h1, fun k hk => ⟨e2 k hk, fun q => (e1 k q).1 hk⟩, fun k hk q => (e1 k q).2 hk, fun k hk => e3 k (by rcases hk with q | q | q; exact .inr (.inl q); exact .inr (.inr q); exact .inl q), ht⟩
theorem Three.below (h : Three W0 Z W n d1 g1 v1 s1 d2 g2 v2 s2 d3 g3 v3 s3) : Below W0.heap.size W0 W := by
  obtain ⟨F1, F2, F3, p1, p2, p3, h1, h2, h3, e1, e2, e3, ht⟩ := h
  exact ht.below (Below.refl _ _) (Nat.le_refl _) (fun _ e => e.elim)
theorem Three.size (h : Three W0 Z W n d1 g1 v1 s1 d2 g2 v2 s2 d3 g3 v3 s3) : W0.heap.size ≤ W.heap.size := h.below.size
theorem Three.quiet (h : Three W0 Z W n d1 g1 v1 s1 d2 g2 v2 s2 d3 g3 v3 s3) (t : Turns (fun _ => False) W W') : Three W0 Z W' n d1 g1 v1 s1 d2 g2 v2 s2 d3 g3 v3 s3 := by
  obtain ⟨F1, F2, F3, p1, p2, p3, h1, h2, h3, e1, e2, e3, ht⟩ := h
  exact ⟨F1, F2, F3, p1, p2, p3, h1.keep t (fun _ _ q => q), h2.keep t (fun _ _ q => q), h3.keep t (fun _ _ q => q), e1, e2, e3, ht.trans t⟩
theorem Three.mono {Z' : Nat → Prop} (h : Three W0 Z W n d1 g1 v1 s1 d2 g2 v2 s2 d3 g3 v3 s3) (hz : ∀ k, Z' k → k < W.heap.size → Z k) : Three W0 Z' W n d1 g1 v1 s1 d2 g2 v2 s2 d3 g3 v3 s3 := by
  obtain ⟨F1, F2, F3, p1, p2, p3, h1, h2, h3, e1, e2, e3, ht⟩ := h
  exact ⟨F1, F2, F3, p1, p2, p3, h1, h2, h3, e1, e2, fun k hk => ⟨(e3 k hk).1, fun q => (e3 k hk).2 (hz k q (by rcases hk with a | a | a; exact h1.lf k a; exact h2.lf k a; exact h3.lf k a))⟩, ht⟩
theorem Three.step {f : Nat} {args : Array Value} {r : Value} (h : Three W0 Z W n d1 g1 v1 s1 d2 g2 v2 s2 d3 g3 v3 s3) (hZ : ∀ k, Z k → k < W.heap.size)
    (hc : ∀ F vp, DAt W F d1 g1 v1 vp n s1 → Calls Try.prog f args W fun e W' => e = .returned r ∧ (∃ F' vp', DAt W' F' d1 g1 v1 vp' n s1' ∧ ∀ k, F' k → F k ∨ W.heap.size ≤ k) ∧ Turns F W W') :
    Calls Try.prog f args W fun e W' => e = .returned r ∧ Three W0 Z W' n d1 g1 v1 s1' d2 g2 v2 s2 d3 g3 v3 s3 ∧ Turns (fun k => ¬ Z k) W W' := by
  obtain ⟨F1, F2, F3, p1, p2, p3, h1, h2, h3, e1, e2, e3, ht⟩ := h
  have hs := ht.size
  refine (hc F1 p1 h1).mono ?_
  rintro e W1 ⟨rfl, ⟨F', vp', hd, hF⟩, t⟩
  refine ⟨rfl, ⟨F', F2, F3, vp', p2, p3, hd, h2.keep t (fun k hk q => (e1 k q).1 hk), h3.keep t (fun k hk q => (e1 k q).2 hk), fun k hk => ?_, e2, fun k hk => ?_, Lives.step ht (fun k hk => (e3 k (.inl hk)).1) t⟩, t.mono fun k hk => (e3 k (.inl hk)).2⟩
  · rcases hF k hk with q | q
    · exact e1 k q
    · exact ⟨fun a => by have := h2.lf k a; omega, fun a => by have := h3.lf k a; omega⟩
  · rcases hk with q | q
    · rcases hF k q with a | a
      · exact e3 k (.inl a)
      · exact ⟨by omega, fun hz => by have := hZ k hz; omega⟩
    · exact e3 k (.inr q)
theorem Three.write (h : Three W0 Z W n d1 g1 v1 s1 d2 g2 v2 s2 d3 g3 v3 s3) (hZ : ∀ k, Z k → k < W.heap.size) (off : Int) (x : ByteArray) (hx : x.size ≤ 4194304) (hp : s1.pend.length ≤ 1000000) (hleft : s1.left ≤ 9223372036854775807) :
    Calls Try.prog 21 #[.pointer (some ⟨d1, 0, none⟩), .int .i64 off, .string x] W fun e W' => e = .returned (.int .i64 (s1.writeE off x)) ∧ Three W0 Z W' n d1 g1 v1 (s1.wr off x) d2 g2 v2 s2 d3 g3 v3 s3 ∧ Turns (fun k => ¬ Z k) W W' :=
  h.step hZ fun _ _ hd => write_all hd off x hx hp hleft
theorem Three.sync (h : Three W0 Z W n d1 g1 v1 s1 d2 g2 v2 s2 d3 g3 v3 s3) (hZ : ∀ k, Z k → k < W.heap.size) :
    Calls Try.prog 23 #[.pointer (some ⟨d1, 0, none⟩)] W fun e W' => e = .returned (.int .i64 (chkE s1)) ∧ Three W0 Z W' n d1 g1 v1 s1.sync d2 g2 v2 s2 d3 g3 v3 s3 ∧ Turns (fun k => ¬ Z k) W W' :=
  h.step hZ fun F _ hd => (sync_walk hd).mono fun _ _ q => ⟨q.1, ⟨F, q.2.1.choose, q.2.1.choose_spec, fun _ hk => .inl hk⟩, q.2.2⟩
theorem Three.crash (h : Three W0 Z W n d1 g1 v1 s1 d2 g2 v2 s2 d3 g3 v3 s3) (hZ : ∀ k, Z k → k < W.heap.size) (torn : Int) (hp : s1.pend.length ≤ 1000000) :
    Calls Try.prog 25 #[.pointer (some ⟨d1, 0, none⟩), .slice none (0 : Nat) (0 : Nat), .int .i64 torn] W fun e W' => e = .returned (.int .i64 0) ∧ Three W0 Z W' n d1 g1 v1 ⟨false, 0, s1.dur, s1.dur, []⟩ d2 g2 v2 s2 d3 g3 v3 s3 ∧ Turns (fun k => ¬ Z k) W W' :=
  h.step hZ fun F _ hd => (crash_walk hd none [] 0 0 rfl (by omega) LAt.nil torn hp).mono fun _ _ q => ⟨q.1, ⟨F, q.2.1.choose, crash_none s1 torn ▸ q.2.1.choose_spec, fun _ hk => .inl hk⟩, q.2.2⟩
theorem Three.read (h : Three W0 Z W n d1 g1 v1 s1 d2 g2 v2 s2 d3 g3 v3 s3) (off m : Int) :
    Calls Try.prog 14 #[.pointer (some ⟨d1, 0, none⟩), .int .i64 off, .int .i64 m] W fun e W' => e = .returned (.tuple #[.string (s1.read off m).1, .int .i64 (s1.read off m).2]) ∧ W = W' := by
  obtain ⟨F1, F2, F3, p1, p2, p3, h1, h2, h3, e1, e2, e3, ht⟩ := h
  exact read_walk h1 off m
theorem Three.pending (h : Three W0 Z W n d1 g1 v1 s1 d2 g2 v2 s2 d3 g3 v3 s3) :
    Calls Try.prog 17 #[.pointer (some ⟨d1, 0, none⟩)] W fun e W' => e = .returned (.int .i64 s1.pend.length) ∧ W = W' := by
  obtain ⟨F1, F2, F3, p1, p2, p3, h1, h2, h3, e1, e2, e3, ht⟩ := h
  exact pending_walk h1
theorem Three.len (h : Three W0 Z W n d1 g1 v1 s1 d2 g2 v2 s2 d3 g3 v3 s3) : s1.dur.length = n := by
  obtain ⟨F1, F2, F3, p1, p2, p3, h1, h2, h3, e1, e2, e3, ht⟩ := h
  exact h1.ld
/-- The third one is made. -/
theorem Three.make {F1 F2 F3 : Nat → Prop} {p1 p2 p3 : Value} {A B C : World} (h1 : DAt A F1 d1 g1 v1 p1 n s1) (t1 : Turns (fun _ => False) A B) (h2 : DAt B F2 d2 g2 v2 p2 n s2) (t2 : Turns (fun _ => False) B C) (h3 : DAt C F3 d3 g3 v3 p3 n s3)
    (h0 : Turns (fun _ => False) W0 A) (f1 : ∀ k, F1 k → W0.heap.size ≤ k) (f2 : ∀ k, F2 k → A.heap.size ≤ k) (f3 : ∀ k, F3 k → B.heap.size ≤ k) : Three W0 (fun _ => False) C n d1 g1 v1 s1 d2 g2 v2 s2 d3 g3 v3 s3 := by
  have z0 := h0.size
  have z1 := t1.size
  refine ⟨F1, F2, F3, p1, p2, p3, h1.keep (t1.trans t2) (fun _ _ q => q), h2.keep t2 (fun _ _ q => q), h3, fun k hk => ⟨fun q => ?_, fun q => ?_⟩, fun k hk q => ?_, fun k hk => ⟨?_, fun q => q⟩, (h0.trans t1).trans t2⟩
  · have a := h1.lf k hk; have b := f2 k q; omega
  · have a := h1.lf k hk; have b := f3 k q; omega
  · have a := h2.lf k hk; have b := f3 k q; omega
  · rcases hk with q | q | q
    · exact f1 k q
    · have := f2 k q; omega
    · have := f3 k q; omega
end

set_option maxRecDepth 100000 in
set_option maxHeartbeats 16000000 in
theorem twins_walk (W : World) (z : Int) (A : Option Addr) (l : List WR) (cap : Nat) (h1 : -9223372036854775808 ≤ z) (h2 : z ≤ 9223372036854775807) (hA : CAt W W.heap.size A 3 WR.cells l) (hok : ∀ y ∈ l, y.ok) :
    Calls Try.prog 11 #[.int .i64 z, .slice A l.length cap] W fun e W' => e = .returned (.bool true) ∧ Below W.heap.size W W' := by
  obtain ⟨q1, q2⟩ := pickZ_range z (n := 100) (by omega)
  have HP := Lib.hid (pick_walk (x := z) (n := 100) · h1 h2 (by omega) (by omega))
  obtain ⟨n, hn⟩ : ∃ n : Nat, 1 + pickZ z 100 = n := ⟨(1 + pickZ z 100).toNat, by omega⟩
  obtain ⟨q, hq⟩ : ∃ q, pickZ z 100 = q := ⟨_, rfl⟩
  rw [hq] at HP q1 q2 hn
  have w1 : IntKind.i64.wrap (1 + q) = (n : Int) := by rw [IntKind.wrap_i64]; omega
  have hn1 : 1 ≤ n := by omega
  have hn2 : n ≤ 100 := by omega
  have HA := Lib.hid hA
  have HOK := Lib.hid hok
  clear hn hq hA hok
  go_enter Try.func11, Try.ntmps11
  go_wp2_with fail
  refine (sane_walk W).mono ?_
  rintro e W1 ⟨rfl, hb⟩
  have HB := Lib.hid hb
  clear hb
  go_wp2_with fail
  refine (HP.out W1).mono ?_
  rintro e W2 ⟨rfl, rfl⟩
  go_wp2_with fail
  refine (new_walk (W := W1) n hn1 (by omega)).mono ?_
  rintro e W2 ⟨⟨d1, g1, v1, F1, p1, rfl, hd1, hF1⟩, ht1⟩
  have H1 := Lib.hid (And.intro hd1 (And.intro hF1 ht1))
  clear hd1 hF1 ht1
  go_wp2_with fail
  refine (new_walk (W := W2) n hn1 (by omega)).mono ?_
  rintro e W3 ⟨⟨d2, g2, v2, F2, p2, rfl, hd2, hF2⟩, ht2⟩
  have H2 := Lib.hid (And.intro hd2 (And.intro hF2 ht2))
  clear hd2 hF2 ht2
  go_wp2_with fail
  refine (new_walk (W := W3) n hn1 (by omega)).mono ?_
  rintro e W4 ⟨⟨d3, g3, v3, F3, p3, rfl, hd3, hF3⟩, ht3⟩
  have HL := Lib.hid (Three.make (W0 := W) H1.out.1 H2.out.2.2 H2.out.1 ht3 hd3 ((Turns.of_below HB.out).trans H1.out.2.2) (fun k hk => Nat.le_trans HB.out.size (H1.out.2.1 k hk)) H2.out.2.1 hF3)
  clear hd3 hF3 ht3
  go_wp2_with fail
  go_loopw [12, 13] (fun v _ wr => ∃ (k : Nat) (s t : DS), k ≤ l.length ∧ k ≤ 30 ∧ v = .int .i64 (k : Int) ∧ Three W (fun _ => False) wr n d1 g1 v1 s d2 g2 v2 t d3 g3 v3 s ∧ Hid (s.Calm n k) ∧ Hid (t.Calm n k)) (fun v _ _ => 30 - (intOf v).toNat)
  case atStart => exact ⟨0, DS.fresh n, DS.fresh n, by omega, by omega, rfl, HL.out, Lib.hid (DS.Calm.fresh n), Lib.hid (DS.Calm.fresh n)⟩
  case round =>
    obtain ⟨k, s, t, hk1, hk2, rfl, hL, HC, HD⟩ := hrel
    have HLk := Lib.hid hL
    have HLS := Lib.hid hL.size
    clear hL HL
    by_cases hlt : k < l.length ∧ k < 30
    · have d1' : decide ((k : Int) < (l.length : Int)) = true := by simp [hlt]
      have d2' : decide ((k : Int) < 30) = true := by simp; omega
      have hlt2 := hlt.2
      replace hlt := hlt.1
      obtain ⟨a, rfl, hab, hac⟩ := (HA.out.below HLk.out.below).get hlt
      obtain ⟨y, hy⟩ : ∃ y, l[k] = y := ⟨_, rfl⟩
      rw [hy] at hac
      have HY := Lib.hid (HOK.out y (by rw [← hy]; exact List.getElem_mem hlt))
      obtain ⟨yo, ys, yb⟩ := y
      have c0 := hac 0 _ rfl
      have c1 := hac 1 _ rfl
      have c2 := hac 2 _ rfl
      rw [Nat.add_zero] at c0
      rw [add_field a (k * 3) 0] at c1
      rw [add_field a (k * 3) 1] at c2
      rw [Nat.zero_add] at c1
      have y1 : (0 : Int) ≤ (k : Int) := by omega
      have y2 : (k : Int) < (l.length : Int) := by omega
      have w2 : IntKind.i64.wrap ((k : Int) + 1) = ((k + 1 : Nat) : Int) := by rw [IntKind.wrap_i64]; omega
      clear hac
      clear hy
      go_wp2_with fail
      by_cases hpar : k % 2 = 1
      · have d3' : ((k : Int) % 2 == 1) = true := by simp; omega
        clear hpar
        obtain ⟨pr1, pr2⟩ := pickZ_range yo (n := ((n + 1 : Nat) : Int)) (by omega)
        obtain ⟨p, hp⟩ : ∃ p : Nat, pickZ yo ((n + 1 : Nat) : Int) = (p : Int) := ⟨(pickZ yo ((n + 1 : Nat) : Int)).toNat, by omega⟩
        have hys := HY.out.2.2
        unfold maxLen at hys
        refine (fits_walk wr yo ys yb n p HY.out.1 HY.out.2.1 (by dsimp only at hys; omega) (by omega) hp).mono ?_
        rw [hp] at pr1 pr2
        obtain ⟨x, hx⟩ : ∃ x, lcut ys (n - p) = x := ⟨_, rfl⟩
        rw [hx]
        have HFIT : Hid (p + x.size ≤ n) := Lib.hid (by have := lcut_size ys (n - p); rw [hx] at this; omega)
        have HXP := Lib.hid (And.intro hp hx)
        clear hp hx pr1 pr2 hys c0 c1 c2
        rintro e W4 ⟨rfl, hb4⟩
        have HL5 := Lib.hid (((HLk.out.quiet (Turns.of_below hb4)).mono (Z' := fun j => (False) ∨ j = W4.heap.size) (fun j e hj => by rcases e with e | e; exact e; omega)).quiet (Turns.alloc W4 (.cells #[.int .i64 (p : Int), .string x, .bool yb] 53)))
        have HT5 := Lib.hid ((Turns.of_below (Z := fun _ => False) hb4).trans (Turns.alloc W4 (.cells #[.int .i64 (p : Int), .string x, .bool yb] 53)))
        have HWB := Lib.hid hb4.size
        go_wp2_with fail
        obtain ⟨w, hw⟩ : ∃ w, W4.heap.size = w := ⟨_, rfl⟩
        obtain ⟨W5, hW5⟩ : ∃ W5, W4.alloc (.cells #[.int .i64 (p : Int), .string x, .bool yb] 53) = W5 := ⟨_, rfl⟩
        have HC5 : Hid (RecAt W5 w p x yb) := Lib.hid (by
          rw [← hW5, ← hw]
          exact ⟨by rw [World.size_alloc]; omega, by simp, by simp, by simp⟩)
        rw [hw] at HL5 HWB ⊢
        rw [hW5] at HL5 HT5 ⊢
        clear hw hW5 hb4 HLk HT5
        have e0 := HC5.out.c0
        have e1 := HC5.out.c1
        have e2 := HC5.out.c2
        have HZ : Hid (∀ V : World, RecAt V w p x yb → ∀ j, (False ∨ j = w) → j < V.heap.size) := Lib.hid (fun V hv j e => by rcases e with e | e; exact e.elim; rw [e]; exact hv.lt)
        have HKR : Hid (∀ A B : World, RecAt A w p x yb → Turns (fun j => ¬ (False ∨ j = w)) A B → RecAt B w p x yb) := Lib.hid (fun A B hA ht => hA.turns ht (fun q => q (.inr rfl)))
        refine (HL5.out.rot.write (HZ.out _ HC5.out) p x (by have := HFIT.out; omega) (by have := HD.out.pend; omega) (by rw [HD.out.left]; omega)).mono ?_
        rw [HD.out.writeE HFIT.out]
        rintro e W7 ⟨rfl, hl, ht⟩
        have HC7 := Lib.hid (HKR.out _ _ HC5.out ht)
        have HL7 := Lib.hid hl
        clear hl ht HL5 HC5 e0 e1 e2
        have e0 := HC7.out.c0
        have e2 := HC7.out.c2
        have HDN := Lib.hid (HD.out.step HFIT.out)
        have HMN := Lib.hid (HC.out)
        by_cases hp7 : p % 7 = 3
        · have d4' : ((p : Int) % 7 == 3) = true := by simp; omega
          clear hp7
          cases yb
          · go_wp2_with fail
            refine (HL7.out.crash (HZ.out _ HC7.out) 1 (by have := HDN.out.pend; omega)).mono ?_
            rintro e W8 ⟨rfl, hl, ht⟩
            have HL8 := Lib.hid hl
            clear hl ht
            go_wp2_with fail
            exact ⟨⟨k + 1, s, _, by omega, by omega, rfl, HL8.out.rot.rot.mono (fun j e _ => e.elim), Lib.hid ⟨HC.out.off, HC.out.left, Nat.le_succ_of_le HC.out.pend, HC.out.vis⟩, Lib.hid ⟨rfl, rfl, Nat.zero_le _, HL8.out.len⟩⟩, by simp [intOf]; omega⟩
          · go_wp2_with fail
            refine (HL7.out.sync (HZ.out _ HC7.out)).mono ?_
            rw [HDN.out.sync.1]
            rintro e W8 ⟨rfl, hl, ht⟩
            have HC8 := Lib.hid (HKR.out _ _ HC7.out ht)
            have HL8 := Lib.hid hl
            clear hl ht HL7 HC7 e0 e2
            have e0 := HC8.out.c0
            go_wp2_with fail
            refine (HL8.out.crash (HZ.out _ HC8.out) 1 (by have := HDN.out.sync.2.2.pend; omega)).mono ?_
            rintro e W9 ⟨rfl, hl, ht⟩
            have HL9 := Lib.hid hl
            clear hl ht
            go_wp2_with fail
            exact ⟨⟨k + 1, s, _, by omega, by omega, rfl, HL9.out.rot.rot.mono (fun j e _ => e.elim), Lib.hid ⟨HC.out.off, HC.out.left, Nat.le_succ_of_le HC.out.pend, HC.out.vis⟩, Lib.hid ⟨rfl, rfl, Nat.zero_le _, HL9.out.len⟩⟩, by simp [intOf]; omega⟩
        · have d4' : ((p : Int) % 7 == 3) = false := by simp; omega
          clear hp7
          cases yb
          · go_wp2_with fail
            exact ⟨⟨k + 1, s, _, by omega, by omega, rfl, HL7.out.rot.rot.mono (fun j e _ => e.elim), Lib.hid ⟨HC.out.off, HC.out.left, Nat.le_succ_of_le HC.out.pend, HC.out.vis⟩, HDN⟩, by simp [intOf]; omega⟩
          · go_wp2_with fail
            refine (HL7.out.sync (HZ.out _ HC7.out)).mono ?_
            rw [HDN.out.sync.1]
            rintro e W8 ⟨rfl, hl, ht⟩
            have HC8 := Lib.hid (HKR.out _ _ HC7.out ht)
            have HL8 := Lib.hid hl
            clear hl ht HL7 HC7 e0 e2
            have e0 := HC8.out.c0
            go_wp2_with fail
            exact ⟨⟨k + 1, s, _, by omega, by omega, rfl, HL8.out.rot.rot.mono (fun j e _ => e.elim), Lib.hid ⟨HC.out.off, HC.out.left, Nat.le_succ_of_le HC.out.pend, HC.out.vis⟩, Lib.hid HDN.out.sync.2.2⟩, by simp [intOf]; omega⟩
      · have d3' : ((k : Int) % 2 == 1) = false := by simp; omega
        clear hpar
        obtain ⟨pr1, pr2⟩ := pickZ_range yo (n := ((n + 1 : Nat) : Int)) (by omega)
        obtain ⟨p, hp⟩ : ∃ p : Nat, pickZ yo ((n + 1 : Nat) : Int) = (p : Int) := ⟨(pickZ yo ((n + 1 : Nat) : Int)).toNat, by omega⟩
        have hys := HY.out.2.2
        unfold maxLen at hys
        refine (fits_walk wr yo ys yb n p HY.out.1 HY.out.2.1 (by dsimp only at hys; omega) (by omega) hp).mono ?_
        rw [hp] at pr1 pr2
        obtain ⟨x, hx⟩ : ∃ x, lcut ys (n - p) = x := ⟨_, rfl⟩
        rw [hx]
        have HFIT : Hid (p + x.size ≤ n) := Lib.hid (by have := lcut_size ys (n - p); rw [hx] at this; omega)
        have HXP := Lib.hid (And.intro hp hx)
        clear hp hx pr1 pr2 hys c0 c1 c2
        rintro e W4 ⟨rfl, hb4⟩
        have HL5 := Lib.hid (((HLk.out.quiet (Turns.of_below hb4)).mono (Z' := fun j => (False) ∨ j = W4.heap.size) (fun j e hj => by rcases e with e | e; exact e; omega)).quiet (Turns.alloc W4 (.cells #[.int .i64 (p : Int), .string x, .bool yb] 53)))
        have HT5 := Lib.hid ((Turns.of_below (Z := fun _ => False) hb4).trans (Turns.alloc W4 (.cells #[.int .i64 (p : Int), .string x, .bool yb] 53)))
        have HWB := Lib.hid hb4.size
        go_wp2_with fail
        obtain ⟨w, hw⟩ : ∃ w, W4.heap.size = w := ⟨_, rfl⟩
        obtain ⟨W5, hW5⟩ : ∃ W5, W4.alloc (.cells #[.int .i64 (p : Int), .string x, .bool yb] 53) = W5 := ⟨_, rfl⟩
        have HC5 : Hid (RecAt W5 w p x yb) := Lib.hid (by
          rw [← hW5, ← hw]
          exact ⟨by rw [World.size_alloc]; omega, by simp, by simp, by simp⟩)
        rw [hw] at HL5 HWB ⊢
        rw [hW5] at HL5 HT5 ⊢
        clear hw hW5 hb4 HLk HT5
        have e0 := HC5.out.c0
        have e1 := HC5.out.c1
        have e2 := HC5.out.c2
        have HZ : Hid (∀ V : World, RecAt V w p x yb → ∀ j, (False ∨ j = w) → j < V.heap.size) := Lib.hid (fun V hv j e => by rcases e with e | e; exact e.elim; rw [e]; exact hv.lt)
        have HKR : Hid (∀ A B : World, RecAt A w p x yb → Turns (fun j => ¬ (False ∨ j = w)) A B → RecAt B w p x yb) := Lib.hid (fun A B hA ht => hA.turns ht (fun q => q (.inr rfl)))
        have HCN := Lib.hid (HC.out.step HFIT.out)
        have HDN : Hid (t.Calm n (k + 1)) := Lib.hid ⟨HD.out.off, HD.out.left, Nat.le_succ_of_le HD.out.pend, HD.out.vis⟩
        have HQ1 : Hid (∀ V : World, Three W (fun j => False ∨ j = w) V n d1 g1 v1 s d2 g2 v2 t d3 g3 v3 s ∧ RecAt V w p x yb → Calls Try.prog 21 #[.pointer (some ⟨d1, 0, none⟩), .int .i64 (p : Int), .string x] V fun e V' => e = .returned (.int .i64 0) ∧ Three W (fun j => False ∨ j = w) V' n d3 g3 v3 s d1 g1 v1 (s.wr p x) d2 g2 v2 t ∧ RecAt V' w p x yb) := Lib.hid (fun V hv => by
          refine (hv.1.write (HZ.out _ hv.2) p x (by have := HFIT.out; omega) (by have := HC.out.pend; omega) (by rw [HC.out.left]; omega)).mono ?_
          rw [HC.out.writeE HFIT.out]
          rintro e V' ⟨rfl, hl, ht⟩
          exact ⟨rfl, hl.rot.rot, HKR.out _ _ hv.2 ht⟩)
        have HQ3 : Hid (∀ V : World, Three W (fun j => False ∨ j = w) V n d3 g3 v3 s d1 g1 v1 (s.wr p x) d2 g2 v2 t ∧ RecAt V w p x yb → Calls Try.prog 21 #[.pointer (some ⟨d3, 0, none⟩), .int .i64 (p : Int), .string x] V fun e V' => e = .returned (.int .i64 0) ∧ Three W (fun j => False ∨ j = w) V' n d1 g1 v1 (s.wr p x) d2 g2 v2 t d3 g3 v3 (s.wr p x) ∧ RecAt V' w p x yb) := Lib.hid (fun V hv => by
          refine (hv.1.write (HZ.out _ hv.2) p x (by have := HFIT.out; omega) (by have := HC.out.pend; omega) (by rw [HC.out.left]; omega)).mono ?_
          rw [HC.out.writeE HFIT.out]
          rintro e V' ⟨rfl, hl, ht⟩
          exact ⟨rfl, hl.rot, HKR.out _ _ hv.2 ht⟩)
        have HS1 : Hid (∀ V : World, Three W (fun j => False ∨ j = w) V n d1 g1 v1 (s.wr p x) d2 g2 v2 t d3 g3 v3 (s.wr p x) ∧ RecAt V w p x yb → Calls Try.prog 23 #[.pointer (some ⟨d1, 0, none⟩)] V fun e V' => e = .returned (.int .i64 0) ∧ Three W (fun j => False ∨ j = w) V' n d3 g3 v3 (s.wr p x) d1 g1 v1 (s.wr p x).sync d2 g2 v2 t ∧ RecAt V' w p x yb) := Lib.hid (fun V hv => by
          refine (hv.1.sync (HZ.out _ hv.2)).mono ?_
          rw [HCN.out.sync.1]
          rintro e V' ⟨rfl, hl, ht⟩
          exact ⟨rfl, hl.rot.rot, HKR.out _ _ hv.2 ht⟩)
        have HS3 : Hid (∀ V : World, Three W (fun j => False ∨ j = w) V n d3 g3 v3 (s.wr p x) d1 g1 v1 (s.wr p x).sync d2 g2 v2 t ∧ RecAt V w p x yb → Calls Try.prog 23 #[.pointer (some ⟨d3, 0, none⟩)] V fun e V' => e = .returned (.int .i64 0) ∧ Three W (fun j => False ∨ j = w) V' n d1 g1 v1 (s.wr p x).sync d2 g2 v2 t d3 g3 v3 (s.wr p x).sync ∧ RecAt V' w p x yb) := Lib.hid (fun V hv => by
          refine (hv.1.sync (HZ.out _ hv.2)).mono ?_
          rw [HCN.out.sync.1]
          rintro e V' ⟨rfl, hl, ht⟩
          exact ⟨rfl, hl.rot, HKR.out _ _ hv.2 ht⟩)
        have h0 : Three W (fun j => False ∨ j = w) W5.drew n d1 g1 v1 s d2 g2 v2 t d3 g3 v3 s ∧ RecAt W5.drew w p x yb := ⟨HL5.out.quiet (Turns.drew _), HC5.out.turns (Turns.drew (Z := fun _ => False) _) (fun e => e)⟩
        have HCC : Hid (∀ (V : World) (P : Prop), P ∧ RecAt V w p x yb → V.cell? ⟨w, 0, none⟩ = some (.int .i64 (p : Int)) ∧ V.cell? ⟨w, 1, none⟩ = some (.string x) ∧ V.cell? ⟨w, 2, none⟩ = some (.bool yb)) := Lib.hid (fun V P h => ⟨h.2.c0, h.2.c1, h.2.c2⟩)
        cases yb
        · go_wp2_with fail
          refine wp_region_noPanic ?_
          refine wp_region_held_drew (S := fun w' => w'.cell? ⟨w, 0, none⟩ = some (.int .i64 (p : Int)) ∧ w'.cell? ⟨w, 1, none⟩ = some (.string x) ∧ w'.cell? ⟨w, 2, none⟩ = some (.bool false)) (by kernel_rfl) (HCC.out _ _ h0) (fun hHeld => ?_)
          refine wpAnyH_take (i := 0) (oi := { dst := some 93, op := Op.move (Operand.tmp 6), type := 23, pos := "law.go:302", after := #[], guard := none }) (v := ?_) rfl (by kernel_rfl) (by kernel_rfl) (by kernel_rfl) (fun _ _ _ h => h) (Or.inl ⟨by rfl, ?_⟩) (by assumption) ?_
          rotate_left
          · intro w hSw; (try dsimp only at hSw); go_simp <;> with_reducible rfl
          try simp only [Act.put, List.setIfInBounds_toArray, List.set_cons_zero, List.set_cons_succ]
          refine wpAnyH_take (i := 1) (oi := { dst := some 94, op := Op.fieldAddr 53 (Operand.tmp 13) 0, type := 0, pos := "law.go:302", after := #[], guard := none }) (v := ?_) rfl (by kernel_rfl) (by kernel_rfl) (by kernel_rfl) (fun _ _ _ h => h) (Or.inl ⟨by rfl, ?_⟩) (by assumption) ?_
          rotate_left
          · intro w hSw; (try dsimp only at hSw); go_simp <;> with_reducible rfl
          try simp only [Act.put, List.setIfInBounds_toArray, List.set_cons_zero, List.set_cons_succ]
          refine wpAnyH_take (i := 2) (oi := { dst := some 95, op := Op.load 3 (Operand.tmp 94), type := 3, pos := "law.go:302", after := #[{ on := 1, ground := Ground.data }], guard := none }) (v := ?_) rfl (by kernel_rfl) (by kernel_rfl) (by kernel_rfl) (fun _ _ _ h => h) (Or.inl ⟨by rfl, ?_⟩) (by assumption) ?_
          rotate_left
          · intro w hSw; (try dsimp only at hSw); go_simp <;> with_reducible rfl
          try simp only [Act.put, List.setIfInBounds_toArray, List.set_cons_zero, List.set_cons_succ]
          refine wpAnyH_take (i := 3) (oi := { dst := some 96, op := Op.fieldAddr 53 (Operand.tmp 13) 1, type := 0, pos := "law.go:302", after := #[], guard := none }) (v := ?_) rfl (by kernel_rfl) (by kernel_rfl) (by kernel_rfl) (fun _ _ _ h => h) (Or.inl ⟨by rfl, ?_⟩) (by assumption) ?_
          rotate_left
          · intro w hSw; (try dsimp only at hSw); go_simp <;> with_reducible rfl
          try simp only [Act.put, List.setIfInBounds_toArray, List.set_cons_zero, List.set_cons_succ]
          refine wpAnyH_take (i := 4) (oi := { dst := some 97, op := Op.load 9 (Operand.tmp 96), type := 9, pos := "law.go:302", after := #[{ on := 3, ground := Ground.data }], guard := none }) (v := ?_) rfl (by kernel_rfl) (by kernel_rfl) (by kernel_rfl) (fun _ _ _ h => h) (Or.inl ⟨by rfl, ?_⟩) (by assumption) ?_
          rotate_left
          · intro w hSw; (try dsimp only at hSw); go_simp <;> with_reducible rfl
          try simp only [Act.put, List.setIfInBounds_toArray, List.set_cons_zero, List.set_cons_succ]
          refine wpAnyH_take (i := 6) (oi := { dst := some 99, op := Op.move (Operand.tmp 10), type := 23, pos := "law.go:302", after := #[], guard := none }) (v := ?_) rfl (by kernel_rfl) (by kernel_rfl) (by kernel_rfl) (fun _ _ _ h => h) (Or.inl ⟨by rfl, ?_⟩) (by assumption) ?_
          rotate_left
          · intro w hSw; (try dsimp only at hSw); go_simp <;> with_reducible rfl
          try simp only [Act.put, List.setIfInBounds_toArray, List.set_cons_zero, List.set_cons_succ]
          refine wpAnyH_take (i := 7) (oi := { dst := some 100, op := Op.fieldAddr 53 (Operand.tmp 13) 0, type := 0, pos := "law.go:302", after := #[], guard := none }) (v := ?_) rfl (by kernel_rfl) (by kernel_rfl) (by kernel_rfl) (fun _ _ _ h => h) (Or.inl ⟨by rfl, ?_⟩) (by assumption) ?_
          rotate_left
          · intro w hSw; (try dsimp only at hSw); go_simp <;> with_reducible rfl
          try simp only [Act.put, List.setIfInBounds_toArray, List.set_cons_zero, List.set_cons_succ]
          refine wpAnyH_take (i := 8) (oi := { dst := some 101, op := Op.load 3 (Operand.tmp 100), type := 3, pos := "law.go:302", after := #[{ on := 7, ground := Ground.data }], guard := none }) (v := ?_) rfl (by kernel_rfl) (by kernel_rfl) (by kernel_rfl) (fun _ _ _ h => h) (Or.inl ⟨by rfl, ?_⟩) (by assumption) ?_
          rotate_left
          · intro w hSw; (try dsimp only at hSw); go_simp <;> with_reducible rfl
          try simp only [Act.put, List.setIfInBounds_toArray, List.set_cons_zero, List.set_cons_succ]
          refine wpAnyH_take (i := 9) (oi := { dst := some 102, op := Op.fieldAddr 53 (Operand.tmp 13) 1, type := 0, pos := "law.go:302", after := #[], guard := none }) (v := ?_) rfl (by kernel_rfl) (by kernel_rfl) (by kernel_rfl) (fun _ _ _ h => h) (Or.inl ⟨by rfl, ?_⟩) (by assumption) ?_
          rotate_left
          · intro w hSw; (try dsimp only at hSw); go_simp <;> with_reducible rfl
          try simp only [Act.put, List.setIfInBounds_toArray, List.set_cons_zero, List.set_cons_succ]
          refine wpAnyH_take (i := 10) (oi := { dst := some 103, op := Op.load 9 (Operand.tmp 102), type := 9, pos := "law.go:302", after := #[{ on := 9, ground := Ground.data }], guard := none }) (v := ?_) rfl (by kernel_rfl) (by kernel_rfl) (by kernel_rfl) (fun _ _ _ h => h) (Or.inl ⟨by rfl, ?_⟩) (by assumption) ?_
          rotate_left
          · intro w hSw; (try dsimp only at hSw); go_simp <;> with_reducible rfl
          try simp only [Act.put, List.setIfInBounds_toArray, List.set_cons_zero, List.set_cons_succ]
          refine wpAnyH_ready (rs := [5]) (by kernel_rfl) (by simp) ?_
          refine AllReadyH.cons (o := { dst := some 98, op := Op.call { callee := Callee.value (Operand.func 21), args := #[Operand.tmp 93, Operand.tmp 95, Operand.tmp 97], argTypes := #[23, 3, 9] }, type := 24, pos := "law.go:302", after := #[{ on := 0, ground := Ground.data }, { on := 2, ground := Ground.data }, { on := 4, ground := Ground.data }], guard := none }) rfl (fun K hK => ?_) ?_
          · go_simp
            go_at_call 21
            with_reducible refine (HQ1.out _ (by assumption)).mono ?_
            rintro e V1 ⟨rfl, hv1⟩
            try go_wp2_with fail
            refine hK.out _ _ (HCC.out _ _ (by assumption)) (fun hHeld => ?_)
            clear hK K
            try simp only [Act.put, List.setIfInBounds_toArray, List.set_cons_zero, List.set_cons_succ]
            refine wpAnyH_ready (rs := [11]) (by kernel_rfl) (by simp) ?_
            refine AllReadyH.cons (o := { dst := some 104, op := Op.call { callee := Callee.value (Operand.func 21), args := #[Operand.tmp 99, Operand.tmp 101, Operand.tmp 103], argTypes := #[23, 3, 9] }, type := 24, pos := "law.go:302", after := #[{ on := 6, ground := Ground.data }, { on := 8, ground := Ground.data }, { on := 10, ground := Ground.data }, { on := 5, ground := Ground.chain }], guard := none }) rfl (fun K hK => ?_) ?_
            · go_simp
              go_at_call 21
              with_reducible refine (HQ3.out _ (by assumption)).mono ?_
              rintro e V2 ⟨rfl, hv2⟩
              try go_wp2_with fail
              refine hK.out _ _ (HCC.out _ _ (by assumption)) (fun hHeld => ?_)
              clear hK K
              try simp only [Act.put, List.setIfInBounds_toArray, List.set_cons_zero, List.set_cons_succ]
              refine wpAnyH_take (i := 12) (oi := { dst := some 105, op := Op.binOp BinOp.neq 24 (Operand.tmp 98) (Operand.tmp 104) 24, type := 4, pos := "law.go:302", after := #[{ on := 5, ground := Ground.data }, { on := 11, ground := Ground.data }], guard := none }) (v := ?_) rfl (by kernel_rfl) (by kernel_rfl) (by kernel_rfl) (fun _ _ _ h => h) (Or.inl ⟨by rfl, ?_⟩) (by assumption) ?_
              rotate_left
              · intro w hSw; (try dsimp only at hSw); go_simp <;> with_reducible rfl
              try simp only [Act.put, List.setIfInBounds_toArray, List.set_cons_zero, List.set_cons_succ]
              refine wpAnyH_take (i := 13) (oi := { dst := some 106, op := Op.move (Operand.tmp 105), type := 4, pos := "law.go:302", after := #[{ on := 12, ground := Ground.data }, { on := 11, ground := Ground.chain }], guard := none }) (v := ?_) rfl (by kernel_rfl) (by kernel_rfl) (by kernel_rfl) (fun _ _ _ h => h) (Or.inl ⟨by rfl, ?_⟩) (by assumption) ?_
              rotate_left
              · intro w hSw; (try dsimp only at hSw); go_simp <;> with_reducible rfl
              try simp only [Act.put, List.setIfInBounds_toArray, List.set_cons_zero, List.set_cons_succ]
              refine wpAnyH_take (i := 14) (oi := { dst := some 107, op := Op.fieldAddr 53 (Operand.tmp 13) 2, type := 0, pos := "law.go:302", after := #[{ on := 13, ground := Ground.guard }], guard := some (13, false) }) (v := ?_) rfl (by kernel_rfl) (by kernel_rfl) (by kernel_rfl) (fun _ _ _ h => h) (Or.inl ⟨by rfl, ?_⟩) (by assumption) ?_
              rotate_left
              · intro w hSw; (try dsimp only at hSw); go_simp <;> with_reducible rfl
              try simp only [Act.put, List.setIfInBounds_toArray, List.set_cons_zero, List.set_cons_succ]
              refine wpAnyH_take (i := 15) (oi := { dst := some 108, op := Op.load 4 (Operand.tmp 107), type := 4, pos := "law.go:302", after := #[{ on := 14, ground := Ground.data }, { on := 13, ground := Ground.guard }], guard := some (13, false) }) (v := ?_) rfl (by kernel_rfl) (by kernel_rfl) (by kernel_rfl) (fun _ _ _ h => h) (Or.inl ⟨by rfl, ?_⟩) (by assumption) ?_
              rotate_left
              · intro w hSw; (try dsimp only at hSw); go_simp <;> with_reducible rfl
              try simp only [Act.put, List.setIfInBounds_toArray, List.set_cons_zero, List.set_cons_succ]
              refine wpAnyH_take (i := 16) (oi := { dst := some 109, op := Op.move (Operand.tmp 108), type := 4, pos := "law.go:302", after := #[{ on := 15, ground := Ground.data }, { on := 13, ground := Ground.chain }, { on := 13, ground := Ground.guard }], guard := some (13, false) }) (v := ?_) rfl (by kernel_rfl) (by kernel_rfl) (by kernel_rfl) (fun _ _ _ h => h) (Or.inl ⟨by rfl, ?_⟩) (by assumption) ?_
              rotate_left
              · intro w hSw; (try dsimp only at hSw); go_simp <;> with_reducible rfl
              try simp only [Act.put, List.setIfInBounds_toArray, List.set_cons_zero, List.set_cons_succ]
              refine wpAnyH_take (i := 17) (oi := { dst := some 110, op := Op.move (Operand.tmp 6), type := 23, pos := "law.go:302", after := #[{ on := 16, ground := Ground.guard }], guard := some (16, true) }) (v := undef) rfl (by kernel_rfl) (by kernel_rfl) (by kernel_rfl) (fun _ _ _ h => h) (Or.inr ⟨by rfl, rfl⟩) (by assumption) ?_
              try simp only [Act.put, List.setIfInBounds_toArray, List.set_cons_zero, List.set_cons_succ]
              refine wpAnyH_take (i := 18) (oi := { dst := some 111, op := Op.call { callee := Callee.value (Operand.func 23), args := #[Operand.tmp 110], argTypes := #[23] }, type := 24, pos := "law.go:302", after := #[{ on := 17, ground := Ground.data }, { on := 16, ground := Ground.chain }, { on := 16, ground := Ground.guard }], guard := some (16, true) }) (v := undef) rfl (by kernel_rfl) (by kernel_rfl) (by kernel_rfl) (fun _ _ _ h => h) (Or.inr ⟨by rfl, rfl⟩) (by assumption) ?_
              try simp only [Act.put, List.setIfInBounds_toArray, List.set_cons_zero, List.set_cons_succ]
              refine wpAnyH_take (i := 19) (oi := { dst := some 112, op := Op.move (Operand.tmp 10), type := 23, pos := "law.go:302", after := #[{ on := 16, ground := Ground.guard }], guard := some (16, true) }) (v := undef) rfl (by kernel_rfl) (by kernel_rfl) (by kernel_rfl) (fun _ _ _ h => h) (Or.inr ⟨by rfl, rfl⟩) (by assumption) ?_
              try simp only [Act.put, List.setIfInBounds_toArray, List.set_cons_zero, List.set_cons_succ]
              refine wpAnyH_take (i := 20) (oi := { dst := some 113, op := Op.call { callee := Callee.value (Operand.func 23), args := #[Operand.tmp 112], argTypes := #[23] }, type := 24, pos := "law.go:302", after := #[{ on := 19, ground := Ground.data }, { on := 18, ground := Ground.chain }, { on := 16, ground := Ground.guard }], guard := some (16, true) }) (v := undef) rfl (by kernel_rfl) (by kernel_rfl) (by kernel_rfl) (fun _ _ _ h => h) (Or.inr ⟨by rfl, rfl⟩) (by assumption) ?_
              try simp only [Act.put, List.setIfInBounds_toArray, List.set_cons_zero, List.set_cons_succ]
              refine wpAnyH_take (i := 21) (oi := { dst := some 114, op := Op.binOp BinOp.neq 24 (Operand.tmp 111) (Operand.tmp 113) 24, type := 4, pos := "law.go:302", after := #[{ on := 18, ground := Ground.data }, { on := 20, ground := Ground.data }, { on := 16, ground := Ground.guard }], guard := some (16, true) }) (v := undef) rfl (by kernel_rfl) (by kernel_rfl) (by kernel_rfl) (fun _ _ _ h => h) (Or.inr ⟨by rfl, rfl⟩) (by assumption) ?_
              try simp only [Act.put, List.setIfInBounds_toArray, List.set_cons_zero, List.set_cons_succ]
              refine wpAnyH_take (i := 22) (oi := { dst := some 115, op := Op.pick (Operand.tmp 109) (Operand.tmp 114) (Operand.const (Value.bool false)), type := 4, pos := "law.go:302", after := #[{ on := 16, ground := Ground.data }, { on := 21, ground := Ground.data }, { on := 13, ground := Ground.guard }], guard := some (13, false) }) (v := ?_) rfl (by kernel_rfl) (by kernel_rfl) (by kernel_rfl) (fun _ _ _ h => h) (Or.inl ⟨by rfl, ?_⟩) (by assumption) ?_
              rotate_left
              · intro w hSw; (try dsimp only at hSw); go_simp <;> with_reducible rfl
              try simp only [Act.put, List.setIfInBounds_toArray, List.set_cons_zero, List.set_cons_succ]
              refine wpAnyH_take (i := 23) (oi := { dst := some 116, op := Op.pick (Operand.tmp 106) (Operand.const (Value.bool true)) (Operand.tmp 115), type := 4, pos := "law.go:302", after := #[{ on := 13, ground := Ground.data }, { on := 22, ground := Ground.data }], guard := none }) (v := ?_) rfl (by kernel_rfl) (by kernel_rfl) (by kernel_rfl) (fun _ _ _ h => h) (Or.inl ⟨by rfl, ?_⟩) (by assumption) ?_
              rotate_left
              · intro w hSw; (try dsimp only at hSw); go_simp <;> with_reducible rfl
              try simp only [Act.put, List.setIfInBounds_toArray, List.set_cons_zero, List.set_cons_succ]
              refine wpAnyH_done (by kernel_rfl) ?_ _
              refine NoPanic.normal ?_
              go_wp2_with fail
              exact ⟨⟨k + 1, s.wr p x, t, by omega, by omega, rfl, hv2.1.mono (fun j e _ => e.elim), HCN, HDN⟩, by simp [intOf]; omega⟩
            exact AllReadyH.nil
          exact AllReadyH.nil
        · go_wp2_with fail
          go_region_held3 (fun w' => w'.cell? ⟨w, 0, none⟩ = some (.int .i64 (p : Int)) ∧ w'.cell? ⟨w, 1, none⟩ = some (.string x) ∧ w'.cell? ⟨w, 2, none⟩ = some (.bool true)) (first | exact HCC.out _ _ (by assumption) | fail)
            (first
              | (go_at_call 21; with_reducible refine (HQ1.out _ (by assumption)).mono ?_; rintro e V1 ⟨rfl, hv1⟩)
              | (go_at_call 21; with_reducible refine (HQ3.out _ (by assumption)).mono ?_; rintro e V2 ⟨rfl, hv2⟩)
              | (go_at_call 23; with_reducible refine (HS1.out _ (by assumption)).mono ?_; rintro e V3 ⟨rfl, hv3⟩)
              | (go_at_call 23; with_reducible refine (HS3.out _ (by assumption)).mono ?_; rintro e V4 ⟨rfl, hv4⟩)
              | fail)
          all_goals go_wp2_with fail
          all_goals exact ⟨⟨k + 1, (s.wr p x).sync, t, by omega, by omega, rfl, (‹Three _ _ _ _ _ _ _ (s.wr p x).sync _ _ _ _ _ _ _ (s.wr p x).sync ∧ _›).1.mono (fun j e _ => e.elim), Lib.hid HCN.out.sync.2.2, HDN⟩, by simp [intOf]; omega⟩
    · by_cases hl1 : k < l.length
      · have d1' : decide ((k : Int) < (l.length : Int)) = true := by simp [hl1]
        have d2' : decide ((k : Int) < 30) = false := by simp; omega
        go_wp2_with fail
        refine (HLk.out.read 0 n).mono ?_
        rw [HC.out.read]
        rintro e W9 ⟨rfl, rfl⟩
        go_wp2_with fail
        refine (HLk.out.rot.rot.read 0 n).mono ?_
        rw [HC.out.read]
        rintro e W9 ⟨rfl, rfl⟩
        go_wp2_with fail
        refine HLk.out.pending.mono ?_
        rintro e W9 ⟨rfl, rfl⟩
        go_wp2_with fail
        refine HLk.out.rot.rot.pending.mono ?_
        rintro e W9 ⟨rfl, rfl⟩
        go_wp2_with fail
        go_ret
        exact ⟨rfl, HLk.out.below⟩
      · have d1' : decide ((k : Int) < (l.length : Int)) = false := by simp; omega
        go_wp2_with fail
        refine (HLk.out.read 0 n).mono ?_
        rw [HC.out.read]
        rintro e W9 ⟨rfl, rfl⟩
        go_wp2_with fail
        refine (HLk.out.rot.rot.read 0 n).mono ?_
        rw [HC.out.read]
        rintro e W9 ⟨rfl, rfl⟩
        go_wp2_with fail
        refine HLk.out.pending.mono ?_
        rintro e W9 ⟨rfl, rfl⟩
        go_wp2_with fail
        refine HLk.out.rot.rot.pending.mono ?_
        rintro e W9 ⟨rfl, rfl⟩
        go_wp2_with fail
        go_ret
        exact ⟨rfl, HLk.out.below⟩

end Go.Proofs.Ytmpjoncemgangaa
