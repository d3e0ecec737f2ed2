/-
  The law's step: a call on a disk and on the reference answers alike, and both are alike behind it. Conditions: the arguments are such as the row reads.
-/
import Derived.Test.YtmpjoncemgangaaDiskX
namespace Go.Proofs.Ytmpjoncemgangaa
open Go Go.RowKit Go.Shelf Go.Sort Go.ChangeShapes Go.WideShapes Go.Deep

/-- A disk d in state s and the reference's disk x in state r, made since W0, apart from each other and from the blocks of Z. -/
def Two (W0 : World) (Z : Nat → Prop) (W : World) (n : Nat) (d : Nat) (s : DS) (x : Nat) (r : DS) : Prop :=
  ∃ gd gv g c F1 F2 p1 p2, DAt W F1 d gd gv p1 n s ∧ RefD W F2 x g c p2 n r ∧ (∀ k, F1 k → ¬ F2 k) ∧ (∀ k, (F1 k ∨ F2 k) → W0.heap.size ≤ k ∧ ¬ Z k) ∧ Turns (fun _ => False) W0 W
section
variable {W0 W W' : World} {Z : Nat → Prop} {n d x : Nat} {s s' r r' : DS}
theorem Two.below (h : Two W0 Z W n d s x r) : Below W0.heap.size W0 W := by
  obtain ⟨gd, gv, g, c, F1, F2, p1, p2, h1, h2, e1, e2, ht⟩ := h
  exact ht.below (Below.refl _ _) (Nat.le_refl _) (fun _ e => e.elim)
theorem Two.size (h : Two W0 Z W n d s x r) : W0.heap.size ≤ W.heap.size := h.below.size
theorem Two.quiet (h : Two W0 Z W n d s x r) (t : Turns (fun _ => False) W W') : Two W0 Z W' n d s x r := by
  obtain ⟨gd, gv, g, c, F1, F2, p1, p2, h1, h2, e1, e2, ht⟩ := h
  exact ⟨gd, gv, g, c, F1, F2, p1, p2, h1.keep t (fun _ _ q => q), h2.keep t (fun _ _ q => q), e1, e2, ht.trans t⟩
theorem Two.mono {Z' : Nat → Prop} (h : Two W0 Z W n d s x r) (hz : ∀ k, Z' k → k < W.heap.size → Z k) : Two W0 Z' W n d s x r := by
  obtain ⟨gd, gv, g, c, F1, F2, p1, p2, h1, h2, e1, e2, ht⟩ := h
  exact ⟨gd, gv, g, c, F1, F2, p1, p2, h1, h2, e1, fun k hk => ⟨(e2 k hk).1, fun q => (e2 k hk).2 (hz k q (by rcases hk with a | a; exact h1.lf k a; exact h2.lf k a))⟩, ht⟩
theorem Two.left {f : Nat} {args : Array Value} {a : Value} (h : Two W0 Z W n d s x r) (hZ : ∀ k, Z k → k < W.heap.size)
    (hc : ∀ gd gv F vp, DAt W F d gd gv vp n s → Calls Try.prog f args W fun e W' => e = .returned a ∧ (∃ F' vp', DAt W' F' d gd gv vp' n s' ∧ ∀ k, F' k → F k ∨ W.heap.size ≤ k) ∧ Turns F W W') :
    Calls Try.prog f args W fun e W' => e = .returned a ∧ Two W0 Z W' n d s' x r ∧ Turns (fun k => ¬ Z k) W W' := by
  obtain ⟨gd, gv, g, c, F1, F2, p1, p2, h1, h2, e1, e2, ht⟩ := h
  have hs := ht.size
  refine (hc gd gv F1 p1 h1).mono ?_
  rintro e W1 ⟨rfl, ⟨F', vp', hd, hF⟩, t⟩
  refine ⟨rfl, ⟨gd, gv, g, c, F', F2, vp', p2, hd, h2.keep t (fun k hk q => e1 k q hk), fun k hk q => ?_, fun k hk => ?_, Lives.step ht (fun k hk => (e2 k (.inl hk)).1) t⟩, t.mono fun k hk => (e2 k (.inl hk)).2⟩
  · rcases hF k hk with b | b
    · exact e1 k b q
    · have := h2.lf k q; omega
  · rcases hk with q | q
    · rcases hF k q with b | b
      · exact e2 k (.inl b)
      · exact ⟨by omega, fun hz => by have := hZ k hz; omega⟩
    · exact e2 k (.inr q)
theorem Two.right {f : Nat} {args : Array Value} {a : Value} (h : Two W0 Z W n d s x r) (hZ : ∀ k, Z k → k < W.heap.size)
    (hc : ∀ g c F vp, RefD W F x g c vp n r → Calls Try.prog f args W fun e W' => e = .returned a ∧ (∃ F' g' c' vp', RefD W' F' x g' c' vp' n r' ∧ ∀ k, F' k → F k ∨ W.heap.size ≤ k) ∧ Turns F W W') :
    Calls Try.prog f args W fun e W' => e = .returned a ∧ Two W0 Z W' n d s x r' ∧ Turns (fun k => ¬ Z k) W W' := by
  obtain ⟨gd, gv, g, c, F1, F2, p1, p2, h1, h2, e1, e2, ht⟩ := h
  have hs := ht.size
  refine (hc g c F2 p2 h2).mono ?_
  rintro e W1 ⟨rfl, ⟨F', g', c', vp', hd, hF⟩, t⟩
  refine ⟨rfl, ⟨gd, gv, g', c', F1, F', p1, vp', h1.keep t (fun k hk q => e1 k hk q), hd, fun k hk q => ?_, fun k hk => ?_, Lives.step ht (fun k hk => (e2 k (.inr hk)).1) t⟩, t.mono fun k hk => (e2 k (.inr hk)).2⟩
  · rcases hF k q with b | b
    · exact e1 k hk b
    · have := h1.lf k hk; omega
  · rcases hk with q | q
    · exact e2 k (.inl q)
    · rcases hF k q with b | b
      · exact e2 k (.inr b)
      · exact ⟨by omega, fun hz => by have := hZ k hz; omega⟩
theorem Two.read (h : Two W0 Z W n d s x r) (off m : Int) :
    Calls Try.prog 14 #[.pointer (some ⟨d, 0, none⟩), .int .i64 off, .int .i64 m] W fun e W' => e = .returned (.tuple #[.string (s.read off m).1, .int .i64 (s.read off m).2]) ∧ W = W' := by
  obtain ⟨gd, gv, g, c, F1, F2, p1, p2, h1, h2, e1, e2, ht⟩ := h
  exact read_walk h1 off m
theorem Two.pending (h : Two W0 Z W n d s x r) :
    Calls Try.prog 17 #[.pointer (some ⟨d, 0, none⟩)] W fun e W' => e = .returned (.int .i64 s.pend.length) ∧ W = W' := by
  obtain ⟨gd, gv, g, c, F1, F2, p1, p2, h1, h2, e1, e2, ht⟩ := h
  exact pending_walk h1
theorem Two.dsize (h : Two W0 Z W n d s x r) :
    Calls Try.prog 16 #[.pointer (some ⟨d, 0, none⟩)] W fun e W' => e = .returned (.int .i64 n) ∧ W = W' := by
  obtain ⟨gd, gv, g, c, F1, F2, p1, p2, h1, h2, e1, e2, ht⟩ := h
  exact size_walk h1
theorem Two.refread (h : Two W0 Z W n d s x r) (hn1 : 1 ≤ n) (hp : r.pend.length ≤ 1000000) (off m : Int) :
    Calls Try.prog 20 #[.pointer (some ⟨x, 0, none⟩), .int .i64 off, .int .i64 m] W fun e W' => e = .returned (.tuple #[.string (r.read off m).1, .int .i64 (r.read off m).2]) ∧ Two W0 Z W' n d s x r ∧ Below W.heap.size W W' := by
  have h' := h
  obtain ⟨gd, gv, g, c, F1, F2, p1, p2, h1, h2, e1, e2, ht⟩ := h
  refine (refreadD_walk h2 hn1 hp off m).mono ?_
  rintro e W1 ⟨rfl, hb⟩
  exact ⟨rfl, h'.quiet (Turns.of_below hb), hb⟩
theorem Two.log (h : Two W0 Z W n d s x r) : ∃ A c, W.cell? ⟨x, 1, none⟩ = some (.slice A r.pend.length c) := by
  obtain ⟨gd, gv, g, c, F1, F2, p1, p2, h1, h2, e1, e2, ht⟩ := h
  obtain ⟨A, cc, rfl, -, -⟩ := h2.pp.slice
  exact ⟨A, cc, h2.cell 1⟩
end

/-- A variable's block. -/
def BoxAt (W : World) (w : Nat) (cs : Array Value) : Prop := W.heap[w]? = some (.cells cs 39 (0, 0))
theorem BoxAt.cell {W : World} {w : Nat} {cs : Array Value} (h : BoxAt W w cs) (i : Nat) : W.cell? ⟨w, i, none⟩ = cs[i]? := by
  unfold BoxAt at h; simp [World.cell?, h]
theorem BoxAt.lt {W : World} {w : Nat} {cs : Array Value} (h : BoxAt W w cs) : w < W.heap.size := (Array.getElem?_eq_some_iff.1 h).1
theorem BoxAt.turns {W W' : World} {w : Nat} {cs : Array Value} {Z : Nat → Prop} (h : BoxAt W w cs) (t : Turns Z W W') (hz : ¬ Z w) : BoxAt W' w cs := (t.block w h.lt hz).trans h

theorem wr_pend (s : DS) (off : Int) (x : ByteArray) : (s.wr off x).pend.length ≤ s.pend.length + 1 ∧ (s.wr off x).left ≤ s.left := by
  unfold DS.wr
  split
  · exact ⟨by omega, Nat.le_refl _⟩
  · split
    · unfold DS.write DS.used
      dsimp only
      split
      · exact ⟨by simp, Nat.le_refl _⟩
      · exact ⟨by simp, by dsimp only; omega⟩
    · exact ⟨by omega, Nat.le_refl _⟩
theorem sync_pend (s : DS) : s.sync.pend.length ≤ s.pend.length ∧ s.sync.left = s.left := by
  unfold DS.sync
  split
  · exact ⟨Nat.le_refl _, rfl⟩
  · exact ⟨Nat.zero_le _, rfl⟩
theorem cut_pend (s : DS) (k : Int) (hk : k ≤ 9223372036854775807) (hl : s.left ≤ 9223372036854775807) : (s.cut k).pend.length = s.pend.length ∧ (s.cut k).left ≤ 9223372036854775807 := by
  unfold DS.cut
  split
  · exact ⟨rfl, hl⟩
  · split
    · exact ⟨rfl, hl⟩
    · exact ⟨rfl, by dsimp only; omega⟩

/-- A StepParams: its cells; what it holds. -/
structure ST where
  call : Int
  off : Int
  n : Int
  s : ByteArray
  kA : Option Addr
  keep : List Int
  kc : Nat
def ST.cells (y : ST) : List Value := [.int .i64 y.call, .int .i64 y.off, .int .i64 y.n, .string y.s, .slice y.kA y.keep.length y.kc]
structure ST.ok (y : ST) (W : World) : Prop where
  call1 : -9223372036854775808 ≤ y.call
  call2 : y.call ≤ 9223372036854775807
  n2 : y.n ≤ 9223372036854775807
  s : y.s.size ≤ 9223372036854775807
  cap : y.keep.length ≤ y.kc
  lat : LAt W W.heap.size y.kA iv y.keep
  klen : y.keep.length ≤ 9223372036854775807

set_option maxRecDepth 100000 in
set_option maxHeartbeats 16000000 in
theorem step_walk {W0 W : World} {Z : Nat → Prop} {n d x : Nat} {s : DS} (y : ST) (hy : y.ok W0) (h : Two W0 Z W n d s x s) (hZ : ∀ k, Z k → k < W.heap.size) (hn1 : 1 ≤ n) (hp : s.pend.length ≤ 1000) (hl : s.left ≤ 9223372036854775807) :
    Calls Try.prog 19 #[.pointer (some ⟨d, 0, none⟩), .pointer (some ⟨x, 0, none⟩), .agg y.cells.toArray] W fun e W' => e = .returned (.bool true) ∧ (∃ s', Two W0 Z W' n d s' x s' ∧ s'.pend.length ≤ s.pend.length + 1 ∧ s'.left ≤ 9223372036854775807) ∧ Turns (fun k => ¬ Z k) W W' := by
  obtain ⟨c, off, m, str, kA, keep, kc⟩ := y
  obtain ⟨P, hP⟩ : ∃ P, pickZ c 6 = P := ⟨_, rfl⟩
  have hPr := pickZ_range c (n := 6) (by omega)
  have HP := Lib.hid (pick_walk (x := c) (n := 6) · hy.call1 hy.call2 (by omega) (by omega))
  rw [hP] at hPr HP
  have HY := Lib.hid hy
  unfold ST.cells
  dsimp only
  obtain ⟨w, hw⟩ : ∃ w, W.heap.size = w := ⟨_, rfl⟩
  obtain ⟨cs, hcs⟩ : ∃ cs : Array Value, #[.int .i64 c, .int .i64 off, .int .i64 m, .string str, .slice kA keep.length kc] = cs := ⟨_, rfl⟩
  obtain ⟨W1, hW1⟩ : ∃ W1, W.alloc (.cells cs 39) = W1 := ⟨_, rfl⟩
  have hb1 : BoxAt W1 w cs := by rw [← hW1, ← hw]; exact World.alloc_heap_new W _
  have ht1 : Turns (fun _ => False) W W1 := by rw [← hW1]; exact Turns.alloc W _
  have h1 : Two W0 (fun k => Z k ∨ k = w) W1 n d s x s := (h.mono (Z' := fun k => Z k ∨ k = w) (fun k e hk => by rcases e with e | e; exact e; omega)).quiet ht1
  have hZ1 : ∀ V : World, Turns (fun k => ¬ (Z k ∨ k = w)) W1 V ∨ V = W1 → ∀ k, (Z k ∨ k = w) → k < V.heap.size := fun V hV k e => by
    have hs : W1.heap.size ≤ V.heap.size := by rcases hV with q | q; exact q.size; (rw [q]; exact Nat.le_refl _)
    rcases e with e | e
    · have := hZ k e; have := ht1.size; omega
    · rw [e]; have := hb1.lt; omega
  have HW1 := Lib.hid hW1
  have HWW := Lib.hid hw
  have HCS := Lib.hid hcs
  have H1 := Lib.hid h1
  have HB1 := Lib.hid hb1
  have HT1 := Lib.hid (ht1.mono (Z' := fun k => ¬ Z k) (fun _ e => e.elim))
  have k0 : W1.cell? ⟨w, 0, none⟩ = some (.int .i64 c) := by rw [hb1.cell 0, ← hcs]; rfl
  have k1 : W1.cell? ⟨w, 1, none⟩ = some (.int .i64 off) := by rw [hb1.cell 1, ← hcs]; rfl
  have k2 : W1.cell? ⟨w, 2, none⟩ = some (.int .i64 m) := by rw [hb1.cell 2, ← hcs]; rfl
  have k3 : W1.cell? ⟨w, 3, none⟩ = some (.string str) := by rw [hb1.cell 3, ← hcs]; rfl
  have k4 : W1.cell? ⟨w, 4, none⟩ = some (.slice kA keep.length kc) := by rw [hb1.cell 4, ← hcs]; rfl
  clear hcs hb1 ht1 h1 hW1 h hy hP
  have hP6 : P = 0 ∨ P = 1 ∨ P = 2 ∨ P = 3 ∨ P = 4 ∨ P = 5 := by omega
  clear hPr
  have HZZ : Hid (∀ V : World, Turns (fun k => ¬ (Z k ∨ k = w)) W1 V → ∀ k, (Z k ∨ k = w) → k < V.heap.size) := Lib.hid (fun V hV => hZ1 V (.inl hV))
  have HTF : Hid (∀ V : World, Turns (fun k => ¬ (Z k ∨ k = w)) W1 V → Turns (fun k => ¬ Z k) W V) := Lib.hid (fun V hV => HT1.out.trans (hV.mono (fun k e q => e (.inl q))))
  have HKB : Hid (∀ V : World, Turns (fun k => ¬ (Z k ∨ k = w)) W1 V → BoxAt V w cs) := Lib.hid (fun V hV => HB1.out.turns hV (fun e => e (.inr rfl)))
  have HCL : Hid (∀ V : World, BoxAt V w cs → V.cell? ⟨w, 0, none⟩ = some (.int .i64 c) ∧ V.cell? ⟨w, 1, none⟩ = some (.int .i64 off) ∧ V.cell? ⟨w, 2, none⟩ = some (.int .i64 m) ∧ V.cell? ⟨w, 3, none⟩ = some (.string str) ∧ V.cell? ⟨w, 4, none⟩ = some (.slice kA keep.length kc)) := Lib.hid (fun V hb => by
    rw [hb.cell 0, hb.cell 1, hb.cell 2, hb.cell 3, hb.cell 4, ← HCS.out]; exact ⟨rfl, rfl, rfl, rfl, rfl⟩)
  have HT0 : Hid (Turns (fun k => ¬ (Z k ∨ k = w)) W1 W1) := Lib.hid (Turns.refl _ _)
  clear hZ hZ1
  go_enter Try.func19, Try.ntmps19
  go_wp2_with fail
  try rw [HWW.out]
  rw [HCS.out, HW1.out]
  refine (HP.out W1).mono ?_
  rintro e W2 ⟨rfl, rfl⟩
  rcases hP6 with rfl | rfl | rfl | rfl | rfl | rfl
  · have HX := Lib.hid (lcut_walk · str 300 HY.out.s)
    have hx300 : (lcut str 300).size ≤ 300 := lcut_size _ _
    obtain ⟨T, hT⟩ : ∃ T, lcut str 300 = T := ⟨_, rfl⟩
    rw [hT] at HX hx300
    have HQ1 : Hid (∀ V : World, Turns (fun k => ¬ (Z k ∨ k = w)) W1 V ∧ Two W0 (fun k => Z k ∨ k = w) V n d s x s → Calls Try.prog 21 #[.pointer (some ⟨d, 0, none⟩), .int .i64 off, .string T] V fun e V' => e = .returned (.int .i64 (s.writeE off T)) ∧ Turns (fun k => ¬ (Z k ∨ k = w)) W1 V' ∧ Two W0 (fun k => Z k ∨ k = w) V' n d (s.wr off T) x s) := Lib.hid (fun V hv =>
      (hv.2.left (HZZ.out V hv.1) (fun gd gv F vp hd => write_all hd off T (by omega) (by omega) hl)).mono fun e V' q => ⟨q.1, hv.1.trans q.2.2, q.2.1⟩)
    have HQ2 : Hid (∀ V : World, Turns (fun k => ¬ (Z k ∨ k = w)) W1 V ∧ Two W0 (fun k => Z k ∨ k = w) V n d (s.wr off T) x s → Calls Try.prog 30 #[.pointer (some ⟨x, 0, none⟩), .int .i64 off, .string T] V fun e V' => e = .returned (.int .i64 (s.writeE off T)) ∧ Turns (fun k => ¬ (Z k ∨ k = w)) W1 V' ∧ Two W0 (fun k => Z k ∨ k = w) V' n d (s.wr off T) x (s.wr off T)) := Lib.hid (fun V hv =>
      (hv.2.right (HZZ.out V hv.1) (fun g c F vp hd => (refwriteD_walk hd off T (by omega) (by omega) hl).mono fun e V' q => ⟨q.1, q.2.1.elim fun F' q2 => q2.elim fun vp' q3 => ⟨F', g, c, vp', q3⟩, q.2.2⟩)).mono fun e V' q => ⟨q.1, hv.1.trans q.2.2, q.2.1⟩)
    have h0 : Turns (fun k => ¬ (Z k ∨ k = w)) W1 W1.drew ∧ Two W0 (fun k => Z k ∨ k = w) W1.drew n d s x s := ⟨Turns.drew _, H1.out.quiet (Turns.drew _)⟩
    have HSS : Hid (∀ (V : World) (Q : Prop), Turns (fun k => ¬ (Z k ∨ k = w)) W1 V ∧ Q → V.cell? ⟨w, 1, none⟩ = some (.int .i64 off)) := Lib.hid (fun V Q hv => (HCL.out V (HKB.out V hv.1)).2.1)
    have hpe := wr_pend s off T
    clear hT hx300
    go_wp2_with (first | (go_at_call 22; refine (HX.out _).mono ?_; rintro e W2 ⟨rfl, rfl⟩) | fail)
    go_region_held3 (fun w' => w'.cell? ⟨w, 1, none⟩ = some (.int .i64 off)) (first | exact HSS.out _ _ (by assumption) | fail)
      (first
        | (go_at_call 21; with_reducible refine (HQ1.out _ (by assumption)).mono ?_; rintro e V1 ⟨rfl, hv1⟩)
        | (go_at_call 30; with_reducible refine (HQ2.out _ (by assumption)).mono ?_; rintro e V2 ⟨rfl, hv2⟩)
        | fail)
    all_goals go_wp2_with fail
    all_goals go_ret
    all_goals exact ⟨rfl, ⟨s.wr off T, hv2.2.mono (fun k e _ => .inl e), hpe.1, Nat.le_trans hpe.2 hl⟩, HTF.out _ hv2.1⟩
  · have HX := Lib.hid (lcut_walk · str 300 HY.out.s)
    have hx300 : (lcut str 300).size ≤ 300 := lcut_size _ _
    obtain ⟨T, hT⟩ : ∃ T, lcut str 300 = T := ⟨_, rfl⟩
    rw [hT] at HX hx300
    have HQ1 : Hid (∀ V : World, Turns (fun k => ¬ (Z k ∨ k = w)) W1 V ∧ Two W0 (fun k => Z k ∨ k = w) V n d s x s → Calls Try.prog 21 #[.pointer (some ⟨d, 0, none⟩), .int .i64 off, .string T] V fun e V' => e = .returned (.int .i64 (s.writeE off T)) ∧ Turns (fun k => ¬ (Z k ∨ k = w)) W1 V' ∧ Two W0 (fun k => Z k ∨ k = w) V' n d (s.wr off T) x s) := Lib.hid (fun V hv =>
      (hv.2.left (HZZ.out V hv.1) (fun gd gv F vp hd => write_all hd off T (by omega) (by omega) hl)).mono fun e V' q => ⟨q.1, hv.1.trans q.2.2, q.2.1⟩)
    have HQ2 : Hid (∀ V : World, Turns (fun k => ¬ (Z k ∨ k = w)) W1 V ∧ Two W0 (fun k => Z k ∨ k = w) V n d (s.wr off T) x s → Calls Try.prog 30 #[.pointer (some ⟨x, 0, none⟩), .int .i64 off, .string T] V fun e V' => e = .returned (.int .i64 (s.writeE off T)) ∧ Turns (fun k => ¬ (Z k ∨ k = w)) W1 V' ∧ Two W0 (fun k => Z k ∨ k = w) V' n d (s.wr off T) x (s.wr off T)) := Lib.hid (fun V hv =>
      (hv.2.right (HZZ.out V hv.1) (fun g c F vp hd => (refwriteD_walk hd off T (by omega) (by omega) hl).mono fun e V' q => ⟨q.1, q.2.1.elim fun F' q2 => q2.elim fun vp' q3 => ⟨F', g, c, vp', q3⟩, q.2.2⟩)).mono fun e V' q => ⟨q.1, hv.1.trans q.2.2, q.2.1⟩)
    have h0 : Turns (fun k => ¬ (Z k ∨ k = w)) W1 W1.drew ∧ Two W0 (fun k => Z k ∨ k = w) W1.drew n d s x s := ⟨Turns.drew _, H1.out.quiet (Turns.drew _)⟩
    have HSS : Hid (∀ (V : World) (Q : Prop), Turns (fun k => ¬ (Z k ∨ k = w)) W1 V ∧ Q → V.cell? ⟨w, 1, none⟩ = some (.int .i64 off)) := Lib.hid (fun V Q hv => (HCL.out V (HKB.out V hv.1)).2.1)
    have hpe := wr_pend s off T
    clear hT hx300
    go_wp2_with (first | (go_at_call 22; refine (HX.out _).mono ?_; rintro e W2 ⟨rfl, rfl⟩) | fail)
    go_region_held3 (fun w' => w'.cell? ⟨w, 1, none⟩ = some (.int .i64 off)) (first | exact HSS.out _ _ (by assumption) | fail)
      (first
        | (go_at_call 21; with_reducible refine (HQ1.out _ (by assumption)).mono ?_; rintro e V1 ⟨rfl, hv1⟩)
        | (go_at_call 30; with_reducible refine (HQ2.out _ (by assumption)).mono ?_; rintro e V2 ⟨rfl, hv2⟩)
        | fail)
    all_goals go_wp2_with fail
    all_goals go_ret
    all_goals exact ⟨rfl, ⟨s.wr off T, hv2.2.mono (fun k e _ => .inl e), hpe.1, Nat.le_trans hpe.2 hl⟩, HTF.out _ hv2.1⟩
  · go_wp2_with fail
    refine (H1.out.left (HZZ.out _ HT0.out) (fun gd gv F vp hd => (sync_walk hd).mono fun e V' q => ⟨q.1, ⟨F, q.2.1.choose, q.2.1.choose_spec, fun k hk => .inl hk⟩, q.2.2⟩)).mono ?_
    rintro e V1 ⟨rfl, h2, t2⟩
    have H2 := Lib.hid h2
    have HT2 := Lib.hid t2
    have hb2 := HKB.out _ t2
    clear h2 t2 k0 k1 k2 k3 k4
    go_wp2_with fail
    refine (H2.out.right (HZZ.out _ HT2.out) (fun g c F vp hd => refsyncD_walk hd hn1 (by omega))).mono ?_
    rintro e V2 ⟨rfl, h3, t3⟩
    have H3 := Lib.hid h3
    have HT3 := Lib.hid (HT2.out.trans t3)
    clear h3 t3 hb2
    have hpe := sync_pend s
    go_wp2_with fail
    go_ret
    exact ⟨rfl, ⟨s.sync, H3.out.mono (fun k e _ => .inl e), by omega, by omega⟩, HTF.out _ HT3.out⟩
  · go_wp2_with fail
    refine (H1.out.read off m).mono ?_
    rintro e V1 ⟨rfl, rfl⟩
    go_wp2_with fail
    refine (H1.out.refread hn1 (by omega) off m).mono ?_
    rintro e V2 ⟨rfl, h2, hb2⟩
    have H2 := Lib.hid h2
    have HT2 : Hid (Turns (fun k => ¬ (Z k ∨ k = w)) W1 V2) := Lib.hid (Turns.of_below hb2)
    clear h2 hb2 k0 k1 k2 k3 k4
    go_wp2_with fail
    go_ret
    exact ⟨rfl, ⟨s, H2.out.mono (fun k e _ => .inl e), by omega, hl⟩, HTF.out _ HT2.out⟩
  · have HQ1 : Hid (∀ V : World, Turns (fun k => ¬ (Z k ∨ k = w)) W1 V ∧ Two W0 (fun k => Z k ∨ k = w) V n d s x s → Calls Try.prog 24 #[.pointer (some ⟨d, 0, none⟩), .int .i64 m] V fun e V' => e = .returned (.int .i64 (s.cutE m)) ∧ Turns (fun k => ¬ (Z k ∨ k = w)) W1 V' ∧ Two W0 (fun k => Z k ∨ k = w) V' n d (s.cut m) x s) := Lib.hid (fun V hv =>
      (hv.2.left (HZZ.out V hv.1) (fun gd gv F vp hd => (cut_walk hd m).mono fun e V' q => ⟨q.1, ⟨F, vp, q.2.1, fun k hk => .inl hk⟩, q.2.2⟩)).mono fun e V' q => ⟨q.1, hv.1.trans q.2.2, q.2.1⟩)
    have HQ2 : Hid (∀ V : World, Turns (fun k => ¬ (Z k ∨ k = w)) W1 V ∧ Two W0 (fun k => Z k ∨ k = w) V n d (s.cut m) x s → Calls Try.prog 32 #[.pointer (some ⟨x, 0, none⟩), .int .i64 m] V fun e V' => e = .returned (.int .i64 (s.cutE m)) ∧ Turns (fun k => ¬ (Z k ∨ k = w)) W1 V' ∧ Two W0 (fun k => Z k ∨ k = w) V' n d (s.cut m) x (s.cut m)) := Lib.hid (fun V hv =>
      (hv.2.right (HZZ.out V hv.1) (fun g c F vp hd => (refcutD_walk hd m).mono fun e V' q => ⟨q.1, ⟨F, g, c, vp, q.2.1, fun k hk => .inl hk⟩, q.2.2⟩)).mono fun e V' q => ⟨q.1, hv.1.trans q.2.2, q.2.1⟩)
    have h0 : Turns (fun k => ¬ (Z k ∨ k = w)) W1 W1.drew ∧ Two W0 (fun k => Z k ∨ k = w) W1.drew n d s x s := ⟨Turns.drew _, H1.out.quiet (Turns.drew _)⟩
    have HSS : Hid (∀ (V : World) (Q : Prop), Turns (fun k => ¬ (Z k ∨ k = w)) W1 V ∧ Q → V.cell? ⟨w, 2, none⟩ = some (.int .i64 m)) := Lib.hid (fun V Q hv => (HCL.out V (HKB.out V hv.1)).2.2.1)
    have HPE := Lib.hid (cut_pend s m HY.out.n2 hl)
    go_wp2_with fail
    go_region_held3 (fun w' => w'.cell? ⟨w, 2, none⟩ = some (.int .i64 m)) (first | exact HSS.out _ _ (by assumption) | fail)
      (first
        | (go_at_call 24; with_reducible refine (HQ1.out _ (by assumption)).mono ?_; rintro e V1 ⟨rfl, hv1⟩)
        | (go_at_call 32; with_reducible refine (HQ2.out _ (by assumption)).mono ?_; rintro e V2 ⟨rfl, hv2⟩)
        | fail)
    all_goals go_wp2_with fail
    all_goals go_ret
    all_goals exact ⟨rfl, ⟨s.cut m, hv2.2.mono (fun k e _ => .inl e), by have := HPE.out.1; omega, HPE.out.2⟩, HTF.out _ hv2.1⟩
  · obtain ⟨kn, hkn⟩ : ∃ kn : Nat, min (keep.length : Int) 100 = (kn : Int) := ⟨min keep.length 100, by omega⟩
    have HKN : Hid ((keep.take kn).length = kn ∧ kn ≤ 100) := Lib.hid ⟨by rw [List.length_take]; omega, by omega⟩
    have y3 : (0 : Int) ≤ (kn : Int) := by omega
    have y4 : (kn : Int) ≤ (kc : Int) := by have := HY.out.cap; dsimp only at this; omega
    have HLA : Hid (∀ V : World, Below W0.heap.size W0 V → LAt V V.heap.size kA iv (keep.take kn)) := Lib.hid (fun V hV => ((HY.out.lat.below hV).more hV.size).take kn)
    go_wp2_with fail
    refine (H1.out.right (HZZ.out _ HT0.out) (fun g c F vp hd => (refcrashD_walk hd kA (keep.take kn) kn kc HKN.out.1 (by have := HKN.out.2; omega) (HLA.out _ H1.out.below) m (by omega)).mono fun e V' q => ⟨q.1, ⟨F, g, c, q.2.1.choose, q.2.1.choose_spec, fun k hk => .inl hk⟩, q.2.2⟩)).mono ?_
    rintro e V1 ⟨rfl, h2, t2⟩
    have H2 := Lib.hid h2
    have HT2 := Lib.hid t2
    have hc2 := HCL.out _ (HKB.out _ t2)
    obtain ⟨-, -, j2, -, -⟩ := hc2
    clear h2 t2 k0 k1 k2 k3 k4
    go_wp2_with fail
    refine (H2.out.left (HZZ.out _ HT2.out) (fun gd gv F vp hd => (crash_walk hd kA (keep.take kn) kn kc HKN.out.1 (by have := HKN.out.2; omega) (HLA.out _ H2.out.below) m (by omega)).mono fun e V' q => ⟨q.1, ⟨F, q.2.1.choose, q.2.1.choose_spec, fun k hk => .inl hk⟩, q.2.2⟩)).mono ?_
    rintro e V2 ⟨rfl, h3, t3⟩
    have H3 := Lib.hid h3
    have HT3 := Lib.hid (HT2.out.trans t3)
    clear h3 t3 j2
    go_wp2_with fail
    go_ret
    exact ⟨rfl, ⟨s.crash (keep.take kn) m, H3.out.mono (fun k e _ => .inl e), Nat.zero_le _, Nat.zero_le _⟩, HTF.out _ HT3.out⟩

end Go.Proofs.Ytmpjoncemgangaa
