/-
  A disk, and a journal on it, that were made since a world W0, apart from the blocks of Z: the contracts lifted. Conditions: each contract's own.
-/
import Derived.Test.YtllmciiadceinaaGreatDoorJourJ
namespace Go.Proofs.YtllmciiadceinaaGreatDoor
open Go Go.RowKit Go.Shelf Wr

def DL (W0 : World) (Z : Nat → Prop) (W : World) (n d : Nat) (s : DS) : Prop :=
  ∃ gd gv F vp, DAt W F d gd gv vp n s ∧ (∀ k, F k → W0.heap.size ≤ k ∧ ¬ Z k) ∧ Turns (fun _ => False) W0 W
def JL (W0 : World) (Z : Nat → Prop) (W : World) (n d : Nat) (s : DS) (j : Nat) (t : TS) (brk : Bool) : Prop :=
  ∃ gd gv F G vp, DAt W F d gd gv vp n s ∧ JAt W G j d t brk ∧ (∀ k, F k → ¬ G k) ∧ (∀ k, F k ∨ G k → W0.heap.size ≤ k ∧ ¬ Z k) ∧ Turns (fun _ => False) W0 W
/-- A journal that stands aside. -/
def JOld (W0 W : World) (j d : Nat) (t : TS) (brk : Bool) : Prop := ∃ G, JAt W G j d t brk ∧ ∀ k, G k → W0.heap.size ≤ k
theorem ErrAt.below {W W' : World} {a : Addr} (h : ErrAt W a) (hb : Below W.heap.size W W') : ErrAt W' a := (hb.cell (p := ⟨0, 0, none⟩) (cell_lt h)).trans h
section
variable {W0 W W' : World} {Z : Nat → Prop} {n d j : Nat} {s : DS} {t : TS} {brk : Bool}
theorem DL.below (h : DL W0 Z W n d s) : Below W0.heap.size W0 W := by
  obtain ⟨gd, gv, F, vp, h1, h2, h3⟩ := h
  exact h3.below (Below.refl _ _) (Nat.le_refl _) (fun _ e => e.elim)
theorem DL.quiet (h : DL W0 Z W n d s) (u : Turns (fun _ => False) W W') : DL W0 Z W' n d s := by
  obtain ⟨gd, gv, F, vp, h1, h2, h3⟩ := h
  exact ⟨gd, gv, F, vp, h1.keep u (fun _ _ e => e), h2, h3.trans u⟩
theorem DL.keep (h : DL W0 Z W n d s) (u : Turns Z W W') (hZ : ∀ k, Z k → W0.heap.size ≤ k) : DL W0 Z W' n d s := by
  obtain ⟨gd, gv, F, vp, h1, h2, h3⟩ := h
  exact ⟨gd, gv, F, vp, h1.keep u (fun k hk => (h2 k hk).2), h2, h3.then u (fun k hk => .inr (hZ k hk))⟩
theorem DL.mono {Z' : Nat → Prop} (h : DL W0 Z W n d s) (hz : ∀ k, Z' k → k < W.heap.size → Z k) : DL W0 Z' W n d s := by
  obtain ⟨gd, gv, F, vp, h1, h2, h3⟩ := h
  exact ⟨gd, gv, F, vp, h1, fun k hk => ⟨(h2 k hk).1, fun e => (h2 k hk).2 (hz k e (h1.lf k hk))⟩, h3⟩
theorem JL.dl (h : JL W0 Z W n d s j t brk) : DL W0 Z W n d s := by
  obtain ⟨gd, gv, F, G, vp, h1, h2, h3, h4, h5⟩ := h
  exact ⟨gd, gv, F, vp, h1, fun k hk => h4 k (.inl hk), h5⟩
theorem JL.below (h : JL W0 Z W n d s j t brk) : Below W0.heap.size W0 W := h.dl.below
theorem JL.old (h : JL W0 Z W n d s j t brk) : JOld W0 W j d t brk := by
  obtain ⟨gd, gv, F, G, vp, h1, h2, h3, h4, h5⟩ := h
  exact ⟨G, h2, fun k hk => (h4 k (.inr hk)).1⟩
theorem JL.quiet (h : JL W0 Z W n d s j t brk) (u : Turns (fun _ => False) W W') : JL W0 Z W' n d s j t brk := by
  obtain ⟨gd, gv, F, G, vp, h1, h2, h3, h4, h5⟩ := h
  exact ⟨gd, gv, F, G, vp, h1.keep u (fun _ _ e => e), h2.keep u (fun _ _ e => e), h3, h4, h5.trans u⟩
theorem JL.keep (h : JL W0 Z W n d s j t brk) (u : Turns Z W W') (hZ : ∀ k, Z k → W0.heap.size ≤ k) : JL W0 Z W' n d s j t brk := by
  obtain ⟨gd, gv, F, G, vp, h1, h2, h3, h4, h5⟩ := h
  exact ⟨gd, gv, F, G, vp, h1.keep u (fun k hk => (h4 k (.inl hk)).2), h2.keep u (fun k hk => (h4 k (.inr hk)).2), h3, h4, h5.then u (fun k hk => .inr (hZ k hk))⟩
theorem JL.mono {Z' : Nat → Prop} (h : JL W0 Z W n d s j t brk) (hz : ∀ k, Z' k → k < W.heap.size → Z k) : JL W0 Z' W n d s j t brk := by
  obtain ⟨gd, gv, F, G, vp, h1, h2, h3, h4, h5⟩ := h
  refine ⟨gd, gv, F, G, vp, h1, h2, h3, fun k hk => ⟨(h4 k hk).1, fun e => (h4 k hk).2 (hz k e ?_)⟩, h5⟩
  rcases hk with q | q
  · exact h1.lf k q
  · obtain ⟨rv, -, -, -, hl⟩ := h2; exact hl k q
theorem new_D (h0 : Turns (fun _ => False) W0 W) (hZ : ∀ k, Z k → k < W.heap.size) (n : Nat) (h1 : 1 ≤ n) (hn : n ≤ 4194304) :
    Calls Tryz.prog 24 #[.int .i64 n] W fun e W' => (∃ d, e = .returned (.tuple #[.pointer (some ⟨d, 0, none⟩), .int .i64 0]) ∧ DL W0 Z W' n d (DS.fresh n)) ∧ Turns (fun _ => False) W W' := by
  refine (new_walk n h1 hn).mono ?_
  rintro e W1 ⟨⟨d, gd, gv, F, vp, rfl, hd, hF⟩, ht⟩
  exact ⟨⟨d, rfl, gd, gv, F, vp, hd, fun k hk => ⟨Nat.le_trans h0.size (hF k hk), fun hz => by have := hZ k hz; have := hF k hk; omega⟩, h0.trans ht⟩, ht⟩
/-- How Open leaves a disk. -/
def OpenD (W0 : World) (Z : Nat → Prop) (n d : Nat) (s : DS) (e : Ending) (W' : World) : Prop :=
  (openE s = 0 ∧ ∃ j t, e = .returned (.tuple #[.pointer (some ⟨j, 0, none⟩), .int .i64 0]) ∧ loadW s.vis TS.zero = some t ∧ JL W0 Z W' n d (openD s) j t false) ∨
  (openE s ≠ 0 ∧ e = .returned (.tuple #[.pointer none, .int .i64 (openE s)]) ∧ DL W0 Z W' n d (openD s))
theorem open_D (h : DL W0 Z W n d s) (hZ : ∀ k, Z k → k < W.heap.size) (a : Addr) (hK : KAt W0) (hE : ErrAt W0 a) (hp : s.pend.length ≤ 900000) (hleft : s.left ≤ 9223372036854775807) :
    Calls Tryz.prog 25 #[.pointer (some ⟨d, 0, none⟩)] W fun e W' => OpenD W0 Z n d s e W' ∧ Turns (fun k => ¬ Z k) W W' := by
  have hb := h.below
  obtain ⟨gd, gv, F, vp, h1, h2, h3⟩ := h
  refine (open_all h1 a (hK.below hb) (hE.below hb) hp hleft).mono ?_
  rintro e W1 ⟨⟨F', vp', hd, hF, hr⟩, ht⟩
  have hs := h3.size
  have hF2 : ∀ k, F' k → W0.heap.size ≤ k ∧ ¬ Z k := fun k hk => by
    rcases hF k hk with q | q
    · exact h2 k q
    · exact ⟨by omega, fun hz => by have := hZ k hz; omega⟩
  have h3' : Turns (fun _ => False) W0 W1 := h3.then ht (fun k hk => .inr (h2 k hk).1)
  refine ⟨?_, ht.mono fun k hk => (h2 k hk).2⟩
  rcases hr with ⟨he, j, G, t, rfl, hl, hj, hG⟩ | ⟨he, rfl⟩
  · refine .inl ⟨he, j, t, rfl, hl, gd, gv, F', G, vp', hd, hj, fun k hk hg => (hG k hg).2 hk, fun k hk => ?_, h3'⟩
    rcases hk with q | q
    · exact hF2 k q
    · exact ⟨by have := (hG k q).1; omega, fun hz => by have := hZ k hz; have := (hG k q).1; omega⟩
  · exact .inr ⟨he, rfl, gd, gv, F', vp', hd, hF2, h3'⟩
theorem OpenD.mono {Z' : Nat → Prop} {e : Ending} (h : OpenD W0 Z n d s e W') (hz : ∀ k, Z' k → k < W'.heap.size → Z k) : OpenD W0 Z' n d s e W' := by
  rcases h with ⟨he, j, t, rfl, hl, hj⟩ | ⟨he, rfl, hd⟩
  · exact .inl ⟨he, j, t, rfl, hl, hj.mono hz⟩
  · exact .inr ⟨he, rfl, hd.mono hz⟩
/-- An older journal stands aside while the disk is opened again. -/
theorem open_J2 (h : JL W0 Z W n d s j t brk) (hZ : ∀ k, Z k → k < W.heap.size) (a : Addr) (hK : KAt W0) (hE : ErrAt W0 a) (hp : s.pend.length ≤ 900000) (hleft : s.left ≤ 9223372036854775807) :
    Calls Tryz.prog 25 #[.pointer (some ⟨d, 0, none⟩)] W fun e W' => ∃ G, JAt W' G j d t brk ∧ (∀ k, G k → W0.heap.size ≤ k ∧ k < W.heap.size) ∧ OpenD W0 (fun k => Z k ∨ G k) n d s e W' ∧ Turns (fun k => ¬ (Z k ∨ G k)) W W' := by
  obtain ⟨gd, gv, F, G, vp, h1, h2, h3, h4, h5⟩ := h
  have hGl : ∀ k, G k → k < W.heap.size := by obtain ⟨rv, -, -, -, hl⟩ := h2; exact hl
  have hd : DL W0 (fun k => Z k ∨ G k) W n d s := ⟨gd, gv, F, vp, h1, fun k hk => ⟨(h4 k (.inl hk)).1, fun e => by rcases e with e | e; exact (h4 k (.inl hk)).2 e; exact h3 k hk e⟩, h5⟩
  refine (open_D hd (fun k hk => ?_) a hK hE hp hleft).mono ?_
  · rcases hk with q | q
    · exact hZ k q
    · exact hGl k q
  · rintro e W1 ⟨hr, ht⟩
    exact ⟨G, h2.keep ht (fun k hk e => e (.inr hk)), fun k hk => ⟨(h4 k (.inr hk)).1, hGl k hk⟩, hr, ht⟩
theorem open_J (h : JL W0 Z W n d s j t brk) (hZ : ∀ k, Z k → k < W.heap.size) (a : Addr) (hK : KAt W0) (hE : ErrAt W0 a) (hp : s.pend.length ≤ 900000) (hleft : s.left ≤ 9223372036854775807) :
    Calls Tryz.prog 25 #[.pointer (some ⟨d, 0, none⟩)] W fun e W' => OpenD W0 Z n d s e W' ∧ JOld W0 W' j d t brk ∧ Turns (fun k => ¬ Z k) W W' := by
  refine (open_J2 h hZ a hK hE hp hleft).mono ?_
  rintro e W1 ⟨G, hj, hG, hr, ht⟩
  exact ⟨hr.mono (fun k hk _ => .inl hk), ⟨G, hj, fun k hk => (hG k hk).1⟩, ht.mono fun k hk e => hk (.inl e)⟩
theorem append_J (h : JL W0 Z W n d s j t brk) (hZ : ∀ k, Z k → k < W.heap.size) (A : Option Addr) (L : List ByteArray) (m c : Nat) (hm : L.length = m) (hA : LAt W W.heap.size A .string L) (hlen : m ≤ 1000) (hK : KAt W0) (hp : s.pend.length ≤ 800000) (hleft : s.left ≤ 9223372036854775807) (hg : Good n t) :
    Calls Tryz.prog 10 #[.pointer (some ⟨j, 0, none⟩), .slice A m c] W fun e W' => e = .returned (.int .i64 (appE n s t brk L)) ∧ JL W0 Z W' n d (appD n s t brk L) j (appT n s t brk L) (appB n s t brk L) ∧ Turns (fun k => ¬ Z k) W W' := by
  have hb := h.below
  obtain ⟨gd, gv, F, G, vp, h1, h2, h3, h4, h5⟩ := h
  have ht34 : t.recs.length * 34 ≤ t.size := by rw [hg.size]; exact (storeL_le _ _ hg.ok).2
  refine (append_all h1 h2 h3 A L m c hm hA hlen (hK.below hb) hp hleft hg ht34).mono ?_
  rintro e W1 ⟨rfl, ⟨F', vp', G', hd, hj, hF, hG, hFG⟩, ht⟩
  have hs := h5.size
  refine ⟨rfl, ⟨gd, gv, F', G', vp', hd, hj, hFG, fun k hk => ?_, h5.then ht (fun k hk => .inr (h4 k hk).1)⟩, ht.mono fun k hk => (h4 k hk).2⟩
  have : (F k ∨ G k) ∨ W.heap.size ≤ k := by
    rcases hk with q | q
    · rcases hF k q with q | q
      · exact .inl (.inl q)
      · exact .inr q
    · rcases hG k q with q | q
      · exact .inl (.inr q)
      · exact .inr q
  rcases this with q | q
  · exact h4 k q
  · exact ⟨by omega, fun hz => by have := hZ k hz; omega⟩
theorem room_J (h : JL W0 Z W n d s j t brk) (hf : t.size ≤ n) :
    Calls Tryz.prog 20 #[.pointer (some ⟨j, 0, none⟩)] W fun e W' => e = .returned (.int .i64 ((n - t.size : Nat) : Int)) ∧ JL W0 Z W' n d s j t brk ∧ Below W.heap.size W W' := by
  have h' := h
  obtain ⟨gd, gv, F, G, vp, h1, h2, h3, h4, h5⟩ := h
  refine (room_walk h2 h1 hf).mono ?_
  rintro e W1 ⟨rfl, k, rfl⟩
  exact ⟨rfl, h'.quiet (Turns.drewN W k), Below.drewN' (Below.refl _ _) k⟩
theorem room_O (h : DL W0 Z W n d s) (ho : JOld W0 W j d t brk) (hf : t.size ≤ n) :
    Calls Tryz.prog 20 #[.pointer (some ⟨j, 0, none⟩)] W fun e W' => e = .returned (.int .i64 ((n - t.size : Nat) : Int)) ∧ ∃ k, W' = W.drewN k := by
  obtain ⟨gd, gv, F, vp, h1, h2, h3⟩ := h
  obtain ⟨G, hG, -⟩ := ho
  exact room_walk hG h1 hf
theorem records_O (ho : JOld W0 W j d t brk) (hl : t.recs.length ≤ 1000000) :
    Calls Tryz.prog 19 #[.pointer (some ⟨j, 0, none⟩)] W fun e W' => (∃ v', e = .returned v' ∧ OL W' W.heap.size 9 1 (one .string) v' t.recs) ∧ Below W.heap.size W W' := by
  obtain ⟨G, hG, -⟩ := ho
  exact records_walk hG hl
theorem JOld.quiet (ho : JOld W0 W j d t brk) (u : Turns (fun _ => False) W W') : JOld W0 W' j d t brk := by
  obtain ⟨G, h1, h2⟩ := ho
  exact ⟨G, h1.keep u (fun _ _ e => e), h2⟩
theorem write_J (h : JL W0 Z W n d s j t brk) (hZ : ∀ k, Z k → k < W.heap.size) (off : Int) (x : ByteArray) (hx : x.size ≤ 4194304) (hp : s.pend.length ≤ 1000000) (hleft : s.left ≤ 9223372036854775807) :
    Calls Tryz.prog 13 #[.pointer (some ⟨d, 0, none⟩), .int .i64 off, .string x] W fun e W' => e = .returned (.int .i64 (s.writeE off x)) ∧ JL W0 Z W' n d (s.wr off x) j t brk ∧ Turns (fun k => ¬ Z k) W W' := by
  obtain ⟨gd, gv, F, G, vp, h1, h2, h3, h4, h5⟩ := h
  refine (write_all h1 off x hx hp hleft).mono ?_
  rintro e W1 ⟨rfl, ⟨F', vp', hd, hF⟩, ht⟩
  have hs := h5.size
  have hGl : ∀ k, G k → k < W.heap.size := by obtain ⟨rv, -, -, -, hl⟩ := h2; exact hl
  refine ⟨rfl, ⟨gd, gv, F', G, vp', hd, h2.keep ht (fun k hk e => h3 k e hk), fun k hk hg => ?_, fun k hk => ?_, h5.then ht (fun k hk => .inr (h4 k (.inl hk)).1)⟩, ht.mono fun k hk => (h4 k (.inl hk)).2⟩
  · rcases hF k hk with q | q
    · exact h3 k q hg
    · have := hGl k hg; omega
  · rcases hk with q | q
    · rcases hF k q with q | q
      · exact h4 k (.inl q)
      · exact ⟨by omega, fun hz => by have := hZ k hz; omega⟩
    · exact h4 k (.inr q)
theorem cut_J (h : JL W0 Z W n d s j t brk) (k : Int) :
    Calls Tryz.prog 29 #[.pointer (some ⟨d, 0, none⟩), .int .i64 k] W fun e W' => e = .returned (.int .i64 (s.cutE k)) ∧ JL W0 Z W' n d (s.cut k) j t brk ∧ Turns (fun k => ¬ Z k) W W' := by
  obtain ⟨gd, gv, F, G, vp, h1, h2, h3, h4, h5⟩ := h
  refine (cut_walk h1 k).mono ?_
  rintro e W1 ⟨rfl, hd, ht⟩
  exact ⟨rfl, ⟨gd, gv, F, G, vp, hd, h2.keep ht (fun k hk e => h3 k e hk), h3, h4, h5.then ht (fun k hk => .inr (h4 k (.inl hk)).1)⟩, ht.mono fun k hk => (h4 k (.inl hk)).2⟩
theorem pending_D (h : DL W0 Z W n d s) : Calls Tryz.prog 32 #[.pointer (some ⟨d, 0, none⟩)] W fun e W' => e = .returned (.int .i64 s.pend.length) ∧ W = W' := by
  obtain ⟨gd, gv, F, vp, h1, h2, h3⟩ := h
  exact pending_walk h1
theorem content_D (h : DL W0 Z W n d s) : Calls Tryz.prog 22 #[.pointer (some ⟨d, 0, none⟩)] W fun e W' => e = .returned (.string (s.read 0 n).1) ∧ W = W' := by
  obtain ⟨gd, gv, F, vp, h1, h2, h3⟩ := h
  exact content_walk h1
theorem size_D (h : DL W0 Z W n d s) : s.vis.length = n := by
  obtain ⟨gd, gv, F, vp, h1, h2, h3⟩ := h
  exact h1.lv
end
set_option maxHeartbeats 2000000 in
theorem opennil_walk (W : World) : Calls Tryz.prog 25 #[.pointer none] W fun e W' => e = .returned (.tuple #[.pointer none, .int .i64 1]) ∧ W = W' := by
  go_enter Tryz.func25, Tryz.ntmps25
  go_wp2_with fail
  go_ret2
  exact ⟨rfl, rfl⟩
set_option maxHeartbeats 2000000 in
theorem appendnil_walk (W : World) (A : Option Addr) (m c : Nat) : Calls Tryz.prog 10 #[.pointer none, .slice A m c] W fun e W' => e = .returned (.int .i64 1) ∧ W = W' := by
  go_enter Tryz.func10, Tryz.ntmps10
  go_wp2_with fail
  go_ret
  exact ⟨rfl, rfl⟩
end Go.Proofs.YtllmciiadceinaaGreatDoor
