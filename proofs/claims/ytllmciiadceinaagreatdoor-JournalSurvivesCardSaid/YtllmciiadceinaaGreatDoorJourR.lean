/-
  Crash on a law's disk; what a disk holds for a crash; list laws of the journal's laws. Conditions: each contract's own.
-/
import Derived.Test.YtllmciiadceinaaGreatDoorJourN
import Derived.Test.YtllmciiadceinaaGreatDoorJourLc
import Derived.Test.YtllmciiadceinaaGreatDoorCAt
namespace Go.Proofs.YtllmciiadceinaaGreatDoor
open Go Go.RowKit Go.Shelf Wr

theorem LAt.cat {α : Type} {w : World} {B : Nat} {A : Option Addr} {f : α → Value} {l : List α} (h : LAt w B A f l) : ∀ j x, (l.flatMap (one f))[j]? = some x → ∃ a, A = some a ∧ w.cell? (a.add j) = some x := fun j x hx => by
  rw [flatMap_one, List.getElem?_map] at hx
  obtain ⟨y, hy, rfl⟩ := Option.map_eq_some_iff.1 hx
  obtain ⟨a, ha, _, hac⟩ := h j y hy
  exact ⟨a, ha, hac⟩
theorem OL.lit0 {α : Type} {B : Nat} {e : TypeId} {f : α → Value} (W : World) (hB : B ≤ W.heap.size) : OL (W.alloc (.cells #[] e)) B e 1 (one f) (.slice (some ⟨W.heap.size, 0, none⟩) 0 0) ([] : List α) :=
  World.ownsRow_lit (base := B) (e := e) (size := 1) W #[] 0 hB (by unfold maxLen; omega) rfl
theorem step_cat {P : Program} {α : Type} {w : World} {B : Nat} {e : TypeId} {size bytes : Nat} {f : α → List Value} {ops : Array Oper} {o : Oper} {a : Act} {K : Act → World → Prop} {Q : Exit → Act → World → Prop} {D : Prop} (hgd : o.guard = none) (s x : Operand) (t : TypeId)
    (ho : o.op = .call { callee := .builtin .append, args := #[s, x], argTypes := #[t, t] }) (E : Elem P t e size bytes) (hf : ∀ x, (f x).length = size) (v : Value) (l : List α) (hs : a.eval s = v) (h : OL w B e size f v l) (A : Option Addr) (m : List α) (k c : Nat) (hk : m.length = k) (hx : a.eval x = .slice A k c) (hc0 : A = none → c = 0)
    (hA : ∀ j x, (m.flatMap f)[j]? = some x → ∃ a, A = some a ∧ w.cell? (a.add j) = some x) (hone : ∀ x ∈ m, ∀ u ∈ f x, u.oneCell' = true) (h63 : l.length + k ≤ maxLen) (hby : (l.length + k) * bytes ≤ 140737488355328) (hB : B ≤ w.heap.size)
    (hk' : ∀ v' w', OL w' B e size f v' (l ++ m) → w.grownBy w' v.ownBlock → Below B w w' → K (a.put o.dst v') w') :
    if Region.wanted o (yielded ops a.tmps) = true then Oper.wp P o a w K Q else D := by
  have hw : Region.wanted o (yielded ops a.tmps) = true := by simp [Region.wanted, hgd]
  rw [if_pos hw]
  obtain ⟨v', w', r1, r2, r3, r4⟩ := h.run_cat (P := P) E o.type hf A m k c hk hc0 hA hone h63 hby hB
  unfold Oper.wp execOp
  simp only [ho, resolve, invoke, builtin, Sem.run_bind, Sem.run_pure, Result.andThen_ok, List.map_toArray, List.map_cons, List.map_nil, hs, hx, r1]
  exact hk' v' w' r2 r3 r4
theorem OL.nilcap {w : World} {B : Nat} {e : TypeId} {α : Type} {f : α → List Value} {A : Option Addr} {k c : Nat} {l : List α} {sz : Nat} (h : OL w B e sz f (.slice A k c) l) : A = none → c = 0 := fun e => by
  rcases h.2 with ⟨he, -⟩ | ⟨g, cap, cur, he, -⟩
  · injection he
  · injection he with e1 _ _; rw [e] at e1; cases e1
/-- The blocks that a call has laid are kept apart. -/
theorem DL.reserve {W0 W W' : World} {Z : Nat → Prop} {n d : Nat} {s : DS} (h : DL W0 Z W n d s) (u : Below W.heap.size W W') : DL W0 (fun k => Z k ∨ (W.heap.size ≤ k ∧ k < W'.heap.size)) W' n d s :=
  (h.mono (fun k hk hlt => by rcases hk with hk | hk; exact hk; omega)).quiet (Turns.of_below u)
theorem JL.reserve {W0 W W' : World} {Z : Nat → Prop} {n d j : Nat} {s : DS} {t : TS} {brk : Bool} (h : JL W0 Z W n d s j t brk) (u : Below W.heap.size W W') : JL W0 (fun k => Z k ∨ (W.heap.size ≤ k ∧ k < W'.heap.size)) W' n d s j t brk :=
  (h.mono (fun k hk hlt => by rcases hk with hk | hk; exact hk; omega)).quiet (Turns.of_below u)
theorem reserve_lt {W W' : World} {Z : Nat → Prop} (hZ : ∀ k, Z k → k < W.heap.size) (hs : W.heap.size ≤ W'.heap.size) : ∀ k, (Z k ∨ (W.heap.size ≤ k ∧ k < W'.heap.size)) → k < W'.heap.size := fun k hk => by
  rcases hk with hk | hk
  · have := hZ k hk; omega
  · exact hk.2
theorem crash_D {W0 W : World} {Z : Nat → Prop} {n d : Nat} {s : DS} (h : DL W0 Z W n d s) (A : Option Addr) (keep : List Int) (kn cap : Nat) (hkn : keep.length = kn) (hk : kn ≤ 1000000) (hA : LAt W W.heap.size A iv keep) (torn : Int) (hp : s.pend.length ≤ 1000000) :
    Calls Tryz.prog 30 #[.pointer (some ⟨d, 0, none⟩), .slice A kn cap, .int .i64 torn] W fun e W' => e = .returned (.int .i64 0) ∧ DL W0 Z W' n d (s.crash keep torn) ∧ Turns (fun k => ¬ Z k) W W' := by
  obtain ⟨gd, gv, F, vp, h1, h2, h3⟩ := h
  refine (crash_walk h1 A keep kn cap hkn hk hA torn hp).mono ?_
  rintro e W1 ⟨rfl, ⟨vp', hd⟩, ht⟩
  exact ⟨rfl, ⟨gd, gv, F, vp', hd, h2, h3.then ht (fun k hk => .inr (h2 k hk).1)⟩, ht.mono fun k hk => (h2 k hk).2⟩

/-- Whatever survives a crash, the disk holds the one list or the other. -/
def Sv (n : Nat) (s : DS) (was want : List ByteArray) : Prop := ∀ keep torn, (s.crash keep torn).vis.length = n ∧ ∃ t, loadW (s.crash keep torn).vis TS.zero = some t ∧ (t.recs = was ∨ t.recs = want)
theorem Sv.clean {n : Nat} {s : DS} {t : TS} (hc : Clean n s t) (hg : Good n t) : Sv n s t.recs t.recs := fun keep torn => by
  obtain ⟨h1, h2⟩ := clean_crash hc hg keep torn
  exact ⟨h1, t, h2, .inl rfl⟩
theorem Sv.half {n : Nat} {s : DS} {t : TS} {L : List ByteArray} (hh : Half n s t L) (hg : Good n t) : Sv n s t.recs (t.recs ++ L) := fun keep torn => by
  obtain ⟨h1, h2⟩ := half_crash hh hg keep torn
  refine ⟨h1, ?_⟩
  rcases h2 with h2 | h2
  · exact ⟨t, h2, .inl rfl⟩
  · exact ⟨t.adds L, h2, .inr (adds_recs t L)⟩
theorem recs_le {n : Nat} {t : TS} (h : Good n t) : t.recs.length ≤ n := by
  have h1 := (storeL_le zero32 t.recs h.ok).2
  have h2 := h.size
  have h3 := h.fit
  omega
theorem cut1 {n : Nat} {s : DS} {t : TS} (hc : Clean n s t) (k : Nat) (hk : 0 < k) : Clean n (s.cut (k : Int)) t ∧ (s.cut (k : Int)).left = k ∧ (s.cut (k : Int)).pend = [] := by
  have e : s.cut (k : Int) = { s with off := false, left := k } := by
    unfold DS.cut
    rw [hc.off, if_neg (by decide), if_neg (by omega)]
    simp
    omega
  rw [e]
  exact ⟨⟨rfl, hc.pend, hc.dur, hc.vis⟩, rfl, hc.pend⟩
/-- Open behind a crash. -/
theorem open_after {n : Nat} {s : DS} {was want : List ByteArray} (h : Sv n s was want) (keep : List Int) (torn : Int) :
    ∃ t, openE (s.crash keep torn) = 0 ∧ loadW (s.crash keep torn).vis TS.zero = some t ∧ Clean n (openD (s.crash keep torn)) t ∧ Good n t ∧ (openD (s.crash keep torn)).left = 0 ∧ (t.recs = was ∨ t.recs = want) := by
  obtain ⟨h1, t, h2, h3⟩ := h keep torn
  obtain ⟨r1, r2, r3, r4⟩ := crash_rest s keep torn
  obtain ⟨o1, o2, o3, o4⟩ := open_law r1 r3 r4 r2 h1 h2
  exact ⟨t, o1, h2, o2, o3, o4, h3⟩
end Go.Proofs.YtllmciiadceinaaGreatDoor
