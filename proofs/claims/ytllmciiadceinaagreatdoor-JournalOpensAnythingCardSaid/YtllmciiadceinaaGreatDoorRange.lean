/-
  A law for 'for .. := range seq { .. }' over an iterator that may turn blocks of its own between two rounds (a set Z of blocks that it captured) and may lay new ones. Conditions: the statement stands in no round of another loop; the fence is the wide one.
-/
import Derived.RangeFuncNested
import Derived.RangeFuncBound
import Derived.RangeFuncCalls
import Derived.RangeFuncLeaves
import Derived.RangeFuncWrites
import Derived.RangeFuncBox
import Derived.WalkKit
import Derived.OwnWalkIn
namespace Go.Proofs.YtllmciiadceinaaGreatDoor
open Go Go.RowKit

/-- From A to B only blocks of Z have turned, and new ones have come. -/
structure Turns (Z : Nat → Prop) (A B : World) : Prop where
  os : B.os = A.os
  tape : B.tape = A.tape
  output : B.output = A.output
  size : A.heap.size ≤ B.heap.size
  block : ∀ k, k < A.heap.size → ¬ Z k → B.heap[k]? = A.heap[k]?

theorem Turns.refl (Z : Nat → Prop) (A : World) : Turns Z A A := ⟨rfl, rfl, rfl, Nat.le_refl _, fun _ _ _ => rfl⟩
theorem Turns.trans {Z : Nat → Prop} {A B C : World} (h : Turns Z A B) (k : Turns Z B C) : Turns Z A C :=
  ⟨k.os.trans h.os, k.tape.trans h.tape, k.output.trans h.output, Nat.le_trans h.size k.size, fun i hi hz => (k.block i (Nat.lt_of_lt_of_le hi h.size) hz).trans (h.block i hi hz)⟩
theorem Turns.mono {Z Z' : Nat → Prop} {A B : World} (h : Turns Z A B) (hz : ∀ k, Z k → Z' k) : Turns Z' A B :=
  ⟨h.os, h.tape, h.output, h.size, fun k hk hn => h.block k hk (fun e => hn (hz k e))⟩
theorem Turns.alloc {Z : Nat → Prop} (A : World) (o : Obj) : Turns Z A (A.alloc o) := ⟨rfl, rfl, rfl, by simp, fun k hk _ => Below.heap_alloc A o k hk⟩
theorem Turns.setCell {Z : Nat → Prop} (A : World) (p : Addr) (v : Value) (hz : Z p.block) : Turns Z A (A.setCell p v) :=
  ⟨rfl, rfl, rfl, by simp [World.setCell], fun k _ hn => Below.heap_setCell A p v k (fun e => hn (by rw [e]; exact hz))⟩
theorem Turns.putObj {Z : Nat → Prop} (A : World) (l : Nat) (o : Obj) (hz : Z l) : Turns Z A (A.putObj l o) :=
  ⟨rfl, rfl, rfl, by simp, fun k _ hn => World.putObj_heap_other (fun e => hn (by rw [e]; exact hz))⟩
theorem Turns.drew {Z : Nat → Prop} (A : World) : Turns Z A A.drew := ⟨rfl, rfl, rfl, Nat.le_refl _, fun _ _ _ => rfl⟩
theorem Turns.of_below {Z : Nat → Prop} {A B : World} (h : Below A.heap.size A B) : Turns Z A B := ⟨h.os, h.tape, h.output, h.size, fun k hk _ => h.block k hk⟩
theorem Turns.cell {Z : Nat → Prop} {A B : World} (h : Turns Z A B) {p : Addr} (hp : p.block < A.heap.size) (hz : ¬ Z p.block) : B.cell? p = A.cell? p := World.cell?_of_block (w := A) (h.block p.block hp hz)
theorem Turns.frozen {Z : Nat → Prop} {A B : World} (h : Turns Z A B) {p : Addr} (hp : p.block < A.heap.size) (hz : ¬ Z p.block) : B.frozen? p = A.frozen? p := World.frozen?_of_block (w := A) (h.block p.block hp hz)
theorem Turns.boxed {Z : Nat → Prop} {A B : World} (h : Turns Z A B) {b : Nat} {t : TypeId} {v : Value} (hb : Boxed A b t v) (hz : ¬ Z b) : Boxed B b t v := (h.block b hb.lt hz).trans hb
theorem Turns.below {Z : Nat → Prop} {n : Nat} {w A B : World} (h : Turns Z A B) (hb : Below n w A) (hn : n ≤ w.heap.size) (hz : ∀ k, Z k → n ≤ k) : Below n w B :=
  hb.trans ⟨h.os, h.tape, h.output, h.size, fun k hk => h.block k (Nat.lt_of_lt_of_le hk (Nat.le_trans hn hb.size)) (fun e => by have := hz k e; omega)⟩
theorem Turns.ownsRow {Z : Nat → Prop} {A B : World} (h : Turns Z A B) {base : Nat} {e : TypeId} {size : Nat} {v : Value} {n : Nat} {xs : List Value} (hr : A.ownsRow base e size v n xs) (hz : ∀ k, Z k → k < base) : B.ownsRow base e size v n xs := by
  obtain ⟨h1, h2⟩ := hr
  refine ⟨h1, ?_⟩
  rcases h2 with h2 | ⟨g, cap, cur, hv, hg, hh, r⟩
  · exact Or.inl h2
  · exact Or.inr ⟨g, cap, cur, hv, hg, (h.block g (Array.getElem?_eq_some_iff.1 hh).1 (fun e => by have := hz g e; omega)).trans hh, r⟩

/-- The contract of an iterator that turns blocks of Z alone between two rounds. -/
def IterZ {α : Type} (P : Program) (g : Nat) (lb : Array Value) (encs : α → Array Value) (Z : Nat → Prop) (Kp : World → World → Prop) (S Sp : List α → Prop) (N : Nat) (w : World) : Prop :=
  ∀ (l : Nat) (J Jx : List α → World → Prop) (W : World), Below w.heap.size w W →
    (∀ s A B, J s A → Turns Z A B → J s B) → (∀ s A B, Jx s A → Turns Z A B → Jx s B) →
    (∀ pre x W1, J pre W1 → pre.length < N → YieldAt Fence.wide 1 P l (encs x) W1 fun e W' =>
      (e = .returned (.bool true) ∧ J (pre ++ [x]) W' ∧ Kp W1 W') ∨ (e = .returned (.bool false) ∧ Jx (pre ++ [x]) W')) →
    J [] W →
    CallsIn Fence.wide 2 P g (#[.func (.yield l) #[] #[]] ++ lb) W fun e W' => (∃ v, e = .returned v) ∧ ((∃ xs, S xs ∧ J xs W') ∨ (∃ pre, Sp pre ∧ Jx pre W'))

/-- How the body of a round may be left. -/
def postZ {α : Type} (B : Nat) (Kp : World → World → Prop) (I : List α → World → Prop) (Ix : Code → List α → World → Prop) (xs : List α) (W : World) : Exit → Act → World → Prop
  | .normal, _, W' => KeepsFrom B W W' ∧ Kp W W' ∧ I xs W'
  | .ret, _, W' => KeepsFrom B W W' ∧ Ix .ret xs W'
  | .exit id, _, W' => KeepsFrom B W W' ∧ Ix (.exit id) xs W'
  | .goto t, _, W' => KeepsFrom B W W' ∧ Ix (.goto t) xs W'
  | .panic _, _, _ => False
  | .outgrown, _, _ => False

theorem KeepsFrom.of_below {B : Nat} {W W' : World} (h : Below W.heap.size W W') : KeepsFrom B W W' :=
  ⟨h.size, fun k _ _ hk _ => (h.block k (Array.getElem?_eq_some_iff.1 hk).1).trans hk⟩

/-- The two blocks that the statement lays for itself. -/
def books (w : World) (k : Nat) : Prop := k = w.heap.size ∨ k = w.heap.size + 1

theorem wp_rangeZ {P : Program} {α : Type} {g : Operand} {ps : Array Tmp} {assign body : Code} {Q : Exit → Act → World → Prop} {a : Act} {w : World}
    {gf : Nat} {lb : Array Value} (hg : a.eval g = .func (.func gf) #[] lb) (eg : ∀ args w, (callFunc gf args).run P w = .ok (.enter gf args) w)
    {encs : α → Array Value} {Z : Nat → Prop} {Kp : World → World → Prop} {S Sp : List α → Prop} {N : Nat} {w0 : World} (hseq : IterZ P gf lb encs Z Kp S Sp N w0) (hb0 : Below w0.heap.size w0 w)
    (hZ : ∀ k, Z k → k < w.heap.size) (hps : ∀ x, (encs x).size = ps.size)
    (hKt : ∀ {A B C : World}, Kp A B → Kp B C → Kp A C) (hKb : ∀ (W : World) (o : Obj), Kp W (W.putObj (w.heap.size + 1) o))
    (I : List α → World → Prop) (Ix : Code → List α → World → Prop)
    (hI : ∀ s A B, I s A → Turns (fun k => Z k ∨ books w k) A B → I s B) (hIx : ∀ c s A B, Ix c s A → Turns (fun k => Z k ∨ books w k) A B → Ix c s B) (h0 : I [] w) (a₁ : α → Act)
    (hassign : ∀ (l : Nat) (x : α) (W : World) (K : Act → World → Prop), K (a₁ x) W →
      assign.wpIn (Fence.wide.inRound l) 1 P (Exit.then K (fun _ _ _ => False)) { tmps := (ps.zip (encs x)).foldl (fun t (p, v) => t.setIfInBounds p v) a.tmps, defers := [] } W)
    (hbody : ∀ (l : Nat) (pre : List α) (x : α) (W : World), w.heap.size + 2 ≤ W.heap.size → I pre W → pre.length < N → body.wpIn (Fence.wide.inRound l) 1 P (postZ w.heap.size Kp I Ix (pre ++ [x]) W) (a₁ x) W)
    (hdone : ∀ (xs : List α) (W : World), S xs → I xs W → W.heap[w.heap.size]? = some (.deferred (some [])) → Q .normal { a with defers := { target := .collected w.heap.size, args := #[] } :: a.defers } W)
    (hstop : ∀ (c : Code) (pre : List α) (W : World), Sp pre → Ix c pre W → W.heap[w.heap.size]? = some (.deferred (some [])) → c.wpIn Fence.wide 3 P Q { a with defers := { target := .collected w.heap.size, args := #[] } :: a.defers } W) :
    (Code.rangeFunc g ps assign body).wpIn Fence.wide 3 P Q a w := by
  refine wpIn_rangeFunc fun fn hfn => ?_
  obtain ⟨rc, hrc⟩ : ∃ rc : LoopState → Option Code → Loop, rc = fun st pe => { state := st, pending := pe, fn, tmps := a.tmps, params := ps, assign, body, defers := w.heap.size } := ⟨_, rfl⟩
  obtain ⟨W1, hW1⟩ : ∃ W1, (w.alloc (.deferred (some []))).alloc (.loop (rc .ready none)) = W1 := ⟨_, rfl⟩
  have hsz : W1.heap.size = w.heap.size + 2 := by rw [← hW1]; simp
  have hL1 : W1.heap[w.heap.size + 1]? = some (.loop (rc .ready none)) := by
    have := World.alloc_heap_new (w.alloc (.deferred (some []))) (.loop (rc .ready none)); rw [World.size_alloc] at this; rw [← hW1]; exact this
  have hD1 : W1.heap[w.heap.size]? = some (.deferred (some [])) := by
    rw [← hW1]; exact (Below.heap_alloc _ _ _ (by simp)).trans (World.alloc_heap_new w _)
  have hT1 : Turns (fun k => Z k ∨ books w k) w W1 := by rw [← hW1]; exact (Turns.alloc _ _).trans (Turns.alloc _ _)
  have hb1 : Below w0.heap.size w0 W1 := by
    rw [← hW1]; exact (hb0.alloc hb0.size _).alloc (by have := hb0.size; simp; omega) _
  have hnZ0 : ¬ Z w.heap.size := fun e => by have := hZ _ e; omega
  have hnZ1 : ¬ Z (w.heap.size + 1) := fun e => by have := hZ _ e; omega
  refine ⟨w.heap.size + 1, [{ target := .collected w.heap.size, args := #[] }], W1, { target := .fn (.func gf) lb, args := #[.func (.yield (w.heap.size + 1)) #[] #[]] }, W1, gf,
    #[.func (.yield (w.heap.size + 1)) #[] #[]] ++ lb, W1, ?_, ?_, fun _ _ => trivial, ?_, fun h => by simp [Fence.wide] at h, ?_⟩
  · rw [← hW1, hrc]; exact run_enterLoop_outer _ _ _ _ _
  · simp only [resolve, hg]
    simp [go_sem]
  · simp [invoke, go_sem, eg]
  · refine (hseq (w.heap.size + 1)
      (fun pre W => I pre W ∧ w.heap.size + 2 ≤ W.heap.size ∧ W.heap[w.heap.size + 1]? = some (.loop (rc .ready none)) ∧ W.heap[w.heap.size]? = some (.deferred (some [])))
      (fun pre W => ∃ c, Ix c pre W ∧ w.heap.size + 2 ≤ W.heap.size ∧ W.heap[w.heap.size + 1]? = some (.loop (rc .done (some c))) ∧ W.heap[w.heap.size]? = some (.deferred (some [])))
      W1 hb1
      (fun s A B h t => ⟨hI s A B h.1 (t.mono fun _ e => .inl e), Nat.le_trans h.2.1 t.size, (t.block _ (by omega) hnZ1).trans h.2.2.1, (t.block _ (by omega) hnZ0).trans h.2.2.2⟩)
      (fun s A B h t => by
        obtain ⟨c, hc, hs, hl, hd⟩ := h
        exact ⟨c, hIx c s A B hc (t.mono fun _ e => .inl e), Nat.le_trans hs t.size, (t.block _ (by omega) hnZ1).trans hl, (t.block _ (by omega) hnZ0).trans hd⟩)
      ?_ ⟨hI _ _ _ h0 hT1, by omega, hL1, hD1⟩).mono ?_
    · rintro pre x W ⟨hi, hs, hl, hd⟩ hlen
      have hy := run_yield (P := P) (args := encs x) hl (by rw [hrc]; exact hps x)
      rw [hrc] at hy
      refine ⟨fn, _, assign, body, hy, roundIn_of_wpIn hfn (hassign _ x W _ ⟨_, run_beginRound hl (by rw [hrc]), ?_⟩)⟩
      obtain ⟨W2, hW2⟩ : ∃ W2, W.putObj (w.heap.size + 1) (.loop { rc .ready none with state := .busy }) = W2 := ⟨_, rfl⟩
      have hs2 : w.heap.size + 2 ≤ W2.heap.size := by rw [← hW2]; simpa using hs
      have hl2 : W2.heap[w.heap.size + 1]? = some (.loop { rc .ready none with state := .busy }) := by rw [← hW2]; exact World.putObj_heap_same (by omega)
      have hd2 : W2.heap[w.heap.size]? = some (.deferred (some [])) := by rw [← hW2]; exact (World.putObj_heap_other (by omega)).trans hd
      have hi2 : I pre W2 := by rw [← hW2]; exact hI _ _ _ hi (Turns.putObj _ _ _ (.inr (.inr rfl)))
      have hk2 : Kp W W2 := by rw [← hW2]; exact hKb _ _
      rw [hW2]
      refine wpIn_mono (hbody _ pre x W2 hs2 hi2 hlen) ?_
      have fin : ∀ (jump : Option Code) (W3 : World), KeepsFrom w.heap.size W2 W3 → ∃ W4, W4 = W3.putObj (w.heap.size + 1) (.loop (rc (if jump.isNone then .ready else .done) jump)) ∧
          (Instr.endRound (w.heap.size + 1) jump).run P W3 = .ok (.bool jump.isNone) W4 ∧ Turns (fun k => Z k ∨ books w k) W3 W4 ∧ w.heap.size + 2 ≤ W4.heap.size ∧
          W4.heap[w.heap.size + 1]? = some (.loop (rc (if jump.isNone then .ready else .done) jump)) ∧ W4.heap[w.heap.size]? = some (.deferred (some [])) := by
        intro jump W3 hk
        have hl3 := hk.same _ _ (by omega) hl2 rfl
        have hd3 := hk.same _ _ (by omega) hd2 rfl
        have hs3 := Nat.le_trans hs2 hk.size
        have he := run_endRound (P := P) jump hl3
        rw [hrc] at he ⊢
        exact ⟨_, rfl, he, Turns.putObj _ _ _ (.inr (.inr rfl)), by simpa using hs3, World.putObj_heap_same (by omega), (World.putObj_heap_other (by omega)).trans hd3⟩
      rintro e a3 W3 hp
      cases e with
      | normal =>
        obtain ⟨W4, e4, hr, ht, hs4, hl4, hd4⟩ := fin none W3 hp.1
        exact ⟨_, W4, hr, .inl ⟨rfl, ⟨hI _ _ _ hp.2.2 ht, hs4, hl4, hd4⟩, hKt hk2 (hKt hp.2.1 (by rw [e4]; exact hKb _ _))⟩⟩
      | ret =>
        obtain ⟨W4, _, hr, ht, hs4, hl4, hd4⟩ := fin (some .ret) W3 hp.1
        exact ⟨_, W4, hr, .inr ⟨rfl, .ret, hIx _ _ _ _ hp.2 ht, hs4, hl4, hd4⟩⟩
      | exit id =>
        obtain ⟨W4, _, hr, ht, hs4, hl4, hd4⟩ := fin (some (.exit id)) W3 hp.1
        exact ⟨_, W4, hr, .inr ⟨rfl, .exit id, hIx _ _ _ _ hp.2 ht, hs4, hl4, hd4⟩⟩
      | goto t =>
        obtain ⟨W4, _, hr, ht, hs4, hl4, hd4⟩ := fin (some (.goto t)) W3 hp.1
        exact ⟨_, W4, hr, .inr ⟨rfl, .goto t, hIx _ _ _ _ hp.2 ht, hs4, hl4, hd4⟩⟩
      | panic ch => exact hp.elim
      | outgrown => exact hp.elim
    · rintro e W2 ⟨⟨v, rfl⟩, (⟨xs, hS, hi, hs, hl, hd⟩ | ⟨pre, hSp, c, hi, hs, hl, hd⟩)⟩
      · have he := run_endLoop (P := P) hl (by rw [hrc]; simp)
        rw [hrc] at he
        exact ⟨none, _, he, hdone _ _ hS (hI _ _ _ hi (Turns.putObj _ _ _ (.inr (.inr rfl)))) ((World.putObj_heap_other (by omega)).trans hd)⟩
      · have he := run_endLoop (P := P) hl (by rw [hrc]; simp)
        rw [hrc] at he
        exact ⟨some c, _, he, hstop c pre _ hSp (hIx _ _ _ _ hi (Turns.putObj _ _ _ (.inr (.inr rfl)))) ((World.putObj_heap_other (by omega)).trans hd)⟩


/-- The same where the round's variables are laid anew in every round. -/
theorem wp_rangeZA {P : Program} {α : Type} {g : Operand} {ps : Array Tmp} {assign body : Code} {Q : Exit → Act → World → Prop} {a : Act} {w : World}
    {gf : Nat} {lb : Array Value} (hg : a.eval g = .func (.func gf) #[] lb) (eg : ∀ args w, (callFunc gf args).run P w = .ok (.enter gf args) w)
    {encs : α → Array Value} {Z : Nat → Prop} {Kp : World → World → Prop} {S Sp : List α → Prop} {N : Nat} {w0 : World} (hseq : IterZ P gf lb encs Z Kp S Sp N w0) (hb0 : Below w0.heap.size w0 w)
    (hZ : ∀ k, Z k → k < w.heap.size) (hps : ∀ x, (encs x).size = ps.size)
    (hKt : ∀ {A B C : World}, Kp A B → Kp B C → Kp A C) (hKb : ∀ (W : World) (o : Obj), Kp W (W.putObj (w.heap.size + 1) o))
    (I : List α → World → Prop) (Ix : Code → List α → World → Prop)
    (hI : ∀ s A B, I s A → Turns (fun k => Z k ∨ books w k) A B → I s B) (hIx : ∀ c s A B, Ix c s A → Turns (fun k => Z k ∨ books w k) A B → Ix c s B) (h0 : I [] w) (R : α → Act → World → Prop)
    (hR : ∀ x a' A B, R x a' A → Turns (fun k => Z k ∨ books w k) A B → R x a' B) (hKB : ∀ A B : World, w.heap.size + 2 ≤ A.heap.size → Below A.heap.size A B → Kp A B)
    (hassign : ∀ (l : Nat) (x : α) (W : World) (K : Act → World → Prop), w.heap.size + 2 ≤ W.heap.size → (∀ a' W', R x a' W' → Below W.heap.size W W' → K a' W') →
      assign.wpIn (Fence.wide.inRound l) 1 P (Exit.then K (fun _ _ _ => False)) { tmps := (ps.zip (encs x)).foldl (fun t (p, v) => t.setIfInBounds p v) a.tmps, defers := [] } W)
    (hbody : ∀ (l : Nat) (pre : List α) (x : α) (a' : Act) (W : World), w.heap.size + 2 ≤ W.heap.size → I pre W → R x a' W → pre.length < N → body.wpIn (Fence.wide.inRound l) 1 P (postZ w.heap.size Kp I Ix (pre ++ [x]) W) a' W)
    (hdone : ∀ (xs : List α) (W : World), S xs → I xs W → W.heap[w.heap.size]? = some (.deferred (some [])) → Q .normal { a with defers := { target := .collected w.heap.size, args := #[] } :: a.defers } W)
    (hstop : ∀ (c : Code) (pre : List α) (W : World), Sp pre → Ix c pre W → W.heap[w.heap.size]? = some (.deferred (some [])) → c.wpIn Fence.wide 3 P Q { a with defers := { target := .collected w.heap.size, args := #[] } :: a.defers } W) :
    (Code.rangeFunc g ps assign body).wpIn Fence.wide 3 P Q a w := by
  refine wpIn_rangeFunc fun fn hfn => ?_
  obtain ⟨rc, hrc⟩ : ∃ rc : LoopState → Option Code → Loop, rc = fun st pe => { state := st, pending := pe, fn, tmps := a.tmps, params := ps, assign, body, defers := w.heap.size } := ⟨_, rfl⟩
  obtain ⟨W1, hW1⟩ : ∃ W1, (w.alloc (.deferred (some []))).alloc (.loop (rc .ready none)) = W1 := ⟨_, rfl⟩
  have hsz : W1.heap.size = w.heap.size + 2 := by rw [← hW1]; simp
  have hL1 : W1.heap[w.heap.size + 1]? = some (.loop (rc .ready none)) := by
    have := World.alloc_heap_new (w.alloc (.deferred (some []))) (.loop (rc .ready none)); rw [World.size_alloc] at this; rw [← hW1]; exact this
  have hD1 : W1.heap[w.heap.size]? = some (.deferred (some [])) := by
    rw [← hW1]; exact (Below.heap_alloc _ _ _ (by simp)).trans (World.alloc_heap_new w _)
  have hT1 : Turns (fun k => Z k ∨ books w k) w W1 := by rw [← hW1]; exact (Turns.alloc _ _).trans (Turns.alloc _ _)
  have hb1 : Below w0.heap.size w0 W1 := by
    rw [← hW1]; exact (hb0.alloc hb0.size _).alloc (by have := hb0.size; simp; omega) _
  have hnZ0 : ¬ Z w.heap.size := fun e => by have := hZ _ e; omega
  have hnZ1 : ¬ Z (w.heap.size + 1) := fun e => by have := hZ _ e; omega
  refine ⟨w.heap.size + 1, [{ target := .collected w.heap.size, args := #[] }], W1, { target := .fn (.func gf) lb, args := #[.func (.yield (w.heap.size + 1)) #[] #[]] }, W1, gf,
    #[.func (.yield (w.heap.size + 1)) #[] #[]] ++ lb, W1, ?_, ?_, fun _ _ => trivial, ?_, fun h => by simp [Fence.wide] at h, ?_⟩
  · rw [← hW1, hrc]; exact run_enterLoop_outer _ _ _ _ _
  · simp only [resolve, hg]
    simp [go_sem]
  · simp [invoke, go_sem, eg]
  · refine (hseq (w.heap.size + 1)
      (fun pre W => I pre W ∧ w.heap.size + 2 ≤ W.heap.size ∧ W.heap[w.heap.size + 1]? = some (.loop (rc .ready none)) ∧ W.heap[w.heap.size]? = some (.deferred (some [])))
      (fun pre W => ∃ c, Ix c pre W ∧ w.heap.size + 2 ≤ W.heap.size ∧ W.heap[w.heap.size + 1]? = some (.loop (rc .done (some c))) ∧ W.heap[w.heap.size]? = some (.deferred (some [])))
      W1 hb1
      (fun s A B h t => ⟨hI s A B h.1 (t.mono fun _ e => .inl e), Nat.le_trans h.2.1 t.size, (t.block _ (by omega) hnZ1).trans h.2.2.1, (t.block _ (by omega) hnZ0).trans h.2.2.2⟩)
      (fun s A B h t => by
        obtain ⟨c, hc, hs, hl, hd⟩ := h
        exact ⟨c, hIx c s A B hc (t.mono fun _ e => .inl e), Nat.le_trans hs t.size, (t.block _ (by omega) hnZ1).trans hl, (t.block _ (by omega) hnZ0).trans hd⟩)
      ?_ ⟨hI _ _ _ h0 hT1, by omega, hL1, hD1⟩).mono ?_
    · rintro pre x W ⟨hi, hs, hl, hd⟩ hlen
      have hy := run_yield (P := P) (args := encs x) hl (by rw [hrc]; exact hps x)
      rw [hrc] at hy
      refine ⟨fn, _, assign, body, hy, roundIn_of_wpIn hfn (hassign _ x W _ hs (fun a' W' hRa hbW => ?_))⟩
      have hl' : W'.heap[w.heap.size + 1]? = some (.loop (rc .ready none)) := (hbW.block _ (by omega)).trans hl
      have hd' : W'.heap[w.heap.size]? = some (.deferred (some [])) := (hbW.block _ (by omega)).trans hd
      have hsW := hbW.size
      refine ⟨_, run_beginRound hl' (by rw [hrc]), ?_⟩
      obtain ⟨W2, hW2⟩ : ∃ W2, W'.putObj (w.heap.size + 1) (.loop { rc .ready none with state := .busy }) = W2 := ⟨_, rfl⟩
      have hs2 : w.heap.size + 2 ≤ W2.heap.size := by rw [← hW2]; simp; omega
      have hl2 : W2.heap[w.heap.size + 1]? = some (.loop { rc .ready none with state := .busy }) := by rw [← hW2]; exact World.putObj_heap_same (by omega)
      have hd2 : W2.heap[w.heap.size]? = some (.deferred (some [])) := by rw [← hW2]; exact (World.putObj_heap_other (by omega)).trans hd'
      have hi2 : I pre W2 := by rw [← hW2]; exact hI _ _ _ (hI _ _ _ hi (Turns.of_below hbW)) (Turns.putObj _ _ _ (.inr (.inr rfl)))
      have hR2 : R x a' W2 := by rw [← hW2]; exact hR _ _ _ _ hRa (Turns.putObj _ _ _ (.inr (.inr rfl)))
      have hk2 : Kp W W2 := by rw [← hW2]; exact hKt (hKB _ _ hs hbW) (hKb _ _)
      rw [hW2]
      refine wpIn_mono (hbody _ pre x a' W2 hs2 hi2 hR2 hlen) ?_
      have fin : ∀ (jump : Option Code) (W3 : World), KeepsFrom w.heap.size W2 W3 → ∃ W4, W4 = W3.putObj (w.heap.size + 1) (.loop (rc (if jump.isNone then .ready else .done) jump)) ∧
          (Instr.endRound (w.heap.size + 1) jump).run P W3 = .ok (.bool jump.isNone) W4 ∧ Turns (fun k => Z k ∨ books w k) W3 W4 ∧ w.heap.size + 2 ≤ W4.heap.size ∧
          W4.heap[w.heap.size + 1]? = some (.loop (rc (if jump.isNone then .ready else .done) jump)) ∧ W4.heap[w.heap.size]? = some (.deferred (some [])) := by
        intro jump W3 hk
        have hl3 := hk.same _ _ (by omega) hl2 rfl
        have hd3 := hk.same _ _ (by omega) hd2 rfl
        have hs3 := Nat.le_trans hs2 hk.size
        have he := run_endRound (P := P) jump hl3
        rw [hrc] at he ⊢
        exact ⟨_, rfl, he, Turns.putObj _ _ _ (.inr (.inr rfl)), by simpa using hs3, World.putObj_heap_same (by omega), (World.putObj_heap_other (by omega)).trans hd3⟩
      rintro e a3 W3 hp
      cases e with
      | normal =>
        obtain ⟨W4, e4, hr, ht, hs4, hl4, hd4⟩ := fin none W3 hp.1
        exact ⟨_, W4, hr, .inl ⟨rfl, ⟨hI _ _ _ hp.2.2 ht, hs4, hl4, hd4⟩, hKt hk2 (hKt hp.2.1 (by rw [e4]; exact hKb _ _))⟩⟩
      | ret =>
        obtain ⟨W4, _, hr, ht, hs4, hl4, hd4⟩ := fin (some .ret) W3 hp.1
        exact ⟨_, W4, hr, .inr ⟨rfl, .ret, hIx _ _ _ _ hp.2 ht, hs4, hl4, hd4⟩⟩
      | exit id =>
        obtain ⟨W4, _, hr, ht, hs4, hl4, hd4⟩ := fin (some (.exit id)) W3 hp.1
        exact ⟨_, W4, hr, .inr ⟨rfl, .exit id, hIx _ _ _ _ hp.2 ht, hs4, hl4, hd4⟩⟩
      | goto t =>
        obtain ⟨W4, _, hr, ht, hs4, hl4, hd4⟩ := fin (some (.goto t)) W3 hp.1
        exact ⟨_, W4, hr, .inr ⟨rfl, .goto t, hIx _ _ _ _ hp.2 ht, hs4, hl4, hd4⟩⟩
      | panic ch => exact hp.elim
      | outgrown => exact hp.elim
    · rintro e W2 ⟨⟨v, rfl⟩, (⟨xs, hS, hi, hs, hl, hd⟩ | ⟨pre, hSp, c, hi, hs, hl, hd⟩)⟩
      · have he := run_endLoop (P := P) hl (by rw [hrc]; simp)
        rw [hrc] at he
        exact ⟨none, _, he, hdone _ _ hS (hI _ _ _ hi (Turns.putObj _ _ _ (.inr (.inr rfl)))) ((World.putObj_heap_other (by omega)).trans hd)⟩
      · have he := run_endLoop (P := P) hl (by rw [hrc]; simp)
        rw [hrc] at he
        exact ⟨some c, _, he, hstop c pre _ hSp (hIx _ _ _ _ hi (Turns.putObj _ _ _ (.inr (.inr rfl)))) ((World.putObj_heap_other (by omega)).trans hd)⟩

/-- The same where the round's variables are one new block. -/
theorem wp_rangeZB {P : Program} {α : Type} {g : Operand} {ps : Array Tmp} {assign body : Code} {Q : Exit → Act → World → Prop} {a : Act} {w : World}
    {gf : Nat} {lb : Array Value} (hg : a.eval g = .func (.func gf) #[] lb) (eg : ∀ args w, (callFunc gf args).run P w = .ok (.enter gf args) w)
    {encs : α → Array Value} {Z : Nat → Prop} {Kp : World → World → Prop} {S Sp : List α → Prop} {N : Nat} {w0 : World} (hseq : IterZ P gf lb encs Z Kp S Sp N w0) (hb0 : Below w0.heap.size w0 w)
    (hZ : ∀ k, Z k → k < w.heap.size) (hps : ∀ x, (encs x).size = ps.size)
    (hKt : ∀ {A B C : World}, Kp A B → Kp B C → Kp A C) (hKb : ∀ (W : World) (o : Obj), Kp W (W.putObj (w.heap.size + 1) o))
    (I : List α → World → Prop) (Ix : Code → List α → World → Prop)
    (hI : ∀ s A B, I s A → Turns (fun k => Z k ∨ books w k) A B → I s B) (hIx : ∀ c s A B, Ix c s A → Turns (fun k => Z k ∨ books w k) A B → Ix c s B) (h0 : I [] w)
    (F : Nat → α → Act) (Rw : Nat → α → World → Prop) (hRw : ∀ b x A B, w.heap.size + 2 ≤ b → b < A.heap.size → Rw b x A → Turns (fun k => Z k ∨ books w k) A B → Rw b x B)
    (hKB : ∀ A B : World, w.heap.size + 2 ≤ A.heap.size → Below A.heap.size A B → Kp A B)
    (hassign : ∀ (l : Nat) (x : α) (W : World) (b : Nat) (K : Act → World → Prop), W.heap.size = b → w.heap.size + 2 ≤ b → (∀ W', Rw b x W' → Below b W W' → W'.heap.size = b + 1 → K (F b x) W') →
      assign.wpIn (Fence.wide.inRound l) 1 P (Exit.then K (fun _ _ _ => False)) { tmps := (ps.zip (encs x)).foldl (fun t (p, v) => t.setIfInBounds p v) a.tmps, defers := [] } W)
    (hbody : ∀ (l : Nat) (pre : List α) (x : α) (b : Nat) (W : World), w.heap.size + 2 ≤ b → b < W.heap.size → I pre W → Rw b x W → pre.length < N → body.wpIn (Fence.wide.inRound l) 1 P (postZ w.heap.size Kp I Ix (pre ++ [x]) W) (F b x) W)
    (hdone : ∀ (xs : List α) (W : World), S xs → I xs W → W.heap[w.heap.size]? = some (.deferred (some [])) → Q .normal { a with defers := { target := .collected w.heap.size, args := #[] } :: a.defers } W)
    (hstop : ∀ (c : Code) (pre : List α) (W : World), Sp pre → Ix c pre W → W.heap[w.heap.size]? = some (.deferred (some [])) → c.wpIn Fence.wide 3 P Q { a with defers := { target := .collected w.heap.size, args := #[] } :: a.defers } W) :
    (Code.rangeFunc g ps assign body).wpIn Fence.wide 3 P Q a w := by
  refine wp_rangeZA hg eg hseq hb0 hZ hps hKt hKb I Ix hI hIx h0 (fun x a' W => ∃ b, a' = F b x ∧ w.heap.size + 2 ≤ b ∧ b < W.heap.size ∧ Rw b x W) ?_ hKB ?_ ?_ hdone hstop
  · rintro x a' A B ⟨b, e, h1, h2, h3⟩ ht
    exact ⟨b, e, h1, Nat.lt_of_lt_of_le h2 ht.size, hRw b x A B h1 h2 h3 ht⟩
  · intro l x W K hs hK
    exact hassign l x W W.heap.size K rfl hs (fun W' h1 h2 h3 => hK _ W' ⟨_, rfl, hs, by omega, h1⟩ h2)
  · rintro l pre x a' W hs hi ⟨b, rfl, h1, h2, h3⟩ hl
    exact hbody l pre x b W h1 h2 hi h3 hl

end Go.Proofs.YtllmciiadceinaaGreatDoor
