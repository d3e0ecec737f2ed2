/-
  The law's fits; slices of records that came in. Conditions: each contract's own.
-/
import Derived.Test.YtmpjoncemgangaaDiskLawNil
import Derived.Deep.Slices
import Derived.Deep.Fields
namespace Go.Proofs.Ytmpjoncemgangaa
open Go Go.RowKit Go.Shelf Go.Sort Go.ChangeShapes Go.WideShapes Go.Deep

/-- A slice of records that came in: an element x as the cells f x. -/
def CAt {α : Type} (w : World) (B : Nat) (A : Option Addr) (size : Nat) (f : α → List Value) (l : List α) : Prop :=
  ∀ i x, l[i]? = some x → ∃ a, A = some a ∧ a.block < B ∧ ∀ j v, (f x)[j]? = some v → w.cell? (a.add (i * size + j)) = some v
theorem CAt.below {α : Type} {w w' : World} {B : Nat} {A : Option Addr} {size : Nat} {f : α → List Value} {l : List α} (h : CAt w B A size f l) (hb : Below B w w') : CAt w' B A size f l := fun i x hx => by
  obtain ⟨a, e, hl, hc⟩ := h i x hx
  exact ⟨a, e, hl, fun j v hv => (hb.cell (by rw [addr_add_block]; exact hl)).trans (hc j v hv)⟩
theorem CAt.get {α : Type} {w : World} {B : Nat} {A : Option Addr} {size : Nat} {f : α → List Value} {l : List α} (h : CAt w B A size f l) {i : Nat} (hi : i < l.length) :
    ∃ a, A = some a ∧ a.block < B ∧ ∀ j v, (f l[i])[j]? = some v → w.cell? (a.add (i * size + j)) = some v := h i _ (List.getElem?_eq_getElem hi)
theorem list_choose {α : Type} {p : Nat → α → Prop} : ∀ n, (∀ i, i < n → ∃ y, p i y) → ∃ l : List α, l.length = n ∧ ∀ i y, l[i]? = some y → p i y
  | 0, _ => ⟨[], rfl, fun i y h => by simp at h⟩
  | n + 1, h => by
    obtain ⟨l, hl, hp⟩ := list_choose n (fun i hi => h i (by omega))
    obtain ⟨y, hy⟩ := h n (by omega)
    refine ⟨l ++ [y], by simp [hl], fun i z hz => ?_⟩
    rcases Nat.lt_or_ge i l.length with q | q
    · rw [List.getElem?_append_left q] at hz; exact hp i z hz
    · rw [List.getElem?_append_right q] at hz
      have : i - l.length = 0 := by
        rcases Nat.eq_zero_or_pos (i - l.length) with e | e
        · exact e
        · rw [List.getElem?_eq_none (by show 1 ≤ _; omega)] at hz; cases hz
      rw [this] at hz
      obtain rfl : y = z := by simpa using hz
      rw [show i = n by omega]; exact hy
section
variable {H : Type} {enc : TypeId × Value → H} {P : Program} {W : World} {base : Nat} {sp : Nat → Bool} {held : Bool} {b0 : Nat} {r : Reach}
theorem open_rowsAt {α : Type} (f : α → List Value) (ok : α → Prop) {t e : TypeId} {v : Value} {d : DataW H} {p : List MemPlace} (ht : P.underlying t = some (.slice e)) (size : Nat) (hc : P.cellsOf e = size) (hpos : 0 < size)
    (hop : ∀ n cs x, cs.length = size → DataW.trod enc P W base sp held n e cs = some x → ∃ y, cs = f y ∧ ok y)
    (hv : Value.okWide P W r b0 t v) (h : DataW.Trod enc P W base sp held t v d p) :
    ∃ (A : Option Addr) (l : List α) (cap : Nat), v = .slice A l.length cap ∧ l.length ≤ cap ∧ cap ≤ maxLen ∧ CAt W W.heap.size A size f l ∧ ∀ y ∈ l, ok y := by
  obtain ⟨fuel, hf⟩ := h
  have hcs := open_slice_value ht hv
  rcases open_slice ht hf with ⟨e1, _⟩ | ⟨a, len, cap, m, n, D, Pl, e1, _, hl, hm, hmm, _, hi⟩
  · rw [hcs] at e1
    injection e1 with e1
    exact ⟨none, [], 0, e1, Nat.le_refl _, by unfold maxLen; omega, fun i x hx => by simp at hx, fun s hs => by cases hs⟩
  · rw [hcs] at e1
    injection e1 with e1
    have hlm : len ≤ m := by rw [hmm]; split <;> omega
    obtain ⟨l, hll, hp⟩ := list_choose (p := fun i (y : α) => ok y ∧ ∀ j v, (f y)[j]? = some v → W.cell? (a.add (i * size + j)) = some v) len (fun i hil => by
      obtain ⟨cs, hcc, ht'⟩ := hi i (by omega)
      rw [hc] at hcc
      obtain ⟨_, h2, h3⟩ := World.cells?_some hcc
      obtain ⟨y, rfl, hok⟩ := hop n cs _ h2 ht'
      refine ⟨y, hok, fun j v hj => ?_⟩
      have hjl : j < size := by rw [← h2]; exact (List.getElem?_eq_some_iff.1 hj).1
      have := h3 j hjl
      rw [addr_add_add] at this
      rw [this, hj])
    refine ⟨some a, l, cap, by rw [hll]; exact e1, by omega, hm, fun i x hx => ?_, fun y hy => ?_⟩
    · have hq := hp i x hx
      refine ⟨a, rfl, ?_, hq.2⟩
      have hil : i < len := by rw [← hll]; exact (List.getElem?_eq_some_iff.1 hx).1
      obtain ⟨cs, hcc, _⟩ := hi i (by omega)
      rw [hc] at hcc
      obtain ⟨_, h2, h3⟩ := World.cells?_some hcc
      have := h3 0 hpos
      rw [List.getElem?_eq_getElem (by omega)] at this
      have := cell_lt this
      rwa [addr_add_block, addr_add_block] at this
    · obtain ⟨i, hil, rfl⟩ := List.getElem_of_mem hy
      exact (hp i _ (List.getElem?_eq_getElem hil)).1
end

/-- A WriteParams: its cells. -/
structure WR where
  off : Int
  s : ByteArray
  sync : Bool
def WR.cells (x : WR) : List Value := [.int .i64 x.off, .string x.s, .bool x.sync]
def WR.ok (x : WR) : Prop := -9223372036854775808 ≤ x.off ∧ x.off ≤ 9223372036854775807 ∧ x.s.size ≤ maxLen
set_option maxRecDepth 100000 in
theorem open_writesAt {H : Type} {enc : TypeId × Value → H} {W : World} {base : Nat} {sp : Nat → Bool} {held : Bool} {b0 : Nat} {r : Reach} {v : Value} {d : DataW H} {p : List MemPlace}
    (hv : Value.okWide Try.prog W r b0 51 v) (h : DataW.Trod enc Try.prog W base sp held 51 v d p) :
    ∃ (A : Option Addr) (l : List WR) (cap : Nat), v = .slice A l.length cap ∧ l.length ≤ cap ∧ cap ≤ maxLen ∧ CAt W W.heap.size A 3 WR.cells l ∧ ∀ y ∈ l, y.ok := by
  refine open_rowsAt WR.cells WR.ok Try.underlying51 3 (by kernel_rfl) (by decide) (fun n cs x hl ht => ?_) hv h
  obtain ⟨ys, m, _, _, _, hyl, hf⟩ := DataW.trod_struct Try.underlying53 ht
  match cs, hl with
  | [c0, c1, c2], _ =>
    have h0 := hf 0 _ rfl
    have h1 := hf 1 _ rfl
    have h2 := hf 2 _ rfl
    match ys, hyl with
    | [y0, y1, y2], _ =>
      obtain ⟨z, e0, _, w0⟩ := DataW.trod_int Try.underlying3 (x := y0) (cs := [c0]) h0
      obtain ⟨s, e1, _, w1⟩ := DataW.trod_string Try.underlying9 (x := y1) (cs := [c1]) h1
      obtain ⟨b, e2, _⟩ := DataW.trod_bool Try.underlying4 (x := y2) (cs := [c2]) h2
      simp only [List.cons.injEq, and_true] at e0 e1 e2
      subst e0 e1 e2
      exact ⟨⟨z, s, b⟩, rfl, (bounds_i64 w0).1, (bounds_i64 w0).2, w1⟩

set_option maxRecDepth 100000 in
set_option maxHeartbeats 4000000 in
theorem fits_walk (W : World) (o : Int) (s : ByteArray) (b : Bool) (n p : Nat) (h1 : -9223372036854775808 ≤ o) (h2 : o ≤ 9223372036854775807) (hs : s.size ≤ 9223372036854775807) (hn : n ≤ 4194304) (hp : pickZ o ((n + 1 : Nat) : Int) = (p : Int)) :
    Calls Try.prog 26 #[.agg #[.int .i64 o, .string s, .bool b], .int .i64 n] W fun e W' => e = .returned (.agg #[.int .i64 p, .string (lcut s (n - p)), .bool b]) ∧ Below W.heap.size W W' := by
  have hpr := pickZ_range o (n := ((n + 1 : Nat) : Int)) (by omega)
  rw [hp] at hpr
  have w1 : IntKind.i64.wrap ((n : Int) + 1) = ((n + 1 : Nat) : Int) := by rw [IntKind.wrap_i64]; omega
  have w2 : IntKind.i64.wrap ((n : Int) - (p : Int)) = ((n - p : Nat) : Int) := by rw [IntKind.wrap_i64]; omega
  have HP := Lib.hid (pick_walk (x := o) (n := ((n + 1 : Nat) : Int)) · h1 h2 (by omega) (by omega))
  rw [hp] at HP
  have HC := Lib.hid (lcut_walk · s (n - p) hs)
  clear hp hpr
  go_enter Try.func26, Try.ntmps26
  go_wp2_with (first
    | (go_at_call 15; refine (HP.out _).mono ?_; rintro e W2 ⟨rfl, rfl⟩)
    | (go_at_call 22; refine (HC.out _).mono ?_; rintro e W2 ⟨rfl, rfl⟩)
    | fail)
  refine bodyPost_ret (results_cell_mid (b := W.heap.size + 1) rfl _ _ [.int .i64 (p : Int), .string (lcut s (n - p)), .bool b] _ rfl (fun j v hv => ?_) Try.underlying53 rfl (by kernel_rfl)) rfl ⟨rfl, ((Below.refl _ _).alloc (Nat.le_refl _) _).alloc (by simp) _⟩
  match j, hv with
  | 0, hv => simpa using hv
  | 1, hv => simpa using hv
  | 2, hv => simpa using hv

/-- A variable of type WriteParams. -/
structure RecAt (W : World) (w p : Nat) (x : ByteArray) (b : Bool) : Prop where
  lt : w < W.heap.size
  c0 : W.cell? ⟨w, 0, none⟩ = some (.int .i64 (p : Int))
  c1 : W.cell? ⟨w, 1, none⟩ = some (.string x)
  c2 : W.cell? ⟨w, 2, none⟩ = some (.bool b)
theorem RecAt.turns {W W' : World} {w p : Nat} {x : ByteArray} {b : Bool} {Z : Nat → Prop} (h : RecAt W w p x b) (t : Turns Z W W') (hz : ¬ Z w) : RecAt W' w p x b :=
  ⟨Nat.lt_of_lt_of_le h.lt t.size, (t.cell (p := ⟨w, 0, none⟩) h.lt hz).trans h.c0, (t.cell (p := ⟨w, 1, none⟩) h.lt hz).trans h.c1, (t.cell (p := ⟨w, 2, none⟩) h.lt hz).trans h.c2⟩
theorem RAt.turns {W W' : World} {g : Nat} {α : Type} {f : α → Value} {l : List α} {Z : Nat → Prop} (h : RAt W g f l) (t : Turns Z W W') (hz : ¬ Z g) : RAt W' g f l :=
  ⟨Nat.lt_of_lt_of_le h.lt t.size, fun i x hx => (t.cell (p := ⟨g, i, none⟩) h.lt hz).trans (h.cell i x hx), fun i hi => (t.frozen (p := ⟨g, i, none⟩) h.lt hz).trans (h.free i hi)⟩
theorem Below.to_turns {Z : Nat → Prop} {A B : World} (h : Below A.heap.size A B) : Turns Z A B := Turns.of_below h

end Go.Proofs.Ytmpjoncemgangaa
