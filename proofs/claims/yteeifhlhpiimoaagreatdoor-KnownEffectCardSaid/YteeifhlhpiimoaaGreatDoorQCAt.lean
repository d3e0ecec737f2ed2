/-
  Slices of elements of several cells that read as a list: opened; a slice of slices of strings. Conditions: an argument is what the row's first reading says.
-/
import Derived.Test.YteeifhlhpiimoaaGreatDoorQAa
namespace Go.Proofs.YteeifhlhpiimoaaGreatDoor
open Go Go.RowKit Go.ChangeShapes Go.WideShapes Go.Deep
def CAt {α : Type} (w : World) (B : Nat) (A : Option Addr) (size : Nat) (f : α → List Value) (l : List α) : Prop :=
  ∀ i x, l[i]? = some x → ∃ a, A = some a ∧ a.block < B ∧ ∀ j v, (f x)[j]? = some v → w.cell? (a.add (i * size + j)) = some v
theorem CAt.below {α : Type} {w w' : World} {B : Nat} {A : Option Addr} {size : Nat} {f : α → List Value} {l : List α} (h : CAt w B A size f l) (hb : Below B w w') : CAt w' B A size f l := fun i x hx => by
  obtain ⟨a, e, hl, hc⟩ := h i x hx
  exact ⟨a, e, hl, fun j v hv => (hb.cell (by rw [addr_add_block]; exact hl)).trans (hc j v hv)⟩
theorem CAt.get {α : Type} {w : World} {B : Nat} {A : Option Addr} {size : Nat} {f : α → List Value} {l : List α} (h : CAt w B A size f l) {i : Nat} (hi : i < l.length) :
    ∃ a, A = some a ∧ a.block < B ∧ ∀ j v, (f l[i])[j]? = some v → w.cell? (a.add (i * size + j)) = some v := h i _ (List.getElem?_eq_getElem hi)
theorem list_choose {α : Type} {p : Nat → α → Prop} : ∀ n, (∀ i, i < n → ∃ y, p i y) → ∃ l : List α, l.length = n ∧ ∀ i y, l[i]? = some y → p i y
  | 0, _ => ⟨[], rfl, fun i y h => by simp at h⟩
  | n + 1, h => by
    obtain ⟨l, hl, hp⟩ := list_choose n (fun i hi => h i (by omega))
    obtain ⟨y, hy⟩ := h n (by omega)
    refine ⟨l ++ [y], by simp [hl], fun i z hz => ?_⟩
    rcases Nat.lt_or_ge i l.length with q | q
    · rw [List.getElem?_append_left q] at hz; exact hp i z hz
    · rw [List.getElem?_append_right q] at hz
      have : i - l.length = 0 := by
        rcases Nat.eq_zero_or_pos (i - l.length) with e | e
        · exact e
        · rw [List.getElem?_eq_none (by show 1 ≤ _; omega)] at hz; cases hz
      rw [this] at hz
      obtain rfl : y = z := by simpa using hz
      rw [show i = n by omega]; exact hy
section
variable {H : Type} {enc : TypeId × Value → H} {P : Program} {W : World} {base : Nat} {sp : Nat → Bool} {held : Bool} {b0 : Nat} {r : Reach}
theorem open_rowsAt {α : Type} (f : α → List Value) (ok : α → Prop) {t e : TypeId} {v : Value} {d : DataW H} {p : List MemPlace} (ht : P.underlying t = some (.slice e)) (size : Nat) (hc : P.cellsOf e = size) (hpos : 0 < size)
    (hop : ∀ n cs x, cs.length = size → DataW.trod enc P W base sp held n e cs = some x → ∃ y, cs = f y ∧ ok y)
    (hv : Value.okWide P W r b0 t v) (h : DataW.Trod enc P W base sp held t v d p) :
    ∃ (A : Option Addr) (l : List α) (cap : Nat), v = .slice A l.length cap ∧ l.length ≤ cap ∧ cap ≤ maxLen ∧ CAt W W.heap.size A size f l ∧ ∀ y ∈ l, ok y := by
  obtain ⟨fuel, hf⟩ := h
  have hcs := open_slice_value ht hv
  rcases open_slice ht hf with ⟨e1, _⟩ | ⟨a, len, cap, m, n, D, Pl, e1, _, hl, hm, hmm, _, hi⟩
  · rw [hcs] at e1
    injection e1 with e1
    exact ⟨none, [], 0, e1, Nat.le_refl _, by unfold maxLen; omega, fun i x hx => by simp at hx, fun s hs => by cases hs⟩
  · rw [hcs] at e1
    injection e1 with e1
    have hlm : len ≤ m := by rw [hmm]; split <;> omega
    obtain ⟨l, hll, hp⟩ := list_choose (p := fun i (y : α) => ok y ∧ ∀ j v, (f y)[j]? = some v → W.cell? (a.add (i * size + j)) = some v) len (fun i hil => by
      obtain ⟨cs, hcc, ht'⟩ := hi i (by omega)
      rw [hc] at hcc
      obtain ⟨_, h2, h3⟩ := World.cells?_some hcc
      obtain ⟨y, rfl, hok⟩ := hop n cs _ h2 ht'
      refine ⟨y, hok, fun j v hj => ?_⟩
      have hjl : j < size := by rw [← h2]; exact (List.getElem?_eq_some_iff.1 hj).1
      have := h3 j hjl
      rw [addr_add_add] at this
      rw [this, hj])
    refine ⟨some a, l, cap, by rw [hll]; exact e1, by omega, hm, fun i x hx => ?_, fun y hy => ?_⟩
    · have hq := hp i x hx
      refine ⟨a, rfl, ?_, hq.2⟩
      have hil : i < len := by rw [← hll]; exact (List.getElem?_eq_some_iff.1 hx).1
      obtain ⟨cs, hcc, _⟩ := hi i (by omega)
      rw [hc] at hcc
      obtain ⟨_, h2, h3⟩ := World.cells?_some hcc
      have := h3 0 hpos
      rw [List.getElem?_eq_getElem (by omega)] at this
      have := cell_lt this
      rwa [addr_add_block, addr_add_block] at this
    · obtain ⟨i, hil, rfl⟩ := List.getElem_of_mem hy
      exact (hp i _ (List.getElem?_eq_getElem hil)).1
end
structure GR where
  A : Option Addr
  l : List ByteArray
  c : Nat
def GR.cells (x : GR) : List Value := [.slice x.A x.l.length x.c]
def GR.ok (W : World) (x : GR) : Prop := x.l.length ≤ x.c ∧ x.c ≤ maxLen ∧ LAt W W.heap.size x.A .string x.l ∧ ∀ s ∈ x.l, s.size ≤ maxLen
end Go.Proofs.YteeifhlhpiimoaaGreatDoor
