/-
  A slice of one-celled elements that reads as a list, nil let in. Conditions: an argument of the row's own is what the row's first reading says.
-/
import Derived.Test.YtllmciiadceinaaGreatDoorRow
import Derived.ChangeSlices
import Derived.Deep.Strs
import Derived.Deep.Draws
namespace Go.Proofs.YtllmciiadceinaaGreatDoor
open Go Go.RowKit Go.ChangeShapes Go.WideShapes

/-- The slice at A shows the list l, an element x as the value f x, below block B. -/
def LAt {α : Type} (w : World) (B : Nat) (A : Option Addr) (f : α → Value) (l : List α) : Prop :=
  ∀ i x, l[i]? = some x → ∃ a, A = some a ∧ a.block < B ∧ w.cell? (a.add i) = some (f x)

theorem addr_add_block (a : Addr) (n : Nat) : (a.add n).block = a.block := by unfold Addr.add; split <;> rfl
theorem addr_add_add (a : Addr) (i j : Nat) : (a.add i).add j = a.add (i + j) := by
  unfold Addr.add
  by_cases hi : i = 0 <;> by_cases hj : j = 0 <;> simp [hi, hj, Nat.add_assoc]
theorem cell_lt {w : World} {a : Addr} {v : Value} (h : w.cell? a = some v) : a.block < w.heap.size := by
  rcases Nat.lt_or_ge a.block w.heap.size with h1 | h1
  · exact h1
  · simp [World.cell?, Array.getElem?_eq_none h1] at h

section
variable {α : Type} {w w' : World} {B B' : Nat} {A : Option Addr} {f : α → Value} {l : List α}
theorem LAt.nil : LAt w B A f ([] : List α) := fun i x h => by simp at h
theorem LAt.get (h : LAt w B A f l) {i : Nat} (hi : i < l.length) : ∃ a, A = some a ∧ a.block < B ∧ w.cell? (a.add i) = some (f l[i]) := h i _ (List.getElem?_eq_getElem hi)
theorem LAt.below (h : LAt w B A f l) (hb : Below B w w') : LAt w' B A f l := fun i x hx => by
  obtain ⟨a, e, hl, hc⟩ := h i x hx
  exact ⟨a, e, hl, (hb.cell (by rw [addr_add_block]; exact hl)).trans hc⟩
theorem LAt.more (h : LAt w B A f l) (hB : B ≤ B') : LAt w B' A f l := fun i x hx => by
  obtain ⟨a, e, hl, hc⟩ := h i x hx
  exact ⟨a, e, by omega, hc⟩
theorem LAt.drewN (h : LAt w B A f l) (n : Nat) : LAt (w.drewN n) B A f l := h
theorem LAt.take (h : LAt w B A f l) (k : Nat) : LAt w B A f (l.take k) := fun i x hx => by
  rw [List.getElem?_take] at hx
  split at hx
  · exact h i x hx
  · cases hx
theorem LAt.drop (h : LAt w B A f l) (k : Nat) : LAt w B (A.map (·.add k)) f (l.drop k) := fun i x hx => by
  rw [List.getElem?_drop] at hx
  obtain ⟨a, rfl, hl, hc⟩ := h _ x hx
  exact ⟨a.add k, rfl, by rw [addr_add_block]; exact hl, by rw [addr_add_add]; exact hc⟩
end

section
variable {H : Type} {enc : TypeId × Value → H} {P : Program} {W : World} {base : Nat} {sp : Nat → Bool} {held : Bool} {b0 : Nat} {r : Reach}

theorem open_slice_value {t e : TypeId} {v : Value} (ht : P.underlying t = some (.slice e)) (h : Value.okWide P W r b0 t v) : v.cells.toList = [v] := by
  obtain ⟨a, l, c, rfl⟩ := okWide_slice ht h; rfl
theorem open_strsAt {t e : TypeId} {v : Value} {d : DataW H} {p : List MemPlace} (ht : P.underlying t = some (.slice e)) (he : P.underlying e = some .string) (hc : P.cellsOf e = 1)
    (hv : Value.okWide P W r b0 t v) (h : DataW.Trod enc P W base sp held t v d p) :
    ∃ (A : Option Addr) (l : List ByteArray) (cap : Nat), v = .slice A l.length cap ∧ l.length ≤ cap ∧ cap ≤ maxLen ∧ LAt W W.heap.size A .string l ∧ ∀ s ∈ l, s.size ≤ maxLen := by
  obtain ⟨fuel, hf⟩ := h
  have hcs := open_slice_value ht hv
  rcases Deep.open_strs ht he hc hf with ⟨e1, _⟩ | ⟨a, len, cap, m, Sx, e1, _, hl, hm, hmm, _, hx⟩
  · rw [hcs] at e1
    injection e1 with e1
    exact ⟨none, [], 0, e1, Nat.le_refl _, by unfold maxLen; omega, LAt.nil, fun s hs => by cases hs⟩
  · rw [hcs] at e1
    injection e1 with e1
    have hlm : len ≤ m := by rw [hmm]; split <;> omega
    refine ⟨some a, (List.range len).map Sx, cap, by simpa using e1, by simpa using hl, hm, fun i x hi => ?_, fun s hs => ?_⟩
    · rw [List.getElem?_map] at hi
      have hi2 : i < len := by
        rcases Nat.lt_or_ge i len with q | q
        · exact q
        · rw [List.getElem?_eq_none (by simpa using q)] at hi; cases hi
      rw [List.getElem?_range hi2] at hi
      cases hi
      have := (hx i (by omega)).1
      exact ⟨a, rfl, by have := cell_lt this; rwa [addr_add_block] at this, this⟩
    · obtain ⟨i, hi, rfl⟩ := List.mem_map.1 hs
      exact (hx i (by have := List.mem_range.1 hi; omega)).2
theorem open_intsAt {t e : TypeId} {v : Value} {d : DataW H} {p : List MemPlace} (ht : P.underlying t = some (.slice e)) (he : P.underlying e = some (.int .i64)) (hc : P.cellsOf e = 1)
    (hv : Value.okWide P W r b0 t v) (h : DataW.Trod enc P W base sp held t v d p) :
    ∃ (A : Option Addr) (l : List Int) (cap : Nat), v = .slice A l.length cap ∧ l.length ≤ cap ∧ cap ≤ maxLen ∧ LAt W W.heap.size A (.int .i64) l ∧ ∀ n ∈ l, -9223372036854775808 ≤ n ∧ n ≤ 9223372036854775807 := by
  obtain ⟨fuel, hf⟩ := h
  have hcs := open_slice_value ht hv
  rcases open_ints ht he hc hf with ⟨e1, _⟩ | ⟨a, len, cap, zs, e1, _, hl, hm, hz, _, hx, hw⟩
  · rw [hcs] at e1
    injection e1 with e1
    exact ⟨none, [], 0, e1, Nat.le_refl _, by unfold maxLen; omega, LAt.nil, fun s hs => by cases hs⟩
  · rw [hcs] at e1
    injection e1 with e1
    have hlm : len ≤ zs.length := by rw [hz]; split <;> omega
    have hlen : (zs.take len).length = len := by simp; omega
    refine ⟨some a, zs.take len, cap, by rw [hlen]; exact e1, by omega, hm, fun i x hi => ?_, fun n hn => ?_⟩
    · rw [List.getElem?_take] at hi
      split at hi
      · have hi3 : i < zs.length := by omega
        have := hx i hi3
        rw [List.getD_eq_getElem?_getD, hi] at this
        exact ⟨a, rfl, by have := cell_lt this; rwa [addr_add_block] at this, this⟩
      · cases hi
    · exact bounds_i64 (hw n (List.mem_of_mem_take hn))
end

end Go.Proofs.YtllmciiadceinaaGreatDoor
