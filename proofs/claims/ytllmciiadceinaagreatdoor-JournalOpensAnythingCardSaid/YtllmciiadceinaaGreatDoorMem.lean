/-
  A row of one-celled elements in memory, told cell by cell. No condition.
-/
import Derived.Test.YtllmciiadceinaaGreatDoorSlAt
import Derived.Test.YtllmciiadceinaaGreatDoorSha
import Derived.Laws.IdiomStrings
import Derived.Shelf.Abstract
import Derived.TacticsInMore
import Derived.LoopNIn
import Derived.LoopIn
import Derived.Maps.AppendAt
import Derived.Lib.Hide
import Derived.Lib.BufferRead
import Derived.Deep.Onto
import Derived.Outline
import Derived.Deep.MidRow
import Derived.WalkSpells
import Derived.WalkLawsBesides
import Derived.Laws.BitsAllLaws
namespace Go.Proofs.YtllmciiadceinaaGreatDoor
open Go Go.RowKit

def bv (b : UInt8) : Value := .int .u8 b.toNat
def wv (n : Nat) : Value := .int .u32 n
def nv (n : Nat) : Value := .int .i64 n

/-- The cells of block b from place 0 on hold the list l, an element x as the value f x, and may be written. -/
structure RAt {α : Type} (w : World) (b : Nat) (f : α → Value) (l : List α) : Prop where
  lt : b < w.heap.size
  cell : ∀ i x, l[i]? = some x → w.cell? ⟨b, i, none⟩ = some (f x)
  free : ∀ i, i < l.length → w.frozen? ⟨b, i, none⟩ = false

section
variable {α : Type} {w w' : World} {b B : Nat} {f : α → Value} {l : List α}
theorem RAt.below (h : RAt w b f l) (hb : Below B w w') (hB : b < B) : RAt w' b f l :=
  ⟨Nat.lt_of_lt_of_le h.lt hb.size, fun i x hx => (hb.cell (p := ⟨b, i, none⟩) hB).trans (h.cell i x hx), fun i hi => (hb.frozen (p := ⟨b, i, none⟩) hB).trans (h.free i hi)⟩
theorem RAt.drewN (h : RAt w b f l) (n : Nat) : RAt (w.drewN n) b f l :=
  ⟨by simpa using h.lt, fun i x hx => by simpa using h.cell i x hx, fun i hi => by simpa using h.free i hi⟩
theorem RAt.drew (h : RAt w b f l) : RAt w.drew b f l := ⟨h.lt, h.cell, h.free⟩
theorem RAt.get (h : RAt w b f l) {i : Nat} (hi : i < l.length) : w.cell? ⟨b, i, none⟩ = some (f l[i]) := h.cell i _ (List.getElem?_eq_getElem hi)
theorem RAt.setv (h : RAt w b f l) (i : Nat) (hi : i < l.length) (x : α) (v : Value) (hv : v = f x) : RAt (w.setCell ⟨b, i, none⟩ v) b f (l.set i x) := by
  subst hv
  refine ⟨by simpa [World.setCell] using h.lt, fun j y hy => ?_, fun j hj => by rw [World.frozen?_setCell]; exact h.free j (by simpa using hj)⟩
  have hc := h.cell i l[i] (List.getElem?_eq_getElem hi)
  by_cases e : i = j
  · subst e
    rw [List.getElem?_set_self hi] at hy
    cases hy
    exact World.cell?_setCell_same' _ _ _ (by rw [hc]; rfl)
  · rw [List.getElem?_set_ne e] at hy
    have hne : (⟨b, i, none⟩ : Addr) ≠ ⟨b, j, none⟩ := fun q => e (congrArg Addr.off q)
    exact (World.cell?_setCell_other _ _ _ _ hne).trans (h.cell j y hy)
theorem RAt.other (h : RAt w b f l) (p : Addr) (hp : p.block ≠ b) (v : Value) : RAt (w.setCell p v) b f l := by
  refine ⟨by simpa [World.setCell] using h.lt, fun j y hy => ?_, fun j hj => by rw [World.frozen?_setCell]; exact h.free j hj⟩
  exact (World.cell?_setCell_other _ _ _ _ (fun q => hp (by rw [q]))).trans (h.cell j y hy)
theorem RAt.sl (h : RAt w b f l) {B : Nat} (hB : b < B) : LAt w B (some ⟨b, 0, none⟩) f l := fun i x hx => ⟨_, rfl, hB, by have := h.cell i x hx; rw [show (⟨b, 0, none⟩ : Addr).add i = ⟨b, i, none⟩ by simp [Addr.add]; omega]; exact this⟩
theorem RAt.of_row {base n cap : Nat} {e : TypeId} (h : w.ownsRow base e 1 (.slice (some ⟨b, 0, none⟩) n cap) n (l.map f)) : RAt w b f l := by
  have hlen : l.length = n := by have := h.1; simpa using this
  refine ⟨(h.lt b rfl).2, fun i x hx => ?_, fun i _ => h.frozenAt i⟩
  have hi : i < l.length := (List.getElem?_eq_some_iff.1 hx).1
  rw [h.cellAt i (by omega), List.getElem?_map, hx]; rfl
end

theorem RAt.alloc_new {α : Type} {f : α → Value} {l : List α} (w : World) (vs : Array Value) (t : TypeId) (h : vs.toList = l.map f) : RAt (w.alloc (.cells vs t)) w.heap.size f l := by
  refine ⟨by simp, fun i x hx => ?_, fun i _ => by simp [World.frozen?, World.alloc, -World.alloc_eq]⟩
  have h2 : vs[i]? = some (f x) := by rw [← Array.getElem?_toList, h, List.getElem?_map, hx]; rfl
  simpa [World.cell?, World.alloc, -World.alloc_eq] using h2
theorem RAt.alloc {α : Type} {f : α → Value} {l : List α} {w : World} {b : Nat} (h : RAt w b f l) (o : Obj) : RAt (w.alloc o) b f l :=
  h.below (B := w.heap.size) ((Below.refl _ _).alloc (Nat.le_refl _) o) h.lt
theorem RAt.range {α : Type} {f : α → Value} {l : List α} {w : World} {b : Nat} (h : RAt w b f l) : w.rangeAt b 0 (l.map f) := fun j v hv => by
  rw [List.getElem?_map] at hv
  obtain ⟨x, hx, rfl⟩ := Option.map_eq_some_iff.1 hv
  rw [Nat.zero_add]; exact h.cell j x hx
theorem RAt.there {α : Type} {f : α → Value} {l : List α} {w : World} {b : Nat} (h : RAt w b f l) : w.there b 0 l.length := fun j hj => by
  rw [Nat.zero_add]; exact ⟨by rw [h.get hj]; rfl, h.free j hj⟩
theorem RAt.setAll {α : Type} {f : α → Value} {l m : List α} {w : World} {b : Nat} (h : RAt w b f l) (hl : m.length = l.length) : RAt (w.setCells b 0 (m.map f)) b f m := by
  have ht : w.there b 0 (m.map f).length := by rw [List.length_map, hl]; exact h.there
  refine ⟨?_, fun i x hx => ?_, fun i hi => ?_⟩
  · have hsz : ∀ (vs : List Value) (o : Nat) (w : World), (w.setCells b o vs).heap.size = w.heap.size := by
      intro vs
      induction vs with
      | nil => intro o w; rfl
      | cons v vs ih => intro o w; rw [World.setCells, ih]; simp [World.setCell]
    rw [hsz]; exact h.lt
  · have := World.rangeAt_setCells_same w b 0 (m.map f) ht i (f x) (by rw [List.getElem?_map, hx]; rfl)
    rw [Nat.zero_add] at this; exact this
  · rw [World.frozen?_setCells]; exact h.free i (by omega)
theorem Below.setCells {B : Nat} {a : World} {b : Nat} (hb : B ≤ b) : ∀ (vs : List Value) (o : Nat) {w : World}, Below B a w → Below B a (w.setCells b o vs)
  | [], _, _, h => h
  | v :: vs, o, w, h => by rw [World.setCells]; exact Below.setCells hb vs _ (h.setCell hb v)
theorem Below.drewN' {B : Nat} {a w : World} (h : Below B a w) (n : Nat) : Below B a (w.drewN n) := ⟨h.os, h.tape, h.output, h.size, h.block⟩

theorem results_cell_mid {P : Program} {fn : Func} {p : Tmp} {ty : TypeId} (h : fn.results = #[.cell p ty]) (tmps : Array Value) (w : World) (b : Nat) (cs : List Value) (d : TypeDesc)
    (hp : tmps.getD p undef = .pointer (some ⟨b, 0, none⟩)) (hc : w.rangeAt b 0 cs) (hu : P.underlying ty = some d) (hd : d.isRow = true) (hi : (P.info? ty).map (·.size) = some cs.length) :
    (results fn tmps).run P w = .ok (.agg cs.toArray) w := by
  have hp' : tmps[p]?.getD undef = .pointer (some ⟨b, 0, none⟩) := by simpa using hp
  simp [results, h, hp', asAddr, run_loadVar_mid w b 0 ty cs d hc hu hd hi]

theorem u32_not (c : Nat) (h : c < 4294967296) : bits .xor .u32 IntKind.u32.max (c : Int) = ((4294967295 - c : Nat) : Int) := by
  have e0 : IntKind.u32.max = ((4294967295 : Nat) : Int) := by decide
  rw [e0, u32_xor_nat _ _ (by decide) h]
  congr 1
  apply Nat.eq_of_testBit_eq
  intro i
  have h1 : (4294967295 : Nat) = 2 ^ 32 - 1 := rfl
  rw [Nat.testBit_xor, h1, Nat.testBit_two_pow_sub_one, show 2 ^ 32 - 1 - c = 2 ^ 32 - (c + 1) by omega, Nat.testBit_two_pow_sub_succ (by omega) i]
  by_cases hi : i < 32
  · simp [hi]
  · have : c.testBit i = false := Nat.testBit_lt_two_pow (Nat.lt_of_lt_of_le (show c < 2 ^ 32 by omega) (Nat.pow_le_pow_right (by decide) (by omega)))
    simp [hi, this]

theorem div_pow_lt {x n : Nat} (h : x < 4294967296) : x / 2 ^ n < 4294967296 := Nat.lt_of_le_of_lt (Nat.div_le_self _ _) h
theorem rotr_lt {n x : Nat} (h : x < 4294967296) : rotr n x < 4294967296 := Nat.or_lt_two_pow (n := 32) (div_pow_lt h) (Nat.mod_lt _ (by decide))

end Go.Proofs.YtllmciiadceinaaGreatDoor
