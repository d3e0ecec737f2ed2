/-
  A row of bytes in memory, told cell by cell. No condition.
-/
import Derived.Test.YtoejihodomcdcaaDoorWireA
import Derived.Laws.IdiomStrings
namespace Go.Proofs.YtoejihodomcdcaaDoor
open Go Go.RowKit

/-- The cells of block b from place o on hold the bytes l, and may be written. -/
structure BAt (w : World) (b : Nat) (l : List UInt8) : Prop where
  lt : b < w.heap.size
  cell : ∀ i x, l[i]? = some x → w.cell? ⟨b, i, none⟩ = some (bv x)
  free : ∀ i, i < l.length → w.frozen? ⟨b, i, none⟩ = false

theorem BAt.below {w w' : World} {b : Nat} {l : List UInt8} (h : BAt w b l) (hb : Below w.heap.size w w') : BAt w' b l :=
  ⟨Nat.lt_of_lt_of_le h.lt hb.size, fun i x hx => (hb.cell (p := ⟨b, i, none⟩) h.lt).trans (h.cell i x hx), fun i hi => (hb.frozen (p := ⟨b, i, none⟩) h.lt).trans (h.free i hi)⟩
theorem BAt.drewN {w : World} {b : Nat} {l : List UInt8} (h : BAt w b l) (n : Nat) : BAt (w.drewN n) b l :=
  ⟨by simpa using h.lt, fun i x hx => by simpa using h.cell i x hx, fun i hi => by simpa using h.free i hi⟩
theorem BAt.drew {w : World} {b : Nat} {l : List UInt8} (h : BAt w b l) : BAt w.drew b l := ⟨h.lt, h.cell, h.free⟩
theorem BAt.set {w : World} {b : Nat} {l : List UInt8} (h : BAt w b l) (i : Nat) (hi : i < l.length) (x : UInt8) : BAt (w.setCell ⟨b, i, none⟩ (bv x)) b (l.set i x) := by
  refine ⟨by simpa [World.setCell] using h.lt, fun j y hy => ?_, fun j hj => by rw [World.frozen?_setCell]; exact h.free j (by simpa using hj)⟩
  have hc := h.cell i l[i] (List.getElem?_eq_getElem hi)
  by_cases e : i = j
  · subst e
    rw [List.getElem?_set_self hi] at hy
    cases hy
    exact World.cell?_setCell_same' _ _ _ (by rw [hc]; rfl)
  · rw [List.getElem?_set_ne e] at hy
    have hne : (⟨b, i, none⟩ : Addr) ≠ ⟨b, j, none⟩ := fun q => e (congrArg Addr.off q)
    exact (World.cell?_setCell_other _ _ _ _ hne).trans (h.cell j y hy)
/-- 'string(b)'. -/
theorem BAt.convert {P : Program} {w : World} {b cap : Nat} {l : List UInt8} (h : BAt w b l) (src dst e : TypeId) (hs : P.underlying src = some (.slice e)) (he : P.underlying e = some (.int .u8)) (hd : P.underlying dst = some .string) :
    (convert src dst (.slice (some ⟨b, 0, none⟩) l.length cap)).run P w = .ok (.string ⟨l.toArray⟩) w :=
  run_convert_bytes_back w src dst e ⟨b, 0, none⟩ cap l hs he hd (fun j hj => by
    have := h.cell j l[j] (List.getElem?_eq_getElem hj)
    rw [show (⟨b, 0, none⟩ : Addr).add j = ⟨b, j, none⟩ by simp [Addr.add]; omega]
    exact this)

theorem BAt.of_row {w : World} {base g n cap : Nat} {e : TypeId} {l : List UInt8} (h : w.ownsRow base e 1 (.slice (some ⟨g, 0, none⟩) n cap) n (l.map bv)) : BAt w g l := by
  have hlen : l.length = n := by have := h.1; simpa using this
  refine ⟨(h.lt g rfl).2, fun i x hx => ?_, fun i _ => h.frozenAt i⟩
  have hi : i < l.length := (List.getElem?_eq_some_iff.1 hx).1
  rw [h.cellAt i (by omega), List.getElem?_map, hx]; rfl
theorem zeros_row (n : Nat) : (madeCells (Value.int .u8 0).cells (n * 1)).toList = (List.replicate n (0 : UInt8)).map bv := by
  rw [Nat.mul_one, show (Value.int .u8 0).cells = #[Value.int .u8 0] from rfl, toList_madeCells_one, List.map_replicate]; rfl
/-- 'make([]byte, n)'. -/
theorem make_bytes {P : Program} (w : World) (t e : TypeId) (i : TypeInfo) (ht : P.underlying t = some (.slice e)) (hi : P.info? e = some i) (hz : i.zero = some (.int .u8 0)) (hs : i.size = 1) (hb : i.bytes = 1) (n : Nat) (hn : n ≤ 281474976710656) :
    ∃ w', (Instr.makeSlice t (.int .i64 (n : Int)) (.int .i64 (n : Int))).run P w = .ok (.slice (some ⟨w.heap.size, 0, none⟩) n n) w' ∧ BAt w' w.heap.size (List.replicate n 0) ∧ Below w.heap.size w w' ∧ w'.heap.size = w.heap.size + 1 := by
  have hr := run_make (P := P) w t e i (.int .u8 0) ht hi hz .i64 .i64 n n (by omega) (Int.le_refl _) (by rw [hb]; omega) (by omega)
  simp only [Int.toNat_natCast] at hr
  refine ⟨_, hr, ?_, (Below.refl _ _).alloc (Nat.le_refl _) _, by simp⟩
  have ho := World.ownsRow_lit (base := w.heap.size) (size := 1) (e := e) w (madeCells (Value.int .u8 0).cells (n * 1)) n (Nat.le_refl _) (by unfold maxLen; omega) (size_madeCells _ _)
  rw [zeros_row] at ho
  rw [hs]
  exact BAt.of_row ho

/-- '[]byte(s)'. -/
theorem bytes_of_string {P : Program} (w : World) (src dst e : TypeId) (s : ByteArray) (hs : P.underlying src = some .string) (hd : P.underlying dst = some (.slice e)) (he : P.underlying e = some (.int .u8)) :
    ∃ w' cap, (convert src dst (.string s)).run P w = .ok (.slice (some ⟨w.heap.size, 0, none⟩) s.size cap) w' ∧ BAt w' w.heap.size s.data.toList ∧ Below w.heap.size w w' ∧ w'.heap.size = w.heap.size + 1 := by
  refine ⟨_, _, run_bytes_of_string w src dst e s hs hd he, ⟨by simp [World.alloc], fun i x hx => ?_, fun i hi => ?_⟩, (Below.refl _ _).drew.alloc (Nat.le_refl _) _, by simp⟩
  · have hi : i < s.data.size := by have := (List.getElem?_eq_some_iff.1 hx).1; simpa using this
    have hx2 : s.data[i] = x := by have := (List.getElem?_eq_some_iff.1 hx).2; simpa using this
    have hb := bytesRow_at s (grownCap w s.size 0 e) i hi
    rw [hx2] at hb
    simpa [World.cell?, World.alloc, World.drew, bv, -World.alloc_eq, -World.drew_eq] using hb
  · have hl : i < (bytesRow s (grownCap w s.size 0 e)).size := by
      have h1 : s.data.size ≤ (bytesRow s (grownCap w s.size 0 e)).size := by unfold bytesRow; simp
      have h2 : i < s.data.size := by simpa using hi
      omega
    simp [World.frozen?, World.alloc, World.drew, -World.alloc_eq, -World.drew_eq]
    omega

end Go.Proofs.YtoejihodomcdcaaDoor
