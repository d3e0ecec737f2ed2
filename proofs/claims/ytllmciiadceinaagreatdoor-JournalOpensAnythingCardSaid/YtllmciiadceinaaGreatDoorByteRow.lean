/-
  A row of one-celled elements with a capacity that the call may write: one element appended, in place or in a new row. Conditions: each law's own.
-/
import Derived.Test.YtllmciiadceinaaGreatDoorMemLaws
import Derived.ArgAppend
import Derived.Laws.IdiomStrings
namespace Go.Proofs.YtllmciiadceinaaGreatDoor
open Go Go.RowKit

/-- The row at block g, from B on, with room for cap elements, shows l. -/
structure CRow {α : Type} (w : World) (B g cap : Nat) (f : α → Value) (l : List α) : Prop where
  base : B ≤ g
  lt : g < w.heap.size
  le : l.length ≤ cap
  max : cap ≤ maxLen
  cell : ∀ i x, l[i]? = some x → w.cell? ⟨g, i, none⟩ = some (f x)
  spare : ∀ i, i < cap → (w.cell? ⟨g, i, none⟩).isSome = true ∧ w.frozen? ⟨g, i, none⟩ = false

section
variable {α : Type} {P : Program} {w w' : World} {B g cap : Nat} {f : α → Value} {l : List α}
theorem CRow.row (h : CRow w B g cap f l) : RAt w g f l := ⟨h.lt, h.cell, fun i hi => (h.spare i (by have := h.le; omega)).2⟩
theorem CRow.keep (h : CRow w B g cap f l) (hs : w.heap.size ≤ w'.heap.size) (hb : w'.heap[g]? = w.heap[g]?) : CRow w' B g cap f l :=
  ⟨h.base, Nat.lt_of_lt_of_le h.lt hs, h.le, h.max, fun i x hx => (World.cell?_of_block (a := ⟨g, i, none⟩) hb).trans (h.cell i x hx),
    fun i hi => ⟨by rw [World.cell?_of_block (a := ⟨g, i, none⟩) hb]; exact (h.spare i hi).1, (World.frozen?_of_block (a := ⟨g, i, none⟩) hb).trans (h.spare i hi).2⟩⟩
theorem CRow.alloc (h : CRow w B g cap f l) (o : Obj) : CRow (w.alloc o) B g cap f l := h.keep (by simp) (Below.heap_alloc _ _ _ h.lt)
theorem CRow.drew (h : CRow w B g cap f l) : CRow w.drew B g cap f l := h.keep (Nat.le_refl _) rfl
theorem CRow.of_own {e : TypeId} {v : Value} {n : Nat} (h : w.ownsRow B e 1 v n (l.map f)) (hn : 0 < n) : ∃ g cap, v = .slice (some ⟨g, 0, none⟩) n cap ∧ CRow w B g cap f l := by
  have hll : l.length = n := by have := h.1; simpa using this
  rcases h.2 with ⟨_, h0⟩ | ⟨g, cap, cur, rfl, hb, hg, h1, h2, h3, h4⟩
  · omega
  · refine ⟨g, cap, rfl, hb, (Array.getElem?_eq_some_iff.1 hg).1, by omega, h2, fun i x hx => ?_, fun i hi => ?_⟩
    · have hi : i < l.length := (List.getElem?_eq_some_iff.1 hx).1
      rw [h.cellAt i (by omega), List.getElem?_map, hx]; rfl
    · have hc : i < cur.size := by rw [h3]; omega
      constructor
      · rw [World.cell?, hg]; simp [hc]
      · simp [World.frozen?, hg]

/-- ONE ELEMENT MORE. -/
theorem run_append_one (hr : CRow w B g cap f l) (t ty e : TypeId) (i : TypeInfo) (z : Value) (bytes : Nat) (ht : P.underlying t = some (.slice e)) (hi : P.info? e = some i) (hz : i.zero = some z) (hsize : i.size = 1) (hby : i.bytes = bytes) (hzs : z.cells.size = 1)
    (a : Addr) (c : Nat) (x : α) (hx : w.cell? a = some (f x)) (h1 : (f x).oneCell' = true) (h63 : l.length + 1 ≤ maxLen) (hbytes : (l.length + 1) * bytes ≤ 140737488355328) (hB : B ≤ w.heap.size) :
    ∃ g' cap' w', (Builtin.append_ #[t, t] ty #[.slice (some ⟨g, 0, none⟩) l.length cap, .slice (some a) 1 c]).run P w = .ok (.slice (some ⟨g', 0, none⟩) (l.length + 1) cap') w' ∧ CRow w' B g' cap' f (l ++ [x]) ∧ But g w w' ∧ Below B w w' := by
  have hnews : ∀ j u, [f x][j]? = some u → w.cell? (a.add j) = some u := fun j u hu => by
    match j with
    | 0 => simp at hu; subst hu; rw [show a.add 0 = a from by simp [Addr.add]]; exact hx
    | j + 1 => simp at hu
  have h1' : ∀ u ∈ [f x], u.oneCell' = true := fun u hu => by obtain rfl := List.mem_singleton.1 hu; exact h1
  by_cases hroom : l.length + 1 ≤ cap
  · have hsp := hr.spare l.length (by omega)
    have hrun := run_append_room_cells (P := P) w t ty e i ht hi g 0 l.length cap a 1 c [f x] (by rw [hsize]; rfl) hnews h1' hroom
      (fun j hj => by obtain rfl : j = 0 := by simpa using hj
                      rw [hsize, Nat.mul_one, Nat.zero_add, Nat.add_zero]; exact hsp.1)
      (fun j hj => by obtain rfl : j = 0 := by simpa using hj
                      rw [hsize, Nat.mul_one, Nat.zero_add, Nat.add_zero]; exact hsp.2)
    rw [hsize, Nat.mul_one, Nat.zero_add] at hrun
    rw [show w.setCells g l.length [f x] = w.setCell ⟨g, l.length, none⟩ (f x) from rfl] at hrun
    refine ⟨g, cap, _, hrun, ⟨hr.base, by simpa [World.setCell] using hr.lt, by simpa using hroom, hr.max, fun j y hy => ?_, fun j hj => ?_⟩, (But.refl g w).setCell (.inl rfl) _, (Below.refl B w).setCell hr.base _⟩
    · by_cases e : l.length = j
      · subst e
        rw [List.getElem?_append_right (Nat.le_refl _), Nat.sub_self] at hy
        cases hy
        exact World.cell?_setCell_same' _ _ _ hsp.1
      · have hj : j < l.length := by
          have := (List.getElem?_eq_some_iff.1 hy).1
          simp at this; omega
        rw [List.getElem?_append_left hj] at hy
        exact (World.cell?_setCell_other _ _ _ _ (fun q => e (congrArg Addr.off q))).trans (hr.cell j y hy)
    · rw [World.frozen?_setCell]
      refine ⟨?_, (hr.spare j hj).2⟩
      by_cases e : l.length = j
      · subst e; rw [World.cell?_setCell_same' _ _ _ hsp.1]; rfl
      · rw [World.cell?_setCell_other _ _ _ _ (fun q => e (congrArg Addr.off q))]; exact (hr.spare j hj).1
  · obtain ⟨v', w', hrun, r1, r2⟩ := run_append_arg_grows (P := P) w t ty e i z 1 bytes ht hi hz hsize hby hzs (by decide) ⟨g, 0, none⟩ l.length cap (l.map f) (by simp)
      (fun j u hu => by
        rw [List.getElem?_map] at hu
        obtain ⟨y, hy, rfl⟩ := Option.map_eq_some_iff.1 hu
        rw [show (⟨g, 0, none⟩ : Addr).add j = ⟨g, j, none⟩ by simp [Addr.add]; omega]
        exact hr.cell j y hy) a 1 c [f x] rfl hnews (by omega) h63 hbytes
    rw [show l.map f ++ [f x] = (l ++ [x]).map f by simp] at r1
    obtain ⟨g', cap', rfl, hc⟩ := CRow.of_own r1 (by omega)
    exact ⟨g', cap', w', hrun, ⟨Nat.le_trans hB hc.base, hc.lt, hc.le, hc.max, hc.cell, hc.spare⟩, ⟨r2.os, r2.tape, r2.output, r2.size, fun k hk _ => r2.block k hk (by simp)⟩, ⟨r2.os, r2.tape, r2.output, r2.size, fun k hk => r2.block k (by omega) (by simp)⟩⟩

/-- .. for the walk. -/
theorem wpList_append_one {ops : Array Oper} {rest : List Oper} {op : Oper} {a : Act} {Q : Exit → Act → World → Prop} (hgd : op.guard = none) (s x : Operand) (t : TypeId)
    (ho : op.op = .call { callee := .builtin .append, args := #[s, x], argTypes := #[t, t] }) (hr : CRow w B g cap f l) (e : TypeId) (i : TypeInfo) (z : Value) (bytes : Nat) (ht : P.underlying t = some (.slice e)) (hi : P.info? e = some i) (hz : i.zero = some z) (hsize : i.size = 1) (hby : i.bytes = bytes) (hzs : z.cells.size = 1)
    (n : Nat) (hn : l.length = n) (hs : a.eval s = .slice (some ⟨g, 0, none⟩) n cap) (ad : Addr) (c : Nat) (y : α) (hx : a.eval x = .slice (some ad) 1 c) (hy : w.cell? ad = some (f y)) (h1 : (f y).oneCell' = true) (h63 : l.length + 1 ≤ maxLen) (hbytes : (l.length + 1) * bytes ≤ 140737488355328) (hB : B ≤ w.heap.size)
    (h : ∀ g' cap' w', CRow w' B g' cap' f (l ++ [y]) → But g w w' → Below B w w' → wpList P ops Q rest (a.put op.dst (.slice (some ⟨g', 0, none⟩) (n + 1) cap')) w') : wpList P ops Q (op :: rest) a w := by
  subst hn
  refine wpList_plain hgd fun K hK' => ?_
  obtain ⟨g', cap', w', hrun, r1, r2, r3⟩ := run_append_one (P := P) hr t op.type e i z bytes ht hi hz hsize hby hzs ad c y hy h1 h63 hbytes hB
  unfold Oper.wp
  simp [execOp, ho, resolve, invoke, builtin, hs, hx, hrun, Result.andThen]
  exact hK' _ _ (h g' cap' w' r1 r2 r3)
end

theorem cell_new_one (w : World) (v : Value) (t : TypeId) : (w.alloc (.cells #[v] t)).cell? ⟨w.heap.size, 0, none⟩ = some v := by simp
/-- '[]byte(s)'. -/
theorem row_of_string {P : Program} (w : World) (src dst e : TypeId) (s : ByteArray) (hs : P.underlying src = some .string) (hd : P.underlying dst = some (.slice e)) (he : P.underlying e = some (.int .u8)) (hsz : s.size ≤ 1000000000) :
    ∃ w' cap, (Go.convert src dst (.string s)).run P w = .ok (.slice (some ⟨w.heap.size, 0, none⟩) s.size cap) w' ∧ CRow w' w.heap.size w.heap.size cap bv s.data.toList ∧ Below w.heap.size w w' ∧ w'.heap.size = w.heap.size + 1 := by
  have hge := grownCap_ge w s.size 0 e
  have hcm := grownCap_le_maxLen w s.size 0 e (by unfold maxLen; omega)
  have hbs : (bytesRow s (grownCap w s.size 0 e)).size = grownCap w s.size 0 e := by
    have : s.data.size = s.size := rfl
    unfold bytesRow; simp; omega
  refine ⟨_, _, run_bytes_of_string w src dst e s hs hd he, ⟨Nat.le_refl _, by simp [World.alloc], by simpa using hge, hcm, fun i x hx => ?_, fun i hi => ?_⟩, (Below.refl _ _).drew.alloc (Nat.le_refl _) _, by simp⟩
  · have hi : i < s.data.size := by have := (List.getElem?_eq_some_iff.1 hx).1; simpa using this
    have hx2 : s.data[i] = x := by have := (List.getElem?_eq_some_iff.1 hx).2; simpa using this
    have hb := bytesRow_at s (grownCap w s.size 0 e) i hi
    rw [hx2] at hb
    exact (World.cell?_alloc_mark w.drew _ _ _ i).trans hb
  · have hl : i < (bytesRow s (grownCap w s.size 0 e)).size := by rw [hbs]; exact hi
    constructor
    · rw [show w.heap.size = w.drew.heap.size from rfl, World.cell?_alloc_mark]
      rw [Array.getElem?_eq_getElem hl]; rfl
    · rw [show w.heap.size = w.drew.heap.size from rfl, World.frozen?_alloc_mark, hbs]
      simp; omega

end Go.Proofs.YtllmciiadceinaaGreatDoor
