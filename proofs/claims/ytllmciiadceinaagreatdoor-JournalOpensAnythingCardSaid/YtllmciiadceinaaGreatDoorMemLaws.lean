/-
  Laws of the walk for whole rows: a variable is made, read, written: the world behind it under a name of its own. Conditions: each law's own.
-/
import Derived.Test.YtllmciiadceinaaGreatDoorMem
namespace Go.Proofs.YtllmciiadceinaaGreatDoor
open Go Go.RowKit

/-- All that lay there is there, but for the block g. -/
structure But (g : Nat) (w w' : World) : Prop where
  os : w'.os = w.os
  tape : w'.tape = w.tape
  output : w'.output = w.output
  size : w.heap.size ≤ w'.heap.size
  block : ∀ k, k < w.heap.size → k ≠ g → w'.heap[k]? = w.heap[k]?
theorem But.refl (g : Nat) (w : World) : But g w w := ⟨rfl, rfl, rfl, Nat.le_refl _, fun _ _ _ => rfl⟩
theorem But.below {g B : Nat} {w w' : World} (h : But g w w') (hB : B ≤ g) (hs : B ≤ w.heap.size) : Below B w w' := ⟨h.os, h.tape, h.output, h.size, fun k hk => h.block k (by omega) (by omega)⟩
theorem But.of_below {g : Nat} {w w' : World} (h : Below w.heap.size w w') : But g w w' := ⟨h.os, h.tape, h.output, h.size, fun k hk _ => h.block k hk⟩
theorem But.trans {g : Nat} {w w' w'' : World} (h : But g w w') (h' : But g w' w'') : But g w w'' :=
  ⟨h'.os.trans h.os, h'.tape.trans h.tape, h'.output.trans h.output, Nat.le_trans h.size h'.size, fun k hk hg => (h'.block k (Nat.lt_of_lt_of_le hk h.size) hg).trans (h.block k hk hg)⟩
/-- A change of a newer block is no change of what lay before. -/
theorem But.trans_new {g b : Nat} {w w' w'' : World} (h : But g w w') (h' : But b w' w'') (hb : w.heap.size ≤ b) : But g w w'' :=
  ⟨h'.os.trans h.os, h'.tape.trans h.tape, h'.output.trans h.output, Nat.le_trans h.size h'.size, fun k hk hg => (h'.block k (Nat.lt_of_lt_of_le hk h.size) (by omega)).trans (h.block k hk hg)⟩
theorem But.trans_below {g B : Nat} {w w' w'' : World} (h : But g w w') (h' : Below B w' w'') (hB : w.heap.size ≤ B) : But g w w'' :=
  ⟨h'.os.trans h.os, h'.tape.trans h.tape, h'.output.trans h.output, Nat.le_trans h.size h'.size, fun k hk hg => (h'.block k (by omega)).trans (h.block k hk hg)⟩
theorem But.drew {g : Nat} {w w' : World} (h : But g w w') : But g w w'.drew := ⟨h.os, h.tape, h.output, h.size, h.block⟩
theorem But.drewN {g : Nat} {w w' : World} (h : But g w w') (n : Nat) : But g w (w'.drewN n) := ⟨h.os, h.tape, h.output, h.size, h.block⟩
theorem But.alloc {g : Nat} {w w' : World} (h : But g w w') (o : Obj) : But g w (w'.alloc o) :=
  h.trans_below ((Below.refl w'.heap.size w').alloc (Nat.le_refl _) o) h.size
theorem But.setCell {g : Nat} {w w' : World} (h : But g w w') {p : Addr} (hp : p.block = g ∨ w.heap.size ≤ p.block) (u : Value) : But g w (w'.setCell p u) := by
  have hb := (Below.refl p.block w').setCell (Nat.le_refl _) u
  refine ⟨hb.os.trans h.os, hb.tape.trans h.tape, hb.output.trans h.output, Nat.le_trans h.size hb.size, fun k hk hg => ?_⟩
  exact (Below.heap_setCell _ _ _ _ (by omega)).trans (h.block k hk hg)
theorem heap_setCells (b : Nat) : ∀ (vs : List Value) (o : Nat) (w : World), (w.setCells b o vs).heap.size = w.heap.size ∧ But b w (w.setCells b o vs)
  | [], _, w => ⟨rfl, But.refl _ _⟩
  | v :: vs, o, w => by
    obtain ⟨h1, h2⟩ := heap_setCells b vs (o + 1) (w.setCell ⟨b, o, none⟩ v)
    rw [World.setCells]
    exact ⟨h1.trans (by simp [World.setCell]), ((But.refl b w).setCell (.inl rfl) v).trans h2⟩
theorem RAt.but {α : Type} {f : α → Value} {l : List α} {w w' : World} {b g : Nat} (h : RAt w b f l) (hb : But g w w') (hne : b ≠ g) : RAt w' b f l :=
  ⟨Nat.lt_of_lt_of_le h.lt hb.size, fun i x hx => (World.cell?_of_block (a := ⟨b, i, none⟩) (hb.block b h.lt hne)).trans (h.cell i x hx), fun i hi => (World.frozen?_of_block (a := ⟨b, i, none⟩) (hb.block b h.lt hne)).trans (h.free i hi)⟩

/-- 'string(b)'. -/
theorem RAt.convert {P : Program} {w : World} {b n cap : Nat} {l : List UInt8} (h : RAt w b bv l) (hn : l.length = n) (src dst e : TypeId) (hs : P.underlying src = some (.slice e)) (he : P.underlying e = some (.int .u8)) (hd : P.underlying dst = some .string) :
    (Go.convert src dst (.slice (some ⟨b, 0, none⟩) n cap)).run P w = .ok (.string ⟨l.toArray⟩) w := by
  subst hn
  exact run_convert_bytes_back w src dst e ⟨b, 0, none⟩ cap l hs he hd (fun j hj => by
    have := h.cell j l[j] (List.getElem?_eq_getElem hj)
    rw [show (⟨b, 0, none⟩ : Addr).add j = ⟨b, j, none⟩ by simp [Addr.add]; omega]
    exact this)

/-- 'x[j]' of an array's value, an element of one cell. -/
theorem run_index_one {P : Program} (w : World) (t e : TypeId) (n : Nat) (cs : Array Value) (k : IntKind) (j : Nat) (v : Value) (hu : P.underlying t = some (.array n e)) (ha : ∀ w, (isAgg e).run P w = .ok false w) (hs : ∀ w, (sizeOf e).run P w = .ok 1 w)
    (hj : j < n) (hv : cs[j]? = some v) : (Instr.index t (.agg cs) (.int k (j : Int))).run P w = .ok v w := by
  have h2 : (0 : Int) ≤ (j : Int) ∧ (j : Int) < (n : Int) := by omega
  simp [Instr.index, run_underlying hu, part, ha, hs, hv, h2, hj, asIntOf]

section
variable {P : Program} {ops : Array Oper} {rest : List Oper} {op : Oper} {a : Act} {w : World} {Q : Exit → Act → World → Prop} {α : Type} {f : α → Value} {l m : List α}

/-- A variable is made. -/
theorem wpList_alloc_own (hgd : op.guard = none) (t : TypeId) (ho : op.op = .alloc t) (z : Value) (hz : ∀ w, (zeroValue t).run P w = .ok z w) (hl : z.cells.toList = l.map f)
    (h : ∀ w', RAt w' w.heap.size f l → Below w.heap.size w w' → w'.heap.size = w.heap.size + 1 → wpList P ops Q rest (a.put op.dst (.pointer (some ⟨w.heap.size, 0, none⟩))) w') : wpList P ops Q (op :: rest) a w :=
  wpList_plain hgd fun _ hK => by
    have h2 := hK _ _ (h (w.alloc (.cells z.cells t)) (RAt.alloc_new w _ t hl) ((Below.refl _ _).alloc (Nat.le_refl _) _) (by simp))
    unfold Oper.wp execOp
    simp only [ho, Instr.alloc, Sem.run_bind, Sem.run_pure, Result.andThen_ok, hz, newVar, newRow]
    simpa [go_sem] using h2
/-- A value is boxed. -/
theorem wpList_box_own (hgd : op.guard = none) (t : TypeId) (x : Operand) (ho : op.op = .box t x) (hx : a.eval x = .agg (l.map f).toArray)
    (h : ∀ w', RAt w' w.heap.size f l → Below w.heap.size w w' → w'.heap.size = w.heap.size + 1 → wpList P ops Q rest (a.put op.dst (.pointer (some ⟨w.heap.size, 0, none⟩))) w') : wpList P ops Q (op :: rest) a w :=
  wpList_plain hgd fun _ hK => by
    have h2 := hK _ _ (h (w.alloc (.cells (l.map f).toArray t)) (RAt.alloc_new w _ t rfl) ((Below.refl _ _).alloc (Nat.le_refl _) _) (by simp))
    unfold Oper.wp execOp
    simp only [ho, hx, Instr.box, Sem.run_bind, Sem.run_pure, newVar, newRow, Value.cells]
    simpa [go_sem] using h2
/-- A whole variable is read. -/
theorem wpList_load_own (hgd : op.guard = none) (t : TypeId) (x : Operand) (ho : op.op = .load t x) (b : Nat) (hx : a.eval x = .pointer (some ⟨b, 0, none⟩)) (hr : RAt w b f l)
    (d : TypeDesc) (hu : P.underlying t = some d) (hd : d.isRow = true) (n : Nat) (hi : (P.info? t).map (·.size) = some n) (hn : l.length = n)
    (h : wpList P ops Q rest (a.put op.dst (.agg (l.map f).toArray)) w) : wpList P ops Q (op :: rest) a w :=
  wpList_load_mid hgd t x ho b 0 hx _ d hr.range hu hd (by rw [List.length_map, hn]; exact hi) h
/-- A whole variable is written. -/
theorem wpList_store_own (hgd : op.guard = none) (t : TypeId) (x y : Operand) (ho : op.op = .store t x y) (b : Nat) (hx : a.eval x = .pointer (some ⟨b, 0, none⟩)) (hr : RAt w b f l)
    (hy : a.eval y = .agg (m.map f).toArray) (n : Nat) (hi : (P.info? t).map (·.size) = some n) (hn : l.length = n) (hm : m.length = n) (h1 : ∀ x, (f x).oneCell' = true)
    (h : ∀ w', RAt w' b f m → But b w w' → w'.heap.size = w.heap.size → wpList P ops Q rest (a.put op.dst undef) w') : wpList P ops Q (op :: rest) a w := by
  refine wpList_store_mid hgd t x y ho b 0 (m.map f).toArray hx hy ?_ ?_ (all_oneCell_toArray (fun v hv => by obtain ⟨x, _, rfl⟩ := List.mem_map.1 hv; exact h1 x)) ?_
  · have := hr.there; show w.there b 0 (m.map f).length; rw [List.length_map, hm, ← hn]; exact this
  · show _ = some (m.map f).length; rw [List.length_map, hm]; exact hi
  · obtain ⟨h2, h3⟩ := heap_setCells b (m.map f) 0 w
    exact h _ (hr.setAll (by rw [hm, hn])) h3 h2
end

end Go.Proofs.YtllmciiadceinaaGreatDoor
