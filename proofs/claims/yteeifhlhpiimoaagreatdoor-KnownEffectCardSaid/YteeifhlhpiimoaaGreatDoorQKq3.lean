/-
  An entry by value, opened as an argument. Condition: the argument is what the row's first reading says.
-/
import Derived.Test.YteeifhlhpiimoaaGreatDoorQCAt
import Derived.Test.YteeifhlhpiimoaaGreatDoorQAf
import Derived.Lib.SmallJoins
namespace Go.Proofs.YteeifhlhpiimoaaGreatDoor
open Go Go.RowKit Go.ChangeShapes Go.WideShapes Go.Deep
theorem one_at {cs : List Value} {o : Nat} {v : Value} (h : (cs.drop o).take 1 = [v]) : cs[o]? = some v := by
 have h1 := congrArg (fun l : List Value => l[0]?) h
 simpa [List.getElem?_take, List.getElem?_drop] using h1
theorem fields_at {H : Type} {fs : Array Field} {xs : List (DataW H × List MemPlace)} {g : Field → Option (DataW H × List MemPlace)} (hl : xs.length = fs.size) (hi : ∀ (i : Nat) (f : Field), fs[i]? = some f → g f = xs[i]?) (i : Nat) (f : Field) (h : fs[i]? = some f) : ∃ x, g f = some x := by
 have h1 := hi i f h
 rw [List.getElem?_eq_getElem (by rw [hl]; exact (Array.getElem?_eq_some_iff.1 h).1)] at h1
 exact ⟨_, h1⟩
section
variable {H : Type} {enc : TypeId × Value → H} {W : World} {base n : Nat} {sp : Nat → Bool} {held : Bool} {cs : List Value} {o : Nat} {x : DataW H × List MemPlace}
theorem int_at (h : DataW.trod enc Tryz.prog W base sp held n 3 ((cs.drop o).take (Tryz.prog.cellsOf 3)) = some x) : ∃ z, cs[o]? = some (.int .i64 z) := by
 obtain ⟨z, e, _⟩ := DataW.trod_int Tryz.underlying3 h
 rw [show Tryz.prog.cellsOf 3 = 1 by kernel_rfl] at e
 exact ⟨z, one_at e⟩
theorem str_at (h : DataW.trod enc Tryz.prog W base sp held n 9 ((cs.drop o).take (Tryz.prog.cellsOf 9)) = some x) : ∃ z, cs[o]? = some (.string z) := by
 obtain ⟨z, e, _⟩ := DataW.trod_string Tryz.underlying9 h
 rw [show Tryz.prog.cellsOf 9 = 1 by kernel_rfl] at e
 exact ⟨z, one_at e⟩
theorem bool_at (h : DataW.trod enc Tryz.prog W base sp held n 4 ((cs.drop o).take (Tryz.prog.cellsOf 4)) = some x) : ∃ z, cs[o]? = some (.bool z) := by
 obtain ⟨z, e, _⟩ := DataW.trod_bool Tryz.underlying4 h
 rw [show Tryz.prog.cellsOf 4 = 1 by kernel_rfl] at e
 exact ⟨z, one_at e⟩
theorem ratio_at (h : DataW.trod enc Tryz.prog W base sp held n 29 ((cs.drop o).take (Tryz.prog.cellsOf 29)) = some x) : ∃ a b, cs[o]? = some (.string a) ∧ cs[o + 1]? = some (.string b) := by
 obtain ⟨y0, y1, m, _, _, h0, h1⟩ := trod_struct2 Tryz.underlying29 h
 obtain ⟨a, ha⟩ := str_at h0
 obtain ⟨b, hb⟩ := str_at h1
 rw [show Tryz.prog.cellsOf 29 = 2 by kernel_rfl] at ha hb
 refine ⟨a, b, ?_, ?_⟩
 ·
  simpa [List.getElem?_take, List.getElem?_drop] using ha
 ·
  simpa [List.getElem?_take, List.getElem?_drop] using hb
theorem pair_at (h : DataW.trod enc Tryz.prog W base sp held n 31 ((cs.drop o).take (Tryz.prog.cellsOf 31)) = some x) : ∃ a b c d, cs[o]? = some (.string a) ∧ cs[o + 1]? = some (.string b) ∧ cs[o + 2]? = some (.string c) ∧ cs[o + 3]? = some (.string d) := by
 obtain ⟨y0, y1, m, _, _, h0, h1⟩ := trod_struct2 Tryz.underlying31 h
 obtain ⟨a, b, ha, hb⟩ := ratio_at h0
 obtain ⟨c, d, hc, hd⟩ := ratio_at h1
 rw [show Tryz.prog.cellsOf 31 = 4 by kernel_rfl] at ha hb hc hd
 refine ⟨a, b, c, d, ?_, ?_, ?_, ?_⟩
 ·
  simpa [List.getElem?_take, List.getElem?_drop] using ha
 ·
  simpa [List.getElem?_take, List.getElem?_drop] using hb
 ·
  simpa [List.getElem?_take, List.getElem?_drop] using hc
 ·
  simpa [List.getElem?_take, List.getElem?_drop] using hd
set_option maxRecDepth 100000 in
theorem open_entAt {b0 : Nat} {r : Reach} {v : Value} {d : DataW H} {p : List MemPlace} (hv : Value.okWide Tryz.prog W r b0 33 v) (h : DataW.Trod enc Tryz.prog W base sp held 33 v d p) : ∃ e : Ent, v = e.val := by
 obtain ⟨cs, rfl, hsz⟩ := okWide_struct Tryz.underlying33 hv
 have hc : cs.toList.length = 18 := by rw [Array.length_toList, hsz]; kernel_rfl
 obtain ⟨fuel, hf⟩ := h
 obtain ⟨xs, m, _, _, _, hxl, hi⟩ := DataW.trod_struct Tryz.underlying33 hf
 have hg := fields_at hxl hi
 obtain ⟨z0, e0⟩ := int_at (hg 0 _ rfl).choose_spec
 obtain ⟨z1, e1⟩ := int_at (hg 1 _ rfl).choose_spec
 obtain ⟨z2, e2⟩ := int_at (hg 2 _ rfl).choose_spec
 obtain ⟨z3, e3⟩ := int_at (hg 3 _ rfl).choose_spec
 obtain ⟨z5, e5⟩ := int_at (hg 5 _ rfl).choose_spec
 obtain ⟨z6, e6⟩ := int_at (hg 6 _ rfl).choose_spec
 obtain ⟨z7, e7⟩ := int_at (hg 7 _ rfl).choose_spec
 obtain ⟨z8, e8⟩ := int_at (hg 8 _ rfl).choose_spec
 obtain ⟨z9, e9⟩ := int_at (hg 9 _ rfl).choose_spec
 obtain ⟨z10, e10⟩ := int_at (hg 10 _ rfl).choose_spec
 obtain ⟨z4, e4⟩ := bool_at (hg 4 _ rfl).choose_spec
 obtain ⟨a, b, c, d', e11, e12, e13, e14⟩ := pair_at (hg 11 _ rfl).choose_spec
 obtain ⟨f, g, e15, e16⟩ := ratio_at (hg 12 _ rfl).choose_spec
 obtain ⟨t, e17⟩ := str_at (hg 13 _ rfl).choose_spec
 refine ⟨⟨z0, z1, z2, z3, z4, z5, z6, z7, z8, z9, z10, a, b, c, d', f, g, t⟩, ?_⟩
 have : cs.toList = Ent.cells ⟨z0, z1, z2, z3, z4, z5, z6, z7, z8, z9, z10, a, b, c, d', f, g, t⟩ := by
  apply List.ext_getElem?
  intro i
  rcases Nat.lt_or_ge i 18 with h | h
  ·
   have h18 : i = 0 ∨ i = 1 ∨ i = 2 ∨ i = 3 ∨ i = 4 ∨ i = 5 ∨ i = 6 ∨ i = 7 ∨ i = 8 ∨ i = 9 ∨ i = 10 ∨ i = 11 ∨ i = 12 ∨ i = 13 ∨ i = 14 ∨ i = 15 ∨ i = 16 ∨ i = 17 := by omega
   rcases h18 with rfl | rfl | rfl | rfl | rfl | rfl | rfl | rfl | rfl | rfl | rfl | rfl | rfl | rfl | rfl | rfl | rfl | rfl <;> first | exact e0 | exact e1 | exact e2 | exact e3 | exact e4 | exact e5 | exact e6 | exact e7 | exact e8 | exact e9 | exact e10 | exact e11 | exact e12 | exact e13 | exact e14 | exact e15 | exact e16 | exact e17
  ·
   rw [List.getElem?_eq_none (by omega), List.getElem?_eq_none (by exact h)]
 exact congrArg Value.agg (by rw [← this, Array.toArray_toList])
end
end Go.Proofs.YteeifhlhpiimoaaGreatDoor
