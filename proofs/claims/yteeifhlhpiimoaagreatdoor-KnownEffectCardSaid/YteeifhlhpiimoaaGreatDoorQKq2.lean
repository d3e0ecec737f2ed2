/-
  A slice of rows of six integers, opened as an argument. Condition: the argument is what the row's first reading says.
-/
import Derived.Test.YteeifhlhpiimoaaGreatDoorQCAt
import Derived.Test.YteeifhlhpiimoaaGreatDoorQAp
namespace Go.Proofs.YteeifhlhpiimoaaGreatDoor
open Go Go.RowKit Go.ChangeShapes Go.WideShapes Go.Deep
set_option maxRecDepth 100000 in
theorem open_sixAt {H : Type} {enc : TypeId × Value → H} {W : World} {base : Nat} {sp : Nat → Bool} {held : Bool} {b0 : Nat} {r : Reach} {v : Value} {d : DataW H} {p : List MemPlace}
    (hv : Value.okWide Tryz.prog W r b0 22 v) (h : DataW.Trod enc Tryz.prog W base sp held 22 v d p) :
    ∃ (A : Option Addr) (l : List Six) (cap : Nat), v = .slice A l.length cap ∧ l.length ≤ maxLen ∧ SixAt W A l ∧ ∀ y ∈ l, y.Ok := by
  have key := open_rowsAt (e := 78) Six.cells Six.Ok Tryz.underlying22 6 (by kernel_rfl) (by decide) (fun n cs x hl ht => by
    obtain ⟨xs, m, _, _, _, hxl, hi⟩ := DataW.trod_array Tryz.underlying78 ht
    have hc : Tryz.prog.cellsOf 3 = 1 := by kernel_rfl
    match cs, hl with
    | [c0, c1, c2, c3, c4, c5], _ =>
      match xs, hxl with
      | [x0, x1, x2, x3, x4, x5], _ =>
        have h0 := hi 0 (by decide)
        have h1 := hi 1 (by decide)
        have h2 := hi 2 (by decide)
        have h3 := hi 3 (by decide)
        have h4 := hi 4 (by decide)
        have h5 := hi 5 (by decide)
        simp [hc] at h0 h1 h2 h3 h4 h5
        obtain ⟨z0, e0, _, w0⟩ := DataW.trod_int Tryz.underlying3 (x := x0) (cs := [c0]) h0
        obtain ⟨z1, e1, _, w1⟩ := DataW.trod_int Tryz.underlying3 (x := x1) (cs := [c1]) h1
        obtain ⟨z2, e2, _, w2⟩ := DataW.trod_int Tryz.underlying3 (x := x2) (cs := [c2]) h2
        obtain ⟨z3, e3, _, w3⟩ := DataW.trod_int Tryz.underlying3 (x := x3) (cs := [c3]) h3
        obtain ⟨z4, e4, _, w4⟩ := DataW.trod_int Tryz.underlying3 (x := x4) (cs := [c4]) h4
        obtain ⟨z5, e5, _, w5⟩ := DataW.trod_int Tryz.underlying3 (x := x5) (cs := [c5]) h5
        simp only [List.cons.injEq, and_true] at e0 e1 e2 e3 e4 e5
        subst e0 e1 e2 e3 e4 e5
        exact ⟨⟨z0, z1, z2, z3, z4, z5⟩, rfl, ⟨bounds_i64 w0, bounds_i64 w1, bounds_i64 w2, bounds_i64 w3, bounds_i64 w4, bounds_i64 w5⟩⟩) hv h
  obtain ⟨A, l, cap, h1, h2, h3, h4, h5⟩ := key
  exact ⟨A, l, cap, h1, by omega, h4, h5⟩
end Go.Proofs.YteeifhlhpiimoaaGreatDoor
