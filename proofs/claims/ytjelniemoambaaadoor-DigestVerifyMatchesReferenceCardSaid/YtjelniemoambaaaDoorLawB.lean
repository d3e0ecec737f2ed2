/-
  Laws of a walk that writes lists of its own behind the lists that it holds: the bound stands still. And a step that appends a list.
-/
import Derived.Test.YtjelniemoambaaaDoorLawA
namespace Go.Proofs.YtjelniemoambaaaDoor
open Go Go.RowKit Go.Shelf

structure LawB (w : World) (B : Nat) (ls : List (Option Addr × List ByteArray)) (W : World) : Prop where
  l : ∀ x ∈ ls, LAt W B x.1 .string x.2
  k : KAt W
  g : 0 < B
  b : Below w.heap.size w W
  z : B ≤ W.heap.size
  m : w.heap.size ≤ B
section
variable {w W W' : World} {B : Nat} {ls : List (Option Addr × List ByteArray)}
theorem LawSt.fix (h : LawSt w ls W) : LawB w W.heap.size ls W := ⟨h.l, h.k, h.k.lt, h.b, Nat.le_refl _, h.b.size⟩
theorem LawB.step (h : LawB w B ls W) (hb : Below B W W') : LawB w B ls W' :=
  ⟨fun x hx => (h.l x hx).below hb, fun j v hv => (hb.cell (by exact h.g)).trans (h.k j v hv), h.g, h.b.trans (hb.mono h.m), Nat.le_trans h.z hb.size, h.m⟩
theorem LawB.drew (h : LawB w B ls W) : LawB w B ls W.drew := h.step (Below.refl B W).drew
theorem LawB.alloc (h : LawB w B ls W) (o : Obj) : LawB w B ls (W.alloc o) := h.step ((Below.refl B W).alloc h.z o)
theorem LawB.st (h : LawB w B ls W) : LawSt w ls W := ⟨fun x hx => (h.l x hx).more h.z, h.k, h.b⟩
theorem LawB.cell (h : LawB w B ls W) {a : Addr} {l : List ByteArray} (hm : (some a, l) ∈ ls) {j : Nat} (hj : j < l.length) {s : ByteArray} (hs : l[j] = s) : W.cell? (a.add j) = some (.string s) := by
  obtain ⟨a', ha, _, hc⟩ := (h.l _ hm).get hj
  cases ha
  rw [hc, hs]
end
theorem LAt.cat {α : Type} {w : World} {B : Nat} {A : Option Addr} {f : α → Value} {l : List α} (h : LAt w B A f l) : ∀ j x, (l.flatMap (one f))[j]? = some x → ∃ a, A = some a ∧ w.cell? (a.add j) = some x := fun j x hx => by
  rw [flatMap_one, List.getElem?_map] at hx
  obtain ⟨y, hy, rfl⟩ := Option.map_eq_some_iff.1 hx
  obtain ⟨a, ha, _, hac⟩ := h j y hy
  exact ⟨a, ha, hac⟩
theorem OL.lit0 {α : Type} {B : Nat} {e : TypeId} {f : α → Value} (W : World) (hB : B ≤ W.heap.size) : OL (W.alloc (.cells #[] e)) B e 1 (one f) (.slice (some ⟨W.heap.size, 0, none⟩) 0 0) ([] : List α) :=
  World.ownsRow_lit (base := B) (e := e) (size := 1) W #[] 0 hB (by unfold maxLen; omega) rfl
theorem step_cat {P : Program} {α : Type} {w : World} {B : Nat} {e : TypeId} {size bytes : Nat} {f : α → List Value} {ops : Array Oper} {o : Oper} {a : Act} {K : Act → World → Prop} {Q : Exit → Act → World → Prop} {D : Prop} (hgd : o.guard = none) (s x : Operand) (t : TypeId)
    (ho : o.op = .call { callee := .builtin .append, args := #[s, x], argTypes := #[t, t] }) (E : Elem P t e size bytes) (hf : ∀ x, (f x).length = size) (v : Value) (l : List α) (hs : a.eval s = v) (h : OL w B e size f v l) (A : Option Addr) (m : List α) (k c : Nat) (hk : m.length = k) (hx : a.eval x = .slice A k c) (hc0 : A = none → c = 0)
    (hA : ∀ j x, (m.flatMap f)[j]? = some x → ∃ a, A = some a ∧ w.cell? (a.add j) = some x) (hone : ∀ x ∈ m, ∀ u ∈ f x, u.oneCell' = true) (h63 : l.length + k ≤ maxLen) (hby : (l.length + k) * bytes ≤ 140737488355328) (hB : B ≤ w.heap.size)
    (hk' : ∀ v' w', OL w' B e size f v' (l ++ m) → w.grownBy w' v.ownBlock → Below B w w' → K (a.put o.dst v') w') :
    if Region.wanted o (yielded ops a.tmps) = true then Oper.wp P o a w K Q else D := by
  have hw : Region.wanted o (yielded ops a.tmps) = true := by simp [Region.wanted, hgd]
  rw [if_pos hw]
  obtain ⟨v', w', r1, r2, r3, r4⟩ := h.run_cat (P := P) E o.type hf A m k c hk hc0 hA hone h63 hby hB
  unfold Oper.wp execOp
  simp only [ho, resolve, invoke, builtin, Sem.run_bind, Sem.run_pure, Result.andThen_ok, List.map_toArray, List.map_cons, List.map_nil, hs, hx, r1]
  exact hk' v' w' r2 r3 r4

end Go.Proofs.YtjelniemoambaaaDoor
