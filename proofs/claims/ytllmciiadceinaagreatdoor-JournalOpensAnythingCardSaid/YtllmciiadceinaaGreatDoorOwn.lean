/-
  Slices that the call owns, nil let in, told as lists; one element appended. Conditions: each law's own.
-/
import Derived.Test.YtllmciiadceinaaGreatDoorMemLaws
import Derived.Deep.AppendLies
import Derived.Laws.OwnMore
import Derived.OwnWalk
import Derived.Maps.AppendAt
namespace Go.Proofs.YtllmciiadceinaaGreatDoor
open Go Go.RowKit

/-- A slice type with its element's size in cells and in bytes. -/
structure Elem (P : Program) (t e : TypeId) (size bytes : Nat) : Prop where
  ht : P.underlying t = some (.slice e)
  info : ∃ i z, P.info? e = some i ∧ i.zero = some z ∧ i.size = size ∧ i.bytes = bytes ∧ z.cells.size = size
  pos : 0 < size
theorem Elem.mk' {P : Program} {t e : TypeId} {z : Value} {size bytes : Nat} (ht : P.underlying t = some (.slice e)) (h : (P.info? e).map (fun i => (i.zero, i.size, i.bytes)) = some (some z, size, bytes)) (hz : z.cells.size = size) (hp : 0 < size) : Elem P t e size bytes := by
  obtain ⟨i, h1, h2, h3, h4⟩ := info_parts h
  exact ⟨ht, ⟨i, z, h1, h2, h3, h4, hz⟩, hp⟩

def one {α : Type} (f : α → Value) (x : α) : List Value := [f x]
/-- The slice v, of the call's own from block B on, shows the list l, an element x as the cells f x. -/
def OL {α : Type} (w : World) (B : Nat) (e : TypeId) (size : Nat) (f : α → List Value) (v : Value) (l : List α) : Prop := w.ownsRow B e size v l.length (l.flatMap f)

theorem nil_or_snoc {α : Type} (l : List α) : l = [] ∨ ∃ m x, l = m ++ [x] := by
  rcases List.eq_nil_or_concat l with h | ⟨m, x, h⟩
  · exact .inl h
  · exact .inr ⟨m, x, by rw [h, List.concat_eq_append]⟩

section
variable {α : Type} {w w' : World} {B : Nat} {e : TypeId} {size : Nat} {f : α → List Value} {v : Value} {l : List α}
theorem flatMap_one {g : α → Value} : l.flatMap (one g) = l.map g := by unfold one; induction l with | nil => rfl | cons x l ih => rw [List.flatMap_cons, List.map_cons, ih]; rfl
theorem OL.nil : OL w B e size f (.slice none 0 0) [] := World.ownsRow_nil w B e size
theorem OL.form (h : OL w B e size f v l) (hn : 0 < l.length) : ∃ g cap, v = .slice (some ⟨g, 0, none⟩) l.length cap ∧ B ≤ g ∧ g < w.heap.size ∧ l.length ≤ cap ∧ cap ≤ maxLen := by
  rcases h.2 with ⟨_, h0⟩ | ⟨g, cap, cur, hv, hb, hg, hc, hm, _⟩
  · omega
  · exact ⟨g, cap, hv, hb, (Array.getElem?_eq_some_iff.1 hg).1, hc, hm⟩
theorem OL.slice (h : OL w B e size f v l) : ∃ A cap, v = .slice A l.length cap ∧ l.length ≤ cap ∧ cap ≤ maxLen := by
  rcases h.2 with ⟨rfl, h0⟩ | ⟨g, cap, cur, hv, hb, hg, hc, hm, _⟩
  · exact ⟨none, 0, by rw [h0], by omega, by unfold maxLen; omega⟩
  · exact ⟨_, cap, hv, hc, hm⟩
theorem OL.lt (h : OL w B e size f v l) : ∀ g, v.ownBlock = some g → B ≤ g ∧ g < w.heap.size := World.ownsRow.lt h
theorem OL.keep (h : OL w B e size f v l) (hs : ∀ g, v.ownBlock = some g → w'.heap[g]? = w.heap[g]?) : OL w' B e size f v l := by
  refine ⟨h.1, ?_⟩
  rcases h.2 with hn | ⟨g, cap, cur, rfl, hb, hg, r⟩
  · exact .inl hn
  · exact .inr ⟨g, cap, cur, rfl, hb, (hs g rfl).trans hg, r⟩
theorem OL.below (h : OL w B e size f v l) {n : Nat} (hb : Below n w w') (hn : w.heap.size ≤ n) : OL w' B e size f v l := h.keep fun g hg => hb.block g (by have := (h.lt g hg).2; omega)
theorem OL.alloc (h : OL w B e size f v l) (o : Obj) : OL (w.alloc o) B e size f v l := World.ownsRow.alloc h o
theorem OL.drew (h : OL w B e size f v l) : OL w.drew B e size f v l := h
theorem OL.drewN (h : OL w B e size f v l) (n : Nat) : OL (w.drewN n) B e size f v l := h.keep fun _ _ => rfl
theorem OL.grown {row : Option Nat} (h : OL w B e size f v l) (hg : w.grownBy w' row) (hne : ∀ g, v.ownBlock = some g → row ≠ some g) : OL w' B e size f v l :=
  h.keep fun g hv => hg.block g (h.lt g hv).2 (hne g hv).symm
theorem OL.base {B' : Nat} (h : OL w B e size f v l) (hB : B' ≤ B) : OL w B' e size f v l := by
  refine ⟨h.1, ?_⟩
  rcases h.2 with hn | ⟨g, cap, cur, rfl, hb, r⟩
  · exact .inl hn
  · exact .inr ⟨g, cap, cur, rfl, by omega, r⟩
/-- Rows of two types of elements lie apart. -/
theorem OL.apart {β : Type} {B' : Nat} {e' : TypeId} {size' : Nat} {f' : β → List Value} {v' : Value} {l' : List β} (h : OL w B e size f v l) (h' : OL w B' e' size' f' v' l') (hne : e ≠ e') : ∀ g, v.ownBlock = some g → v'.ownBlock ≠ some g := by
  intro g hg hg'
  rcases h.2 with ⟨rfl, _⟩ | ⟨g1, cap, cur, rfl, hb, h1, r⟩
  · cases hg
  · rcases h'.2 with ⟨rfl, _⟩ | ⟨g2, cap2, cur2, rfl, hb2, h2, r2⟩
    · cases hg'
    · cases hg; cases hg'
      rw [h1] at h2
      cases h2
      exact hne rfl
theorem flatMap_length (hf : ∀ x, (f x).length = size) : (l.flatMap f).length = l.length * size := by
  induction l with
  | nil => simp
  | cons x l ih => rw [List.flatMap_cons, List.length_append, ih, hf, List.length_cons, Nat.succ_mul, Nat.add_comm]
theorem flatMap_take (hf : ∀ x, (f x).length = size) (k : Nat) : (l.flatMap f).take (k * size) = (l.take k).flatMap f := by
  induction l generalizing k with
  | nil => simp
  | cons x l ih => cases k with
    | zero => simp
    | succ k =>
      rw [List.flatMap_cons, List.take_succ_cons, List.flatMap_cons, List.take_append, hf, Nat.succ_mul, List.take_of_length_le (by rw [hf]; omega), Nat.add_sub_cancel, ih]
theorem OL.take {A : Option Addr} {n cap : Nat} (h : OL w B e size f (.slice A n cap) l) (hf : ∀ x, (f x).length = size) (k : Nat) (hk : k ≤ l.length) (hA : A ≠ none) : OL w B e size f (.slice A k cap) (l.take k) := by
  have hkl : (l.take k).length = k := by simp; omega
  refine ⟨by rw [hkl]; rw [flatMap_length hf, hkl], ?_⟩
  rcases h.2 with ⟨he, _⟩ | ⟨g, cap', cur, he, hb, hg, hc, hm, hs, ht⟩
  · injection he with h1 h2 h3; exact (hA h1).elim
  · injection he with h1 h2 h3
    subst h1 h3
    refine .inr ⟨g, cap, cur, by rw [hkl], hb, hg, by omega, hm, hs, ?_⟩
    rw [hkl, ← flatMap_take hf, ← ht, List.take_take, Nat.min_eq_left (Nat.mul_le_mul_right _ hk)]
theorem OL.get {g : Nat} {n cap : Nat} {φ : α → Value} (h : OL w B e 1 (one φ) (.slice (some ⟨g, 0, none⟩) n cap) l) {i : Nat} (hi : i < l.length) : w.cell? ⟨g, i, none⟩ = some (φ l[i]) := by
  have hn : n = l.length := by
    rcases h.2 with ⟨he, _⟩ | ⟨g', cap', cur, he, _⟩
    · cases he
    · injection he
  subst hn
  rw [World.ownsRow.cellAt h i (by omega), flatMap_one, List.getElem?_map, List.getElem?_eq_getElem hi]; rfl
theorem OL.getq {g : Nat} {n cap : Nat} {φ : α → Value} (h : OL w B e 1 (one φ) (.slice (some ⟨g, 0, none⟩) n cap) l) {i : Nat} {x : α} (hi : l[i]? = some x) : w.cell? ⟨g, i, none⟩ = some (φ x) := by
  obtain ⟨h1, h2⟩ := List.getElem?_eq_some_iff.1 hi
  rw [h.get h1, h2]
theorem OL.len {A : Option Addr} {n cap : Nat} (h : OL w B e size f (.slice A n cap) l) : n = l.length ∧ n ≤ cap ∧ cap ≤ maxLen := by
  obtain ⟨A', c', he, h1, h2⟩ := h.slice
  injection he with _ e2 e3
  subst e3
  exact ⟨e2, by omega, h2⟩
theorem OL.free {g : Nat} {cap : Nat} (h : OL w B e size f (.slice (some ⟨g, 0, none⟩) l.length cap) l) (i : Nat) : w.frozen? ⟨g, i, none⟩ = false := World.ownsRow.frozenAt h i
theorem OL.lat {A : Option Addr} {n cap : Nat} {φ : α → Value} (h : OL w B e 1 (one φ) (.slice A n cap) l) : LAt w w.heap.size A φ l := by
  intro i x hx
  have hi : i < l.length := (List.getElem?_eq_some_iff.1 hx).1
  obtain ⟨g, cap', he, _, hlt, _⟩ := h.form (by omega)
  cases he
  refine ⟨_, rfl, hlt, ?_⟩
  rw [show (⟨g, 0, none⟩ : Addr).add i = ⟨g, i, none⟩ by simp [Addr.add]; omega, h.get hi, (List.getElem?_eq_some_iff.1 hx).2]
theorem Below.of_grown {row : Option Nat} (h : w.grownBy w' row) (hr : ∀ g, row = some g → B ≤ g) (hB : B ≤ w.heap.size) : Below B w w' :=
  ⟨h.os, h.tape, h.output, h.size, fun k hk => h.block k (by omega) (fun e => by have := hr k e.symm; omega)⟩

variable {P : Program} {t : TypeId} {bytes : Nat}
/-- ONE ELEMENT MORE. -/
theorem OL.run_app (E : Elem P t e size bytes) (ty : TypeId) (h : OL w B e size f v l) (y : α) (b : Nat) (cs : Array Value) (hb : w.heap[b]? = some (.cells cs e (0, 0))) (hcs : cs.toList = f y) (hfy : (f y).length = size) (hone : ∀ u ∈ f y, u.oneCell' = true)
    (h63 : l.length + 1 ≤ maxLen) (hby : (l.length + 1) * bytes ≤ 140737488355328) (hB : B ≤ w.heap.size) :
    ∃ g cap w', (Builtin.append_ #[t, t] ty #[v, .slice (some ⟨b, 0, none⟩) 1 1]).run P w = .ok (.slice (some ⟨g, 0, none⟩) (l.length + 1) cap) w' ∧
      OL w' B e size f (.slice (some ⟨g, 0, none⟩) (l.length + 1) cap) (l ++ [y]) ∧ w.grownBy w' v.ownBlock ∧ (v.ownBlock = some g ∨ g = w.heap.size) ∧ g < w'.heap.size ∧ Below B w w' := by
  obtain ⟨i, z, h1, h2, h3, h4, h5⟩ := E.info
  obtain ⟨g, cap, w', r1, r2, r3, r4, r5⟩ := run_append_lies (P := P) w t ty B e i z size bytes E.ht h1 h2 h3 h4 h5 E.pos v l.length (l.flatMap f) h ⟨b, 0, none⟩ 1 1 (f y) (by rw [hfy]; omega)
    (by rw [← hcs]; exact World.news_of_block hb) hone (by decide) h63 hby hB w.heap.size rfl
  refine ⟨g, cap, w', r1, ?_, r3, r4, r5, Below.of_grown r3 (fun g hg => (h.lt g hg).1) hB⟩
  unfold OL
  rw [List.flatMap_append, List.length_append]
  simpa using r2
/-- A LIST MORE. -/
theorem OL.run_cat (E : Elem P t e size bytes) (ty : TypeId) (h : OL w B e size f v l) (hf : ∀ x, (f x).length = size) (A : Option Addr) (m : List α) (k c : Nat) (hk : m.length = k) (hc0 : A = none → c = 0) (hA : ∀ j x, (m.flatMap f)[j]? = some x → ∃ a, A = some a ∧ w.cell? (a.add j) = some x) (hone : ∀ x ∈ m, ∀ u ∈ f x, u.oneCell' = true)
    (h63 : l.length + k ≤ maxLen) (hby : (l.length + k) * bytes ≤ 140737488355328) (hB : B ≤ w.heap.size) :
    ∃ v' w', (Builtin.append_ #[t, t] ty #[v, .slice A k c]).run P w = .ok v' w' ∧ OL w' B e size f v' (l ++ m) ∧ w.grownBy w' v.ownBlock ∧ Below B w w' := by
  subst hk
  obtain ⟨i, z, h1, h2, h3, h4, h5⟩ := E.info
  have hlen := flatMap_length (l := m) hf
  cases A with
  | none =>
    have hm : m = [] := by
      cases m with
      | nil => rfl
      | cons x m =>
        have hp := E.pos
        have hfx := hf x
        obtain ⟨y, hy⟩ : ∃ y, ((x :: m).flatMap f)[0]? = some y := ⟨_, List.getElem?_eq_getElem (by rw [hlen, List.length_cons, Nat.succ_mul]; omega)⟩
        obtain ⟨a, ha, _⟩ := hA 0 y hy
        cases ha
    subst hm
    refine ⟨v, w, ?_, by simpa using h, ⟨rfl, rfl, rfl, Nat.le_refl _, fun _ _ _ => rfl⟩, Below.refl _ _⟩
    obtain rfl := hc0 rfl
    exact run_append_owned_none (P := P) w B t ty e i size E.ht h1 v l.length (l.flatMap f) h
  | some a =>
    obtain ⟨v', w', r1, r2, r3, _, r5⟩ := run_append_own_at (P := P) w B t ty e i z size bytes E.ht h1 h2 h3 h4 h5 E.pos v l.length (l.flatMap f) h a m.length c (m.flatMap f) hlen (fun j u hu => by
        obtain ⟨a', ha, hc⟩ := hA j u hu
        cases ha; exact hc) (fun u hu => by
        obtain ⟨x, hx, hux⟩ := List.mem_flatMap.1 hu
        exact hone x hx u hux) h63 hby hB
    refine ⟨v', w', r1, ?_, r3, Below.of_grown r3 (fun g hg => (h.lt g hg).1) hB⟩
    unfold OL
    rw [List.flatMap_append, List.length_append]
    exact r2
theorem wpList_cat {ops : Array Oper} {rest : List Oper} {o : Oper} {a : Act} {Q : Exit → Act → World → Prop} (hgd : o.guard = none) (s x : Operand) (t : TypeId)
    (ho : o.op = .call { callee := .builtin .append, args := #[s, x], argTypes := #[t, t] }) (E : Elem P t e size bytes) (hf : ∀ x, (f x).length = size) (v : Value) (l : List α) (hs : a.eval s = v) (h : OL w B e size f v l) (A : Option Addr) (m : List α) (k c : Nat) (hk : m.length = k) (hx : a.eval x = .slice A k c) (hc0 : A = none → c = 0)
    (hA : ∀ j x, (m.flatMap f)[j]? = some x → ∃ a, A = some a ∧ w.cell? (a.add j) = some x) (hone : ∀ x ∈ m, ∀ u ∈ f x, u.oneCell' = true) (h63 : l.length + k ≤ maxLen) (hby : (l.length + k) * bytes ≤ 140737488355328) (hB : B ≤ w.heap.size)
    (hk' : ∀ v' w', OL w' B e size f v' (l ++ m) → w.grownBy w' v.ownBlock → Below B w w' → wpList P ops Q rest (a.put o.dst v') w') : wpList P ops Q (o :: rest) a w := by
  refine wpList_plain hgd fun K hK => ?_
  obtain ⟨v', w', r1, r2, r3, r4⟩ := h.run_cat (P := P) E o.type hf A m k c hk hc0 hA hone h63 hby hB
  unfold Oper.wp execOp
  simp only [ho, resolve, invoke, builtin, Sem.run_bind, Sem.run_pure, Result.andThen_ok, List.map_toArray, List.map_cons, List.map_nil, hs, hx, r1]
  exact hK _ _ (hk' v' w' r2 r3 r4)
theorem wpList_app {ops : Array Oper} {rest : List Oper} {o : Oper} {a : Act} {Q : Exit → Act → World → Prop} (hgd : o.guard = none) (s x : Operand) (t : TypeId)
    (ho : o.op = .call { callee := .builtin .append, args := #[s, x], argTypes := #[t, t] }) (E : Elem P t e size bytes) (v : Value) (l : List α) (n : Nat) (hn : l.length = n) (hs : a.eval s = v) (h : OL w B e size f v l) (y : α) (b : Nat) (cs : Array Value) (hx : a.eval x = .slice (some ⟨b, 0, none⟩) 1 1)
    (hb : w.heap[b]? = some (.cells cs e (0, 0))) (hcs : cs.toList = f y) (hfy : (f y).length = size) (hone : ∀ u ∈ f y, u.oneCell' = true) (h63 : l.length + 1 ≤ maxLen) (hby : (l.length + 1) * bytes ≤ 140737488355328) (hB : B ≤ w.heap.size)
    (hk : ∀ g cap w', OL w' B e size f (.slice (some ⟨g, 0, none⟩) (n + 1) cap) (l ++ [y]) → w.grownBy w' v.ownBlock → (v.ownBlock = some g ∨ g = w.heap.size) → g < w'.heap.size → Below B w w' → wpList P ops Q rest (a.put o.dst (.slice (some ⟨g, 0, none⟩) (n + 1) cap)) w') :
    wpList P ops Q (o :: rest) a w := by
  subst hn
  refine wpList_plain hgd fun K hK => ?_
  obtain ⟨g, cap, w', r1, r2, r3, r4, r5, r6⟩ := h.run_app (P := P) E o.type y b cs hb hcs hfy hone h63 hby hB
  unfold Oper.wp execOp
  simp only [ho, resolve, invoke, builtin, Sem.run_bind, Sem.run_pure, Result.andThen_ok, List.map_toArray, List.map_cons, List.map_nil, hs, hx, r1]
  exact hK _ _ (hk g cap w' r2 r3 r4 r5 r6)
theorem step_app {ops : Array Oper} {o : Oper} {a : Act} {K : Act → World → Prop} {Q : Exit → Act → World → Prop} {D : Prop} (hgd : o.guard = none) (s x : Operand) (t : TypeId)
    (ho : o.op = .call { callee := .builtin .append, args := #[s, x], argTypes := #[t, t] }) (E : Elem P t e size bytes) (v : Value) (l : List α) (n : Nat) (hn : l.length = n) (hs : a.eval s = v) (h : OL w B e size f v l) (y : α) (b : Nat) (cs : Array Value) (hx : a.eval x = .slice (some ⟨b, 0, none⟩) 1 1)
    (hb : w.heap[b]? = some (.cells cs e (0, 0))) (hcs : cs.toList = f y) (hfy : (f y).length = size) (hone : ∀ u ∈ f y, u.oneCell' = true) (h63 : l.length + 1 ≤ maxLen) (hby : (l.length + 1) * bytes ≤ 140737488355328) (hB : B ≤ w.heap.size)
    (hk : ∀ g cap w', OL w' B e size f (.slice (some ⟨g, 0, none⟩) (n + 1) cap) (l ++ [y]) → w.grownBy w' v.ownBlock → (v.ownBlock = some g ∨ g = w.heap.size) → g < w'.heap.size → Below B w w' → K (a.put o.dst (.slice (some ⟨g, 0, none⟩) (n + 1) cap)) w') :
    if Region.wanted o (yielded ops a.tmps) = true then Oper.wp P o a w K Q else D := by
  subst hn
  have hw : Region.wanted o (yielded ops a.tmps) = true := by simp [Region.wanted, hgd]
  rw [if_pos hw]
  obtain ⟨g, cap, w', r1, r2, r3, r4, r5, r6⟩ := h.run_app (P := P) E o.type y b cs hb hcs hfy hone h63 hby hB
  unfold Oper.wp execOp
  simp only [ho, resolve, invoke, builtin, Sem.run_bind, Sem.run_pure, Result.andThen_ok, List.map_toArray, List.map_cons, List.map_nil, hs, hx, r1]
  exact hk g cap w' r2 r3 r4 r5 r6
end

end Go.Proofs.YtllmciiadceinaaGreatDoor
