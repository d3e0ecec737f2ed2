/-
  An append of one element leaves the cells of the row as they were, whether the row moves or not. Conditions: each law's own.
-/
import Derived.Test.YtllmciiadceinaaGreatDoorOwn
import Derived.Test.YtllmciiadceinaaGreatDoorByteRow
namespace Go.Proofs.YtllmciiadceinaaGreatDoor
open Go Go.RowKit

section
variable {α : Type} {P : Program} {w : World} {B : Nat} {e : TypeId} {φ : α → Value} {l : List α} {t : TypeId} {bytes : Nat}
theorem OL.crow {g n cap : Nat} (h : OL w B e 1 (one φ) (.slice (some ⟨g, 0, none⟩) n cap) l) (hn : 0 < l.length) : CRow w B g cap φ l := by
  have hl := h.len.1
  have h' : w.ownsRow B e 1 (.slice (some ⟨g, 0, none⟩) n cap) n (l.map φ) := by
    have := h
    unfold OL at this
    rw [flatMap_one, ← hl] at this
    exact this
  obtain ⟨g', cap', he, hc⟩ := CRow.of_own h' (by omega)
  cases he
  exact hc
theorem app_keeps {g cap : Nat} (hr : CRow w B g cap φ l) (E : Elem P t e 1 bytes) (ty : TypeId) (a : Addr) (c : Nat) (x : α) (hx : w.cell? a = some (φ x)) (h63 : l.length + 1 ≤ maxLen) (hbytes : (l.length + 1) * bytes ≤ 140737488355328) {v' : Value} {w' : World}
    (hrun' : (Builtin.append_ #[t, t] ty #[.slice (some ⟨g, 0, none⟩) l.length cap, .slice (some a) 1 c]).run P w = .ok v' w') (h1 : (φ x).oneCell' = true) : ∀ j, j < l.length → w'.cell? ⟨g, j, none⟩ = w.cell? ⟨g, j, none⟩ := by
  obtain ⟨i, z, hi, hz, hsize, hby, hzs⟩ := E.info
  have hnews : ∀ j u, [φ x][j]? = some u → w.cell? (a.add j) = some u := fun j u hu => by
    match j with
    | 0 => simp at hu; subst hu; rw [show a.add 0 = a from by simp [Addr.add]]; exact hx
    | j + 1 => simp at hu
  by_cases hroom : l.length + 1 ≤ cap
  · have hsp := hr.spare l.length (by omega)
    have hrun := run_append_room_cells (P := P) w t ty e i E.ht hi g 0 l.length cap a 1 c [φ x] (by rw [hsize]; rfl) hnews (fun u hu => by obtain rfl := List.mem_singleton.1 hu; exact h1) hroom
      (fun j hj => by obtain rfl : j = 0 := by simpa using hj
                      rw [hsize, Nat.mul_one, Nat.zero_add, Nat.add_zero]; exact hsp.1)
      (fun j hj => by obtain rfl : j = 0 := by simpa using hj
                      rw [hsize, Nat.mul_one, Nat.zero_add, Nat.add_zero]; exact hsp.2)
    rw [hsize, Nat.mul_one, Nat.zero_add] at hrun
    rw [show w.setCells g l.length [φ x] = w.setCell ⟨g, l.length, none⟩ (φ x) from rfl] at hrun
    rw [hrun] at hrun'
    cases hrun'
    intro j hj
    exact World.cell?_setCell_other _ _ _ _ (fun q => by have := congrArg Addr.off q; simp at this; omega)
  · obtain ⟨v2, w2, hrun, r1, r2⟩ := run_append_arg_grows (P := P) w t ty e i z 1 bytes E.ht hi hz hsize hby hzs (by decide) ⟨g, 0, none⟩ l.length cap (l.map φ) (by simp)
      (fun j u hu => by
        rw [List.getElem?_map] at hu
        obtain ⟨y, hy, rfl⟩ := Option.map_eq_some_iff.1 hu
        rw [show (⟨g, 0, none⟩ : Addr).add j = ⟨g, j, none⟩ by simp [Addr.add]; omega]
        exact hr.cell j y hy) a 1 c [φ x] rfl hnews (by omega) h63 hbytes
    rw [hrun] at hrun'
    cases hrun'
    intro j hj
    exact World.cell?_of_block (a := ⟨g, j, none⟩) (r2.block g hr.lt (by simp))
/-- ONE ELEMENT MORE, at a step of a region; the old cells stand. -/
theorem step_app_keep {ops : Array Oper} {o : Oper} {a : Act} {K : Act → World → Prop} {Q : Exit → Act → World → Prop} {D : Prop} (hgd : o.guard = none) (s x : Operand)
    (ho : o.op = .call { callee := .builtin .append, args := #[s, x], argTypes := #[t, t] }) (E : Elem P t e 1 bytes) (g0 n cap : Nat) (hn : l.length = n) (hn0 : 0 < n) (hs : a.eval s = .slice (some ⟨g0, 0, none⟩) n cap) (h : OL w B e 1 (one φ) (.slice (some ⟨g0, 0, none⟩) n cap) l) (y : α) (b : Nat) (hx : a.eval x = .slice (some ⟨b, 0, none⟩) 1 1)
    (hb : w.heap[b]? = some (.cells #[φ y] e (0, 0))) (hone : (φ y).oneCell' = true) (h63 : n + 1 ≤ maxLen) (hby : (n + 1) * bytes ≤ 140737488355328) (hB : B ≤ w.heap.size)
    (hk : ∀ g cap' w', OL w' B e 1 (one φ) (.slice (some ⟨g, 0, none⟩) (n + 1) cap') (l ++ [y]) → (∀ j, j < n → w'.cell? ⟨g0, j, none⟩ = w.cell? ⟨g0, j, none⟩) → w.grownBy w' (some g0) → g < w'.heap.size → Below B w w' → K (a.put o.dst (.slice (some ⟨g, 0, none⟩) (n + 1) cap')) w') :
    if Region.wanted o (yielded ops a.tmps) = true then Oper.wp P o a w K Q else D := by
  subst hn
  have hw : Region.wanted o (yielded ops a.tmps) = true := by simp [Region.wanted, hgd]
  rw [if_pos hw]
  obtain ⟨g, cap', w', r1, r2, r3, r4, r5, r6⟩ := h.run_app (P := P) E o.type y b #[φ y] hb rfl rfl (fun u hu => by rw [List.mem_singleton.1 hu]; exact hone) h63 hby hB
  have hkeep := app_keeps (P := P) (h.crow hn0) E o.type ⟨b, 0, none⟩ 1 y (by simp [World.cell?, hb]) h63 hby r1 hone
  unfold Oper.wp execOp
  simp only [ho, resolve, invoke, builtin, Sem.run_bind, Sem.run_pure, Result.andThen_ok, List.map_toArray, List.map_cons, List.map_nil, hs, hx, r1]
  exact hk g cap' w' r2 hkeep r3 r5 r6
end

end Go.Proofs.YtllmciiadceinaaGreatDoor
