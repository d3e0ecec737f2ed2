/-
  Contracts of slices.Sorted, slices.Compact, slices.DeleteFunc at []int on slices of the call's own; Crash's closure; which pending writes survive. Conditions: each contract's own.
-/
import Derived.Test.YtllmciiadceinaaGreatDoorDiskP
import Derived.Test.YtllmciiadceinaaGreatDoorShelf
import Derived.Sort.OwnSortedInts
import Derived.Lib.RowBridge
namespace Go.Proofs.YtllmciiadceinaaGreatDoor
open Go Go.RowKit Go.Shelf Go.Sort

/-- The places of pending writes that survive, of m. -/
def ordS (keep : List Int) (m : Nat) : List Nat := (List.range m).filter fun i => decide ((i : Int) ∈ keep)
theorem eq_of_lt_of_mem : ∀ {l m : List Int}, l.Pairwise (· < ·) → m.Pairwise (· < ·) → (∀ x, x ∈ l ↔ x ∈ m) → l = m
  | [], [], _, _, _ => rfl
  | [], y :: m, _, _, h => by have := (h y).2 (List.mem_cons_self ..); cases this
  | x :: l, [], _, _, h => by have := (h x).1 (List.mem_cons_self ..); cases this
  | x :: l, y :: m, hl, hm, h => by
    rw [List.pairwise_cons] at hl hm
    have hxy : x = y := by
      have h1 := (h x).1 (List.mem_cons_self ..)
      have h2 := (h y).2 (List.mem_cons_self ..)
      rcases List.mem_cons.1 h1 with e | e
      · exact e
      · rcases List.mem_cons.1 h2 with e2 | e2
        · exact e2.symm
        · have := hm.1 x e; have := hl.1 y e2; omega
    subst hxy
    congr 1
    refine eq_of_lt_of_mem hl.2 hm.2 fun z => ⟨fun hz => ?_, fun hz => ?_⟩
    · rcases List.mem_cons.1 ((h z).1 (List.mem_cons_of_mem _ hz)) with e | e
      · subst e; have := hl.1 z hz; omega
      · exact e
    · rcases List.mem_cons.1 ((h z).2 (List.mem_cons_of_mem _ hz)) with e | e
      · subst e; have := hm.1 z hz; omega
      · exact e
theorem compactUpTo_spec (d : Array Int) (hs : ∀ i j, i ≤ j → j < d.size → d[i]! ≤ d[j]!) : ∀ m, m ≤ d.size → (Lib.compactUpTo d m).Pairwise (· < ·) ∧ ∀ x, x ∈ Lib.compactUpTo d m ↔ ∃ j, j < m ∧ d[j]! = x
  | 0, _ => ⟨by simp [Lib.compactUpTo], fun x => by simp [Lib.compactUpTo]⟩
  | m + 1, hm => by
    obtain ⟨h1, h2⟩ := compactUpTo_spec d hs m (by omega)
    rw [Lib.compactUpTo_succ]
    by_cases hk : Lib.keeps d m = true
    · rw [if_pos hk]
      refine ⟨?_, fun x => ?_⟩
      · rw [List.pairwise_append]
        refine ⟨h1, List.pairwise_singleton _ _, fun x hx y hy => ?_⟩
        obtain rfl := List.mem_singleton.1 hy
        obtain ⟨j, hj, rfl⟩ := (h2 x).1 hx
        have hne : m = 0 ∨ d[m]! ≠ d[m - 1]! := by simpa [Lib.keeps] using hk
        have a1 := hs j (m - 1) (by omega) (by omega)
        have a2 := hs (m - 1) m (by omega) (by omega)
        rcases hne with e | e
        · omega
        · omega
      · rw [List.mem_append, List.mem_singleton, h2 x]
        constructor
        · rintro (⟨j, hj, e⟩ | rfl)
          · exact ⟨j, by omega, e⟩
          · exact ⟨m, by omega, rfl⟩
        · rintro ⟨j, hj, e⟩
          by_cases hjm : j = m
          · subst hjm; exact .inr e.symm
          · exact .inl ⟨j, by omega, e⟩
    · rw [if_neg hk, List.append_nil]
      refine ⟨h1, fun x => ?_⟩
      rw [h2 x]
      have hne : ¬ (m = 0 ∨ d[m]! ≠ d[m - 1]!) := by simpa [Lib.keeps] using hk
      constructor
      · rintro ⟨j, hj, e⟩; exact ⟨j, by omega, e⟩
      · rintro ⟨j, hj, e⟩
        by_cases hjm : j = m
        · subst hjm
          refine ⟨j - 1, by omega, ?_⟩
          have : d[j]! = d[j - 1]! := by
            rcases Decidable.em (d[j]! = d[j - 1]!) with q | q
            · exact q
            · exact absurd (.inr q) hne
          rw [← this]; exact e
        · exact ⟨j, by omega, e⟩
/-- Sorted, without repetitions, within bounds: just the places. -/
theorem order_eq (keep : List Int) (m : Nat) : ((Lib.compact (keep.mergeSort fun x y => decide (x ≤ y))).filter fun i => !decide (i < 0 ∨ (m : Int) ≤ i)) = (ordS keep m).map (fun (i : Nat) => (i : Int)) := by
  obtain ⟨ss, hss⟩ : ∃ ss, (keep.mergeSort fun x y => decide (x ≤ y)) = ss := ⟨_, rfl⟩
  have hp : ss.Perm keep := by rw [← hss]; exact List.mergeSort_perm _ _
  have hsort : ss.Pairwise (fun x y => x ≤ y) := by
    rw [← hss]
    have := List.pairwise_mergeSort (le := fun (x y : Int) => decide (x ≤ y)) (fun a b c h1 h2 => by simp at h1 h2 ⊢; omega) (fun a b => by simp; omega) keep
    exact this.imp (fun h => by simpa using h)
  rw [hss]
  have hd : ∀ i j, i ≤ j → j < ss.toArray.size → ss.toArray[i]! ≤ ss.toArray[j]! := fun i j hij hj => by
    have hj' : j < ss.length := by simpa using hj
    rw [getElem!_pos _ i (by simp; omega), getElem!_pos _ j hj]
    rcases Nat.lt_or_ge i j with h | h
    · have := List.pairwise_iff_getElem.1 hsort i j (by omega) hj' h
      simpa using this
    · have : i = j := by omega
      subst this; exact Int.le_refl _
  obtain ⟨h1, h2⟩ := compactUpTo_spec ss.toArray hd ss.length (by simp)
  refine eq_of_lt_of_mem (h1.filter _) ?_ fun x => ?_
  · refine List.Pairwise.map _ (fun a b (h : a < b) => by omega) ?_
    exact (List.pairwise_lt_range).filter _
  · rw [List.mem_filter, List.mem_map]
    show x ∈ Lib.compactUpTo ss.toArray ss.length ∧ _ ↔ _
    rw [h2 x]
    constructor
    · rintro ⟨⟨j, hj, e⟩, hx⟩
      have hx' : ¬ (x < 0 ∨ (m : Int) ≤ x) := by simpa using hx
      refine ⟨x.toNat, ?_, by omega⟩
      unfold ordS
      rw [List.mem_filter]
      refine ⟨by simp; omega, ?_⟩
      rw [show ((x.toNat : Nat) : Int) = x by omega]
      rw [getElem!_pos _ j (by simpa using hj)] at e
      have : x ∈ ss := by rw [← e]; simp
      simp [hp.mem_iff.1 this]
    · rintro ⟨i, hi, rfl⟩
      unfold ordS at hi
      rw [List.mem_filter] at hi
      have hk : (i : Int) ∈ keep := by simpa using hi.2
      have him : i < m := by simpa using hi.1
      obtain ⟨j, hj, e⟩ := List.getElem_of_mem (hp.mem_iff.2 hk)
      refine ⟨⟨j, hj, ?_⟩, by simp; omega⟩
      rw [getElem!_pos _ j (by simpa using hj)]
      simpa using e

theorem filter_length_le' {α : Type} (p : α → Bool) (l : List α) : (l.filter p).length ≤ l.length := List.length_filter_le _ _

section
variable {w : World} {B g n cap : Nat} {e : TypeId} {l : List Int}
theorem OL.holds (h : OL w B e 1 (one iv) (.slice (some ⟨g, 0, none⟩) n cap) l) : Holds (Value.int .i64) w g 0 l.toArray := by
  rcases h.2 with ⟨he, _⟩ | ⟨g', cap', cur, he, hb, hg, hc, hm, hs, ht⟩
  · cases he
  · cases he
    refine holds_of_blockI hg ?_
    rw [Nat.mul_one, flatMap_one] at ht
    exact ht
theorem OL.rowed (h : OL w B e 1 (one iv) (.slice (some ⟨g, 0, none⟩) n cap) l) (ts : List Int) (hts : ts.length = l.length) (q : Nat) (os : Array Obj) (k : Nat) (hk : k ≤ l.length) :
    OL (grow (putRow (Value.int .i64) (Sort.ahead w q) g 0 ts.toArray) os) B e 1 (one iv) (.slice (some ⟨g, 0, none⟩) k cap) (ts.take k) := by
  rcases h.2 with ⟨he, _⟩ | ⟨g', cap', cur, he, hb, hg, hc, hm, hs, ht⟩
  · cases he
  · cases he
    have := ownsRow_sortedI (n := q) (os := os) hts hb hg hc hm hs
    have h2 : OL (grow (putRow (Value.int .i64) (Sort.ahead w q) g 0 ts.toArray) os) B e 1 (one iv) (.slice (some ⟨g, 0, none⟩) l.length cap) ts := by
      unfold OL; rw [flatMap_one, hts]; exact this
    rw [← hts] at hk
    exact h2.take (fun _ => rfl) k hk (by simp)
end
/-- What such a call leaves. -/
structure RowOf (w w' : World) (B : Nat) (v v' : Value) (m : List Int) : Prop where
  ol : OL w' B 3 1 (one iv) v' m
  own : v'.ownBlock = v.ownBlock
  turns : Turns (fun k => v.ownBlock = some k) w w'
theorem Turns.of_grown {w w' : World} {o : Option Nat} (h : w.grownBy w' o) : Turns (fun k => o = some k) w w' := ⟨h.os, h.tape, h.output, h.size, fun k hk hz => h.block k hk (fun e => hz e.symm)⟩
theorem RowOf.trans {a b c : World} {B : Nat} {u v x : Value} {l m : List Int} (h : RowOf a b B u v l) (k : RowOf b c B v x m) : RowOf a c B u x m :=
  ⟨k.ol, k.own.trans h.own, h.turns.trans (k.turns.mono fun _ e => h.own ▸ e)⟩

set_option maxHeartbeats 2000000 in
theorem sort_walk {w : World} {B : Nat} {v : Value} {l : List Int} (h : OL w B 3 1 (one iv) v l) (hl : l.length ≤ 1000000) :
    Calls Tryz.prog 90 #[v] w fun e w' => e = .returned (.tuple #[]) ∧ RowOf w w' B v v (l.mergeSort fun x y => decide (x ≤ y)) := by
  rcases Nat.eq_zero_or_pos l.length with h0 | h0
  · obtain ⟨A, c, rfl, _, _⟩ := h.slice
    obtain rfl := List.length_eq_zero_iff.1 h0
    refine (Tryz.slices_Sort_int_none A c w).mono ?_
    rintro e w' ⟨rfl, rfl⟩
    exact ⟨rfl, by simpa using h, rfl, Turns.refl _ _⟩
  · obtain ⟨g, c, rfl, _, hg, _, _⟩ := h.form h0
    refine (Tryz.slices_Sort_int g 0 c l w h.holds hg (by omega)).mono ?_
    rintro e w' ⟨rfl, q, os, rfl⟩
    have := h.rowed (l.mergeSort fun x y => decide (x ≤ y)) (by simp) q os l.length (Nat.le_refl _)
    rw [List.take_of_length_le (by simp)] at this
    exact ⟨rfl, this, rfl, Turns.of_grown (grownBy_sortedI _)⟩
set_option maxHeartbeats 2000000 in
theorem compact_walk {w : World} {B : Nat} {v : Value} {l : List Int} (h : OL w B 3 1 (one iv) v l) (hl : l.length ≤ 1000000) :
    Calls Tryz.prog 60 #[v] w fun e w' => ∃ v', e = .returned v' ∧ RowOf w w' B v v' (Lib.compact l) := by
  rcases Nat.eq_zero_or_pos l.length with h0 | h0
  · obtain ⟨A, c, rfl, _, _⟩ := h.slice
    obtain rfl := List.length_eq_zero_iff.1 h0
    refine (Tryz.slices_Compact_int_empty A c w).mono ?_
    rintro e w' ⟨rfl, rfl⟩
    exact ⟨_, rfl, by simpa [Lib.compact, Lib.compactUpTo] using h, rfl, Turns.refl _ _⟩
  · obtain ⟨g, c, rfl, _, hg, hc, _⟩ := h.form h0
    refine (Tryz.slices_Compact_int g 0 c l w h.holds (by omega) hc).mono ?_
    rintro e w' ⟨rfl, q, rfl⟩
    have hle := Lib.compact_length_le l
    have := h.rowed (Lib.compact l ++ List.replicate (l.length - (Lib.compact l).length) 0) (by simp; omega) q #[] (Lib.compact l).length hle
    rw [List.take_left, grow_empty] at this
    exact ⟨_, rfl, this, rfl, Turns.of_grown (by have := grownBy_sortedI (w := w) (g := g) (n := q) (os := #[]) (Lib.compact l ++ List.replicate (l.length - (Lib.compact l).length) 0).toArray; rwa [grow_empty] at this)⟩

set_option maxHeartbeats 2000000 in
theorem sorted_walk (A : Option Addr) (l : List Int) (n cap b1 : Nat) (hn : l.length = n) (hmax : n ≤ 1000000) (w : World) (h1 : Boxed w b1 56 (.slice A n cap)) (hA : LAt w w.heap.size A iv l) :
    Calls Tryz.prog 61 #[.func (.func 91) #[] #[.pointer (some ⟨b1, 0, none⟩)]] w fun e w' => ∃ v, e = .returned v ∧ OL w' w.heap.size 3 1 (one iv) v (l.mergeSort fun x y => decide (x ≤ y)) ∧ Below w.heap.size w w' := by
  have HC := Lib.hid (collect_walk A l n cap b1 hn hmax w h1 hA)
  have HN := Lib.hid (show l.length ≤ 1000000 by omega)
  clear h1 hA hn
  go_enter Tryz.func61, Tryz.ntmps61
  go_wp2_with (first
    | (go_at_call 89; refine HC.out.mono ?_; rintro e w1 ⟨v, rfl, ho, hb⟩; have HO := Lib.hid ho; have HB := Lib.hid hb; clear ho hb)
    | (go_at_call 90; refine (sort_walk HO.out HN.out).mono ?_; rintro e w2 ⟨rfl, hr⟩))
  go_ret
  exact ⟨_, rfl, hr.ol, hr.turns.below HB.out (Nat.le_refl _) (fun k e => (HO.out.lt k e).1)⟩

set_option maxHeartbeats 2000000 in
theorem crash1_walk (W : World) (b d m c : Nat) (A : Option Addr) (hb : W.cell? ⟨b, 0, none⟩ = some (.pointer (some ⟨d, 0, none⟩))) (hd : W.cell? ⟨d, 4, none⟩ = some (.slice A m c)) (x : Int) :
    Calls Tryz.prog 64 #[.int .i64 x, .pointer (some ⟨b, 0, none⟩)] W fun e W' => e = .returned (.bool (decide (x < 0 ∨ (m : Int) ≤ x))) ∧ W' = W := by
  by_cases h1 : x < 0
  · have d1 : decide (x < 0) = true := by simp [h1]
    rw [show decide (x < 0 ∨ (m : Int) ≤ x) = true by simp [h1]]
    go_enter Tryz.func64, Tryz.ntmps64
    go_wp2_with fail
    go_ret
    exact ⟨rfl, rfl⟩
  · have d1 : decide (x < 0) = false := by simp; omega
    obtain ⟨y, hy⟩ : ∃ y, decide ((m : Int) ≤ x) = y := ⟨_, rfl⟩
    rw [show decide (x < 0 ∨ (m : Int) ≤ x) = y by rw [← hy]; simp [h1]]
    have HY := Lib.hid hy
    clear hy
    go_enter Tryz.func64, Tryz.ntmps64
    go_wp2_with fail
    go_ret
    first | exact ⟨rfl, rfl⟩ | (rw [HY.out]; exact ⟨rfl, rfl⟩)

set_option maxHeartbeats 2000000 in
/-- slices.DeleteFunc with Crash's closure. -/
theorem delete_walk {w : World} {B : Nat} {v : Value} {l : List Int} (h : OL w B 3 1 (one iv) v l) (hl : l.length ≤ 1000000) (b d m c : Nat) (A : Option Addr) (hB : b < w.heap.size ∧ d < w.heap.size) (hv : v.ownBlock ≠ some b ∧ v.ownBlock ≠ some d)
    (hb : w.cell? ⟨b, 0, none⟩ = some (.pointer (some ⟨d, 0, none⟩))) (hd : w.cell? ⟨d, 4, none⟩ = some (.slice A m c)) :
    Calls Tryz.prog 63 #[v, .func (.func 64) #[] #[.pointer (some ⟨b, 0, none⟩)]] w fun e w' => ∃ v', e = .returned v' ∧ RowOf w w' B v v' (l.filter fun i => !decide (i < 0 ∨ (m : Int) ≤ i)) := by
  rcases Nat.eq_zero_or_pos l.length with h0 | h0
  · obtain ⟨A, c, rfl, _, _⟩ := h.slice
    obtain rfl := List.length_eq_zero_iff.1 h0
    have HR := Lib.hid (show RowOf w w B (.slice A 0 c) (.slice A 0 c) (([] : List Int).filter fun i => !decide (i < 0 ∨ (m : Int) ≤ i)) from ⟨h, rfl, Turns.refl _ _⟩)
    clear h
    have HI := Lib.hid (Tryz.slices_IndexFunc_empty_f92 (α := Int) A c (.func (.func 64) #[] #[.pointer (some ⟨b, 0, none⟩)]) w)
    go_enter Tryz.func63, Tryz.ntmps63
    go_wp2_with (go_at_call 92; refine HI.out.mono ?_; rintro e w1 ⟨rfl, rfl⟩)
    go_ret
    exact ⟨_, rfl, HR.out⟩
  · obtain ⟨g, c2, rfl, _, hg, hc, _⟩ := h.form h0
    have n1 : b ≠ g := fun e => hv.1 (by rw [e]; rfl)
    have n2 : d ≠ g := fun e => hv.2 (by rw [e]; rfl)
    refine (Tryz.slices_DeleteFunc (α := Int) (.int .i64) (fun _ => rfl) (fun i => decide (i < 0 ∨ (m : Int) ≤ i)) 64 #[.pointer (some ⟨b, 0, none⟩)] (enters_of Tryz.func64 (by kernel_rfl) rfl) 0 Tryz.zeroValue3 g 0 c2 l.toArray w
      (fun W x hW => ?_) (fun q os dk x _ => ?_) h.holds (by simp; omega) (by simpa using hc)).mono ?_
    · show Calls _ _ _ _ _
      refine (crash1_walk W b d m c A ((hW.cell (p := ⟨b, 0, none⟩) hB.1).trans hb) ((hW.cell (p := ⟨d, 4, none⟩) hB.2).trans hd) x).mono ?_
      rintro e w' ⟨rfl, rfl⟩
      exact ⟨rfl, 0, rfl⟩
    · have hcell : ∀ p : Addr, p.block ≠ g → p.block < w.heap.size → (sortWorld (Value.int .i64) w g 0 q dk os).cell? p = w.cell? p := fun p hp hlt => by
        unfold sortWorld
        rw [cell?_grow _ _ _ (by show p.block < (putRow _ _ _ _ _).heap.size; rw [size_putRow]; exact hlt), cell?_putRow_other _ _ g 0 _ _ (Or.inl hp)]
        rfl
      show Calls _ _ _ _ _
      refine (crash1_walk _ b d m c A ((hcell ⟨b, 0, none⟩ n1 hB.1).trans hb) ((hcell ⟨d, 4, none⟩ n2 hB.2).trans hd) x).mono ?_
      rintro e w' ⟨rfl, rfl⟩
      exact ⟨rfl, 0, rfl⟩
    · rintro e w' ⟨rfl, q, rfl⟩
      have hle := filter_length_le' (fun i => !decide (i < 0 ∨ (m : Int) ≤ i)) l
      refine ⟨_, rfl, ?_, rfl, ?_⟩
      · have := h.rowed ((l.filter fun i => !decide (i < 0 ∨ (m : Int) ≤ i)) ++ List.replicate (l.length - (l.filter fun i => !decide (i < 0 ∨ (m : Int) ≤ i)).length) 0) (by simp only [List.length_append, List.length_replicate]; omega) q #[] _ hle
        rw [List.take_left, grow_empty] at this
        exact this
      · have := grownBy_sortedI (w := w) (g := g) (n := q) (os := #[]) ((l.filter fun i => !decide (i < 0 ∨ (m : Int) ≤ i)) ++ List.replicate (l.length - (l.filter fun i => !decide (i < 0 ∨ (m : Int) ≤ i)).length) 0).toArray
        rw [grow_empty] at this
        exact Turns.of_grown this

end Go.Proofs.YtllmciiadceinaaGreatDoor
