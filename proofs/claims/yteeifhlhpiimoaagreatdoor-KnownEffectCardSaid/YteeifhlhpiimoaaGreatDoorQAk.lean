/-
  Known's number, its comparison, and the sorting of entries by it. Conditions: each contract's own. slices.SortFunc at an owned row of structs, told as a list. Conditions: the comparison's contract, a strict weak order. Contract of known.lists. Condition: the base's block. A base that a call builds: nine owned rows apart from each other; what Of's lists are, plainly. No condition. Plain laws of the encodings: what is read is what was written, and only that. No condition; no program is named here. The entries of a key are ordered by 'prevails': plainly. No condition. 'Prevails' orders the entries of a key; what is known depends on which known valid entries there are alone: plainly. No condition. Decimal digits as lists, the lowest first: plainly. No condition. Contracts of yardstickref03's trim and order. Conditions: digits below 10. Contract of yardstickref03's minus. Conditions: the difference is not negative; at most 100000 digits.
-/
import Derived.Test.YteeifhlhpiimoaaGreatDoorQAa
import Derived.Test.YteeifhlhpiimoaaGreatDoorQAj
import Derived.Test.YteeifhlhpiimoaaGreatDoorQAi
import Derived.Test.YteeifhlhpiimoaaGreatDoorQAf
import Derived.Sort.Walk0
import Derived.Test.YteeifhlhpiimoaaGreatDoorQAc
import Derived.Test.YteeifhlhpiimoaaGreatDoorQAb
section
namespace Go.Proofs.YteeifhlhpiimoaaGreatDoor
open Go Go.RowKit Go.Shelf Go.Maps Wr
attribute [local go_sem] Oper.semAt_some
def numE (e : Ent) : Int := if e.kind = 2 ∨ e.kind = 8 ∨ e.kind = 6 then e.item else e.id
def Grows (W w' : World) : Prop := ∃ (q : Nat) (os : Array Obj), w' = Go.Sort.grow (W.drewN q) os
theorem Grows.refl (W : World) : Grows W W := ⟨0, #[], by simp [Go.Sort.grow, World.drewN]⟩
theorem Grows.trans {A B C : World} (h : Grows A B) (k : Grows B C) : Grows A C := by
  obtain ⟨q, os, rfl⟩ := h
  obtain ⟨q', os', rfl⟩ := k
  exact ⟨q + q', os ++ os', by simp [Go.Sort.grow, World.drewN, Nat.add_assoc]⟩
theorem Grows.alloc (W : World) (o : Obj) : Grows W (W.alloc o) := ⟨0, #[o], by rw [Go.Sort.alloc_eq_grow]; rfl⟩
theorem Grows.drew (W : World) : Grows W W.drew := ⟨1, #[], by rw [Go.Sort.grow_empty]; rfl⟩
theorem Grows.below {W V : World} (h : Grows W V) : Below W.heap.size W V := by
  obtain ⟨q, os, rfl⟩ := h
  refine ⟨rfl, rfl, rfl, by simp [Go.Sort.grow, World.drewN], fun k hk => ?_⟩
  simp [Go.Sort.grow, World.drewN, Array.getElem?_append_left hk]
theorem box_entg {P : Program} {ops : Array Oper} {rest : List Oper} {op : Oper} {a : Act} {w : World} {Q : Exit → Act → World → Prop} (hgd : op.guard = none) (x : Operand) (ho : op.op = .box 33 x) (e : Ent) (hx : a.eval x = .agg e.cells.toArray)
    (h : ∀ w', EntAt w' w.heap.size e → Grows w w' → wpList P ops Q rest (a.put op.dst (.pointer (some ⟨w.heap.size, 0, none⟩))) w') : wpList P ops Q (op :: rest) a w :=
  wpList_plain hgd fun _ hK => by
    have h2 := hK _ _ (h (w.alloc (.cells e.cells.toArray 33)) (World.alloc_heap_new w _) (Grows.alloc _ _))
    obtain ⟨cs, hcs⟩ : ∃ cs, e.cells.toArray = cs := ⟨_, rfl⟩
    rw [hcs] at hx h2
    unfold Oper.wp execOp
    simp only [ho, hx, Instr.box, Sem.run_bind, Sem.run_pure, newVar, newRow, Value.cells]
    simpa [go_sem] using h2
theorem number_walk (e : Ent) (w : World) : Calls Tryz.prog 61 #[e.val] w fun r w' => r = .returned (.int .i64 (numE e)) ∧ Grows w w' := by
  obtain ⟨a, ha⟩ : ∃ q, (e.kind == 2) = q := ⟨_, rfl⟩
  obtain ⟨b, hb⟩ : ∃ q, (e.kind == 8) = q := ⟨_, rfl⟩
  obtain ⟨c, hc⟩ : ∃ q, (e.kind == 6) = q := ⟨_, rfl⟩
  have hn : numE e = if a = true ∨ b = true ∨ c = true then e.item else e.id := by
    unfold numE
    rw [← ha, ← hb, ← hc]
    simp
  rw [hn]
  clear hn
  cases a <;> cases b <;> cases c <;>
  · simp only [Bool.false_eq_true, or_self, or_true, true_or, if_true, if_false]
    go_enter Tryz.func61, Tryz.ntmps61
    go_wp2_with (first
      | ((with_reducible refine box_entg rfl (.tmp 0) rfl e ?hx ?_); (case hx => rfl); intro w1 he1 hg1
         have x0 := he1.cell (i := 0) rfl
         have x1 := he1.cell (i := 1) rfl
         have x8 := he1.cell (i := 8) rfl
         have HG := Lib.hid hg1
         clear he1 hg1)
      | fail)
    go_ret
    exact ⟨rfl, HG.out⟩
set_option maxHeartbeats 2000000 in
theorem of1_walk (x y : Ent) (w : World) : Calls Tryz.prog 59 #[x.val, y.val] w fun r w' => r = .returned (.int .i64 (cmpZ' (numE x) (numE y))) ∧ Grows w w' := by
  have IE := fun e : Ent => Lib.hid (ientry (e := e))
  obtain ⟨p, hp⟩ : ∃ p, numE x = p := ⟨_, rfl⟩
  obtain ⟨q, hq⟩ : ∃ q, numE y = q := ⟨_, rfl⟩
  have HP := Lib.hid hp
  have HQ := Lib.hid hq
  rw [hp, hq]
  clear hp hq
  go_enter Tryz.func59, Tryz.ntmps59
  go_wp2_with (first
    | ((with_reducible refine box_entg rfl (.tmp 0) rfl x ?hx ?_); (case hx => rfl); intro w1 he1 hg1
       obtain ⟨b1, hb1⟩ : ∃ b, w.heap.size = b := ⟨_, rfl⟩
       rw [hb1] at he1
       rw [hb1]
       have HE1 := Lib.hid he1
       have HG1 := Lib.hid hg1
       clear he1 hg1 hb1)
    | ((with_reducible refine box_entg rfl (.tmp 1) rfl y ?hx ?_); (case hx => rfl); intro w2 he2 hg2
       have HX2 := Lib.hid (HE1.out.below hg2.below)
       obtain ⟨b2, hb2⟩ : ∃ b, w1.heap.size = b := ⟨_, rfl⟩
       rw [hb2] at he2
       rw [hb2]
       have HE2 := Lib.hid he2
       have HG2 := Lib.hid (HG1.out.trans hg2)
       clear he2 hg2 hb2)
    | fail)
  have hS0 : EntAt w2.drew b1 x ∧ EntAt w2.drew b2 y := ⟨HX2.out, HE2.out⟩
  have HG3 : Hid (Grows w w2.drew) := Lib.hid (HG2.out.trans (Grows.drew _))
  refine wp_region_noPanic ?_
  refine wp_region_held_drew (S := fun U => EntAt U b1 x ∧ EntAt U b2 y) (by kernel_rfl) hS0 (fun hHeld => ?_)
  refine tl 0 rfl (yieldsIf_load_mid (by rfl) 33 (.tmp 2) rfl b1 0 (by rfl) x.cells _ (fun w hw => range_of hw.1) Tryz.underlying33 rfl (IE x).out) ?_
  refine tl 2 rfl (yieldsIf_load_mid (by rfl) 33 (.tmp 3) rfl b2 0 (by rfl) y.cells _ (fun w hw => range_of hw.2) Tryz.underlying33 rfl (IE y).out) ?_
  refine rd [1] ?_
  refine rc (fun K hK => ?_) ?_
  ·
   go_simp
   (with_reducible refine (number_walk x _).mono ?_)
   rintro e5 w5 ⟨rfl, hg5⟩
   have HG5 := Lib.hid (HG3.out.trans hg5)
   have HB5 := Lib.hid hg5.below
   rw [HP.out]
   clear hg5
   refine kk hK (⟨hS0.1.below HB5.out, hS0.2.below HB5.out⟩) (fun hHeld => ?_)
   clear hK K
   refine rd [3] ?_
   refine rc (fun K hK => ?_) ?_
   ·
    go_simp
    (with_reducible refine (number_walk y _).mono ?_)
    rintro e6 w6 ⟨rfl, hg6⟩
    have HG6 := Lib.hid (HG5.out.trans hg6)
    have HB6 := Lib.hid hg6.below
    rw [HQ.out]
    clear hg6
    refine kk hK (⟨(hS0.1.below HB5.out).below HB6.out, (hS0.2.below HB5.out).below HB6.out⟩) (fun hHeld => ?_)
    clear hK K
    refine rd [4] ?_
    refine rc (fun K hK => ?_) ?_
    ·
     go_simp
     (with_reducible refine (cmp_walk _ _ _).mono ?_)
     rintro e7 w7 ⟨rfl, rfl⟩
     refine kk hK (⟨(hS0.1.below HB5.out).below HB6.out, (hS0.2.below HB5.out).below HB6.out⟩) (fun hHeld => ?_)
     clear hK K
     refine tk 5 ?_
     refine dn ?_
     clear hHeld
     go_wp2
     go_ret
     exact ⟨rfl, HG6.out⟩
    exact AllReadyH.nil
   exact AllReadyH.nil
  exact AllReadyH.nil
end Go.Proofs.YteeifhlhpiimoaaGreatDoor
end
section
namespace Go.Proofs.YteeifhlhpiimoaaGreatDoor
open Go Go.RowKit Go.Shelf Go.Maps Go.Sort Wr
attribute [local go_sem] Oper.semAt_some
instance entInh : Inhabited Ent := ⟨zeroE⟩
theorem div_at {α : Type} {f : α → List Value} {k : Nat} (hk0 : 0 < k) (hf : ∀ x, (f x).length = k) (l : List α) {t : Nat} (ht : t < l.length * k) : ∃ x, l[t / k]? = some x ∧ (l.flatMap f)[t]? = (f x)[t % k]? := by
  have h1 : t / k < l.length := (Nat.div_lt_iff_lt_mul hk0).2 ht
  refine ⟨l[t / k], List.getElem?_eq_getElem h1, ?_⟩
  have h2 := flat_at hf l (t / k) l[t / k] (List.getElem?_eq_getElem h1) (t % k) (Nat.mod_lt _ hk0)
  rwa [Nat.mul_comm, Nat.div_add_mod] at h2
theorem row_holds {α : Type} [Inhabited α] {f : α → List Value} {k : Nat} (hk0 : 0 < k) (hf : ∀ x, (f x).length = k) {w : World} {N : Nat} {T : TypeId} {g n cap : Nat} {l : List α} (h : OL w N T k f (.slice (some ⟨g, 0, none⟩) n cap) l) : HoldsK f k w g 0 l.toArray := by
  intro t ht
  have ht' : t < l.length * k := by simpa using ht
  obtain ⟨x, hx, he⟩ := div_at hk0 hf l ht'
  have hlen : (l.flatMap f).length = l.length * k := flatMap_length hf
  have hn : n = l.length := by
    rcases h.2 with ⟨he, _⟩ | ⟨g', cap', cur', he, _⟩
    · cases he
    · injection he
  subst hn
  have hc := World.ownsRow.cellAt h t (by omega)
  have hz := World.ownsRow.frozenAt h t
  rw [Nat.zero_add]
  refine ⟨?_, hz⟩
  rw [hc, he, get_flatK _ _ _ _ (by simpa using ht')]
  have hl : t / k < l.length := (List.getElem?_eq_some_iff.1 hx).1
  have h3 : l.toArray[t / k]! = x := by
    rw [getElem!_pos _ _ (by simpa using hl)]
    simpa using (List.getElem?_eq_some_iff.1 hx).2
  have hm : t % k < (f x).length := by rw [hf]; exact Nat.mod_lt _ hk0
  rw [h3, List.getElem?_eq_getElem hm, getElem!_pos (f x) (t % k) hm]
  rfl
theorem sorted_block {α : Type} [Inhabited α] {f : α → List Value} {k g m : Nat} {w : World} {T : TypeId} {cur : Array Value} (h : w.heap[g]? = some (.cells cur T (0, 0))) (d : Array α) (os : Array Obj) :
    (∃ cur', (sortWorldK f k w g 0 m d os).heap[g]? = some (.cells cur' T (0, 0)) ∧ cur'.size = cur.size) ∧ Turns (fun q => q = g) w (sortWorldK f k w g 0 m d os) := by
  have hlt : g < w.heap.size := (Array.getElem?_eq_some_iff.1 h).1
  unfold sortWorldK putRowK putRow mapBlock Go.Sort.grow Go.Sort.ahead
  refine ⟨⟨putCells id 0 (flatK f k d) cur, ?_, by simp [putCells]⟩, rfl, rfl, rfl, by simp, fun q hq hz => ?_⟩
  · rw [Array.getElem?_append_left (by simpa using hlt), Array.getElem?_modify, if_pos rfl, h]
    rfl
  · rw [Array.getElem?_append_left (by simpa using hq), Array.getElem?_modify, if_neg (fun e => hz e.symm)]
theorem sorted_ol {α : Type} [Inhabited α] {f : α → List Value} {k : Nat} (hk0 : 0 < k) (hf : ∀ x, (f x).length = k) {w : World} {N : Nat} {T : TypeId} {g n cap m : Nat} {l : List α} (h : OL w N T k f (.slice (some ⟨g, 0, none⟩) n cap) l) (d : Array α) (hd : d.size = l.length) (os : Array Obj) :
    OL (sortWorldK f k w g 0 m d os) N T k f (.slice (some ⟨g, 0, none⟩) n cap) d.toList := by
  have hh := holdsK_sortWorldK f k w g 0 m l.toArray d os (by
    rcases h.2 with ⟨he, _⟩ | ⟨g', cap', cur', he, _, hc, _⟩
    · cases he
    · cases he; exact (Array.getElem?_eq_some_iff.1 hc).1) (row_holds hk0 hf h) (by simpa using hd)
  rcases h.2 with ⟨he, _⟩ | ⟨g', cap', cur, he, hb, hc, h4, h5, h6, h7⟩
  · cases he
  · cases he
    obtain ⟨⟨cur', hc', hs'⟩, -⟩ := sorted_block (f := f) (k := k) (m := m) hc d os
    have hdl : d.toList.length = l.length := by rw [Array.length_toList]; exact hd
    have hlen : (d.toList.flatMap f).length = l.length * k := by rw [flatMap_length hf, hdl]
    refine ⟨by rw [hlen, hdl], .inr ⟨g, cap, cur', by rw [hdl], hb, hc', by rw [hdl]; exact h4, h5, by rw [hs']; exact h6, ?_⟩⟩
    rw [hdl]
    have hcap : l.length * k ≤ cur'.size := by rw [hs', h6]; exact Nat.mul_le_mul_right _ h4
    apply List.ext_getElem?
    intro t
    by_cases ht : t < l.length * k
    · have ht' : t < d.toList.length * k := by rw [hdl]; exact ht
      obtain ⟨x, hx, he⟩ := div_at hk0 hf d.toList ht'
      have h1 := (hh t (by rw [size_flatK, hd]; exact ht)).1
      rw [Nat.zero_add, get_flatK _ _ _ _ (by rw [hd]; exact ht)] at h1
      have hdx : d[t / k]! = x := by
        obtain ⟨h8, h9⟩ := List.getElem?_eq_some_iff.1 hx
        rw [getElem!_pos _ _ (by simpa using h8)]
        simpa using h9
      have hm : t % k < (f x).length := by rw [hf]; exact Nat.mod_lt _ hk0
      have h2 : (sortWorldK f k w g 0 m d os).cell? ⟨g, t, none⟩ = cur'[t]? := by simp [World.cell?, hc']
      rw [List.getElem?_take, if_pos ht, Array.getElem?_toList, ← h2, h1, hdx, he, List.getElem?_eq_getElem hm, getElem!_pos (f x) (t % k) hm]
      rfl
    · rw [List.getElem?_eq_none (by simp; omega), List.getElem?_eq_none (by omega)]
theorem perm_lists {α : Type} [Inhabited α] {d d' : Array α} (h : PermIn 0 d.size d d') : d'.size = d.size ∧ d'.toList.Perm d.toList := by
  refine ⟨h.1, ?_⟩
  have h2 := h.2.2
  have e1 : d'.extract 0 d.size = d' := by rw [← h.1]; simp
  have e2 : d.extract 0 d.size = d := by simp
  rwa [e1, e2] at h2
theorem sorted_up {α : Type} [Inhabited α] {lt : α → α → Bool} {d : Array α} {n : Nat} (hn : n = d.size) (h : SortedIn lt 0 n d) : Up lt d.toList := by
  subst hn
  unfold Up
  rw [List.pairwise_iff_getElem]
  intro i j hi hj hij
  have := h i j (Nat.zero_le _) hij (by simpa using hj)
  rw [getElem!_pos d j (by simpa using hj), getElem!_pos d i (by simpa using hi)] at this
  simpa using this
theorem sort_ol {α : Type} [Inhabited α] {ρ : Ren} (L : SlLaysF0.n6 Tryz.prog ρ) (k : Nat) (hk0 : 0 < k) (aE : ∀ w, (isAgg (ρ.t 24)).run Tryz.prog w = .ok true w) (zE : ∀ w, (Go.sizeOf (ρ.t 24)).run Tryz.prog w = .ok k w) (enc : α → List Value) (hk : ∀ x, (enc x).length = k) (h1 : ∀ x, ∀ v ∈ enc x, v.oneCell' = true) (cf : α → α → Int) (hO : SWO (ltOf cf)) (g : Nat)
    (eg : ∀ args w, (callFunc g args).run Tryz.prog w = .ok (.enter g args) w) (hcmp : ∀ x y W, Calls Tryz.prog g #[.agg (enc x).toArray, .agg (enc y).toArray] W fun e w' => e = .returned (.int .i64 (cf x y)) ∧ Grows W w')
    (hnone : ∀ w, Calls Tryz.prog (ρ.f 6) #[.slice none 0 0, .func (.func g) #[] #[]] w fun e w' => e = .returned (.tuple #[]) ∧ w' = w)
    {w : World} {N : Nat} {T : TypeId} {v : Value} {l : List α} (h : OL w N T k enc v l) (hl : l.length < 4611686018427387904) :
    Calls Tryz.prog (ρ.f 6) #[v, .func (.func g) #[] #[]] w fun r w' => r = .returned (.tuple #[]) ∧ ∃ l', OL w' N T k enc v l' ∧ l'.Perm l ∧ Up (ltOf cf) l' ∧ Turns (fun q => v.ownBlock = some q) w w' := by
  rcases h.2 with ⟨he, hz⟩ | ⟨b, cap, cur, he, hb, hc, h4, h5, h6, h7⟩
  · subst he
    have : l = [] := List.eq_nil_of_length_eq_zero hz
    subst this
    refine (hnone w).mono fun e w' q => ⟨q.1, [], ?_, List.Perm.refl _, List.Pairwise.nil, ?_⟩
    · rw [q.2]; exact h
    · rw [q.2]; exact Turns.refl _ _
  · subst he
    have hcl : CmpLays Tryz.prog g #[] enc k cf b 0 l.toArray.size w := fun m os dk hs x y => (hcmp x y _).mono fun e w' q => ⟨q.1, q.2⟩
    have hs := AnyQ.slices_SortFunc L k aE zE enc hk h1 cf hO g #[] b 0 cap l.toArray w eg hcl (row_holds hk0 hk h) ((Array.getElem?_eq_some_iff.1 hc).1) (by simpa using hl)
    rw [List.size_toArray] at hs
    refine hs.mono fun e w' q => ?_
    obtain ⟨rfl, d', m, os, hp, hso, rfl⟩ := q
    have hpp := perm_lists (d := l.toArray) (by simpa using hp)
    refine ⟨rfl, d'.toList, sorted_ol hk0 hk h d' (by simpa using hpp.1) os, by simpa using hpp.2, sorted_up (by simpa using hpp.1.symm) hso, (sorted_block hc d' os).2.mono fun q hq => ?_⟩
    subst hq; rfl
end Go.Proofs.YteeifhlhpiimoaaGreatDoor
end
section
namespace Go.Proofs.YteeifhlhpiimoaaGreatDoor
open Go Go.RowKit Go.Shelf Go.Maps Wr
attribute [local go_sem] Oper.semAt_some
theorem set_row {W : World} {b : Nat} {old : Array Value} {T : TypeId} (h : W.heap[b]? = some (.cells old T (0, 0))) (cs : Array Value) : (W.setRow b cs).heap[b]? = some (.cells cs T (0, 0)) ∧ Turns (fun k => k = b) W (W.setRow b cs) := by
  refine ⟨?_, ⟨rfl, rfl, rfl, by simp [World.setRow], fun k hk hz => ?_⟩⟩
  · simp only [World.setRow, Array.getElem?_modify, h]
    simp
  · simp only [World.setRow, Array.getElem?_modify]
    rw [if_neg (fun e => hz e.symm)]
theorem step_store_row {P : Program} {ops : Array Oper} {o : Oper} {a : Act} {V : World} {K : Act → World → Prop} {Q : Exit → Act → World → Prop} {D : Prop} (hgd : o.guard = none) (T : TypeId) (x y : Operand) (ho : o.op = .store T x y) (hd : o.dst = none) (b : Nat) (cs old : Array Value)
    (hx : a.eval x = .pointer (some ⟨b, 0, none⟩)) (hy : a.eval y = .agg cs) (hi : (P.info? T).map (·.size) = some cs.size) (h : V.heap[b]? = some (.cells old T (0, 0))) (hold : old.size = cs.size) (h1 : cs.all (·.oneCell') = true)
    (hk : ∀ V', V'.heap[b]? = some (.cells cs T (0, 0)) → Turns (fun k => k = b) V V' → K a V') :
    if Region.wanted o (yielded ops a.tmps) = true then Oper.wp P o a V K Q else D := by
  have hw : Region.wanted o (yielded ops a.tmps) = true := by simp [Region.wanted, hgd]
  rw [if_pos hw]
  refine wp_store_row _ x y ho b _ hx hy T _ h hi hold h1 ?_
  rw [hd]
  exact hk _ (set_row h cs).1 (set_row h cs).2
theorem wpList_store_rowN {P : Program} {ops : Array Oper} {rest : List Oper} {o : Oper} {a : Act} {V : World} {Q : Exit → Act → World → Prop} (hgd : o.guard = none) (T : TypeId) (x y : Operand) (ho : o.op = .store T x y) (hd : o.dst = none) (b : Nat) (cs old : Array Value)
    (hx : a.eval x = .pointer (some ⟨b, 0, none⟩)) (hy : a.eval y = .agg cs) (hi : (P.info? T).map (·.size) = some cs.size) (h : V.heap[b]? = some (.cells old T (0, 0))) (hold : old.size = cs.size) (h1 : cs.all (·.oneCell') = true)
    (hk : ∀ V', V'.heap[b]? = some (.cells cs T (0, 0)) → Turns (fun k => k = b) V V' → wpList P ops Q rest a V') : wpList P ops Q (o :: rest) a V :=
  wpList_store_rowTo hgd T x y ho hd b cs hx hy T old h hi hold h1 (hk _ (set_row h cs).1 (set_row h cs).2)
theorem results_cellN {P : Program} {fn : Func} {p : Tmp} {ty : TypeId} (h : fn.results = #[.cell p ty]) (tmps : Array Value) (w : World) (b : Nat) (cs : List Value) (d : TypeDesc)
    (hp : tmps.getD p undef = .pointer (some ⟨b, 0, none⟩)) (hc : w.rangeAt b 0 cs) (hu : P.underlying ty = some d) (hr : d.isRow = true)
    (hi : (P.info? ty).map (·.size) = some cs.length) : (results fn tmps).run P w = .ok (.agg cs.toArray) w := by
  have hp' : tmps[p]?.getD undef = .pointer (some ⟨b, 0, none⟩) := by simpa using hp
  simp [results, h, hp', asAddr, run_loadVar_mid w b 0 ty cs d hc hu hr hi]
def ptrs (b : Nat) : List Value := [.pointer none, .pointer (some ⟨b, 0, none⟩), .pointer (some ⟨b, 1, none⟩), .pointer (some ⟨b, 2, none⟩), .pointer (some ⟨b, 3, none⟩), .pointer (some ⟨b, 4, none⟩), .pointer (some ⟨b, 5, none⟩), .pointer (some ⟨b, 6, none⟩), .pointer (some ⟨b, 7, none⟩), .pointer (some ⟨b, 8, none⟩)]
theorem ptrs_at (b j : Nat) (h : j < 9) : (ptrs b)[j + 1]? = some (.pointer (some ⟨b, j, none⟩)) := by
  match j, h with
  | 0, _ => rfl
  | 1, _ => rfl
  | 2, _ => rfl
  | 3, _ => rfl
  | 4, _ => rfl
  | 5, _ => rfl
  | 6, _ => rfl
  | 7, _ => rfl
  | 8, _ => rfl
set_option maxRecDepth 100000 in
set_option maxHeartbeats 4000000 in
theorem lists_walk (b : Nat) (w : World) : Calls Tryz.prog 55 #[.pointer (some ⟨b, 0, none⟩)] w fun r w' => r = .returned (.agg (ptrs b).toArray) ∧ Below w.heap.size w w' := by
  go_enter Tryz.func55, Tryz.ntmps55
  go_wp2
  obtain ⟨V, hV⟩ : ∃ V, w.alloc (.cells #[.pointer none, .pointer none, .pointer none, .pointer none, .pointer none, .pointer none, .pointer none, .pointer none, .pointer none, .pointer none] 96) = V := ⟨_, rfl⟩
  have hc : Hid (V.heap[w.heap.size]? = some (.cells #[.pointer none, .pointer none, .pointer none, .pointer none, .pointer none, .pointer none, .pointer none, .pointer none, .pointer none, .pointer none] 96 (0, 0))) := Lib.hid (by rw [← hV]; exact World.alloc_heap_new _ _)
  have hB : Hid (Below w.heap.size w V) := Lib.hid (by rw [← hV]; exact below_new _ _)
  rw [hV]
  clear hV
  have hS0 : True := trivial
  refine wp_region_noPanic ?_
  refine wp_region_held_drew (S := fun _ => True) (by kernel_rfl) hS0 (fun hHeld => ?_)
  refine tk 0 ?_
  refine tk 1 ?_
  refine tk 2 ?_
  refine tk 3 ?_
  refine tk 4 ?_
  refine tk 5 ?_
  refine tk 6 ?_
  refine tk 7 ?_
  refine tk 8 ?_
  refine tk 9 ?_
  refine tk 10 ?_
  refine tk 11 ?_
  refine tk 12 ?_
  refine tk 13 ?_
  refine tk 14 ?_
  refine tk 15 ?_
  refine tk 16 ?_
  refine tk 17 ?_
  refine tk 18 ?_
  refine tk 19 ?_
  refine tk 20 ?_
  refine tk 21 ?_
  refine tk 22 ?_
  refine tk 23 ?_
  refine tk 24 ?_
  refine tk 25 ?_
  refine tk 26 ?_
  refine tk 27 ?_
  refine rd [28] ?_
  refine rc (fun K hK => ?_) ?_
  ·
   refine step_store_row (by rfl) 96 (.tmp 2) (.tmp 30) (by rfl) (by rfl) w.heap.size (ptrs b).toArray _ (by rfl) (by rfl) (by kernel_rfl) hc.out (by rfl) (by simp [ptrs, Value.oneCell']) ?_
   intro V' hc' ht'
   have HC' := Lib.hid hc'
   have HT' := Lib.hid ht'
   clear hc' ht'
   refine kk hK (trivial) (fun hHeld => ?_)
   clear hK K
   refine dn ?_
   go_wp2
   refine bodyPost_ret (results_cellN rfl _ _ w.heap.size (ptrs b) _ rfl (range_of HC'.out) Tryz.underlying96 rfl (by kernel_rfl)) rfl ?_
   exact ⟨rfl, HT'.out.below (Below.drew hB.out) (Nat.le_refl _) (fun k hk => by omega)⟩
  exact AllReadyH.nil
end Go.Proofs.YteeifhlhpiimoaaGreatDoor
end
section
namespace Go.Proofs.YteeifhlhpiimoaaGreatDoor
open Go Go.RowKit Go.Shelf Go.Maps Wr
attribute [local go_sem] Oper.semAt_some
def upd {α : Type} (f : Nat → α) (j : Nat) (x : α) (i : Nat) : α := if i = j then x else f i
theorem upd_same {α : Type} (f : Nat → α) (j : Nat) (x : α) : upd f j x j = x := by unfold upd; rw [if_pos rfl]
theorem upd_other {α : Type} (f : Nat → α) {j i : Nat} (x : α) (h : i ≠ j) : upd f j x i = f i := by unfold upd; rw [if_neg h]
def nine (vf : Nat → Value) : Array Value := #[vf 0, vf 1, vf 2, vf 3, vf 4, vf 5, vf 6, vf 7, vf 8]
theorem nine_at (vf : Nat → Value) {j : Nat} (h : j < 9) : (nine vf)[j]? = some (vf j) := by
  match j, h with
  | 0, _ => rfl
  | 1, _ => rfl
  | 2, _ => rfl
  | 3, _ => rfl
  | 4, _ => rfl
  | 5, _ => rfl
  | 6, _ => rfl
  | 7, _ => rfl
  | 8, _ => rfl
theorem nine_set (vf : Nat → Value) {j : Nat} (h : j < 9) (v : Value) : (nine vf).setIfInBounds j v = nine (upd vf j v) := by
  match j, h with
  | 0, _ => rfl
  | 1, _ => rfl
  | 2, _ => rfl
  | 3, _ => rfl
  | 4, _ => rfl
  | 5, _ => rfl
  | 6, _ => rfl
  | 7, _ => rfl
  | 8, _ => rfl
structure BasO (w : World) (N bB : Nat) (vf : Nat → Value) (lf : Nat → List Ent) : Prop where
  blk : w.heap[bB]? = some (.cells (nine vf) 36 (0, 0))
  row : ∀ j, j < 9 → OL w N 33 18 Ent.cells (vf j) (lf j)
  apart : ∀ i j, i < 9 → j < 9 → i ≠ j → ∀ g, (vf i).ownBlock = some g → (vf j).ownBlock ≠ some g
theorem ol_ne {w : World} {B : Nat} {e t : TypeId} {size : Nat} {f : Ent → List Value} {v : Value} {l : List Ent} (h : OL w B e size f v l) {b : Nat} {cs : Array Value} {fz : Nat × Nat} (hb : w.heap[b]? = some (.cells cs t fz)) (ht : t ≠ e) : v.ownBlock ≠ some b := fun q => by
  rcases h.2 with ⟨rfl, _⟩ | ⟨g, cap, cur, rfl, _, hg, _⟩
  · cases q
  · have : g = b := by injection q
    subst this
    rw [hb] at hg
    injection hg with hg
    injection hg with h1 h2 h3
    exact ht h2
theorem BasO.below {w w' : World} {N bB : Nat} {vf : Nat → Value} {lf : Nat → List Ent} (h : BasO w N bB vf lf) (hb : Below w.heap.size w w') : BasO w' N bB vf lf :=
  ⟨(hb.block _ (Array.getElem?_eq_some_iff.1 h.blk).1).trans h.blk, fun j hj => (h.row j hj).below hb (Nat.le_refl _), h.apart⟩
theorem BasO.put {w w1 : World} {N bB : Nat} {vf : Nat → Value} {lf : Nat → List Ent} (h : BasO w N bB vf lf) {j : Nat} (hj : j < 9) {v' : Value} {l' : List Ent} (hg : Turns (fun q => (vf j).ownBlock = some q) w w1) (ho : OL w1 N 33 18 Ent.cells v' l')
    (hv' : ∀ g, v'.ownBlock = some g → (vf j).ownBlock = some g ∨ w.heap.size ≤ g) : BasO (w1.setCell ⟨bB, j, none⟩ v') N bB (upd vf j v') (upd lf j l') := by
  have hlt : bB < w.heap.size := (Array.getElem?_eq_some_iff.1 h.blk).1
  have hb1 : w1.heap[bB]? = some (.cells (nine vf) 36 (0, 0)) := (hg.block bB hlt (ol_ne (h.row j hj) h.blk (by decide))).trans h.blk
  have hb2 : (w1.setCell ⟨bB, j, none⟩ v').heap[bB]? = some (.cells (nine (upd vf j v')) 36 (0, 0)) := by
    rw [← nine_set vf hj v']
    simp only [World.setCell, Array.getElem?_modify, hb1]
    simp
  have keep : ∀ {v l}, OL w1 N 33 18 Ent.cells v l → OL (w1.setCell ⟨bB, j, none⟩ v') N 33 18 Ent.cells v l := fun {v l} q => q.keep fun g hgv => Below.heap_setCell _ _ _ _ fun e => ol_ne q hb1 (by decide) (by rw [hgv, e])
  refine ⟨hb2, fun i hi => ?_, fun i k hi hk hne g hgi => ?_⟩
  · by_cases hij : i = j
    · subst hij; rw [upd_same, upd_same]; exact keep ho
    · rw [upd_other vf v' hij, upd_other lf l' hij]
      refine keep ((h.row i hi).keep fun g hgv => hg.block g ((h.row i hi).lt g hgv).2 fun e => ?_)
      exact h.apart i j hi hj hij g hgv e
  · by_cases hij : i = j
    · subst hij
      rw [upd_same] at hgi
      rw [upd_other vf v' (fun e => hne e.symm)]
      intro e
      rcases hv' g hgi with q | q
      · exact h.apart i k hi hk hne g q e
      · have := ((h.row k hk).lt g e).2; omega
    · rw [upd_other vf v' hij] at hgi
      by_cases hkj : k = j
      · subst hkj
        rw [upd_same]
        intro e
        rcases hv' g e with q | q
        · exact h.apart i k hi hk hij g hgi q
        · have := ((h.row i hi).lt g hgi).2; omega
      · rw [upd_other vf v' hkj]
        exact h.apart i k hi hk hne g hgi
theorem BasO.turn {w w1 : World} {N bB : Nat} {vf : Nat → Value} {lf : Nat → List Ent} (h : BasO w N bB vf lf) {j : Nat} (hj : j < 9) {l' : List Ent} (hg : Turns (fun q => (vf j).ownBlock = some q) w w1) (ho : OL w1 N 33 18 Ent.cells (vf j) l') : BasO w1 N bB vf (upd lf j l') := by
  have hlt : bB < w.heap.size := (Array.getElem?_eq_some_iff.1 h.blk).1
  refine ⟨(hg.block bB hlt (ol_ne (h.row j hj) h.blk (by decide))).trans h.blk, fun i hi => ?_, h.apart⟩
  by_cases hij : i = j
  · subst hij; rw [upd_same]; exact ho
  · rw [upd_other lf l' hij]
    exact (h.row i hi).keep fun g hgv => hg.block g ((h.row i hi).lt g hgv).2 fun e => h.apart i j hi hj hij g hgv e
def addrOf : Value → Option Addr
  | .slice A _ _ => A
  | _ => none
def capOf : Value → Nat
  | .slice _ _ c => c
  | _ => 0
theorem OL.nilcap {α : Type} {w : World} {B n c size : Nat} {T : TypeId} {f : α → List Value} {A : Option Addr} {l : List α} (h : OL w B T size f (.slice A n c) l) : A = none → c = 0 := by
  intro e
  rcases h.2 with ⟨h1, _⟩ | ⟨g, cap, cur, h1, _⟩
  · injection h1
  · injection h1 with h1 _ _; rw [e] at h1; cases h1
def mkBas (vf : Nat → Value) (lf : Nat → List Ent) : Bas := ⟨lf, fun i => addrOf (vf i), fun i => capOf (vf i)⟩
theorem BasO.bas {w : World} {N bB : Nat} {vf : Nat → Value} {lf : Nat → List Ent} (h : BasO w N bB vf lf) : (mkBas vf lf).val = .agg (nine vf) ∧ BasAt w (Old w) (mkBas vf lf) := by
  have hv : ∀ j, j < 9 → Value.slice (addrOf (vf j)) (lf j).length (capOf (vf j)) = vf j := fun j hj => by
    obtain ⟨A, cap, e, _, _⟩ := (h.row j hj).slice
    rw [e]; rfl
  refine ⟨?_, ⟨fun i hi => ?_, fun i hi => ?_, fun i hi => ?_⟩⟩
  · unfold Bas.val Bas.cells mkBas nine
    simp only [hv 0 (by decide), hv 1 (by decide), hv 2 (by decide), hv 3 (by decide), hv 4 (by decide), hv 5 (by decide), hv 6 (by decide), hv 7 (by decide), hv 8 (by decide)]
  · have hr := h.row i hi
    obtain ⟨A, cap, e, _, _⟩ := hr.slice
    show EAt w (Old w) (addrOf (vf i)) (lf i)
    rw [e] at hr ⊢
    refine EAt.of_ol hr fun b hb => ?_
    exact (hr.lt b (by show Value.ownBlock (Value.slice A _ _) = some b; rw [show A = some ⟨b, 0, none⟩ from hb]; rfl)).2
  · have hr := h.row i hi
    obtain ⟨A, cap, e, h1, h2⟩ := hr.slice
    show (lf i).length ≤ capOf (vf i) ∧ capOf (vf i) ≤ maxLen
    rw [e]
    exact ⟨h1, h2⟩
  · have hr := h.row i hi
    obtain ⟨A, cap, e, _, _⟩ := hr.slice
    show addrOf (vf i) = none → capOf (vf i) = 0
    rw [e] at hr ⊢
    exact hr.nilcap
def knownL (l : List Ent) (day : Int) (j : Nat) : List Ent := sortB (byNum numE) ((effD l day).filter fun e => decide (e.kind = ((j + 1 : Nat) : Int)))
theorem numE_key (e : Ent) : numE e = e.num (keyIx e.kind) := by
  unfold numE keyIx
  by_cases h : e.kind = 2 ∨ e.kind = 8 ∨ e.kind = 6
  · rw [if_pos h, if_pos (by omega)]; rfl
  · rw [if_neg h, if_neg (by omega)]; rfl
theorem key_of_num {e f : Ent} (he : validE e = true) (hf : validE f = true) (hk : e.kind = f.kind) (hn : numE e = numE f) : keyE e = keyE f := by
  unfold keyE
  rw [if_pos he, if_pos hf, hk]
  rw [numE_key, numE_key, hk] at hn
  rw [hn]
theorem apart_kind {l : List Ent} {k : Int} (hd : Keyd keyE l) (hv : ∀ e ∈ l, validE e = true ∧ e.kind = k) : Apart (byNum numE) l := by
  unfold Apart Keyd at *
  refine (List.pairwise_iff_forall_sublist.2 fun {a b} hab => ?_)
  have ha := hv a (hab.subset (by simp))
  have hb := hv b (hab.subset (by simp))
  have hne := (List.pairwise_iff_forall_sublist.1 hd) hab
  have : numE a ≠ numE b := fun e => hne (key_of_num ha.1 hb.1 (ha.2.trans hb.2.symm) e)
  unfold byNum
  simp only [decide_eq_true_eq]
  omega
theorem effD_ok (l : List Ent) (day : Int) : ∀ e ∈ effD l day, e ∈ l ∧ validE e = true ∧ e.day ≤ day ∧ e.gone = false := fun e he => by
  unfold effD at he
  obtain ⟨h1, h2⟩ := List.mem_filter.1 he
  obtain ⟨h3, h4⟩ := effL_ok (ok := okD day) (key := keyE) (prev := prevE) l e h1
  unfold okD at h4
  simp only [Bool.and_eq_true, decide_eq_true_eq] at h4
  exact ⟨h3, h4.1, h4.2, by simpa using h2⟩
theorem effD_keyd (l : List Ent) (day : Int) : Keyd keyE (effD l day) := List.Pairwise.filter _ (effL_keyd l)
theorem known_of {l : List Ent} {day : Int} {j : Nat} {m m' : List Ent} (hd : Keyd keyE m) (hm : ∀ e, e ∈ m ↔ e ∈ effD l day ∧ e.kind = ((j + 1 : Nat) : Int)) (hp : m'.Perm m) (hu : Up (byNum numE) m') : m' = knownL l day j := by
  have a1 : Apart (byNum numE) m := apart_kind (k := ((j + 1 : Nat) : Int)) hd fun e he => ⟨(effD_ok l day e ((hm e).1 he).1).2.1, ((hm e).1 he).2⟩
  rw [sorted_unique (byNum_weak numE) hu hp a1]
  refine sortB_same (byNum_weak numE) a1 ?_ fun x => ?_
  · refine apart_kind (k := ((j + 1 : Nat) : Int)) (List.Pairwise.filter _ (effD_keyd l day)) fun e he => ?_
    obtain ⟨h1, h2⟩ := List.mem_filter.1 he
    exact ⟨(effD_ok l day e h1).2.1, by simpa using h2⟩
  · rw [hm x, List.mem_filter]; simp
theorem MapAt.size_le {w : World} {b n : Nat} {D : DataW Ent} (h : w.ownsMap Tryz.prog 9 rdE b n D) : Maps.size D ≤ n := by
  obtain ⟨es, clock, _, _, hs, rfl⟩ := h
  show ((es.toList.map _).foldr DataW.insert []).length ≤ n
  rw [length_sorted]
  simpa using hs
end Go.Proofs.YteeifhlhpiimoaaGreatDoor
end
section
namespace Go.Proofs.YteeifhlhpiimoaaGreatDoor.Wr
open Go
theorem lebF_short {f z k : Nat} (hk : 0 < k) (hz : z < 128 ^ k) (hf : z < 128 ^ (f + 1)) : (lebF f z).length ≤ k := by
  induction k generalizing f z with
  | zero => omega
  | succ k ih =>
    by_cases h : z < 128
    · simp [lebF_last h]
    · obtain ⟨g, rfl, e, hg⟩ := lebF_more (by omega) hf
      cases k with
      | zero => simp at hz; omega
      | succ k =>
        have := ih (f := g) (z := z / 128) (by omega) (by rw [Nat.pow_succ] at hz; exact Nat.div_lt_of_lt_mul (by rw [Nat.mul_comm]; exact hz)) hg
        rw [e]; simp; omega
theorem scan_leb {g y i z f : Nat} (rest : List UInt8) (hy : y < 128 ^ (g + 1)) (h0 : 0 < y ∨ i = 0) (hz : z + y * 128 ^ i < 9223372036854775807) (hf : (lebF g y).length ≤ f) :
    scan f i z (lebF g y ++ rest) = some (z + y * 128 ^ i, i + (lebF g y).length) := by
  induction g generalizing y i z f with
  | zero =>
    have hy' : y < 128 := by simpa using hy
    rw [lebF_last hy'] at hf ⊢
    cases f with
    | zero => simp at hf
    | succ f =>
      have e : (UInt8.ofNat y).toNat = y := by simp; omega
      simp only [List.cons_append, List.nil_append, scan, e]
      rw [if_neg (by omega), if_neg (by omega), if_neg (by omega)]
      simp
  | succ g ih =>
    by_cases hy' : y < 128
    · rw [lebF_last hy'] at hf ⊢
      cases f with
      | zero => simp at hf
      | succ f =>
        have e : (UInt8.ofNat y).toNat = y := by simp; omega
        simp only [List.cons_append, List.nil_append, scan, e]
        rw [if_neg (by omega), if_neg (by omega), if_neg (by omega)]
        simp
    · obtain ⟨g', hg', e, hlt⟩ := lebF_more (f := g + 1) (by omega) hy
      obtain rfl : g = g' := by omega
      rw [e] at hf ⊢
      cases f with
      | zero => simp at hf
      | succ f =>
        have e1 : (UInt8.ofNat (y % 128 + 128)).toNat = y % 128 + 128 := by simp; omega
        have e2 : z + (y % 128 + 128 - 128) * 128 ^ i + y / 128 * 128 ^ (i + 1) = z + y * 128 ^ i := by
          rw [Nat.add_sub_cancel, Nat.pow_succ, Nat.mul_comm (128 ^ i) 128, ← Nat.mul_assoc, Nat.add_assoc, ← Nat.add_mul]
          congr 2; omega
        simp only [List.cons_append, scan, e1]
        rw [if_pos (by omega), ih hlt (.inl (by omega)) (by rw [e2]; exact hz) (by simpa using hf), e2]
        simp; omega
theorem leb_length {y : Nat} (h : y < 9223372036854775807) : (leb y).length ≤ 9 := lebF_short (k := 9) (by decide) (Nat.lt_of_lt_of_le h (by decide)) (Nat.lt_of_lt_of_le h (by decide))
theorem decI_leb {y : Nat} (h : y < 9223372036854775807) (rest : List UInt8) : decI (leb y ++ rest) = some (y, (leb y).length) := by
  have := scan_leb (g := 9) (y := y) (i := 0) (z := 0) (f := 9) rest (Nat.lt_of_lt_of_le h (by decide)) (.inr rfl) (by omega) (leb_length h)
  unfold decI leb
  rw [this]; simp
theorem decI_putI {n : Int} (h1 : -maxI ≤ n) (h2 : n ≤ maxI) (rest : List UInt8) : decI (putI n ++ rest) = some (zig n, (putI n).length) := decI_leb (zig_lt h1 h2) rest
theorem zig_inj {a b : Int} (h : zig a = zig b) : a = b := by rw [← unzig_zig a, h, unzig_zig]
end Go.Proofs.YteeifhlhpiimoaaGreatDoor.Wr
end
section
namespace Go.Proofs.YteeifhlhpiimoaaGreatDoor
open Go Go.RowKit Go.Shelf Wr
theorem putI_inj {a b : Int} (ha : WireI a) (hb : WireI b) {r s : List UInt8} (h : putI a ++ r = putI b ++ s) : a = b ∧ r = s := by
  have h1 := decI_putI (n := a) (by unfold maxI; exact ha.1) (by unfold maxI; exact ha.2) r
  have h2 := decI_putI (n := b) (by unfold maxI; exact hb.1) (by unfold maxI; exact hb.2) s
  rw [h, h2] at h1
  have e : a = b := zig_inj (by injection h1 with h1; injection h1 with h1 _; exact h1.symm)
  subst e
  exact ⟨rfl, List.append_cancel_left h⟩
theorem putS_inj {a b : ByteArray} (ha : a.size ≤ 65536) (hb : b.size ≤ 65536) {r s : List UInt8} (h : putS a ++ r = putS b ++ s) : a = b ∧ r = s := by
  unfold putS at h
  rw [List.append_assoc, List.append_assoc] at h
  obtain ⟨h1, h2⟩ := putI_inj (by constructor <;> omega) (by constructor <;> omega) h
  have hl : a.data.toList.length = b.data.toList.length := by
    rw [show a.data.toList.length = a.size from Array.length_toList, show b.data.toList.length = b.size from Array.length_toList]; omega
  obtain ⟨e1, e2⟩ := List.append_inj h2 hl
  refine ⟨?_, e2⟩
  cases a; cases b
  congr 1
  exact Array.toList_inj.1 e1
theorem putI_end {a b : Int} (ha : WireI a) (hb : WireI b) (h : putI a = putI b) : a = b := (putI_inj (r := []) (s := []) ha hb (by rw [h])).1
theorem putS_end {a b : ByteArray} (ha : a.size ≤ 65536) (hb : b.size ≤ 65536) (h : putS a = putS b) : a = b := (putS_inj (r := []) (s := []) ha hb (by rw [h])).1
theorem ba_nil {a b : ByteArray} (ha : a.toList = []) (hb : b.toList = []) : a = b := by
  rw [ByteArray.toList_eq] at ha hb
  cases a; cases b
  congr 1
  exact Array.toList_inj.1 (ha.trans hb.symm)
theorem valid_short {l : List UInt8} (h : validI l = true) : l.length ≤ 201 := by
  unfold validI at h
  simp only [Bool.and_eq_true, decide_eq_true_eq] at h
  have h2 := h.1.1.2
  cases l with
  | nil => simp
  | cons c l => rw [strip_cons] at h2; split at h2 <;> simp at h2 ⊢ <;> omega
theorem rat_short {n d : ByteArray} (h : ratOk n.data.toList d.data.toList = true) : n.size ≤ 65536 ∧ d.size ≤ 65536 := by
  unfold ratOk at h
  simp only [Bool.and_eq_true] at h
  have h1 := valid_short h.1
  have h2 := valid_short h.2.1
  rw [show n.data.toList.length = n.size from Array.length_toList] at h1
  rw [show d.data.toList.length = d.size from Array.length_toList] at h2
  omega
theorem ent_ext {a b : Ent} (h0 : a.kind = b.kind) (h1 : a.id = b.id) (h2 : a.ver = b.ver) (h3 : a.day = b.day) (h4 : a.gone = b.gone) (h5 : a.frm = b.frm) (h6 : a.til = b.til) (h7 : a.lab = b.lab) (h8 : a.item = b.item) (h9 : a.person = b.person) (h10 : a.skill = b.skill)
    (h11 : a.ln = b.ln) (h12 : a.ld = b.ld) (h13 : a.hn = b.hn) (h14 : a.hd = b.hd) (h15 : a.rn = b.rn) (h16 : a.rd = b.rd) (h17 : a.text = b.text) : a = b := by
  cases a; cases b; simp only at *; subst h0 h1 h2 h3 h4 h5 h6 h7 h8 h9 h10 h11 h12 h13 h14 h15 h16 h17; rfl
theorem flagI_inj {a b : Bool} {r s : List UInt8} (h : putI (flagI a) ++ r = putI (flagI b) ++ s) : a = b ∧ r = s := by
  obtain ⟨h1, h2⟩ := putI_inj (by unfold flagI; constructor <;> split <;> omega) (by unfold flagI; constructor <;> split <;> omega) h
  refine ⟨?_, h2⟩
  unfold flagI at h1
  cases a <;> cases b <;> simp_all
theorem enc_inj {a b : Ent} (ha : validE a = true) (hb : validE b = true) (h : encE a = encE b) : a = b := by
  unfold validE at ha hb
  unfold encE headW putsI at h
  simp only [List.flatMap_cons, List.flatMap_nil, List.append_nil, List.append_assoc] at h
  have k9 : ∀ {e : Ent}, (match shapeQ e.kind with | none => false | some qs => headQ e && (condQ e && checks qs e)) = true → 1 ≤ e.kind ∧ e.kind ≤ 9 := fun {e} he => by
    unfold shapeQ at he
    refine ⟨?_, ?_⟩ <;> (apply Classical.byContradiction; intro hn; rw [if_neg (by omega), if_neg (by omega), if_neg (by omega), if_neg (by omega), if_neg (by omega), if_neg (by omega), if_neg (by omega), if_neg (by omega), if_neg (by omega)] at he; cases he)
  have ka := k9 ha
  have kb := k9 hb
  obtain ⟨hk, h⟩ := putI_inj (by constructor <;> omega) (by constructor <;> omega) h
  have hq : ∀ {e : Ent}, (match shapeQ e.kind with | none => false | some qs => headQ e && (condQ e && checks qs e)) = true → ∃ qs, shapeQ e.kind = some qs ∧ headQ e = true ∧ condQ e = true ∧ checks qs e = true := fun {e} he => by
    cases hs : shapeQ e.kind with
    | none => rw [hs] at he; cases he
    | some qs => rw [hs] at he; simp only [Bool.and_eq_true] at he; exact ⟨qs, rfl, he.1, he.2.1, he.2.2⟩
  obtain ⟨qa, sa, ha1, ha2, ha3⟩ := hq ha
  obtain ⟨qb, sb, hb1, hb2, hb3⟩ := hq hb
  rw [← hk, sa] at sb
  cases sb
  rw [← hk, sa] at h
  simp only [Option.getD_some] at h
  unfold headQ at ha1 hb1
  simp only [Bool.and_eq_true, decide_eq_true_eq] at ha1 hb1
  obtain ⟨hv, h⟩ := putI_inj (by constructor <;> omega) (by constructor <;> omega) h
  obtain ⟨hd, h⟩ := putI_inj (by constructor <;> omega) (by constructor <;> omega) h
  obtain ⟨hg, h⟩ := flagI_inj h
  clear ha hb k9 hq
  unfold condQ at ha2 hb2
  rw [← hk] at hb2
  rcases (show a.kind = 1 ∨ a.kind = 2 ∨ a.kind = 3 ∨ a.kind = 4 ∨ a.kind = 5 ∨ a.kind = 6 ∨ a.kind = 7 ∨ a.kind = 8 ∨ a.kind = 9 by omega) with e | e | e | e | e | e | e | e | e
  all_goals
    rw [e] at sa ha2 hb2
    simp [shapeQ] at sa
    subst sa
    simp [checks, Ent.num, Ent.clr] at ha3 hb3
    simp [encQ, Ent.num, putsS, Ent.str] at h
  · obtain ⟨aid1, aid2, afrm1, afrm2, alab1, alab2, aitem1, aitem2, atil, aperson, askill, arn, ard, atext⟩ := ha3
    obtain ⟨bid1, bid2, bfrm1, bfrm2, blab1, blab2, bitem1, bitem2, btil, bperson, bskill, brn, brd, btext⟩ := hb3
    unfold Ent.valueOk encOk at ha2 hb2
    simp only [if_true, Bool.and_eq_true] at ha2 hb2
    have s1 := rat_short ha2.1.1
    have s2 := rat_short ha2.1.2.1
    have t1 := rat_short hb2.1.1
    have t2 := rat_short hb2.1.2.1
    obtain ⟨q_id, h⟩ := putI_inj (by constructor <;> omega) (by constructor <;> omega) h
    obtain ⟨q_frm, h⟩ := putI_inj (by constructor <;> omega) (by constructor <;> omega) h
    obtain ⟨q_lab, h⟩ := putI_inj (by constructor <;> omega) (by constructor <;> omega) h
    obtain ⟨q_item, h⟩ := putI_inj (by constructor <;> omega) (by constructor <;> omega) h
    obtain ⟨q_ln, h⟩ := putS_inj (by omega) (by omega) h
    obtain ⟨q_ld, h⟩ := putS_inj (by omega) (by omega) h
    obtain ⟨q_hn, h⟩ := putS_inj (by omega) (by omega) h
    have q_hd := putS_end (by omega) (by omega) h
    exact ent_ext hk q_id hv hd hg q_frm (by omega) q_lab q_item (by omega) (by omega) q_ln q_ld q_hn q_hd (ba_nil arn brn) (ba_nil ard brd) (ba_nil atext btext)
  · obtain ⟨aitem1, aitem2, aid, afrm, atil, alab, aperson, askill, aln, ald, ahn, ahd, atext⟩ := ha3
    obtain ⟨bitem1, bitem2, bid, bfrm, btil, blab, bperson, bskill, bln, bld, bhn, bhd, btext⟩ := hb3
    unfold Ent.rateOk at ha2 hb2
    simp at ha2 hb2
    have s1 := rat_short ha2.1
    have t1 := rat_short hb2.1
    obtain ⟨q_item, h⟩ := putI_inj (by constructor <;> omega) (by constructor <;> omega) h
    obtain ⟨q_rn, h⟩ := putS_inj (by omega) (by omega) h
    have q_rd := putS_end (by omega) (by omega) h
    exact ent_ext hk (by omega) hv hd hg (by omega) (by omega) (by omega) q_item (by omega) (by omega) (ba_nil aln bln) (ba_nil ald bld) (ba_nil ahn bhn) (ba_nil ahd bhd) q_rn q_rd (ba_nil atext btext)
  · obtain ⟨aid1, aid2, afrm1, afrm2, atil1, atil2, aitem1, aitem2, alab, aperson, askill, aln, ald, ahn, ahd, arn, ard, atext⟩ := ha3
    obtain ⟨bid1, bid2, bfrm1, bfrm2, btil1, btil2, bitem1, bitem2, blab, bperson, bskill, bln, bld, bhn, bhd, brn, brd, btext⟩ := hb3
    obtain ⟨q_id, h⟩ := putI_inj (by constructor <;> omega) (by constructor <;> omega) h
    obtain ⟨q_frm, h⟩ := putI_inj (by constructor <;> omega) (by constructor <;> omega) h
    obtain ⟨q_til, h⟩ := putI_inj (by constructor <;> omega) (by constructor <;> omega) h
    have q_item := putI_end (by constructor <;> omega) (by constructor <;> omega) h
    exact ent_ext hk q_id hv hd hg q_frm q_til (by omega) q_item (by omega) (by omega) (ba_nil aln bln) (ba_nil ald bld) (ba_nil ahn bhn) (ba_nil ahd bhd) (ba_nil arn brn) (ba_nil ard brd) (ba_nil atext btext)
  · obtain ⟨aid1, aid2, afrm1, afrm2, atil1, atil2, aitem1, aitem2, alab, aperson, askill, aln, ald, ahn, ahd, arn, ard, atext⟩ := ha3
    obtain ⟨bid1, bid2, bfrm1, bfrm2, btil1, btil2, bitem1, bitem2, blab, bperson, bskill, bln, bld, bhn, bhd, brn, brd, btext⟩ := hb3
    obtain ⟨q_id, h⟩ := putI_inj (by constructor <;> omega) (by constructor <;> omega) h
    obtain ⟨q_frm, h⟩ := putI_inj (by constructor <;> omega) (by constructor <;> omega) h
    obtain ⟨q_til, h⟩ := putI_inj (by constructor <;> omega) (by constructor <;> omega) h
    have q_item := putI_end (by constructor <;> omega) (by constructor <;> omega) h
    exact ent_ext hk q_id hv hd hg q_frm q_til (by omega) q_item (by omega) (by omega) (ba_nil aln bln) (ba_nil ald bld) (ba_nil ahn bhn) (ba_nil ahd bhd) (ba_nil arn brn) (ba_nil ard brd) (ba_nil atext btext)
  · obtain ⟨aid1, aid2, afrm1, afrm2, atil1, atil2, alab1, alab2, aitem, aperson, askill, aln, ald, ahn, ahd, arn, ard⟩ := ha3
    obtain ⟨bid1, bid2, bfrm1, bfrm2, btil1, btil2, blab1, blab2, bitem, bperson, bskill, bln, bld, bhn, bhd, brn, brd⟩ := hb3
    simp at ha2 hb2
    obtain ⟨q_id, h⟩ := putI_inj (by constructor <;> omega) (by constructor <;> omega) h
    obtain ⟨q_frm, h⟩ := putI_inj (by constructor <;> omega) (by constructor <;> omega) h
    obtain ⟨q_til, h⟩ := putI_inj (by constructor <;> omega) (by constructor <;> omega) h
    obtain ⟨q_lab, h⟩ := putI_inj (by constructor <;> omega) (by constructor <;> omega) h
    have q_text := putS_end (by omega) (by omega) h
    exact ent_ext hk q_id hv hd hg q_frm q_til q_lab (by omega) (by omega) (by omega) (ba_nil aln bln) (ba_nil ald bld) (ba_nil ahn bhn) (ba_nil ahd bhd) (ba_nil arn brn) (ba_nil ard brd) q_text
  · obtain ⟨aitem1, aitem2, afrm1, afrm2, aid, atil, alab, aperson, askill, aln, ald, ahn, ahd, arn, ard, atext⟩ := ha3
    obtain ⟨bitem1, bitem2, bfrm1, bfrm2, bid, btil, blab, bperson, bskill, bln, bld, bhn, bhd, brn, brd, btext⟩ := hb3
    obtain ⟨q_item, h⟩ := putI_inj (by constructor <;> omega) (by constructor <;> omega) h
    have q_frm := putI_end (by constructor <;> omega) (by constructor <;> omega) h
    exact ent_ext hk (by omega) hv hd hg q_frm (by omega) (by omega) q_item (by omega) (by omega) (ba_nil aln bln) (ba_nil ald bld) (ba_nil ahn bhn) (ba_nil ahd bhd) (ba_nil arn brn) (ba_nil ard brd) (ba_nil atext btext)
  · obtain ⟨aid1, aid2, afrm1, afrm2, atil1, atil2, aperson1, aperson2, askill1, askill2, alab, aitem, aln, ald, ahn, ahd, arn, ard, atext⟩ := ha3
    obtain ⟨bid1, bid2, bfrm1, bfrm2, btil1, btil2, bperson1, bperson2, bskill1, bskill2, blab, bitem, bln, bld, bhn, bhd, brn, brd, btext⟩ := hb3
    obtain ⟨q_id, h⟩ := putI_inj (by constructor <;> omega) (by constructor <;> omega) h
    obtain ⟨q_frm, h⟩ := putI_inj (by constructor <;> omega) (by constructor <;> omega) h
    obtain ⟨q_til, h⟩ := putI_inj (by constructor <;> omega) (by constructor <;> omega) h
    obtain ⟨q_person, h⟩ := putI_inj (by constructor <;> omega) (by constructor <;> omega) h
    have q_skill := putI_end (by constructor <;> omega) (by constructor <;> omega) h
    exact ent_ext hk q_id hv hd hg q_frm q_til (by omega) (by omega) q_person q_skill (ba_nil aln bln) (ba_nil ald bld) (ba_nil ahn bhn) (ba_nil ahd bhd) (ba_nil arn brn) (ba_nil ard brd) (ba_nil atext btext)
  · obtain ⟨aitem1, aitem2, aid, afrm, atil, alab, aperson, askill, aln, ald, ahn, ahd, atext⟩ := ha3
    obtain ⟨bitem1, bitem2, bid, bfrm, btil, blab, bperson, bskill, bln, bld, bhn, bhd, btext⟩ := hb3
    unfold Ent.rateOk at ha2 hb2
    simp at ha2 hb2
    have s1 := rat_short ha2.1
    have t1 := rat_short hb2.1
    obtain ⟨q_item, h⟩ := putI_inj (by constructor <;> omega) (by constructor <;> omega) h
    obtain ⟨q_rn, h⟩ := putS_inj (by omega) (by omega) h
    have q_rd := putS_end (by omega) (by omega) h
    exact ent_ext hk (by omega) hv hd hg (by omega) (by omega) (by omega) q_item (by omega) (by omega) (ba_nil aln bln) (ba_nil ald bld) (ba_nil ahn bhn) (ba_nil ahd bhd) q_rn q_rd (ba_nil atext btext)
  · obtain ⟨aid1, aid2, aitem1, aitem2, aperson1, aperson2, afrm, atil, alab, askill, aln, ald, ahn, ahd, arn, ard, atext⟩ := ha3
    obtain ⟨bid1, bid2, bitem1, bitem2, bperson1, bperson2, bfrm, btil, blab, bskill, bln, bld, bhn, bhd, brn, brd, btext⟩ := hb3
    obtain ⟨q_id, h⟩ := putI_inj (by constructor <;> omega) (by constructor <;> omega) h
    obtain ⟨q_item, h⟩ := putI_inj (by constructor <;> omega) (by constructor <;> omega) h
    have q_person := putI_end (by constructor <;> omega) (by constructor <;> omega) h
    exact ent_ext hk q_id hv hd hg (by omega) (by omega) (by omega) q_item q_person (by omega) (ba_nil aln bln) (ba_nil ald bld) (ba_nil ahn bhn) (ba_nil ahd bhd) (ba_nil arn brn) (ba_nil ard brd) (ba_nil atext btext)
end Go.Proofs.YteeifhlhpiimoaaGreatDoor
end
section
namespace Go.Proofs.YteeifhlhpiimoaaGreatDoor
open Go Go.RowKit Go.Shelf Wr
theorem list_tri {x y : List UInt8} (h : ¬ x < y) (hne : x ≠ y) : y < x := by
  apply Classical.byContradiction
  intro h2
  exact hne (List.le_antisymm h2 h)
theorem strGt_iff {x y : List UInt8} : strGt x y = true ↔ y < x := by
  unfold strGt bs
  rw [ByteArray.toList_eq, ByteArray.toList_eq, bytesLess_eq]
  simp only [Bool.not_eq_true', Bool.or_eq_false_iff, decide_eq_false_iff_not, beq_eq_false_iff_ne]
  constructor
  · rintro ⟨h1, h2⟩; exact list_tri h1 h2
  · intro h
    refine ⟨fun h2 => List.lt_irrefl x (List.lt_trans h2 h), fun e => ?_⟩
    have e' : x = y := e
    subst e'
    exact List.lt_irrefl x h
theorem sameKey_iff {a b : Ent} : sameKey a b = true ↔ keyE a = keyE b := by
  unfold sameKey bs
  rw [ByteArray.toList_eq, ByteArray.toList_eq]
  simp
theorem okD_iff {day : Int} {e : Ent} : okD day e = true ↔ validE e = true ∧ e.day ≤ day := by unfold okD; simp
theorem prev_iff {a b : Ent} : prevE a b = true ↔ validE a = true ∧ validE b = true ∧ keyE a = keyE b ∧ (b.ver < a.ver ∨ a.ver = b.ver ∧ encE b < encE a) := by
  unfold prevE
  simp only [Bool.and_eq_true, Bool.or_eq_true, decide_eq_true_eq, sameKey_iff, strGt_iff]
theorem prev_ranks (day : Int) : Ranks (okD day) keyE prevE where
  irr a := by
    cases h : prevE a a with
    | false => rfl
    | true =>
      rcases (prev_iff.1 h).2.2.2 with q | ⟨_, q⟩
      · omega
      · exact (List.lt_irrefl _ q).elim
  tot a b ha hb hk hne := by
    have va := (okD_iff.1 ha).1
    have vb := (okD_iff.1 hb).1
    cases h : prevE a b with
    | true =>
      cases h2 : prevE b a with
      | false => rfl
      | true =>
        rcases (prev_iff.1 h).2.2.2 with q | ⟨q0, q⟩ <;> rcases (prev_iff.1 h2).2.2.2 with r | ⟨r0, r⟩
        · omega
        · omega
        · omega
        · exact (List.lt_irrefl _ (List.lt_trans q r)).elim
    | false =>
      cases h2 : prevE b a with
      | true => rfl
      | false =>
        exfalso
        have n1 : ¬ (b.ver < a.ver ∨ a.ver = b.ver ∧ encE b < encE a) := fun q => by rw [prev_iff.2 ⟨va, vb, hk, q⟩] at h; cases h
        have n2 : ¬ (a.ver < b.ver ∨ b.ver = a.ver ∧ encE a < encE b) := fun q => by rw [prev_iff.2 ⟨vb, va, hk.symm, q⟩] at h2; cases h2
        have hv : a.ver = b.ver := by
          apply Classical.byContradiction
          intro hv
          rcases Int.lt_or_gt_of_ne hv with q | q
          · exact n2 (.inl q)
          · exact n1 (.inl q)
        exact n2 (.inr ⟨hv.symm, list_tri (fun q => n1 (.inr ⟨hv, q⟩)) (fun q => hne (enc_inj va vb q.symm))⟩)
  tra a b c ha hb hc hab hbc h1 h2 := by
    have p1 := prev_iff.1 h1
    have p2 := prev_iff.1 h2
    refine prev_iff.2 ⟨p1.1, p2.2.1, hab.trans hbc, ?_⟩
    rcases p1.2.2.2 with q | ⟨q0, q⟩ <;> rcases p2.2.2.2 with r | ⟨r0, r⟩
    · left; omega
    · left; omega
    · left; omega
    · right; exact ⟨by omega, List.lt_trans r q⟩
theorem effD_mem {l : List Ent} {day : Int} {e : Ent} : e ∈ effD l day ↔ IsBest (okD day) keyE prevE l (keyE e) e ∧ e.gone = false := by
  unfold effD
  rw [List.mem_filter, effL_best (prev_ranks day)]
  simp
theorem effD_same {l m : List Ent} {day : Int} (h : ∀ x, okD day x = true → (x ∈ l ↔ x ∈ m)) (e : Ent) : e ∈ effD l day ↔ e ∈ effD m day := by
  have move : ∀ {l m : List Ent}, (∀ x, okD day x = true → (x ∈ l ↔ x ∈ m)) → IsBest (okD day) keyE prevE l (keyE e) e → IsBest (okD day) keyE prevE m (keyE e) e := fun h q =>
    ⟨(h _ q.2.1).1 q.1, q.2.1, q.2.2.1, fun x hx h1 h2 => q.2.2.2 x ((h x h1).2 hx) h1 h2⟩
  rw [effD_mem, effD_mem]
  exact ⟨fun q => ⟨move h q.1, q.2⟩, fun q => ⟨move (fun x hx => (h x hx).symm) q.1, q.2⟩⟩
theorem known_same {l m : List Ent} {day : Int} (h : ∀ x, okD day x = true → (x ∈ l ↔ x ∈ m)) (j : Nat) : knownL l day j = knownL m day j := by
  refine (known_of (l := l) (day := day) (j := j) (m := (effD m day).filter fun e => decide (e.kind = ((j + 1 : Nat) : Int))) (m' := knownL m day j) (List.Pairwise.filter _ (effD_keyd m day)) (fun e => ?_) ?_ ?_).symm
  · rw [List.mem_filter, ← effD_same h]; simp
  · exact sortB_perm _
  · exact sortB_up (byNum_weak numE) _
end Go.Proofs.YteeifhlhpiimoaaGreatDoor
end
section
namespace Go.Proofs.YteeifhlhpiimoaaGreatDoor
open Go
def dv : List Nat → Nat
  | [] => 0
  | d :: l => d + 10 * dv l
def dg (n : Nat) : List Nat := if n = 0 then [] else n % 10 :: dg (n / 10)
termination_by n
decreasing_by omega
def Dgs (l : List Nat) : Prop := ∀ d ∈ l, d < 10
theorem dg_zero : dg 0 = [] := by rw [dg, if_pos rfl]
theorem dg_pos {n : Nat} (h : 0 < n) : dg n = n % 10 :: dg (n / 10) := by rw [dg, if_neg (by omega)]
theorem dv_dg (n : Nat) : dv (dg n) = n := by
  induction n using Nat.strongRecOn with
  | ind n ih =>
    rcases Nat.eq_zero_or_pos n with rfl | h
    · rw [dg_zero]; rfl
    · rw [dg_pos h, dv, ih (n / 10) (by omega)]; omega
theorem dg_dgs (n : Nat) : Dgs (dg n) := by
  induction n using Nat.strongRecOn with
  | ind n ih =>
    rcases Nat.eq_zero_or_pos n with rfl | h
    · rw [dg_zero]; intro d hd; cases hd
    · rw [dg_pos h]
      intro d hd
      rcases List.mem_cons.1 hd with rfl | hd
      · omega
      · exact ih (n / 10) (by omega) d hd
theorem dv_app (l m : List Nat) : dv (l ++ m) = dv l + 10 ^ l.length * dv m := by
  induction l with
  | nil => simp [dv]
  | cons d l ih => rw [List.cons_append, dv, ih, dv, List.length_cons, Nat.pow_succ, Nat.mul_add, Nat.mul_comm (10 ^ l.length) 10, Nat.mul_assoc]; omega
theorem Dgs.tail {d : Nat} {l : List Nat} (h : Dgs (d :: l)) : Dgs l := fun x hx => h x (by simp [hx])
theorem Dgs.take {l : List Nat} (h : Dgs l) (k : Nat) : Dgs (l.take k) := fun x hx => h x (List.mem_of_mem_take hx)
theorem Dgs.drop {l : List Nat} (h : Dgs l) (k : Nat) : Dgs (l.drop k) := fun x hx => h x (List.mem_of_mem_drop hx)
theorem Dgs.app {l m : List Nat} (h : Dgs l) (h2 : Dgs m) : Dgs (l ++ m) := fun x hx => (List.mem_append.1 hx).elim (h x) (h2 x)
theorem dv_lt {l : List Nat} (h : Dgs l) : dv l < 10 ^ l.length := by
  induction l with
  | nil => simp [dv]
  | cons d l ih =>
    have h1 := ih h.tail
    have h2 := h d (by simp)
    rw [dv, List.length_cons, Nat.pow_succ]; omega
theorem dg_dv {l : List Nat} (h : Dgs l) (hl : ∀ d ∈ l.getLast?, d ≠ 0) : dg (dv l) = l := by
  induction l with
  | nil => exact dg_zero
  | cons d l ih =>
    have h2 := h d (by simp)
    have h3 : 0 < dv (d :: l) := by
      rw [dv]
      cases l with
      | nil => have := hl d (by simp); omega
      | cons e l =>
        have hl' : ∀ x ∈ (e :: l).getLast?, x ≠ 0 := fun x hx => hl x (by rw [List.getLast?_cons_cons]; exact hx)
        have := ih h.tail hl'
        rcases Nat.eq_zero_or_pos (dv (e :: l)) with q | q
        · rw [q, dg_zero] at this; cases this
        · omega
    rw [dg_pos h3, dv]
    have e1 : (d + 10 * dv l) % 10 = d := by omega
    have e2 : (d + 10 * dv l) / 10 = dv l := by omega
    rw [e1, e2]
    cases l with
    | nil => rw [dv, dg_zero]
    | cons e l => rw [ih h.tail (fun x hx => hl x (by rw [List.getLast?_cons_cons]; exact hx))]
theorem dg_last (n : Nat) : ∀ d ∈ (dg n).getLast?, d ≠ 0 := by
  induction n using Nat.strongRecOn with
  | ind n ih =>
    rcases Nat.eq_zero_or_pos n with rfl | h
    · rw [dg_zero]; intro d hd; cases hd
    · rw [dg_pos h]
      rcases Nat.lt_or_ge n 10 with q | q
      · rw [show n / 10 = 0 by omega, dg_zero]
        intro d hd
        simp at hd; omega
      · rw [dg_pos (show 0 < n / 10 by omega), List.getLast?_cons_cons, ← dg_pos (show 0 < n / 10 by omega)]
        exact ih (n / 10) (by omega)
theorem dv_zeros {l : List Nat} (h : ∀ d ∈ l, d = 0) : dv l = 0 := by
  induction l with
  | nil => rfl
  | cons d l ih => rw [dv, ih (fun x hx => h x (by simp [hx])), h d (by simp)]
theorem trim_spec {l : List Nat} {k : Nat} (h : Dgs l) (hz : ∀ d ∈ l.drop k, d = 0) (hl : k = 0 ∨ ∀ d, l[k - 1]? = some d → d ≠ 0) (hk : k ≤ l.length) : l.take k = dg (dv l) := by
  have e : dv l = dv (l.take k) := by
    conv => lhs; rw [← List.take_append_drop k l]
    rw [dv_app, dv_zeros hz]; omega
  rw [e, dg_dv (h.take k)]
  intro d hd
  rcases hl with rfl | hl
  · simp at hd
  · refine hl d ?_
    have hd' : (l.take k).getLast? = some d := hd
    rw [List.getLast?_eq_getElem?, List.length_take, Nat.min_eq_left hk, List.getElem?_take] at hd'
    split at hd'
    · exact hd'
    · cases hd'
theorem dg_len_lt {a b : Nat} (h : (dg a).length < (dg b).length) : a < b := by
  rcases Nat.lt_or_ge a b with q | q
  · exact q
  · exfalso
    have h1 := dv_lt (dg_dgs a)
    rw [dv_dg] at h1
    have h2 : 10 ^ ((dg b).length - 1) ≤ b := by
      have hl := dg_last b
      have hp : 0 < (dg b).length := by omega
      have hs : dg b = (dg b).take ((dg b).length - 1) ++ (dg b).drop ((dg b).length - 1) := (List.take_append_drop _ _).symm
      have hdl : (dg b).drop ((dg b).length - 1) = [(dg b)[(dg b).length - 1]] := by
        rw [List.drop_eq_getElem_cons (by omega)]
        rw [List.drop_of_length_le (by omega)]
      have hv : dv (dg b) = dv ((dg b).take ((dg b).length - 1)) + 10 ^ ((dg b).length - 1) * (dg b)[(dg b).length - 1] := by
        conv => lhs; rw [hs, hdl]
        rw [dv_app]
        simp [dv]
      rw [dv_dg] at hv
      have hne : (dg b)[(dg b).length - 1] ≠ 0 := hl _ (by rw [List.getLast?_eq_getElem?, List.getElem?_eq_getElem (by omega)]; rfl)
      have : 10 ^ ((dg b).length - 1) * 1 ≤ 10 ^ ((dg b).length - 1) * (dg b)[(dg b).length - 1] := Nat.mul_le_mul_left _ (by omega)
      omega
    have h3 : 10 ^ (dg a).length ≤ 10 ^ ((dg b).length - 1) := Nat.pow_le_pow_right (by omega) (by omega)
    omega
theorem dg_len_mono {a b : Nat} (h : a ≤ b) : (dg a).length ≤ (dg b).length := by
  rcases Nat.lt_or_ge (dg b).length (dg a).length with q | q
  · have := dg_len_lt q; omega
  · exact q
theorem dg_len_le {n k : Nat} (h : n < 10 ^ k) : (dg n).length ≤ k := by
  rcases Nat.lt_or_ge k (dg n).length with q | q
  · exfalso
    induction k generalizing n with
    | zero => simp at h; subst h; rw [dg_zero] at q; simp at q
    | succ k ih =>
      rcases Nat.eq_zero_or_pos n with rfl | hp
      · rw [dg_zero] at q; simp at q
      · rw [dg_pos hp, List.length_cons] at q
        rw [Nat.pow_succ] at h
        exact ih (n := n / 10) (by omega) (by omega)
  · exact q
theorem ord_lt {a b : List Nat} {i x y : Nat} (ha : Dgs a) (hd : a.drop (i + 1) = b.drop (i + 1)) (hx : a[i]? = some x) (hy : b[i]? = some y) (h : x < y) : dv a < dv b := by
  have split : ∀ {l : List Nat} {z : Nat}, l[i]? = some z → l = l.take i ++ (z :: l.drop (i + 1)) := fun {l z} hz => by
    obtain ⟨h1, h2⟩ := List.getElem?_eq_some_iff.1 hz
    rw [← h2, ← List.drop_eq_getElem_cons h1, List.take_append_drop]
  have la : (a.take i).length = i := by rw [List.length_take]; have := (List.getElem?_eq_some_iff.1 hx).1; omega
  have lb : (b.take i).length = i := by rw [List.length_take]; have := (List.getElem?_eq_some_iff.1 hy).1; omega
  have ea : dv a = dv (a.take i) + 10 ^ i * (x + 10 * dv (a.drop (i + 1))) := by
    conv => lhs; rw [split hx]
    rw [dv_app, la, dv]
  have eb : dv b = dv (b.take i) + 10 ^ i * (y + 10 * dv (a.drop (i + 1))) := by
    conv => lhs; rw [split hy]
    rw [dv_app, lb, dv, hd]
  have h1 := dv_lt (ha.take i)
  rw [la] at h1
  have h3 : 10 ^ i * ((x + 1) + 10 * dv (a.drop (i + 1))) ≤ 10 ^ i * (y + 10 * dv (a.drop (i + 1))) := Nat.mul_le_mul_left _ (by omega)
  rw [show x + 1 + 10 * dv (a.drop (i + 1)) = (x + 10 * dv (a.drop (i + 1))) + 1 by omega, Nat.mul_add, Nat.mul_one] at h3
  omega
theorem take_dv {l : List Nat} {i x : Nat} (hx : l[i]? = some x) : dv (l.take (i + 1)) = dv (l.take i) + 10 ^ i * x := by
  obtain ⟨h1, h2⟩ := List.getElem?_eq_some_iff.1 hx
  rw [List.take_add_one, hx, dv_app, List.length_take, Nat.min_eq_left (by omega)]
  simp [dv]
theorem minus_step {a b o : List Nat} {i x y c d c' : Nat} (h : dv o + dv (b.take i) = dv (a.take i) + c * 10 ^ i) (ho : o.length = i) (hx : a[i]? = some x) (hy : b[i]? = some y ∨ b.length ≤ i ∧ y = 0) (hd : d + y + c = x + 10 * c') : dv (o ++ [d]) + dv (b.take (i + 1)) = dv (a.take (i + 1)) + c' * 10 ^ (i + 1) := by
  have eb : dv (b.take (i + 1)) = dv (b.take i) + 10 ^ i * y := by
    rcases hy with hy | ⟨h1, rfl⟩
    · exact take_dv hy
    · rw [List.take_of_length_le (by omega), List.take_of_length_le h1]; omega
  rw [eb, take_dv hx, dv_app, ho, Nat.pow_succ]
  simp only [dv, Nat.mul_zero, Nat.add_zero]
  have e := congrArg (10 ^ i * ·) hd
  simp only [Nat.mul_add] at e
  have e3 : c' * (10 ^ i * 10) = 10 ^ i * (10 * c') := by rw [← Nat.mul_assoc, Nat.mul_comm c', Nat.mul_assoc, Nat.mul_comm c']
  rw [e3]
  rw [Nat.mul_comm c] at h
  omega
theorem minus_end {a b o : List Nat} {c : Nat} (h : dv o + dv (b.take a.length) = dv (a.take a.length) + c * 10 ^ a.length) (ho : o.length = a.length) (hd : Dgs o) (hb : b.length ≤ a.length) (hle : dv b ≤ dv a) : dv o = dv a - dv b := by
  rw [List.take_of_length_le hb, List.take_of_length_le (Nat.le_refl _)] at h
  have h1 := dv_lt hd
  rw [ho] at h1
  rcases Nat.eq_zero_or_pos c with rfl | hc
  · omega
  · have : 1 * 10 ^ a.length ≤ c * 10 ^ a.length := Nat.mul_le_mul_right _ hc
    omega
def digB (d : Nat) : UInt8 := UInt8.ofNat (48 + d)
theorem decS_dg {n : Nat} (h : 0 < n) : decS n = ((dg n).map digB).reverse := by
  induction n using Nat.strongRecOn with
  | ind n ih =>
    rw [dg_pos h, List.map_cons, List.reverse_cons]
    rcases Nat.lt_or_ge n 10 with q | q
    · rw [decS_lt q, show n / 10 = 0 by omega, dg_zero, show n % 10 = n by omega]; rfl
    · rw [decS_ge q, ih (n / 10) (by omega) (by omega)]; rfl
theorem decS_len_dg (n : Nat) : (decS n).length = max 1 (dg n).length := by
  rcases Nat.eq_zero_or_pos n with rfl | h
  · rw [decS_lt (by decide), dg_zero]; rfl
  · rw [decS_dg h, List.length_reverse, List.length_map, dg_pos h, List.length_cons]; omega
end Go.Proofs.YteeifhlhpiimoaaGreatDoor
end
section
namespace Go.Proofs.YteeifhlhpiimoaaGreatDoor
open Go Go.RowKit Go.Shelf
attribute [local go_sem] Oper.semAt_some
set_option maxHeartbeats 2000000 in
theorem rtrim_walk (A : Option Addr) (c : Nat) (l : List Nat) (n : Nat) (hn : l.length = n) (hc : n ≤ c) (hcm : c ≤ maxLen) (hc0 : A = none → c = 0) (w : World) (h : LAt w w.heap.size A nv l) (hd : Dgs l) :
    Calls Tryz.prog 257 #[.slice A n c] w fun e w' => (∃ v, e = .returned v ∧ LsAt w v (dg (dv l)) ∧ ∀ B, Fresh B (.slice A n c) → Fresh B v) ∧ w' = w := by
  have hAe : ∀ k, k ≤ n → (∀ d ∈ l.drop k, d = 0) → (k = 0 ∨ ∀ d, l[k - 1]? = some d → d ≠ 0) → LsAt w (.slice A k c) (dg (dv l)) := fun k hk h1 h2 => by
    rw [← trim_spec hd h1 h2 (by omega)]
    exact ⟨A, c, by simp; omega, by simp; omega, hcm, hc0, h.take k⟩
  have HE := Lib.hid hAe
  have H := Lib.hid h
  have HN := Lib.hid hn
  clear h hn hAe hc0 hd
  unfold maxLen at hcm
  go_enter Tryz.func257, Tryz.ntmps257
  go_wp2_with fail
  go_loop [0] (fun v => ∃ k : Nat, k ≤ n ∧ v = .slice A k c ∧ Hid (∀ d ∈ l.drop k, d = 0)) (fun v => match v with | .slice _ k _ => k | _ => 0)
  case atStart => exact ⟨n, Nat.le_refl _, rfl, Lib.hid (by rw [List.drop_of_length_le (by rw [HN.out]; exact Nat.le_refl _)]; simp)⟩
  case round =>
    obtain ⟨k, hk, rfl, HT⟩ := hrel
    rcases Nat.eq_zero_or_pos k with rfl | h0
    · have d1 : decide ((0 : Int) < ((0 : Nat) : Int)) = false := by decide
      go_wp2_with fail
      go_ret
      refine ⟨⟨_, rfl, ?_, fun B h => h.cut⟩, rfl⟩
      exact HE.out 0 (by omega) HT.out (.inl rfl)
    · obtain ⟨m, rfl⟩ : ∃ m, k = m + 1 := ⟨k - 1, by omega⟩
      have hm : m < l.length := by rw [HN.out]; omega
      obtain ⟨a, rfl, hab, hac⟩ := H.out.get hm
      unfold nv at hac
      obtain ⟨x, hx⟩ : ∃ x, l[m] = x := ⟨_, rfl⟩
      rw [hx] at hac
      have HX : Hid (l[m]? = some x) := Lib.hid (by rw [← hx]; exact List.getElem?_eq_getElem hm)
      have d1 : decide ((0 : Int) < ((m + 1 : Nat) : Int)) = true := by simp
      have w1 : IntKind.i64.wrap (((m + 1 : Nat) : Int) - 1) = (m : Int) := by rw [IntKind.wrap_i64]; omega
      have z1 : (0 : Int) ≤ (m : Int) := by omega
      have z2 : (m : Int) < ((m + 1 : Nat) : Int) := by omega
      clear hx
      by_cases hx0 : x = 0
      · subst hx0
        go_wp2_with fail
        go_round
        case rel => exact ⟨m, by omega, rfl, Lib.hid (by rw [List.drop_eq_getElem_cons hm, (List.getElem?_eq_some_iff.1 HX.out).2]; intro d hd; rcases List.mem_cons.1 hd with rfl | hd; rfl; exact HT.out d hd)⟩
        case measure => simp
      · have d2 : ((x : Int) == 0) = false := by simp; exact hx0
        go_wp2_with fail
        go_ret
        refine ⟨⟨_, rfl, ?_, fun B h => h.cut⟩, rfl⟩
        exact HE.out (m + 1) (by omega) HT.out (.inr fun d hd => by rw [Nat.add_sub_cancel, HX.out] at hd; cases hd; exact hx0)
def IntV (w : World) (z : Int) (e : Ending) (w' : World) : Prop := e = .returned (.int .i64 z) ∧ Below w.heap.size w w'
def ordZ (a b : Nat) : Int := if a < b then -1 else if b < a then 1 else 0
theorem ordZ_lt {a b : Nat} (h : a < b) : ordZ a b = -1 := if_pos h
theorem ordZ_gt {a b : Nat} (h : b < a) : ordZ a b = 1 := by unfold ordZ; rw [if_neg (by omega), if_pos h]
theorem ordZ_self (a : Nat) : ordZ a a = 0 := by unfold ordZ; rw [if_neg (by omega), if_neg (by omega)]
set_option maxRecDepth 100000 in
set_option maxHeartbeats 2000000 in
theorem rorder_walk (a b : Nat) (v1 v2 : Value) (w : World) (h1 : LsAt w v1 (dg a)) (h2 : LsAt w v2 (dg b)) :
    Calls Tryz.prog 218 #[v1, v2] w (IntV w (ordZ a b)) := by
  obtain ⟨A, c, rfl, hc1, hc2, hc3, hA⟩ := h1
  obtain ⟨B, d, rfl, hd1, hd2, hd3, hB⟩ := h2
  have HA := Lib.hid hA
  have HB := Lib.hid hB
  obtain ⟨n, hn⟩ : ∃ n, (dg a).length = n := ⟨_, rfl⟩
  obtain ⟨k, hk⟩ : ∃ k, (dg b).length = k := ⟨_, rfl⟩
  have HN := Lib.hid hn
  have HK := Lib.hid hk
  rw [hn, hk]
  have hn1 : n ≤ 9223372036854775807 := by unfold maxLen at hc2; omega
  by_cases hnk : n = k
  · subst hnk
    clear hn hk hA hB hc1 hc2 hc3 hd1 hd2 hd3
    have d0 : ((n : Int) != (n : Int)) = false := by simp
    obtain ⟨z, hz⟩ : ∃ z, IntKind.i64.wrap ((n : Int) - 1) = z := ⟨_, rfl⟩
    have hzz : z = (n : Int) - 1 := by rw [← hz, IntKind.wrap_i64]; omega
    have HZ := Lib.hid hzz
    clear hzz
    go_enter Tryz.func218, Tryz.ntmps218
    go_wp2_with fail
    go_loopw [5] (fun v wr => (∃ k : Nat, k ≤ n ∧ v = .int .i64 ((k : Int) - 1) ∧ Hid ((dg a).drop k = (dg b).drop k)) ∧ Below w.heap.size w wr) (fun v _ => match v with | .int _ k => (k + 1).toNat | _ => 0)
    case atStart => exact ⟨⟨n, Nat.le_refl _, by rw [HZ.out], Lib.hid (by rw [List.drop_of_length_le (by rw [HN.out]; omega), List.drop_of_length_le (by rw [HK.out]; omega)])⟩, Below.refl _ _⟩
    case round =>
      obtain ⟨⟨k, hk, rfl, HT⟩, hBB⟩ := hrel
      have HBB := Lib.hid hBB
      clear hBB
      rcases Nat.eq_zero_or_pos k with rfl | h0
      · have d1 : decide ((0 : Int) ≤ ((0 : Nat) : Int) - 1) = false := by decide
        go_wp2_with fail
        go_ret
        have e : a = b := by have := congrArg dv HT.out; rw [List.drop_zero, List.drop_zero, dv_dg, dv_dg] at this; exact this
        subst e
        rw [ordZ_self]
        exact ⟨rfl, HBB.out⟩
      · obtain ⟨m, rfl⟩ : ∃ m, k = m + 1 := ⟨k - 1, by omega⟩
        have e1 : ((m + 1 : Nat) : Int) - 1 = (m : Int) := by omega
        rw [e1]
        have hm : m < (dg a).length := by rw [HN.out]; omega
        have hm2 : m < (dg b).length := by rw [HK.out]; omega
        obtain ⟨p, rfl, hpb, hpc⟩ := HA.out.get hm
        obtain ⟨q, rfl, hqb, hqc⟩ := HB.out.get hm2
        unfold nv at hpc hqc
        obtain ⟨x, hx⟩ : ∃ x, (dg a)[m] = x := ⟨_, rfl⟩
        obtain ⟨y, hy⟩ : ∃ y, (dg b)[m] = y := ⟨_, rfl⟩
        rw [hx] at hpc
        rw [hy] at hqc
        have HX : Hid ((dg a)[m]? = some x) := Lib.hid (by rw [← hx]; exact List.getElem?_eq_getElem hm)
        have HY : Hid ((dg b)[m]? = some y) := Lib.hid (by rw [← hy]; exact List.getElem?_eq_getElem hm2)
        have hS0 : wr.drew.cell? (p.add m) = some (.int .i64 x) ∧ wr.drew.cell? (q.add m) = some (.int .i64 y) := ⟨(HBB.out.cell (p := p.add m) (by rw [addr_add_block]; exact hpb)).trans hpc, (HBB.out.cell (p := q.add m) (by rw [addr_add_block]; exact hqb)).trans hqc⟩
        have d1 : decide ((0 : Int) ≤ (m : Int)) = true := by simp
        obtain ⟨z', hz'⟩ : ∃ z', IntKind.i64.wrap ((m : Int) - 1) = z' := ⟨_, rfl⟩
        have hzz : z' = (m : Int) - 1 := by rw [← hz', IntKind.wrap_i64]; omega
        have HZ' := Lib.hid hzz
        have z1 : (0 : Int) ≤ (m : Int) := by omega
        have z2 : (m : Int) < (n : Int) := by omega
        clear hzz hpc hqc hx hy e1
        obtain ⟨g, hg⟩ : ∃ g, ((x : Int) != (y : Int)) = g := ⟨_, rfl⟩
        go_wp2_with fail
        refine wp_region_noPanic ?_
        refine wp_region_held_drew (S := fun U => U.cell? (p.add m) = some (.int .i64 x) ∧ U.cell? (q.add m) = some (.int .i64 y)) (by kernel_rfl) hS0 (fun hHeld => ?_)
        refine tk 0 ?_
        refine tk 1 ?_
        refine tk 2 ?_
        refine tk 3 ?_
        refine tk 4 ?_
        refine tk 5 ?_
        refine tk 6 ?_
        refine tk 7 ?_
        refine tk 8 ?_
        refine dn ?_
        have HBd : Hid (Below w.heap.size w wr.drew) := Lib.hid (Below.drew HBB.out)
        clear hHeld
        cases g
        · have hxy : x = y := by have h := hg; simp at h; omega
          have ht : (dg a).drop m = (dg b).drop m := by
            rw [List.drop_eq_getElem_cons hm, List.drop_eq_getElem_cons hm2, (List.getElem?_eq_some_iff.1 HX.out).2, (List.getElem?_eq_some_iff.1 HY.out).2, hxy, HT.out]
          have HTT := Lib.hid ht
          clear ht hxy
          go_wp2
          go_round
          case rel => exact ⟨⟨m, by omega, by rw [HZ'.out], HTT⟩, HBd.out⟩
          case measure => rw [HZ'.out]; simp
        · have hS1 : wr.drew.drew.cell? (p.add m) = some (.int .i64 x) ∧ wr.drew.drew.cell? (q.add m) = some (.int .i64 y) := hS0
          obtain ⟨g2, hg2⟩ : ∃ g, decide ((x : Int) < (y : Int)) = g := ⟨_, rfl⟩
          have HG2 := Lib.hid hg2
          have HG := Lib.hid hg
          clear hg2 hS0
          have hg2' : decide (x < y) = g2 := by rw [← HG2.out]; simp
          go_wp2_with fail
          refine wp_region_noPanic ?_
          refine wp_region_held_drew (S := fun U => U.cell? (p.add m) = some (.int .i64 x) ∧ U.cell? (q.add m) = some (.int .i64 y)) (by kernel_rfl) hS1 (fun hHeld => ?_)
          refine tk 0 ?_
          refine tk 1 ?_
          refine tk 2 ?_
          refine tk 3 ?_
          refine tk 4 ?_
          refine tk 5 ?_
          refine tk 6 ?_
          refine tk 7 ?_
          refine tk 8 ?_
          refine dn ?_
          have HBd2 : Hid (Below w.heap.size w wr.drew.drew) := Lib.hid (Below.drew HBd.out)
          clear hHeld
          cases g2
          · go_wp2
            go_ret
            have hlt : y < x := by
              have h1 := HG2.out
              have h2 := HG.out
              simp at h1 h2
              omega
            have := ord_lt (dg_dgs b) HT.out.symm HY.out HX.out hlt
            rw [dv_dg, dv_dg] at this
            rw [ordZ_gt this]
            exact ⟨rfl, HBd2.out⟩
          · go_wp2
            go_ret
            have hlt : x < y := by
              have h1 := HG2.out
              simp at h1
              omega
            have := ord_lt (dg_dgs a) HT.out HX.out HY.out hlt
            rw [dv_dg, dv_dg] at this
            rw [ordZ_lt this]
            exact ⟨rfl, HBd2.out⟩
  · have d0 : ((n : Int) != (k : Int)) = true := by simp; omega
    rcases Nat.lt_or_ge n k with hlt | hge
    · have d1 : decide (n < k) = true := by simp [hlt]
      have hab : a < b := dg_len_lt (by omega)
      rw [ordZ_lt hab]
      clear hn hk hA hB HA HB
      go_enter Tryz.func218, Tryz.ntmps218
      go_wp2
      go_ret
      exact ⟨rfl, Below.refl _ _⟩
    · have d1 : decide (n < k) = false := by simp; omega
      have hab : b < a := dg_len_lt (by omega)
      rw [ordZ_gt hab]
      clear hn hk hA hB HA HB
      go_enter Tryz.func218, Tryz.ntmps218
      go_wp2
      go_ret
      exact ⟨rfl, Below.refl _ _⟩
end Go.Proofs.YteeifhlhpiimoaaGreatDoor
end
section
namespace Go.Proofs.YteeifhlhpiimoaaGreatDoor
open Go Go.RowKit Go.Shelf
attribute [local go_sem] Oper.semAt_some
def DgP (w : World) (n : Nat) (e : Ending) (w' : World) : Prop := ∃ v, e = .returned v ∧ LsAt w' v (dg n) ∧ Fresh w.heap.size v ∧ Below w.heap.size w w'
set_option maxRecDepth 100000 in
set_option maxHeartbeats 4000000 in
theorem rminus_walk (a b : Nat) (hab : b ≤ a) (v1 v2 : Value) (w : World) (h1 : LsAt w v1 (dg a)) (h2 : LsAt w v2 (dg b)) (ha : (dg a).length ≤ 100000) :
    Calls Tryz.prog 223 #[v1, v2] w (DgP w (a - b)) := by
  obtain ⟨A, c, rfl, hc1, hc2, hc3, hA⟩ := h1
  obtain ⟨B, d, rfl, hd1, hd2, hd3, hB⟩ := h2
  have HA := Lib.hid hA
  have HB := Lib.hid hB
  obtain ⟨n, hn⟩ : ∃ n, (dg a).length = n := ⟨_, rfl⟩
  obtain ⟨k, hk⟩ : ∃ k, (dg b).length = k := ⟨_, rfl⟩
  have HN := Lib.hid hn
  have HK := Lib.hid hk
  have HKN : Hid (k ≤ n) := Lib.hid (by rw [← hn, ← hk]; exact dg_len_mono hab)
  have HAB := Lib.hid hab
  rw [hn] at ha
  rw [hn, hk]
  have HN1 := Lib.hid ha
  clear hn hk hA hB hc1 hc2 hc3 hd1 hd2 hd3 hab
  go_enter Tryz.func223, Tryz.ntmps223
  go_wp2_with fail
  go_loopw [5, 6, 7] (fun v cv iv wr => ∃ (i c : Nat) (o : List Nat), iv = .int .i64 (i : Int) ∧ cv = .int .i64 (c : Int) ∧ i ≤ n ∧ c ≤ 1 ∧ Hid (o.length = i) ∧ Hid (Dgs o ∧ dv o + dv ((dg b).take i) = dv ((dg a).take i) + c * 10 ^ i) ∧ Hid (IntL wr w.heap.size v o) ∧ Hid (Below w.heap.size w wr)) (fun _ _ i _ => n - (intOf i).toNat)
  case atStart => exact ⟨0, 0, [], rfl, rfl, Nat.zero_le _, Nat.zero_le _, Lib.hid rfl, Lib.hid ⟨fun d hd => (by cases hd), (by simp [dv])⟩, Lib.hid OL.nil, Lib.hid (Below.refl _ _)⟩
  case round =>
    obtain ⟨i, c, o, rfl, rfl, hi, hc, HO, HI, HOL, HBB⟩ := hrel
    by_cases hlt : i < n
    · have hm : i < (dg a).length := by rw [HN.out]; exact hlt
      obtain ⟨p, rfl, hpb, hpc⟩ := HA.out.get hm
      unfold nv at hpc
      obtain ⟨x, hx⟩ : ∃ x, (dg a)[i] = x := ⟨_, rfl⟩
      rw [hx] at hpc
      have HX : Hid ((dg a)[i]? = some x) := Lib.hid (by rw [← hx]; exact List.getElem?_eq_getElem hm)
      have hx9 : x < 10 := dg_dgs a x (List.mem_of_getElem? HX.out)
      have hpc2 : wr.cell? (p.add i) = some (.int .i64 x) := (HBB.out.cell (p := p.add i) (by rw [addr_add_block]; exact hpb)).trans hpc
      have d1 : decide (i < n) = true := by simp [hlt]
      have z1 : (0 : Int) ≤ (i : Int) := by omega
      have z2 : (i : Int) < (n : Int) := by omega
      have w1 : IntKind.i64.wrap ((i : Int) + 1) = ((i + 1 : Nat) : Int) := by have := HN1.out; rw [IntKind.wrap_i64]; omega
      have HBs := Lib.hid HBB.out.size
      have HST : Hid (∀ y d c', ((dg b)[i]? = some y ∨ (dg b).length ≤ i ∧ y = 0) → d + y + c = x + 10 * c' → d < 10 → Dgs (o ++ [d]) ∧ dv (o ++ [d]) + dv ((dg b).take (i + 1)) = dv ((dg a).take (i + 1)) + c' * 10 ^ (i + 1)) :=
        Lib.hid fun y d c' hy hd hd9 => ⟨HI.out.1.app (fun z hz => by rw [List.mem_singleton.1 hz]; exact hd9), minus_step HI.out.2 HO.out HX.out hy hd⟩
      clear hpc hpb hx hm
      by_cases hik : i < k
      · have hm2 : i < (dg b).length := by rw [HK.out]; exact hik
        obtain ⟨q, rfl, hqb, hqc⟩ := HB.out.get hm2
        unfold nv at hqc
        obtain ⟨y, hy⟩ : ∃ y, (dg b)[i] = y := ⟨_, rfl⟩
        rw [hy] at hqc
        have HY : Hid ((dg b)[i]? = some y) := Lib.hid (by rw [← hy]; exact List.getElem?_eq_getElem hm2)
        have hy9 : y < 10 := dg_dgs b y (List.mem_of_getElem? HY.out)
        have hqc2 : wr.cell? (q.add i) = some (.int .i64 y) := (HBB.out.cell (p := q.add i) (by rw [addr_add_block]; exact hqb)).trans hqc
        have d2 : decide (i < k) = true := by simp [hik]
        have z3 : (i : Int) < (k : Int) := by omega
        obtain ⟨s, hs⟩ : ∃ s : Int, (x : Int) - (c : Int) = s := ⟨_, rfl⟩
        have ws : IntKind.i64.wrap ((x : Int) - (c : Int)) = s := by rw [IntKind.wrap_i64]; omega
        clear hqc hqb hy hm2
        by_cases hneg : s - (y : Int) < 0
        · obtain ⟨d, hd⟩ : ∃ d : Nat, s - (y : Int) + 10 = (d : Int) := ⟨(s - (y : Int) + 10).toNat, by omega⟩
          obtain ⟨t, ht⟩ : ∃ t : Int, s - (y : Int) = t := ⟨_, rfl⟩
          have wt : IntKind.i64.wrap (s - (y : Int)) = t := by rw [IntKind.wrap_i64]; omega
          have wd : IntKind.i64.wrap (t + 10) = (d : Int) := by rw [IntKind.wrap_i64]; omega
          have b1 : decide (t < 0) = true := by simp; omega
          have HN2 := Lib.hid (HST.out y d 1 (.inl HY.out) (by omega) (by omega))
          clear hs ht hd hneg hx9 hy9
          go_wp2_with (first
            | (at_builtin; refine wpList_app rfl (.tmp 35) (.tmp 37) 23 rfl elemInt _ _ i HO.out rfl (HOL.out.alloc _) d wr.heap.size #[.int .i64 d] rfl ?hc rfl rfl (by simp [one, nv, Value.oneCell']) (by have := HO.out; have := HN1.out; unfold maxLen; omega) (by have := HO.out; have := HN1.out; omega) (by have := HBs.out; simp; omega) ?_; (case hc => exact World.alloc_heap_new _ _); intro g3 c3 w3 h3 _ _ _ hb3)
            | fail)
          go_roundw
          case rel => exact ⟨i + 1, 1, _, by go_num, rfl, by omega, by omega, Lib.hid (by rw [List.length_append, HO.out]; rfl), Lib.hid HN2.out, Lib.hid h3, Lib.hid ((HBB.out.alloc HBs.out _).trans hb3)⟩
          case measure => simp [intOf]; omega
        · obtain ⟨d, hd⟩ : ∃ d : Nat, s - (y : Int) = (d : Int) := ⟨(s - (y : Int)).toNat, by omega⟩
          have wt : IntKind.i64.wrap (s - (y : Int)) = (d : Int) := by rw [IntKind.wrap_i64]; omega
          have b1 : decide ((d : Int) < 0) = false := by simp
          have HN2 := Lib.hid (HST.out y d 0 (.inl HY.out) (by omega) (by omega))
          clear hs hd hneg hx9 hy9
          go_wp2_with (first
            | (at_builtin; refine wpList_app rfl (.tmp 35) (.tmp 37) 23 rfl elemInt _ _ i HO.out rfl (HOL.out.alloc _) d wr.heap.size #[.int .i64 d] rfl ?hc rfl rfl (by simp [one, nv, Value.oneCell']) (by have := HO.out; have := HN1.out; unfold maxLen; omega) (by have := HO.out; have := HN1.out; omega) (by have := HBs.out; simp; omega) ?_; (case hc => exact World.alloc_heap_new _ _); intro g3 c3 w3 h3 _ _ _ hb3)
            | fail)
          go_roundw
          case rel => exact ⟨i + 1, 0, _, by go_num, rfl, by omega, by omega, Lib.hid (by rw [List.length_append, HO.out]; rfl), Lib.hid HN2.out, Lib.hid h3, Lib.hid ((HBB.out.alloc HBs.out _).trans hb3)⟩
          case measure => simp [intOf]; omega
      · have d2 : decide (i < k) = false := by simp; omega
        have HY : Hid ((dg b).length ≤ i) := Lib.hid (by rw [HK.out]; omega)
        by_cases hneg : (x : Int) - (c : Int) < 0
        · obtain ⟨t, ht⟩ : ∃ t : Int, (x : Int) - (c : Int) = t := ⟨_, rfl⟩
          obtain ⟨d, hd⟩ : ∃ d : Nat, t + 10 = (d : Int) := ⟨(t + 10).toNat, by omega⟩
          have wt : IntKind.i64.wrap ((x : Int) - (c : Int)) = t := by rw [IntKind.wrap_i64]; omega
          have wd : IntKind.i64.wrap (t + 10) = (d : Int) := by rw [IntKind.wrap_i64]; omega
          have b1 : decide (t < 0) = true := by simp; omega
          have HN2 := Lib.hid (HST.out 0 d 1 (.inr ⟨HY.out, rfl⟩) (by omega) (by omega))
          clear ht hd hneg hx9
          go_wp2_with (first
            | (at_builtin; refine wpList_app rfl (.tmp 35) (.tmp 37) 23 rfl elemInt _ _ i HO.out rfl (HOL.out.alloc _) d wr.heap.size #[.int .i64 d] rfl ?hc rfl rfl (by simp [one, nv, Value.oneCell']) (by have := HO.out; have := HN1.out; unfold maxLen; omega) (by have := HO.out; have := HN1.out; omega) (by have := HBs.out; simp; omega) ?_; (case hc => exact World.alloc_heap_new _ _); intro g3 c3 w3 h3 _ _ _ hb3)
            | fail)
          go_roundw
          case rel => exact ⟨i + 1, 1, _, by go_num, rfl, by omega, by omega, Lib.hid (by rw [List.length_append, HO.out]; rfl), Lib.hid HN2.out, Lib.hid h3, Lib.hid ((HBB.out.alloc HBs.out _).trans hb3)⟩
          case measure => simp [intOf]; omega
        · obtain ⟨d, hd⟩ : ∃ d : Nat, (x : Int) - (c : Int) = (d : Int) := ⟨((x : Int) - (c : Int)).toNat, by omega⟩
          have wt : IntKind.i64.wrap ((x : Int) - (c : Int)) = (d : Int) := by rw [IntKind.wrap_i64]; omega
          have b1 : decide ((d : Int) < 0) = false := by simp
          have HN2 := Lib.hid (HST.out 0 d 0 (.inr ⟨HY.out, rfl⟩) (by omega) (by omega))
          clear hd hneg hx9
          go_wp2_with (first
            | (at_builtin; refine wpList_app rfl (.tmp 35) (.tmp 37) 23 rfl elemInt _ _ i HO.out rfl (HOL.out.alloc _) d wr.heap.size #[.int .i64 d] rfl ?hc rfl rfl (by simp [one, nv, Value.oneCell']) (by have := HO.out; have := HN1.out; unfold maxLen; omega) (by have := HO.out; have := HN1.out; omega) (by have := HBs.out; simp; omega) ?_; (case hc => exact World.alloc_heap_new _ _); intro g3 c3 w3 h3 _ _ _ hb3)
            | fail)
          go_roundw
          case rel => exact ⟨i + 1, 0, _, by go_num, rfl, by omega, by omega, Lib.hid (by rw [List.length_append, HO.out]; rfl), Lib.hid HN2.out, Lib.hid h3, Lib.hid ((HBB.out.alloc HBs.out _).trans hb3)⟩
          case measure => simp [intOf]; omega
    · have d1 : decide (i < n) = false := by simp; omega
      obtain rfl : i = n := by omega
      have hval : dv o = a - b := by
        have h := HI.out.2
        rw [← HN.out] at h
        have := minus_end h (by rw [HO.out, HN.out]) HI.out.1 (by rw [HN.out, HK.out]; exact HKN.out) (by rw [dv_dg, dv_dg]; exact HAB.out)
        rw [dv_dg, dv_dg] at this
        exact this
      have HV := Lib.hid hval
      have HFR := Lib.hid HOL.out.fresh
      obtain ⟨A', c', rfl, q1, q2, q3, q4⟩ := LsAt.of_ol HOL.out
      have HT := Lib.hid (rtrim_walk A' c' o o.length rfl q1 q2 q3 wr q4 HI.out.1)
      clear q1 q2 q3 q4 hval hi hlt
      obtain ⟨m, hm⟩ : ∃ m, o.length = m := ⟨_, rfl⟩
      rw [hm] at HT HFR HOL ⊢
      clear hm
      go_wp2_with (first
        | (go_at_call 257; refine HT.out.mono ?_; rintro e w2 ⟨⟨v2, rfl, hv2, hf2⟩, rfl⟩; have HV2 := Lib.hid hv2; have HF2 := Lib.hid hf2; clear hv2 hf2)
        | fail)
      go_ret
      exact ⟨_, rfl, by rw [← HV.out]; exact HV2.out, HF2.out _ HFR.out, HBB.out⟩
end Go.Proofs.YteeifhlhpiimoaaGreatDoor
end
