/-
  Bases in memory with one list put anew; known.Key with a revocation more, plainly. Conditions: each law's own.
-/
import Derived.Test.YteeifhlhpiimoaaGreatDoorQAp
import Derived.Test.YteeifhlhpiimoaaGreatDoorQAn
namespace Go.Proofs.YteeifhlhpiimoaaGreatDoor
open Go Go.RowKit Go.Shelf
theorem keyFold_from : ∀ (l : List Ent) (s : Ent × Bool) , (s.2 = true → (l.foldl keyStep s).2 = true) ∧ ((l.foldl keyStep s).2 = true → (l.foldl keyStep s).1 ∈ l ∨ l.foldl keyStep s = s) ∧ (l ≠ [] → (l.foldl keyStep s).2 = true)
  | [], s => ⟨fun h => h, fun _ => .inr rfl, fun h => (h rfl).elim⟩
  | e :: l, s => by
    obtain ⟨h1, h2, h3⟩ := keyFold_from l (keyStep s e)
    have hs : (keyStep s e = (e, true)) ∨ (keyStep s e = s ∧ s.2 = true) := by
      unfold keyStep
      cases h : s.2 <;> simp
      cases better e s.1 <;> simp
    refine ⟨fun h => ?_, fun h => ?_, fun _ => ?_⟩
    · rw [List.foldl_cons]
      rcases hs with q | ⟨q, _⟩
      · exact h1 (by rw [q])
      · exact h1 (by rw [q]; exact h)
    · rw [List.foldl_cons] at h ⊢
      rcases h2 h with q | q
      · exact .inl (List.mem_cons_of_mem _ q)
      · rcases hs with r | ⟨r, _⟩
        · left; rw [q, r]; exact List.mem_cons_self
        · right; rw [q, r]
    · rw [List.foldl_cons]
      rcases hs with q | ⟨q, q2⟩
      · exact h1 (by rw [q])
      · exact h1 (by rw [q]; exact q2)
theorem keyFold_mem {l : List Ent} (h : (keyFold l).2 = true) : (keyFold l).1 ∈ l := by
  rcases (keyFold_from l (zeroE, false)).2.1 h with q | q
  · exact q
  · unfold keyFold at h; rw [q] at h; cases h
theorem keyFold_any {l : List Ent} {e : Ent} (h : e ∈ l) : (keyFold l).2 = true := (keyFold_from l (zeroE, false)).2.2 (fun q => by rw [q] at h; cases h)
theorem revoked_snoc (l : List Ent) (r : Ent) (id t : Int) : revoked (l ++ [r]) id t = (revoked l id t || (decide (r.item = id) && decide (r.frm ≤ t))) := by
  unfold revoked; rw [List.any_append]; simp
theorem keys_early {B C : Bas} {r : Ent} {lab t : Int} (h4 : C.ls 4 = B.ls 4) (h5 : C.ls 5 = B.ls 5 ++ [r]) (ht : t < r.frm) : keyB C lab t = keyB B lab t := by
  unfold keyB
  rw [h4, h5]
  have h : decide (r.frm ≤ t) = false := by simp; omega
  simp only [revoked_snoc, h, Bool.and_false, Bool.or_false]
theorem keyB_mem {B : Bas} {lab t : Int} (h : (keyB B lab t).2 = true) : (keyB B lab t).1 ∈ B.ls 4 ∧ (keyB B lab t).1.frm ≤ t ∧ t ≤ (keyB B lab t).1.til ∧ (keyB B lab t).1.lab = lab ∧ revoked (B.ls 5) (keyB B lab t).1.id t = false := by
  have h1 : (keyB B lab t).1 ∈ _ := keyFold_mem h
  rw [List.mem_filter] at h1
  obtain ⟨h1, h2⟩ := h1
  simp only [Bool.and_eq_true, Bool.not_eq_true', decide_eq_true_eq] at h2
  exact ⟨h1, h2.1.1, h2.1.2, h2.2.1, h2.2.2⟩
theorem keys_two {B C : Bas} {r : Ent} {lab t : Int} (h4 : C.ls 4 = B.ls 4) (h5 : C.ls 5 = B.ls 5 ++ [r]) (h : (keyB C lab t).2 = true) : (keyB B lab t).2 = true := by
  obtain ⟨h1, h2, h3, hl, h6⟩ := keyB_mem h
  rw [h4] at h1
  rw [h5, revoked_snoc, Bool.or_eq_false_iff] at h6
  refine keyFold_any (e := (keyB C lab t).1) (List.mem_filter.2 ⟨h1, ?_⟩)
  simp [h2, h3, hl, h6.1]
theorem keys_less {B C D : Bas} {r : Ent} {lab t : Int} (h4 : C.ls 4 = B.ls 4) (h5 : C.ls 5 = B.ls 5 ++ [r]) (h6 : D.ls 4 = (B.ls 4).filter fun e => e.id != r.item) (h7 : D.ls 5 = C.ls 5) (ht : r.frm ≤ t) : keyB D lab t = keyB C lab t := by
  unfold keyB
  rw [h6, h7, h4, h5, List.filter_filter]
  congr 1
  apply List.filter_congr
  intro e _
  have h : decide (r.frm ≤ t) = true := by simp [ht]
  simp only [revoked_snoc, h, Bool.and_true]
  by_cases hq : e.id = r.item
  · simp [hq]
  · have : decide (r.item = e.id) = false := by simp; omega
    have h2 : (e.id != r.item) = true := by simp [hq]
    simp [this, h2]
def heldB (lab t : Int) (s : List UInt8) (id : Int) (k : Ent) : Bool := (k.lab == lab) && (decide (k.frm ≤ t) && (decide (t ≤ k.til) && ((k.text.toList == s) && (k.id != id))))
theorem keys_found {B C : Bas} {r : Ent} {lab t : Int} (h4 : C.ls 4 = B.ls 4) (h5 : C.ls 5 = B.ls 5 ++ [r]) (ht : r.frm ≤ t) : (!(keyB C lab t).2 || (B.ls 4).any (heldB lab t (keyB C lab t).1.text.toList r.item)) = true := by
  cases h : (keyB C lab t).2
  · rfl
  · obtain ⟨h1, h2, h3, hl, h6⟩ := keyB_mem h
    rw [h4] at h1
    rw [h5, revoked_snoc, Bool.or_eq_false_iff] at h6
    have h8 : (keyB C lab t).1.id ≠ r.item := fun q => by have := h6.2; rw [q] at this; simp at this; omega
    simp only [Bool.not_true, Bool.false_or, List.any_eq_true]
    refine ⟨_, h1, ?_⟩
    unfold heldB
    simp [h2, h3, hl, h8]
theorem takeL_len {E K : Type} [DecidableEq K] (ok : E → Bool) (key : E → K) (prev : E → E → Bool) (a : List E) (e : E) : (takeL ok key prev a e).length ≤ a.length + 1 := by
  unfold takeL
  split
  · split
    · simp
    · split <;> simp
  · omega
theorem effL_len {E K : Type} [DecidableEq K] (ok : E → Bool) (key : E → K) (prev : E → E → Bool) (l : List E) : (effL ok key prev l).length ≤ l.length := by
  have h : ∀ (b a : List E), (b.foldl (takeL ok key prev) a).length ≤ a.length + b.length := by
    intro b
    induction b with
    | nil => intro a; simp
    | cons e b ih => intro a; rw [List.foldl_cons]; have := ih (takeL ok key prev a e); have := takeL_len ok key prev a e; simp only [List.length_cons]; omega
  have := h l []
  unfold effL
  simpa using this
theorem known_len (l : List Ent) (d : Int) (j : Nat) : (knownL l d j).length ≤ l.length := by
  unfold knownL effD
  rw [(sortB_perm _).length_eq]
  exact Nat.le_trans (List.length_filter_le _ _) (Nat.le_trans (List.length_filter_le _ _) (effL_len _ _ _ l))
def Bas.put (B : Bas) (j : Nat) (l : List Ent) (A : Option Addr) (c : Nat) : Bas := ⟨upd B.ls j l, upd B.ad j A, upd B.cp j c⟩
theorem Bas.put_cells (B : Bas) {j : Nat} (hj : j < 9) (l : List Ent) (A : Option Addr) (c : Nat) : B.cells.toArray.setIfInBounds j (.slice A l.length c) = (B.put j l A c).cells.toArray := by
  have h : j = 0 ∨ j = 1 ∨ j = 2 ∨ j = 3 ∨ j = 4 ∨ j = 5 ∨ j = 6 ∨ j = 7 ∨ j = 8 := by omega
  rcases h with rfl | rfl | rfl | rfl | rfl | rfl | rfl | rfl | rfl <;> rfl
theorem Bas.put2_cells (B : Bas) {j : Nat} (hj : j < 9) (l m : List Ent) (A A' : Option Addr) (c c' : Nat) : (B.put j l A c).cells.toArray.setIfInBounds j (.slice A' m.length c') = (B.put j m A' c').cells.toArray := by
  have h : j = 0 ∨ j = 1 ∨ j = 2 ∨ j = 3 ∨ j = 4 ∨ j = 5 ∨ j = 6 ∨ j = 7 ∨ j = 8 := by omega
  rcases h with rfl | rfl | rfl | rfl | rfl | rfl | rfl | rfl | rfl <;> rfl
theorem BasAt.put {W : World} {Y : Nat → Prop} {B : Bas} {j : Nat} {l : List Ent} {A : Option Addr} {c : Nat} (h : BasAt W Y B) (hl : EAt W Y A l) (hc : l.length ≤ c ∧ c ≤ maxLen) (hn : A = none → c = 0) : BasAt W Y (B.put j l A c) := by
  refine ⟨fun i hi => ?_, fun i hi => ?_, fun i hi => ?_⟩ <;> unfold Bas.put <;> simp only <;> by_cases hij : i = j
  · subst hij; rw [upd_same, upd_same]; exact hl
  · rw [upd_other _ _ hij, upd_other _ _ hij]; exact h.at_ i hi
  · subst hij; rw [upd_same, upd_same]; exact hc
  · rw [upd_other _ _ hij, upd_other _ _ hij]; exact h.cap i hi
  · subst hij; rw [upd_same, upd_same]; exact hn
  · rw [upd_other _ _ hij, upd_other _ _ hij]; exact h.none_ i hi
theorem BasAt.putO {W : World} {Y : Nat → Prop} {B : Bas} {j N n : Nat} {l : List Ent} {A : Option Addr} {c : Nat} (h : BasAt W Y B) (ho : OL W N 33 18 Ent.cells (.slice A n c) l) (hY : ∀ b, A = some ⟨b, 0, none⟩ → Y b) : BasAt W Y (B.put j l A c) := by
  have hn := ho.len
  exact h.put (EAt.of_ol ho hY) ⟨by omega, hn.2.2⟩ ho.nilcap
theorem EAt.cats {w : World} {Y : Nat → Prop} {A : Option Addr} {l : List Ent} (h : EAt w Y A l) : ∀ j x, (l.flatMap Ent.cells)[j]? = some x → ∃ a, A = some a ∧ w.cell? (a.add j) = some x := by
  intro j x hx
  have hf : ∀ x : Ent, x.cells.length = 18 := fun _ => rfl
  have hlen : (l.flatMap Ent.cells).length = l.length * 18 := flatMap_length hf
  have hj : j < l.length * 18 := by rw [← hlen]; exact (List.getElem?_eq_some_iff.1 hx).1
  obtain ⟨q, r, hr, rfl⟩ : ∃ q r, r < 18 ∧ j = q * 18 + r := ⟨j / 18, j % 18, by omega, by omega⟩
  have hq : q < l.length := by omega
  obtain ⟨b, hA, _, hrg⟩ := h q _ (List.getElem?_eq_getElem hq)
  refine ⟨_, hA, ?_⟩
  rw [show (⟨b, 0, none⟩ : Addr).add (q * 18 + r) = ⟨b, q * 18 + r, none⟩ from by simp [Addr.add]; omega]
  rw [flat_at (f := Ent.cells) (s := 18) hf l q _ (List.getElem?_eq_getElem hq) r hr] at hx
  exact hrg r x hx
theorem ibase9 : (Tryz.prog.info? 36).map (·.size) = some 9 := by kernel_rfl
theorem store_newB {ops : Array Oper} {rest : List Oper} {o : Oper} {a : Act} {V : World} {old : Array Value} {Q : Exit → Act → World → Prop} (hgd : o.guard = none) (x y : Operand) (ho : o.op = .store 36 x y) (hd : o.dst = none) (B : Bas)
    (hx : a.eval x = .pointer (some ⟨V.heap.size, 0, none⟩)) (hy : a.eval y = .agg B.cells.toArray) (hold : old.size = 9)
    (h : ∀ w', w'.heap[V.heap.size]? = some (.cells B.cells.toArray 36 (0, 0)) → Below V.heap.size V w' → wpList Tryz.prog ops Q rest a w') : wpList Tryz.prog ops Q (o :: rest) a (V.alloc (.cells old 36)) :=
  wpList_store_rowN hgd _ x y ho hd V.heap.size B.cells.toArray old hx hy ibase9 (World.alloc_heap_new V _) hold (by simp [Bas.cells, Value.oneCell']) fun w' hc ht => h w' hc (ht.below (below_new V _) (Nat.le_refl _) fun k hk => by omega)
end Go.Proofs.YteeifhlhpiimoaaGreatDoor
