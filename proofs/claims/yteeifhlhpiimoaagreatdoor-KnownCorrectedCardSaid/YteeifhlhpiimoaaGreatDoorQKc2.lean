/-
  How long the lists of what is known are; a base stored into a variable just laid. Conditions: each law's own. (The same as in Kk0, for a claim that does without it.)
-/
import Derived.Test.YteeifhlhpiimoaaGreatDoorQAp
namespace Go.Proofs.YteeifhlhpiimoaaGreatDoor
open Go Go.RowKit Go.Shelf
theorem takeL_len {E K : Type} [DecidableEq K] (ok : E → Bool) (key : E → K) (prev : E → E → Bool) (a : List E) (e : E) : (takeL ok key prev a e).length ≤ a.length + 1 := by
  unfold takeL
  split
  · split
    · simp
    · split <;> simp
  · omega
theorem effL_len {E K : Type} [DecidableEq K] (ok : E → Bool) (key : E → K) (prev : E → E → Bool) (l : List E) : (effL ok key prev l).length ≤ l.length := by
  have h : ∀ (b a : List E), (b.foldl (takeL ok key prev) a).length ≤ a.length + b.length := by
    intro b
    induction b with
    | nil => intro a; simp
    | cons e b ih => intro a; rw [List.foldl_cons]; have := ih (takeL ok key prev a e); have := takeL_len ok key prev a e; simp only [List.length_cons]; omega
  have := h l []
  unfold effL
  simpa using this
theorem known_len (l : List Ent) (d : Int) (j : Nat) : (knownL l d j).length ≤ l.length := by
  unfold knownL effD
  rw [(sortB_perm _).length_eq]
  exact Nat.le_trans (List.length_filter_le _ _) (Nat.le_trans (List.length_filter_le _ _) (effL_len _ _ _ l))
theorem ibase9 : (Tryz.prog.info? 36).map (·.size) = some 9 := by kernel_rfl
theorem store_newB {ops : Array Oper} {rest : List Oper} {o : Oper} {a : Act} {V : World} {old : Array Value} {Q : Exit → Act → World → Prop} (hgd : o.guard = none) (x y : Operand) (ho : o.op = .store 36 x y) (hd : o.dst = none) (B : Bas)
    (hx : a.eval x = .pointer (some ⟨V.heap.size, 0, none⟩)) (hy : a.eval y = .agg B.cells.toArray) (hold : old.size = 9)
    (h : ∀ w', w'.heap[V.heap.size]? = some (.cells B.cells.toArray 36 (0, 0)) → Below V.heap.size V w' → wpList Tryz.prog ops Q rest a w') : wpList Tryz.prog ops Q (o :: rest) a (V.alloc (.cells old 36)) :=
  wpList_store_rowN hgd _ x y ho hd V.heap.size B.cells.toArray old hx hy ibase9 (World.alloc_heap_new V _) hold (by simp [Bas.cells, Value.oneCell']) fun w' hc ht => h w' hc (ht.below (below_new V _) (Nat.le_refl _) fun k hk => by omega)
end Go.Proofs.YteeifhlhpiimoaaGreatDoor
