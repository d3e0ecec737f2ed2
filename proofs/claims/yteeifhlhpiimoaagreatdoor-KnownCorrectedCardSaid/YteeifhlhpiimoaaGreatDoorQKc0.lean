/-
  KnownCorrected, plainly: how often the corrected entry is there, and what else is there. No condition.
-/
import Derived.Test.YteeifhlhpiimoaaGreatDoorQKr0
import Derived.Test.YteeifhlhpiimoaaGreatDoorQAk
namespace Go.Proofs.YteeifhlhpiimoaaGreatDoor
open Go Go.RowKit Go.Shelf
attribute [local go_sem] Oper.semAt_some
theorem keyd_count {l : List Ent} (h : Keyd keyE l) (e : Ent) : l.countP (fun x => eqE x e) = if e ∈ l then 1 else 0 := by
  induction l with
  | nil => simp
  | cons x l ih =>
    obtain ⟨h1, h2⟩ := List.pairwise_cons.1 h
    rw [List.countP_cons, ih h2]
    by_cases hx : x = e
    · subst hx
      have hn : x ∉ l := fun q => h1 x q rfl
      rw [if_neg hn, if_pos ((eqE_iff x x).2 rfl), if_pos List.mem_cons_self]
    · have hq : ¬ (eqE x e = true) := fun q => hx ((eqE_iff x e).1 q)
      rw [if_neg hq, Nat.add_zero]
      by_cases hm : e ∈ l
      · rw [if_pos hm, if_pos (List.mem_cons_of_mem _ hm)]
      · rw [if_neg hm, if_neg (fun q => by rcases List.mem_cons.1 q with r | r; exact hx r.symm; exact hm r)]
theorem known_keyd (l : List Ent) (d : Int) (j : Nat) : Keyd keyE (knownL l d j) := by
  unfold knownL
  exact ((sortB_perm _).pairwise_iff (fun h q => h q.symm)).2 (List.Pairwise.filter _ (effD_keyd l d))
def cntE (lf : Nat → List Ent) (e : Ent) : Nat → Nat
  | 0 => 0
  | n + 1 => cntE lf e n + (lf n).countP fun x => eqE x e
theorem corr_in {L : List Ent} {e : Ent} {day : Int} (he : okD day e = true) (hv : ∀ x ∈ L, x.ver < e.ver) (j : Nat) : e ∈ knownL (L ++ [e]) day j ↔ e.gone = false ∧ e.kind = ((j + 1 : Nat) : Int) := by
  rw [known_mem, corr_mem he hv]
  constructor
  · rintro ⟨⟨_, h⟩ | ⟨h, _⟩, k⟩
    · exact ⟨h, k⟩
    · exact (h rfl).elim
  · rintro ⟨h, k⟩; exact ⟨.inl ⟨rfl, h⟩, k⟩
theorem corr_cnt {L : List Ent} {e : Ent} {day : Int} (he : okD day e = true) (hv : ∀ x ∈ L, x.ver < e.ver) : ∀ n : Nat, cntE (knownL (L ++ [e]) day) e n = if e.gone = false ∧ 1 ≤ e.kind ∧ e.kind ≤ (n : Int) then 1 else 0
  | 0 => by rw [cntE, if_neg]; omega
  | n + 1 => by
    rw [cntE, corr_cnt he hv n, keyd_count (known_keyd _ _ _)]
    by_cases hg : e.gone = false
    · by_cases hk : e.kind = ((n + 1 : Nat) : Int)
      · rw [if_neg (by omega), if_pos ((corr_in he hv n).2 ⟨hg, hk⟩), if_pos (by refine ⟨hg, ?_, ?_⟩ <;> omega)]
      · rw [if_neg (fun q => hk ((corr_in he hv n).1 q).2)]
        by_cases hc : e.gone = false ∧ 1 ≤ e.kind ∧ e.kind ≤ (n : Int)
        · rw [if_pos hc, if_pos ⟨hc.1, hc.2.1, by omega⟩]
        · rw [if_neg hc, if_neg (fun q => hc ⟨q.1, q.2.1, by omega⟩)]
    · rw [if_neg (fun q => hg q.1), if_neg (fun q => hg ((corr_in he hv n).1 q).1), if_neg (fun q => hg q.1)]
theorem corr_there {L : List Ent} {e : Ent} {day : Int} (he : okD day e = true) (hv : ∀ x ∈ L, x.ver < e.ver) : cntE (knownL (L ++ [e]) day) e 9 = if e.gone = true then 0 else 1 := by
  have hk := valid_kind (okD_iff.1 he).1
  rw [corr_cnt he hv]
  cases e.gone
  · rw [if_pos ⟨rfl, by omega, by omega⟩, if_neg (by simp)]
  · rw [if_neg (by simp), if_pos rfl]
theorem corr_after {L : List Ent} {e x : Ent} {day : Int} {j : Nat} (he : okD day e = true) (hv : ∀ x ∈ L, x.ver < e.ver) (hx : x ∈ knownL (L ++ [e]) day j) (hne : x ≠ e) : keyE x ≠ keyE e ∧ x ∈ knownL L day j := by
  rw [known_mem, corr_mem he hv] at hx
  rcases hx with ⟨⟨h, _⟩ | ⟨h, h2⟩, k⟩
  · exact (hne h).elim
  · exact ⟨h, known_mem.2 ⟨h2, k⟩⟩
theorem corr_before {L : List Ent} {e x : Ent} {day : Int} {j : Nat} (he : okD day e = true) (hv : ∀ x ∈ L, x.ver < e.ver) (hx : x ∈ knownL L day j) (hk : keyE x ≠ keyE e) : x ∈ knownL (L ++ [e]) day j := by
  rw [known_mem] at hx
  rw [known_mem, corr_mem he hv]
  exact ⟨.inr ⟨hk, hx.1⟩, hx.2⟩
theorem cntE_le (lf : Nat → List Ent) (e : Ent) (m : Nat) (h : ∀ j, (lf j).length ≤ m) : ∀ n, cntE lf e n ≤ n * m
  | 0 => by simp [cntE]
  | n + 1 => by
    have h1 := cntE_le lf e m h n
    have h2 : (lf n).countP (fun x => eqE x e) ≤ (lf n).length := List.countP_le_length
    have h3 := h n
    rw [cntE, Nat.succ_mul]; omega
theorem Bas.cell_at (B : Bas) {i : Nat} (hi : i < 9) : B.cells.toArray[i]? = some (.slice (B.ad i) (B.ls i).length (B.cp i)) := by
  have h9 : i = 0 ∨ i = 1 ∨ i = 2 ∨ i = 3 ∨ i = 4 ∨ i = 5 ∨ i = 6 ∨ i = 7 ∨ i = 8 := by omega
  rcases h9 with rfl | rfl | rfl | rfl | rfl | rfl | rfl | rfl | rfl <;> rfl
theorem lists19_walk (B : Bas) (w : World) : Calls Tryz.prog 16 #[B.val] w fun e w' => ∃ b, e = .returned (.slice (some ⟨b, 0, none⟩) 9 9) ∧ Below w.heap.size w w' ∧ w.heap.size ≤ b ∧ w'.heap[b]? = some (.cells B.cells.toArray 25 (0, 0)) := by
  obtain ⟨W, hW⟩ : ∃ W, w.alloc (.cells B.cells.toArray 36) = W := ⟨_, rfl⟩
  obtain ⟨g, hg⟩ : ∃ g, w.heap.size = g := ⟨_, rfl⟩
  have h := World.alloc_heap_new w (.cells B.cells.toArray 36)
  rw [hW, hg] at h
  have hb : Below w.heap.size w W := by rw [← hW]; exact below_new _ _
  have HB := Lib.hid hb
  have HG := Lib.hid (Nat.le_of_eq hg)
  have c0 := cells_i h (B.cell_at (i := 0) (by decide))
  have c1 := cells_i h (B.cell_at (i := 1) (by decide))
  have c2 := cells_i h (B.cell_at (i := 2) (by decide))
  have c3 := cells_i h (B.cell_at (i := 3) (by decide))
  have c4 := cells_i h (B.cell_at (i := 4) (by decide))
  have c5 := cells_i h (B.cell_at (i := 5) (by decide))
  have c6 := cells_i h (B.cell_at (i := 6) (by decide))
  have c7 := cells_i h (B.cell_at (i := 7) (by decide))
  have c8 := cells_i h (B.cell_at (i := 8) (by decide))
  clear h hb
  go_enter Tryz.func16, Tryz.ntmps16
  go_wp2
  go_ret
  exact ⟨_, rfl, HB.out.trans ((below_new _ _).mono HB.out.size), HB.out.size, World.alloc_heap_new _ _⟩
end Go.Proofs.YteeifhlhpiimoaaGreatDoor
