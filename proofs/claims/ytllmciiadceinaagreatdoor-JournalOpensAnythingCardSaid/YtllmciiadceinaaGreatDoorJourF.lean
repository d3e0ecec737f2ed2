/-
  Calls on a disk one after the other, up to the first error; the contract of Open. Conditions: each contract's own.
-/
import Derived.Test.YtllmciiadceinaaGreatDoorJourE
import Derived.Test.YtllmciiadceinaaGreatDoorJourL
namespace Go.Proofs.YtllmciiadceinaaGreatDoor
open Go Go.RowKit Go.Shelf Wr

inductive DOp where
  | wr (k : Int) (x : ByteArray)
  | sy
def DOp.err : DOp → DS → Int
  | .wr k x, s => s.writeE k x
  | .sy, s => chkE s
def DOp.run : DOp → DS → DS
  | .wr k x, s => s.wr k x
  | .sy, s => s.sync
def seqS : List DOp → DS → Int × DS
  | [], s => (0, s)
  | o :: r, s => if o.err s = 0 then seqS r (o.run s) else (o.err s, o.run s)
def OpAt (W : World) (F : Nat → Prop) (j d : Nat) (v : CallV) : DOp → Prop
  | .wr k x => WAt W v j k x ∧ (∀ b, v.blk b → ¬ F b) ∧ x.size ≤ 4194304
  | .sy => v = .sy d
theorem wr_pend (s : DS) (off : Int) (x : ByteArray) : (s.wr off x).pend.length ≤ s.pend.length + 1 ∧ (s.wr off x).left ≤ s.left := by
  unfold DS.wr
  split
  · exact ⟨by omega, Nat.le_refl _⟩
  · split
    · unfold DS.write DS.used
      dsimp only
      split
      · exact ⟨by simp, Nat.le_refl _⟩
      · exact ⟨by simp, by dsimp only; omega⟩
    · exact ⟨by omega, Nat.le_refl _⟩
theorem sync_pend (s : DS) : s.sync.pend.length ≤ s.pend.length ∧ s.sync.left = s.left := by
  unfold DS.sync
  split
  · exact ⟨Nat.le_refl _, rfl⟩
  · exact ⟨Nat.zero_le _, rfl⟩
theorem op_pend (o : DOp) (s : DS) : (o.run s).pend.length ≤ s.pend.length + 1 ∧ (o.run s).left ≤ s.left := by
  cases o with
  | wr k x => exact wr_pend s k x
  | sy => exact ⟨Nat.le_trans (sync_pend s).1 (Nat.le_succ _), Nat.le_of_eq (sync_pend s).2⟩

/-- A disk that a call leaves: state s, its blocks F's or new. -/
def DLeft (W : World) (F : Nat → Prop) (W' : World) (d gd gv n : Nat) (s : DS) : Prop := (∃ F' vp', DAt W' F' d gd gv vp' n s ∧ ∀ k, F' k → F k ∨ W.heap.size ≤ k) ∧ Turns F W W'
theorem op_walk {W : World} {F : Nat → Prop} {d gd gv n : Nat} {vp : Value} {s : DS} (h : DAt W F d gd gv vp n s) (v : CallV) (o : DOp) (j : Nat) (hv : OpAt W F j d v o) (hj : W.cell? ⟨j, 3, none⟩ = some (.pointer (some ⟨d, 0, none⟩)))
    (hF : ¬ F j) (hp : s.pend.length ≤ 1000000) (hleft : s.left ≤ 9223372036854775807) : Calls Tryz.prog v.fn v.args W fun e W' => e = .returned (.int .i64 (o.err s)) ∧ DLeft W F W' d gd gv n (o.run s) := by
  cases o with
  | wr k x =>
    obtain ⟨h1, h2, h3⟩ := hv
    exact wcall_walk h v j k x h1 hj (fun b hb => by rcases hb with hb | rfl; exact h2 b hb; exact hF) h3 hp hleft
  | sy =>
    cases hv
    refine (sync_walk h).mono ?_
    rintro e W' ⟨rfl, ⟨vp', hd⟩, ht⟩
    exact ⟨rfl, ⟨F, vp', hd, fun k hk => .inl hk⟩, ht⟩

theorem first_disk {W : World} {F : Nat → Prop} {d gd gv n : Nat} {vp : Value} {s : DS} (h : DAt W F d gd gv vp n s) (g m : Nat) (l : List CallV) (ops : List DOp) (hl : l.length = m) (hm : m ≤ 100) (hlo : ops.length = m)
    (hg : ∀ (k : Nat) (v : CallV), l[k]? = some v → W.cell? ⟨g, k, none⟩ = some v.val) (hgF : ¬ F g) (j : Nat) (hj : W.cell? ⟨j, 3, none⟩ = some (.pointer (some ⟨d, 0, none⟩))) (hjF : ¬ F j)
    (ho : ∀ (k : Nat) (v : CallV) (o : DOp), l[k]? = some v → ops[k]? = some o → OpAt W F j d v o) (hp : s.pend.length ≤ 900000) (hleft : s.left ≤ 9223372036854775807) :
    Calls Tryz.prog 40 #[.slice (some ⟨g, 0, none⟩) m m] W fun e W' => e = .returned (.int .i64 (seqS ops s).1) ∧ DLeft W F W' d gd gv n (seqS ops s).2 := by
  refine (first_walk g m l hl hm (fun i w => ∃ F' vp' s', DAt w F' d gd gv vp' n s' ∧ (∀ k, F' k → F k ∨ W.heap.size ≤ k) ∧ Turns F W w ∧ seqS (ops.drop i) s' = seqS ops s ∧ s'.pend.length ≤ s.pend.length + i ∧ s'.left ≤ 9223372036854775807)
    (fun k w => k = (seqS ops s).1 ∧ DLeft W F w d gd gv n (seqS ops s).2) ⟨F, vp, s, h, fun k hk => .inl hk, Turns.refl _ _, rfl, by omega, hleft⟩ ?_ ?_ ?_).mono ?_
  · rintro i w ⟨F', vp', s', -, -, ht, -, -⟩ k v hv
    have hc := hg k v hv
    exact (ht.cell (p := ⟨g, k, none⟩) (cell_lt hc) hgF).trans hc
  · rintro i w v ⟨F', vp', s', hd, hF', ht, hs, hp', hl'⟩ hv
    have hi : i < m := by rw [← hl]; exact (List.getElem?_eq_some_iff.1 hv).1
    obtain ⟨o, hov⟩ : ∃ o, ops[i]? = some o := ⟨_, List.getElem?_eq_getElem (by omega)⟩
    have hdrop : ops.drop i = o :: ops.drop (i + 1) := by
      rw [← List.getElem_cons_drop (by omega : i < ops.length), (List.getElem?_eq_some_iff.1 hov).2]
    have hA : OpAt w F' j d v o := by
      have := ho i v o hv hov
      cases o with
      | wr k x =>
        obtain ⟨h1, h2, h3⟩ := this
        refine ⟨h1.keep ht (fun b hb => h2 b hb), fun b hb hf => ?_, h3⟩
        rcases hF' b hf with q | q
        · exact h2 b hb q
        · have := h1.lt b hb; omega
      | sy => exact this
    have hj' := (ht.cell (p := ⟨j, 3, none⟩) (cell_lt hj) hjF).trans hj
    refine (op_walk hd v o j hA hj' (fun hf => ?_) (by omega) hl').mono ?_
    · rcases hF' j hf with q | q
      · exact hjF q
      · have := cell_lt hj; dsimp only at this; omega
    · rintro e W' ⟨rfl, ⟨F2, vp2, hd2, hF2⟩, ht2⟩
      have hpl := op_pend o s'
      have htt := ht.then ht2 hF'
      have hFF : ∀ k, F2 k → F k ∨ W.heap.size ≤ k := fun k hk => by
        rcases hF2 k hk with q | q
        · exact hF' k q
        · exact .inr (Nat.le_trans ht.size q)
      rw [hdrop, seqS] at hs
      refine ⟨o.err s', rfl, ?_⟩
      by_cases he : o.err s' = 0
      · rw [if_pos he] at hs
        exact .inl ⟨he, F2, vp2, o.run s', hd2, hFF, htt, hs, by omega, by omega⟩
      · rw [if_neg he] at hs
        refine .inr ⟨he, by rw [← hs], ?_⟩
        rw [← hs]
        exact ⟨⟨F2, vp2, hd2, hFF⟩, htt⟩
  · rintro w ⟨F', vp', s', hd, hF', ht, hs, -, -⟩
    rw [List.drop_eq_nil_of_le (by omega), seqS] at hs
    rw [← hs]
    exact ⟨rfl, ⟨F', vp', hd, hF'⟩, ht⟩
  · rintro e W' ⟨k, rfl, rfl, hd⟩
    exact ⟨rfl, hd⟩

theorem dropWhile_nil {l : List UInt8} {p : UInt8 → Bool} : l.dropWhile p = [] ↔ ∀ x ∈ l, p x = true := by
  induction l with
  | nil => simp
  | cons x l ih =>
    rw [List.dropWhile_cons]
    by_cases h : p x = true
    · rw [if_pos h, ih]; simp [h]
    · rw [if_neg h]; simp [h]
theorem trimB_nil {l : List UInt8} : Lib.trimB l 0 = [] ↔ allZ l = true := by
  unfold allZ Lib.trimB Lib.trimLeftB Lib.trimRightB
  rw [dropWhile_nil, List.all_eq_true]
  constructor
  · intro h
    cases hd : l.reverse.dropWhile (· == 0) with
    | nil =>
      rw [dropWhile_nil] at hd
      intro b hb
      exact hd b (by simpa using hb)
    | cons x m =>
      have hx := h x (by rw [hd]; simp)
      have : ∀ (l' : List UInt8) (x : UInt8) (m : List UInt8), l'.dropWhile (· == 0) = x :: m → (x == 0) = true → False := by
        intro l' x m he hz
        induction l' with
        | nil => cases he
        | cons y l' ih =>
          rw [List.dropWhile_cons] at he
          by_cases hy : (y == 0) = true
          · rw [if_pos hy] at he; exact ih he
          · rw [if_neg hy] at he
            cases he
            exact hy hz
      exact (this _ _ _ hd hx).elim
  · intro h b hb
    have := (List.dropWhile_sublist _).subset (List.mem_reverse.1 hb)
    exact h b (by simpa using this)
end Go.Proofs.YtllmciiadceinaaGreatDoor
