/-
  Two proofs that are accepted for one root say the same, or two different strings with the same digest are met: plainly. No condition.
-/
import Derived.Test.YtjelniemoambaaaDoorProofP
namespace Go.Proofs.YtjelniemoambaaaDoor
open Go

theorem allB_size {l : List ByteArray} (h : allB l = true) : ∀ x ∈ l, x.size = 32 := fun x hx => by
  unfold allB at h
  simpa using List.all_eq_true.1 h x hx

/-- The digest of a string. -/
def shaB (x : ByteArray) : ByteArray := shaS x.data.toList
def leafT (s : ByteArray) : ByteArray := ⟨(0 :: s.data.toList).toArray⟩
def nodeT (a b : ByteArray) : ByteArray := ⟨(1 :: (a.data.toList ++ b.data.toList)).toArray⟩
def chainT (a b : ByteArray) : ByteArray := ⟨(2 :: (a.data.toList ++ b.data.toList)).toArray⟩
theorem shaB_leafT (s : ByteArray) : shaB (leafT s) = leafS s := rfl
theorem shaB_nodeT (a b : ByteArray) : shaB (nodeT a b) = nodeS a b := rfl
theorem shaB_chainT (a b : ByteArray) : shaB (chainT a b) = chainS a b := rfl
theorem ba_of_toList {a b : ByteArray} (h : a.data.toList = b.data.toList) : a = b := by
  cases a; cases b; congr; exact Array.toList_inj.1 h
theorem leafT_inj {a b : ByteArray} (h : leafT a = leafT b) : a = b := by
  have := congrArg (fun x : ByteArray => x.data.toList) h
  simp only [leafT, List.cons.injEq, true_and] at this
  exact ba_of_toList this
theorem nodeT_inj {a b c d : ByteArray} (ha : a.size = c.size) (h : nodeT a b = nodeT c d) : a = c ∧ b = d := by
  have := congrArg (fun x : ByteArray => x.data.toList) h
  simp only [nodeT, List.cons.injEq, true_and] at this
  obtain ⟨h1, h2⟩ := List.append_inj this (by simpa using ha)
  exact ⟨ba_of_toList h1, ba_of_toList h2⟩
theorem chainT_inj {a b c d : ByteArray} (ha : a.size = c.size) (h : chainT a b = chainT c d) : a = c ∧ b = d := by
  have := congrArg (fun x : ByteArray => x.data.toList) h
  simp only [chainT, List.cons.injEq, true_and] at this
  obtain ⟨h1, h2⟩ := List.append_inj this (by simpa using ha)
  exact ⟨ba_of_toList h1, ba_of_toList h2⟩

/-- Do two different strings with the same index have the same digest? -/
def collB : List ByteArray → List ByteArray → Bool
  | x :: a, y :: b => (decide (x ≠ y) && decide (shaB x = shaB y)) || collB a b
  | _, _ => false
theorem collB_nil (b : List ByteArray) : collB [] b = false := by unfold collB; rfl
theorem collB_nil' (a : List ByteArray) : collB a [] = false := by cases a <;> rfl
theorem collB_cons {x y : ByteArray} {a b : List ByteArray} (h : collB (x :: a) (y :: b) = false) (hs : shaB x = shaB y) : x = y ∧ collB a b = false := by
  unfold collB at h
  rw [Bool.or_eq_false_iff] at h
  refine ⟨?_, h.2⟩
  have := h.1
  simp [hs] at this
  exact this

/-- The text of which a step's digest is computed. -/
def joinT (x : ByteArray × Bool) (p : ByteArray) : ByteArray := if x.2 then nodeT x.1 p else nodeT p x.1
theorem shaB_joinT (x : ByteArray × Bool) (p : ByteArray) : shaB (joinT x p) = joinS x p := by unfold joinT joinS; split <;> rfl
theorem joinT_inj {x y : ByteArray × Bool} {p q : ByteArray} (hb : x.2 = y.2) (hx : x.1.size = 32) (hy : y.1.size = 32) (hp : p.size = 32) (hq : q.size = 32) (h : joinT x p = joinT y q) : x = y ∧ p = q := by
  obtain ⟨x, b⟩ := x
  obtain ⟨y, c⟩ := y
  dsimp only at hb hx hy
  subst hb
  unfold joinT at h
  cases b
  · obtain ⟨h1, h2⟩ := nodeT_inj (by rw [hp, hq]) h
    dsimp only at h1 h2; subst h1 h2; exact ⟨rfl, rfl⟩
  · obtain ⟨h1, h2⟩ := nodeT_inj (by dsimp only; rw [hx, hy]) h
    dsimp only at h1 h2; subst h1 h2; exact ⟨rfl, rfl⟩
/-- The texts of the steps, from the root on. -/
def stepsT : List (ByteArray × Bool) → ByteArray → List ByteArray
  | [], _ => []
  | x :: ws, z => joinT x (ws.foldr joinS z) :: stepsT ws z
theorem foldr_join_size {z : ByteArray} (hz : z.size = 32) : ∀ ws : List (ByteArray × Bool), (ws.foldr joinS z).size = 32
  | [] => hz
  | _ :: _ => joinS_size _ _
theorem steps_same : ∀ (ws ws' : List (ByteArray × Bool)) (z z' : ByteArray) (e e' : List ByteArray), ws.map (·.2) = ws'.map (·.2) → (∀ x ∈ ws, x.1.size = 32) → (∀ x ∈ ws', x.1.size = 32) → z.size = 32 → z'.size = 32 →
    ws.foldr joinS z = ws'.foldr joinS z' → collB (stepsT ws z ++ e) (stepsT ws' z' ++ e') = false → ws = ws' ∧ z = z' ∧ collB e e' = false
  | [], [], z, z', e, e', _, _, _, _, _, h, hc => ⟨rfl, h, hc⟩
  | [], _ :: _, _, _, _, _, hd, _, _, _, _, _, _ => by simp at hd
  | _ :: _, [], _, _, _, _, hd, _, _, _, _, _, _ => by simp at hd
  | x :: ws, y :: ws', z, z', e, e', hd, h1, h2, hz, hz', h, hc => by
    simp only [List.map_cons, List.cons.injEq] at hd
    have hsx : shaB (joinT x (ws.foldr joinS z)) = shaB (joinT y (ws'.foldr joinS z')) := by rw [shaB_joinT, shaB_joinT]; exact h
    obtain ⟨ht, hc2⟩ := collB_cons (show collB (joinT x (ws.foldr joinS z) :: (stepsT ws z ++ e)) (joinT y (ws'.foldr joinS z') :: (stepsT ws' z' ++ e')) = false from hc) hsx
    obtain ⟨rfl, hv⟩ := joinT_inj hd.1 (h1 _ (by simp)) (h2 _ (by simp)) (foldr_join_size hz _) (foldr_join_size hz' _) ht
    obtain ⟨rfl, r2, r3⟩ := steps_same ws ws' z z' e e' hd.2 (fun x hx => h1 x (by simp [hx])) (fun x hx => h2 x (by simp [hx])) hz hz' hv hc2
    exact ⟨rfl, r2, r3⟩

/-- The steps of two proofs of one place go the same ways. -/
theorem st_dirs : ∀ (n i : Nat) (p q : List ByteArray) (ws ws' : List (ByteArray × Bool)) (r r' : List ByteArray), i < n → stS n i p = some (ws, r) → stS n i q = some (ws', r') → ws.map (·.2) = ws'.map (·.2) := by
  intro n
  induction n using Nat.strongRecOn with
  | ind n ih =>
    intro i p q ws ws' r r' hi hp hq
    rcases Nat.lt_or_ge n 2 with h2 | h2
    · rw [stS_one i p (by omega)] at hp
      rw [stS_one i q (by omega)] at hq
      cases hp; cases hq; rfl
    · obtain ⟨k0, k1, k2⟩ := leftN_ok h2
      rcases nil_or_snoc p with rfl | ⟨p, x, rfl⟩
      · rw [stS_nil i h2] at hp; cases hp
      rcases nil_or_snoc q with rfl | ⟨q, y, rfl⟩
      · rw [stS_nil i h2] at hq; cases hq
      by_cases hk : i < leftN n
      · rw [stS_left _ _ h2 hk] at hp hq
        obtain ⟨⟨a, b⟩, ha, e1⟩ := Option.map_eq_some_iff.1 hp
        obtain ⟨⟨c, d⟩, hc, e2⟩ := Option.map_eq_some_iff.1 hq
        cases e1; cases e2
        simp only [List.map_cons]
        rw [ih _ k1 i p q a c b d hk ha hc]
      · rw [stS_right _ _ h2 hk] at hp hq
        obtain ⟨⟨a, b⟩, ha, e1⟩ := Option.map_eq_some_iff.1 hp
        obtain ⟨⟨c, d⟩, hc, e2⟩ := Option.map_eq_some_iff.1 hq
        cases e1; cases e2
        simp only [List.map_cons]
        rw [ih _ (by omega) _ p q a c b d (by omega) ha hc]
theorem st_size : ∀ (n i : Nat) (p : List ByteArray) (ws : List (ByteArray × Bool)) (r : List ByteArray), i < n → (∀ x ∈ p, x.size = 32) → stS n i p = some (ws, r) → ∀ x ∈ ws, x.1.size = 32 := by
  intro n
  induction n using Nat.strongRecOn with
  | ind n ih =>
    intro i p ws r hi hs hp
    rcases Nat.lt_or_ge n 2 with h2 | h2
    · rw [stS_one i p (by omega)] at hp
      cases hp; intro x hx; cases hx
    · obtain ⟨k0, k1, k2⟩ := leftN_ok h2
      rcases nil_or_snoc p with rfl | ⟨p, x, rfl⟩
      · rw [stS_nil i h2] at hp; cases hp
      have hx := hs x (by simp)
      have hs' : ∀ x ∈ p, x.size = 32 := fun y hy => hs y (by simp [hy])
      by_cases hk : i < leftN n
      · rw [stS_left _ _ h2 hk] at hp
        obtain ⟨⟨a, b⟩, ha, e1⟩ := Option.map_eq_some_iff.1 hp
        cases e1
        intro y hy
        rcases List.mem_cons.1 hy with rfl | h
        · exact hx
        · exact ih _ k1 i p a b hk hs' ha y h
      · rw [stS_right _ _ h2 hk] at hp
        obtain ⟨⟨a, b⟩, ha, e1⟩ := Option.map_eq_some_iff.1 hp
        cases e1
        intro y hy
        rcases List.mem_cons.1 hy with rfl | h
        · exact hx
        · exact ih _ (by omega) _ p a b (by omega) hs' ha y h
/-- The texts that are digested for a proof of an entry, from the root on. -/
def wayT (ws : List (ByteArray × Bool)) (s : ByteArray) : List ByteArray := stepsT ws (leafS s) ++ [leafT s]
theorem verB_steps {root : ByteArray} {n i : Int} {s : ByteArray} {p : List ByteArray} (h : verB root n i s p = true) : 0 ≤ i ∧ i < n ∧ (∀ x ∈ p, x.size = 32) ∧ ∃ ws, stS n.toNat i.toNat p = some (ws, []) ∧ ws.foldr joinS (leafS s) = root := by
  unfold verB at h
  split at h
  · cases h
  · rename_i hg
    have hall : allB p = true := by
      cases ha : allB p
      · exact absurd (.inr (.inr ha)) hg
      · rfl
    refine ⟨by omega, by omega, allB_size hall, ?_⟩
    cases hs : stS n.toNat i.toNat p with
    | none => rw [hs] at h; cases h
    | some x =>
      obtain ⟨ws, rest⟩ := x
      rw [hs] at h
      simp only [Bool.and_eq_true, decide_eq_true_eq] at h
      obtain ⟨rfl, h⟩ := h
      exact ⟨ws, rfl, h⟩
/-- WHO PROVES TWO ENTRIES FOR ONE PLACE HAS MET TWO STRINGS WITH ONE DIGEST. -/
theorem way_binding {n i : Nat} {s t : ByteArray} {p q : List ByteArray} {ws ws' : List (ByteArray × Bool)} (hi : i < n) (hp : ∀ x ∈ p, x.size = 32) (hq : ∀ x ∈ q, x.size = 32) (h1 : stS n i p = some (ws, [])) (h2 : stS n i q = some (ws', []))
    (h : ws.foldr joinS (leafS s) = ws'.foldr joinS (leafS t)) (hst : s ≠ t) : collB (wayT ws s) (wayT ws' t) = true := by
  cases hc : collB (wayT ws s) (wayT ws' t)
  · exfalso
    obtain ⟨-, hl, hc2⟩ := steps_same ws ws' (leafS s) (leafS t) [leafT s] [leafT t] (st_dirs n i p q ws ws' [] [] hi h1 h2) (st_size n i p ws [] hi hp h1) (st_size n i q ws' [] hi hq h2) (leafS_size _) (leafS_size _) h hc
    obtain ⟨ht, -⟩ := collB_cons hc2 (by rw [shaB_leafT, shaB_leafT]; exact hl)
    exact hst (leafT_inj ht)
  · rfl

theorem se_dirs : ∀ (n m : Nat) (p q : List ByteArray) (ws ws' : List (ByteArray × Bool)) (r r' : List ByteArray), 1 ≤ m → seS n m p = some (ws, r) → seS n m q = some (ws', r') → ws.map (·.2) = ws'.map (·.2) := by
  intro n
  induction n using Nat.strongRecOn with
  | ind n ih =>
    intro m p q ws ws' r r' hm hp hq
    rcases Nat.lt_or_ge m n with h2 | h2
    · obtain ⟨k0, k1, k2⟩ := leftN_ok (n := n) (by omega)
      rcases nil_or_snoc p with rfl | ⟨p, x, rfl⟩
      · rw [seS_nil h2] at hp; cases hp
      rcases nil_or_snoc q with rfl | ⟨q, y, rfl⟩
      · rw [seS_nil h2] at hq; cases hq
      by_cases hk : m ≤ leftN n
      · rw [seS_left _ _ hm h2 hk] at hp hq
        obtain ⟨⟨a, b⟩, ha, e1⟩ := Option.map_eq_some_iff.1 hp
        obtain ⟨⟨c, d⟩, hc, e2⟩ := Option.map_eq_some_iff.1 hq
        cases e1; cases e2
        simp only [List.map_cons]
        rw [ih _ k1 m p q a c b d hm ha hc]
      · rw [seS_right _ _ hm h2 hk] at hp hq
        obtain ⟨⟨a, b⟩, ha, e1⟩ := Option.map_eq_some_iff.1 hp
        obtain ⟨⟨c, d⟩, hc, e2⟩ := Option.map_eq_some_iff.1 hq
        cases e1; cases e2
        simp only [List.map_cons]
        rw [ih _ (by omega) _ p q a c b d (by omega) ha hc]
    · rw [seS_one p h2] at hp
      rw [seS_one q h2] at hq
      cases hp; cases hq; rfl
theorem se_size : ∀ (n m : Nat) (p : List ByteArray) (ws : List (ByteArray × Bool)) (r : List ByteArray), 1 ≤ m → (∀ x ∈ p, x.size = 32) → seS n m p = some (ws, r) → (∀ x ∈ ws, x.1.size = 32) ∧ ∀ x ∈ r, x.size = 32 := by
  intro n
  induction n using Nat.strongRecOn with
  | ind n ih =>
    intro m p ws r hm hs hp
    rcases Nat.lt_or_ge m n with h2 | h2
    · obtain ⟨k0, k1, k2⟩ := leftN_ok (n := n) (by omega)
      rcases nil_or_snoc p with rfl | ⟨p, x, rfl⟩
      · rw [seS_nil h2] at hp; cases hp
      have hx := hs x (by simp)
      have hs' : ∀ x ∈ p, x.size = 32 := fun y hy => hs y (by simp [hy])
      by_cases hk : m ≤ leftN n
      · rw [seS_left _ _ hm h2 hk] at hp
        obtain ⟨⟨a, b⟩, ha, e1⟩ := Option.map_eq_some_iff.1 hp
        cases e1
        obtain ⟨i1, i2⟩ := ih _ k1 m p a b hm hs' ha
        refine ⟨fun y hy => ?_, i2⟩
        rcases List.mem_cons.1 hy with rfl | h
        · exact hx
        · exact i1 y h
      · rw [seS_right _ _ hm h2 hk] at hp
        obtain ⟨⟨a, b⟩, ha, e1⟩ := Option.map_eq_some_iff.1 hp
        cases e1
        obtain ⟨i1, i2⟩ := ih _ (by omega) _ p a b (by omega) hs' ha
        refine ⟨fun y hy => ?_, i2⟩
        rcases List.mem_cons.1 hy with rfl | h
        · exact hx
        · exact i1 y h
    · rw [seS_one p h2] at hp
      cases hp
      exact ⟨(fun x hx => by cases hx), hs⟩
/-- The value at the foot of an extension's steps. -/
def footS (old : ByteArray) (ws : List (ByteArray × Bool)) (rest : List ByteArray) : ByteArray := if ws.any (·.2) then rest.headD old else old
theorem verE_steps {old root : ByteArray} {m n : Int} {p : List ByteArray} (h : verE old m root n p = true) (h0 : m ≠ 0) (hn : m ≠ n) : 0 < m ∧ m < n ∧ old.size = 32 ∧ (∀ x ∈ p, x.size = 32) ∧
    ∃ ws rest, seS n.toNat m.toNat p = some (ws, rest) ∧ rest.length = (if ws.any (·.2) then 1 else 0) ∧ fstS ws (footS old ws rest) = old ∧ ws.foldr joinS (footS old ws rest) = root := by
  unfold verE at h
  split at h
  · cases h
  · rename_i hg
    have h : veR old root (seS n.toNat m.toNat p) = true := by simpa [h0, hn] using h
    have hall : allB p = true := by
      cases ha : allB p
      · exact absurd (.inr (.inr (.inl ha))) hg
      · rfl
    have hold : old.size = 32 := by
      by_cases ho : old.size = 32
      · exact ho
      · exact absurd (.inr (.inr (.inr (.inl ho)))) hg
    refine ⟨by omega, by omega, hold, allB_size hall, ?_⟩
    cases hs : seS n.toNat m.toNat p with
    | none => rw [hs] at h; cases h
    | some x =>
      obtain ⟨ws, rest⟩ := x
      rw [hs] at h
      refine ⟨ws, rest, rfl, ?_⟩
      unfold veR at h
      dsimp only at h
      unfold footS
      by_cases ha : ws.any (·.2) = true
      · rw [if_pos ha] at h
        rw [if_pos ha, if_pos ha]
        match rest, h with
        | [r], h =>
          simp only [Bool.and_eq_true, decide_eq_true_eq] at h
          exact ⟨rfl, h.1, h.2⟩
        | [], h => cases h
        | _ :: _ :: _, h => cases h
      · rw [if_neg ha] at h
        rw [if_neg ha, if_neg ha]
        simp only [Bool.and_eq_true, decide_eq_true_eq] at h
        obtain ⟨⟨rfl, h2⟩, h3⟩ := h
        exact ⟨rfl, h2, h3⟩
/-- WHO PROVES TWO BEGINNINGS OF ONE LENGTH HAS MET TWO STRINGS WITH ONE DIGEST. -/
theorem sides_binding {n m : Nat} {a b : ByteArray} {p q : List ByteArray} {ws ws' : List (ByteArray × Bool)} {r r' : List ByteArray} (hm : 1 ≤ m) (ha : a.size = 32) (hb : b.size = 32) (hp : ∀ x ∈ p, x.size = 32) (hq : ∀ x ∈ q, x.size = 32)
    (h1 : seS n m p = some (ws, r)) (h2 : seS n m q = some (ws', r')) (f1 : fstS ws (footS a ws r) = a) (f2 : fstS ws' (footS b ws' r') = b) (h : ws.foldr joinS (footS a ws r) = ws'.foldr joinS (footS b ws' r')) (hab : a ≠ b) :
    collB (stepsT ws (footS a ws r)) (stepsT ws' (footS b ws' r')) = true := by
  have hfoot : ∀ (o : ByteArray) (ws : List (ByteArray × Bool)) (r : List ByteArray), o.size = 32 → (∀ x ∈ r, x.size = 32) → (footS o ws r).size = 32 := fun o ws r ho hr => by
    unfold footS
    split
    · cases r with
      | nil => exact ho
      | cons x r => exact hr x (by simp)
    · exact ho
  cases hc : collB (stepsT ws (footS a ws r)) (stepsT ws' (footS b ws' r'))
  · exfalso
    obtain ⟨s1, s2⟩ := se_size n m p ws r hm hp h1
    obtain ⟨t1, t2⟩ := se_size n m q ws' r' hm hq h2
    obtain ⟨rfl, hz, -⟩ := steps_same ws ws' _ _ [] [] (se_dirs n m p q ws ws' r r' hm h1 h2) s1 t1 (hfoot a ws r ha s2) (hfoot b ws' r' hb t2) h (by rw [List.append_nil, List.append_nil]; exact hc)
    rw [← hz, f1] at f2
    exact hab f2
  · rfl

/-- The head of a list of records, the last one first; and the texts that are digested for it. -/
def zero32 : ByteArray := ⟨(List.replicate 32 0).toArray⟩
def hdR : List ByteArray → ByteArray
  | [] => zero32
  | r :: l => chainS (hdR l) r
def txR : List ByteArray → List ByteArray
  | [] => []
  | r :: l => chainT (hdR l) r :: txR l
theorem hdR_size : ∀ l : List ByteArray, (hdR l).size = 32
  | [] => rfl
  | _ :: _ => chainS_size _ _
theorem txR_length : ∀ l : List ByteArray, (txR l).length = l.length
  | [] => rfl
  | _ :: l => by rw [txR, List.length_cons, List.length_cons, txR_length l]
theorem chain_binding : ∀ (a b : List ByteArray), hdR a = hdR b → collB (txR a) (txR b) = false →
    a = b ∨ (a.length < b.length ∧ ∃ x, (txR b)[a.length]? = some x ∧ shaB x = zero32) ∨ (b.length < a.length ∧ ∃ x, (txR a)[b.length]? = some x ∧ shaB x = zero32)
  | [], [], _, _ => .inl rfl
  | [], r :: l, h, _ => .inr (.inl ⟨by simp, _, rfl, h.symm⟩)
  | r :: l, [], h, _ => .inr (.inr ⟨by simp, _, rfl, h⟩)
  | r :: l, r' :: l', h, hc => by
    obtain ⟨ht, hc2⟩ := collB_cons hc (by rw [shaB_chainT, shaB_chainT]; exact h)
    obtain ⟨h1, rfl⟩ := chainT_inj (by rw [hdR_size, hdR_size]) ht
    rcases chain_binding l l' h1 hc2 with rfl | ⟨h2, x, hx, hx2⟩ | ⟨h2, x, hx, hx2⟩
    · exact .inl rfl
    · exact .inr (.inl ⟨by simp; omega, x, by simpa [txR] using hx, hx2⟩)
    · exact .inr (.inr ⟨by simp; omega, x, by simpa [txR] using hx, hx2⟩)

/-- No more steps than elements. -/
theorem st_len2 : ∀ (n i : Nat) (p : List ByteArray) (ws : List (ByteArray × Bool)) (r : List ByteArray), stS n i p = some (ws, r) → ws.length + r.length = p.length := by
  intro n
  induction n using Nat.strongRecOn with
  | ind n ih =>
    intro i p ws r hp
    rcases Nat.lt_or_ge n 2 with h2 | h2
    · rw [stS_one i p (by omega)] at hp
      cases hp; simp
    · obtain ⟨k0, k1, k2⟩ := leftN_ok h2
      rcases nil_or_snoc p with rfl | ⟨p, x, rfl⟩
      · rw [stS_nil i h2] at hp; cases hp
      by_cases hk : i < leftN n
      · rw [stS_left _ _ h2 hk] at hp
        obtain ⟨⟨a, b⟩, ha, e1⟩ := Option.map_eq_some_iff.1 hp
        cases e1
        have := ih _ k1 i p a b ha
        simp; omega
      · rw [stS_right _ _ h2 hk] at hp
        obtain ⟨⟨a, b⟩, ha, e1⟩ := Option.map_eq_some_iff.1 hp
        cases e1
        have := ih _ (by omega) _ p a b ha
        simp; omega
theorem se_len2 : ∀ (n m : Nat) (p : List ByteArray) (ws : List (ByteArray × Bool)) (r : List ByteArray), 1 ≤ m → seS n m p = some (ws, r) → ws.length + r.length = p.length := by
  intro n
  induction n using Nat.strongRecOn with
  | ind n ih =>
    intro m p ws r hm hp
    rcases Nat.lt_or_ge m n with h2 | h2
    · obtain ⟨k0, k1, k2⟩ := leftN_ok (n := n) (by omega)
      rcases nil_or_snoc p with rfl | ⟨p, x, rfl⟩
      · rw [seS_nil h2] at hp; cases hp
      by_cases hk : m ≤ leftN n
      · rw [seS_left _ _ hm h2 hk] at hp
        obtain ⟨⟨a, b⟩, ha, e1⟩ := Option.map_eq_some_iff.1 hp
        cases e1
        have := ih _ k1 m p a b hm ha
        simp; omega
      · rw [seS_right _ _ hm h2 hk] at hp
        obtain ⟨⟨a, b⟩, ha, e1⟩ := Option.map_eq_some_iff.1 hp
        cases e1
        have := ih _ (by omega) _ p a b (by omega) ha
        simp; omega
    · rw [seS_one p h2] at hp
      cases hp; simp
theorem stepsT_length (ws : List (ByteArray × Bool)) (z : ByteArray) : (stepsT ws z).length = ws.length := by
  induction ws with
  | nil => rfl
  | cons y ys ih => rw [stepsT, List.length_cons, ih]; rfl
theorem wayT_length (ws : List (ByteArray × Bool)) (s : ByteArray) : (wayT ws s).length = ws.length + 1 := by unfold wayT; rw [List.length_append, stepsT_length]; rfl

theorem joinT_size (x : ByteArray × Bool) (p : ByteArray) : (joinT x p).size = x.1.size + p.size + 1 := by
  unfold joinT nodeT
  split
  · rw [ba_mk_size, List.length_cons, List.length_append, ba_length, ba_length]
  · rw [ba_mk_size, List.length_cons, List.length_append, ba_length, ba_length]; omega
theorem stepsT_size : ∀ (ws : List (ByteArray × Bool)) (z : ByteArray), z.size = 32 → (∀ x ∈ ws, x.1.size = 32) → ∀ y ∈ stepsT ws z, y.size = 65
  | [], _, _, _, y, hy => by cases hy
  | x :: ws, z, hz, h, y, hy => by
    rcases List.mem_cons.1 hy with rfl | hy
    · rw [joinT_size, h x (by simp), foldr_join_size hz]
    · exact stepsT_size ws z hz (fun x hx => h x (by simp [hx])) y hy
theorem leafT_size (s : ByteArray) : (leafT s).size = s.size + 1 := by unfold leafT; rw [ba_mk_size, List.length_cons, ba_length]
theorem wayT_size (ws : List (ByteArray × Bool)) (s : ByteArray) (n : Nat) (hs : s.size + 65 ≤ n) (h : ∀ x ∈ ws, x.1.size = 32) : ∀ y ∈ wayT ws s, y.size ≤ n := by
  intro y hy
  rcases List.mem_append.1 hy with hy | hy
  · have := stepsT_size ws _ (leafS_size s) h y hy; omega
  · rw [List.mem_singleton.1 hy, leafT_size]; omega

end Go.Proofs.YtjelniemoambaaaDoor
