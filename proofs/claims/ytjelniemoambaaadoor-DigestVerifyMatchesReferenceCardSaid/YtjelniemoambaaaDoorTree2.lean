/-
  Proofs, extensions and their values, as plain functions. No condition.
-/
import Derived.Test.YtjelniemoambaaaDoorDigJ
namespace Go.Proofs.YtjelniemoambaaaDoor
open Go

/-- The proof of the entry i of a list, the last step first in the text's loop. -/
def pfF : Nat → List ByteArray → Nat → List ByteArray
  | 0, _, _ => []
  | f + 1, l, i => if l.length ≤ 1 then [] else
      if i < leftN l.length then pfF f (l.take (leftN l.length)) i ++ [rootS (l.drop (leftN l.length))] else pfF f (l.drop (leftN l.length)) (i - leftN l.length) ++ [rootS (l.take (leftN l.length))]
def proofS (l : List ByteArray) (i : Nat) : List ByteArray := pfF l.length l i
theorem pfF_any : ∀ (f : Nat) (l : List ByteArray) (i : Nat), l.length ≤ f → pfF f l i = pfF l.length l i := by
  intro f
  induction f using Nat.strongRecOn with
  | ind f ih =>
    intro l i hl
    rcases Nat.lt_or_ge l.length 2 with h2 | h2
    · have h1 : l.length ≤ 1 := by omega
      cases f with
      | zero => rw [show l.length = 0 by omega]
      | succ f => cases hn : l.length with
        | zero => simp [pfF, h1]
        | succ n => simp [pfF, h1]
    · obtain ⟨h0, h1, h3⟩ := leftN_ok h2
      obtain ⟨f, rfl⟩ : ∃ g, f = g + 1 := ⟨f - 1, by omega⟩
      obtain ⟨n, hn⟩ : ∃ n, l.length = n + 1 := ⟨l.length - 1, by omega⟩
      have ht : (l.take (leftN l.length)).length ≤ n := by rw [List.length_take]; omega
      have hd : (l.drop (leftN l.length)).length ≤ n := by rw [List.length_drop]; omega
      have e1 : pfF l.length l i = if l.length ≤ 1 then [] else
          if i < leftN l.length then pfF n (l.take (leftN l.length)) i ++ [rootS (l.drop (leftN l.length))] else pfF n (l.drop (leftN l.length)) (i - leftN l.length) ++ [rootS (l.take (leftN l.length))] := by
        conv => lhs; arg 1; rw [hn]
        rfl
      have e2 : pfF (f + 1) l i = if l.length ≤ 1 then [] else
          if i < leftN l.length then pfF f (l.take (leftN l.length)) i ++ [rootS (l.drop (leftN l.length))] else pfF f (l.drop (leftN l.length)) (i - leftN l.length) ++ [rootS (l.take (leftN l.length))] := rfl
      rw [e1, e2, ih f (by omega) _ _ (by omega), ih f (by omega) _ _ (by omega)]
      rcases Nat.lt_or_ge n f with hf | hf
      · rw [ih n (by omega) _ _ ht, ih n (by omega) _ _ hd]
      · obtain rfl : n = f := by omega
        rw [ih n (by omega) _ _ ht, ih n (by omega) _ _ hd]
theorem proofS_one {l : List ByteArray} {i : Nat} (h : l.length ≤ 1) : proofS l i = [] := by
  unfold proofS
  cases hn : l.length with
  | zero => rfl
  | succ n => simp [pfF, h]
theorem proofS_two {l : List ByteArray} (i : Nat) (h : 2 ≤ l.length) : proofS l i =
    if i < leftN l.length then proofS (l.take (leftN l.length)) i ++ [rootS (l.drop (leftN l.length))] else proofS (l.drop (leftN l.length)) (i - leftN l.length) ++ [rootS (l.take (leftN l.length))] := by
  obtain ⟨h0, h1, h2⟩ := leftN_ok h
  obtain ⟨n, hn⟩ : ∃ n, l.length = n + 1 := ⟨l.length - 1, by omega⟩
  unfold proofS
  rw [← pfF_any n (l.take (leftN l.length)) i (by rw [List.length_take]; omega), ← pfF_any n (l.drop (leftN l.length)) _ (by rw [List.length_drop]; omega)]
  conv => lhs; arg 1; rw [hn]
  show (if l.length ≤ 1 then [] else _) = _
  rw [if_neg (by omega)]
theorem proofS_digests (l : List ByteArray) (i : Nat) : ∀ x ∈ proofS l i, x.size = 32 := by
  have h : ∀ (f : Nat) (l : List ByteArray) (i : Nat), ∀ x ∈ pfF f l i, x.size = 32 := by
    intro f
    induction f with
    | zero => intro l i x hx; cases hx
    | succ f ih =>
      intro l i x hx
      unfold pfF at hx
      split at hx
      · cases hx
      · split at hx <;> rcases List.mem_append.1 hx with h | h
        · exact ih _ _ x h
        · rw [List.mem_singleton.1 h]; exact rootS_size _
        · exact ih _ _ x h
        · rw [List.mem_singleton.1 h]; exact rootS_size _
  exact h _ l i

/-- The proof that a list begins with m entries. -/
def exF : Nat → List ByteArray → Nat → Bool → List ByteArray
  | 0, l, _, wh => if wh then [] else [rootS l]
  | f + 1, l, m, wh => if l.length ≤ m then (if wh then [] else [rootS l]) else
      if m ≤ leftN l.length then exF f (l.take (leftN l.length)) m wh ++ [rootS (l.drop (leftN l.length))] else exF f (l.drop (leftN l.length)) (m - leftN l.length) false ++ [rootS (l.take (leftN l.length))]
def extS (l : List ByteArray) (m : Nat) (wh : Bool) : List ByteArray := exF l.length l m wh
theorem exF_done (f : Nat) {l : List ByteArray} {m : Nat} (wh : Bool) (h : l.length ≤ m) : exF f l m wh = if wh then [] else [rootS l] := by
  cases f with
  | zero => rfl
  | succ f => simp [exF, h]
theorem exF_succ (f : Nat) (l : List ByteArray) (m : Nat) (wh : Bool) : exF (f + 1) l m wh = if l.length ≤ m then (if wh then [] else [rootS l]) else
      if m ≤ leftN l.length then exF f (l.take (leftN l.length)) m wh ++ [rootS (l.drop (leftN l.length))] else exF f (l.drop (leftN l.length)) (m - leftN l.length) false ++ [rootS (l.take (leftN l.length))] := rfl
theorem exF_more : ∀ (f : Nat) (l : List ByteArray) (m : Nat) (wh : Bool), l.length ≤ f → 1 ≤ m → exF (f + 1) l m wh = exF f l m wh := by
  intro f
  induction f with
  | zero => intro l m wh hl hm; rw [exF_done _ wh (by omega), exF_done _ wh (by omega)]
  | succ f ih =>
    intro l m wh hl hm
    by_cases h2 : l.length ≤ m
    · rw [exF_done _ wh h2, exF_done _ wh h2]
    · obtain ⟨h0, h1, h3⟩ := leftN_ok (n := l.length) (by omega)
      rw [exF_succ (f + 1) l m wh, exF_succ f l m wh, if_neg h2, if_neg h2]
      by_cases hk : m ≤ leftN l.length
      · rw [if_pos hk, if_pos hk, ih _ _ _ (by rw [List.length_take]; omega) hm]
      · rw [if_neg hk, if_neg hk, ih _ _ _ (by rw [List.length_drop]; omega) (by omega)]
theorem exF_any (f : Nat) (l : List ByteArray) (m : Nat) (wh : Bool) (hl : l.length ≤ f) (hm : 1 ≤ m) : exF f l m wh = exF l.length l m wh := by
  obtain ⟨d, rfl⟩ : ∃ d, f = l.length + d := ⟨f - l.length, by omega⟩
  induction d with
  | zero => rfl
  | succ d ih => rw [← Nat.add_assoc, exF_more _ _ _ _ (by omega) hm, ih (by omega)]
theorem extS_done {l : List ByteArray} {m : Nat} (wh : Bool) (h : l.length ≤ m) : extS l m wh = if wh then [] else [rootS l] := exF_done _ wh h
theorem extS_step {l : List ByteArray} {m : Nat} (wh : Bool) (hm : 1 ≤ m) (h : m < l.length) : extS l m wh =
    if m ≤ leftN l.length then extS (l.take (leftN l.length)) m wh ++ [rootS (l.drop (leftN l.length))] else extS (l.drop (leftN l.length)) (m - leftN l.length) false ++ [rootS (l.take (leftN l.length))] := by
  have h2' : 2 ≤ l.length := by omega
  obtain ⟨h0, h1, h3⟩ := leftN_ok h2'
  obtain ⟨n, hn⟩ : ∃ n, l.length = n + 1 := ⟨l.length - 1, by omega⟩
  unfold extS
  have e1 : exF l.length l m wh = if l.length ≤ m then (if wh then [] else [rootS l]) else
      if m ≤ leftN l.length then exF n (l.take (leftN l.length)) m wh ++ [rootS (l.drop (leftN l.length))] else exF n (l.drop (leftN l.length)) (m - leftN l.length) false ++ [rootS (l.take (leftN l.length))] := by
    conv => lhs; arg 1; rw [hn]
    rfl
  rw [e1, if_neg (by omega)]
  split
  · rw [exF_any n _ m _ (by rw [List.length_take]; omega) hm]
  · rw [exF_any n _ _ _ (by rw [List.length_drop]; omega) (by omega)]

/-- A proof's steps laid down, the first one (from the root) first, and what is left of the proof; none if it ends too soon. -/
def stF : Nat → Nat → Nat → List ByteArray → Option (List (ByteArray × Bool) × List ByteArray)
  | 0, _, _, p => some ([], p)
  | f + 1, n, i, p => if n ≤ 1 then some ([], p) else
      match p.getLast? with
      | none => none
      | some x => if i < leftN n then (stF f (leftN n) i p.dropLast).map (fun y => ((x, false) :: y.1, y.2)) else (stF f (n - leftN n) (i - leftN n) p.dropLast).map (fun y => ((x, true) :: y.1, y.2))
def stS (n i : Nat) (p : List ByteArray) : Option (List (ByteArray × Bool) × List ByteArray) := stF n n i p
theorem stF_one (f : Nat) {n : Nat} (i : Nat) (p : List ByteArray) (h : n ≤ 1) : stF f n i p = some ([], p) := by
  cases f with
  | zero => rfl
  | succ f => simp [stF, h]
theorem stF_succ (f n i : Nat) (p : List ByteArray) : stF (f + 1) n i p = if n ≤ 1 then some ([], p) else
      match p.getLast? with
      | none => none
      | some x => if i < leftN n then (stF f (leftN n) i p.dropLast).map (fun y => ((x, false) :: y.1, y.2)) else (stF f (n - leftN n) (i - leftN n) p.dropLast).map (fun y => ((x, true) :: y.1, y.2)) := rfl
theorem stF_more : ∀ (f n i : Nat) (p : List ByteArray), n ≤ f → stF (f + 1) n i p = stF f n i p := by
  intro f
  induction f with
  | zero => intro n i p hn; rw [stF_one _ i p (by omega), stF_one _ i p (by omega)]
  | succ f ih =>
    intro n i p hn
    by_cases h2 : n ≤ 1
    · rw [stF_one _ i p h2, stF_one _ i p h2]
    · obtain ⟨h0, h1, h3⟩ := leftN_ok (n := n) (by omega)
      rw [stF_succ (f + 1) n i p, stF_succ f n i p, if_neg h2, if_neg h2, ih _ _ _ (by omega), ih _ _ _ (by omega)]
theorem stF_any (f n i : Nat) (p : List ByteArray) (hn : n ≤ f) : stF f n i p = stS n i p := by
  obtain ⟨d, rfl⟩ : ∃ d, f = n + d := ⟨f - n, by omega⟩
  induction d with
  | zero => rfl
  | succ d ih => rw [← Nat.add_assoc, stF_more _ _ _ _ (by omega), ih (by omega)]
theorem stS_one {n : Nat} (i : Nat) (p : List ByteArray) (h : n ≤ 1) : stS n i p = some ([], p) := stF_one n i p h
theorem stS_nil {n : Nat} (i : Nat) (h : 2 ≤ n) : stS n i [] = none := by
  obtain ⟨m, rfl⟩ : ∃ m, n = m + 1 := ⟨n - 1, by omega⟩
  unfold stS
  rw [stF_succ, if_neg (by omega)]; rfl
theorem stS_left {n i : Nat} (p : List ByteArray) (x : ByteArray) (h : 2 ≤ n) (hi : i < leftN n) : stS n i (p ++ [x]) = (stS (leftN n) i p).map (fun y => ((x, false) :: y.1, y.2)) := by
  obtain ⟨h0, h1, h3⟩ := leftN_ok h
  obtain ⟨m, rfl⟩ : ∃ m, n = m + 1 := ⟨n - 1, by omega⟩
  show stF (m + 1) (m + 1) i _ = _
  rw [stF_succ, if_neg (by omega), List.getLast?_concat]
  dsimp only
  rw [if_pos hi, List.dropLast_concat, stF_any m _ _ _ (by omega)]
theorem stS_right {n i : Nat} (p : List ByteArray) (x : ByteArray) (h : 2 ≤ n) (hi : ¬ i < leftN n) : stS n i (p ++ [x]) = (stS (n - leftN n) (i - leftN n) p).map (fun y => ((x, true) :: y.1, y.2)) := by
  obtain ⟨h0, h1, h3⟩ := leftN_ok h
  obtain ⟨m, rfl⟩ : ∃ m, n = m + 1 := ⟨n - 1, by omega⟩
  show stF (m + 1) (m + 1) i _ = _
  rw [stF_succ, if_neg (by omega), List.getLast?_concat]
  dsimp only
  rw [if_neg hi, List.dropLast_concat, stF_any m _ _ _ (by omega)]
/-- Does a proof show that an entry belongs to a list? -/
def verB (root : ByteArray) (n i : Int) (s : ByteArray) (p : List ByteArray) : Bool :=
  if i < 0 ∨ n ≤ i ∨ allB p = false then false else
    match stS n.toNat i.toNat p with
    | none => false
    | some (ws, rest) => decide (rest = []) && decide (ws.foldr joinS (leafS s) = root)

/-- The steps of an extension. -/
def seF : Nat → Nat → Nat → List ByteArray → Option (List (ByteArray × Bool) × List ByteArray)
  | 0, _, _, p => some ([], p)
  | f + 1, n, m, p => if n ≤ m then some ([], p) else
      match p.getLast? with
      | none => none
      | some x => if m ≤ leftN n then (seF f (leftN n) m p.dropLast).map (fun y => ((x, false) :: y.1, y.2)) else (seF f (n - leftN n) (m - leftN n) p.dropLast).map (fun y => ((x, true) :: y.1, y.2))
def seS (n m : Nat) (p : List ByteArray) : Option (List (ByteArray × Bool) × List ByteArray) := seF n n m p
theorem seF_succ (f n m : Nat) (p : List ByteArray) : seF (f + 1) n m p = if n ≤ m then some ([], p) else
      match p.getLast? with
      | none => none
      | some x => if m ≤ leftN n then (seF f (leftN n) m p.dropLast).map (fun y => ((x, false) :: y.1, y.2)) else (seF f (n - leftN n) (m - leftN n) p.dropLast).map (fun y => ((x, true) :: y.1, y.2)) := rfl
theorem seF_one (f : Nat) {n m : Nat} (p : List ByteArray) (h : n ≤ m) : seF f n m p = some ([], p) := by
  cases f with
  | zero => rfl
  | succ f => simp [seF, h]
theorem seF_more : ∀ (f n m : Nat) (p : List ByteArray), n ≤ f → 1 ≤ m → seF (f + 1) n m p = seF f n m p := by
  intro f
  induction f with
  | zero => intro n m p hn hm; rw [seF_one _ p (by omega), seF_one _ p (by omega)]
  | succ f ih =>
    intro n m p hn hm
    by_cases h2 : n ≤ m
    · rw [seF_one _ p h2, seF_one _ p h2]
    · obtain ⟨h0, h1, h3⟩ := leftN_ok (n := n) (by omega)
      rw [seF_succ (f + 1) n m p, seF_succ f n m p, if_neg h2, if_neg h2]
      cases p.getLast? with
      | none => rfl
      | some x =>
        dsimp only
        by_cases hk : m ≤ leftN n
        · rw [if_pos hk, if_pos hk, ih _ _ _ (by omega) hm]
        · rw [if_neg hk, if_neg hk, ih _ _ _ (by omega) (by omega)]
theorem seF_any (f n m : Nat) (p : List ByteArray) (hn : n ≤ f) (hm : 1 ≤ m) : seF f n m p = seS n m p := by
  obtain ⟨d, rfl⟩ : ∃ d, f = n + d := ⟨f - n, by omega⟩
  induction d with
  | zero => rfl
  | succ d ih => rw [← Nat.add_assoc, seF_more _ _ _ _ (by omega) hm, ih (by omega)]
theorem seS_one {n m : Nat} (p : List ByteArray) (h : n ≤ m) : seS n m p = some ([], p) := seF_one n p h
theorem seS_nil {n m : Nat} (h : m < n) : seS n m [] = none := by
  obtain ⟨k, rfl⟩ : ∃ k, n = k + 1 := ⟨n - 1, by omega⟩
  unfold seS
  rw [seF_succ, if_neg (by omega)]; rfl
theorem seS_left {n m : Nat} (p : List ByteArray) (x : ByteArray) (hm : 1 ≤ m) (h : m < n) (hk : m ≤ leftN n) : seS n m (p ++ [x]) = (seS (leftN n) m p).map (fun y => ((x, false) :: y.1, y.2)) := by
  obtain ⟨h0, h1, h3⟩ := leftN_ok (n := n) (by omega)
  obtain ⟨k, rfl⟩ : ∃ k, n = k + 1 := ⟨n - 1, by omega⟩
  show seF (k + 1) (k + 1) m _ = _
  rw [seF_succ, if_neg (by omega), List.getLast?_concat]
  dsimp only
  rw [if_pos hk, List.dropLast_concat, seF_any k _ _ _ (by omega) hm]
theorem seS_right {n m : Nat} (p : List ByteArray) (x : ByteArray) (hm : 1 ≤ m) (h : m < n) (hk : ¬ m ≤ leftN n) : seS n m (p ++ [x]) = (seS (n - leftN n) (m - leftN n) p).map (fun y => ((x, true) :: y.1, y.2)) := by
  obtain ⟨h0, h1, h3⟩ := leftN_ok (n := n) (by omega)
  obtain ⟨k, rfl⟩ : ∃ k, n = k + 1 := ⟨n - 1, by omega⟩
  show seF (k + 1) (k + 1) m _ = _
  rw [seF_succ, if_neg (by omega), List.getLast?_concat]
  dsimp only
  rw [if_neg hk, List.dropLast_concat, seF_any k _ _ _ (by omega) (by omega)]
/-- The value of the beginning, of the whole. -/
def fstS (ws : List (ByteArray × Bool)) (z : ByteArray) : ByteArray := ws.foldr (fun x a => if x.2 then joinS x a else a) z
def sndS (ws : List (ByteArray × Bool)) (z : ByteArray) : ByteArray := ws.foldr joinS z
/-- What is left of VerifyExtension behind the guards. -/
def veR (old root : ByteArray) : Option (List (ByteArray × Bool) × List ByteArray) → Bool
  | none => false
  | some (ws, rest) =>
      if ws.any (·.2) then
        match rest with
        | [r] => decide (fstS ws r = old) && decide (sndS ws r = root)
        | _ => false
      else decide (rest = []) && decide (fstS ws old = old) && decide (sndS ws old = root)

/-- Does a proof show that a list begins with another one? -/
def verE (old : ByteArray) (m : Int) (root : ByteArray) (n : Int) (p : List ByteArray) : Bool :=
  if m < 0 ∨ n < m ∨ allB p = false ∨ old.size ≠ 32 ∨ root.size ≠ 32 then false
  else if m = 0 then decide (p = []) && decide (old = shaS [])
  else if m = n then decide (p = []) && decide (old = root)
  else veR old root (seS n.toNat m.toNat p)

end Go.Proofs.YtjelniemoambaaaDoor
