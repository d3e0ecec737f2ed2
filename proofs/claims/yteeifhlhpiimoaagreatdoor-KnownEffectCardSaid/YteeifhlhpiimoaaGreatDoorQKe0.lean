/-
  KnownEffect, plainly: what is in effect, and how many entries are not prevailed over. No condition.
-/
import Derived.Test.YteeifhlhpiimoaaGreatDoorQAk
import Derived.Test.YteeifhlhpiimoaaGreatDoorQAm
namespace Go.Proofs.YteeifhlhpiimoaaGreatDoor
open Go Go.RowKit Go.Shelf
theorem nodup_len {α : Type} [DecidableEq α] : ∀ (l m : List α), l.Nodup → (∀ x ∈ l, x ∈ m) → l.length ≤ m.length
  | [], _, _, _ => Nat.zero_le _
  | x :: l, m, h, hs => by
    obtain ⟨h1, h2⟩ := List.nodup_cons.1 h
    have hx := hs x List.mem_cons_self
    have h3 := nodup_len l (m.erase x) h2 fun y hy => (List.mem_erase_of_ne (fun e => h1 (by subst e; exact hy))).2 (hs y (List.mem_cons_of_mem _ hy))
    rw [List.length_erase_of_mem hx] at h3
    have := List.length_pos_of_mem hx
    simp only [List.length_cons]; omega
def barsB (day : Int) (x : Ent) (i k : Nat) (z : Ent) : Bool := (decide (z.day ≤ day) && prevE z x) || (decide (k < i) && eqE z x)
def blockN (l : List Ent) (day : Int) (x : Ent) (i : Nat) : Nat → Bool
  | 0 => false
  | n + 1 => blockN l day x i n || (match l[n]? with | some z => barsB day x i n z | none => false)
def standB (l : List Ent) (day : Int) (x : Ent) (i : Nat) : Bool := (validE x && (decide (x.day ≤ day) && !x.gone)) && !(blockN l day x i l.length)
def stands (l : List Ent) (day : Int) : Nat → List Ent
  | 0 => []
  | n + 1 => stands l day n ++ (match l[n]? with | some x => if standB l day x n = true then [x] else [] | none => [])
theorem blockN_iff (l : List Ent) (day : Int) (x : Ent) (i : Nat) : ∀ n, blockN l day x i n = true ↔ ∃ k z, k < n ∧ l[k]? = some z ∧ barsB day x i k z = true
  | 0 => by simp [blockN]
  | n + 1 => by
    rw [blockN, Bool.or_eq_true, blockN_iff l day x i n]
    constructor
    ·
     rintro (⟨k, z, h1, h2, h3⟩ | h)
     ·
      exact ⟨k, z, by omega, h2, h3⟩
     ·
      cases hz : l[n]? with
      | none => rw [hz] at h; cases h
      | some z => rw [hz] at h; exact ⟨n, z, by omega, hz, h⟩
    ·
     rintro ⟨k, z, h1, h2, h3⟩
     by_cases hk : k < n
     ·
      exact .inl ⟨k, z, hk, h2, h3⟩
     ·
      obtain rfl : k = n := by omega
      right; rw [h2]; exact h3
theorem stand_iff {l : List Ent} {day : Int} {x : Ent} {i : Nat} : standB l day x i = true ↔ (okD day x = true ∧ x.gone = false) ∧ (∀ z ∈ l, z.day ≤ day → prevE z x = false) ∧ (∀ k, k < i → k < l.length → l[k]? ≠ some x) := by
 unfold standB
 rw [Bool.and_eq_true, Bool.not_eq_true', okD_iff]
 simp only [Bool.and_eq_true, decide_eq_true_eq, Bool.not_eq_true']
 constructor
 ·
  rintro ⟨⟨h1, h2, h3⟩, h4⟩
  refine ⟨⟨⟨h1, h2⟩, h3⟩, fun z hz hd => ?_, fun k hk hl he => ?_⟩
  ·
   cases hp : prevE z x
   ·
    rfl
   ·
    obtain ⟨k, hk, rfl⟩ := List.getElem_of_mem hz
    have : blockN l day x i l.length = true := (blockN_iff _ _ _ _ _).2 ⟨k, l[k], hk, List.getElem?_eq_getElem hk, by unfold barsB; simp [hd, hp]⟩
    rw [h4] at this; cases this
  ·
   have : blockN l day x i l.length = true := (blockN_iff _ _ _ _ _).2 ⟨k, x, hl, he, by unfold barsB; simp [hk, (eqE_iff x x).2 rfl]⟩
   rw [h4] at this; cases this
 ·
  rintro ⟨⟨⟨h1, h2⟩, h3⟩, h4, h5⟩
  refine ⟨⟨h1, h2, h3⟩, ?_⟩
  cases hb : blockN l day x i l.length
  ·
   rfl
  ·
   obtain ⟨k, z, hk, hz, hq⟩ := (blockN_iff _ _ _ _ _).1 hb
   unfold barsB at hq
   simp only [Bool.or_eq_true, Bool.and_eq_true, decide_eq_true_eq] at hq
   rcases hq with ⟨h6, h7⟩ | ⟨h6, h7⟩
   ·
    rw [h4 z (List.mem_of_getElem? hz) h6] at h7; cases h7
   ·
    rw [(eqE_iff z x).1 h7] at hz; exact (h5 k h6 hk hz).elim
theorem eff_iff {l : List Ent} {day : Int} {x : Ent} : x ∈ effD l day ↔ x ∈ l ∧ (okD day x = true ∧ x.gone = false) ∧ ∀ z ∈ l, z.day ≤ day → prevE z x = false := by
 rw [effD_mem]
 constructor
 ·
  rintro ⟨⟨h1, h2, _, h4⟩, hg⟩
  refine ⟨h1, ⟨h2, hg⟩, fun z hz hd => ?_⟩
  cases hp : prevE z x
  ·
   rfl
  ·
   have hq := prev_iff.1 hp
   rcases h4 z hz (okD_iff.2 ⟨hq.1, hd⟩) hq.2.2.1 with q | q
   ·
    subst q; rw [(prev_ranks day).irr] at hp; cases hp
   ·
    have hr := prev_iff.1 q
    rcases hq.2.2.2 with a | ⟨a, b⟩ <;> rcases hr.2.2.2 with c | ⟨c, e⟩
    ·
     omega
    ·
     omega
    ·
     omega
    ·
     exact (List.lt_irrefl _ (List.lt_trans b e)).elim
 ·
  rintro ⟨h1, ⟨h2, hg⟩, h4⟩
  refine ⟨⟨h1, h2, rfl, fun z hz hok hk => ?_⟩, hg⟩
  have h5 := h4 z hz (okD_iff.1 hok).2
  by_cases hzx : z = x
  ·
   exact .inl hzx
  ·
   right
   rw [(prev_ranks day).tot x z h2 hok hk.symm (fun e => hzx e.symm), h5]; rfl
theorem stands_mem (l : List Ent) (day : Int) (x : Ent) : ∀ n, x ∈ stands l day n ↔ ∃ i, i < n ∧ l[i]? = some x ∧ standB l day x i = true
  | 0 => by simp [stands]
  | n + 1 => by
    rw [stands, List.mem_append, stands_mem l day x n]
    constructor
    ·
     rintro (⟨i, h1, h2, h3⟩ | h)
     ·
      exact ⟨i, by omega, h2, h3⟩
     ·
      cases hz : l[n]? with
      | none => rw [hz] at h; cases h
      | some z =>
        rw [hz] at h
        simp only at h
        split at h
        ·
         rename_i hs
         rw [List.mem_singleton.1 h]
         exact ⟨n, by omega, hz, hs⟩
        ·
         cases h
    ·
     rintro ⟨i, h1, h2, h3⟩
     by_cases hi : i < n
     ·
      exact .inl ⟨i, hi, h2, h3⟩
     ·
      obtain rfl : i = n := by omega
      right; rw [h2]; simp only; rw [if_pos h3]; exact List.mem_singleton.2 rfl
theorem stands_nodup (l : List Ent) (day : Int) : ∀ n, (stands l day n).Nodup
  | 0 => List.nodup_nil
  | n + 1 => by
    rw [stands]
    refine List.nodup_append.2 ⟨stands_nodup l day n, ?_, ?_⟩
    ·
     split
     ·
      split <;> simp
     ·
      simp
    ·
     intro a ha b hb hab
     subst hab
     cases hz : l[n]? with
     | none => rw [hz] at hb; cases hb
     | some z =>
       rw [hz] at hb
       simp only at hb
       split at hb
       ·
        rename_i hs
        rw [List.mem_singleton.1 hb] at ha
        obtain ⟨i, h1, h2, _⟩ := (stands_mem l day z n).1 ha
        exact (stand_iff.1 hs).2.2 i h1 (List.getElem?_eq_some_iff.1 h2).1 h2
       ·
        cases hb
theorem first_at_ {x : Ent} : ∀ {l : List Ent}, x ∈ l → ∃ i : Nat, l[i]? = some x ∧ ∀ k : Nat, k < i → l[k]? ≠ some x
  | [], h => by cases h
  | y :: l, h => by
    by_cases hy : y = x
    ·
     exact ⟨0, by rw [hy]; rfl, fun k hk => by omega⟩
    ·
     obtain ⟨i, h1, h2⟩ := first_at_ (l := l) (by rcases List.mem_cons.1 h with q | q; exact (hy q.symm).elim; exact q)
     refine ⟨i + 1, h1, fun k hk => ?_⟩
     cases k with
     | zero => intro e; injection e with e; exact hy e
     | succ k => exact h2 k (by omega)
theorem stands_eff (l : List Ent) (day : Int) (x : Ent) : x ∈ stands l day l.length ↔ x ∈ effD l day := by
 rw [stands_mem, eff_iff]
 constructor
 ·
  rintro ⟨i, _, h2, h3⟩
  have := stand_iff.1 h3
  exact ⟨List.mem_of_getElem? h2, this.1, this.2.1⟩
 ·
  rintro ⟨h1, h2, h3⟩
  obtain ⟨i, h4, h5⟩ := first_at_ h1
  exact ⟨i, (List.getElem?_eq_some_iff.1 h4).1, h4, stand_iff.2 ⟨h2, h3, fun k hk _ => h5 k hk⟩⟩
theorem eff_nodup (l : List Ent) (day : Int) : (effD l day).Nodup := (effD_keyd l day).imp fun h e => h (by rw [e])
theorem stands_len (l : List Ent) (day : Int) : (stands l day l.length).length = (effD l day).length :=
  Nat.le_antisymm (nodup_len _ _ (stands_nodup l day _) fun x hx => (stands_eff l day x).1 hx) (nodup_len _ _ (eff_nodup l day) fun x hx => (stands_eff l day x).2 hx)
def sumL (l : List Ent) (day : Int) : Nat → Nat
  | 0 => 0
  | n + 1 => sumL l day n + (knownL l day n).length
theorem countP_two {α : Type} (p q r : α → Bool) (h : ∀ x, r x = (p x || q x)) (hd : ∀ x, p x = true → q x = false) : ∀ l : List α, l.countP r = l.countP p + l.countP q
  | [] => rfl
  | x :: l => by
    rw [List.countP_cons, List.countP_cons, List.countP_cons, countP_two p q r h hd l, h x]
    have := hd x
    cases hp : p x <;> cases hq : q x <;> simp_all <;> omega
theorem sumL_count (l : List Ent) (day : Int) : ∀ n : Nat, sumL l day n = (effD l day).countP fun e => decide (1 ≤ e.kind) && decide (e.kind ≤ (n : Int))
  | 0 => by
    rw [sumL]
    refine (List.countP_eq_zero.2 fun e _ => ?_).symm
    simp; omega
  | n + 1 => by
    rw [sumL, sumL_count l day n]
    have h1 : (knownL l day n).length = (effD l day).countP fun e => decide (e.kind = ((n + 1 : Nat) : Int)) := by
     unfold knownL; rw [(sortB_perm _).length_eq, List.countP_eq_length_filter]
    rw [h1]
    refine (countP_two _ _ _ (fun e => ?_) (fun e he => ?_) _).symm
    ·
     rw [Bool.eq_iff_iff]; simp; omega
    ·
     simp at he ⊢; omega
theorem eff_len (l : List Ent) (day : Int) : sumL l day 9 = (stands l day l.length).length := by
 rw [sumL_count, stands_len, List.countP_eq_length]
 intro e he
 have := valid_kind (effD_ok l day e he).2.1
 simp; omega
theorem known_asc (l : List Ent) (d : Int) (j : Nat) : (knownL l d j).Pairwise fun a b => numE a < numE b := by
 have ha : Apart (byNum numE) ((effD l d).filter fun e => decide (e.kind = ((j + 1 : Nat) : Int))) := by
  refine apart_kind (k := ((j + 1 : Nat) : Int)) (List.Pairwise.filter _ (effD_keyd l d)) fun e he => ?_
  obtain ⟨h1, h2⟩ := List.mem_filter.1 he
  exact ⟨(effD_ok l d e h1).2.1, by simpa using h2⟩
 exact (up_strict (sortB_up (byNum_weak numE) _) (ha.perm (sortB_perm _).symm)).imp fun h => by simpa [byNum] using h
theorem sumL_le (l : List Ent) (day : Int) (n : Nat) : sumL l day n ≤ l.length := by
 rw [sumL_count]
 exact Nat.le_trans List.countP_le_length (nodup_len _ _ (eff_nodup l day) fun x hx => (effD_ok l day x hx).1)
theorem blockN_mono {l : List Ent} {day : Int} {x : Ent} {i k n : Nat} (h : blockN l day x i k = true) (hk : k ≤ n) : blockN l day x i n = true := by
 obtain ⟨j, z, h1, h2, h3⟩ := (blockN_iff _ _ _ _ _).1 h
 exact (blockN_iff _ _ _ _ _).2 ⟨j, z, by omega, h2, h3⟩
theorem blockN_snoc {l : List Ent} {day : Int} {x z : Ent} {i k : Nat} (h : l[k]? = some z) : blockN l day x i (k + 1) = (blockN l day x i k || barsB day x i k z) := by rw [blockN, h]
theorem stands_snoc {l : List Ent} {day : Int} {x : Ent} {n : Nat} (h : l[n]? = some x) : (stands l day (n + 1)).length = (stands l day n).length + if standB l day x n = true then 1 else 0 := by
 rw [stands, h, List.length_append]
 simp only
 split <;> rfl
theorem stands_le (l : List Ent) (day : Int) : ∀ n, (stands l day n).length ≤ n
  | 0 => Nat.zero_le _
  | n + 1 => by
    have := stands_le l day n
    rw [stands, List.length_append]
    split
    ·
     split <;> simp <;> omega
    ·
     simp; omega
theorem known_mem' {l : List Ent} {day : Int} {j : Nat} {x : Ent} : x ∈ knownL l day j ↔ x ∈ effD l day ∧ x.kind = ((j + 1 : Nat) : Int) := by
  unfold knownL
  rw [sortB_mem, List.mem_filter]; simp
end Go.Proofs.YteeifhlhpiimoaaGreatDoor
