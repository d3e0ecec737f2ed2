/-
  A further entry with the greatest version replaces the one with its key: plainly. No condition.
-/
import Derived.Test.YteeifhlhpiimoaaGreatDoorQKpF
namespace Go.Proofs.YteeifhlhpiimoaaGreatDoor
open Go Go.RowKit Go.Shelf Wr
theorem corr_mem {l : List Ent} {e : Ent} {day : Int} (he : okD day e = true) (hv : ∀ x ∈ l, x.ver < e.ver) (x : Ent) : x ∈ effD (l ++ [e]) day ↔ (x = e ∧ e.gone = false) ∨ (keyE x ≠ keyE e ∧ x ∈ effD l day) := by
  have mem : ∀ z, z ∈ l ++ [e] ↔ z ∈ l ∨ z = e := fun z => by simp
  have ve := (okD_iff.1 he).1
  rw [effD_mem, effD_mem]
  constructor
  · rintro ⟨⟨h1, h2, _, h4⟩, hg⟩
    by_cases hk : keyE x = keyE e
    · left
      rcases h4 e ((mem e).2 (.inr rfl)) he hk.symm with q | q
      · subst q; exact ⟨rfl, hg⟩
      · exfalso
        have h := (prev_iff.1 q).2.2.2
        rcases (mem x).1 h1 with r | r
        · have := hv x r; omega
        · subst r; have := (prev_ranks day).irr x; rw [q] at this; cases this
    · right
      refine ⟨hk, ⟨?_, h2, rfl, fun z hz a b => h4 z ((mem z).2 (.inl hz)) a b⟩, hg⟩
      rcases (mem x).1 h1 with r | r
      · exact r
      · subst r; exact (hk rfl).elim
  · rintro (⟨rfl, hg⟩ | ⟨hk, ⟨h1, h2, _, h4⟩, hg⟩)
    · refine ⟨⟨(mem x).2 (.inr rfl), he, rfl, fun z hz a b => ?_⟩, hg⟩
      rcases (mem z).1 hz with r | r
      · right; exact prev_iff.2 ⟨ve, (okD_iff.1 a).1, b.symm, .inl (hv z r)⟩
      · exact .inl r
    · refine ⟨⟨(mem x).2 (.inl h1), h2, rfl, fun z hz a b => ?_⟩, hg⟩
      rcases (mem z).1 hz with r | r
      · exact h4 z r a b
      · subst r; exact (hk b.symm).elim
theorem corr_early {l : List Ent} {e : Ent} {day : Int} (h : day < e.day) (j : Nat) : knownL l day j = knownL (l ++ [e]) day j := known_same (fun x hx => by
  rw [List.mem_append, List.mem_singleton]
  constructor
  · exact .inl
  · rintro (q | rfl)
    · exact q
    · have := (okD_iff.1 hx).2; omega) j
theorem known_mem {l : List Ent} {day : Int} {j : Nat} {x : Ent} : x ∈ knownL l day j ↔ x ∈ effD l day ∧ x.kind = ((j + 1 : Nat) : Int) := by
  unfold knownL
  rw [sortB_mem, List.mem_filter]; simp
end Go.Proofs.YteeifhlhpiimoaaGreatDoor
