/-
  The plain laws of a crash while a group is appended to a journal. No condition.
-/
import Derived.Test.YtllmciiadceinaaGreatDoorJourL
import Derived.Test.YtllmciiadceinaaGreatDoorDiskR
namespace Go.Proofs.YtllmciiadceinaaGreatDoor
open Go Wr

theorem crash_none {s : DS} (h : s.pend = []) (keep : List Int) (torn : Int) : (s.crash keep torn).dur = s.dur := by
  unfold DS.crash; dsimp only; rw [h]; rfl
theorem crash_one {s : DS} {o : Nat} {x : ByteArray} (h : s.pend = [(o, x)]) (keep : List Int) (torn : Int) : (s.crash keep torn).dur = s.dur ∨ ∃ k, (s.crash keep torn).dur = patch s.dur o (x.data.toList.take k) := by
  unfold DS.crash; dsimp only; rw [h]
  have : ordS keep 1 = if decide ((0 : Int) ∈ keep) = true then [0] else [] := by
    unfold ordS
    rw [show List.range 1 = [0] from rfl, List.filter_cons]
    rfl
  rw [show ([(o, x)] : List (Nat × ByteArray)).length = 1 from rfl, this]
  split
  · right
    rw [crashF, crashF]
    dsimp only [List.getElem?_cons_zero]
    rw [if_pos rfl]
    unfold tornS
    split
    · exact ⟨min torn.toNat x.size, by rw [Lib.extract_data]; simp⟩
    · exact ⟨x.data.toList.length, by rw [List.take_length]⟩
  · left; rfl
theorem crash_rest (s : DS) (keep : List Int) (torn : Int) : (s.crash keep torn).off = false ∧ (s.crash keep torn).left = 0 ∧ (s.crash keep torn).pend = [] ∧ (s.crash keep torn).vis = (s.crash keep torn).dur := ⟨rfl, rfl, rfl, rfl⟩
theorem half_crash {n : Nat} {s : DS} {t : TS} {L : List ByteArray} (hh : Half n s t L) (hg : Good n t) (keep : List Int) (torn : Int) :
    (s.crash keep torn).vis.length = n ∧ (loadW (s.crash keep torn).vis TS.zero = some t ∨ loadW (s.crash keep torn).vis TS.zero = some (t.adds L)) := by
  have hl1 := out_shape (t := t) hh.ne
  have hl0 : 0 < (outL t L).length := by rw [hl1]; simp
  have hf := hh.fit
  rw [(crash_rest s keep torn).2.2.2]
  rcases hh.st with ⟨h1, h2⟩ | ⟨h1, h2⟩
  · rcases crash_one h1 keep torn with h | ⟨k, h⟩
    · rw [h, h2]; exact ⟨cont_length hg, .inl (cont_load hg)⟩
    · rw [h, h2, cont_tail hg (by omega)]
      refine ⟨?_, .inl (load_of hg (by simp))⟩
      simp only [List.length_append, List.length_cons, List.length_take, List.length_drop, List.length_replicate]
      rw [← hg.size]
      omega
  · rcases crash_one h1 keep torn with h | ⟨k, h⟩
    · rw [h, h2]; exact ⟨mid_length hg hh.ne hf, .inl (mid_load hg)⟩
    · rw [h, h2]
      cases k with
      | zero => rw [List.take_zero, patch_nil]; exact ⟨mid_length hg hh.ne hf, .inl (mid_load hg)⟩
      | succ k =>
        have e : ((⟨((outL t L).take 1).toArray⟩ : ByteArray).data.toList.take (k + 1)) = (outL t L).take 1 := by
          rw [ba_mk, List.take_take]; congr 1; omega
        rw [e, mid_cont hg hh.ne hf]
        exact ⟨cont_length (hg.adds hh.ok hf), .inr (cont_load (hg.adds hh.ok hf))⟩
theorem clean_crash {n : Nat} {s : DS} {t : TS} (hc : Clean n s t) (hg : Good n t) (keep : List Int) (torn : Int) :
    (s.crash keep torn).vis.length = n ∧ loadW (s.crash keep torn).vis TS.zero = some t := by
  rw [(crash_rest s keep torn).2.2.2, crash_none hc.pend, hc.dur]
  exact ⟨cont_length hg, cont_load hg⟩

end Go.Proofs.YtllmciiadceinaaGreatDoor
