/-
  Contracts of package disk's inner functions that write: used, onto. Conditions: each contract's own.
-/
import Derived.Test.YtllmciiadceinaaGreatDoorDiskA
import Derived.Lib.LazyBuf
namespace Go.Proofs.YtllmciiadceinaaGreatDoor
open Go Go.RowKit

/-- l with s from place off on. -/
def patch {α : Type} (l : List α) (off : Nat) (s : List α) : List α := l.take off ++ s ++ l.drop (off + s.length)
theorem patch_length {α : Type} {l : List α} {off : Nat} {s : List α} (h : off + s.length ≤ l.length) : (patch l off s).length = l.length := by unfold patch; simp; omega
theorem patch_nil {α : Type} (l : List α) (off : Nat) : patch l off [] = l := by unfold patch; simp
theorem patch_get {α : Type} {l : List α} {off : Nat} {s : List α} (h : off + s.length ≤ l.length) (i : Nat) : (patch l off s)[i]? = if off ≤ i ∧ i < off + s.length then s[i - off]? else l[i]? := by
  unfold patch
  have hl : (l.take off).length = off := by rw [List.length_take]; omega
  by_cases h1 : i < off
  · rw [if_neg (by omega), List.append_assoc, List.getElem?_append_left (by omega), List.getElem?_take_of_lt h1]
  · by_cases h2 : i < off + s.length
    · rw [if_pos ⟨by omega, h2⟩, List.append_assoc, List.getElem?_append_right (by omega), hl, List.getElem?_append_left (by omega)]
    · rw [if_neg (by omega), List.getElem?_append_right (by rw [List.length_append, hl]; omega), List.length_append, hl, List.getElem?_drop]
      congr 1; omega
theorem RAt.patch {w : World} {b : Nat} {l : List UInt8} (h : RAt w b bv l) {off : Nat} {s : List UInt8} (hs : off + s.length ≤ l.length) : RAt (w.setCells b off (s.map bv)) b bv (patch l off s) := by
  have ht : w.there b off (s.map bv).length := fun j hj => by
    rw [List.length_map] at hj
    exact ⟨by rw [h.get (i := off + j) (by omega)]; rfl, h.free (off + j) (by omega)⟩
  refine ⟨?_, fun i x hx => ?_, fun i hi => ?_⟩
  · rw [(heap_setCells b _ _ w).1]; exact h.lt
  · rw [patch_get hs] at hx
    by_cases h1 : off ≤ i ∧ i < off + s.length
    · rw [if_pos h1] at hx
      have := World.rangeAt_setCells_same w b off (s.map bv) ht (i - off) (bv x) (by rw [List.getElem?_map, hx]; rfl)
      rw [show off + (i - off) = i by omega] at this
      exact this
    · rw [if_neg h1] at hx
      have hr : w.rangeAt b i [bv x] := fun j v hv => by
        match j, hv with
        | 0, hv => simp at hv; rw [Nat.add_zero, ← hv]; exact h.cell i x hx
        | j + 1, hv => simp at hv
      have := World.rangeAt_setCells_apart hr b off (s.map bv) (.inr (by rw [List.length_map, List.length_singleton]; omega))
      exact this 0 (bv x) rfl
  · rw [World.frozen?_setCells]; exact h.free i (by rw [patch_length hs] at hi; exact hi)
theorem Turns.of_but {g : Nat} {w w' : World} (h : But g w w') : Turns (fun k => k = g) w w' := ⟨h.os, h.tape, h.output, h.size, fun k hk hz => h.block k hk hz⟩

set_option maxHeartbeats 2000000 in
theorem onto_walk (g n off : Nat) (l : List UInt8) (s : ByteArray) (W : World) (hr : RAt W g bv l) (hl : l.length = n) (hfit : off + s.size ≤ n) (hn : n ≤ 4194304) :
    Calls Tryz.prog 48 #[.agg #[.int .i64 off, .string s], .slice (some ⟨g, 0, none⟩) n n] W fun e W' => e = .returned (.tuple #[]) ∧ RAt W' g bv (patch l off s.data.toList) ∧ Turns (fun k => k = g) W W' := by
  have hsl : s.data.toList.length = s.size := by simp
  have hgl := hr.lt
  have hr1 := hr.alloc (.cells #[.int .i64 off, .string s] 92)
  have HP := Lib.hid (hr1.drew.patch (off := off) (s := s.data.toList) (by omega))
  have HR := Lib.hid hr1
  have hng : ¬ g = W.heap.size := by omega
  have hs0 : ((W.alloc (.cells #[.int .i64 off, .string s] 92)).drew).cell? ⟨W.heap.size, 0, none⟩ = some (.int .i64 off) ∧ ((W.alloc (.cells #[.int .i64 off, .string s] 92)).drew).cell? ⟨W.heap.size, 1, none⟩ = some (.string s) := by simp
  have HS0 := Lib.hid hs0
  have HC := Lib.hid (show ∀ o vs, (((W.alloc (.cells #[.int .i64 off, .string s] 92)).drew).setCells g o vs).cell? ⟨W.heap.size, 0, none⟩ = some (.int .i64 off) ∧ (((W.alloc (.cells #[.int .i64 off, .string s] 92)).drew).setCells g o vs).cell? ⟨W.heap.size, 1, none⟩ = some (.string s) from fun o vs => by
    have hb := (heap_setCells g vs o ((W.alloc (.cells #[.int .i64 off, .string s] 92)).drew)).2
    have hlt : W.heap.size < ((W.alloc (.cells #[.int .i64 off, .string s] 92)).drew).heap.size := by show W.heap.size < (W.alloc _).heap.size; rw [World.size_alloc]; exact Nat.lt_succ_self _
    have hc := fun i => World.cell?_of_block (a := ⟨W.heap.size, i, none⟩) (hb.block W.heap.size hlt (by omega))
    exact ⟨(hc 0).trans hs0.1, (hc 1).trans hs0.2⟩)
  have HT := Lib.hid (show ∀ o vs, Turns (fun k => k = g) W (((W.alloc (.cells #[.int .i64 off, .string s] 92)).drew).setCells g o vs) from fun o vs =>
    ((Turns.alloc W _).trans (Turns.drew _)).trans (Turns.of_but (heap_setCells g vs o _).2))
  clear hr hr1 hs0
  go_enter Tryz.func48, Tryz.ntmps48
  by_cases hon : off = n
  · subst hon
    have hs0 : s.data.toList = [] := List.length_eq_zero_iff.1 (by omega)
    have hsz : s.size = 0 := by omega
    have HSZ := Lib.hid (And.intro hs0 hsz)
    have z1 : (0 : Int) ≤ (off : Int) := by omega
    have z2 : (off : Int) ≤ (off : Int) := by omega
    clear hs0 hsz hsl hfit
    go_wp2_with fail
    go_region_held3 (fun w' => w'.cell? ⟨W.heap.size, 0, none⟩ = some (.int .i64 off) ∧ w'.cell? ⟨W.heap.size, 1, none⟩ = some (.string s)) (first | exact HS0.out | exact HC.out _ _ | fail)
      (first
        | (refine step_copy_string (by rfl) (.tmp 7) (.tmp 9) 39 9 (by rfl) 5 Tryz.underlying39 Tryz.sizeOf5 g 0 0 0 (by rfl) s (by rfl) (by rw [HSZ.out.2]; exact Nat.le_refl _) (fun j hj => by rw [HSZ.out.2] at hj; omega) (fun j hj => by rw [HSZ.out.2] at hj; omega) ?_)
        | fail)
    go_wp2_with fail
    go_end0
    have hp := HP.out
    rw [HSZ.out.1] at hp ⊢
    exact ⟨rfl, hp, HT.out _ _⟩
  · have z1 : (0 : Int) ≤ (off : Int) := by omega
    have z2 : (off : Int) ≤ (n : Int) := by omega
    have z3 : ¬ n = off := by omega
    go_wp2_with fail
    go_region_held3 (fun w' => w'.cell? ⟨W.heap.size, 0, none⟩ = some (.int .i64 off) ∧ w'.cell? ⟨W.heap.size, 1, none⟩ = some (.string s)) (first | exact HS0.out | exact HC.out _ _ | fail)
      (first
        | (refine step_copy_string (by rfl) (.tmp 7) (.tmp 9) 39 9 (by rfl) 5 Tryz.underlying39 Tryz.sizeOf5 g off (n - off) (n - off) (by rfl) s (by rfl) (by omega) (fun j hj => ?_) (fun j hj => ?_) ?_; (· have := HR.out.drew.get (i := off + j) (by omega); rw [this]; rfl); (· exact HR.out.drew.free (off + j) (by omega)))
        | fail)
    go_wp2_with fail
    go_end0
    exact ⟨rfl, HP.out, HT.out _ _⟩

end Go.Proofs.YtllmciiadceinaaGreatDoor
