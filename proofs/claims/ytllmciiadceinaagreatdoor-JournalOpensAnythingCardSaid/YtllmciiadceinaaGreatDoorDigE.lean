/-
  slices.Chunk's iterator over a row of bytes whose length is a multiple of 64. Condition: the row's slice and the size lie in their boxes.
-/
import Derived.Test.YtllmciiadceinaaGreatDoorDigD
import Derived.Test.YtllmciiadceinaaGreatDoorRange
import Derived.RegionIn
namespace Go.Proofs.YtllmciiadceinaaGreatDoor
open Go Go.RowKit Go.Shelf
attribute [local go_sem] Oper.semAt_some

set_option maxHeartbeats 1000000 in
theorem chunk_any (A : Option Addr) (n c : Nat) (w : World) :
    Calls Tryz.prog 128 #[.slice A n c, .int .i64 64] w fun e w' => e = .returned (.func (.func 143) #[] #[.pointer (some ⟨w.heap.size, 0, none⟩), .pointer (some ⟨w.heap.size + 1, 0, none⟩)]) ∧ w' = (w.alloc (.cells #[.slice A n c] 39)).alloc (.cells #[.int .i64 64] 3) := by
  go_enter Tryz.func128, Tryz.ntmps128
  go_wp2
  go_ret
  exact ⟨rfl, rfl⟩

def encC (gb : Nat) (i : Nat) : Array Value := #[.slice (some ⟨gb, 64 * i, none⟩) 64 64]

set_option maxRecDepth 100000 in
set_option maxHeartbeats 4000000 in
theorem chunk_iter (gb n cap b1 b2 : Nat) (hn : 64 * n ≤ cap) (hcap : n ≤ 1000000) (w : World) (h1 : Boxed w b1 39 (.slice (some ⟨gb, 0, none⟩) (64 * n) cap)) (h2 : Boxed w b2 3 (.int .i64 64)) :
    IterZ Tryz.prog 143 #[.pointer (some ⟨b1, 0, none⟩), .pointer (some ⟨b2, 0, none⟩)] (fun i : Fin n => encC gb i.val) (fun _ => False) (fun A B => B.heap[b1]? = A.heap[b1]? ∧ B.heap[b2]? = A.heap[b2]?) (fun xs => xs.map Fin.val = List.range n) (fun _ => True) n w := by
  intro l J Jx W hW hJ hJx hY h0
  have k1 : Boxed W b1 39 (.slice (some ⟨gb, 0, none⟩) (64 * n) cap) := (hW.block b1 h1.lt).trans h1
  have k2 : Boxed W b2 3 (.int .i64 64) := (hW.block b2 h2.lt).trans h2
  refine callsIn_of_wp Tryz.func143 rfl trivial ?_ rfl
  simp only [Tryz.ntmps143, List.size_toArray, List.length_cons, List.length_nil, Nat.reduceAdd, Nat.reduceSub, Array.replicate_succ, Array.replicate_zero, List.push_toArray, List.append_toArray, List.nil_append, List.cons_append]
  gi_wp2_with fail
  gi_loopw [4, 5] (fun i _ wr => ∃ (k : Nat) (pre : List (Fin n)), pre.map Fin.val = List.range k ∧ k ≤ n ∧ i = .int .i64 ((64 * k : Nat) : Int) ∧ Boxed wr b1 39 (.slice (some ⟨gb, 0, none⟩) (64 * n) cap) ∧ Boxed wr b2 3 (.int .i64 64) ∧ J pre wr) (fun i _ _ => 64 * n - (intOf i).toNat)
  case atStart => exact ⟨0, [], rfl, by omega, rfl, k1, k2, h0⟩
  case round =>
    obtain ⟨k, pre, hpre, hk, rfl, hb1, hb2, hj⟩ := hrel
    have HPRE := Lib.hid hpre
    have hpl : pre.length = k := by have := congrArg List.length hpre; simpa using this
    have HPL := Lib.hid hpl
    clear hpre hpl
    have c1 := hb1.cell
    have c2 := hb2.cell
    obtain ⟨q, hq⟩ : ∃ q, 64 * k = q := ⟨_, rfl⟩
    obtain ⟨m, hm⟩ : ∃ m, 64 * n = m := ⟨_, rfl⟩
    rw [hm] at c1 hb1
    rw [hq]
    clear k1 k2 h0
    by_cases hlt : k < n
    · have z1 : (0 : Int) ≤ (q : Int) := by omega
      have z2 : (q : Int) ≤ (m : Int) := by omega
      have z3 : q ≤ m := by omega
      have z4 : ¬ cap = q := by omega
      have z5 : ¬ q = cap := by omega
      have z6 : (m : Int) ≤ (cap : Int) := by omega
      gi_wp2_with fail
      gi_region
      obtain ⟨fn, tmps, assign, body, hy, hR⟩ := hY pre ⟨k, hlt⟩ wr.drew (hJ _ _ _ hj (Turns.drew wr)) (by rw [HPL.out]; exact hlt)
      dsimp only [encC] at hy
      rw [hq] at hy
      have z7 : (q : Int) + 64 ≤ (cap : Int) := by omega
      have z9 : (q : Int) + 64 ≤ 64000000 := by omega
      have z8 : q + 64 ≤ cap := by omega
      have HQ := Lib.hid hq
      have HM := Lib.hid hm
      have HJ := Lib.hid hj
      clear hq hm hj
      gi_wp2_with fail
      refine hR.mono ?_
      rintro e W3 (⟨rfl, hJ3, hk3, hk4⟩ | ⟨rfl, hJx3⟩)
      · have hb3 : Boxed W3 b1 39 (.slice (some ⟨gb, 0, none⟩) m cap) := hk3.trans hb1
        have hb4 : Boxed W3 b2 3 (.int .i64 64) := hk4.trans hb2
        have c3 := hb3.cell
        have c4 := hb4.cell
        clear c1 c2
        gi_wp2
        have hq := HQ.out
        have hm := HM.out
        refine ⟨⟨k + 1, pre ++ [⟨k, hlt⟩], by rw [List.map_append, HPRE.out, List.range_succ]; rfl, by omega, ?_, by rw [hm]; exact hb3, hb4, hJ3⟩, by simp [intOf]; omega⟩
        rw [show 64 * (k + 1) = q + 64 by omega]; push_cast; rfl
      · gi_wp2
        refine bodyPost_ret (results_none rfl _ _ _) rfl ?_
        exact ⟨⟨_, rfl⟩, .inr ⟨_, trivial, hJx3⟩⟩
    · obtain rfl : k = n := by omega
      obtain rfl : q = m := by omega
      gi_wp2_with fail
      go_end0
      exact ⟨⟨_, rfl⟩, .inl ⟨_, HPRE.out, hj⟩⟩

end Go.Proofs.YtllmciiadceinaaGreatDoor
