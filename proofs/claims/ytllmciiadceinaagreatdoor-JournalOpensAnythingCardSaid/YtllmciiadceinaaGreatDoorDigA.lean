/-
  Contracts of package digest's inner functions: rotations, the schedule, a block. Conditions: the words are words.
-/
import Derived.Test.YtllmciiadceinaaGreatDoorMem
import Derived.Test.YtllmciiadceinaaGreatDoorProg
import Derived.Deep.RegionHeld3
import Derived.RegionTactic
import Derived.ChangeAlike
namespace Go.Proofs.YtllmciiadceinaaGreatDoor
open Go Go.RowKit

set_option maxRecDepth 100000 in
set_option maxHeartbeats 2000000 in
theorem rot_walk (x n : Nat) (hx : x < 4294967296) (h0 : 0 < n) (h1 : n < 32) (w : World) :
    Calls Tryz.prog 149 #[.int .u32 x, .int .i64 (-(n : Int))] w fun e w' => e = .returned (.int .u32 (rotr n x : Nat)) ∧ w = w' := by
  obtain ⟨m, hm⟩ : ∃ m, 32 - n = m := ⟨_, rfl⟩
  have m0 : 0 < m := by omega
  have m1 : m < 32 := by omega
  have hs : bits .and .u64 (IntKind.u64.wrap (-(n : Int))) 31 = (m : Int) := by
    have e : IntKind.u64.wrap (-(n : Int)) = ((18446744073709551616 - n : Nat) : Int) := by rw [IntKind.wrap_u64]; omega
    have e2 := u64_and_nat (18446744073709551616 - n) 31 (by omega) (by decide)
    rw [e]
    refine e2.trans ?_
    rw [show (31 : Nat) = 2 ^ 5 - 1 from rfl, Nat.and_two_pow_sub_one_eq_mod]
    omega
  go_enter Tryz.func149, Tryz.ntmps149
  go_wp2_with fail
  have hf : bits .or .u32 ((x : Int) * 2 ^ m % 4294967296) ((x : Int) / 2 ^ (32 - m)) = ((rotr n x : Nat) : Int) := by
    have a1 : (x : Int) * 2 ^ m % 4294967296 = ((x * 2 ^ m % 4294967296 : Nat) : Int) := by rw [Int.natCast_emod, Int.natCast_mul, Int.natCast_pow]; rfl
    have a2 : (x : Int) / 2 ^ (32 - m) = ((x / 2 ^ (32 - m) : Nat) : Int) := by push_cast; rfl
    rw [a1, a2]
    refine (u32_or_nat _ _ (Nat.mod_lt _ (by decide)) (div_pow_lt hx)).trans ?_
    rw [Nat.or_comm, ← hm, show 32 - (32 - n) = n by omega]; rfl
  go_ret
  exact ⟨congrArg (fun v => Ending.returned (.int .u32 v)) hf, rfl⟩

/-- Rotations combined. -/
def mixL (x : Nat) (l : List Nat) : Nat := l.foldl (fun o n => o ^^^ rotr n x) 0
theorem mixL_succ (x : Nat) (l : List Nat) (k : Nat) (h : k < l.length) : mixL x (l.take (k + 1)) = mixL x (l.take k) ^^^ rotr l[k] x := by
  unfold mixL
  rw [List.take_succ_eq_append_getElem h, List.foldl_append]; rfl
theorem mixL_lt {x : Nat} (hx : x < 4294967296) (l : List Nat) : mixL x l < 4294967296 := by
  have h : ∀ (l : List Nat) (o : Nat), o < 4294967296 → l.foldl (fun o n => o ^^^ rotr n x) o < 4294967296 := by
    intro l
    induction l with
    | nil => intro o ho; exact ho
    | cons n l ih => intro o ho; exact ih _ (Nat.xor_lt_two_pow (n := 32) ho (rotr_lt hx))
  exact h l 0 (by decide)

set_option maxRecDepth 100000 in
set_option maxHeartbeats 2000000 in
theorem mixed_walk (x : Nat) (hx : x < 4294967296) (A : Option Addr) (l : List Nat) (c : Nat) (hl : ∀ n ∈ l, 0 < n ∧ n < 32) (h64 : l.length < 64) (w : World) (hA : LAt w w.heap.size A nv l) :
    Calls Tryz.prog 145 #[.int .u32 x, .slice A l.length c] w fun e w' => e = .returned (.int .u32 (mixL x l : Nat)) ∧ w = w' := by
  go_enter Tryz.func145, Tryz.ntmps145
  go_wp2_with fail
  go_loop [5, 10] (fun o i => ∃ k : Nat, k ≤ l.length ∧ i = .int .i64 k ∧ o = .int .u32 (mixL x (l.take k) : Nat)) (fun _ i => l.length - (intOf i).toNat)
  case atStart => exact ⟨0, by omega, rfl, rfl⟩
  case round =>
    obtain ⟨k, hk, rfl, rfl⟩ := hrel
    have hm := mixL_lt hx (l.take k)
    by_cases hlt : k < l.length
    · obtain ⟨a, rfl, hab, hac⟩ := hA.get hlt
      obtain ⟨n0, n1⟩ := hl l[k] (List.getElem_mem _)
      have hr := rotr_lt (n := l[k]) hx
      have hx2 := u32_xor_nat (mixL x (l.take k)) (rotr l[k] x) hm hr
      have hs := mixL_succ x l k hlt
      obtain ⟨n, hn⟩ : ∃ n, l[k] = n := ⟨_, rfl⟩
      rw [hn] at hx2 hs hr n0 n1 hac
      unfold nv at hac
      have HS := Lib.hid hs
      clear hs hn hm
      obtain ⟨o, ho⟩ : ∃ o, mixL x (l.take k) = o := ⟨_, rfl⟩
      rw [ho] at hx2 HS ⊢
      clear ho
      go_wp2_with fail
      refine (rot_walk x n hx n0 n1 w).mono ?_
      rintro e w' ⟨rfl, rfl⟩
      go_wp2_with fail
      exact ⟨⟨k + 1, by omega, rfl, by rw [HS.out]⟩, by simp [intOf]; omega⟩
    · obtain rfl : k = l.length := by omega
      rw [List.take_length]
      go_wp2_with fail
      go_ret
      exact ⟨rfl, rfl⟩

theorem mixed2_walk (x : Nat) (hx : x < 4294967296) (g a b c : Nat) (ha : 0 < a ∧ a < 32) (hb : 0 < b ∧ b < 32) (w : World) (h0 : w.cell? ⟨g, 0, none⟩ = some (.int .i64 a)) (h1 : w.cell? ⟨g, 1, none⟩ = some (.int .i64 b)) :
    Calls Tryz.prog 145 #[.int .u32 x, .slice (some ⟨g, 0, none⟩) 2 c] w fun e w' => e = .returned (.int .u32 (mix2 a b x : Nat)) ∧ w = w' := by
  have hg : g < w.heap.size := cell_lt (a := ⟨g, 0, none⟩) h0
  exact mixed_walk x hx (some ⟨g, 0, none⟩) [a, b] c (by simp; omega) (by simp) w (fun i v hv => by
    match i with
    | 0 => simp at hv; subst hv; exact ⟨_, rfl, hg, h0⟩
    | 1 => simp at hv; subst hv; exact ⟨_, rfl, hg, h1⟩
    | i + 2 => simp at hv)
theorem mixed3_walk (x : Nat) (hx : x < 4294967296) (g a b d c : Nat) (ha : 0 < a ∧ a < 32) (hb : 0 < b ∧ b < 32) (hd : 0 < d ∧ d < 32) (w : World) (h0 : w.cell? ⟨g, 0, none⟩ = some (.int .i64 a)) (h1 : w.cell? ⟨g, 1, none⟩ = some (.int .i64 b)) (h2 : w.cell? ⟨g, 2, none⟩ = some (.int .i64 d)) :
    Calls Tryz.prog 145 #[.int .u32 x, .slice (some ⟨g, 0, none⟩) 3 c] w fun e w' => e = .returned (.int .u32 (mix3 a b d x : Nat)) ∧ w = w' := by
  have hg : g < w.heap.size := cell_lt (a := ⟨g, 0, none⟩) h0
  exact mixed_walk x hx (some ⟨g, 0, none⟩) [a, b, d] c (by simp; omega) (by simp) w (fun i v hv => by
    match i with
    | 0 => simp at hv; subst hv; exact ⟨_, rfl, hg, h0⟩
    | 1 => simp at hv; subst hv; exact ⟨_, rfl, hg, h1⟩
    | 2 => simp at hv; subst hv; exact ⟨_, rfl, hg, h2⟩
    | i + 3 => simp at hv)

end Go.Proofs.YtllmciiadceinaaGreatDoor
