/-
  Contracts of the reference's Left, Root, Proof. Conditions: at most 1000 strings of at most 100000 bytes.
-/
import Derived.Test.YtjelniemoambaaaDoorRefD
import Derived.Test.YtjelniemoambaaaDoorLawProof
namespace Go.Proofs.YtjelniemoambaaaDoor
open Go Go.RowKit Go.Shelf

set_option maxHeartbeats 2000000 in
theorem refleft_walk (n : Nat) (h2 : 2 ≤ n) (h63 : n ≤ 9223372036854775807) (w : World) :
    Calls Tryd.prog 42 #[.int .i64 n] w fun e w' => e = .returned (.int .i64 (leftN n : Nat)) ∧ w = w' := by
  go_enter Tryd.func42, Tryd.ntmps42
  go_wp2_with fail
  go_loop [3] (fun v3 => ∃ k e : Nat, k = 2 ^ e ∧ k < n ∧ v3 = .int .i64 k) (fun v => n - (intOf v).toNat)
  case atStart => exact ⟨1, 0, rfl, by omega, rfl⟩
  case round =>
    obtain ⟨k, e, hk, h1, rfl⟩ := hrel
    have HK := Lib.hid hk
    have hp : 0 < k := by rw [hk]; exact Nat.two_pow_pos e
    clear hk
    by_cases hlt : k < n - k
    · obtain ⟨k2, hk2⟩ : ∃ k2, 2 * k = k2 := ⟨_, rfl⟩
      have e1 : 2 * (k : Int) = (k2 : Int) := by omega
      have d1 : decide ((k : Int) < (n : Int) - (k : Int)) = true := by simp; omega
      have e2 : IntKind.i64.wrap (k2 : Int) = (k2 : Int) := by rw [IntKind.wrap_i64]; omega
      go_wp2_with fail
      refine ⟨⟨k2, e + 1, by rw [← hk2, HK.out, Nat.pow_succ]; omega, by omega, rfl⟩, by simp [intOf]; omega⟩
    · have d1 : decide ((k : Int) < (n : Int) - (k : Int)) = false := by simp; omega
      have hf := leftN_of HK.out h1 (by omega)
      have HF := Lib.hid hf
      clear hf
      go_wp2_with fail
      go_ret
      exact ⟨by rw [HF.out]; rfl, rfl⟩

set_option maxRecDepth 100000 in
set_option maxHeartbeats 4000000 in
theorem refroot_walk : ∀ (n : Nat) (A : Option Addr) (l : List ByteArray) (cap : Nat), l.length = n → n ≤ 1000 → n ≤ cap → cap ≤ maxLen → (∀ s ∈ l, s.size ≤ 100000) → ∀ w, LAt w w.heap.size A .string l →
    Calls Tryd.prog 20 #[.slice A n cap] w fun e w' => e = .returned (.string (rootS l)) ∧ Below w.heap.size w w' := by
  intro n
  induction n using Nat.strongRecOn with
  | ind n ih =>
    intro A l cap hn hl hc hcm hs w hA
    unfold maxLen at hcm
    have HN := Lib.hid hn
    rcases Nat.lt_or_ge n 2 with h2 | h2
    · rcases Nat.eq_zero_or_pos n with h0 | h0
      · subst h0
        obtain rfl : l = [] := List.length_eq_zero_iff.1 hn
        clear hn hA ih
        go_enter Tryd.func20, Tryd.ntmps20
        go_wp2_with fail
        refine (refsum_walk ⟨#[]⟩ (by decide) w).mono ?_
        rintro e w1 ⟨rfl, hb⟩
        go_wp2_with fail
        go_ret
        exact ⟨rfl, hb⟩
      · obtain rfl : n = 1 := by omega
        match l, hn with
        | [x], _ =>
          have hx := hs x (by simp)
          obtain ⟨a, rfl, -, hac⟩ := hA 0 x rfl
          have hac' : w.cell? a = some (.string x) := by rw [show a.add 0 = a by simp [Addr.add]] at hac; exact hac
          clear hA ih HN hs
          go_enter Tryd.func20, Tryd.ntmps20
          go_wp2_with fail
          refine (refleaf_walk x (by omega) w).mono ?_
          rintro e w1 ⟨rfl, hb⟩
          go_wp2_with fail
          go_ret
          exact ⟨rfl, hb⟩
    · have hr2 := rootS_two (l := l) (by rw [hn]; exact h2)
      rw [hn] at hr2
      obtain ⟨k0, k1, k2⟩ := leftN_ok h2
      have hle := refleft_walk n h2 (by omega) w
      obtain ⟨k, hk⟩ : ∃ k, leftN n = k := ⟨_, rfl⟩
      rw [hk] at hr2 k0 k1 k2 hle
      obtain ⟨a, rfl, hab, -⟩ := hA.get (i := 0) (by rw [hn]; omega)
      have hl1 : (l.take k).length = k := by rw [List.length_take, hn]; omega
      have hl2 : (l.drop k).length = n - k := by rw [List.length_drop, hn]
      have C1 := Lib.hid (show ∀ W, Below w.heap.size w W → Calls Tryd.prog 20 #[.slice (some a) k cap] W fun e W' => e = .returned (.string (rootS (l.take k))) ∧ Below w.heap.size w W' from fun W hb =>
        (ih k (by omega) (some a) (l.take k) cap hl1 (by omega) (by omega) (by unfold maxLen; omega) (fun s h => hs s (List.mem_of_mem_take h)) W (((hA.below hb).more hb.size).take k)).mono fun _ _ ⟨he, hb'⟩ => ⟨he, hb.trans (hb'.mono hb.size)⟩)
      have C2 := Lib.hid (show ∀ W, Below w.heap.size w W → Calls Tryd.prog 20 #[.slice (some (a.add k)) (n - k) (cap - k)] W fun e W' => e = .returned (.string (rootS (l.drop k))) ∧ Below w.heap.size w W' from fun W hb =>
        (ih (n - k) (by omega) (some (a.add k)) (l.drop k) (cap - k) hl2 (by omega) (by omega) (by unfold maxLen; omega) (fun s h => hs s (List.mem_of_mem_drop h)) W (((hA.below hb).more hb.size).drop k)).mono fun _ _ ⟨he, hb'⟩ => ⟨he, hb.trans (hb'.mono hb.size)⟩)
      have C3 := Lib.hid (show ∀ W, Below w.heap.size w W → Calls Tryd.prog 35 #[.string (rootS (l.take k)), .string (rootS (l.drop k))] W fun e W' => e = .returned (.string (rootS l)) ∧ Below w.heap.size w W' from fun W hb =>
        (refnode_walk _ _ (by rw [rootS_size, rootS_size]; decide) W).mono fun _ _ ⟨he, hb'⟩ => ⟨by rw [he, ← hr2], hb.trans (hb'.mono hb.size)⟩)
      have z1 : (0 : Int) ≤ (k : Int) := by omega
      have z2 : (k : Int) ≤ (n : Int) := by omega
      have z3 : (k : Int) ≤ (cap : Int) := by omega
      have z4 : ¬ cap = k := by omega
      have z5 : ¬ k = cap := by omega
      have z6 : k ≤ n := by omega
      have z7 : (n : Int) ≤ (cap : Int) := by omega
      have d0 : ((n : Int) == 0) = false := by simp; omega
      have d1 : ((n : Int) == 1) = false := by simp; omega
      have HLE := Lib.hid hle
      clear hle hr2 hk hA hl1 hl2 ih hs hn HN
      go_enter Tryd.func20, Tryd.ntmps20
      go_wp2_with fail
      refine HLE.out.mono ?_
      rintro e w' ⟨rfl, rfl⟩
      go_wp2_with fail
      have hS0 : Below w.heap.size w w.drew := (Below.refl _ _).drew
      go_region_held3 (fun w' => Below w.heap.size w w') (first | assumption | fail)
        (first
          | (go_at_call 20; (with_reducible refine (C1.out _ ?_).mono ?_); (· assumption); rintro e W ⟨rfl, hbW⟩)
          | (go_at_call 20; (with_reducible refine (C2.out _ ?_).mono ?_); (· assumption); rintro e W ⟨rfl, hbW⟩)
          | (go_at_call 35; (with_reducible refine (C3.out _ ?_).mono ?_); (· assumption); rintro e W ⟨rfl, hbW⟩)
          | fail)
      all_goals
        go_wp2_with fail
        go_ret
        exact ⟨rfl, by assumption⟩

end Go.Proofs.YtjelniemoambaaaDoor
