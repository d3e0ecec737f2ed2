/-
  Contracts of package disk's Cut and Write. Conditions: each contract's own.
-/
import Derived.Test.YtllmciiadceinaaGreatDoorDiskE
namespace Go.Proofs.YtllmciiadceinaaGreatDoor
open Go Go.RowKit

/-- What Cut answers, what it leaves. -/
def DS.cutE (s : DS) (k : Int) : Int := if s.off then 251 else if k < 0 then 2 else 0
def DS.cut (s : DS) (k : Int) : DS := if s.off then s else if k < 0 then s else { s with off := decide (k.toNat = 0), left := k.toNat }
set_option maxRecDepth 20000 in
set_option maxHeartbeats 2000000 in
theorem cut_walk {W : World} {F : Nat → Prop} {d gd gv n : Nat} {vp : Value} {s : DS} (h : DAt W F d gd gv vp n s) (k : Int) :
    Calls Tryz.prog 29 #[.pointer (some ⟨d, 0, none⟩), .int .i64 k] W fun e W' => e = .returned (.int .i64 (s.cutE k)) ∧ DAt W' F d gd gv vp n (s.cut k) ∧ Turns F W W' := by
  have HC := Lib.hid (check_walk h)
  have c0 : W.cell? ⟨d, 0, none⟩ = some (.bool s.off) := h.cell 0
  have c1 : W.cell? ⟨d, 1, none⟩ = some (.int .i64 (s.left : Int)) := h.cell 1
  have f0 := h.free 0
  have f1 := h.free 1
  have H0 := Lib.hid h
  unfold DS.cutE DS.cut
  obtain ⟨b, hb⟩ : ∃ b, s.off = b := ⟨_, rfl⟩
  have HB := Lib.hid hb
  have HE := Lib.hid (show chkE s = if b then 251 else 0 by unfold chkE; rw [hb])
  rw [hb] at c0 ⊢
  generalize chkE s = E at HC HE ⊢
  clear h hb
  cases b
  · obtain rfl : E = 0 := HE.out
    by_cases hk : k < 0
    · rw [if_pos hk, if_pos hk]
      go_enter Tryz.func29, Tryz.ntmps29
      go_wp2_with (first | (go_at_call 46; refine HC.out.mono ?_; rintro e W2 ⟨rfl, rfl⟩) | fail)
      go_ret
      exact ⟨rfl, H0.out, Turns.refl _ _⟩
    · rw [if_neg hk, if_neg hk]
      obtain ⟨m, rfl⟩ : ∃ m : Nat, k = m := ⟨k.toNat, by omega⟩
      rw [show ((m : Int)).toNat = m by omega]
      have hbe : ((m : Int) == 0) = decide (m = 0) := by rw [Bool.eq_iff_iff]; simp
      have h1 := H0.out.put 0 (.bool ((m : Int) == 0)) { s with off := decide (m = 0) } vp (by rw [hbe]; rfl) rfl rfl H0.out.fit H0.out.pp H0.out.np H0.out.fp
      have h2 := h1.1.put 1 (.int .i64 (m : Int)) { s with off := decide (m = 0), left := m } vp (by simp) rfl rfl H0.out.fit h1.1.pp H0.out.np H0.out.fp
      have H2 := Lib.hid h2.1
      have HT := Lib.hid (h1.2.trans h2.2)
      clear h1 h2 hbe
      go_enter Tryz.func29, Tryz.ntmps29
      go_wp2_with (first | (go_at_call 46; refine HC.out.mono ?_; rintro e W2 ⟨rfl, rfl⟩) | fail)
      go_ret
      exact ⟨rfl, H2.out, HT.out⟩
  · obtain rfl : E = 251 := HE.out
    go_enter Tryz.func29, Tryz.ntmps29
    go_wp2_with (first | (go_at_call 46; refine HC.out.mono ?_; rintro e W2 ⟨rfl, rfl⟩) | fail)
    go_ret
    exact ⟨rfl, H0.out, Turns.refl _ _⟩

end Go.Proofs.YtllmciiadceinaaGreatDoor
