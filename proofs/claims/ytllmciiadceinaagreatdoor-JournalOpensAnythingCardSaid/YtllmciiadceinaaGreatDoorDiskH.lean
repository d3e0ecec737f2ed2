/-
  Contract of package disk's Write, all cases. Conditions: each contract's own.
-/
import Derived.Test.YtllmciiadceinaaGreatDoorDiskG
namespace Go.Proofs.YtllmciiadceinaaGreatDoor
open Go Go.RowKit

/-- What Write answers and leaves. -/
def DS.writeE (s : DS) (off : Int) (x : ByteArray) : Int := if s.off then 251 else if insB s.vis.length off x.size then 0 else 250
def DS.wr (s : DS) (off : Int) (x : ByteArray) : DS := if s.off then s else if insB s.vis.length off x.size then s.write off.toNat x else s
set_option maxRecDepth 20000 in
set_option maxHeartbeats 2000000 in
theorem write_all {W : World} {F : Nat → Prop} {d gd gv n : Nat} {vp : Value} {s : DS} (h : DAt W F d gd gv vp n s) (off : Int) (x : ByteArray) (hx : x.size ≤ 4194304) (hp : s.pend.length ≤ 1000000) (hleft : s.left ≤ 9223372036854775807) :
    Calls Tryz.prog 13 #[.pointer (some ⟨d, 0, none⟩), .int .i64 off, .string x] W fun e W' => e = .returned (.int .i64 (s.writeE off x)) ∧ (∃ F' vp', DAt W' F' d gd gv vp' n (s.wr off x) ∧ ∀ k, F' k → F k ∨ W.heap.size ≤ k) ∧ Turns F W W' := by
  unfold DS.writeE DS.wr
  rw [h.lv]
  obtain ⟨b, hb⟩ : ∃ b, s.off = b := ⟨_, rfl⟩
  obtain ⟨i, hi⟩ : ∃ i, insB n off x.size = i := ⟨_, rfl⟩
  cases b
  · rw [hb]
    cases i
    · have HC := Lib.hid (check_walk h)
      have HI := Lib.hid (inside_walk h off x.size)
      rw [hi] at HI ⊢
      have HE := Lib.hid (show chkE s = 0 by unfold chkE; rw [hb]; rfl)
      rw [HE.out] at HC
      have H0 := Lib.hid h
      clear h hb hi
      go_enter Tryz.func13, Tryz.ntmps13
      go_wp2_with (first | (go_at_call 46; refine HC.out.mono ?_; rintro e W2 ⟨rfl, rfl⟩) | (go_at_call 47; refine HI.out.mono ?_; rintro e W2 ⟨rfl, rfl⟩))
      go_ret
      exact ⟨rfl, ⟨F, ⟨_, H0.out⟩, fun k hk => .inl hk⟩, Turns.refl _ _⟩
    · rw [hi]
      have hi' := hi
      unfold insB at hi'
      simp only [Bool.and_eq_true, decide_eq_true_eq] at hi'
      obtain ⟨⟨⟨x1, x2⟩, x3⟩, x4⟩ := hi'
      obtain ⟨o, rfl⟩ : ∃ o : Nat, off = o := ⟨off.toNat, by omega⟩
      rw [show ((o : Int)).toNat = o by omega]
      exact write_walk h o x hx hp hb hi hleft
  · rw [hb]
    have HC := Lib.hid (check_walk h)
    have HE := Lib.hid (show chkE s = 251 by unfold chkE; rw [hb]; rfl)
    rw [HE.out] at HC
    have H0 := Lib.hid h
    clear h hb hi
    go_enter Tryz.func13, Tryz.ntmps13
    go_wp2_with (first | (go_at_call 46; refine HC.out.mono ?_; rintro e W2 ⟨rfl, rfl⟩) | fail)
    go_ret
    exact ⟨rfl, ⟨F, ⟨_, H0.out⟩, fun k hk => .inl hk⟩, Turns.refl _ _⟩

end Go.Proofs.YtllmciiadceinaaGreatDoor
