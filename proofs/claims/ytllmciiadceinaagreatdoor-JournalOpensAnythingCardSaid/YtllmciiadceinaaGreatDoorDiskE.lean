/-
  Contracts of package disk's settle, Sync, Read, Cut. Conditions: each contract's own.
-/
import Derived.Test.YtllmciiadceinaaGreatDoorDiskD
namespace Go.Proofs.YtllmciiadceinaaGreatDoor
open Go Go.RowKit

set_option maxHeartbeats 2000000 in
theorem settle_walk {W W1 : World} {F : Nat → Prop} {d gd gv n : Nat} {vp : Value} {s : DS} (a b : Nat) (h : DAt W1 F d gd gv vp n s)
    (hcp : ∀ ty, (Builtin.copy_ #[39, 39] ty #[.slice (some ⟨a, 0, none⟩) n n, .slice (some ⟨b, 0, none⟩) n n]).run Tryz.prog W = .ok (goInt n) W1) :
    Calls Tryz.prog 65 #[.pointer (some ⟨d, 0, none⟩), .slice (some ⟨b, 0, none⟩) n n, .slice (some ⟨a, 0, none⟩) n n] W fun e W' => e = .returned (.tuple #[]) ∧ (∃ vp', DAt W' F d gd gv vp' n { s with pend := [] }) ∧ Turns F W1 W' := by
  obtain ⟨W2, A, c, rfl, hcl, hcc, hD⟩ := h.clear
  have c4 : W1.cell? ⟨d, 4, none⟩ = some (.slice A s.pend.length c) := h.cell 4
  have c4' : W2.cell? ⟨d, 4, none⟩ = some (.slice A s.pend.length c) := (World.cell?_of_block (a := ⟨d, 4, none⟩) hcc).trans c4
  have f4 : W2.frozen? ⟨d, 4, none⟩ = false := (World.frozen?_of_block (a := ⟨d, 4, none⟩) hcc).trans (h.free 4)
  have HD := Lib.hid hD
  clear h hD hcc
  go_enter Tryz.func65, Tryz.ntmps65
  go_wp2_with fail
  go_end0
  exact ⟨rfl, ⟨_, HD.out.1⟩, HD.out.2⟩

set_option maxHeartbeats 2000000 in
theorem settle_sync {W : World} {F : Nat → Prop} {d gd gv n : Nat} {vp : Value} {s : DS} (h : DAt W F d gd gv vp n s) :
    Calls Tryz.prog 65 #[.pointer (some ⟨d, 0, none⟩), .slice (some ⟨gv, 0, none⟩) n n, .slice (some ⟨gd, 0, none⟩) n n] W fun e W' => e = .returned (.tuple #[]) ∧ (∃ vp', DAt W' F d gd gv vp' n { s with dur := s.vis, pend := [] }) ∧ Turns F W W' := by
  have hs := h.setDur s.vis h.lv
  refine (settle_walk gd gv hs.1 (fun ty => run_copy_rows (W := W) h.rd h.rv h.ld h.lv ty)).mono ?_
  rintro e W' ⟨rfl, hd, ht⟩
  exact ⟨rfl, hd, hs.2.trans ht⟩
set_option maxHeartbeats 2000000 in
theorem settle_crash {W : World} {F : Nat → Prop} {d gd gv n : Nat} {vp : Value} {s : DS} (h : DAt W F d gd gv vp n s) :
    Calls Tryz.prog 65 #[.pointer (some ⟨d, 0, none⟩), .slice (some ⟨gd, 0, none⟩) n n, .slice (some ⟨gv, 0, none⟩) n n] W fun e W' => e = .returned (.tuple #[]) ∧ (∃ vp', DAt W' F d gd gv vp' n { s with vis := s.dur, pend := [] }) ∧ Turns F W W' := by
  have hs := h.setVis s.dur h.ld
  refine (settle_walk gv gd hs.1 (fun ty => run_copy_rows (W := W) h.rv h.rd h.lv h.ld ty)).mono ?_
  rintro e W' ⟨rfl, hd, ht⟩
  exact ⟨rfl, hd, hs.2.trans ht⟩

/-- What Sync leaves. -/
def DS.sync (s : DS) : DS := if s.off then s else { s with dur := s.vis, pend := [] }
set_option maxHeartbeats 2000000 in
theorem sync_walk {W : World} {F : Nat → Prop} {d gd gv n : Nat} {vp : Value} {s : DS} (h : DAt W F d gd gv vp n s) :
    Calls Tryz.prog 42 #[.pointer (some ⟨d, 0, none⟩)] W fun e W' => e = .returned (.int .i64 (chkE s)) ∧ (∃ vp', DAt W' F d gd gv vp' n s.sync) ∧ Turns F W W' := by
  have HC := Lib.hid (check_walk h)
  have HS := Lib.hid (settle_sync (h.drewN 1))
  have c2 : W.cell? ⟨d, 2, none⟩ = some (.slice (some ⟨gd, 0, none⟩) n n) := h.cell 2
  have c3 : W.cell? ⟨d, 3, none⟩ = some (.slice (some ⟨gv, 0, none⟩) n n) := h.cell 3
  have H0 := Lib.hid h
  unfold DS.sync
  obtain ⟨b, hb⟩ : ∃ b, s.off = b := ⟨_, rfl⟩
  have HE := Lib.hid (show chkE s = if b then 251 else 0 by unfold chkE; rw [hb])
  rw [hb]
  have HB := Lib.hid hb
  generalize chkE s = E at HC HE ⊢
  clear h hb
  cases b
  · obtain rfl : E = 0 := HE.out
    go_enter Tryz.func42, Tryz.ntmps42
    go_wp2_with (go_at_call 46; refine HC.out.mono ?_; rintro e W2 ⟨rfl, rfl⟩)
    go_region_held3 (fun w' => w'.cell? ⟨d, 2, none⟩ = some (.slice (some ⟨gd, 0, none⟩) n n) ∧ w'.cell? ⟨d, 3, none⟩ = some (.slice (some ⟨gv, 0, none⟩) n n)) (first | exact ⟨c2, c3⟩ | (obtain ⟨_, hq⟩ := ‹∃ vp', DAt _ _ _ _ _ vp' _ _›; exact ⟨hq.cell 2, hq.cell 3⟩) | fail)
      (first | (go_at_call 65; refine HS.out.mono ?_; rintro e W2 ⟨rfl, hD, hT⟩) | fail)
    all_goals go_wp2_with fail
    all_goals go_ret
    all_goals rw [HB.out] at hD
    all_goals exact ⟨rfl, hD, (Turns.drew _).trans hT⟩
  · obtain rfl : E = 251 := HE.out
    go_enter Tryz.func42, Tryz.ntmps42
    go_wp2_with (go_at_call 46; refine HC.out.mono ?_; rintro e W2 ⟨rfl, rfl⟩)
    go_ret
    exact ⟨rfl, ⟨_, H0.out⟩, Turns.refl _ _⟩

/-- What Read answers. -/
def DS.read (s : DS) (off m : Int) : ByteArray × Int := if s.off then (ByteArray.empty, 251) else if insB s.vis.length off m then (⟨((s.vis.drop off.toNat).take m.toNat).toArray⟩, 0) else (ByteArray.empty, 250)
set_option maxRecDepth 20000 in
set_option maxHeartbeats 2000000 in
theorem read_walk {W : World} {F : Nat → Prop} {d gd gv n : Nat} {vp : Value} {s : DS} (h : DAt W F d gd gv vp n s) (off m : Int) :
    Calls Tryz.prog 52 #[.pointer (some ⟨d, 0, none⟩), .int .i64 off, .int .i64 m] W fun e W' => e = .returned (.tuple #[.string (s.read off m).1, .int .i64 (s.read off m).2]) ∧ W = W' := by
  have HC := Lib.hid (check_walk h)
  have HI := Lib.hid (inside_walk h off m)
  have c3 : W.cell? ⟨d, 3, none⟩ = some (.slice (some ⟨gv, 0, none⟩) n n) := h.cell 3
  have H0 := Lib.hid h
  unfold DS.read
  rw [h.lv]
  obtain ⟨b, hb⟩ : ∃ b, s.off = b := ⟨_, rfl⟩
  have HE := Lib.hid (show chkE s = if b then 251 else 0 by unfold chkE; rw [hb])
  rw [hb]
  generalize chkE s = E at HC HE ⊢
  obtain ⟨i, hi⟩ : ∃ i, insB n off m = i := ⟨_, rfl⟩
  rw [hi] at HI ⊢
  have HX := Lib.hid hi
  have hn := h.n64
  clear h hb hi
  cases b
  · obtain rfl : E = 0 := HE.out
    cases i
    · go_enter Tryz.func52, Tryz.ntmps52
      go_wp2_with (first | (go_at_call 46; refine HC.out.mono ?_; rintro e W2 ⟨rfl, rfl⟩) | (go_at_call 47; refine HI.out.mono ?_; rintro e W2 ⟨rfl, rfl⟩))
      go_ret2
      exact ⟨rfl, rfl⟩
    · have hx := HX.out
      unfold insB at hx
      simp only [Bool.and_eq_true, decide_eq_true_eq] at hx
      obtain ⟨⟨⟨x1, x2⟩, x3⟩, x4⟩ := hx
      obtain ⟨o, rfl⟩ : ∃ o : Nat, off = o := ⟨off.toNat, by omega⟩
      obtain ⟨k, rfl⟩ : ∃ k : Nat, m = k := ⟨m.toNat, by omega⟩
      have hL : ((s.vis.drop o).take k).length = k := by have := H0.out.lv; rw [List.length_take, List.length_drop]; omega
      obtain ⟨L, hLe⟩ : ∃ L, (s.vis.drop o).take k = L := ⟨_, rfl⟩
      rw [show ((o : Int)).toNat = o by omega, show ((k : Int)).toNat = k by omega, hLe]
      rw [hLe] at hL
      by_cases hon : o = n
      · subst hon
        have hk0 : k = 0 := by omega
        subst hk0
        have hL0 : L = [] := List.length_eq_zero_iff.1 hL
        subst hL0
        have hcv : (Go.convert 39 9 (.slice (some ⟨gv, 0, none⟩) (0 : Nat) (0 : Nat))).run Tryz.prog W = .ok (.string ⟨([] : List UInt8).toArray⟩) W :=
          run_convert_bytes_back W _ _ _ ⟨gv, 0, none⟩ 0 [] Tryz.underlying39 Tryz.underlying5 Tryz.underlying9 (fun j hj => absurd hj (by simp))
        clear hLe
        go_enter Tryz.func52, Tryz.ntmps52
        go_wp2_with (first | (go_at_call 46; refine HC.out.mono ?_; rintro e W2 ⟨rfl, rfl⟩) | (go_at_call 47; refine HI.out.mono ?_; rintro e W2 ⟨rfl, rfl⟩))
        go_ret2
        exact ⟨rfl, rfl⟩
      · have hcv : (Go.convert 39 9 (.slice (some ⟨gv, o, none⟩) k (n - o))).run Tryz.prog W = .ok (.string ⟨L.toArray⟩) W := by
          have := run_convert_bytes_back W 39 9 5 ⟨gv, o, none⟩ (n - o) L Tryz.underlying39 Tryz.underlying5 Tryz.underlying9 (fun j hj => by
            have h1 := H0.out.rv.cell (o + j) L[j] (by
              have : L[j]? = some L[j] := List.getElem?_eq_getElem hj
              rw [← this, ← hLe, List.getElem?_take_of_lt (by omega), List.getElem?_drop])
            rw [show (⟨gv, o, none⟩ : Addr).add j = ⟨gv, o + j, none⟩ by simp [Addr.add]]
            exact h1)
          rw [hL] at this
          exact this
        have z3 : ¬ n = o := by omega
        clear hLe hL
        go_enter Tryz.func52, Tryz.ntmps52
        go_wp2_with (first | (go_at_call 46; refine HC.out.mono ?_; rintro e W2 ⟨rfl, rfl⟩) | (go_at_call 47; refine HI.out.mono ?_; rintro e W2 ⟨rfl, rfl⟩))
        go_ret2
        exact ⟨rfl, rfl⟩
  · obtain rfl : E = 251 := HE.out
    go_enter Tryz.func52, Tryz.ntmps52
    go_wp2_with (first | (go_at_call 46; refine HC.out.mono ?_; rintro e W2 ⟨rfl, rfl⟩) | fail)
    go_ret2
    exact ⟨rfl, rfl⟩

end Go.Proofs.YtllmciiadceinaaGreatDoor
