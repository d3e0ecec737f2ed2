/-
  Contracts of package disk's used, settle, Read, Cut. Conditions: each contract's own.
-/
import Derived.Test.YtllmciiadceinaaGreatDoorDiskB
import Derived.Lib.SliceRun
namespace Go.Proofs.YtllmciiadceinaaGreatDoor
open Go Go.RowKit

section
variable {W W' : World} {F : Nat → Prop} {d gd gv n : Nat} {vp : Value} {s : DS}
/-- A cell of the disk's own block is written. -/
theorem DAt.put (h : DAt W F d gd gv vp n s) (i : Nat) (v : Value) (s' : DS) (vp' : Value)
    (hs : (#[.bool s.off, .int .i64 (s.left : Int), .slice (some ⟨gd, 0, none⟩) n n, .slice (some ⟨gv, 0, none⟩) n n, vp] : Array Value).setIfInBounds i v = #[.bool s'.off, .int .i64 (s'.left : Int), .slice (some ⟨gd, 0, none⟩) n n, .slice (some ⟨gv, 0, none⟩) n n, vp'])
    (h1 : s'.dur = s.dur) (h2 : s'.vis = s.vis) (hfit : ∀ x ∈ s'.pend, x.1 + x.2.size ≤ n) (hpp : OL W 0 92 2 wf vp' s'.pend) (hnp : ∀ g, vp'.ownBlock = some g → g ≠ d ∧ g ≠ gd ∧ g ≠ gv) (hfp : ∀ g, vp'.ownBlock = some g → F g) :
    DAt (W.setCell ⟨d, i, none⟩ v) F d gd gv vp' n s' ∧ Turns F W (W.setCell ⟨d, i, none⟩ v) := by
  have ht : Turns (fun k => k = d) W (W.setCell ⟨d, i, none⟩ v) := Turns.setCell W _ v rfl
  obtain ⟨n1, n2, n3⟩ := h.ne
  refine ⟨⟨?_, ?_, ?_, by rw [h1]; exact h.ld, by rw [h2]; exact h.lv, ?_, hfit, h.ne, hnp, h.fd, hfp, fun k hk => Nat.lt_of_lt_of_le (h.lf k hk) ht.size, h.n64⟩, ht.mono (fun k hk => by rw [hk]; exact h.fd.1)⟩
  · have := h.hd
    simp only [World.setCell, Array.getElem?_modify, this]
    simp [hs]
  · rw [h1]; exact h.rd.other ⟨d, i, none⟩ n1 v
  · rw [h2]; exact h.rv.other ⟨d, i, none⟩ n2 v
  · exact hpp.keep fun g hg => ht.block g (hpp.lt g hg).2 (hnp g hg).1
end

/-- A write is counted. -/
def DS.used (s : DS) : DS := if s.left = 0 then s else { s with left := s.left - 1, off := decide (s.left - 1 = 0) }
set_option maxHeartbeats 1000000 in
theorem used_walk {W : World} {F : Nat → Prop} {d gd gv n : Nat} {vp : Value} {s : DS} (h : DAt W F d gd gv vp n s) (hl : s.left ≤ 9223372036854775807) :
    Calls Tryz.prog 49 #[.pointer (some ⟨d, 0, none⟩)] W fun e W' => e = .returned (.tuple #[]) ∧ DAt W' F d gd gv vp n s.used ∧ Turns F W W' := by
  have c1 : W.cell? ⟨d, 1, none⟩ = some (.int .i64 (s.left : Int)) := h.cell 1
  have f0 := h.free 0
  have f1 := h.free 1
  have c0 : W.cell? ⟨d, 0, none⟩ = some (.bool s.off) := h.cell 0
  by_cases h0 : s.left = 0
  · have hu : s.used = s := by unfold DS.used; rw [if_pos h0]
    rw [hu]
    have e0 : ((s.left : Int) == 0) = true := by simp [h0]
    have H := Lib.hid h
    clear h hu h0
    go_enter Tryz.func49, Tryz.ntmps49
    go_wp2_with fail
    exact bodyPost_ret (v := .tuple #[]) (by simp [results, Tryz.results49, go_sem]) rfl ⟨rfl, H.out, Turns.refl _ _⟩
  · have hu : s.used = { s with left := s.left - 1, off := decide (s.left - 1 = 0) } := by unfold DS.used; rw [if_neg h0]
    rw [hu]
    have e0 : ((s.left : Int) == 0) = false := by simp; omega
    obtain ⟨m, hm⟩ : ∃ m, s.left - 1 = m := ⟨_, rfl⟩
    rw [hm]
    have w1 : IntKind.i64.wrap ((s.left : Int) - 1) = (m : Int) := by rw [IntKind.wrap_i64]; omega
    have w2 : (s.left : Int) - 1 = (m : Int) := by omega
    have h1 := h.put 1 (.int .i64 (m : Int)) { s with left := m } vp rfl rfl rfl h.fit h.pp h.np h.fp
    have hbe : ((m : Int) == 0) = decide (m = 0) := by rw [Bool.eq_iff_iff]; simp
    have h2 := h1.1.put 0 (.bool ((m : Int) == 0)) { s with left := m, off := decide (m = 0) } vp (by rw [hbe]; rfl) rfl rfl h.fit h1.1.pp h.np h.fp
    have H2 := Lib.hid h2.1
    have HT := Lib.hid (h1.2.trans h2.2)
    clear h h1 h2 hu h0 hm hbe
    go_enter Tryz.func49, Tryz.ntmps49
    go_wp2_with fail
    go_end0
    exact ⟨rfl, H2.out, HT.out⟩

end Go.Proofs.YtllmciiadceinaaGreatDoor
