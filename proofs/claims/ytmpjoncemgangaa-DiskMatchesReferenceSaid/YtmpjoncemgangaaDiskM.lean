/-
  The reference's Cut. Conditions: each contract's own.
-/
import Derived.Test.YtmpjoncemgangaaDiskL
namespace Go.Proofs.Ytmpjoncemgangaa
open Go Go.RowKit

section
variable {W W' : World} {F : Nat → Prop} {d g n : Nat} {vp : Value} {s : RS}
/-- A cell of the reference's own block is written (not its bytes). -/
theorem RefAt.put (h : RefAt W F d g vp n s) (i : Nat) (v : Value) (s' : RS) (vp' : Value)
    (hs : (#[.slice (some ⟨g, 0, none⟩) n n, vp, .bool s.off, .int .i64 (s.left : Int)] : Array Value).setIfInBounds i v = #[.slice (some ⟨g, 0, none⟩) n n, vp', .bool s'.off, .int .i64 (s'.left : Int)])
    (h1 : s'.dur = s.dur) (hfit : ∀ x ∈ s'.log, x.1 + x.2.size ≤ n) (hpp : OL W 0 80 2 wf vp' s'.log) (hnp : ∀ q, vp'.ownBlock = some q → q ≠ d ∧ q ≠ g) (hfp : ∀ q, vp'.ownBlock = some q → F q) :
    RefAt (W.setCell ⟨d, i, none⟩ v) F d g vp' n s' ∧ Turns F W (W.setCell ⟨d, i, none⟩ v) := by
  have ht : Turns (fun k => k = d) W (W.setCell ⟨d, i, none⟩ v) := Turns.setCell W _ v rfl
  refine ⟨⟨?_, ?_, by rw [h1]; exact h.ld, ?_, hfit, h.ne, hnp, h.fd, hfp, fun k hk => Nat.lt_of_lt_of_le (h.lf k hk) ht.size, h.n64⟩, ht.mono (fun k hk => by rw [hk]; exact h.fd.1)⟩
  · have := h.hd
    simp only [World.setCell, Array.getElem?_modify, this]
    simp [hs]
  · rw [h1]; exact h.rd.other ⟨d, i, none⟩ h.ne v
  · exact hpp.keep fun q hq => ht.block q (hpp.lt q hq).2 (hnp q hq).1
end
/-- What Cut answers and leaves. -/
def RS.cutE (s : RS) (k : Int) : Int := if s.off then 251 else if k < 0 then 2 else 0
def RS.cut (s : RS) (k : Int) : RS := if s.off then s else if k < 0 then s else { s with off := decide (k.toNat = 0), left := k.toNat }
set_option maxRecDepth 20000 in
set_option maxHeartbeats 2000000 in
theorem refcut_walk {W : World} {F : Nat → Prop} {d g n : Nat} {vp : Value} {s : RS} (h : RefAt W F d g vp n s) (k : Int) :
    Calls Try.prog 32 #[.pointer (some ⟨d, 0, none⟩), .int .i64 k] W fun e W' => e = .returned (.int .i64 (s.cutE k)) ∧ RefAt W' F d g vp n (s.cut k) ∧ Turns F W W' := by
  have c2 : W.cell? ⟨d, 2, none⟩ = some (.bool s.off) := h.cell 2
  have c3 : W.cell? ⟨d, 3, none⟩ = some (.int .i64 (s.left : Int)) := h.cell 3
  have f2 := h.free 2
  have f3 := h.free 3
  have H0 := Lib.hid h
  unfold RS.cutE RS.cut
  obtain ⟨b, hb⟩ : ∃ b, s.off = b := ⟨_, rfl⟩
  rw [hb] at c2 ⊢
  clear h hb
  cases b
  · by_cases hk : k < 0
    · have d1 : decide (k < 0) = true := by simp [hk]
      rw [if_pos hk, if_pos hk]
      go_enter Try.func32, Try.ntmps32
      go_wp2_with fail
      go_ret
      exact ⟨rfl, H0.out, Turns.refl _ _⟩
    · rw [if_neg hk, if_neg hk]
      obtain ⟨m, rfl⟩ : ∃ m : Nat, k = m := ⟨k.toNat, by omega⟩
      rw [show ((m : Int)).toNat = m by omega]
      have hbe : ((m : Int) == 0) = decide (m = 0) := by rw [Bool.eq_iff_iff]; simp
      have h1 := H0.out.put 3 (.int .i64 (m : Int)) { s with left := m } vp rfl rfl H0.out.fit H0.out.pp H0.out.np H0.out.fp
      have h2 := h1.1.put 2 (.bool ((m : Int) == 0)) { s with left := m, off := decide (m = 0) } vp (by rw [hbe]; rfl) rfl H0.out.fit h1.1.pp H0.out.np H0.out.fp
      have H2 := Lib.hid h2.1
      have HT := Lib.hid (h1.2.trans h2.2)
      clear h1 h2 hbe
      go_enter Try.func32, Try.ntmps32
      go_wp2_with fail
      go_ret
      exact ⟨rfl, H2.out, HT.out⟩
  · go_enter Try.func32, Try.ntmps32
    go_wp2_with fail
    go_ret
    exact ⟨rfl, H0.out, Turns.refl _ _⟩

end Go.Proofs.Ytmpjoncemgangaa
