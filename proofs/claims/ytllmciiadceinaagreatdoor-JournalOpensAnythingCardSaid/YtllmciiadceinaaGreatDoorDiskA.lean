/-
  A disk in memory, told as a plain record; contracts of package disk's small functions. Conditions: each contract's own.
-/
import Derived.Test.YtllmciiadceinaaGreatDoorOwn2
import Derived.Test.YtllmciiadceinaaGreatDoorRange
import Derived.Test.YtllmciiadceinaaGreatDoorProg
import Derived.Deep.RegionHeld3
import Derived.RegionTactic
import Derived.ChangeAlike
import Derived.Deep.QuietTactic
import Derived.BigQuiet
namespace Go.Proofs.YtllmciiadceinaaGreatDoor
open Go Go.RowKit

/-- A disk: what is durable, what is visible, the pending writes, whether it has lost its power, and after how many writes it will. -/
structure DS where
  off : Bool
  left : Nat
  dur : List UInt8
  vis : List UInt8
  pend : List (Nat × ByteArray)
def wf (x : Nat × ByteArray) : List Value := [.int .i64 (x.1 : Int), .string x.2]
/-- The disk at block d, its contents at gd, gv, its pending writes vp; all its blocks are F's. -/
structure DAt (W : World) (F : Nat → Prop) (d gd gv : Nat) (vp : Value) (n : Nat) (s : DS) : Prop where
  hd : W.heap[d]? = some (.cells #[.bool s.off, .int .i64 (s.left : Int), .slice (some ⟨gd, 0, none⟩) n n, .slice (some ⟨gv, 0, none⟩) n n, vp] 97 (0, 0))
  rd : RAt W gd bv s.dur
  rv : RAt W gv bv s.vis
  ld : s.dur.length = n
  lv : s.vis.length = n
  pp : OL W 0 92 2 wf vp s.pend
  fit : ∀ x ∈ s.pend, x.1 + x.2.size ≤ n
  ne : d ≠ gd ∧ d ≠ gv ∧ gd ≠ gv
  np : ∀ g, vp.ownBlock = some g → g ≠ d ∧ g ≠ gd ∧ g ≠ gv
  fd : F d ∧ F gd ∧ F gv
  fp : ∀ g, vp.ownBlock = some g → F g
  lf : ∀ k, F k → k < W.heap.size
  n64 : n ≤ 4194304

section
variable {W W' : World} {F : Nat → Prop} {d gd gv n : Nat} {vp : Value} {s : DS}
theorem DAt.cell (h : DAt W F d gd gv vp n s) (i : Nat) : W.cell? ⟨d, i, none⟩ = (#[.bool s.off, .int .i64 (s.left : Int), .slice (some ⟨gd, 0, none⟩) n n, .slice (some ⟨gv, 0, none⟩) n n, vp] : Array Value)[i]? := by
  simp [World.cell?, h.hd]
theorem DAt.free (h : DAt W F d gd gv vp n s) (i : Nat) : W.frozen? ⟨d, i, none⟩ = false := by simp [World.frozen?, h.hd]
theorem DAt.keep {Z : Nat → Prop} (h : DAt W F d gd gv vp n s) (t : Turns Z W W') (hz : ∀ k, F k → ¬ Z k) : DAt W' F d gd gv vp n s := by
  obtain ⟨f1, f2, f3⟩ := h.fd
  refine ⟨(t.block d (h.lf d f1) (hz d f1)).trans h.hd, ?_, ?_, h.ld, h.lv, ?_, h.fit, h.ne, h.np, h.fd, h.fp, fun k hk => Nat.lt_of_lt_of_le (h.lf k hk) t.size, h.n64⟩
  · exact ⟨Nat.lt_of_lt_of_le h.rd.lt t.size, fun i x hx => (t.cell (p := ⟨gd, i, none⟩) h.rd.lt (hz gd f2)).trans (h.rd.cell i x hx), fun i hi => (t.frozen (p := ⟨gd, i, none⟩) h.rd.lt (hz gd f2)).trans (h.rd.free i hi)⟩
  · exact ⟨Nat.lt_of_lt_of_le h.rv.lt t.size, fun i x hx => (t.cell (p := ⟨gv, i, none⟩) h.rv.lt (hz gv f3)).trans (h.rv.cell i x hx), fun i hi => (t.frozen (p := ⟨gv, i, none⟩) h.rv.lt (hz gv f3)).trans (h.rv.free i hi)⟩
  · exact h.pp.keep fun g hg => t.block g (h.pp.lt g hg).2 (hz g (h.fp g hg))
theorem DAt.drewN (h : DAt W F d gd gv vp n s) (k : Nat) : DAt (W.drewN k) F d gd gv vp n s := h.keep (Z := fun _ => False) ⟨rfl, rfl, rfl, Nat.le_refl _, fun _ _ _ => rfl⟩ (fun _ _ h => h)
end

/-- What a call that only reads leaves. -/
def Quiet (v : Value) (W : World) (e : Ending) (W' : World) : Prop := e = .returned v ∧ ∃ k, W' = W.drewN k
/-- The answer of check. -/
def chkE (s : DS) : Int := if s.off then 251 else 0

set_option maxHeartbeats 1000000 in
theorem check_walk {W : World} {F : Nat → Prop} {d gd gv n : Nat} {vp : Value} {s : DS} (h : DAt W F d gd gv vp n s) :
    Calls Tryz.prog 46 #[.pointer (some ⟨d, 0, none⟩)] W fun e W' => e = .returned (.int .i64 (chkE s)) ∧ W = W' := by
  have c0 : W.cell? ⟨d, 0, none⟩ = some (.bool s.off) := h.cell 0
  obtain ⟨b, hb⟩ : ∃ b, s.off = b := ⟨_, rfl⟩
  unfold chkE
  rw [hb] at c0 ⊢
  clear h hb
  go_enter Tryz.func46, Tryz.ntmps46
  cases b
  · go_wp2_with fail
    go_ret
    exact ⟨rfl, rfl⟩
  · go_wp2_with fail
    go_ret
    exact ⟨rfl, rfl⟩
set_option maxHeartbeats 1000000 in
theorem checknil_walk (W : World) :
    Calls Tryz.prog 46 #[.pointer none] W fun e W' => e = .returned (.int .i64 1) ∧ W = W' := by
  go_enter Tryz.func46, Tryz.ntmps46
  go_wp2_with fail
  go_ret
  exact ⟨rfl, rfl⟩
set_option maxHeartbeats 1000000 in
theorem size_walk {W : World} {F : Nat → Prop} {d gd gv n : Nat} {vp : Value} {s : DS} (h : DAt W F d gd gv vp n s) :
    Calls Tryz.prog 51 #[.pointer (some ⟨d, 0, none⟩)] W fun e W' => e = .returned (.int .i64 n) ∧ W = W' := by
  have c2 : W.cell? ⟨d, 2, none⟩ = some (.slice (some ⟨gd, 0, none⟩) n n) := h.cell 2
  clear h
  go_enter Tryz.func51, Tryz.ntmps51
  go_wp2_with fail
  go_ret
  exact ⟨rfl, rfl⟩
set_option maxHeartbeats 1000000 in
theorem sizenil_walk (W : World) :
    Calls Tryz.prog 51 #[.pointer none] W fun e W' => e = .returned (.int .i64 0) ∧ W = W' := by
  go_enter Tryz.func51, Tryz.ntmps51
  go_wp2_with fail
  go_ret
  exact ⟨rfl, rfl⟩
set_option maxHeartbeats 1000000 in
theorem pending_walk {W : World} {F : Nat → Prop} {d gd gv n : Nat} {vp : Value} {s : DS} (h : DAt W F d gd gv vp n s) :
    Calls Tryz.prog 32 #[.pointer (some ⟨d, 0, none⟩)] W fun e W' => e = .returned (.int .i64 s.pend.length) ∧ W = W' := by
  obtain ⟨A, c, rfl, -, -⟩ := h.pp.slice
  have c4 : W.cell? ⟨d, 4, none⟩ = some (.slice A s.pend.length c) := h.cell 4
  clear h
  go_enter Tryz.func32, Tryz.ntmps32
  go_wp2_with fail
  go_ret
  exact ⟨rfl, rfl⟩
set_option maxHeartbeats 1000000 in
theorem pendingnil_walk (W : World) :
    Calls Tryz.prog 32 #[.pointer none] W fun e W' => e = .returned (.int .i64 0) ∧ W = W' := by
  go_enter Tryz.func32, Tryz.ntmps32
  go_wp2_with fail
  go_ret
  exact ⟨rfl, rfl⟩
/-- Do n bytes from off on lie on a disk of m bytes? -/
def insB (m : Nat) (off n : Int) : Bool := decide (0 ≤ off) && decide (0 ≤ n) && decide (off ≤ m) && decide (n ≤ m - off)
set_option maxHeartbeats 2000000 in
theorem inside_walk {W : World} {F : Nat → Prop} {d gd gv n : Nat} {vp : Value} {s : DS} (h : DAt W F d gd gv vp n s) (off m : Int) :
    Calls Tryz.prog 47 #[.pointer (some ⟨d, 0, none⟩), .int .i64 off, .int .i64 m] W fun e W' => e = .returned (.bool (insB n off m)) ∧ W = W' := by
  have c2 : W.cell? ⟨d, 2, none⟩ = some (.slice (some ⟨gd, 0, none⟩) n n) := h.cell 2
  have hn := h.n64
  unfold insB
  clear h
  go_enter Tryz.func47, Tryz.ntmps47
  by_cases h1 : 0 ≤ off
  · have d1 : decide (0 ≤ off) = true := by simp [h1]
    by_cases h2 : 0 ≤ m
    · have d2 : decide (0 ≤ m) = true := by simp [h2]
      by_cases h3 : off ≤ n
      · have d3 : decide (off ≤ (n : Int)) = true := by simp [h3]
        by_cases h4 : m ≤ n - off
        · have d4 : decide (m ≤ (n : Int) - off) = true := by simp [h4]
          have HD := Lib.hid (And.intro d1 (And.intro d2 (And.intro d3 d4)))
          go_wp2_with fail
          go_ret
          first | exact ⟨rfl, rfl⟩ | (rw [HD.out.1, HD.out.2.1, HD.out.2.2.1, HD.out.2.2.2]; exact ⟨rfl, rfl⟩)
        · have d4 : decide (m ≤ (n : Int) - off) = false := by simp; omega
          have HD := Lib.hid (And.intro d1 (And.intro d2 (And.intro d3 d4)))
          go_wp2_with fail
          go_ret
          first | exact ⟨rfl, rfl⟩ | (rw [HD.out.1, HD.out.2.1, HD.out.2.2.1, HD.out.2.2.2]; exact ⟨rfl, rfl⟩)
      · have d3 : decide (off ≤ (n : Int)) = false := by simp; omega
        have HD := Lib.hid (And.intro d1 (And.intro d2 d3))
        go_wp2_with fail
        go_ret
        first | exact ⟨rfl, rfl⟩ | (rw [HD.out.1, HD.out.2.1, HD.out.2.2]; exact ⟨rfl, rfl⟩)
    · have d2 : decide (0 ≤ m) = false := by simp; omega
      have HD := Lib.hid (And.intro d1 d2)
      go_wp2_with fail
      go_ret
      first | exact ⟨rfl, rfl⟩ | (rw [HD.out.1, HD.out.2]; exact ⟨rfl, rfl⟩)
  · have d1 : decide (0 ≤ off) = false := by simp; omega
    have HD := Lib.hid d1
    go_wp2_with fail
    go_ret
    first | exact ⟨rfl, rfl⟩ | (rw [HD.out]; exact ⟨rfl, rfl⟩)

end Go.Proofs.YtllmciiadceinaaGreatDoor
