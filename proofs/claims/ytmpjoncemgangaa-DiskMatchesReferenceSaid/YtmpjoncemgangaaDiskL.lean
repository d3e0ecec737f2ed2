/-
  The reference's disk in memory; its New. Conditions: each contract's own.
-/
import Derived.Test.YtmpjoncemgangaaDiskK
namespace Go.Proofs.Ytmpjoncemgangaa
open Go Go.RowKit

/-- The reference's disk: its durable bytes, its log, whether it has lost its power, after how many writes it will. -/
structure RS where
  dur : List UInt8
  log : List (Nat × ByteArray)
  off : Bool
  left : Nat
structure RefAt (W : World) (F : Nat → Prop) (d g : Nat) (vp : Value) (n : Nat) (s : RS) : Prop where
  hd : W.heap[d]? = some (.cells #[.slice (some ⟨g, 0, none⟩) n n, vp, .bool s.off, .int .i64 (s.left : Int)] 43 (0, 0))
  rd : RAt W g bv s.dur
  ld : s.dur.length = n
  pp : OL W 0 80 2 wf vp s.log
  fit : ∀ x ∈ s.log, x.1 + x.2.size ≤ n
  ne : d ≠ g
  np : ∀ q, vp.ownBlock = some q → q ≠ d ∧ q ≠ g
  fd : F d ∧ F g
  fp : ∀ q, vp.ownBlock = some q → F q
  lf : ∀ k, F k → k < W.heap.size
  n64 : n ≤ 4194304

section
variable {W W' : World} {F : Nat → Prop} {d g n : Nat} {vp : Value} {s : RS}
theorem RefAt.cell (h : RefAt W F d g vp n s) (i : Nat) : W.cell? ⟨d, i, none⟩ = (#[.slice (some ⟨g, 0, none⟩) n n, vp, .bool s.off, .int .i64 (s.left : Int)] : Array Value)[i]? := by
  simp [World.cell?, h.hd]
theorem RefAt.free (h : RefAt W F d g vp n s) (i : Nat) : W.frozen? ⟨d, i, none⟩ = false := by simp [World.frozen?, h.hd]
theorem RefAt.keep {Z : Nat → Prop} (h : RefAt W F d g vp n s) (t : Turns Z W W') (hz : ∀ k, F k → ¬ Z k) : RefAt W' F d g vp n s := by
  obtain ⟨f1, f2⟩ := h.fd
  refine ⟨(t.block d (h.lf d f1) (hz d f1)).trans h.hd, ?_, h.ld, ?_, h.fit, h.ne, h.np, h.fd, h.fp, fun k hk => Nat.lt_of_lt_of_le (h.lf k hk) t.size, h.n64⟩
  · exact ⟨Nat.lt_of_lt_of_le h.rd.lt t.size, fun i x hx => (t.cell (p := ⟨g, i, none⟩) h.rd.lt (hz g f2)).trans (h.rd.cell i x hx), fun i hi => (t.frozen (p := ⟨g, i, none⟩) h.rd.lt (hz g f2)).trans (h.rd.free i hi)⟩
  · exact h.pp.keep fun q hq => t.block q (h.pp.lt q hq).2 (hz q (h.fp q hq))
end
/-- A new one. -/
def RS.fresh (n : Nat) : RS := ⟨List.replicate n 0, [], false, 0⟩
set_option maxRecDepth 20000 in
set_option maxHeartbeats 2000000 in
theorem refnew_walk {W : World} (n : Nat) (h1 : 1 ≤ n) (hn : n ≤ 4194304) :
    Calls Try.prog 18 #[.int .i64 n] W fun e W' => (∃ d g F vp, e = .returned (.tuple #[.pointer (some ⟨d, 0, none⟩), .int .i64 0]) ∧ RefAt W' F d g vp n (RS.fresh n) ∧ ∀ k, F k → W.heap.size ≤ k) ∧ Turns (fun _ => False) W W' := by
  have hmk := mkRow n hn
  have d1 : decide ((n : Int) < 1) = false := by simp; omega
  have d2 : decide ((4194304 : Int) < (n : Int)) = false := by simp; omega
  obtain ⟨C, hC⟩ : ∃ C, madeCells #[.int .u8 0] n = C := ⟨_, rfl⟩
  rw [hC] at hmk
  have HCL := Lib.hid (show C.toList = (List.replicate n (0 : UInt8)).map bv by rw [← hC]; exact made_bytes n)
  clear hC
  go_enter Try.func18, Try.ntmps18
  go_wp2_with fail
  go_ret2
  have z1 : (W.alloc (.cells C 5)).heap.size = W.heap.size + 1 := World.size_alloc _ _
  have r1 := RAt.alloc_new (f := bv) W C 5 HCL.out
  have hd := World.alloc_heap_new (W.alloc (.cells C 5)) (.cells #[.slice (some ⟨W.heap.size, 0, none⟩) n n, .slice none 0 0, .bool false, .int .i64 0] 43)
  rw [z1] at hd
  refine ⟨⟨W.heap.size + 1, W.heap.size, (fun k => W.heap.size ≤ k ∧ k < W.heap.size + 2), _, rfl, ⟨hd, r1.alloc _, by simp [RS.fresh], OL.nil, fun x hx => absurd hx (by simp [RS.fresh]), by omega, fun q hq => (by cases hq), ⟨⟨by omega, by omega⟩, ⟨by omega, by omega⟩⟩, fun q hq => (by cases hq), fun k hk => ?_, hn⟩, fun k hk => hk.1⟩, (Turns.alloc W _).trans (Turns.alloc _ _)⟩
  rw [World.size_alloc, z1]; omega

end Go.Proofs.Ytmpjoncemgangaa
