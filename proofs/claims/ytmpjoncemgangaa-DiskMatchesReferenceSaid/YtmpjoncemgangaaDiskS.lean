/-
  The laws' sane answers true and turns nothing that lay before. Conditions: none.
-/
import Derived.Test.YtmpjoncemgangaaDiskR
namespace Go.Proofs.Ytmpjoncemgangaa
open Go Go.RowKit Go.Shelf Go.Sort

def sn1 : DS := ⟨false, 0, [0, 0, 0, 0], [97, 98, 0, 0], [(0, ⟨#[97, 98]⟩)]⟩
def sn2 : DS := ⟨false, 0, [0, 0, 0, 0], [97, 120, 121, 0], [(0, ⟨#[97, 98]⟩), (1, ⟨#[120, 121]⟩)]⟩
def sn3 : DS := ⟨false, 0, [97, 120, 0, 0], [97, 120, 0, 0], []⟩
def sn4 : DS := ⟨false, 1, [97, 120, 0, 0], [97, 120, 0, 0], []⟩
def sn5 : DS := ⟨true, 0, [97, 120, 0, 0], [97, 120, 0, 113], [(3, ⟨#[113]⟩)]⟩
theorem sane1 : (DS.fresh 4).writeE 0 ⟨#[97, 98]⟩ = 0 ∧ (DS.fresh 4).wr 0 ⟨#[97, 98]⟩ = sn1 := ⟨by rfl, by rfl⟩
theorem sane2 : sn1.writeE 1 ⟨#[120, 121]⟩ = 0 ∧ sn1.wr 1 ⟨#[120, 121]⟩ = sn2 := ⟨by rfl, by rfl⟩
theorem sane3 : sn2.writeE 3 ⟨#[122, 122]⟩ = 250 ∧ sn2.wr 3 ⟨#[122, 122]⟩ = sn2 := ⟨by rfl, by rfl⟩
theorem sane4 : sn2.read 0 4 = (⟨#[97, 120, 121, 0]⟩, 0) := by rfl
theorem sane5 : sn2.crash [1, 0] 1 = sn3 := by rfl
theorem sane6 : sn3.read 0 4 = (⟨#[97, 120, 0, 0]⟩, 0) := by rfl
theorem sane7 : sn3.cutE 1 = 0 ∧ sn3.cut 1 = sn4 := ⟨by rfl, by rfl⟩
theorem sane8 : sn4.writeE 3 ⟨#[113]⟩ = 0 ∧ sn4.wr 3 ⟨#[113]⟩ = sn5 := ⟨by rfl, by rfl⟩
theorem sane9 : chkE sn5 = 251 ∧ sn5.sync = sn5 := ⟨by rfl, by rfl⟩

/-- A disk that was made since W0, apart from the blocks of Z; nothing that lay in W0 has turned. -/
def Lives (W0 : World) (Z : Nat → Prop) (W : World) (d gd gv n : Nat) (s : DS) : Prop :=
  ∃ F vp, DAt W F d gd gv vp n s ∧ (∀ k, F k → W0.heap.size ≤ k ∧ ¬ Z k) ∧ Turns (fun _ => False) W0 W

section
variable {W0 W W' : World} {Z : Nat → Prop} {d gd gv n : Nat} {s : DS}
theorem Lives.below (h : Lives W0 Z W d gd gv n s) : Below W0.heap.size W0 W := by
  obtain ⟨F, vp, h1, h2, h3⟩ := h
  exact h3.below (Below.refl _ _) (Nat.le_refl _) (fun _ e => e.elim)
theorem Lives.size (h : Lives W0 Z W d gd gv n s) : W0.heap.size ≤ W.heap.size := h.below.size
theorem Lives.step {F : Nat → Prop} (h : Turns (fun _ => False) W0 W) (hF : ∀ k, F k → W0.heap.size ≤ k) (t : Turns F W W') : Turns (fun _ => False) W0 W' :=
  h.then t (fun k hk => .inr (hF k hk))
theorem Lives.keep (h : Lives W0 Z W d gd gv n s) (t : Turns Z W W') (hZ : ∀ k, Z k → W0.heap.size ≤ k) : Lives W0 Z W' d gd gv n s := by
  obtain ⟨F, vp, h1, h2, h3⟩ := h
  exact ⟨F, vp, h1.keep t (fun k hk => (h2 k hk).2), h2, Lives.step h3 hZ t⟩
theorem Lives.quiet (h : Lives W0 Z W d gd gv n s) (t : Turns (fun _ => False) W W') : Lives W0 Z W' d gd gv n s := by
  obtain ⟨F, vp, h1, h2, h3⟩ := h
  exact ⟨F, vp, h1.keep t (fun _ _ e => e), h2, h3.trans t⟩
theorem Lives.mono {Z' : Nat → Prop} (h : Lives W0 Z W d gd gv n s) (hz : ∀ k, Z' k → k < W.heap.size → Z k) : Lives W0 Z' W d gd gv n s := by
  obtain ⟨F, vp, h1, h2, h3⟩ := h
  exact ⟨F, vp, h1, fun k hk => ⟨(h2 k hk).1, fun e => (h2 k hk).2 (hz k e (h1.lf k hk))⟩, h3⟩
theorem new_L (h0 : Turns (fun _ => False) W0 W) (hZ : ∀ k, Z k → k < W.heap.size) (n : Nat) (h1 : 1 ≤ n) (hn : n ≤ 4194304) :
    Calls Try.prog 13 #[.int .i64 n] W fun e W' => (∃ d gd gv, e = .returned (.tuple #[.pointer (some ⟨d, 0, none⟩), .int .i64 0]) ∧ Lives W0 Z W' d gd gv n (DS.fresh n)) ∧ Turns (fun _ => False) W W' := by
  refine (new_walk n h1 hn).mono ?_
  rintro e W1 ⟨⟨d, gd, gv, F, vp, rfl, hd, hF⟩, ht⟩
  exact ⟨⟨d, gd, gv, rfl, F, vp, hd, fun k hk => ⟨Nat.le_trans h0.size (hF k hk), fun hz => by have := hZ k hz; have := hF k hk; omega⟩, h0.trans ht⟩, ht⟩
theorem write_L (h : Lives W0 Z W d gd gv n s) (hZ : ∀ k, Z k → k < W.heap.size) (off : Int) (x : ByteArray) (hx : x.size ≤ 4194304) (hp : s.pend.length ≤ 1000000) (hleft : s.left ≤ 9223372036854775807) :
    Calls Try.prog 21 #[.pointer (some ⟨d, 0, none⟩), .int .i64 off, .string x] W fun e W' => e = .returned (.int .i64 (s.writeE off x)) ∧ Lives W0 Z W' d gd gv n (s.wr off x) ∧ Turns (fun k => ¬ Z k) W W' := by
  obtain ⟨F, vp, h1, h2, h3⟩ := h
  refine (write_all h1 off x hx hp hleft).mono ?_
  rintro e W1 ⟨rfl, ⟨F', vp', hd, hF⟩, ht⟩
  have hs := h3.size
  exact ⟨rfl, ⟨F', vp', hd, fun k hk => by
    rcases hF k hk with q | q
    · exact h2 k q
    · exact ⟨by omega, fun hz => by have := hZ k hz; omega⟩, Lives.step h3 (fun k hk => (h2 k hk).1) ht⟩, ht.mono fun k hk => (h2 k hk).2⟩
theorem read_L (h : Lives W0 Z W d gd gv n s) (off m : Int) :
    Calls Try.prog 14 #[.pointer (some ⟨d, 0, none⟩), .int .i64 off, .int .i64 m] W fun e W' => e = .returned (.tuple #[.string (s.read off m).1, .int .i64 (s.read off m).2]) ∧ W = W' := by
  obtain ⟨F, vp, h1, h2, h3⟩ := h
  exact read_walk h1 off m
theorem pending_L (h : Lives W0 Z W d gd gv n s) :
    Calls Try.prog 17 #[.pointer (some ⟨d, 0, none⟩)] W fun e W' => e = .returned (.int .i64 s.pend.length) ∧ W = W' := by
  obtain ⟨F, vp, h1, h2, h3⟩ := h
  exact pending_walk h1
theorem size_L (h : Lives W0 Z W d gd gv n s) :
    Calls Try.prog 16 #[.pointer (some ⟨d, 0, none⟩)] W fun e W' => e = .returned (.int .i64 n) ∧ W = W' := by
  obtain ⟨F, vp, h1, h2, h3⟩ := h
  exact size_walk h1
theorem sync_L (h : Lives W0 Z W d gd gv n s) :
    Calls Try.prog 23 #[.pointer (some ⟨d, 0, none⟩)] W fun e W' => e = .returned (.int .i64 (chkE s)) ∧ Lives W0 Z W' d gd gv n s.sync ∧ Turns (fun k => ¬ Z k) W W' := by
  obtain ⟨F, vp, h1, h2, h3⟩ := h
  refine (sync_walk h1).mono ?_
  rintro e W1 ⟨rfl, ⟨vp', hd⟩, ht⟩
  exact ⟨rfl, ⟨F, vp', hd, h2, Lives.step h3 (fun k hk => (h2 k hk).1) ht⟩, ht.mono fun k hk => (h2 k hk).2⟩
theorem cut_L (h : Lives W0 Z W d gd gv n s) (k : Int) :
    Calls Try.prog 24 #[.pointer (some ⟨d, 0, none⟩), .int .i64 k] W fun e W' => e = .returned (.int .i64 (s.cutE k)) ∧ Lives W0 Z W' d gd gv n (s.cut k) ∧ Turns (fun k => ¬ Z k) W W' := by
  obtain ⟨F, vp, h1, h2, h3⟩ := h
  refine (cut_walk h1 k).mono ?_
  rintro e W1 ⟨rfl, hd, ht⟩
  exact ⟨rfl, ⟨F, vp, hd, h2, Lives.step h3 (fun k hk => (h2 k hk).1) ht⟩, ht.mono fun k hk => (h2 k hk).2⟩
theorem crash_L (h : Lives W0 Z W d gd gv n s) (A : Option Addr) (keep : List Int) (kn cap : Nat) (hkn : keep.length = kn) (hk : kn ≤ 1000000) (hA : LAt W W.heap.size A iv keep) (torn : Int) (hp : s.pend.length ≤ 1000000) :
    Calls Try.prog 25 #[.pointer (some ⟨d, 0, none⟩), .slice A kn cap, .int .i64 torn] W fun e W' => e = .returned (.int .i64 0) ∧ Lives W0 Z W' d gd gv n (s.crash keep torn) ∧ Turns (fun k => ¬ Z k) W W' := by
  obtain ⟨F, vp, h1, h2, h3⟩ := h
  refine (crash_walk h1 A keep kn cap hkn hk hA torn hp).mono ?_
  rintro e W1 ⟨rfl, ⟨vp', hd⟩, ht⟩
  exact ⟨rfl, ⟨F, vp', hd, h2, Lives.step h3 (fun k hk => (h2 k hk).1) ht⟩, ht.mono fun k hk => (h2 k hk).2⟩
end

set_option maxRecDepth 100000 in
set_option maxHeartbeats 4000000 in
theorem sane_walk (W : World) : Calls Try.prog 12 #[] W fun e W' => e = .returned (.bool true) ∧ Below W.heap.size W W' := by
  go_enter Try.func12, Try.ntmps12
  go_wp2_with fail
  refine (new_L (W0 := W) (Z := fun _ => False) (Turns.refl _ _) (fun _ e => e.elim) 4 (by omega) (by omega)).mono ?_
  rintro e W1 ⟨⟨d, gd, gv, rfl, h⟩, -⟩
  have HL := Lib.hid h
  clear h
  go_wp2_with fail
  refine (new_bad (W := W1) 0 (by omega)).mono ?_
  rintro e W2 ⟨rfl, rfl⟩
  go_wp2_with fail
  refine (write_L HL.out (fun _ e => e.elim) 0 ⟨#[97, 98]⟩ (by decide) (by decide) (by decide)).mono ?_
  rw [sane1.1, sane1.2]
  rintro e W3 ⟨rfl, h, -⟩
  clear HL
  have HL := Lib.hid h
  clear h
  go_wp2_with fail
  refine (write_L HL.out (fun _ e => e.elim) 1 ⟨#[120, 121]⟩ (by decide) (by decide) (by decide)).mono ?_
  rw [sane2.1, sane2.2]
  rintro e W4 ⟨rfl, h, -⟩
  clear HL
  have HL := Lib.hid h
  clear h
  go_wp2_with fail
  refine (write_L HL.out (fun _ e => e.elim) 3 ⟨#[122, 122]⟩ (by decide) (by decide) (by decide)).mono ?_
  rw [sane3.1, sane3.2]
  rintro e W5 ⟨rfl, h, -⟩
  clear HL
  have HL := Lib.hid h
  clear h
  go_wp2_with fail
  refine (read_L HL.out 0 4).mono ?_
  rw [sane4]
  rintro e W6 ⟨rfl, rfl⟩
  go_wp2_with fail
  refine (pending_L HL.out).mono ?_
  rw [show ((sn2.pend.length : Nat) : Int) = 2 from rfl]
  rintro e W6 ⟨rfl, rfl⟩
  go_wp2_with fail
  have hr := RAt.alloc_new (f := iv) (l := [1, 0]) W5 #[.int .i64 1, .int .i64 0] 3 rfl
  refine (crash_L (HL.out.quiet (Turns.alloc W5 (.cells #[.int .i64 1, .int .i64 0] 3))) (some ⟨W5.heap.size, 0, none⟩) [1, 0] 2 2 rfl (by omega) (hr.sl (by simp)) 1 (by decide)).mono ?_
  rw [sane5]
  rintro e W7 ⟨rfl, h, -⟩
  clear HL hr
  have HL := Lib.hid h
  clear h
  go_wp2_with fail
  refine (read_L HL.out 0 4).mono ?_
  rw [sane6]
  rintro e W8 ⟨rfl, rfl⟩
  go_wp2_with fail
  refine (cut_L HL.out 1).mono ?_
  rw [sane7.1, sane7.2]
  rintro e W9 ⟨rfl, h, -⟩
  clear HL
  have HL := Lib.hid h
  clear h
  go_wp2_with fail
  refine (write_L HL.out (fun _ e => e.elim) 3 ⟨#[113]⟩ (by decide) (by decide) (by decide)).mono ?_
  rw [sane8.1, sane8.2]
  rintro e W10 ⟨rfl, h, -⟩
  clear HL
  have HL := Lib.hid h
  clear h
  go_wp2_with fail
  refine (sync_L HL.out).mono ?_
  rw [sane9.1, sane9.2]
  rintro e W11 ⟨rfl, h, -⟩
  clear HL
  have HL := Lib.hid h
  clear h
  go_wp2_with fail
  refine (size_L HL.out).mono ?_
  rw [show ((4 : Nat) : Int) = 4 from rfl]
  rintro e W12 ⟨rfl, rfl⟩
  go_wp2_with fail
  go_ret
  exact ⟨rfl, HL.out.below⟩

end Go.Proofs.Ytmpjoncemgangaa
