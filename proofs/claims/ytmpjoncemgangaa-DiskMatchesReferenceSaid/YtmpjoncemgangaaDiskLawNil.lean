/-
  The laws DiskNil and DiskNewMatches answer true for all arguments. Conditions: the arguments are such as the rows read.
-/
import Derived.Test.YtmpjoncemgangaaDiskS
namespace Go.Proofs.Ytmpjoncemgangaa
open Go Go.RowKit Go.Shelf Go.Sort

set_option maxRecDepth 100000 in
set_option maxHeartbeats 4000000 in
theorem nil_walk (W : World) (off n : Int) (s : ByteArray) (A : Option Addr) (l : Nat) (cap : Nat) (hs : s.size ≤ 9223372036854775807) (hl : l ≤ cap) :
    Calls Try.prog 5 #[.int .i64 off, .int .i64 n, .string s, .slice A l cap] W fun e W' => e = .returned (.bool true) ∧ Below W.heap.size W W' := by
  obtain ⟨k, hk⟩ : ∃ k : Nat, min (l : Int) 100 = (k : Int) := ⟨min l 100, by omega⟩
  have y3 : (0 : Int) ≤ (k : Int) := by omega
  have y4 : (k : Int) ≤ (cap : Int) := by omega
  go_enter Try.func5, Try.ntmps5
  go_wp2_with fail
  refine (sane_walk W).mono ?_
  rintro e W1 ⟨rfl, hb⟩
  have HB := Lib.hid hb
  clear hb
  go_wp2_with fail
  refine (readnil_walk W1 off n).mono ?_
  rintro e W2 ⟨rfl, rfl⟩
  go_wp2_with (first
    | (go_at_call 22; refine (lcut_walk _ s 100 hs).mono ?_; rintro e W2 ⟨rfl, rfl⟩)
    | (go_at_call 21; refine (writenil_walk _ off _).mono ?_; rintro e W2 ⟨rfl, rfl⟩)
    | (go_at_call 23; refine (syncnil_walk _).mono ?_; rintro e W2 ⟨rfl, rfl⟩)
    | (go_at_call 24; refine (cutnil_walk _ n).mono ?_; rintro e W2 ⟨rfl, rfl⟩)
    | (go_at_call 25; refine (crashnil_walk _ _ _ _ n).mono ?_; rintro e W2 ⟨rfl, hb2⟩; have HB2 := Lib.hid hb2; clear hb2)
    | (go_at_call 17; refine (pendingnil_walk _).mono ?_; rintro e W2 ⟨rfl, rfl⟩)
    | (go_at_call 16; refine (sizenil_walk _).mono ?_; rintro e W2 ⟨rfl, rfl⟩)
    | fail)
  go_ret
  exact ⟨rfl, HB.out.trans (HB2.out.mono HB.out.size)⟩

theorem pickZ_range (x : Int) {n : Int} (hn : 1 ≤ n) : 0 ≤ pickZ x n ∧ pickZ x n < n := by
  unfold pickZ
  split
  · exact ⟨Int.tmod_nonneg n (by omega), Int.tmod_lt_of_pos _ (by omega)⟩
  · exact ⟨Int.tmod_nonneg n (by omega), Int.tmod_lt_of_pos _ (by omega)⟩
theorem fresh_read (n p : Nat) (h : p < n) : (DS.fresh n).read p 1 = (⟨#[0]⟩, 0) := by
  have e1 : insB n p 1 = true := by
    unfold insB
    simp only [Bool.and_eq_true, decide_eq_true_eq]
    omega
  unfold DS.read
  rw [show (DS.fresh n).off = false from rfl, if_neg (by simp), show (DS.fresh n).vis = List.replicate n 0 from rfl, List.length_replicate, e1, if_pos rfl]
  rw [show ((p : Int)).toNat = p by omega, show ((1 : Int)).toNat = 1 from rfl, List.drop_replicate, List.take_replicate, show min 1 (n - p) = 1 by omega]
  rfl

set_option maxRecDepth 100000 in
set_option maxHeartbeats 4000000 in
theorem newMatches_walk (W : World) (n x : Int) (h1 : -9223372036854775808 ≤ x) (h2 : x ≤ 9223372036854775807) :
    Calls Try.prog 3 #[.int .i64 n, .int .i64 x] W fun e W' => e = .returned (.bool true) ∧ Below W.heap.size W W' := by
  by_cases hb : n < 1 ∨ 4194304 < n
  · by_cases hb1 : n < 1
    · have d1 : decide (n < 1) = true := by simp [hb1]
      clear hb1
      go_enter Try.func3, Try.ntmps3
      go_wp2_with fail
      refine (sane_walk W).mono ?_
      rintro e W1 ⟨rfl, hbw⟩
      have HB := Lib.hid hbw
      clear hbw
      go_wp2_with fail
      refine (new_bad n hb).mono ?_
      rintro e W2 ⟨rfl, rfl⟩
      go_wp2_with fail
      go_ret
      exact ⟨rfl, HB.out⟩
    · have d1 : decide (n < 1) = false := by simp; omega
      have d2 : decide (4194304 < n) = true := by simp; omega
      clear hb1
      go_enter Try.func3, Try.ntmps3
      go_wp2_with fail
      refine (sane_walk W).mono ?_
      rintro e W1 ⟨rfl, hbw⟩
      have HB := Lib.hid hbw
      clear hbw
      go_wp2_with fail
      refine (new_bad n hb).mono ?_
      rintro e W2 ⟨rfl, rfl⟩
      go_wp2_with fail
      go_ret
      exact ⟨rfl, HB.out⟩
  · obtain ⟨m, rfl⟩ : ∃ m : Nat, n = m := ⟨n.toNat, by omega⟩
    have d1 : decide ((m : Int) < 1) = false := by simp; omega
    have d2 : decide ((4194304 : Int) < (m : Int)) = false := by simp; omega
    have hm1 : 1 ≤ m := by omega
    have hm2 : m ≤ 4194304 := by omega
    obtain ⟨q1, q2⟩ := pickZ_range x (n := m) (by omega)
    have HP := Lib.hid (pick_walk (x := x) (n := m) · h1 h2 (by omega) (by omega))
    obtain ⟨p, hp⟩ : ∃ p : Nat, pickZ x m = p := ⟨(pickZ x m).toNat, by omega⟩
    rw [hp] at HP q1 q2
    have HR := Lib.hid (fresh_read m p (by omega))
    clear hp hb q1 q2
    go_enter Try.func3, Try.ntmps3
    go_wp2_with fail
    refine (sane_walk W).mono ?_
    rintro e W1 ⟨rfl, hbw⟩
    have HB := Lib.hid hbw
    clear hbw
    go_wp2_with fail
    refine (new_L (W0 := W1) (Z := fun _ => False) (Turns.refl _ _) (fun _ e => e.elim) m hm1 hm2).mono ?_
    rintro e W2 ⟨⟨d, gd, gv, rfl, h⟩, -⟩
    have HL := Lib.hid h
    clear h
    go_wp2_with fail
    refine (HP.out W2).mono ?_
    rintro e W3 ⟨rfl, rfl⟩
    go_wp2_with fail
    refine (read_L HL.out p 1).mono ?_
    rw [HR.out]
    rintro e W3 ⟨rfl, rfl⟩
    go_wp2_with fail
    refine (size_L HL.out).mono ?_
    rintro e W3 ⟨rfl, rfl⟩
    go_wp2_with fail
    refine (pending_L HL.out).mono ?_
    rw [show (((DS.fresh m).pend.length : Nat) : Int) = 0 from rfl]
    rintro e W3 ⟨rfl, rfl⟩
    go_wp2_with fail
    go_ret
    exact ⟨rfl, HB.out.trans (HL.out.below.mono HB.out.size)⟩

end Go.Proofs.Ytmpjoncemgangaa
