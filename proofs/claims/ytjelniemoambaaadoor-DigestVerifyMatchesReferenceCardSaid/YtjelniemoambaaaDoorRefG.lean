/-
  The contract of the reference's Extension; Proof and Extension at whatever index, the program's and the reference's alike. Conditions: bounds.
-/
import Derived.Test.YtjelniemoambaaaDoorRefF
import Derived.Test.YtjelniemoambaaaDoorHeads
namespace Go.Proofs.YtjelniemoambaaaDoor
open Go Go.RowKit Go.Shelf

set_option maxRecDepth 100000 in
set_option maxHeartbeats 2000000 in
theorem refext_no (A : Option Addr) (l : List ByteArray) (cap : Nat) (m : Int) (h : m < 0 ∨ (l.length : Int) < m) (w : World) :
    Calls Tryd.prog 17 #[.slice A l.length cap, .int .i64 m] w fun e w' => e = .returned (.tuple #[.slice none 0 0, .int .i64 2]) ∧ w = w' := by
  rcases h with h | h
  · go_enter Tryd.func17, Tryd.ntmps17
    go_wp2_with fail
    go_ret2
    exact ⟨rfl, rfl⟩
  · have h' : decide (m < 0) = false := by simp; omega
    go_enter Tryd.func17, Tryd.ntmps17
    go_wp2_with fail
    go_ret2
    exact ⟨rfl, rfl⟩
set_option maxHeartbeats 2000000 in
theorem refext_zero (A : Option Addr) (l : List ByteArray) (cap : Nat) (w : World) :
    Calls Tryd.prog 17 #[.slice A l.length cap, .int .i64 0] w fun e w' => e = .returned (.tuple #[.slice none 0 0, .int .i64 0]) ∧ w = w' := by
  have h2 : decide ((l.length : Int) < 0) = false := by simp
  go_enter Tryd.func17, Tryd.ntmps17
  go_wp2_with fail
  go_ret2
  exact ⟨rfl, rfl⟩
set_option maxHeartbeats 2000000 in
theorem refext_yes (A : Option Addr) (l : List ByteArray) (cap m : Nat) (h0 : 1 ≤ m) (h : m ≤ l.length) (hl : l.length ≤ 1000) (hc : l.length ≤ cap) (hcm : cap ≤ maxLen) (hs : ∀ s ∈ l, s.size ≤ 100000) (w : World) (hA : LAt w w.heap.size A .string l) :
    Calls Tryd.prog 17 #[.slice A l.length cap, .int .i64 m] w fun e w' => (∃ v, e = .returned (.tuple #[v, .int .i64 0]) ∧ StrL w' w.heap.size v (extS l m true)) ∧ Below w.heap.size w w' := by
  have HP := Lib.hid (refpart_walk l.length A l cap m true rfl hl hc hcm h0 h hs w hA)
  have d1 : decide ((m : Int) < 0) = false := by simp
  have d2 : decide (l.length < m) = false := by simp; omega
  have d3 : ((m : Int) == 0) = false := by simp; omega
  clear hA hs
  go_enter Tryd.func17, Tryd.ntmps17
  go_wp2_with fail
  refine HP.out.mono ?_
  rintro e w1 ⟨⟨v, rfl, hv⟩, hb⟩
  go_wp2_with fail
  go_ret2
  exact ⟨⟨v, rfl, hv⟩, hb⟩

/-- What Proof returns, whatever the index. -/
def prX (l : List ByteArray) (i : Int) : List ByteArray := if 0 ≤ i ∧ i < l.length then proofS l i.toNat else []
def prE (l : List ByteArray) (i : Int) : Int := if 0 ≤ i ∧ i < l.length then 0 else 2
/-- What Extension returns, whatever the number. -/
def exX (l : List ByteArray) (m : Int) : List ByteArray := if 0 < m ∧ m ≤ l.length then extS l m.toNat true else []
def exE (l : List ByteArray) (m : Int) : Int := if 0 ≤ m ∧ m ≤ l.length then 0 else 2
theorem prX_length (l : List ByteArray) (i : Int) (h : l.length ≤ 1000) : (prX l i).length ≤ 2000 := by
  unfold prX
  split
  · have := proofS_binN l i.toNat; have := binN_le (n := l.length) (k := 10) (by omega); omega
  · simp
theorem exX_length (l : List ByteArray) (m : Int) (h : l.length ≤ 1000) : (exX l m).length ≤ 2000 := by
  unfold exX
  split
  · have := exF_length l.length l m.toNat true; unfold extS; omega
  · simp
/-- What such a call leaves. -/
def Gives (w : World) (ls : List (Option Addr × List ByteArray)) (X : List ByteArray) (E : Int) (e : Ending) (W' : World) : Prop :=
  ∃ A7 c7, e = .returned (.tuple #[.slice A7 X.length c7, .int .i64 E]) ∧ LawSt w ((A7, X) :: ls) W'
section
variable {w W : World} {ls : List (Option Addr × List ByteArray)}
theorem LawSt.gives_own (h : LawSt w ls W) {W' : World} (hb : Below W.heap.size W W') {X : List ByteArray} {E : Int} {v : Value} {e : Ending} (he : e = .returned (.tuple #[v, .int .i64 E])) (hv : StrL W' W.heap.size v X) : Gives w ls X E e W' := by
  obtain ⟨A7, c7, rfl, -, -, -⟩ := hv.slice0
  exact ⟨A7, c7, he, (h.below hb).add hv.lat⟩
theorem LawSt.gives_nil (h : LawSt w ls W) {E : Int} {e : Ending} {W' : World} (he : e = .returned (.tuple #[.slice none 0 0, .int .i64 E]) ∧ W = W') : Gives w ls [] E e W' := by
  obtain ⟨he, rfl⟩ := he
  exact ⟨none, 0, he, h.add LAt.nil⟩
theorem LawSt.proofA (h : LawSt w ls W) {A : Option Addr} {l : List ByteArray} (hm : (A, l) ∈ ls) (n cap : Nat) (i : Int) (hn : l.length = n) (hl : n ≤ 1000) (hc : n ≤ cap) (hcm : cap ≤ maxLen) (hs : ∀ s ∈ l, s.size ≤ 100000) :
    Calls Tryd.prog 14 #[.slice A n cap, .int .i64 i] W (Gives w ls (prX l i) (prE l i)) := by
  subst hn
  unfold prX prE
  by_cases hi : 0 ≤ i ∧ i < l.length
  · obtain ⟨k, rfl⟩ : ∃ k : Nat, i = k := ⟨i.toNat, by omega⟩
    rw [if_pos hi, if_pos hi, Int.toNat_natCast]
    exact (proof_yes A l cap k (by omega) hl hc hcm hs W (h.l _ hm) h.k).mono fun _ _ ⟨⟨v, he, hv⟩, hb⟩ => h.gives_own hb he hv
  · rw [if_neg hi, if_neg hi]
    exact (proof_no A l cap i (by omega) W).mono fun _ _ he => h.gives_nil he
theorem LawSt.rproofA (h : LawSt w ls W) {A : Option Addr} {l : List ByteArray} (hm : (A, l) ∈ ls) (n cap : Nat) (i : Int) (hn : l.length = n) (hl : n ≤ 1000) (hc : n ≤ cap) (hcm : cap ≤ maxLen) (hs : ∀ s ∈ l, s.size ≤ 100000) :
    Calls Tryd.prog 15 #[.slice A n cap, .int .i64 i] W (Gives w ls (prX l i) (prE l i)) := by
  subst hn
  unfold prX prE
  by_cases hi : 0 ≤ i ∧ i < l.length
  · obtain ⟨k, rfl⟩ : ∃ k : Nat, i = k := ⟨i.toNat, by omega⟩
    rw [if_pos hi, if_pos hi, Int.toNat_natCast]
    exact (refproof_walk l.length A l cap k rfl hl hc hcm (by omega) hs W (h.l _ hm)).mono fun _ _ ⟨⟨v, he, hv⟩, hb⟩ => h.gives_own hb he hv
  · rw [if_neg hi, if_neg hi]
    exact (refproof_no A l cap i (by omega) W).mono fun _ _ he => h.gives_nil he
theorem LawSt.extAny (h : LawSt w ls W) {A : Option Addr} {l : List ByteArray} (hm : (A, l) ∈ ls) (n cap : Nat) (m : Int) (hn : l.length = n) (hl : n ≤ 1000) (hc : n ≤ cap) (hcm : cap ≤ maxLen) (hs : ∀ s ∈ l, s.size ≤ 100000) :
    Calls Tryd.prog 16 #[.slice A n cap, .int .i64 m] W (Gives w ls (exX l m) (exE l m)) := by
  subst hn
  unfold exX exE
  by_cases hi : 0 < m ∧ m ≤ l.length
  · obtain ⟨k, rfl⟩ : ∃ k : Nat, m = k := ⟨m.toNat, by omega⟩
    rw [if_pos hi, if_pos (by omega), Int.toNat_natCast]
    exact (ext_yes A l cap k (by omega) (by omega) hl hc hcm hs W (h.l _ hm) h.k).mono fun _ _ ⟨⟨v, he, hv⟩, hb⟩ => h.gives_own hb he hv
  · rw [if_neg hi]
    by_cases h0 : m = 0
    · subst h0
      rw [if_pos (by omega)]
      exact (ext_zero A l cap W).mono fun _ _ he => h.gives_nil he
    · rw [if_neg (by omega)]
      exact (ext_no A l cap m (by omega) W).mono fun _ _ he => h.gives_nil he
theorem LawSt.rextAny (h : LawSt w ls W) {A : Option Addr} {l : List ByteArray} (hm : (A, l) ∈ ls) (n cap : Nat) (m : Int) (hn : l.length = n) (hl : n ≤ 1000) (hc : n ≤ cap) (hcm : cap ≤ maxLen) (hs : ∀ s ∈ l, s.size ≤ 100000) :
    Calls Tryd.prog 17 #[.slice A n cap, .int .i64 m] W (Gives w ls (exX l m) (exE l m)) := by
  subst hn
  unfold exX exE
  by_cases hi : 0 < m ∧ m ≤ l.length
  · obtain ⟨k, rfl⟩ : ∃ k : Nat, m = k := ⟨m.toNat, by omega⟩
    rw [if_pos hi, if_pos (by omega), Int.toNat_natCast]
    exact (refext_yes A l cap k (by omega) (by omega) hl hc hcm hs W (h.l _ hm)).mono fun _ _ ⟨⟨v, he, hv⟩, hb⟩ => h.gives_own hb he hv
  · rw [if_neg hi]
    by_cases h0 : m = 0
    · subst h0
      rw [if_pos (by omega)]
      exact (refext_zero A l cap W).mono fun _ _ he => h.gives_nil he
    · rw [if_neg (by omega)]
      exact (refext_no A l cap m (by omega) W).mono fun _ _ he => h.gives_nil he
theorem LawSt.same (h : LawSt w ls W) {A1 A2 : Option Addr} {X : List ByteArray} (h1 : (A1, X) ∈ ls) (h2 : (A2, X) ∈ ls) (nx c1 c2 : Nat) (hn : X.length = nx) (hb : nx ≤ 2000) :
    Calls Tryd.prog 18 #[.slice A1 nx c1, .slice A2 nx c2] W fun e W' => e = .returned (.bool true) ∧ LawSt w ls W' :=
  (same_walk A1 A2 X X nx nx c1 c2 hn hn (by omega) W (h.l _ h1) (h.l _ h2)).mono fun _ _ ⟨he, hb⟩ => ⟨by rw [he]; simp, h.below hb⟩
theorem LawSt.rroot (h : LawSt w ls W) {A : Option Addr} {l : List ByteArray} (hm : (A, l) ∈ ls) (n cap : Nat) (hn : l.length = n) (hl : n ≤ 1000) (hc : n ≤ cap) (hcm : cap ≤ maxLen) (hs : ∀ s ∈ l, s.size ≤ 100000) :
    Calls Tryd.prog 20 #[.slice A n cap] W fun e W' => e = .returned (.string (rootS l)) ∧ LawSt w ls W' :=
  (refroot_walk n A l cap hn hl hc hcm hs W (h.l _ hm)).mono fun _ _ ⟨he, hb⟩ => ⟨he, h.below hb⟩
end

set_option maxRecDepth 100000 in
set_option maxHeartbeats 4000000 in
theorem tree_law (A : Option Addr) (l : List ByteArray) (cap : Nat) (i m : Int) (hl : l.length ≤ 9223372036854775807) (w : World) (hA : LAt w w.heap.size A .string l) (hK : KAt w) :
    Calls Tryd.prog 3 #[.slice A l.length cap, .int .i64 i, .int .i64 m] w fun e w' => e = .returned (.bool true) ∧ Below w.heap.size w w' := by
  have HA := Lib.hid hA
  have HK := Lib.hid hK
  clear hA hK
  go_enter Tryd.func3, Tryd.ntmps3
  go_wp2_with fail
  refine (sane_walk w HK.out).mono ?_
  rintro e w1 ⟨rfl, hb1⟩
  go_wp2_with fail
  refine (few_walk A l cap 40 (by decide) hl w1 ((HA.out.below hb1).more hb1.size)).mono ?_
  rintro e w2 ⟨⟨v0, rfl, h0⟩, hb2⟩
  have hLn := fewS_length l 40
  have hLs := fewS_size l 40
  obtain ⟨L, hL⟩ : ∃ L, fewS l 40 = L := ⟨_, rfl⟩
  rw [hL] at h0 hLn hLs
  obtain ⟨A0, c0, rfl, hc0, hc0m, -⟩ := h0.slice0
  have HLS := Lib.hid (show ∀ s ∈ L, s.size ≤ 100000 from fun s hs => by have := hLs s hs; omega)
  have hst : LawSt w [(A0, L)] w2 := ⟨fun x hx => by rw [List.mem_singleton.1 hx]; exact h0.lat, (HK.out.below hb1).below hb2, hb1.trans (hb2.mono hb1.size)⟩
  have HST := Lib.hid hst
  obtain ⟨n, hn⟩ : ∃ n, L.length = n := ⟨_, rfl⟩
  have hx1 := prX_length L i (by omega)
  have hx2 := exX_length L m (by omega)
  rw [hn] at hc0 hLn ⊢
  have HN := Lib.hid hn
  have P1 := Lib.hid (fun W ls (h : LawSt w ls W) hm => h.proofA (A := A0) (l := L) hm n c0 i HN.out (by omega) hc0 hc0m HLS.out)
  have P2 := Lib.hid (fun W ls (h : LawSt w ls W) hm => h.rproofA (A := A0) (l := L) hm n c0 i HN.out (by omega) hc0 hc0m HLS.out)
  have P3 := Lib.hid (fun W ls (h : LawSt w ls W) hm => h.extAny (A := A0) (l := L) hm n c0 m HN.out (by omega) hc0 hc0m HLS.out)
  have P4 := Lib.hid (fun W ls (h : LawSt w ls W) hm => h.rextAny (A := A0) (l := L) hm n c0 m HN.out (by omega) hc0 hc0m HLS.out)
  obtain ⟨X, hX⟩ : ∃ X, prX L i = X := ⟨_, rfl⟩
  obtain ⟨E, hE⟩ : ∃ E, prE L i = E := ⟨_, rfl⟩
  obtain ⟨Y, hY⟩ : ∃ Y, exX L m = Y := ⟨_, rfl⟩
  obtain ⟨G, hG⟩ : ∃ G, exE L m = G := ⟨_, rfl⟩
  rw [hX, hE] at P1 P2
  rw [hY, hG] at P3 P4
  rw [hX] at hx1
  rw [hY] at hx2
  obtain ⟨nx, hnx⟩ : ∃ nx, X.length = nx := ⟨_, rfl⟩
  obtain ⟨ny, hny⟩ : ∃ ny, Y.length = ny := ⟨_, rfl⟩
  unfold Gives at P1 P2 P3 P4
  rw [hnx] at P1 P2 hx1
  rw [hny] at P3 P4 hx2
  have HNX := Lib.hid hnx
  have HNY := Lib.hid hny
  have i1 := str_self (rootS L)
  clear hL hLs h0 hb1 hb2 hst hn hX hE hY hG hnx hny
  go_wp2_with fail
  refine (P1.out _ _ HST.out (by simp)).mono ?_
  rintro e w3 ⟨A3, c3, rfl, hst⟩
  replace HST := Lib.hid hst
  clear hst
  go_wp2_with fail
  refine (P2.out _ _ HST.out (by simp)).mono ?_
  rintro e w4 ⟨A4, c4, rfl, hst⟩
  replace HST := Lib.hid hst
  clear hst
  go_wp2_with fail
  refine (P3.out _ _ HST.out (by simp)).mono ?_
  rintro e w5 ⟨A5, c5, rfl, hst⟩
  replace HST := Lib.hid hst
  clear hst
  go_wp2_with fail
  refine (P4.out _ _ HST.out (by simp)).mono ?_
  rintro e w6 ⟨A6, c6, rfl, hst⟩
  replace HST := Lib.hid hst
  clear hst
  go_wp2_with fail
  refine (HST.out.same (A1 := A3) (A2 := A4) (X := X) (by simp) (by simp) nx c3 c4 HNX.out hx1).mono ?_
  rintro e w7 ⟨rfl, hst⟩
  replace HST := Lib.hid hst
  clear hst
  go_wp2_with fail
  refine (HST.out.same (A1 := A5) (A2 := A6) (X := Y) (by simp) (by simp) ny c5 c6 HNY.out hx2).mono ?_
  rintro e w8 ⟨rfl, hst⟩
  replace HST := Lib.hid hst
  clear hst
  go_wp2_with fail
  refine (HST.out.root (A := A0) (l := L) (by simp) n c0 HN.out (by omega) HLS.out).mono ?_
  rintro e w9 ⟨rfl, hst⟩
  replace HST := Lib.hid hst
  clear hst
  go_wp2_with fail
  refine (HST.out.rroot (A := A0) (l := L) (by simp) n c0 HN.out (by omega) hc0 hc0m HLS.out).mono ?_
  rintro e w10 ⟨rfl, hst⟩
  replace HST := Lib.hid hst
  clear hst
  go_wp2_with fail
  go_ret
  exact ⟨rfl, HST.out.b⟩

end Go.Proofs.YtjelniemoambaaaDoor
