/-
  The law DigestExtensionAccepted: its walk. Condition: the table's variable holds the table.
-/
import Derived.Test.YtjelniemoambaaaDoorLawSplit
namespace Go.Proofs.YtjelniemoambaaaDoor
open Go Go.RowKit Go.Shelf

/-- How many binary digits. -/
def binN (n : Nat) : Nat := if n = 0 then 0 else Nat.log2 n + 1
theorem binN_step {n : Nat} (h : 0 < n) : binN n = binN (n / 2) + 1 := by
  unfold binN
  rw [if_neg (by omega), Nat.log2_def]
  by_cases h2 : 2 ≤ n
  · rw [if_pos h2, if_neg (by omega)]
  · rw [if_neg h2, if_pos (by omega)]
theorem binN_lt (n : Nat) : n < 2 ^ binN n := by
  unfold binN
  split
  · omega
  · exact (Nat.log2_lt (by assumption)).1 (by omega)
theorem binN_le {n k : Nat} (h : n < 2 ^ k) : binN n ≤ k := by
  unfold binN
  split
  · omega
  · have := (Nat.log2_lt (by assumption)).2 h; omega

set_option maxHeartbeats 2000000 in
theorem binary_walk (n : Nat) (hn : n ≤ 1000000) (w : World) :
    Calls Tryd.prog 25 #[.int .i64 n] w fun e w' => e = .returned (.int .i64 (binN n : Nat)) ∧ w = w' := by
  have hbn : binN n ≤ 20 := binN_le (by omega)
  obtain ⟨r, hr⟩ : ∃ r, binN n = r := ⟨_, rfl⟩
  rw [hr] at hbn ⊢
  have HR := Lib.hid hr
  clear hr
  go_enter Tryd.func25, Tryd.ntmps25
  go_wp2_with fail
  go_loop [0, 3] (fun v0 v3 => ∃ m k : Nat, m ≤ n ∧ k + binN m = r ∧ v0 = .int .i64 m ∧ v3 = .int .i64 k) (fun v _ => (intOf v).toNat)
  case atStart => exact ⟨n, 0, Nat.le_refl _, by rw [← HR.out]; omega, rfl, rfl⟩
  case round =>
    obtain ⟨m, k, hm, hk, rfl, rfl⟩ := hrel
    have HK := Lib.hid hk
    have hkr : k ≤ 20 := by omega
    clear hk
    by_cases h0 : 0 < m
    · obtain ⟨m2, hm2⟩ : ∃ m2, m / 2 = m2 := ⟨_, rfl⟩
      have e1 : (m : Int) / 2 = (m2 : Int) := by omega
      have hs := binN_step h0
      rw [hm2] at hs
      have HS := Lib.hid hs
      have d0 : decide ((0 : Int) < (m : Int)) = true := by simp; omega
      clear hs hm2
      go_wp2_with fail
      refine ⟨⟨m2, k + 1, by omega, by have := HK.out; have := HS.out; omega, rfl, rfl⟩, by simp [intOf]; omega⟩
    · obtain rfl : m = 0 := by omega
      have hkr2 : k = r := by have := HK.out; simpa [binN] using this
      have HKR := Lib.hid hkr2
      clear hkr2
      go_wp2_with fail
      go_ret
      exact ⟨by rw [← HKR.out]; rfl, rfl⟩

theorem exF_short : ∀ (d f : Nat) (l : List ByteArray) (m : Nat) (wh : Bool), l.length ≤ 2 ^ d → 1 ≤ m → (exF f l m wh).length ≤ d + 1 := by
  intro d
  induction d with
  | zero =>
    intro f l m wh hl hm
    rw [exF_done f wh (by omega)]
    cases wh <;> simp
  | succ d ih =>
    intro f l m wh hl hm
    cases f with
    | zero => cases wh <;> simp [exF]
    | succ f =>
      rw [exF_succ]
      split
      · cases wh <;> simp
      · obtain ⟨k0, k1, k2⟩ := leftN_ok (n := l.length) (by omega)
        obtain ⟨e, he⟩ := leftN_is_pow l.length
        have hk : leftN l.length ≤ 2 ^ d := by
          rw [he] at k1 ⊢
          have : e < d + 1 := (Nat.pow_lt_pow_iff_right (by decide)).1 (Nat.lt_of_lt_of_le k1 hl)
          exact Nat.pow_le_pow_right (by decide) (by omega)
        split
        · have := ih f (l.take (leftN l.length)) m wh (by rw [List.length_take]; omega) hm
          rw [List.length_append]; simp; omega
        · have := ih f (l.drop (leftN l.length)) (m - leftN l.length) false (by rw [List.length_drop]; omega) (by omega)
          rw [List.length_append]; simp; omega

/-- What Extension gives inside its bounds. -/
def extA (l : List ByteArray) (k : Nat) : List ByteArray := if k = 0 then [] else extS l k true
theorem extA_short (l : List ByteArray) (k : Nat) (hk : k ≤ l.length) : (extA l k).length ≤ 2 * binN l.length := by
  unfold extA
  split
  · simp
  · have h := exF_short (binN l.length) l.length l k true (Nat.le_of_lt (binN_lt _)) (by omega)
    have h1 : 1 ≤ binN l.length := by unfold binN; rw [if_neg (by omega)]; omega
    show (exF l.length l k true).length ≤ _
    omega
theorem extA_ok (l : List ByteArray) (k : Nat) (hk : k ≤ l.length) : verE (rootS (l.take k)) k (rootS l) l.length (extA l k) = true := by
  unfold extA
  split
  · rename_i h
    subst h
    exact ext_accepted_zero _ _ (rootS_size _)
  · exact ext_accepted l k (by omega) hk
theorem LawSt.ext {w W : World} {ls : List (Option Addr × List ByteArray)} (h : LawSt w ls W) {A : Option Addr} {l : List ByteArray} (hm : (A, l) ∈ ls) (n cap k : Nat) (hn : l.length = n) (hl : n ≤ 1000) (hc : n ≤ cap) (hcm : cap ≤ maxLen) (hk : k ≤ n) (hs : ∀ s ∈ l, s.size ≤ 100000) :
    Calls Tryd.prog 16 #[.slice A n cap, .int .i64 k] W fun e W' => ∃ A7 c7, e = .returned (.tuple #[.slice A7 (extA l k).length c7, .int .i64 0]) ∧ (extA l k).length ≤ c7 ∧ LawSt w ((A7, extA l k) :: ls) W' := by
  subst hn
  unfold extA
  by_cases h0 : k = 0
  · subst h0
    rw [if_pos rfl]
    refine (ext_zero A l cap W).mono ?_
    rintro e W' ⟨rfl, rfl⟩
    exact ⟨none, 0, rfl, Nat.le_refl _, h.add LAt.nil⟩
  · rw [if_neg h0]
    refine (ext_yes A l cap k (by omega) hk hl hc hcm hs W (h.l _ hm) h.k).mono ?_
    rintro e W' ⟨⟨v, rfl, hv⟩, hb⟩
    obtain ⟨A7, c7, rfl, hc7, -, -⟩ := hv.slice0
    exact ⟨A7, c7, rfl, hc7, (h.below hb).add hv.lat⟩
theorem LawSt.tail {w W : World} {ls : List (Option Addr × List ByteArray)} {x : Option Addr × List ByteArray} (h : LawSt w (x :: ls) W) : LawSt w ls W :=
  ⟨fun y hy => h.l y (List.mem_cons_of_mem _ hy), h.k, h.b⟩
theorem LawSt.take {w W : World} {ls : List (Option Addr × List ByteArray)} (h : LawSt w ls W) {A : Option Addr} {l : List ByteArray} (hm : (A, l) ∈ ls) (k : Nat) : LawSt w ((A, l.take k) :: ls) W := h.add ((h.l _ hm).take k)
theorem LawSt.drewN {w W : World} {ls : List (Option Addr × List ByteArray)} (h : LawSt w ls W) (n : Nat) : LawSt w ls (W.drewN n) := h.below (Below.drewN' (Below.refl _ _) n)

end Go.Proofs.YtjelniemoambaaaDoor
