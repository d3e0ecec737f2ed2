/-
  The contracts of slices.ContainsFunc at a record's length, of slices.Clone, Records, Room. Conditions: bounds.
-/
import Derived.Test.YtllmciiadceinaaGreatDoorJourG
namespace Go.Proofs.YtllmciiadceinaaGreatDoor
open Go Go.RowKit Go.Shelf Wr

set_option maxHeartbeats 1000000 in
theorem isLong_walk (s : ByteArray) (w : World) : Calls Tryz.prog 34 #[.string s] w fun e w' => e = .returned (.bool (decide (65536 < s.size))) ∧ w = w' := by
  go_enter Tryz.func34, Tryz.ntmps34
  go_wp2_with fail
  go_ret
  refine ⟨?_, rfl⟩
  congr 2
  simp
  omega

/-- The place of the first long record; -1 where there is none. -/
def longAt : List ByteArray → Nat → Int
  | [], _ => -1
  | r :: l, k => if 65536 < r.size then k else longAt l (k + 1)
theorem longAt_ge (l : List ByteArray) (k : Nat) : (0 ≤ longAt l k) ↔ longB l = true := by
  unfold longB
  induction l generalizing k with
  | nil => simp [longAt]
  | cons r l ih =>
    unfold longAt
    by_cases h : 65536 < r.size
    · rw [if_pos h]; simp [h]
    · rw [if_neg h, ih]; simp [h]

set_option maxRecDepth 100000 in
set_option maxHeartbeats 4000000 in
theorem index_walk (A : Option Addr) (L : List ByteArray) (m c : Nat) (hm : L.length = m) (hb : m ≤ 1000000) (w : World) (hA : LAt w w.heap.size A .string L) :
    Calls Tryz.prog 68 #[.slice A m c, .func (.func 34) #[] #[]] w fun e w' => e = .returned (.int .i64 (longAt L 0)) ∧ w = w' := by
  have HM := Lib.hid hm
  have HA := Lib.hid hA
  obtain ⟨R, hR⟩ : ∃ R, longAt L 0 = R := ⟨_, rfl⟩
  rw [hR]
  have HR := Lib.hid hR
  clear hm hA hR
  go_enter Tryz.func68, Tryz.ntmps68
  go_wp2_with fail
  go_loop [5, 8, 9, 10, 11, 12, 13, 14, 15, 16, 18] (fun v5 v8 v9 v10 v11 v12 v13 v14 v15 v16 v18 => ∃ k : Nat, k ≤ m ∧ v8 = .int .i64 k ∧ Hid (longAt (L.drop k) k = R)) (fun _ v _ _ _ _ _ _ _ _ _ => m - (intOf v).toNat)
  case atStart => exact ⟨0, Nat.zero_le _, rfl, HR⟩
  case round =>
    obtain ⟨k, hk, rfl, hI⟩ := hrel
    by_cases hlt : k < m
    · have d1 : decide ((k : Int) < (m : Int)) = true := by simp [hlt]
      have hkl : k < L.length := by rw [HM.out]; exact hlt
      obtain ⟨a, rfl, -, hac⟩ := HA.out.get hkl
      have hdr : L.drop k = L[k] :: L.drop (k + 1) := (List.getElem_cons_drop hkl).symm
      obtain ⟨x, hx⟩ : ∃ x, L[k] = x := ⟨_, rfl⟩
      rw [hx] at hac hdr
      have HD := Lib.hid hdr
      have HL := Lib.hid (isLong_walk x)
      have z1 : (0 : Int) ≤ (k : Int) := by omega
      have z2 : (k : Int) < (m : Int) := by omega
      clear hx hdr hkl
      by_cases hlg : 65536 < x.size
      · rw [show decide (65536 < x.size) = true by simp [hlg]] at HL
        have hRk : R = (k : Int) := by rw [← hI.out, HD.out, longAt, if_pos hlg]
        have HK := Lib.hid hRk
        clear hRk hlg
        go_wp2_with (first | (go_at_call 34; refine (HL.out _).mono ?_; rintro e w1 ⟨rfl, rfl⟩) | fail)
        go_ret
        exact ⟨by rw [HK.out]; rfl, rfl⟩
      · rw [show decide (65536 < x.size) = false by simp; omega] at HL
        have hRk : longAt (L.drop (k + 1)) (k + 1) = R := by rw [← hI.out, HD.out, longAt, if_neg hlg]
        have HK := Lib.hid hRk
        clear hRk hlg
        go_wp2_with (first | (go_at_call 34; refine (HL.out _).mono ?_; rintro e w1 ⟨rfl, rfl⟩) | fail)
        exact ⟨⟨k + 1, by omega, by go_num, HK⟩, by simp only [intOf]; omega⟩
    · have d1 : decide ((k : Int) < (m : Int)) = false := by simp; omega
      have hRk : R = -1 := by rw [← hI.out, List.drop_eq_nil_of_le (by rw [HM.out]; omega)]; rfl
      have HK := Lib.hid hRk
      clear hRk
      go_wp2_with fail
      go_ret
      exact ⟨by rw [HK.out]; rfl, rfl⟩
set_option maxHeartbeats 1000000 in
theorem contains_walk (A : Option Addr) (L : List ByteArray) (m c : Nat) (hm : L.length = m) (hb : m ≤ 1000000) (w : World) (hA : LAt w w.heap.size A .string L) :
    Calls Tryz.prog 35 #[.slice A m c, .func (.func 34) #[] #[]] w fun e w' => e = .returned (.bool (longB L)) ∧ w = w' := by
  have HI := Lib.hid (index_walk A L m c hm hb w hA)
  have hg := longAt_ge L 0
  obtain ⟨R, hR⟩ : ∃ R, longAt L 0 = R := ⟨_, rfl⟩
  rw [hR] at HI hg
  have HG : Hid (longB L = decide (0 ≤ R)) := Lib.hid (by
    rw [Bool.eq_iff_iff, decide_eq_true_eq]; exact hg.symm)
  clear hg hR hA hm
  go_enter Tryz.func35, Tryz.ntmps35
  go_wp2_with (first | (go_at_call 68; refine HI.out.mono ?_; rintro e w1 ⟨rfl, rfl⟩) | fail)
  go_ret
  refine ⟨?_, rfl⟩
  rw [HG.out]
  rfl

theorem clone_walk {W : World} {B : Nat} {rv : Value} {l : List ByteArray} (h : OL W B 9 1 (one .string) rv l) (hl : l.length ≤ 1000000) :
    Calls Tryz.prog 36 #[rv] W fun e W' => (∃ v', e = .returned v' ∧ OL W' W.heap.size 9 1 (one .string) v' l) ∧ Below W.heap.size W W' := by
  have h' := h
  rcases h.2 with ⟨rfl, h0⟩ | ⟨g, cap, cur, rfl, hb, hg, hc, hm, hs, ht⟩
  · refine (Tryz.slices_Clone_string_nil 0 0 W).mono ?_
    rintro e W' ⟨rfl, rfl⟩
    have : l = [] := List.eq_nil_of_length_eq_zero h0
    subst this
    exact ⟨⟨_, rfl, OL.nil⟩, Below.refl _ _⟩
  · by_cases hl0 : l.length = 0
    · have : l = [] := List.eq_nil_of_length_eq_zero hl0
      subst this
      refine (Tryz.slices_Clone_string_zero ⟨g, 0, none⟩ cap W).mono ?_
      rintro e W' ⟨v', rfl, h1, -, h2⟩
      exact ⟨⟨v', rfl, h1⟩, h2⟩
    · refine (Tryz.slices_Clone_string g 0 l.length cap l W (Nat.le_refl _) (by omega) (fun k hk => ?_)).mono ?_
      · rw [Nat.zero_add, h'.get hk, List.getD_eq_getElem?_getD, List.getElem?_eq_getElem hk]; rfl
      · rintro e W' ⟨v', rfl, h1, -, h2⟩
        rw [List.take_length] at h1
        refine ⟨⟨v', rfl, ?_⟩, h2⟩
        unfold OL
        rw [flatMap_one]
        exact h1

set_option maxHeartbeats 2000000 in
theorem records_walk {W : World} {G : Nat → Prop} {j d : Nat} {t : TS} {brk : Bool} (h : JAt W G j d t brk) (hl : t.recs.length ≤ 1000000) :
    Calls Tryz.prog 19 #[.pointer (some ⟨j, 0, none⟩)] W fun e W' => (∃ v', e = .returned v' ∧ OL W' W.heap.size 9 1 (one .string) v' t.recs) ∧ Below W.heap.size W W' := by
  obtain ⟨rv, h1, h2, h3, h4⟩ := h
  have c0 := h1.c0
  have HC := Lib.hid (clone_walk h1.own hl)
  clear h1 h2 h3 h4
  go_enter Tryz.func19, Tryz.ntmps19
  go_wp2_with (first | (go_at_call 36; refine HC.out.mono ?_; rintro e w1 ⟨⟨v', rfl, ho⟩, hb⟩) | fail)
  go_ret
  exact ⟨⟨v', rfl, ho⟩, hb⟩
set_option maxHeartbeats 2000000 in
theorem recordsnil_walk (W : World) : Calls Tryz.prog 19 #[.pointer none] W fun e W' => e = .returned (.slice none 0 0) ∧ W = W' := by
  go_enter Tryz.func19, Tryz.ntmps19
  go_wp2_with fail
  go_ret
  exact ⟨rfl, rfl⟩
set_option maxHeartbeats 2000000 in
theorem roomnil_walk (W : World) : Calls Tryz.prog 20 #[.pointer none] W fun e W' => e = .returned (.int .i64 0) ∧ W = W' := by
  go_enter Tryz.func20, Tryz.ntmps20
  go_wp2_with fail
  go_ret
  exact ⟨rfl, rfl⟩
set_option maxRecDepth 100000 in
set_option maxHeartbeats 4000000 in
theorem room_walk {W : World} {G F : Nat → Prop} {j d gd gv n : Nat} {vp : Value} {s : DS} {t : TS} {brk : Bool} (h : JAt W G j d t brk) (hd : DAt W F d gd gv vp n s) (hf : t.size ≤ n) :
    Calls Tryz.prog 20 #[.pointer (some ⟨j, 0, none⟩)] W fun e W' => e = .returned (.int .i64 ((n - t.size : Nat) : Int)) ∧ ∃ k, W' = W.drewN k := by
  obtain ⟨rv, h1, h2, h3, h4⟩ := h
  have c2 := h1.c2
  have c3 : W.cell? ⟨j, 3, none⟩ = some (.pointer (some ⟨d, 0, none⟩)) := h1.ex 0 _ rfl
  have HS := Lib.hid (fun k => (size_walk (hd.drewN k)).mono fun e w' (q : e = .returned (.int .i64 n) ∧ W.drewN k = w') => And.intro q.1 q.2.symm)
  have hn := hd.n64
  obtain ⟨q, hq⟩ : ∃ q, t.size = q := ⟨_, rfl⟩
  rw [hq] at c2 hf ⊢
  obtain ⟨m, hm⟩ : ∃ m, n - q = m := ⟨_, rfl⟩
  rw [hm]
  have w1 : IntKind.i64.wrap ((n : Int) - (q : Int)) = (m : Int) := by rw [IntKind.wrap_i64]; omega
  clear h1 h2 h3 h4 hd hq hm
  go_enter Tryz.func20, Tryz.ntmps20
  go_wp2_with fail
  go_quiet ((go_at_call 51; exact Calls.quiet_of_same (HS.out _)))
  go_wp2_with fail
  go_ret
  exact ⟨rfl, _, rfl⟩
end Go.Proofs.YtllmciiadceinaaGreatDoor
