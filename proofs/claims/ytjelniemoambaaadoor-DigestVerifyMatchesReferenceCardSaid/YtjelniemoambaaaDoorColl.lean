/-
  Contract of the binding laws' collide. Conditions: bounds.
-/
import Derived.Test.YtjelniemoambaaaDoorLawB
import Derived.Test.YtjelniemoambaaaDoorLawSplit
import Derived.Test.YtjelniemoambaaaDoorBindP
namespace Go.Proofs.YtjelniemoambaaaDoor
open Go Go.RowKit Go.Shelf

set_option maxRecDepth 100000 in
set_option maxHeartbeats 8000000 in
theorem collide_walk (A1 A2 : Option Addr) (a b : List ByteArray) (na nb ca cb : Nat) (hna : a.length = na) (hnb : b.length = nb) (ha9 : na ≤ 9000000) (hb9 : nb ≤ 9000000) (hsa : ∀ x ∈ a, x.size ≤ 999000) (hsb : ∀ x ∈ b, x.size ≤ 999000) (w : World) (hA1 : LAt w w.heap.size A1 .string a) (hA2 : LAt w w.heap.size A2 .string b) (hK : KAt w) :
    Calls Tryd.prog 27 #[.slice A1 na ca, .slice A2 nb cb] w fun e w' => e = .returned (.bool (collB a b)) ∧ Below w.heap.size w w' := by
  obtain ⟨R, hR⟩ : ∃ R, collB a b = R := ⟨_, rfl⟩
  rw [hR]
  have HR := Lib.hid hR
  have HNA := Lib.hid hna
  have HNB := Lib.hid hnb
  have HSA := Lib.hid hsa
  have HSB := Lib.hid hsb
  have hst : LawSt w [(A1, a), (A2, b)] w := ⟨fun x hx => by rcases List.mem_cons.1 hx with rfl | hx; (· exact hA1); (· rw [List.mem_singleton.1 hx]; exact hA2), hK, Below.refl _ _⟩
  have HST := Lib.hid hst
  clear hR hna hnb hsa hsb hA1 hA2 hK hst
  go_enter Tryd.func27, Tryd.ntmps27
  go_wp2_with fail
  go_loopw [5] (fun v5 wr => ∃ k : Nat, k ≤ na ∧ k ≤ nb ∧ v5 = .int .i64 k ∧ R = collB (a.drop k) (b.drop k) ∧ LawSt w [(A1, a), (A2, b)] wr) (fun v _ => na - (intOf v).toNat)
  case atStart => exact ⟨0, by omega, by omega, rfl, by rw [← HR.out]; rfl, HST.out⟩
  case round =>
    clear HST HR
    obtain ⟨k, hka, hkb, rfl, hR, hst⟩ := hrel
    have HST := Lib.hid hst
    have HR := Lib.hid hR
    clear hst hR
    by_cases hk1 : k < na
    · by_cases hk2 : k < nb
      · have hka' : k < a.length := by rw [HNA.out]; exact hk1
        have hkb' : k < b.length := by rw [HNB.out]; exact hk2
        obtain ⟨p1, rfl, -, hc1⟩ := (HST.out.l (A1, a) (by simp)).get hka'
        obtain ⟨p2, rfl, -, hc2⟩ := (HST.out.l (A2, b) (by simp)).get hkb'
        have hda := List.drop_eq_getElem_cons hka'
        have hdb := List.drop_eq_getElem_cons hkb'
        have hxs := HSA.out _ (List.getElem_mem hka')
        have hys := HSB.out _ (List.getElem_mem hkb')
        have hxq := List.getElem?_eq_getElem hka'
        have hyq := List.getElem?_eq_getElem hkb'
        obtain ⟨x, hx⟩ : ∃ x, a[k] = x := ⟨_, rfl⟩
        obtain ⟨y, hy⟩ : ∃ y, b[k] = y := ⟨_, rfl⟩
        rw [hx] at hc1 hda hxs hxq
        rw [hy] at hc2 hdb hys hyq
        have HXQ := Lib.hid hxq
        have HYQ := Lib.hid hyq
        have hR : R = ((decide (x ≠ y) && decide (shaB x = shaB y)) || collB (a.drop (k + 1)) (b.drop (k + 1))) := by rw [HR.out, hda, hdb]; rfl
        have HRN := Lib.hid hR
        have d1 : decide (k < na) = true := by simp [hk1]
        have d2 : decide (k < nb) = true := by simp [hk2]
        have z1 : (0 : Int) ≤ (k : Int) := by omega
        have z2 : (k : Int) < (na : Int) := by omega
        have z3 : (k : Int) < (nb : Int) := by omega
        clear hR hda hdb hx hy hxq hyq
        by_cases hxy : x = y
        · have e1 : (x.toList == y.toList) = true := by rw [hxy]; simp
          have HXY := Lib.hid hxy
          clear hxy
          go_wp2_with fail
          go_quiet (fail)
          go_wp2_with fail
          exact ⟨⟨k + 1, by omega, by omega, by go_num, by rw [HRN.out]; simp [HXY.out], LawSt.below HST.out (Below.drewN' (Below.refl _ _) nq)⟩, by simp [intOf]; omega⟩
        · have e1 : (x.toList == y.toList) = false := by rw [str_eq]; simp [hxy]
          have HXY := Lib.hid hxy
          have C := Lib.hid (show ∀ (u : ByteArray) W, u.size ≤ 999000 → LawSt w [(some p1, a), (some p2, b)] W → Calls Tryd.prog 30 #[.string u] W fun e W' => e = .returned (.string (shaB u)) ∧ LawSt w [(some p1, a), (some p2, b)] W' from fun u W hu h => h.sum u (by omega))
          have HC := Lib.hid (show ∀ W, LawSt w [(some p1, a), (some p2, b)] W → LawSt w [(some p1, a), (some p2, b)] W ∧ W.cell? (p1.add k) = some (.string x) ∧ W.cell? (p2.add k) = some (.string y) from fun W h => by
            obtain ⟨q1, e1, -, r1⟩ := h.l (some p1, a) (by simp) k x HXQ.out
            obtain ⟨q2, e2, -, r2⟩ := h.l (some p2, b) (by simp) k y HYQ.out
            cases e1; cases e2
            exact ⟨h, r1, r2⟩)
          have HL := Lib.hid (show ∀ W, (LawSt w [(some p1, a), (some p2, b)] W ∧ W.cell? (p1.add k) = some (.string x) ∧ W.cell? (p2.add k) = some (.string y)) → LawSt w [(some p1, a), (some p2, b)] W from fun W h => h.1)
          have hS0 := HC.out _ (LawSt.drew HST.out)
          clear hxy hc1 hc2
          by_cases hsh : shaB x = shaB y
          · have q1 : ((shaB x).toList == (shaB y).toList) = true := by rw [str_eq]; simp [hsh]
            have HSH := Lib.hid hsh
            clear hsh
            go_wp2_with fail
            go_region_held3 (fun w' => LawSt w [(some p1, a), (some p2, b)] w' ∧ w'.cell? (p1.add k) = some (.string x) ∧ w'.cell? (p2.add k) = some (.string y)) (first | assumption | exact HC.out _ (by assumption) | fail)
              (first
                | (go_at_call 30; (with_reducible refine (C.out x _ hxs ?_).mono ?_); (· exact HL.out _ (by assumption)); rintro e W ⟨rfl, hstW⟩)
                | (go_at_call 30; (with_reducible refine (C.out y _ hys ?_).mono ?_); (· exact HL.out _ (by assumption)); rintro e W ⟨rfl, hstW⟩)
                | fail)
            all_goals
              go_wp2_with fail
              go_ret
              rw [show R = true by rw [HRN.out, HSH.out]; simp [HXY.out]]; exact ⟨rfl, LawSt.b (by assumption)⟩
          · have q1 : ((shaB x).toList == (shaB y).toList) = false := by rw [str_eq]; simp [hsh]
            have HSH := Lib.hid hsh
            clear hsh
            go_wp2_with fail
            go_region_held3 (fun w' => LawSt w [(some p1, a), (some p2, b)] w' ∧ w'.cell? (p1.add k) = some (.string x) ∧ w'.cell? (p2.add k) = some (.string y)) (first | assumption | exact HC.out _ (by assumption) | fail)
              (first
                | (go_at_call 30; (with_reducible refine (C.out x _ hxs ?_).mono ?_); (· exact HL.out _ (by assumption)); rintro e W ⟨rfl, hstW⟩)
                | (go_at_call 30; (with_reducible refine (C.out y _ hys ?_).mono ?_); (· exact HL.out _ (by assumption)); rintro e W ⟨rfl, hstW⟩)
                | fail)
            all_goals
              go_wp2_with fail
              exact ⟨⟨k + 1, by omega, by omega, by go_num, by rw [HRN.out]; simp [HSH.out], by assumption⟩, by simp [intOf]; omega⟩
      · have hkq : k = nb := by omega
        have hR : R = false := by rw [HR.out, List.drop_of_length_le (l := b) (by rw [HNB.out]; omega)]; exact collB_nil' _
        have HRN := Lib.hid hR
        have d1 : decide (k < na) = true := by simp [hk1]
        have d2 : decide (k < nb) = false := by simp; omega
        clear hkq hR
        go_wp2_with fail
        go_ret
        rw [HRN.out]; exact ⟨rfl, HST.out.b⟩
    · have hR : R = false := by rw [HR.out, List.drop_of_length_le (l := a) (by rw [HNA.out]; omega)]; exact collB_nil _
      have HRN := Lib.hid hR
      have d1 : decide (k < na) = false := by simp; omega
      clear hR
      go_wp2_with fail
      go_ret
      rw [HRN.out]; exact ⟨rfl, HST.out.b⟩

end Go.Proofs.YtjelniemoambaaaDoor
