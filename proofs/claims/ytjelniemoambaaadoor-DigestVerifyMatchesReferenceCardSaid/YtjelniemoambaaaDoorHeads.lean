/-
  Contracts of the laws' heads and of the reference's Same. Conditions: bounds.
-/
import Derived.Test.YtjelniemoambaaaDoorBindA
import Derived.Test.YtjelniemoambaaaDoorLawSplit
import Derived.Laws.MakeOwn
namespace Go.Proofs.YtjelniemoambaaaDoor
open Go Go.RowKit Go.Shelf

def zeroC : Array Value := ((List.replicate 32 (0 : UInt8)).map bv).toArray
theorem mk32 (W : World) : (Instr.makeSlice 46 (.int .i64 32) (.int .i64 32)).run Tryd.prog W = .ok (.slice (some ⟨W.heap.size, 0, none⟩) 32 32) (W.alloc (.cells zeroC 5)) := by kernel_rfl
theorem zero_new (W : World) : RAt (W.alloc (.cells zeroC 5)) W.heap.size bv (List.replicate 32 (0 : UInt8)) := RAt.alloc_new W zeroC _ rfl
theorem zero_conv (W : World) (b : Nat) (h : RAt W b bv (List.replicate 32 (0 : UInt8))) : (Go.convert 46 9 (.slice (some ⟨b, 0, none⟩) 32 32)).run Tryd.prog W = .ok (.string zero32) W :=
  h.convert (P := Tryd.prog) (cap := 32) (by simp) 46 9 5 Tryd.underlying46 Tryd.underlying5 Tryd.underlying9

set_option maxRecDepth 100000 in
set_option maxHeartbeats 8000000 in
theorem heads_walk (A : Option Addr) (l : List ByteArray) (n cap : Nat) (hn : l.length = n) (hl : n ≤ 1000) (hs : ∀ x ∈ l, x.size ≤ 100000) (w : World) (hA : LAt w w.heap.size A .string l) (hK : KAt w) :
    Calls Tryd.prog 38 #[.slice A n cap] w (WayR w (txR l.reverse) (hdR l.reverse)) := by
  have HN := Lib.hid hn
  have HS := Lib.hid hs
  have HA := Lib.hid hA
  have HK := Lib.hid hK
  have hmk := mk32 w
  have hcv := zero_conv (w.alloc (.cells zeroC 5)) w.heap.size (zero_new w)
  clear hn hs hA hK
  go_enter Tryd.func38, Tryd.ntmps38
  go_wp2_with fail
  clear hmk hcv
  go_loopw [4, 5, 6] (fun v4 v5 v6 wr => ∃ (k : Nat) (A5 : Option Addr) (n5 c5 : Nat), k ≤ n ∧ v6 = .int .i64 k ∧ v4 = .string (hdR (l.take k).reverse) ∧ v5 = .slice A5 n5 c5 ∧ n5 = k ∧ n5 ≤ c5 ∧ (A5 = none → c5 = 0) ∧ LAt wr wr.heap.size A5 .string (txR (l.take k).reverse) ∧ Below w.heap.size w wr) (fun _ _ v _ => n - (intOf v).toNat)
  case atStart => exact ⟨0, none, 0, 0, by omega, rfl, rfl, rfl, rfl, Nat.le_refl _, fun _ => rfl, LAt.nil, (Below.refl _ _).alloc (Nat.le_refl _) _⟩
  case round =>
    obtain ⟨k, A5, n5, c5, hk, rfl, rfl, rfl, rfl, hc5, hcn, h5, hb⟩ := hrel
    have HB := Lib.hid hb
    have H5 := Lib.hid h5
    have hbs := hb.size
    clear hb h5
    by_cases hlt : n5 < n
    · have hltL : n5 < l.length := by rw [HN.out]; exact hlt
      have htk := List.take_succ_eq_append_getElem hltL
      obtain ⟨a, rfl, hab, hacw⟩ := HA.out.get hltL
      have hac := (HB.out.cell (p := a.add n5) (by rw [addr_add_block]; exact hab)).trans hacw
      have hxs := HS.out _ (List.getElem_mem hltL)
      obtain ⟨x, hx⟩ : ∃ x, l[n5] = x := ⟨_, rfl⟩
      rw [hx] at hac htk hxs hacw
      have HACW := Lib.hid (And.intro hab hacw)
      have hrev : (l.take (n5 + 1)).reverse = x :: (l.take n5).reverse := by rw [htk]; simp
      have hlen : (txR (l.take n5).reverse).length = n5 := by rw [txR_length, List.length_reverse, List.length_take, HN.out]; omega
      have hhs := hdR_size (l.take n5).reverse
      have hh1 : hdR (l.take (n5 + 1)).reverse = chainS (hdR (l.take n5).reverse) x := by rw [hrev]; rfl
      have ht1 : txR (l.take (n5 + 1)).reverse = chainT (hdR (l.take n5).reverse) x :: txR (l.take n5).reverse := by rw [hrev]; rfl
      obtain ⟨h, hh⟩ : ∃ h, hdR (l.take n5).reverse = h := ⟨_, rfl⟩
      obtain ⟨T, hT⟩ : ∃ T, txR (l.take n5).reverse = T := ⟨_, rfl⟩
      have H5 : Hid (LAt wr wr.heap.size A5 .string T) := by rw [← hT]; exact H5
      rw [hh] at hhs hh1 ht1 ⊢
      rw [hT] at hlen ht1
      have HH1 := Lib.hid hh1
      have HT1 := Lib.hid ht1
      have HTL := Lib.hid hlen
      have HNT := Lib.hid (chainT_eq h x)
      have hadd1 := fun w => strAdd (P := Tryd.prog) ⟨#[2]⟩ h (by show 1 + _ ≤ _; omega) w
      have hadd2 := fun w => strAdd (P := Tryd.prog) (⟨#[2]⟩ ++ h) x (by rw [ba_size_append]; show 1 + _ + _ ≤ _; omega) w
      have d1 : decide (n5 < n) = true := by simp [hlt]
      have z1 : (0 : Int) ≤ (n5 : Int) := by omega
      have z2 : (n5 : Int) < (n : Int) := by omega
      clear hx htk hrev hlen hh1 ht1 hh hT hltL hacw hab
      go_wp2_with (at_builtin; refine wpList_cat rfl (.tmp 22) (.tmp 23) 22 rfl elemStr (fun _ => rfl) _ [(⟨#[2]⟩ : ByteArray) ++ h ++ x] rfl (OL.lit1 (B := w.heap.size) (e := 9) wr _ (by omega)) A5 T n5 c5 HTL.out rfl hcn (H5.out.cats ((Below.refl _ _).alloc (Nat.le_refl _) _)) (fun x _ u hu => by rw [List.mem_singleton.1 hu]; rfl) (by unfold maxLen; simp; omega) (by simp; omega) (by simp; omega) ?_; intro v3 w3 h3 hg3 hb3; have HB3 := Lib.hid ((HB.out.alloc hbs (.cells #[.string (⟨#[2]⟩ ++ h ++ x)] 9)).trans hb3); have hac3 := (HB3.out.cell (p := a.add n5) (by rw [addr_add_block]; exact HACW.out.1)).trans HACW.out.2)
      have H3 := Lib.hid h3
      clear h3 hg3 hb3
      refine (chain_walk h x _ (by omega) (HK.out.below HB3.out)).mono ?_
      rintro e w4 ⟨rfl, hb4⟩
      have hb4' := HB3.out.trans (hb4.mono HB3.out.size)
      have h4 := (H3.out.below hb4 (Nat.le_refl _))
      obtain ⟨g4, c4, rfl, hg4, hg4l, hc4, -⟩ := h4.form (by simp)
      have hl4 : ([(⟨#[2]⟩ : ByteArray) ++ h ++ x] ++ T).length = n5 + 1 := by rw [List.length_append, HTL.out]; simp; omega
      rw [hl4] at hc4 h4 ⊢
      have h4l := h4.lat
      rw [HNT.out] at h4l
      have H4 := Lib.hid h4l
      have HB4 := Lib.hid hb4'
      clear hb4 hb4' h4 hl4 h4l
      go_wp2_with fail
      refine ⟨⟨n5 + 1, some ⟨g4, 0, none⟩, n5 + 1, c4, by omega, by go_num, by rw [HH1.out], rfl, rfl, hc4, (fun h => by cases h), by rw [HT1.out]; exact H4.out, HB4.out⟩, by simp [intOf]; omega⟩
    · have hkn : n5 = n := by omega
      have d1 : decide (n5 < n) = false := by simp; omega
      have htl : l.take n5 = l := List.take_of_length_le (by rw [HN.out]; omega)
      have HTL := Lib.hid htl
      have HH := Lib.hid (show hdR (l.take n5).reverse = hdR l.reverse by rw [htl])
      obtain ⟨h, hh⟩ : ∃ h, hdR (l.take n5).reverse = h := ⟨_, rfl⟩
      have hlen : (txR l.reverse).length = n5 := by rw [txR_length, List.length_reverse, HN.out]; omega
      have HLEN := Lib.hid hlen
      rw [hh]
      have HHH := Lib.hid hh
      clear htl hkn hlen hh
      go_wp2_with fail
      go_ret2
      refine ⟨⟨A5, c5, ?_, by rw [HLEN.out]; exact hc5, hcn, by have := H5.out; rw [HTL.out] at this; exact this⟩, HB.out⟩
      rw [HLEN.out, ← HH.out, HHH.out]; rfl

set_option maxHeartbeats 4000000 in
theorem same_walk (A1 A2 : Option Addr) (a b : List ByteArray) (na nb ca cb : Nat) (hna : a.length = na) (hnb : b.length = nb) (hn9 : na ≤ 9000000) (w : World) (hA1 : LAt w w.heap.size A1 .string a) (hA2 : LAt w w.heap.size A2 .string b) :
    Calls Tryd.prog 18 #[.slice A1 na ca, .slice A2 nb cb] w fun e w' => e = .returned (.bool (decide (a = b))) ∧ Below w.heap.size w w' := by
  obtain ⟨R, hR⟩ : ∃ R, decide (a = b) = R := ⟨_, rfl⟩
  rw [hR]
  have HR := Lib.hid hR
  have HNA := Lib.hid hna
  have HNB := Lib.hid hnb
  have HA1 := Lib.hid hA1
  have HA2 := Lib.hid hA2
  clear hR hna hnb hA1 hA2
  by_cases hab : na = nb
  · subst hab
    have d0 : ((na : Int) == (na : Int)) = true := by simp
    go_enter Tryd.func18, Tryd.ntmps18
    go_wp2_with fail
    go_loopw [5] (fun v5 wr => ∃ k : Nat, k ≤ na ∧ v5 = .int .i64 k ∧ a.take k = b.take k ∧ Below w.heap.size w wr) (fun v _ => na - (intOf v).toNat)
    case atStart => exact ⟨0, by omega, rfl, rfl, Below.refl _ _⟩
    case round =>
      obtain ⟨k, hk, rfl, ht, hb⟩ := hrel
      have HT := Lib.hid ht
      have HB := Lib.hid hb
      clear ht hb
      by_cases hlt : k < na
      · have hka : k < a.length := by rw [HNA.out]; exact hlt
        have hkb : k < b.length := by rw [HNB.out]; exact hlt
        obtain ⟨p1, rfl, -, hc1⟩ := (HA1.out.below HB.out).get hka
        obtain ⟨p2, rfl, -, hc2⟩ := (HA2.out.below HB.out).get hkb
        have hta := List.take_succ_eq_append_getElem hka
        have htb := List.take_succ_eq_append_getElem hkb
        have hxq := List.getElem?_eq_getElem hka
        have hyq := List.getElem?_eq_getElem hkb
        obtain ⟨x, hx⟩ : ∃ x, a[k] = x := ⟨_, rfl⟩
        obtain ⟨y, hy⟩ : ∃ y, b[k] = y := ⟨_, rfl⟩
        rw [hx] at hc1 hta hxq
        rw [hy] at hc2 htb hyq
        have HTA := Lib.hid hta
        have HTB := Lib.hid htb
        have HXQ := Lib.hid hxq
        have HYQ := Lib.hid hyq
        have d1 : decide (k < na) = true := by simp [hlt]
        have z1 : (0 : Int) ≤ (k : Int) := by omega
        have z2 : (k : Int) < (na : Int) := by omega
        clear hx hy hta htb hxq hyq hka hkb
        by_cases hxy : x = y
        · have e1 : (x.toList == y.toList) = true := by rw [hxy]; simp
          have HXY := Lib.hid hxy
          clear hxy
          go_wp2_with fail
          go_quiet (fail)
          go_wp2_with fail
          exact ⟨⟨k + 1, by omega, by go_num, by rw [HTA.out, HTB.out, HT.out, HXY.out], Below.drewN' HB.out nq⟩, by simp [intOf]; omega⟩
        · have e1 : (x.toList == y.toList) = false := by rw [str_eq]; simp [hxy]
          have HXY := Lib.hid hxy
          have hRf : R = false := by
            rw [← HR.out, decide_eq_false_iff_not]
            intro h
            have h1 := HXQ.out
            have h2 := HYQ.out
            rw [h, h2] at h1
            exact HXY.out (Option.some.inj h1).symm
          have HRF := Lib.hid hRf
          clear hxy hRf
          go_wp2_with fail
          go_quiet (fail)
          go_wp2_with fail
          go_ret
          rw [HRF.out]
          exact ⟨rfl, Below.drewN' HB.out nq⟩
      · have d1 : decide (k < na) = false := by simp; omega
        have hRt : R = true := by
          rw [← HR.out, decide_eq_true_eq]
          have h := HT.out
          rw [List.take_of_length_le (by rw [HNA.out]; omega), List.take_of_length_le (by rw [HNB.out]; omega)] at h
          exact h
        have HRT := Lib.hid hRt
        clear hRt
        go_wp2_with fail
        go_ret
        rw [HRT.out]
        exact ⟨rfl, HB.out⟩
  · have d0 : ((na : Int) == (nb : Int)) = false := by simp; omega
    have hRf : R = false := by
      rw [← HR.out, decide_eq_false_iff_not]
      intro h
      rw [h, HNB.out] at HNA
      exact hab HNA.out.symm
    have HRF := Lib.hid hRf
    clear hRf hab
    go_enter Tryd.func18, Tryd.ntmps18
    go_wp2_with fail
    go_ret
    rw [HRF.out]
    exact ⟨rfl, Below.refl _ _⟩

end Go.Proofs.YtjelniemoambaaaDoor
