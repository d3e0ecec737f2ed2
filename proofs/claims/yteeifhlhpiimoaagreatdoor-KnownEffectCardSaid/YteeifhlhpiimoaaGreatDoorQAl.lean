/-
  Contract of yardstickref03's divided. Conditions: the divisor is not 0; at most 1000 digits. Contracts of yardstickref03's text, checked, FromInt. Conditions: at most 1000 digits. Contracts of yardstickref03's checked, FromInt. Conditions: at most 200 digits; numbers of at most 18 digits. Contract of yardstickref03's digits at decimal texts. Conditions: at most 200 digits. Contract of yardstickref03's Valid. Conditions: at most 1000000 bytes. Contracts of yardstickref03's Compare, Gcd, Div at decimal texts. Conditions: at most 200 digits; the divisor divides. Contracts of yardstickref03's Gcd, Div (where the divisor divides). Conditions: at most 200 digits.
-/
import Derived.Test.YteeifhlhpiimoaaGreatDoorQAk
import Derived.Test.YteeifhlhpiimoaaGreatDoorQAe
import Derived.Test.YteeifhlhpiimoaaGreatDoorQAi
import Derived.Test.YteeifhlhpiimoaaGreatDoorQAc
import Derived.Test.YteeifhlhpiimoaaGreatDoorQAd
section
namespace Go.Proofs.YteeifhlhpiimoaaGreatDoor
open Go Go.RowKit Go.Shelf
attribute [local go_sem] Oper.semAt_some
def QuoP (w : World) (q r : Nat) (e : Ending) (w' : World) : Prop := ∃ vq vr, e = .returned (.tuple #[vq, vr]) ∧ LsAt w' vq (dg q) ∧ LsAt w' vr (dg r) ∧ Fresh w.heap.size vq ∧ Fresh w.heap.size vr ∧ Below w.heap.size w w'
theorem mkInts (n : Nat) (hn : n ≤ 1000000) (w : World) : (Instr.makeSlice 23 (.int .i64 (n : Int)) (.int .i64 (n : Int))).run Tryz.prog w = .ok (.slice (some ⟨w.heap.size, 0, none⟩) n n) (w.alloc (.cells (madeCells #[.int .i64 0] n) 3)) :=
  run_make_row' (P := Tryz.prog) 23 3 (.int .i64 0) 8 Tryz.underlying23 (by kernel_rfl) rfl .i64 .i64 n (by omega) (by omega) w
theorem made_ol (n : Nat) (hn : n ≤ 1000000) (w : World) : IntL (w.alloc (.cells (madeCells #[.int .i64 0] n) 3)) w.heap.size (.slice (some ⟨w.heap.size, 0, none⟩) n n) (List.replicate n 0) := by
  have hs : (madeCells #[.int .i64 0] n).size = n := by have := congrArg List.length (made_nums n); simpa using this
  refine ⟨by rw [flatMap_one]; simp, .inr ⟨w.heap.size, n, _, by simp, Nat.le_refl _, World.alloc_heap_new w _, by simp, by unfold maxLen; omega, by rw [hs]; omega, ?_⟩⟩
  rw [made_nums, flatMap_one, List.take_of_length_le (by simp)]
theorem OL.storedN {w : World} {B g n c : Nat} {l : List Nat} (h : IntL w B (.slice (some ⟨g, 0, none⟩) n c) l) (j u : Nat) : IntL (w.setCell ⟨g, j, none⟩ (.int .i64 (u : Int))) B (.slice (some ⟨g, 0, none⟩) n c) (l.set j u) := by
  have hn := h.len.1
  subst hn
  have h1 := (World.ownsRow.stored h j (nv u)).1
  unfold IntL OL
  rw [List.length_set, flatMap_one, List.map_set, ← flatMap_one]
  exact h1
theorem set_mid {m : Nat} {c d : Nat} {qs : List Nat} : (List.replicate m 0 ++ c :: qs).set m d = List.replicate m 0 ++ d :: qs := by
  rw [List.set_append_right _ _ (by simp)]; simp
theorem get_mid {m : Nat} {c : Nat} {qs : List Nat} : (List.replicate m 0 ++ c :: qs)[m]? = some c := by
  rw [List.getElem?_append_right (by simp)]; simp
theorem row_mid {w : World} {B g n m q : Nat} {qs : List Nat} (h : IntL w B (.slice (some ⟨g, 0, none⟩) n n) (List.replicate m 0 ++ q :: qs)) : w.cell? ⟨g, m, none⟩ = some (.int .i64 (q : Int)) ∧ w.frozen? ⟨g, m, none⟩ = false :=
  ⟨h.getq get_mid, World.ownsRow.frozenAt (cap := n) (by have := h.len.1; subst this; exact h) m⟩
def toTen (w : World) (g m : Nat) : Nat := match w.cell? ⟨g, m, none⟩ with | some (.int _ z) => 10 - z.toNat | _ => 0
theorem toTen_of {w : World} {g m c : Nat} (h : w.cell? ⟨g, m, none⟩ = some (.int .i64 (c : Int))) : toTen w g m = 10 - c := by unfold toTen; rw [h]; simp
theorem drop_dv {x m d : Nat} (h : (dg x)[m]? = some d) : dv ((dg x).drop m) = d + 10 * dv ((dg x).drop (m + 1)) := by
  obtain ⟨h1, h2⟩ := List.getElem?_eq_some_iff.1 h
  rw [List.drop_eq_getElem_cons h1, h2, dv]
set_option maxRecDepth 100000 in
set_option maxHeartbeats 4000000 in
theorem rdivided_walk (x y : Nat) (hy : 0 < y) (v1 v2 : Value) (w : World) (h1 : LsAt w v1 (dg x)) (h2 : LsAt w v2 (dg y)) (hx : (dg x).length ≤ 1000) (hyl : (dg y).length ≤ 1000) :
    Calls Tryz.prog 220 #[v1, v2] w (QuoP w (x / y) (x % y)) := by
  obtain ⟨A, c, rfl, hc1, hc2, hc3, hA⟩ := h1
  have H2 := Lib.hid h2
  have HA := Lib.hid hA
  obtain ⟨n, hn⟩ : ∃ n, (dg x).length = n := ⟨_, rfl⟩
  have HN := Lib.hid hn
  rw [hn] at hx ⊢
  have HN1 := Lib.hid hx
  have HY := Lib.hid hy
  have HYL := Lib.hid hyl
  obtain ⟨g, hg⟩ : ∃ g, w.heap.size = g := ⟨_, rfl⟩
  have hol := made_ol n (by omega) w
  have hmk := mkInts n (by omega) w
  obtain ⟨W1, hW1⟩ : ∃ W1, w.alloc (.cells (madeCells #[.int .i64 0] n) 3) = W1 := ⟨_, rfl⟩
  have hb1 : Below w.heap.size w W1 := by rw [← hW1]; exact below_new w _
  have hs1 : W1.heap.size = w.heap.size + 1 := by rw [← hW1]; exact World.size_alloc w _
  rw [hW1] at hol hmk
  rw [hg] at hol hmk hb1 hs1
  have HOL1 := Lib.hid hol
  have HB1 := Lib.hid hb1
  have HS1 := Lib.hid hs1
  have HG := Lib.hid hg
  obtain ⟨z, hz⟩ : ∃ z, IntKind.i64.wrap ((n : Int) - 1) = z := ⟨_, rfl⟩
  have hzz : z = (n : Int) - 1 := by rw [← hz, IntKind.wrap_i64]; omega
  have HZ := Lib.hid hzz
  clear hzz hn hA h2 hc1 hc2 hc3 hx hy hyl hol hW1 hb1 hs1 hg
  go_enter Tryz.func220, Tryz.ntmps220
  go_wp2_with fail
  clear hmk
  go_loopw [7, 8] (fun rv iv wr => ∃ (k : Nat) (qs : List Nat) (R : Nat), iv = .int .i64 ((k : Int) - 1) ∧ k ≤ n ∧ Hid (IntL wr g (.slice (some ⟨g, 0, none⟩) n n) (List.replicate k 0 ++ qs)) ∧ Hid (Dgs qs ∧ dv qs * y + R = dv ((dg x).drop k) ∧ R < y) ∧ Hid (LsAt wr rv (dg R) ∧ Fresh (g + 1) rv) ∧ Hid (Below g w wr ∧ g < wr.heap.size)) (fun _ i _ => (intOf i + 1).toNat)
  case atStart => exact ⟨n, [], 0, by rw [HZ.out], Nat.le_refl _, Lib.hid (by rw [List.append_nil]; exact HOL1.out), Lib.hid ⟨fun d hd => (by cases hd), by rw [List.drop_of_length_le (by rw [HN.out]; omega)]; simp [dv], HY.out⟩, Lib.hid ⟨by rw [dg_zero]; exact LsAt.nil _, Fresh.nil _⟩, Lib.hid ⟨HB1.out, by rw [HS1.out]; omega⟩⟩
  case round =>
    clear HOL1 HB1 HS1 HZ hz
    obtain ⟨k, qs, R, rfl, hk, HOL, HI, HR, HBB⟩ := hrel
    rcases Nat.eq_zero_or_pos k with rfl | h0
    · have d1 : decide ((0 : Int) ≤ ((0 : Nat) : Int) - 1) = false := by decide
      have hI := HI.out
      rw [List.drop_zero, dv_dg] at hI
      have hq : dv qs = x / y := by rw [← hI.2.1, Nat.mul_comm, Nat.mul_add_div HY.out, Nat.div_eq_of_lt hI.2.2]; omega
      have hr : R = x % y := by rw [← hI.2.1, Nat.mul_comm, Nat.mul_add_mod, Nat.mod_eq_of_lt hI.2.2]
      have HQ := Lib.hid hq
      have HRR := Lib.hid hr
      have hol := HOL.out
      rw [List.replicate_zero, List.nil_append] at hol
      have hl := hol.len.1
      have HOLQ := Lib.hid hol
      have hls := LsAt.of_ol hol
      obtain ⟨A', c', e', q1, q2, q3, q4⟩ := hls
      injection e' with e1 e2 e3
      subst e1 e3
      have HT := Lib.hid (rtrim_walk (some ⟨g, 0, none⟩) n qs n e2.symm (by omega) q2 q3 wr q4 hI.1)
      have HF := Lib.hid hol.fresh
      clear hI hq hr hol hl q1 q2 q3 q4 e2 HOL HI
      go_wp2_with (first
        | (go_at_call 257; refine HT.out.mono ?_; rintro e w2 ⟨⟨v2, rfl, hv2, hf2⟩, rfl⟩; have HV2 := Lib.hid hv2; have HF2 := Lib.hid hf2; clear hv2 hf2)
        | fail)
      go_ret2
      exact ⟨_, _, rfl, by rw [← HQ.out]; exact HV2.out, by rw [← HRR.out]; exact HR.out.1, by rw [HG.out]; exact HF2.out _ HF.out, by rw [HG.out]; exact HR.out.2.base (by omega), by rw [HG.out]; exact HBB.out.1⟩
    · obtain ⟨m, rfl⟩ : ∃ m, k = m + 1 := ⟨k - 1, by omega⟩
      have e1 : ((m + 1 : Nat) : Int) - 1 = (m : Int) := by omega
      rw [e1]
      have hm : m < (dg x).length := by rw [HN.out]; omega
      obtain ⟨p, rfl, hpb, hpc⟩ := HA.out.get hm
      unfold nv at hpc
      obtain ⟨d, hd⟩ : ∃ d, (dg x)[m] = d := ⟨_, rfl⟩
      rw [hd] at hpc
      have HX : Hid ((dg x)[m]? = some d) := Lib.hid (by rw [← hd]; exact List.getElem?_eq_getElem hm)
      have hd9 : d < 10 := dg_dgs x d (List.mem_of_getElem? HX.out)
      have hpc2 : wr.cell? (p.add m) = some (.int .i64 d) := (HBB.out.1.cell (p := p.add m) (by rw [addr_add_block, ← HG.out]; exact hpb)).trans hpc
      have d1 : decide ((0 : Int) ≤ (m : Int)) = true := by simp
      have z1 : (0 : Int) ≤ (m : Int) := by omega
      have z2 : (m : Int) < (n : Int) := by omega
      obtain ⟨z', hz'⟩ : ∃ z', IntKind.i64.wrap ((m : Int) - 1) = z' := ⟨_, rfl⟩
      have hzz : z' = (m : Int) - 1 := by have := HN1.out; rw [← hz', IntKind.wrap_i64]; omega
      have HZ' := Lib.hid hzz
      obtain ⟨T, hT⟩ : ∃ T, d + 10 * R = T := ⟨_, rfl⟩
      have HT : Hid (T < 10 * y ∧ dv (d :: dg R) = T ∧ dv ((dg x).drop m) = dv qs * y * 10 + T) := Lib.hid ⟨by have := HI.out.2.2; omega, by rw [dv, dv_dg]; exact hT, by rw [drop_dv HX.out, ← HI.out.2.1]; omega⟩
      have HD : Hid (Dgs (d :: dg R)) := Lib.hid fun q hq => by
        rcases List.mem_cons.1 hq with rfl | hq
        · exact hd9
        · exact dg_dgs R q hq
      have HOLm : Hid (IntL wr g (.slice (some ⟨g, 0, none⟩) n n) (List.replicate m 0 ++ 0 :: qs)) := Lib.hid (by
        have := HOL.out
        rwa [List.replicate_succ', List.append_assoc] at this)
      have HMN : Hid (m < n) := Lib.hid (by omega)
      have hRl : (dg R).length ≤ 1000 := Nat.le_trans (dg_len_mono (Nat.le_of_lt HI.out.2.2)) HYL.out
      have HRL := Lib.hid hRl
      obtain ⟨Ar, cr, rfl, r1, r2, r3, r4⟩ := HR.out.1
      have HAR := Lib.hid r4
      obtain ⟨rl, hrl⟩ : ∃ rl, (dg R).length = rl := ⟨_, rfl⟩
      have HRLN := Lib.hid hrl
      rw [hrl]
      clear hpc hpb hd hm hzz hT e1 hRl r1 r2 r4 HOL hrl
      go_wp2_with (first
        | (at_builtin; refine wpList_cat rfl (.tmp 23) (.tmp 24) 23 rfl elemInt (fun _ => rfl) _ [d] rfl (OL.lit1N (B := wr.heap.size) wr d (Nat.le_refl _)) Ar (dg R) rl cr HRLN.out rfl r3 (HAR.out.catN (below_new wr _)) (fun x _ u hu => by rw [List.mem_singleton.1 hu]; rfl) (by have := HRL.out; have := HRLN.out; unfold maxLen; simp; omega) (by have := HRL.out; have := HRLN.out; simp; omega) (by simp) ?_; intro v3 w3 h3 _ hb3; have HB3 := Lib.hid ((below_new wr _).trans hb3); have HO3 := Lib.hid h3; clear h3 hb3)
        | fail)
      obtain ⟨A3, c3, rfl, q1, q2, q3, q4⟩ := LsAt.of_ol HO3.out
      have HTR := Lib.hid (rtrim_walk A3 c3 _ _ rfl q1 q2 q3 w3 q4 HD.out)
      have HF3 := Lib.hid HO3.out.fresh
      obtain ⟨l3, hl3⟩ : ∃ l3, ([d] ++ dg R).length = l3 := ⟨_, rfl⟩
      rw [hl3]
      have HL3 := Lib.hid hl3
      clear q1 q2 q3 q4 hl3
      go_wp2_with (first
        | (go_at_call 257; refine (show Calls _ _ #[.slice A3 l3 c3] w3 _ from by rw [← HL3.out]; exact HTR.out).mono ?_; rintro e w4 ⟨⟨v4, rfl, hv4, hf4⟩, rfl⟩; have HV4 := Lib.hid hv4; have HF4 := Lib.hid hf4; clear hv4 hf4)
        | fail)
      have HR4 : Hid (LsAt w4 v4 (dg T) ∧ Fresh (g + 1) v4) := Lib.hid ⟨by have := HV4.out; rw [List.singleton_append, HT.out.2.1] at this; exact this, (HF4.out _ HF3.out).base HBB.out.2⟩
      have HO4 : Hid (IntL w4 g (.slice (some ⟨g, 0, none⟩) n n) (List.replicate m 0 ++ 0 :: qs)) := Lib.hid (HOLm.out.below HB3.out (Nat.le_refl _))
      have HB4 : Hid (Below g w w4 ∧ g < w4.heap.size) := Lib.hid ⟨HBB.out.1.trans (HB3.out.mono (Nat.le_of_lt HBB.out.2)), Nat.lt_of_lt_of_le HBB.out.2 HB3.out.size⟩
      clear HV4 HF4 HF3 HB3 HO3 HTR HBB HOLm HR HAR HRL HRLN r3 HL3 hpc2
      go_loopw [7] (fun rv wr => ∃ (vv : Value) (q R' : Nat), vv = rv ∧ R' + q * y = T ∧ Hid (IntL wr g (.slice (some ⟨g, 0, none⟩) n n) (List.replicate m 0 ++ q :: qs)) ∧ Hid (LsAt wr rv (dg R') ∧ Fresh (g + 1) rv) ∧ Hid (Below g w wr ∧ g < wr.heap.size)) (fun _ wr => toTen wr g m)
      case atStart => exact ⟨v4, 0, T, rfl, by omega, HO4.out, HR4.out, HB4.out⟩
      case round =>
        clear HO4 HR4 HB4
        obtain ⟨rv, q, R', rfl, hq, HO, HR, HB⟩ := hrel
        have H2r := Lib.hid (H2.out.below (by have := HB.out.1; rwa [← HG.out] at this))
        have HQT := Lib.hid hq
        have hq9 : q < 10 := by
          rcases Nat.lt_or_ge q 10 with h | h
          · exact h
          · have := Nat.mul_le_mul_right y h
            have := HT.out.1
            omega
        have HQ9 := Lib.hid hq9
        clear hq hq9
        by_cases hlt : R' < y
        · have HORD : Hid (Calls Tryz.prog 218 #[rv, v2] wr (IntV wr (-1))) := Lib.hid (by rw [← ordZ_lt hlt]; exact rorder_walk R' y rv v2 wr HR.out.1 H2r.out)
          have d2 : decide ((0 : Int) ≤ -1) = false := by decide
          have HLT := Lib.hid hlt
          clear hlt
          go_wp2_with (first
            | (go_at_call 218; refine HORD.out.mono ?_; rintro e w5 ⟨rfl, hb5⟩; have HB5 := Lib.hid hb5; clear hb5)
            | fail)
          go_roundw
          case rel => exact ⟨m, q :: qs, R', by rw [HZ'.out], by have := HMN.out; omega, Lib.hid (HO.out.below HB5.out (Nat.le_refl _)),
            Lib.hid ⟨fun a ha => (by rcases List.mem_cons.1 ha with rfl | ha; exact HQ9.out; exact HI.out.1 a ha), by rw [HT.out.2.2, ← HQT.out, dv, Nat.add_mul, Nat.mul_assoc 10, Nat.mul_comm 10]; omega, HLT.out⟩,
            Lib.hid ⟨HR.out.1.below HB5.out, HR.out.2⟩, Lib.hid ⟨HB.out.1.trans (HB5.out.mono (Nat.le_of_lt HB.out.2)), Nat.lt_of_lt_of_le HB.out.2 HB5.out.size⟩⟩
          case measure => rw [HZ'.out]; simp [intOf]
        · have hle : y ≤ R' := by omega
          have hz0 : 0 ≤ ordZ R' y := by unfold ordZ; rw [if_neg hlt]; split <;> omega
          obtain ⟨zz, hzz⟩ : ∃ zz, ordZ R' y = zz := ⟨_, rfl⟩
          rw [hzz] at hz0
          have HORD : Hid (Calls Tryz.prog 218 #[rv, v2] wr (IntV wr zz)) := Lib.hid (by rw [← hzz]; exact rorder_walk R' y rv v2 wr HR.out.1 H2r.out)
          have d2 : decide ((0 : Int) ≤ zz) = true := by simp [hz0]
          have HLE := Lib.hid hle
          have HRl : Hid ((dg R').length ≤ 100000) := Lib.hid (by
            have h1 := HT.out.1
            have h2 : R' ≤ T := by have := HQT.out; omega
            have h3 := dv_lt (dg_dgs y)
            rw [dv_dg] at h3
            have h4 := HYL.out
            have : (dg R').length ≤ (dg y).length + 1 := dg_len_le (by rw [Nat.pow_succ]; omega)
            omega)
          have wq : IntKind.i64.wrap ((q : Int) + 1) = ((q + 1 : Nat) : Int) := by have := HQ9.out; rw [IntKind.wrap_i64]; omega
          clear hlt hle hz0 hzz
          go_wp2_with (first
            | (go_at_call 218; refine HORD.out.mono ?_; rintro e w5 ⟨rfl, hb5⟩; have HB5 := Lib.hid hb5; clear hb5; have HM := Lib.hid (rminus_walk R' y HLE.out rv v2 w5 (HR.out.1.below HB5.out) (H2r.out.below HB5.out) HRl.out))
            | (go_at_call 223; refine HM.out.mono ?_; rintro e w6 ⟨v6, rfl, hv6, hf6, hb6⟩; have HV6 := Lib.hid hv6; have HF6 := Lib.hid hf6; have HB6 := Lib.hid (HB5.out.trans (hb6.mono HB5.out.size)); clear hb6 hv6 hf6; have HO6 := Lib.hid (HO.out.below HB6.out (Nat.le_refl _)); obtain ⟨x1, x2⟩ := row_mid HO6.out)
            | fail)
          have HO7 := Lib.hid (HO6.out.storedN m (q + 1))
          go_roundw
          case rel => exact ⟨_, q + 1, R' - y, rfl, by have := HLE.out; have := HQT.out; rw [Nat.add_mul]; omega, Lib.hid (by have := HO7.out; rwa [set_mid] at this),
            Lib.hid ⟨LsAt.set HV6.out (B := g + 1) (HF6.out.base (by have := HB.out.2; have := HB5.out.size; omega)) ⟨g, m, none⟩ (Nat.lt_succ_self g) _, HF6.out.base (by have := HB.out.2; have := HB5.out.size; omega)⟩,
            Lib.hid ⟨(HB.out.1.trans (HB6.out.mono (Nat.le_of_lt HB.out.2))).setCell (Nat.le_refl _) _, by simp [World.setCell]; exact Nat.lt_of_lt_of_le HB.out.2 HB6.out.size⟩⟩
          case measure =>
            rw [toTen_of (row_mid HO.out).1, toTen_of (c := q + 1) (by have h := HO7.out; rw [set_mid] at h; exact (row_mid h).1)]
            have := HQ9.out; omega
end Go.Proofs.YteeifhlhpiimoaaGreatDoor
end
section
namespace Go.Proofs.YteeifhlhpiimoaaGreatDoor
open Go Go.RowKit Go.Shelf
attribute [local go_sem] Oper.semAt_some
theorem elemU : Elem Tryz.prog 116 5 1 1 := Elem.mk' (z := .int .u8 0) Tryz.underlying116 (by kernel_rfl) rfl (by decide)
theorem digB_val {d : Nat} (h : d < 10) : bv (digB d) = .int .u8 ((48 + d : Nat) : Int) := by unfold bv digB; rw [toNat_dig h]
def txtL (neg : Bool) (n : Nat) : List UInt8 := if n = 0 then [48] else (if neg then [45] else []) ++ decS n
def txtB (neg : Bool) (n : Nat) : ByteArray := ⟨(txtL neg n).toArray⟩
theorem txt_int (z : Int) : txtL (decide (z < 0)) z.natAbs = intS z := by
  unfold txtL intS
  by_cases h0 : z.natAbs = 0
  · rw [if_pos h0, if_neg (by omega), h0, decS_lt (by decide)]; rfl
  · rw [if_neg h0]
    by_cases h : z < 0
    · simp [h]
    · simp [h]
def TxP (w : World) (neg : Bool) (n : Nat) (e : Ending) (w' : World) : Prop := e = .returned (.tuple #[.string (txtB neg n), .bool (decide ((dg n).length ≤ 200))]) ∧ Below w.heap.size w w'
theorem up_step {n m d : Nat} {pre : List UInt8} (h : (dg n)[m]? = some d) : pre ++ (((dg n).drop m).map digB).reverse = (pre ++ (((dg n).drop (m + 1)).map digB).reverse) ++ [digB d] := by
  obtain ⟨h1, h2⟩ := List.getElem?_eq_some_iff.1 h
  rw [List.drop_eq_getElem_cons h1, h2, List.map_cons, List.reverse_cons, List.append_assoc]
set_option maxRecDepth 100000 in
set_option maxHeartbeats 4000000 in
theorem rtext_walk (neg : Bool) (n : Nat) (v : Value) (w : World) (h : LsAt w v (dg n)) (hl : (dg n).length ≤ 1000) : Calls Tryz.prog 155 #[.bool neg, v] w (TxP w neg n) := by
  obtain ⟨A, c, rfl, hc1, hc2, hc3, hA⟩ := h
  have HA := Lib.hid hA
  obtain ⟨k, hk⟩ : ∃ k, (dg n).length = k := ⟨_, rfl⟩
  have HK := Lib.hid hk
  rw [hk] at hl ⊢
  have HKL := Lib.hid hl
  unfold TxP
  rw [hk]
  clear hA hc1 hc2 hc3 hl
  rcases Nat.eq_zero_or_pos n with rfl | h0
  · obtain rfl : k = 0 := by rw [← hk, dg_zero]; rfl
    clear hk
    have e : txtB neg 0 = ⟨#[48]⟩ := rfl
    rw [e]
    go_enter Tryz.func155, Tryz.ntmps155
    go_wp2
    go_ret2
    exact ⟨rfl, Below.refl _ _⟩
  · have hk0 : 0 < k := by rw [← hk, dg_pos h0]; simp
    clear hk
    obtain ⟨pre, hpre⟩ : ∃ pre : List UInt8, pre = (if neg then [45] else []) := ⟨_, rfl⟩
    have htx : txtB neg n = ⟨(pre ++ ((dg n).map digB).reverse).toArray⟩ := by
      unfold txtB txtL; rw [if_neg (by omega), decS_dg h0, hpre]
    rw [htx]
    have hpl : pre.length ≤ 1 := by rw [hpre]; split <;> simp
    have HPL := Lib.hid hpl
    obtain ⟨z, hz⟩ : ∃ z, IntKind.i64.wrap ((k : Int) - 1) = z := ⟨_, rfl⟩
    have hzz : z = (k : Int) - 1 := by have := HKL.out; rw [← hz, IntKind.wrap_i64]; omega
    have HZ := Lib.hid hzz
    have d0 : ((k : Int) == 0) = false := by simp; omega
    have dl : decide ((k : Int) ≤ 200) = decide (k ≤ 200) := by rw [decide_eq_decide]; omega
    obtain ⟨fits, hfits⟩ : ∃ b, decide (k ≤ 200) = b := ⟨_, rfl⟩
    have HFT := Lib.hid hfits
    rw [hfits] at dl ⊢
    clear htx hzz hpl hk0 hfits
    cases neg
    all_goals simp only [Bool.false_eq_true, if_true, if_false] at hpre
    all_goals have HPRE := Lib.hid hpre
    all_goals clear hpre
    all_goals go_enter Tryz.func155, Tryz.ntmps155
    all_goals go_wp2_with (first
      | (at_builtin; refine wpList_app rfl (.tmp 12) (.tmp 13) 116 rfl elemU _ ([] : List UInt8) 0 rfl rfl ((OL.nil (f := one bv) (B := w.heap.size)).alloc _) 45 w.heap.size #[.int .u8 45] rfl ?hc rfl rfl (by simp [one, bv, Value.oneCell']) (by unfold maxLen; simp) (by simp) (by simp) ?_; (case hc => exact World.alloc_heap_new _ _); intro g3 c3 w3 h3 _ _ _ hb3; have HO3 : Hid (OL w3 w.heap.size 5 1 (one bv) _ pre) := Lib.hid (by rw [HPRE.out]; exact h3); have HB3 := Lib.hid ((below_new w _).trans hb3); clear h3 hb3)
      | fail)
    have HO3 : Hid (OL w w.heap.size 5 1 (one bv) (.slice none 0 0) pre) := Lib.hid (by rw [HPRE.out]; exact OL.nil)
    have HB3 := Lib.hid (Below.refl w.heap.size w)
    all_goals
      go_loopw [6, 7] (fun v iv wr => ∃ (vv : Value) (j : Nat), vv = v ∧ iv = .int .i64 ((j : Int) - 1) ∧ j ≤ k ∧ Hid (OL wr w.heap.size 5 1 (one bv) vv (pre ++ (((dg n).drop j).map digB).reverse)) ∧ Hid (Below w.heap.size w wr)) (fun _ i _ => (intOf i + 1).toNat)
      case atStart => exact ⟨_, k, rfl, by rw [HZ.out], Nat.le_refl _, Lib.hid (by rw [List.drop_of_length_le (by rw [HK.out]; omega)]; simpa using HO3.out), HB3⟩
      case round =>
        clear HO3 HB3 HZ hz
        obtain ⟨vv, j, rfl, rfl, hj, HO, HB⟩ := hrel
        rcases Nat.eq_zero_or_pos j with rfl | h0
        · have d1 : decide ((0 : Int) ≤ ((0 : Nat) : Int) - 1) = false := by decide
          have hol := HO.out
          rw [List.drop_zero] at hol
          have hr := hol
          unfold OL at hr
          rw [flatMap_one] at hr
          have hconv := Wr.convert_own (P := Tryz.prog) 116 9 Tryz.underlying116 Tryz.underlying5 Tryz.underlying9 hr
          clear hol hr
          go_wp2_with fail
          go_ret2
          exact ⟨rfl, HB.out⟩
        · obtain ⟨m, rfl⟩ : ∃ m, j = m + 1 := ⟨j - 1, by omega⟩
          have e1 : ((m + 1 : Nat) : Int) - 1 = (m : Int) := by omega
          rw [e1]
          have hm : m < (dg n).length := by rw [HK.out]; omega
          obtain ⟨p, rfl, hpb, hpc⟩ := HA.out.get hm
          unfold nv at hpc
          obtain ⟨d, hd⟩ : ∃ d, (dg n)[m] = d := ⟨_, rfl⟩
          rw [hd] at hpc
          have HX : Hid ((dg n)[m]? = some d) := Lib.hid (by rw [← hd]; exact List.getElem?_eq_getElem hm)
          have hd9 : d < 10 := dg_dgs n d (List.mem_of_getElem? HX.out)
          have hpc2 : wr.cell? (p.add m) = some (.int .i64 d) := (HB.out.cell (p := p.add m) (by rw [addr_add_block]; exact hpb)).trans hpc
          have d1 : decide ((0 : Int) ≤ (m : Int)) = true := by simp
          have z1 : (0 : Int) ≤ (m : Int) := by omega
          have z2 : (m : Int) < (k : Int) := by omega
          obtain ⟨z', hz'⟩ : ∃ z', IntKind.i64.wrap ((m : Int) - 1) = z' := ⟨_, rfl⟩
          have hzz : z' = (m : Int) - 1 := by have := HKL.out; rw [← hz', IntKind.wrap_i64]; omega
          have HZ' := Lib.hid hzz
          obtain ⟨b, hb⟩ : ∃ b, 48 + d = b := ⟨_, rfl⟩
          have w3 : IntKind.i64.wrap (48 + (d : Int)) = (b : Int) := by rw [IntKind.wrap_i64]; omega
          have w4 : IntKind.u8.wrap (b : Int) = (b : Int) := by rw [IntKind.wrap_u8]; omega
          have HV : Hid (bv (digB d) = .int .u8 (b : Int)) := Lib.hid (by rw [← hb]; exact digB_val hd9)
          obtain ⟨ln, hln⟩ : ∃ ln, (pre ++ (((dg n).drop (m + 1)).map digB).reverse).length = ln := ⟨_, rfl⟩
          have HLN := Lib.hid hln
          have HLEN : Hid (ln ≤ 1001) := Lib.hid (by have := HPL.out; have := HK.out; have := HKL.out; rw [← hln]; simp; omega)
          clear hln
          have HBs := Lib.hid HB.out.size
          clear hpc hpb hd hm hzz hb hd9 e1
          go_wp2_with (first
            | (at_builtin; refine wpList_app rfl (.tmp 22) (.tmp 29) 116 rfl elemU _ _ ln HLN.out rfl (HO.out.alloc _) (digB d) wr.heap.size #[.int .u8 (b : Int)] rfl ?hc (by unfold one; rw [HV.out]) rfl (by simp [one, bv, Value.oneCell']) (by have := HLN.out; have := HLEN.out; unfold maxLen; omega) (by have := HLN.out; have := HLEN.out; omega) (by have := HBs.out; simp; omega) ?_; (case hc => exact World.alloc_heap_new _ _); intro g3 c3 w3 h3 _ _ _ hb3; have HO3 := Lib.hid h3; have HB3 := Lib.hid ((HB.out.alloc HBs.out _).trans hb3); clear h3 hb3)
            | fail)
          go_roundw
          case rel => exact ⟨_, m, rfl, by rw [HZ'.out], by omega, Lib.hid (by have := HO3.out; rwa [← up_step HX.out] at this), HB3⟩
          case measure => rw [HZ'.out]; simp [intOf]
end Go.Proofs.YteeifhlhpiimoaaGreatDoor
end
section
namespace Go.Proofs.YteeifhlhpiimoaaGreatDoor
open Go Go.RowKit Go.Shelf
attribute [local go_sem] Oper.semAt_some
def ErP (w : World) (s : ByteArray) (e : Ending) (w' : World) : Prop := e = .returned (.tuple #[.string s, .int .i64 0]) ∧ Below w.heap.size w w'
set_option maxRecDepth 100000 in
set_option maxHeartbeats 4000000 in
theorem rchecked_walk (neg : Bool) (n : Nat) (v : Value) (w : World) (h : LsAt w v (dg n)) (hl : (dg n).length ≤ 200) : Calls Tryz.prog 221 #[.bool neg, v] w (ErP w (txtB neg n)) := by
  have HT := Lib.hid (rtext_walk neg n v w h (by omega))
  have d1 : decide ((dg n).length ≤ 200) = true := by simp [hl]
  clear h hl
  go_enter Tryz.func221, Tryz.ntmps221
  go_wp2_with (first
    | (go_at_call 155; refine HT.out.mono ?_; rintro e w2 ⟨rfl, hb⟩; have HB := Lib.hid hb; clear hb)
    | fail)
  go_ret2
  exact ⟨rfl, HB.out⟩
def IntP (w : World) (z : Int) (e : Ending) (w' : World) : Prop := e = .returned (.string ⟨(intS z).toArray⟩) ∧ Below w.heap.size w w'
set_option maxRecDepth 100000 in
set_option maxHeartbeats 4000000 in
theorem rfromInt_walk (z : Int) (w : World) (hz : z.natAbs < 10 ^ 18) : Calls Tryz.prog 99 #[.int .i64 z] w (IntP w z) := by
  have HL : Hid ((dg z.natAbs).length ≤ 18) := Lib.hid (dg_len_le hz)
  have hz2 : z.natAbs < 1000000000000000000 := hz
  have HZ := Lib.hid hz2
  clear hz hz2
  go_enter Tryz.func99, Tryz.ntmps99
  go_wp2_with fail
  go_loopw [3, 4] (fun v iv wr => ∃ (vv : Value) (o : List Nat) (q : Int), vv = v ∧ iv = .int .i64 q ∧ Hid (o ++ dg q.natAbs = dg z.natAbs) ∧ Hid (q.natAbs < 1000000000000000000) ∧ Hid (IntL wr w.heap.size vv o) ∧ Hid (Below w.heap.size w wr)) (fun _ i _ => (intOf i).natAbs)
  case atStart => exact ⟨_, [], z, rfl, rfl, Lib.hid rfl, HZ, Lib.hid OL.nil, Lib.hid (Below.refl _ _)⟩
  case round =>
    obtain ⟨vv, o, q, rfl, rfl, HI, HQ, HO, HB⟩ := hrel
    by_cases h0 : q = 0
    · subst h0
      have ho : o = dg z.natAbs := by have := HI.out; simpa [dg_zero] using this
      subst ho
      obtain ⟨b, hb⟩ : ∃ b, decide (z < 0) = b := ⟨_, rfl⟩
      have HT := Lib.hid (rtext_walk b z.natAbs vv wr (LsAt.of_ol HO.out) (by have := HL.out; omega))
      have HTX : Hid (txtB b z.natAbs = ⟨(intS z).toArray⟩) := Lib.hid (by unfold txtB; rw [← hb, txt_int])
      go_wp2_with (first
        | (go_at_call 155; refine HT.out.mono ?_; rintro e w2 ⟨rfl, hb⟩; have HB2 := Lib.hid hb; clear hb)
        | fail)
      go_ret
      exact ⟨(by rw [HTX.out]; rfl), HB.out.trans (HB2.out.mono HB.out.size)⟩
    · have d1 : (q != 0) = true := by simp [h0]
      obtain ⟨d, hd⟩ : ∃ d, q.natAbs % 10 = d := ⟨_, rfl⟩
      obtain ⟨t, ht⟩ : ∃ t, Int.tdiv q 10 = t := ⟨_, rfl⟩
      have hta : t.natAbs = q.natAbs / 10 := by rw [← ht, Int.natAbs_tdiv]; rfl
      have htn : t.natAbs < q.natAbs := by omega
      have HS : Hid ((o ++ [d]) ++ dg t.natAbs = dg z.natAbs) := Lib.hid (by rw [← HI.out, hta, dg_pos (n := q.natAbs) (by omega), hd, List.append_assoc]; rfl)
      have HTN := Lib.hid htn
      have wt : IntKind.i64.wrap t = t := by have := HQ.out; rw [IntKind.wrap_i64]; omega
      have HLEN : Hid (o.length ≤ 18) := Lib.hid (by have h1 := congrArg List.length HI.out; have := HL.out; rw [List.length_append] at h1; omega)
      have HBs := Lib.hid HB.out.size
      obtain ⟨ln, hln⟩ : ∃ ln, o.length = ln := ⟨_, rfl⟩
      have HLN := Lib.hid hln
      rw [hln] at HLEN
      obtain ⟨r, hr⟩ : ∃ r, Int.tmod q 10 = r := ⟨_, rfl⟩
      have hra : r.natAbs = d := by rw [← hr, Int.natAbs_tmod]; exact hd
      have hd9 : d < 10 := by omega
      by_cases hneg : r < 0
      · have b1 : decide (r < 0) = true := by simp [hneg]
        have wd : IntKind.i64.wrap (-r) = (d : Int) := by rw [IntKind.wrap_i64]; omega
        clear hta htn hln hra hd hneg
        go_wp2_with (first
          | (at_builtin; refine wpList_app rfl (.tmp 19) (.tmp 21) 23 rfl elemInt _ _ ln HLN.out rfl (HO.out.alloc _) d wr.heap.size #[.int .i64 d] rfl ?hc rfl rfl (by simp [one, nv, Value.oneCell']) (by have := HLN.out; have := HLEN.out; unfold maxLen; omega) (by have := HLN.out; have := HLEN.out; omega) (by have := HBs.out; simp; omega) ?_; (case hc => exact World.alloc_heap_new _ _); intro g3 c3 w3 h3 _ _ _ hb3; have HO3 := Lib.hid h3; have HB3 := Lib.hid ((HB.out.alloc HBs.out _).trans hb3); clear h3 hb3)
          | fail)
        go_roundw
        case rel => exact ⟨_, _, t, rfl, rfl, HS, Lib.hid (by have := HTN.out; have := HQ.out; omega), HO3, HB3⟩
        case measure => simp [intOf]; exact HTN.out
      · have b1 : decide (r < 0) = false := by simp; omega
        obtain rfl : r = (d : Int) := by omega
        clear hta htn hln hra hd hneg
        go_wp2_with (first
          | (at_builtin; refine wpList_app rfl (.tmp 19) (.tmp 21) 23 rfl elemInt _ _ ln HLN.out rfl (HO.out.alloc _) d wr.heap.size #[.int .i64 d] rfl ?hc rfl rfl (by simp [one, nv, Value.oneCell']) (by have := HLN.out; have := HLEN.out; unfold maxLen; omega) (by have := HLN.out; have := HLEN.out; omega) (by have := HBs.out; simp; omega) ?_; (case hc => exact World.alloc_heap_new _ _); intro g3 c3 w3 h3 _ _ _ hb3; have HO3 := Lib.hid h3; have HB3 := Lib.hid ((HB.out.alloc HBs.out _).trans hb3); clear h3 hb3)
          | fail)
        go_roundw
        case rel => exact ⟨_, _, t, rfl, rfl, HS, Lib.hid (by have := HTN.out; have := HQ.out; omega), HO3, HB3⟩
        case measure => simp [intOf]; exact HTN.out
end Go.Proofs.YteeifhlhpiimoaaGreatDoor
end
section
namespace Go.Proofs.YteeifhlhpiimoaaGreatDoor
open Go Go.RowKit Go.Shelf
attribute [local go_sem] Oper.semAt_some
def DsP (w : World) (z : Int) (e : Ending) (w' : World) : Prop := ∃ v, e = .returned (.tuple #[.bool (decide (z < 0)), v]) ∧ LsAt w' v (dg z.natAbs) ∧ Fresh w.heap.size v ∧ Below w.heap.size w w'
theorem at_list {s : ByteArray} {l : List UInt8} (h : s.data.toList = l) {i : Nat} (hi : i < s.size) : l[i]? = some s[i] := by
  rw [← h]
  have : s[i] = s.data[i] := rfl
  rw [this, Array.getElem?_toList]
  exact Array.getElem?_eq_getElem hi
theorem dig_at {n m : Nat} (h : 0 < n) (hm : m < (dg n).length) : (decS n)[(dg n).length - 1 - m]? = ((dg n)[m]?).map digB := by
  rw [decS_dg h, List.getElem?_reverse (by rw [List.length_map]; omega), List.length_map, List.getElem?_map, show (dg n).length - 1 - ((dg n).length - 1 - m) = m by omega]
set_option maxRecDepth 100000 in
set_option maxHeartbeats 4000000 in
theorem rdigits_walk (z : Int) (s : ByteArray) (hs : s.data.toList = intS z) (hl : (dg z.natAbs).length ≤ 200) (w : World) : Calls Tryz.prog 217 #[.string s] w (DsP w z) := by
  have hsz : s.size = (intS z).length := by rw [← hs]; exact Array.length_toList.symm
  have hp : 0 < s.size := by
    rw [hsz]
    unfold intS
    split
    · simp
    · exact List.length_pos_iff.2 (decS_ne _)
  obtain ⟨b, hb⟩ : ∃ b, s[0].toNat = b := ⟨_, rfl⟩
  obtain ⟨n, hn⟩ : ∃ n, z.natAbs = n := ⟨_, rfl⟩
  unfold DsP
  rw [hn] at hl ⊢
  have HL := Lib.hid hl
  have key : ∃ t : ByteArray, t.data.toList = decS n ∧ ((z < 0 ∧ b = 45 ∧ s.extract 1 s.size = t) ∨ (¬ z < 0 ∧ b ≠ 45 ∧ t = s)) := by
    by_cases hneg : z < 0
    · refine ⟨s.extract 1 s.size, ?_, .inl ⟨hneg, ?_, rfl⟩⟩
      · have h := hs
        unfold intS at h
        rw [if_pos hneg, hn] at h
        rw [Lib.extract_data, h]
        have hsl : s.size = (decS n).length + 1 := by rw [← List.length_cons (a := (45 : UInt8)), ← h]; exact Array.length_toList.symm
        rw [hsl]; simp
      · have h := at_list hs hp
        unfold intS at h
        rw [if_pos hneg] at h
        simp at h
        rw [← hb, ← h]; rfl
    · have h := hs
      unfold intS at h
      rw [if_neg hneg, hn] at h
      refine ⟨s, h, .inr ⟨hneg, fun e => ?_, rfl⟩⟩
      have h2 := at_list h hp
      have h3 := decS_dig n _ (List.mem_of_getElem? h2)
      unfold dig10 at h3
      rw [hb, e] at h3
      simp at h3
  obtain ⟨t, HT, key⟩ := key
  have HT := Lib.hid HT
  obtain ⟨k, hk⟩ : ∃ k, t.size = k := ⟨_, rfl⟩
  have hkl : k = (decS n).length := by rw [← hk, ← HT.out]; exact Array.length_toList.symm
  have hkm := decS_len_dg n
  have HK : Hid (k ≤ 200 ∧ 1 ≤ k ∧ k = max 1 (dg n).length) := Lib.hid ⟨by omega, by omega, by omega⟩
  obtain ⟨u, hu⟩ : ∃ u, IntKind.i64.wrap ((k : Int) - 1) = u := ⟨_, rfl⟩
  have huu : u = (k : Int) - 1 := by have := HK.out; rw [← hu, IntKind.wrap_i64]; omega
  have HU := Lib.hid huu
  have hg : (t.toList == [48]) = decide (n = 0) := by
    rw [ByteArray.toList_eq, HT.out]
    rcases Nat.eq_zero_or_pos n with rfl | h
    · rw [decS_lt (by decide)]; rfl
    · rw [decide_eq_false (by omega), beq_eq_false_iff_ne]
      intro e
      exact decS_head h 48 (by rw [e]; rfl) rfl
  have HB0 := Lib.hid (Below.refl w.heap.size w)
  clear hkl hkm huu hl hs hsz
  rcases key with ⟨hneg, hb45, hx⟩ | ⟨hneg, hb45, rfl⟩
  · subst hb45
    rw [decide_eq_true hneg]
    clear hneg
    go_enter Tryz.func217, Tryz.ntmps217
    go_wp2_with fail
    clear hx hb hp
    · go_loopw [5, 6] (fun v iv wr => ∃ (vv : Value) (m : Nat), vv = v ∧ iv = .int .i64 ((k : Int) - 1 - (m : Int)) ∧ m ≤ k ∧ Hid (n = 0 → m = 0) ∧ Hid (IntL wr w.heap.size vv ((dg n).take m)) ∧ Hid (Below w.heap.size w wr)) (fun _ i _ => (intOf i + 1).toNat)
      case atStart => exact ⟨_, 0, rfl, by rw [HU.out]; simp, Nat.zero_le _, Lib.hid fun _ => rfl, Lib.hid OL.nil, HB0⟩
      case round =>
        obtain ⟨vv, m, rfl, rfl, hm, H0, HO, HB⟩ := hrel
        have hend : m = k ∨ n = 0 → (dg n).take m = dg n := fun h => by
          rcases Nat.eq_zero_or_pos n with rfl | hp
          · rw [dg_zero]; simp
          · have : 1 ≤ (dg n).length := by rw [dg_pos hp]; simp
            have := HK.out
            rw [List.take_of_length_le (by omega)]
        have HEND := Lib.hid hend
        clear hend
        rcases Nat.lt_or_ge m k with hlt | hge
        · obtain ⟨p, hp2⟩ : ∃ p, k - 1 - m = p := ⟨_, rfl⟩
          have e1 : (k : Int) - 1 - (m : Int) = (p : Int) := by omega
          rw [e1]
          have d1 : decide ((0 : Int) ≤ (p : Int)) = true := by simp
          rcases Nat.eq_zero_or_pos n with rfl | hn0
          · have hg2 : (t.toList == [48]) = true := by rw [hg]; rfl
            have HV := Lib.hid (HEND.out (.inr rfl))
            clear hg
            go_wp2_with fail
            go_ret2
            exact ⟨_, rfl, by have := HO.out; rw [HV.out] at this; exact LsAt.of_ol this, HO.out.fresh, HB.out⟩
          · have hg2 : (t.toList == [48]) = false := by rw [hg]; exact decide_eq_false (by omega)
            have hkn : k = (dg n).length := by have := HK.out; have : 1 ≤ (dg n).length := (by rw [dg_pos hn0]; simp); omega
            have hmn : m < (dg n).length := by omega
            obtain ⟨d, hd⟩ : ∃ d, (dg n)[m] = d := ⟨_, rfl⟩
            have HX : Hid ((dg n)[m]? = some d) := Lib.hid (by rw [← hd]; exact List.getElem?_eq_getElem hmn)
            have hd9 : d < 10 := dg_dgs n d (List.mem_of_getElem? HX.out)
            have hpt : p < t.size := by rw [hk]; omega
            obtain ⟨c, hc⟩ : ∃ c, t[p].toNat = c := ⟨_, rfl⟩
            have hcd : c = 48 + d := by
              have h0 := dig_at hn0 hmn
              rw [show (dg n).length - 1 - m = p by omega, HX.out] at h0
              have h1 := at_list HT.out hpt
              rw [h0] at h1
              simp only [Option.map_some, Option.some.injEq] at h1
              rw [← hc, ← h1]
              exact toNat_dig hd9
            have y1 : (0 : Int) ≤ (p : Int) := by omega
            have y2 : (p : Int) < (k : Int) := by omega
            have w5 : IntKind.u8.wrap ((c : Int) - 48) = (d : Int) := by rw [IntKind.wrap_u8]; omega
            have w6 : IntKind.i64.wrap (d : Int) = (d : Int) := by rw [IntKind.wrap_i64]; omega
            obtain ⟨z', hz'⟩ : ∃ z', IntKind.i64.wrap ((p : Int) - 1) = z' := ⟨_, rfl⟩
            have hzz : z' = (k : Int) - 1 - ((m + 1 : Nat) : Int) := by have := HK.out; rw [← hz', IntKind.wrap_i64]; omega
            have HZ' := Lib.hid hzz
            have HP2 := Lib.hid hp2
            have HLT := Lib.hid hlt
            have HNE := Lib.hid hn0
            have HST : Hid ((dg n).take m ++ [d] = (dg n).take (m + 1)) := Lib.hid (by rw [List.take_add_one, HX.out]; rfl)
            have HLN : Hid (((dg n).take m).length = m) := Lib.hid (by rw [List.length_take]; omega)
            have HBs := Lib.hid HB.out.size
            have HM : Hid (m ≤ 200) := Lib.hid (by have := HK.out; omega)
            clear hg hd hd9 hcd hzz hp2 hlt hn0 hkn hmn e1 hm
            go_wp2_with (first
              | (at_builtin; refine wpList_app rfl (.tmp 24) (.tmp 30) 23 rfl elemInt _ _ m HLN.out rfl (HO.out.alloc _) d wr.heap.size #[.int .i64 d] rfl ?hc rfl rfl (by simp [one, nv, Value.oneCell']) (by have := HLN.out; have := HM.out; unfold maxLen; omega) (by have := HLN.out; have := HM.out; omega) (by have := HBs.out; simp; omega) ?_; (case hc => exact World.alloc_heap_new _ _); intro g3 c3 w3 h3 _ _ _ hb3; have HO3 := Lib.hid h3; have HB3 := Lib.hid ((HB.out.alloc HBs.out _).trans hb3); clear h3 hb3)
              | fail)
            go_roundw
            case rel => exact ⟨_, m + 1, rfl, by rw [HZ'.out], HLT.out, Lib.hid (fun e => by have := HNE.out; omega), Lib.hid (by have := HO3.out; rwa [HST.out] at this), HB3⟩
            case measure => rw [HZ'.out]; simp [intOf]; have := HP2.out; have := HLT.out; omega
        · obtain rfl : m = k := by omega
          have e1 : (m : Int) - 1 - (m : Int) = -1 := by omega
          rw [e1]
          have HV := Lib.hid (HEND.out (.inl rfl))
          clear hg
          go_wp2_with fail
          go_ret2
          exact ⟨_, rfl, by have := HO.out; rw [HV.out] at this; exact LsAt.of_ol this, HO.out.fresh, HB.out⟩
  · rw [decide_eq_false hneg]
    clear hneg
    have d0 : ((b : Int) == 45) = false := by simp; omega
    go_enter Tryz.func217, Tryz.ntmps217
    go_wp2_with fail
    clear d0 hb45 hb hp
    · go_loopw [5, 6] (fun v iv wr => ∃ (vv : Value) (m : Nat), vv = v ∧ iv = .int .i64 ((k : Int) - 1 - (m : Int)) ∧ m ≤ k ∧ Hid (n = 0 → m = 0) ∧ Hid (IntL wr w.heap.size vv ((dg n).take m)) ∧ Hid (Below w.heap.size w wr)) (fun _ i _ => (intOf i + 1).toNat)
      case atStart => exact ⟨_, 0, rfl, by rw [HU.out]; simp, Nat.zero_le _, Lib.hid fun _ => rfl, Lib.hid OL.nil, HB0⟩
      case round =>
        obtain ⟨vv, m, rfl, rfl, hm, H0, HO, HB⟩ := hrel
        have hend : m = k ∨ n = 0 → (dg n).take m = dg n := fun h => by
          rcases Nat.eq_zero_or_pos n with rfl | hp
          · rw [dg_zero]; simp
          · have : 1 ≤ (dg n).length := by rw [dg_pos hp]; simp
            have := HK.out
            rw [List.take_of_length_le (by omega)]
        have HEND := Lib.hid hend
        clear hend
        rcases Nat.lt_or_ge m k with hlt | hge
        · obtain ⟨p, hp2⟩ : ∃ p, k - 1 - m = p := ⟨_, rfl⟩
          have e1 : (k : Int) - 1 - (m : Int) = (p : Int) := by omega
          rw [e1]
          have d1 : decide ((0 : Int) ≤ (p : Int)) = true := by simp
          rcases Nat.eq_zero_or_pos n with rfl | hn0
          · have hg2 : (t.toList == [48]) = true := by rw [hg]; rfl
            have HV := Lib.hid (HEND.out (.inr rfl))
            clear hg
            go_wp2_with fail
            go_ret2
            exact ⟨_, rfl, by have := HO.out; rw [HV.out] at this; exact LsAt.of_ol this, HO.out.fresh, HB.out⟩
          · have hg2 : (t.toList == [48]) = false := by rw [hg]; exact decide_eq_false (by omega)
            have hkn : k = (dg n).length := by have := HK.out; have : 1 ≤ (dg n).length := (by rw [dg_pos hn0]; simp); omega
            have hmn : m < (dg n).length := by omega
            obtain ⟨d, hd⟩ : ∃ d, (dg n)[m] = d := ⟨_, rfl⟩
            have HX : Hid ((dg n)[m]? = some d) := Lib.hid (by rw [← hd]; exact List.getElem?_eq_getElem hmn)
            have hd9 : d < 10 := dg_dgs n d (List.mem_of_getElem? HX.out)
            have hpt : p < t.size := by rw [hk]; omega
            obtain ⟨c, hc⟩ : ∃ c, t[p].toNat = c := ⟨_, rfl⟩
            have hcd : c = 48 + d := by
              have h0 := dig_at hn0 hmn
              rw [show (dg n).length - 1 - m = p by omega, HX.out] at h0
              have h1 := at_list HT.out hpt
              rw [h0] at h1
              simp only [Option.map_some, Option.some.injEq] at h1
              rw [← hc, ← h1]
              exact toNat_dig hd9
            have y1 : (0 : Int) ≤ (p : Int) := by omega
            have y2 : (p : Int) < (k : Int) := by omega
            have w5 : IntKind.u8.wrap ((c : Int) - 48) = (d : Int) := by rw [IntKind.wrap_u8]; omega
            have w6 : IntKind.i64.wrap (d : Int) = (d : Int) := by rw [IntKind.wrap_i64]; omega
            obtain ⟨z', hz'⟩ : ∃ z', IntKind.i64.wrap ((p : Int) - 1) = z' := ⟨_, rfl⟩
            have hzz : z' = (k : Int) - 1 - ((m + 1 : Nat) : Int) := by have := HK.out; rw [← hz', IntKind.wrap_i64]; omega
            have HZ' := Lib.hid hzz
            have HP2 := Lib.hid hp2
            have HLT := Lib.hid hlt
            have HNE := Lib.hid hn0
            have HST : Hid ((dg n).take m ++ [d] = (dg n).take (m + 1)) := Lib.hid (by rw [List.take_add_one, HX.out]; rfl)
            have HLN : Hid (((dg n).take m).length = m) := Lib.hid (by rw [List.length_take]; omega)
            have HBs := Lib.hid HB.out.size
            have HM : Hid (m ≤ 200) := Lib.hid (by have := HK.out; omega)
            clear hg hd hd9 hcd hzz hp2 hlt hn0 hkn hmn e1 hm
            go_wp2_with (first
              | (at_builtin; refine wpList_app rfl (.tmp 24) (.tmp 30) 23 rfl elemInt _ _ m HLN.out rfl (HO.out.alloc _) d wr.heap.size #[.int .i64 d] rfl ?hc rfl rfl (by simp [one, nv, Value.oneCell']) (by have := HLN.out; have := HM.out; unfold maxLen; omega) (by have := HLN.out; have := HM.out; omega) (by have := HBs.out; simp; omega) ?_; (case hc => exact World.alloc_heap_new _ _); intro g3 c3 w3 h3 _ _ _ hb3; have HO3 := Lib.hid h3; have HB3 := Lib.hid ((HB.out.alloc HBs.out _).trans hb3); clear h3 hb3)
              | fail)
            go_roundw
            case rel => exact ⟨_, m + 1, rfl, by rw [HZ'.out], HLT.out, Lib.hid (fun e => by have := HNE.out; omega), Lib.hid (by have := HO3.out; rwa [HST.out] at this), HB3⟩
            case measure => rw [HZ'.out]; simp [intOf]; have := HP2.out; have := HLT.out; omega
        · obtain rfl : m = k := by omega
          have e1 : (m : Int) - 1 - (m : Int) = -1 := by omega
          rw [e1]
          have HV := Lib.hid (HEND.out (.inl rfl))
          clear hg
          go_wp2_with fail
          go_ret2
          exact ⟨_, rfl, by have := HO.out; rw [HV.out] at this; exact LsAt.of_ol this, HO.out.fresh, HB.out⟩
end Go.Proofs.YteeifhlhpiimoaaGreatDoor
end
section
namespace Go.Proofs.YteeifhlhpiimoaaGreatDoor
open Go Go.RowKit Go.Shelf
attribute [local go_sem] Oper.semAt_some
def restV (t : List UInt8) : Bool := decide (t ≠ []) && decide (t.length ≤ 200) && t.all dig10 && (decide (t = [48]) || decide (t.head? ≠ some 48))
theorem validI_rest {l t : List UInt8} (h : stripM l = t) (hc : l = t ∨ (l = 45 :: t ∧ t ≠ [48])) : validI l = restV t := by
  unfold validI restV
  rw [h]
  rcases hc with rfl | ⟨rfl, h0⟩
  · rfl
  · rw [decide_eq_false (show ¬ (45 :: t) = [48] by simp), decide_eq_false h0]
theorem validI_m0 : validI [45, 48] = false := by decide
theorem restV_bad {t : List UInt8} {j : Nat} {c : UInt8} (h : t[j]? = some c) (hd : dig10 c = false) : restV t = false := by
  have : t.all dig10 = false := by
    rw [List.all_eq_false]
    exact ⟨c, List.mem_of_getElem? h, by rw [hd]; simp⟩
  unfold restV; rw [this]; simp
theorem restV_end {t : List UInt8} (h : t.all dig10 = true) : restV t = (decide (t ≠ []) && decide (t.length ≤ 200) && (decide (t = [48]) || decide (t.head? ≠ some 48))) := by unfold restV; rw [h]; simp
set_option maxRecDepth 100000 in
set_option maxHeartbeats 4000000 in
theorem rvalid3_walk (s : ByteArray) (hs : s.size ≤ 1000000) (w : World) : Calls Tryz.prog 150 #[.string s] w (ValP w (validI s.data.toList)) := by
  obtain ⟨l, hl⟩ : ∃ l, s.data.toList = l := ⟨_, rfl⟩
  have hll : s.size = l.length := by rw [← hl]; exact Array.length_toList.symm
  have key : ∃ t : ByteArray, (∃ b, s.size ≠ 0 ∧ b = 45 ∧ (∀ h : 0 < s.size, s[0].toNat = b) ∧ s.extract 1 s.size = t ∧ l = 45 :: t.data.toList) ∨ (t = s ∧ stripM l = l ∧ (s.size = 0 ∨ ∃ b, b ≠ 45 ∧ (∀ h : 0 < s.size, s[0].toNat = b) ∧ s.size ≠ 0)) := by
    cases hl2 : l with
    | nil => exact ⟨s, .inr ⟨rfl, rfl, .inl (by rw [hll, hl2]; rfl)⟩⟩
    | cons c l' =>
      have hp : 0 < s.size := by rw [hll, hl2]; simp
      have h0 : s[0] = c := by
        have := at_list hl hp
        rw [hl2] at this
        simpa using this.symm
      by_cases hc : c = 45
      · subst hc
        refine ⟨s.extract 1 s.size, .inl ⟨45, by omega, rfl, fun h => by rw [h0]; rfl, rfl, ?_⟩⟩
        rw [Lib.extract_data, hl, hl2, hll, hl2]
        simp
      · refine ⟨s, .inr ⟨rfl, by rw [strip_cons, if_neg hc], .inr ⟨c.toNat, fun e => hc (UInt8.toNat_inj.1 e), fun h => by rw [h0], by omega⟩⟩⟩
  obtain ⟨t, key⟩ := key
  obtain ⟨k, hk⟩ : ∃ k, t.size = k := ⟨_, rfl⟩
  obtain ⟨tl, htl⟩ : ∃ tl, t.data.toList = tl := ⟨_, rfl⟩
  have hkl : tl.length = k := by rw [← htl, ← hk]; exact Array.length_toList
  have HKL := Lib.hid hkl
  have HT := Lib.hid htl
  have hg : (t.toList == [48]) = decide (tl = [48]) := by rw [ByteArray.toList_eq, htl]; by_cases h : tl = [48] <;> simp [h]
  have hk1 : k ≤ 1000000 := by
    rcases key with ⟨b, h1, h2, h3, h4, h5⟩ | ⟨h1, h2, h3⟩
    · rw [h5, htl, List.length_cons] at hll; omega
    · rw [← hk, h1]; exact hs
  have HK1 := Lib.hid hk1
  rw [hl]
  clear hkl hk1
  obtain ⟨e48, he48⟩ : ∃ e, decide (tl = [48]) = e := ⟨_, rfl⟩
  rw [he48] at hg
  have HE48 := Lib.hid he48
  rcases key with ⟨b, hs0, rfl, hb, hx, hlt⟩ | ⟨rfl, hst, hb⟩
  · have hp : 0 < s.size := by omega
    have hb0 := hb hp
    rw [htl] at hlt
    have d1 : decide ((0 : Int) < (s.size : Int)) = true := by simp; omega
    by_cases h48 : tl = [48]
    · have hg2 : (t.toList == [48]) = true := by rw [hg, ← he48, h48]; rfl
      have hv : validI l = false := by rw [hlt, h48]; exact validI_m0
      rw [hv]
      clear hg hb hlt hv h48 htl hll hl hs hs0 he48
      go_enter Tryz.func150, Tryz.ntmps150
      go_wp2_with fail
      go_ret
      exact ⟨rfl, Below.refl _ _⟩
    · obtain rfl : e48 = false := by rw [← he48]; exact decide_eq_false h48
      have hv : validI l = restV tl := validI_rest (by rw [hlt]; rfl) (.inr ⟨hlt, h48⟩)
      rw [hv]
      clear hb hlt hv h48 htl hll hl hs hs0 he48
      go_enter Tryz.func150, Tryz.ntmps150
      go_wp2_with fail
      obtain ⟨e48, hee⟩ : ∃ e, e = false := ⟨_, rfl⟩
      rw [← hee] at HE48 hg
      clear hx hb0 hp d1 hee
      go_loop [3] (fun iv => ∃ j : Nat, j ≤ k ∧ iv = .int .i64 (j : Int) ∧ Hid ((tl.take j).all dig10 = true)) (fun iv => match iv with | .int _ x => k - x.toNat | _ => 0)
      case atStart => exact ⟨0, Nat.zero_le _, rfl, Lib.hid rfl⟩
      case round =>
        obtain ⟨j, hj, rfl, HA⟩ := hrel
        rcases Nat.lt_or_ge j k with hlt | hge
        · have d1 : decide (j < k) = true := by simp [hlt]
          have hpt : j < t.size := by rw [hk]; exact hlt
          obtain ⟨ch, hch⟩ : ∃ ch, t[j] = ch := ⟨_, rfl⟩
          have hX := at_list HT.out hpt
          rw [hch] at hX
          have HX := Lib.hid hX
          obtain ⟨c, hc⟩ : ∃ c, ch.toNat = c := ⟨_, rfl⟩
          have HC := Lib.hid hc
          have y1 : (0 : Int) ≤ (j : Int) := by omega
          have y2 : (j : Int) < (k : Int) := by omega
          have w1 : IntKind.i64.wrap ((j : Int) + 1) = ((j + 1 : Nat) : Int) := by have := HK1.out; rw [IntKind.wrap_i64]; omega
          clear hX
          by_cases h1 : c < 48
          · have b1 : decide ((c : Int) < 48) = true := by simp; omega
            rw [restV_bad HX.out (by unfold dig10; rw [HC.out]; simp; omega)]
            go_wp2_with fail
            go_ret
            exact ⟨rfl, Below.refl _ _⟩
          · have b1 : decide ((c : Int) < 48) = false := by simp; omega
            by_cases h2 : 57 < c
            · have b2 : decide (57 < (c : Int)) = true := by simp; omega
              rw [restV_bad HX.out (by unfold dig10; rw [HC.out]; simp; omega)]
              go_wp2_with fail
              go_ret
              exact ⟨rfl, Below.refl _ _⟩
            · have b2 : decide (57 < (c : Int)) = false := by simp; omega
              have HN : Hid ((tl.take (j + 1)).all dig10 = true) := Lib.hid (by
                rw [List.take_add_one, HX.out, List.all_append, HA.out]
                simp [dig10]; rw [HC.out]; omega)
              go_wp2_with fail
              go_round
              case rel => exact ⟨j + 1, by omega, rfl, HN⟩
              case measure => simp; omega
        · obtain rfl : j = k := by omega
          have d1 : decide (j < j) = false := by simp
          have hall := HA.out
          rw [List.take_of_length_le (by rw [HKL.out]; omega)] at hall
          have hv := restV_end hall
          rw [HKL.out] at hv
          clear hall
          rcases Nat.eq_zero_or_pos j with rfl | hj0
          · have e1 : decide ((0 : Int) < ((0 : Nat) : Int)) = false := by decide
            have hnil : tl = [] := List.length_eq_zero_iff.1 HKL.out
            have HV : Hid (restV tl = false) := Lib.hid (by rw [hv, hnil]; rfl)
            clear hnil hv
            go_wp2_with fail
            go_ret
            exact ⟨(by rw [HV.out]; rfl), Below.refl _ _⟩
          · have e1 : decide ((0 : Int) < (j : Int)) = true := by simp; omega
            have hne : decide (tl ≠ []) = true := by have := HKL.out; refine decide_eq_true (fun e => ?_); rw [e] at this; simp at this; omega
            rw [hne] at hv
            clear hne
            by_cases h200 : j ≤ 200
            · have e2 : decide ((j : Int) ≤ 200) = true := by simp; omega
              rw [decide_eq_true h200, HE48.out] at hv
              have hpt : 0 < t.size := by rw [hk]; exact hj0
              obtain ⟨ch, hch⟩ : ∃ ch, t[0] = ch := ⟨_, rfl⟩
              have hX := at_list HT.out hpt
              rw [hch] at hX
              obtain ⟨c, hc⟩ : ∃ c, ch.toNat = c := ⟨_, rfl⟩
              obtain ⟨g, hgg⟩ : ∃ g, ((c : Int) != 48) = g := ⟨_, rfl⟩
              have hh : decide (tl.head? ≠ some 48) = g := by
                rw [List.head?_eq_getElem?, hX, ← hgg]
                by_cases h : c = 48
                · have : ch = 48 := UInt8.toNat_inj.1 (by rw [hc, h]; rfl)
                  rw [this, h]; rfl
                · have : ch ≠ 48 := fun e => h (by rw [← hc, e]; rfl)
                  rw [decide_eq_true (by simpa using this)]; simp; omega
              rw [hh] at hv
              have HV := Lib.hid hv
              clear hX hh hv
              cases e48
              · go_wp2_with fail
                go_ret
                exact ⟨(by rw [HV.out]; simp), Below.refl _ _⟩
              · go_wp2_with fail
                go_ret
                exact ⟨(by rw [HV.out]; rfl), Below.refl _ _⟩
            · have e2 : decide ((j : Int) ≤ 200) = false := by simp; omega
              rw [decide_eq_false h200] at hv
              have HV := Lib.hid hv
              clear hv
              go_wp2_with fail
              go_ret
              exact ⟨(by rw [HV.out]; rfl), Below.refl _ _⟩
  · have hv : validI l = restV tl := validI_rest (by rw [hst, ← hl, htl]) (.inl (by rw [← hl, htl]))
    rw [hv]
    clear hv hst htl hll hl hs he48
    rcases hb with h0 | ⟨b, hb45, hb, hb1⟩
    · have hk0 : k = 0 := by rw [← hk]; exact h0
      have d0 : decide (0 < k) = false := by rw [hk0]; decide
      clear h0 hk0
      go_enter Tryz.func150, Tryz.ntmps150
      go_wp2_with fail
      clear d0
      go_loop [3] (fun iv => ∃ j : Nat, j ≤ k ∧ iv = .int .i64 (j : Int) ∧ Hid ((tl.take j).all dig10 = true)) (fun iv => match iv with | .int _ x => k - x.toNat | _ => 0)
      case atStart => exact ⟨0, Nat.zero_le _, rfl, Lib.hid rfl⟩
      case round =>
        obtain ⟨j, hj, rfl, HA⟩ := hrel
        rcases Nat.lt_or_ge j k with hlt | hge
        · have d1 : decide (j < k) = true := by simp [hlt]
          have hpt : j < t.size := by rw [hk]; exact hlt
          obtain ⟨ch, hch⟩ : ∃ ch, t[j] = ch := ⟨_, rfl⟩
          have hX := at_list HT.out hpt
          rw [hch] at hX
          have HX := Lib.hid hX
          obtain ⟨c, hc⟩ : ∃ c, ch.toNat = c := ⟨_, rfl⟩
          have HC := Lib.hid hc
          have y1 : (0 : Int) ≤ (j : Int) := by omega
          have y2 : (j : Int) < (k : Int) := by omega
          have w1 : IntKind.i64.wrap ((j : Int) + 1) = ((j + 1 : Nat) : Int) := by have := HK1.out; rw [IntKind.wrap_i64]; omega
          clear hX
          by_cases h1 : c < 48
          · have b1 : decide ((c : Int) < 48) = true := by simp; omega
            rw [restV_bad HX.out (by unfold dig10; rw [HC.out]; simp; omega)]
            go_wp2_with fail
            go_ret
            exact ⟨rfl, Below.refl _ _⟩
          · have b1 : decide ((c : Int) < 48) = false := by simp; omega
            by_cases h2 : 57 < c
            · have b2 : decide (57 < (c : Int)) = true := by simp; omega
              rw [restV_bad HX.out (by unfold dig10; rw [HC.out]; simp; omega)]
              go_wp2_with fail
              go_ret
              exact ⟨rfl, Below.refl _ _⟩
            · have b2 : decide (57 < (c : Int)) = false := by simp; omega
              have HN : Hid ((tl.take (j + 1)).all dig10 = true) := Lib.hid (by
                rw [List.take_add_one, HX.out, List.all_append, HA.out]
                simp [dig10]; rw [HC.out]; omega)
              go_wp2_with fail
              go_round
              case rel => exact ⟨j + 1, by omega, rfl, HN⟩
              case measure => simp; omega
        · obtain rfl : j = k := by omega
          have d1 : decide (j < j) = false := by simp
          have hall := HA.out
          rw [List.take_of_length_le (by rw [HKL.out]; omega)] at hall
          have hv := restV_end hall
          rw [HKL.out] at hv
          clear hall
          rcases Nat.eq_zero_or_pos j with rfl | hj0
          · have e1 : decide ((0 : Int) < ((0 : Nat) : Int)) = false := by decide
            have hnil : tl = [] := List.length_eq_zero_iff.1 HKL.out
            have HV : Hid (restV tl = false) := Lib.hid (by rw [hv, hnil]; rfl)
            clear hnil hv
            go_wp2_with fail
            go_ret
            exact ⟨(by rw [HV.out]; rfl), Below.refl _ _⟩
          · have e1 : decide ((0 : Int) < (j : Int)) = true := by simp; omega
            have hne : decide (tl ≠ []) = true := by have := HKL.out; refine decide_eq_true (fun e => ?_); rw [e] at this; simp at this; omega
            rw [hne] at hv
            clear hne
            by_cases h200 : j ≤ 200
            · have e2 : decide ((j : Int) ≤ 200) = true := by simp; omega
              rw [decide_eq_true h200, HE48.out] at hv
              have hpt : 0 < t.size := by rw [hk]; exact hj0
              obtain ⟨ch, hch⟩ : ∃ ch, t[0] = ch := ⟨_, rfl⟩
              have hX := at_list HT.out hpt
              rw [hch] at hX
              obtain ⟨c, hc⟩ : ∃ c, ch.toNat = c := ⟨_, rfl⟩
              obtain ⟨g, hgg⟩ : ∃ g, ((c : Int) != 48) = g := ⟨_, rfl⟩
              have hh : decide (tl.head? ≠ some 48) = g := by
                rw [List.head?_eq_getElem?, hX, ← hgg]
                by_cases h : c = 48
                · have : ch = 48 := UInt8.toNat_inj.1 (by rw [hc, h]; rfl)
                  rw [this, h]; rfl
                · have : ch ≠ 48 := fun e => h (by rw [← hc, e]; rfl)
                  rw [decide_eq_true (by simpa using this)]; simp; omega
              rw [hh] at hv
              have HV := Lib.hid hv
              clear hX hh hv
              cases e48
              · go_wp2_with fail
                go_ret
                exact ⟨(by rw [HV.out]; simp), Below.refl _ _⟩
              · go_wp2_with fail
                go_ret
                exact ⟨(by rw [HV.out]; rfl), Below.refl _ _⟩
            · have e2 : decide ((j : Int) ≤ 200) = false := by simp; omega
              rw [decide_eq_false h200] at hv
              have HV := Lib.hid hv
              clear hv
              go_wp2_with fail
              go_ret
              exact ⟨(by rw [HV.out]; rfl), Below.refl _ _⟩
    · have hp : 0 < t.size := by omega
      have hb0 := hb hp
      have d0 : decide (0 < k) = true := by simp; omega
      have d2 : ((b : Int) == 45) = false := by simp; omega
      clear hb hb1 hb45
      go_enter Tryz.func150, Tryz.ntmps150
      go_wp2_with fail
      clear d0 d2 hb0 hp
      go_loop [3] (fun iv => ∃ j : Nat, j ≤ k ∧ iv = .int .i64 (j : Int) ∧ Hid ((tl.take j).all dig10 = true)) (fun iv => match iv with | .int _ x => k - x.toNat | _ => 0)
      case atStart => exact ⟨0, Nat.zero_le _, rfl, Lib.hid rfl⟩
      case round =>
        obtain ⟨j, hj, rfl, HA⟩ := hrel
        rcases Nat.lt_or_ge j k with hlt | hge
        · have d1 : decide (j < k) = true := by simp [hlt]
          have hpt : j < t.size := by rw [hk]; exact hlt
          obtain ⟨ch, hch⟩ : ∃ ch, t[j] = ch := ⟨_, rfl⟩
          have hX := at_list HT.out hpt
          rw [hch] at hX
          have HX := Lib.hid hX
          obtain ⟨c, hc⟩ : ∃ c, ch.toNat = c := ⟨_, rfl⟩
          have HC := Lib.hid hc
          have y1 : (0 : Int) ≤ (j : Int) := by omega
          have y2 : (j : Int) < (k : Int) := by omega
          have w1 : IntKind.i64.wrap ((j : Int) + 1) = ((j + 1 : Nat) : Int) := by have := HK1.out; rw [IntKind.wrap_i64]; omega
          clear hX
          by_cases h1 : c < 48
          · have b1 : decide ((c : Int) < 48) = true := by simp; omega
            rw [restV_bad HX.out (by unfold dig10; rw [HC.out]; simp; omega)]
            go_wp2_with fail
            go_ret
            exact ⟨rfl, Below.refl _ _⟩
          · have b1 : decide ((c : Int) < 48) = false := by simp; omega
            by_cases h2 : 57 < c
            · have b2 : decide (57 < (c : Int)) = true := by simp; omega
              rw [restV_bad HX.out (by unfold dig10; rw [HC.out]; simp; omega)]
              go_wp2_with fail
              go_ret
              exact ⟨rfl, Below.refl _ _⟩
            · have b2 : decide (57 < (c : Int)) = false := by simp; omega
              have HN : Hid ((tl.take (j + 1)).all dig10 = true) := Lib.hid (by
                rw [List.take_add_one, HX.out, List.all_append, HA.out]
                simp [dig10]; rw [HC.out]; omega)
              go_wp2_with fail
              go_round
              case rel => exact ⟨j + 1, by omega, rfl, HN⟩
              case measure => simp; omega
        · obtain rfl : j = k := by omega
          have d1 : decide (j < j) = false := by simp
          have hall := HA.out
          rw [List.take_of_length_le (by rw [HKL.out]; omega)] at hall
          have hv := restV_end hall
          rw [HKL.out] at hv
          clear hall
          rcases Nat.eq_zero_or_pos j with rfl | hj0
          · have e1 : decide ((0 : Int) < ((0 : Nat) : Int)) = false := by decide
            have hnil : tl = [] := List.length_eq_zero_iff.1 HKL.out
            have HV : Hid (restV tl = false) := Lib.hid (by rw [hv, hnil]; rfl)
            clear hnil hv
            go_wp2_with fail
            go_ret
            exact ⟨(by rw [HV.out]; rfl), Below.refl _ _⟩
          · have e1 : decide ((0 : Int) < (j : Int)) = true := by simp; omega
            have hne : decide (tl ≠ []) = true := by have := HKL.out; refine decide_eq_true (fun e => ?_); rw [e] at this; simp at this; omega
            rw [hne] at hv
            clear hne
            by_cases h200 : j ≤ 200
            · have e2 : decide ((j : Int) ≤ 200) = true := by simp; omega
              rw [decide_eq_true h200, HE48.out] at hv
              have hpt : 0 < t.size := by rw [hk]; exact hj0
              obtain ⟨ch, hch⟩ : ∃ ch, t[0] = ch := ⟨_, rfl⟩
              have hX := at_list HT.out hpt
              rw [hch] at hX
              obtain ⟨c, hc⟩ : ∃ c, ch.toNat = c := ⟨_, rfl⟩
              obtain ⟨g, hgg⟩ : ∃ g, ((c : Int) != 48) = g := ⟨_, rfl⟩
              have hh : decide (tl.head? ≠ some 48) = g := by
                rw [List.head?_eq_getElem?, hX, ← hgg]
                by_cases h : c = 48
                · have : ch = 48 := UInt8.toNat_inj.1 (by rw [hc, h]; rfl)
                  rw [this, h]; rfl
                · have : ch ≠ 48 := fun e => h (by rw [← hc, e]; rfl)
                  rw [decide_eq_true (by simpa using this)]; simp; omega
              rw [hh] at hv
              have HV := Lib.hid hv
              clear hX hh hv
              cases e48
              · go_wp2_with fail
                go_ret
                exact ⟨(by rw [HV.out]; simp), Below.refl _ _⟩
              · go_wp2_with fail
                go_ret
                exact ⟨(by rw [HV.out]; rfl), Below.refl _ _⟩
            · have e2 : decide ((j : Int) ≤ 200) = false := by simp; omega
              rw [decide_eq_false h200] at hv
              have HV := Lib.hid hv
              clear hv
              go_wp2_with fail
              go_ret
              exact ⟨(by rw [HV.out]; rfl), Below.refl _ _⟩
end Go.Proofs.YteeifhlhpiimoaaGreatDoor
end
section
namespace Go.Proofs.YteeifhlhpiimoaaGreatDoor
open Go Go.RowKit Go.Shelf
attribute [local go_sem] Oper.semAt_some
def zB (z : Int) : ByteArray := ⟨(intS z).toArray⟩
theorem zB_data (z : Int) : (zB z).data.toList = intS z := rfl
theorem zB_size (z : Int) : (zB z).size = (intS z).length := rfl
theorem intS_len (z : Int) : (intS z).length ≤ (decS z.natAbs).length + 1 := by unfold intS; split <;> simp
theorem dec_of_dg {z : Int} (h : (dg z.natAbs).length ≤ 200) : (decS z.natAbs).length ≤ 200 := by rw [decS_len_dg]; omega
theorem zB_valid {z : Int} (h : (dg z.natAbs).length ≤ 200) : validI (zB z).data.toList = true := (text_valid (dec_of_dg h)).1
theorem valid_z {z : Int} (h : (dg z.natAbs).length ≤ 200) (w : World) : Calls Tryz.prog 150 #[.string (zB z)] w (ValP w true) := by
  have := rvalid3_walk (zB z) (by have := intS_len z; have := dec_of_dg h; rw [zB_size]; omega) w
  rw [zB_valid h] at this
  exact this
def ordI (x y : Int) : Int := if x < y then -1 else if y < x then 1 else 0
theorem ordI_nat (a b : Nat) : ordZ a b = ordI (a : Int) (b : Int) := by unfold ordZ ordI; simp only [Int.ofNat_lt]
theorem ordI_abs {x y : Int} (hx : 0 ≤ x) (hy : 0 ≤ y) : ordZ x.natAbs y.natAbs = ordI x y := by rw [ordI_nat]; congr 1 <;> omega
theorem ordI_neg {x y : Int} (hx : x < 0) (hy : y < 0) : ordZ y.natAbs x.natAbs = ordI x y := by
  unfold ordZ ordI
  split <;> split <;> first | rfl | omega | (split <;> first | rfl | omega | (split <;> first | rfl | omega))
set_option maxRecDepth 100000 in
set_option maxHeartbeats 4000000 in
theorem rcompare3_walk (x y : Int) (hx : (dg x.natAbs).length ≤ 200) (hy : (dg y.natAbs).length ≤ 200) (w : World) : Calls Tryz.prog 151 #[.string (zB x), .string (zB y)] w (IntV w (ordI x y)) := by
  have V1 := Lib.hid (fun w => valid_z hx w)
  have V2 := Lib.hid (fun w => valid_z hy w)
  have D1 := Lib.hid (fun w => rdigits_walk x (zB x) rfl hx w)
  have D2 := Lib.hid (fun w => rdigits_walk y (zB y) rfl hy w)
  obtain ⟨s, hs⟩ : ∃ s, zB x = s := ⟨_, rfl⟩
  obtain ⟨t, ht⟩ : ∃ t, zB y = t := ⟨_, rfl⟩
  rw [hs] at V1 D1 ⊢
  rw [ht] at V2 D2 ⊢
  unfold DsP at D1 D2
  clear hx hy hs ht
  by_cases q1 : x < 0 <;> by_cases q2 : y < 0
  · rw [decide_eq_true q1] at D1
    rw [decide_eq_true q2] at D2
    have HR : Hid (∀ v1 v2 W, LsAt W v1 (dg x.natAbs) → LsAt W v2 (dg y.natAbs) → Calls Tryz.prog 218 #[v2, v1] W (IntV W (ordI x y))) := Lib.hid fun v1 v2 W h1 h2 => by rw [← ordI_neg q1 q2]; exact rorder_walk _ _ v2 v1 W h2 h1
    clear q1 q2
    go_enter Tryz.func151, Tryz.ntmps151
    go_wp2_with (first
      | (go_at_call 150; refine (V1.out w).mono ?_; rintro e w1 ⟨rfl, hb⟩; have HW1 := Lib.hid hb; clear hb V1)
      | (go_at_call 150; refine (V2.out w1).mono ?_; rintro e w2 ⟨rfl, hb⟩; have HW2 := Lib.hid (HW1.out.trans (hb.mono HW1.out.size)); clear hb V2 HW1)
      | (go_at_call 217; refine (D1.out w2).mono ?_; rintro e w3 ⟨v1, rfl, hv, -, hb⟩; have HV1 := Lib.hid hv; have HW3 := Lib.hid (HW2.out.trans (hb.mono HW2.out.size)); clear hb hv D1 HW2)
      | (go_at_call 217; refine (D2.out w3).mono ?_; rintro e w4 ⟨v2, rfl, hv, -, hb⟩; have HV2 := Lib.hid hv; have HV1 := Lib.hid (HV1.out.below hb); have HW4 := Lib.hid (HW3.out.trans (hb.mono HW3.out.size)); clear hb hv D2 HW3)
      | (go_at_call 218; refine (HR.out v1 v2 w4 HV1.out HV2.out).mono ?_; rintro e w5 ⟨rfl, hb⟩; have HW5 := Lib.hid (HW4.out.trans (hb.mono HW4.out.size)); clear hb)
      | fail)
    go_ret
    exact ⟨rfl, HW5.out⟩
  · rw [decide_eq_true q1] at D1
    rw [decide_eq_false q2] at D2
    rw [show ordI x y = -1 from by unfold ordI; rw [if_pos (show x < y by omega)]]
    clear q1 q2
    go_enter Tryz.func151, Tryz.ntmps151
    go_wp2_with (first
      | (go_at_call 150; refine (V1.out w).mono ?_; rintro e w1 ⟨rfl, hb⟩; have HW1 := Lib.hid hb; clear hb V1)
      | (go_at_call 150; refine (V2.out w1).mono ?_; rintro e w2 ⟨rfl, hb⟩; have HW2 := Lib.hid (HW1.out.trans (hb.mono HW1.out.size)); clear hb V2 HW1)
      | (go_at_call 217; refine (D1.out w2).mono ?_; rintro e w3 ⟨v1, rfl, hv, -, hb⟩; have HV1 := Lib.hid hv; have HW3 := Lib.hid (HW2.out.trans (hb.mono HW2.out.size)); clear hb hv D1 HW2)
      | (go_at_call 217; refine (D2.out w3).mono ?_; rintro e w4 ⟨v2, rfl, hv, -, hb⟩; have HV2 := Lib.hid hv; have HV1 := Lib.hid (HV1.out.below hb); have HW4 := Lib.hid (HW3.out.trans (hb.mono HW3.out.size)); clear hb hv D2 HW3)
      | fail)
    go_ret
    exact ⟨rfl, HW4.out⟩
  · rw [decide_eq_false q1] at D1
    rw [decide_eq_true q2] at D2
    rw [show ordI x y = 1 from by unfold ordI; rw [if_neg (show ¬ x < y by omega), if_pos (show y < x by omega)]]
    clear q1 q2
    go_enter Tryz.func151, Tryz.ntmps151
    go_wp2_with (first
      | (go_at_call 150; refine (V1.out w).mono ?_; rintro e w1 ⟨rfl, hb⟩; have HW1 := Lib.hid hb; clear hb V1)
      | (go_at_call 150; refine (V2.out w1).mono ?_; rintro e w2 ⟨rfl, hb⟩; have HW2 := Lib.hid (HW1.out.trans (hb.mono HW1.out.size)); clear hb V2 HW1)
      | (go_at_call 217; refine (D1.out w2).mono ?_; rintro e w3 ⟨v1, rfl, hv, -, hb⟩; have HV1 := Lib.hid hv; have HW3 := Lib.hid (HW2.out.trans (hb.mono HW2.out.size)); clear hb hv D1 HW2)
      | (go_at_call 217; refine (D2.out w3).mono ?_; rintro e w4 ⟨v2, rfl, hv, -, hb⟩; have HV2 := Lib.hid hv; have HV1 := Lib.hid (HV1.out.below hb); have HW4 := Lib.hid (HW3.out.trans (hb.mono HW3.out.size)); clear hb hv D2 HW3)
      | fail)
    go_ret
    exact ⟨rfl, HW4.out⟩
  · rw [decide_eq_false q1] at D1
    rw [decide_eq_false q2] at D2
    have HR : Hid (∀ v1 v2 W, LsAt W v1 (dg x.natAbs) → LsAt W v2 (dg y.natAbs) → Calls Tryz.prog 218 #[v1, v2] W (IntV W (ordI x y))) := Lib.hid fun v1 v2 W h1 h2 => by rw [← ordI_abs (by omega) (by omega)]; exact rorder_walk _ _ v1 v2 W h1 h2
    clear q1 q2
    go_enter Tryz.func151, Tryz.ntmps151
    go_wp2_with (first
      | (go_at_call 150; refine (V1.out w).mono ?_; rintro e w1 ⟨rfl, hb⟩; have HW1 := Lib.hid hb; clear hb V1)
      | (go_at_call 150; refine (V2.out w1).mono ?_; rintro e w2 ⟨rfl, hb⟩; have HW2 := Lib.hid (HW1.out.trans (hb.mono HW1.out.size)); clear hb V2 HW1)
      | (go_at_call 217; refine (D1.out w2).mono ?_; rintro e w3 ⟨v1, rfl, hv, -, hb⟩; have HV1 := Lib.hid hv; have HW3 := Lib.hid (HW2.out.trans (hb.mono HW2.out.size)); clear hb hv D1 HW2)
      | (go_at_call 217; refine (D2.out w3).mono ?_; rintro e w4 ⟨v2, rfl, hv, -, hb⟩; have HV2 := Lib.hid hv; have HV1 := Lib.hid (HV1.out.below hb); have HW4 := Lib.hid (HW3.out.trans (hb.mono HW3.out.size)); clear hb hv D2 HW3)
      | (go_at_call 218; refine (HR.out v1 v2 w4 HV1.out HV2.out).mono ?_; rintro e w5 ⟨rfl, hb⟩; have HW5 := Lib.hid (HW4.out.trans (hb.mono HW4.out.size)); clear hb)
      | fail)
    go_ret
    exact ⟨rfl, HW5.out⟩
end Go.Proofs.YteeifhlhpiimoaaGreatDoor
end
section
namespace Go.Proofs.YteeifhlhpiimoaaGreatDoor
open Go Go.RowKit Go.Shelf
attribute [local go_sem] Oper.semAt_some
theorem LsAt.uniqD {w : World} {v : Value} {a b : Nat} (h : LsAt w v (dg a)) (k : LsAt w v (dg b)) : a = b := by
  obtain ⟨A, c, rfl, -, -, -, h4⟩ := h
  obtain ⟨A', c', e, -, -, -, k4⟩ := k
  injection e with e1 e2 e3
  subst e1
  rw [← dv_dg a, h4.uniq k4 e2, dv_dg]
open Classical in
noncomputable def digOf (v : Value) (w : World) : Nat := if h : ∃ b, LsAt w v (dg b) then h.choose else 0
theorem digOf_eq {v : Value} {w : World} {b : Nat} (h : LsAt w v (dg b)) : digOf v w = b := by
  have hx : ∃ b, LsAt w v (dg b) := ⟨b, h⟩
  rw [digOf, dif_pos hx]
  exact hx.choose_spec.uniqD h
theorem dg_nil {n : Nat} : (dg n).length = 0 ↔ n = 0 := by
  rcases Nat.eq_zero_or_pos n with rfl | h
  · rw [dg_zero]; simp
  · rw [dg_pos h]; simp; omega
theorem zB_not0 {y : Nat} (h : 0 < y) : ((zB (y : Int)).toList == [48]) = false := by
  rw [ByteArray.toList_eq, zB_data, beq_eq_false_iff_ne]
  unfold intS
  rw [if_neg (by omega)]
  intro e
  exact decS_head (n := ((y : Int)).natAbs) (by omega) 48 (by rw [e]; rfl) rfl
set_option maxRecDepth 100000 in
set_option maxHeartbeats 4000000 in
theorem rgcd3_walk (x y : Int) (hx : (dg x.natAbs).length ≤ 200) (hy : (dg y.natAbs).length ≤ 200) (w : World) : Calls Tryz.prog 153 #[.string (zB x), .string (zB y)] w (ErP w (txtB false (Nat.gcd x.natAbs y.natAbs))) := by
  have V1 := Lib.hid (fun w => valid_z hx w)
  have V2 := Lib.hid (fun w => valid_z hy w)
  have D1 := Lib.hid (fun w => rdigits_walk x (zB x) rfl hx w)
  have D2 := Lib.hid (fun w => rdigits_walk y (zB y) rfl hy w)
  obtain ⟨g, hg⟩ : ∃ g, Nat.gcd x.natAbs y.natAbs = g := ⟨_, rfl⟩
  have HG := Lib.hid hg
  have HX := Lib.hid hx
  have HY := Lib.hid hy
  rw [hg]
  obtain ⟨s, hs⟩ : ∃ s, zB x = s := ⟨_, rfl⟩
  obtain ⟨t, ht⟩ : ∃ t, zB y = t := ⟨_, rfl⟩
  rw [hs] at V1 D1 ⊢
  rw [ht] at V2 D2 ⊢
  unfold DsP at D1 D2
  clear hx hy hs ht hg
  go_enter Tryz.func153, Tryz.ntmps153
  go_wp2_with (first
    | (go_at_call 150; refine (V1.out w).mono ?_; rintro e w1 ⟨rfl, hb⟩; have HW1 := Lib.hid (hb); clear hb V1)
    | (go_at_call 150; refine (V2.out w1).mono ?_; rintro e w2 ⟨rfl, hb⟩; have HW2 := Lib.hid (HW1.out.trans (hb.mono HW1.out.size)); clear hb V2 HW1)
    | (go_at_call 217; refine (D1.out w2).mono ?_; rintro e w3 ⟨v1, rfl, hv, -, hb⟩; have HV1 := Lib.hid hv; have HW3 := Lib.hid (HW2.out.trans (hb.mono HW2.out.size)); clear hb hv D1 HW2)
    | (go_at_call 217; refine (D2.out w3).mono ?_; rintro e w4 ⟨v2, rfl, hv, -, hb⟩; have HV2 := Lib.hid hv; have HV1 := Lib.hid (HV1.out.below hb); have HW4 := Lib.hid (HW3.out.trans (hb.mono HW3.out.size)); clear hb hv D2 HW3)
    | fail)
  go_loopw [7, 9] (fun va vb wr => ∃ (a b : Nat), LsAt wr va (dg a) ∧ LsAt wr vb (dg b) ∧ Hid (Nat.gcd a b = g) ∧ Hid ((dg a).length ≤ 200 ∧ (dg b).length ≤ 200) ∧ Below w.heap.size w wr) (fun _ vb wr => digOf vb wr)
  case atStart => exact ⟨x.natAbs, y.natAbs, HV1.out, HV2.out, HG, Lib.hid ⟨HX.out, HY.out⟩, HW4.out⟩
  case round =>
    obtain ⟨a, b, ha, hb, HG, HL, hB⟩ := hrel
    have HA := Lib.hid ha
    have HB := Lib.hid hb
    have HBW := Lib.hid hB
    obtain ⟨A3, c3, rfl, -⟩ := ha
    obtain ⟨A4, c4, rfl, -⟩ := hb
    obtain ⟨n3, hn3⟩ : ∃ n3, (dg a).length = n3 := ⟨_, rfl⟩
    obtain ⟨n4, hn4⟩ : ∃ n4, (dg b).length = n4 := ⟨_, rfl⟩
    rw [hn3] at HA ⊢
    rw [hn4] at HB ⊢
    have HN := Lib.hid (And.intro hn3 hn4)
    have hbz : n4 = 0 ↔ b = 0 := by rw [← hn4]; exact dg_nil
    have HBZ := Lib.hid hbz
    clear hB hn3 hn4 hbz
    by_cases h0 : 0 < n4
    · have d1 : decide (0 < n4) = true := by simp [h0]
      have hb0 : 0 < b := by
        rcases Nat.eq_zero_or_pos b with e | e
        · have := HBZ.out.2 e; omega
        · exact e
      have HM := Lib.hid (digOf_eq HB.out)
      have HO := Lib.hid (rdivided_walk a b hb0 _ _ wr HA.out HB.out (by have := HL.out; omega) (by have := HL.out; omega))
      have HB0 := Lib.hid hb0
      clear hb0
      go_wp2_with (first
        | (go_at_call 220; (with_reducible refine HO.out.mono ?_); rintro e w2 ⟨vq, vr, rfl, hq, hr, -, -, hb2⟩; have HR := Lib.hid hr; have HB2 := Lib.hid hb2; clear hq hr hb2)
        | fail)
      refine ⟨⟨b, a % b, HB.out.below HB2.out, HR.out, Lib.hid ?_, Lib.hid ⟨HL.out.2, ?_⟩, HBW.out.trans (HB2.out.mono HBW.out.size)⟩, ?_⟩
      · rw [← HG.out, Nat.gcd_comm a b, Nat.gcd_rec b a, Nat.gcd_comm]
      · exact Nat.le_trans (dg_len_mono (Nat.le_of_lt (Nat.mod_lt _ HB0.out))) HL.out.2
      · have e1 := digOf_eq HR.out
        have e2 := HM.out
        have := Nat.mod_lt a HB0.out
        omega
    · obtain rfl : n4 = 0 := by omega
      obtain rfl : b = 0 := HBZ.out.1 rfl
      have hga : a = g := by have := HG.out; rwa [Nat.gcd_zero_right] at this
      subst hga
      have d1 : decide (0 < 0) = false := by decide
      have HT := Lib.hid (rchecked_walk false a _ wr HA.out HL.out.1)
      go_wp2_with (first
        | (go_at_call 221; (with_reducible refine HT.out.mono ?_); rintro e w2 ⟨rfl, hb2⟩; have HB2 := Lib.hid hb2; clear hb2)
        | fail)
      go_ret2
      exact ⟨rfl, HBW.out.trans (HB2.out.mono HBW.out.size)⟩
set_option maxRecDepth 100000 in
set_option maxHeartbeats 4000000 in
theorem rdiv3_walk (x : Int) (y : Nat) (h0 : 0 < y) (hd : y ∣ x.natAbs) (hx : (dg x.natAbs).length ≤ 200) (hy : (dg y).length ≤ 200) (w : World) : Calls Tryz.prog 154 #[.string (zB x), .string (zB (y : Int))] w (fun e w' => e = .returned (.tuple #[.string (txtB (decide (x < 0)) (x.natAbs / y)), .string (txtB false 0), .int .i64 0]) ∧ Below w.heap.size w w') := by
  have hy' : (dg (y : Int).natAbs).length ≤ 200 := hy
  have V1 := Lib.hid (fun w => valid_z hx w)
  have V2 := Lib.hid (fun w => valid_z hy' w)
  have D1 := Lib.hid (fun w => rdigits_walk x (zB x) rfl hx w)
  have D2 := Lib.hid (fun w => rdigits_walk (y : Int) (zB (y : Int)) rfl hy' w)
  have h48 := zB_not0 h0
  have hq : (dg (x.natAbs / y)).length ≤ 200 := Nat.le_trans (dg_len_mono (Nat.div_le_self _ _)) hx
  have HQ := Lib.hid hq
  have hr : x.natAbs % y = 0 := Nat.mod_eq_zero_of_dvd hd
  have HO := Lib.hid (fun v1 v2 W (h1 : LsAt W v1 (dg x.natAbs)) (h2 : LsAt W v2 (dg y)) => by
    have := rdivided_walk x.natAbs y h0 v1 v2 W h1 h2 (by omega) (by omega)
    rw [hr] at this
    exact this)
  obtain ⟨s, hs⟩ : ∃ s, zB x = s := ⟨_, rfl⟩
  obtain ⟨t, ht⟩ : ∃ t, zB (y : Int) = t := ⟨_, rfl⟩
  rw [hs] at V1 D1 ⊢
  rw [ht] at V2 D2 h48 ⊢
  unfold DsP at D1 D2
  rw [decide_eq_false (show ¬ (y : Int) < 0 by omega)] at D2
  have HT0 := Lib.hid (fun c W => rtext_walk false 0 (.slice none 0 c) W)
  clear hx hy hy' hs ht hq hr hd h0 HT0
  by_cases q1 : x < 0
  · rw [decide_eq_true q1] at D1 ⊢
    clear q1
    go_enter Tryz.func154, Tryz.ntmps154
    go_wp2_with (first
      | (go_at_call 150; refine (V1.out w).mono ?_; rintro e w1 ⟨rfl, hb⟩; have HW1 := Lib.hid (hb); clear hb V1)
      | (go_at_call 150; refine (V2.out w1).mono ?_; rintro e w2 ⟨rfl, hb⟩; have HW2 := Lib.hid (HW1.out.trans (hb.mono HW1.out.size)); clear hb V2 HW1)
      | (go_at_call 217; refine (D1.out w2).mono ?_; rintro e w3 ⟨v1, rfl, hv, -, hb⟩; have HV1 := Lib.hid hv; have HW3 := Lib.hid (HW2.out.trans (hb.mono HW2.out.size)); clear hb hv D1 HW2)
      | (go_at_call 217; refine (D2.out w3).mono ?_; rintro e w4 ⟨v2, rfl, hv, -, hb⟩; have HV2 := Lib.hid hv; have HV1 := Lib.hid (HV1.out.below hb); have HW4 := Lib.hid (HW3.out.trans (hb.mono HW3.out.size)); clear hb hv D2 HW3)
      | (go_at_call 220; (refine (HO.out v1 v2 w4 HV1.out HV2.out).mono ?_); rintro e w5 ⟨vq, vr, rfl, hq, hr, -, -, hb⟩; have HVQ := Lib.hid hq; have HVR := Lib.hid hr; have HW5 := Lib.hid (HW4.out.trans (hb.mono HW4.out.size)); obtain ⟨Ar, cr, rfl, -⟩ := hr; clear hb hq HW4; have er : (dg 0).length = 0 := dg_nil.2 rfl; rw [er] at HVR ⊢)
      | (go_at_call 221; refine (rchecked_walk true _ vq w5 HVQ.out HQ.out).mono ?_; rintro e w6 ⟨rfl, hb⟩; have HVR := Lib.hid (HVR.out.below hb); have HW6 := Lib.hid (HW5.out.trans (hb.mono HW5.out.size)); clear hb HW5)
      | (go_at_call 155; refine (rtext_walk false 0 _ w6 HVR.out (by rw [er]; omega)).mono ?_; rintro e w7 ⟨rfl, hb⟩; have HW7 := Lib.hid (HW6.out.trans (hb.mono HW6.out.size)); clear hb HW6)
      | fail)
    refine bodyPost_ret (v := .tuple #[_, _, _]) (by simp [results]) rfl ⟨rfl, HW7.out⟩
  · rw [decide_eq_false q1] at D1 ⊢
    clear q1
    go_enter Tryz.func154, Tryz.ntmps154
    go_wp2_with (first
      | (go_at_call 150; refine (V1.out w).mono ?_; rintro e w1 ⟨rfl, hb⟩; have HW1 := Lib.hid (hb); clear hb V1)
      | (go_at_call 150; refine (V2.out w1).mono ?_; rintro e w2 ⟨rfl, hb⟩; have HW2 := Lib.hid (HW1.out.trans (hb.mono HW1.out.size)); clear hb V2 HW1)
      | (go_at_call 217; refine (D1.out w2).mono ?_; rintro e w3 ⟨v1, rfl, hv, -, hb⟩; have HV1 := Lib.hid hv; have HW3 := Lib.hid (HW2.out.trans (hb.mono HW2.out.size)); clear hb hv D1 HW2)
      | (go_at_call 217; refine (D2.out w3).mono ?_; rintro e w4 ⟨v2, rfl, hv, -, hb⟩; have HV2 := Lib.hid hv; have HV1 := Lib.hid (HV1.out.below hb); have HW4 := Lib.hid (HW3.out.trans (hb.mono HW3.out.size)); clear hb hv D2 HW3)
      | (go_at_call 220; (refine (HO.out v1 v2 w4 HV1.out HV2.out).mono ?_); rintro e w5 ⟨vq, vr, rfl, hq, hr, -, -, hb⟩; have HVQ := Lib.hid hq; have HVR := Lib.hid hr; have HW5 := Lib.hid (HW4.out.trans (hb.mono HW4.out.size)); obtain ⟨Ar, cr, rfl, -⟩ := hr; clear hb hq HW4; have er : (dg 0).length = 0 := dg_nil.2 rfl; rw [er] at HVR ⊢)
      | (go_at_call 221; refine (rchecked_walk false _ vq w5 HVQ.out HQ.out).mono ?_; rintro e w6 ⟨rfl, hb⟩; have HVR := Lib.hid (HVR.out.below hb); have HW6 := Lib.hid (HW5.out.trans (hb.mono HW5.out.size)); clear hb HW5)
      | (go_at_call 155; refine (rtext_walk false 0 _ w6 HVR.out (by rw [er]; omega)).mono ?_; rintro e w7 ⟨rfl, hb⟩; have HW7 := Lib.hid (HW6.out.trans (hb.mono HW6.out.size)); clear hb HW6)
      | fail)
    refine bodyPost_ret (v := .tuple #[_, _, _]) (by simp [results]) rfl ⟨rfl, HW7.out⟩
end Go.Proofs.YteeifhlhpiimoaaGreatDoor
end
