/-
  The law KnownOrder returns true. Conditions: its arguments lie in memory; the table of powers stands.
-/
import Derived.Test.YteeifhlhpiimoaaGreatDoorQAa
import Derived.Test.YteeifhlhpiimoaaGreatDoorQAp
import Derived.Test.YteeifhlhpiimoaaGreatDoorQAq
namespace Go.Proofs.YteeifhlhpiimoaaGreatDoor
open Go Go.RowKit Go.Shelf Wr
attribute [local go_sem] Oper.semAt_some
def dayE (e : Ent) (u : Int) : Ent := { e with day := u }
set_option maxRecDepth 100000 in
set_option maxHeartbeats 8000000 in
theorem korder_walk (w : World) (hp : Pow10 w) (l1 l2 : List Six) (A1 A2 A3 : Option Addr) (n1 c1 n2 c2 n3 c3 : Nat) (ks : List Int) (day : Int) (hn1 : l1.length = n1) (hn2 : l2.length = n2) (hn3 : ks.length = n3) (hm1 : n1 ≤ maxLen) (hm2 : n2 ≤ maxLen) (hm3 : n3 ≤ maxLen)
    (ho1 : ∀ y ∈ l1, y.Ok) (ho2 : ∀ y ∈ l2, y.Ok) (ho3 : ∀ k ∈ ks, I64 k) (hday : I64 day) (hA1 : SixAt w A1 l1) (hA2 : SixAt w A2 l2) (hA3 : LAt w w.heap.size A3 iv ks) :
    Calls Tryz.prog 3 #[.slice A1 n1 c1, .slice A2 n2 c2, .int .i64 day, .slice A3 n3 c3] w (ValP w true) := by
  have HP := Lib.hid hp
  have HA1 := Lib.hid hA1
  have HA2 := Lib.hid hA2
  have HA3 := Lib.hid hA3
  have HN3 := Lib.hid hn3
  have HO3 := Lib.hid ho3
  have HM3 := Lib.hid hm3
  have IE := fun e : Ent => Lib.hid (ientry (e := e))
  have IS := fun e : Ent => Lib.hid (show (Tryz.prog.info? 33).map (·.size) = some e.cells.toArray.size from ientry (e := e))
  have S1 := Lib.hid (fun W (h : Below w.heap.size w W) => some_walk l1 A1 n1 c1 hn1 hm1 ho1 W (hA1.below h))
  have S2 := Lib.hid (fun W (h : Below w.heap.size w W) => some_walk l2 A2 n2 c2 hn2 hm2 ho2 W (hA2.below h))
  obtain ⟨L, hL⟩ : ∃ L, (l1.take 30).map someE = L := ⟨_, rfl⟩
  obtain ⟨M, hM⟩ : ∃ M, (l2.take 30).map someE = M := ⟨_, rfl⟩
  have HLT : Hid (L.length ≤ 30 ∧ ∀ e ∈ L, Texts e) := Lib.hid ⟨by rw [← hL]; simp; omega, fun e he => by rw [← hL] at he; obtain ⟨y, _, rfl⟩ := List.mem_map.1 he; exact some_texts y⟩
  have HMT : Hid (M.length ≤ 30 ∧ ∀ e ∈ M, Texts e ∧ 0 ≤ e.day ∧ e.day < 30) := Lib.hid ⟨by rw [← hM]; simp; omega, fun e he => by rw [← hM] at he; obtain ⟨y, _, rfl⟩ := List.mem_map.1 he; exact ⟨some_texts y, some_day y⟩⟩
  rw [hL] at S1
  rw [hM] at S2
  obtain ⟨d, hd⟩ : ∃ d, pickZ day 31 = d := ⟨_, rfl⟩
  have rd := pickZ_range day (n := 31) (by omega)
  rw [hd] at rd
  have HD := Lib.hid hd
  have HRD := Lib.hid rd
  have HI1 := Lib.hid hday.1
  have HI2 := Lib.hid hday.2
  clear hp hn1 hn2 hn3 hm1 hm2 hm3 ho1 ho2 ho3 hday hA1 hA2 hA3 hL hM hd rd
  go_enter Tryz.func3, Tryz.ntmps3
  go_wp2_with (first
    | (go_at_call 11; refine (sane_walk _ HP.out).mono ?_; rintro e2 w1 ⟨rfl, hb⟩; have HB1 := Lib.hid hb; clear hb)
    | (go_at_call 12; refine (S1.out w1 HB1.out).mono ?_; rintro e2 w2 ⟨v10, rfl, ho, hb⟩; have HO1 := Lib.hid ho; have HB2 := Lib.hid (HB1.out.trans (hb.mono HB1.out.size)); obtain ⟨AL, cL, rfl, hcl, hcm⟩ := ho.slice; clear hb ho HB1)
    | (go_at_call 13; (with_reducible refine (pick19_walk _ day 31 HI1.out HI2.out (by omega) (by omega)).mono ?_); rintro e2 w2' ⟨rfl, rfl⟩; rw [HD.out])
    | fail)
  obtain ⟨a, ha⟩ : ∃ a, L.length = a := ⟨_, rfl⟩
  have HLA := Lib.hid ha
  rw [ha] at HO1 hcl ⊢
  obtain ⟨h, hh⟩ : ∃ h, a / 2 = h := ⟨_, rfl⟩
  have ha30 : a ≤ 30 := by have := HLT.out.1; omega
  have tq : Int.tdiv (a : Int) 2 = (h : Int) := by rw [Int.tdiv_eq_ediv_of_nonneg (by omega)]; omega
  have tq2 : (a : Int) / 2 = (h : Int) := by omega
  have wq : IntKind.i64.wrap (h : Int) = (h : Int) := by rw [IntKind.wrap_i64]; omega
  have HLH : Hid ((L.take h).length = h) := Lib.hid (by rw [List.length_take]; omega)
  have HHA : Hid (h ≤ a) := Lib.hid (by omega)
  have q0 : (0 : Int) ≤ (h : Int) := by omega
  have q1 : (h : Int) ≤ (cL : Int) := by omega
  have q2 : h ≤ cL := by omega
  have HC0 : Hid (AL = none → cL = 0) := Lib.hid HO1.out.nilcap
  have HO2 : Hid (OL w2.drew w1.heap.size 33 18 Ent.cells (.slice AL a cL) L) := Lib.hid HO1.out.drew
  have HB3 : Hid (Below w.heap.size w w2.drew) := Lib.hid (Below.drew HB2.out)
  clear ha hh hcl hcm HO1 HB2
  refine wp_region_noPanic ?_
  refine wp_region_held_drew (S := fun _ => True) (by kernel_rfl) trivial (fun hHeld => ?_)
  obtain ⟨U0, hU0⟩ : ∃ U0, w2.drew = U0 := ⟨_, rfl⟩
  rw [hU0] at HO2 HB3 ⊢
  clear hU0
  refine tk 1 ?_
  refine tk 3 ?_
  refine tk 4 ?_
  refine tk 5 ?_
  refine tk 6 ?_
  refine tk 7 ?_
  refine rd [0] ?_
  refine rc (fun K hK => ?_) ?_
  ·
   go_simp
   obtain ⟨U1, hU1⟩ : ∃ U1, U0.alloc (.cells #[] 33) = U1 := ⟨_, rfl⟩
   obtain ⟨g0, hg0⟩ : ∃ g, U0.heap.size = g := ⟨_, rfl⟩
   have HZ : Hid (OL U1 U0.heap.size 33 18 Ent.cells (.slice (some ⟨g0, 0, none⟩) 0 0) []) := Lib.hid (by rw [← hU1, ← hg0]; exact OL.lit0E U0 (Nat.le_refl _))
   have HBZ : Hid (Below U0.heap.size U0 U1) := Lib.hid (by rw [← hU1]; exact below_new _ _)
   rw [hU1, hg0]
   clear hU1 hg0
   refine kk hK (trivial) (fun hHeld => ?_)
   clear hK K
   refine rd [2] ?_
   refine rc (fun K hK => ?_) ?_
   ·
    refine step_cat (by rfl) (.tmp 23) (.tmp 24) 25 (by rfl) elemEnt (fun _ => rfl) _ [] (by rfl) HZ.out AL L a cL HLA.out (by rfl) HC0.out ((HO2.out.below HBZ.out (Nat.le_refl _)).cats) (fun x _ => one_cells' x) (by have := HLT.out.1; have := HLA.out; unfold maxLen; simp; omega) (by have := HLT.out.1; have := HLA.out; simp; omega) HBZ.out.size ?_
    intro v25 U2 h2 _ hb2
    have HV25 := Lib.hid h2
    have HB5 := Lib.hid (HBZ.out.trans hb2)
    clear h2 hb2
    refine kk hK (trivial) (fun hHeld => ?_)
    clear hK K
    refine rd [8] ?_
    refine rc (fun K hK => ?_) ?_
    ·
     refine step_cat (by rfl) (.tmp 25) (.tmp 30) 25 (by rfl) elemEnt (fun _ => rfl) _ ([] ++ L) (by rfl) HV25.out AL (L.take h) h cL HLH.out (by rfl) HC0.out ((HO2.out.below HB5.out (Nat.le_refl _)).cut) (fun x _ => one_cells' x) (by have := HLT.out.1; have := HLA.out; have := HHA.out; unfold maxLen; simp; omega) (by have := HLT.out.1; have := HLA.out; have := HHA.out; simp; omega) HB5.out.size ?_
     intro v31 U3 h3 _ hb3
     have HV31 := Lib.hid h3
     have HB6 := Lib.hid (HB5.out.trans hb3)
     clear h3 hb3
     refine kk hK (trivial) (fun hHeld => ?_)
     clear hK K
     refine tk 9 ?_
     refine dn ?_
     have HLL : Hid (([] ++ L) ++ L.take h = L ++ L.take h) := Lib.hid (by simp)
     have HO4 := Lib.hid (HO2.out.below HB6.out (Nat.le_refl _))
     have HB4 := Lib.hid (HB3.out.trans (HB6.out.mono HB3.out.size))
     clear hHeld HZ HBZ HV25 HB5 tq tq2 wq q0 q1 q2
     go_wp2_with (first
       | (go_at_call 12; refine (S2.out U3 HB4.out).mono ?_; rintro e2 w4 ⟨v12, rfl, ho, hb⟩; have HO5 := Lib.hid ho; have HV := Lib.hid (HV31.out.below hb (Nat.le_refl _)); have HV31x := HV31; have HBU := Lib.hid (HB6.out.trans (hb.mono HB6.out.size)); have HO6 := Lib.hid (HO4.out.below hb (Nat.le_refl _)); have HB7 := Lib.hid (HB4.out.trans (hb.mono HB4.out.size)); obtain ⟨AM, cM, rfl, hcl, hcm⟩ := ho.slice; clear hb ho HB4 HV31 HO4)
       | fail)
     obtain ⟨b, hb⟩ : ∃ b, M.length = b := ⟨_, rfl⟩
     have HLM := Lib.hid hb
     rw [hb] at HO5 hcl ⊢
     have hb30 : b ≤ 30 := by have := HMT.out.1; omega
     have HB30 := Lib.hid hb30
     obtain ⟨N0, hN0⟩ : ∃ N0, U0.heap.size = N0 := ⟨_, rfl⟩
     rw [hN0] at HV
     have HN0 := Lib.hid hN0
     have HAP : Hid (∀ g, v31.ownBlock = some g → (Value.slice AM b cM).ownBlock ≠ some g) := Lib.hid fun g hg hg2 => by
       have h1 := (HV31x.out.lt g hg).2
       have h2 := (HO5.out.lt g hg2).1
       omega
     have HB8 : Hid (Below N0 U0 w4) := Lib.hid (by rw [← HN0.out]; exact HBU.out)
     have HV' : Hid (OL w4 N0 33 18 Ent.cells v31 ((L ++ L.take h) ++ (M.take 0).map (lateE d))) := Lib.hid (by have := HV.out; rw [HLL.out] at this; simpa using this)
     clear hb hN0 hcl hcm HV
     go_loopw [11, 13] (fun mv xv wr => ∃ (vv : Value) (k : Nat), vv = mv ∧ xv = .int .i64 (k : Int) ∧ k ≤ b ∧ Hid (OL wr N0 33 18 Ent.cells vv ((L ++ L.take h) ++ (M.take k).map (lateE d))) ∧ Hid (OL wr U3.heap.size 33 18 Ent.cells (.slice AM b cM) M) ∧ Hid (∀ g, vv.ownBlock = some g → (Value.slice AM b cM).ownBlock ≠ some g) ∧ Hid (Below N0 U0 wr)) (fun _ x _ => b - (intOf x).toNat)
     case atStart => exact ⟨_, 0, rfl, rfl, Nat.zero_le _, HV', HO5, HAP, HB8⟩
     case round =>
       clear HV' HO5 HAP HB8 HO6 HB7
       obtain ⟨vv, k, rfl, rfl, hk, HV, HO5, HAP, HB8⟩ := hrel
       have d1 : decide ((k : Int) < (b : Int)) = decide (k < b) := by simp
       by_cases hkb : k < b
       · have d2 : decide (k < b) = true := by simp [hkb]
         obtain ⟨e, he⟩ : ∃ e, M[k]? = some e := ⟨_, List.getElem?_eq_getElem (by rw [HLM.out]; exact hkb)⟩
         have HE := Lib.hid he
         have HED := Lib.hid (HMT.out.2 e (List.mem_of_getElem? he)).2
         obtain ⟨gM, capM, e1, -, -, -, -⟩ := HO5.out.form (by rw [HLM.out]; omega)
         injection e1 with e1 e2 e3
         subst e1 e3
         have HRG := Lib.hid (HO5.out.row he)
         obtain ⟨x, hx⟩ : ∃ x, e.day = x := ⟨_, rfl⟩
         have HXD := Lib.hid hx
         have hx30 : 0 ≤ x ∧ x < 30 := by rw [← hx]; exact HED.out
         have hd31 := HRD.out
         obtain ⟨u1, hu1⟩ : ∃ u, d + 1 = u := ⟨_, rfl⟩
         obtain ⟨u2, hu2⟩ : ∃ u, u1 + x = u := ⟨_, rfl⟩
         have wu1 : IntKind.i64.wrap u1 = u1 := by rw [IntKind.wrap_i64]; omega
         have wu2 : IntKind.i64.wrap u2 = u2 := by rw [IntKind.wrap_i64]; omega
         have z1 : (0 : Int) ≤ (k : Int) := by omega
         have z2 : (k : Int) < (b : Int) := by omega
         have wk : IntKind.i64.wrap ((k : Int) + 1) = ((k + 1 : Nat) : Int) := by rw [IntKind.wrap_i64]; omega
         have HLE : Hid (lateE d e = dayE e u2) := Lib.hid (by unfold lateE dayE; rw [hx, hu1, hu2])
         have HBs : Hid (N0 ≤ wr.heap.size) := Lib.hid (by have := HB8.out.size; rw [HN0.out] at this; exact this)
         have HKB := Lib.hid hkb
         obtain ⟨ml, hml⟩ : ∃ ml, (L ++ L.take h) ++ (M.take k).map (lateE d) = ml := ⟨_, rfl⟩
         have HML := Lib.hid hml
         rw [hml] at HV
         have HMK : Hid (ml.length ≤ 90) := Lib.hid (by rw [← hml]; have := HLA.out; have := HLH.out; simp; omega)
         obtain ⟨mn, hmn⟩ : ∃ mn, ml.length = mn := ⟨_, rfl⟩
         have HMN := Lib.hid hmn
         rw [hmn] at HMK
         clear he hx hml hmn hx30 hd31 e2 hkb
         go_wp2_with (first
           | ((with_reducible refine wpList_load_mid rfl 33 (.tmp 42) rfl gM (k * 18) ?hx e.cells _ HRG.out Tryz.underlying33 rfl (IE _).out ?_); (case hx => first | rfl | simp [Addr.add]))
           | ((with_reducible refine store_new rfl (.tmp 14) (.tmp 43) rfl rfl e ?hx ?hy (IS _).out ?hold ?_); (case hx => rfl); (case hy => rfl); (case hold => rfl); intro w5 he5 hb5 hs5
              obtain ⟨b14, hb14⟩ : ∃ q, wr.heap.size = q := ⟨_, rfl⟩
              have HB14 := Lib.hid hb14
              rw [hb14] at he5
              have HE5 := Lib.hid he5
              have HB5 := Lib.hid hb5
              have x1 : w5.cell? ⟨b14, 3, none⟩ = some (.int .i64 x) := by rw [← HXD.out]; exact he5.cell (i := 3) rfl
              have x2 := he5.free 3
              have HE6 := Lib.hid (he5.setc (e' := dayE e u2) 3 (.int .i64 u2) rfl)
              have HB6' := Lib.hid (hb5.setCell (p := ⟨b14, 3, none⟩) (Nat.le_of_eq hb14) (.int .i64 u2))
              obtain ⟨w6, hw6⟩ : ∃ w6, w5.setCell ⟨b14, 3, none⟩ (.int .i64 u2) = w6 := ⟨_, rfl⟩
              rw [hw6] at HE6 HB6'
              have HR6 := Lib.hid (range_of (cs := (dayE e u2).cells) HE6.out)
              clear he5 hb5 hs5)
           | ((with_reducible refine wpList_load_mid rfl 33 (.tmp 14) rfl b14 0 ?hx (dayE e u2).cells _ HR6.out Tryz.underlying33 rfl (IE _).out ?_); (case hx => first | rfl | (rw [← HB14.out]; rfl)))
           | ((with_reducible refine wpList_build_ent rfl (.tmp 51) rfl (dayE e u2) ?hx ?_); (case hx => rfl); intro bn V9 hbn hV9; have HV9 := Lib.hid (show V9.heap[bn]? = some (.cells (dayE e u2).cells.toArray 33 (0, 0)) from by rw [← hV9, ← hbn]; exact World.alloc_heap_new _ _); have HBV := Lib.hid (show Below wr.heap.size wr V9 from by rw [← hV9]; exact HB6'.out.trans ((below_new _ _).mono HB6'.out.size)); clear hbn hV9)
           | (at_builtin; refine wpList_app rfl (.tmp 50) (.tmp 52) 25 rfl elemEnt vv ml mn HMN.out rfl (HV.out.below HBV.out (Nat.le_refl _)) (dayE e u2) bn (dayE e u2).cells.toArray rfl HV9.out rfl rfl (one_cells' _) (by have := HMN.out; have := HMK.out; unfold maxLen; omega) (by have := HMN.out; have := HMK.out; omega) (Nat.le_trans HBs.out HBV.out.size) ?_; intro g3 c3' w3 h3 hg3 hor _ hb3; have HO7 := Lib.hid h3; have HG3 := Lib.hid hg3; have HOR := Lib.hid hor; have HB9 := Lib.hid (HB8.out.trans ((HBV.out.mono HBs.out).trans hb3)); clear h3 hg3 hor hb3)
           | fail)
         go_roundw
         case rel =>
           have HO8 := HO5.out.below HBV.out (Nat.le_refl _)
           refine ⟨_, k + 1, rfl, by go_num, HKB.out, Lib.hid ?_, Lib.hid (HO8.grown HG3.out fun g hg e => HAP.out g e hg), Lib.hid fun g hg => ?_, HB9⟩
           · have h1 := HO7.out
             rw [← HML.out, ← HLE.out, List.append_assoc] at h1
             rw [List.take_add_one, HE.out, List.map_append]
             exact h1
           · have hgg : g3 = g := by injection hg
             subst hgg
             rcases HOR.out with q | q
             · exact HAP.out _ q
             · intro q2
               have := (HO8.lt _ q2).2
               omega
         case measure => simp [intOf]; have := HKB.out; omega
       · have d2 : decide (k < b) = false := by simp; omega
         obtain rfl : k = b := by omega
         go_wp2_with fail
         have HVe := HV
         have HB8' := HB8
         obtain ⟨Am, cm, rfl, -, -⟩ := HV.out.slice
         obtain ⟨m0, hm0⟩ : ∃ m0, (L ++ L.take h) ++ (M.take k).map (lateE d) = m0 := ⟨_, rfl⟩
         have HM0 := Lib.hid hm0
         rw [hm0] at HV ⊢
         have hmm : m0.length ≤ 90 := by rw [← hm0]; have := HLA.out; have := HLH.out; simp; omega
         obtain ⟨mn, hmn⟩ : ∃ mn, m0.length = mn := ⟨_, rfl⟩
         rw [hmn] at HV hmm ⊢
         have HMN := Lib.hid hmn
         have HMM := Lib.hid hmm
         clear HVe hm0 hmn
         go_wp2_with fail
         go_loopw [15] (fun xv wr => ∃ (i : Nat) (ml : List Ent), xv = .int .i64 (i : Int) ∧ i ≤ n3 ∧ i ≤ 90 ∧ Hid (ml.Perm m0) ∧ Hid (OL wr N0 33 18 Ent.cells (.slice Am mn cm) ml) ∧ Hid (Below N0 U0 wr)) (fun x _ => 90 - (intOf x).toNat)
         case atStart => exact ⟨0, m0, rfl, Nat.zero_le _, Nat.zero_le _, Lib.hid (List.Perm.refl _), HV, HB8⟩
         case round =>
           clear HV HB8 HB8' HO5 HAP
           obtain ⟨i, ml, rfl, hi, hi90, HPM, HV, HB8⟩ := hrel
           by_cases hgo : i < n3 ∧ i < 90 ∧ 0 < mn
           · obtain ⟨g1, g2, g3⟩ := hgo
             obtain ⟨a3, rfl, ha3, hc3⟩ := HA3.out.get (i := i) (by rw [HN3.out]; exact g1)
             obtain ⟨kv, hkv⟩ : ∃ kv, ks[i]'(by rw [HN3.out]; exact g1) = kv := ⟨_, rfl⟩
             have hk64 : I64 kv := by rw [← hkv]; exact HO3.out _ (List.getElem_mem _)
             rw [hkv] at hc3
             unfold iv at hc3
             have hBw : Below w.heap.size w wr := HB3.out.trans (by have := HB8.out; rw [← HN0.out] at this; exact this.mono HB3.out.size)
             have x0 : wr.cell? (a3.add i) = some (.int .i64 kv) := (hBw.cell (p := a3.add i) (by rw [addr_add_block]; exact ha3)).trans hc3
             have d1 : decide (i < n3) = true := by simp [g1]
             have d2 : decide ((i : Int) < 90) = true := by simp; omega
             have d3 : decide (0 < mn) = true := by simp [g3]
             have d4 : decide ((0 : Int) < (mn : Int)) = true := by simp [g3]
             have z1 : (0 : Int) ≤ (i : Int) := by omega
             have z2 : (i : Int) < (n3 : Int) := by omega
             have wi : IntKind.i64.wrap ((i : Int) + 1) = ((i + 1 : Nat) : Int) := by rw [IntKind.wrap_i64]; omega
             have hmn9 := HMM.out
             obtain ⟨s7, hs7⟩ : ∃ s, Int.tdiv kv 7 = s := ⟨_, rfl⟩
             have hs64 := tdiv_I64 hk64 (by omega) hs7
             have ws7 : IntKind.i64.wrap s7 = s7 := wrap_of hs64
             have ra := pickZ_range kv (n := (mn : Int)) (by omega)
             have rb := pickZ_range s7 (n := (mn : Int)) (by omega)
             obtain ⟨pa, hpa⟩ : ∃ p : Nat, pickZ kv (mn : Int) = (p : Int) := ⟨(pickZ kv (mn : Int)).toNat, by omega⟩
             obtain ⟨pb, hpb⟩ : ∃ p : Nat, pickZ s7 (mn : Int) = (p : Int) := ⟨(pickZ s7 (mn : Int)).toNat, by omega⟩
             rw [hpa] at ra
             rw [hpb] at rb
             have HPK1 : Hid (∀ W, Calls Tryz.prog 13 #[.int .i64 kv, .int .i64 (mn : Int)] W fun e W' => e = .returned (.int .i64 (pa : Int)) ∧ W = W') := Lib.hid fun W => by rw [← hpa]; exact pick19_walk W kv _ hk64.1 hk64.2 (by omega) (by omega)
             have HPK2 : Hid (∀ W, Calls Tryz.prog 13 #[.int .i64 s7, .int .i64 (mn : Int)] W fun e W' => e = .returned (.int .i64 (pb : Int)) ∧ W = W') := Lib.hid fun W => by rw [← hpb]; exact pick19_walk W s7 _ hs64.1 hs64.2 (by omega) (by omega)
             have HLN : Hid (ml.length = mn) := Lib.hid (by rw [HPM.out.length_eq]; exact HMN.out)
             have HPA : Hid (pa < mn) := Lib.hid (by omega)
             have HPB : Hid (pb < mn) := Lib.hid (by omega)
             obtain ⟨ea, hea⟩ : ∃ e, ml[pa]? = some e := ⟨_, List.getElem?_eq_getElem (by rw [HLN.out]; exact HPA.out)⟩
             obtain ⟨eb, heb⟩ : ∃ e, ml[pb]? = some e := ⟨_, List.getElem?_eq_getElem (by rw [HLN.out]; exact HPB.out)⟩
             have HSW := Lib.hid (swap_perm hea heb)
             obtain ⟨g, cg, e1, hgN, -, -, -⟩ := HV.out.form (by rw [HLN.out]; exact g3)
             injection e1 with e1 e2 e3
             subst e1 e3
             have HGN := Lib.hid hgN
             have HVd := Lib.hid HV.out.drew
             have HBd : Hid (Below N0 U0 wr.drew) := Lib.hid (Below.drew HB8.out)
             have HRa := Lib.hid (HVd.out.row hea)
             have HRb := Lib.hid (HVd.out.row heb)
             have y1 : (0 : Int) ≤ (pa : Int) := by omega
             have y2 : (pa : Int) < (mn : Int) := by omega
             have y3 : (0 : Int) ≤ (pb : Int) := by omega
             have y4 : (pb : Int) < (mn : Int) := by omega
             have HG := Lib.hid (And.intro g1 g2)
             clear hkv hc3 hk64 hs64 ra rb hpa hpb hea heb hgN e2 hBw hmn9 g1 g2
             go_wp2_with (first
               | (go_at_call 13; (with_reducible refine (HPK1.out _).mono ?_); rintro e2 W2 ⟨rfl, rfl⟩; clear HPK1)
               | (go_at_call 13; (with_reducible refine (HPK2.out _).mono ?_); rintro e2 W2 ⟨rfl, rfl⟩; clear HPK2)
               | fail)
             refine wp_region_noPanic ?_
             refine wp_region_held_drew (S := fun _ => True) (by kernel_rfl) trivial (fun hHeld => ?_)
             obtain ⟨U5, hU5⟩ : ∃ U, wr.drew = U := ⟨_, rfl⟩
             rw [hU5] at HVd HBd HRa HRb ⊢
             clear hU5
             refine tk 0 ?_
             refine tk 1 ?_
             refine tk 2 ?_
             refine tk 3 ?_
             refine tk 4 ?_
             refine tk 5 ?_
             refine tk 6 ?_
             refine tk 8 ?_
             refine tk 9 ?_
             refine tk 10 ?_
             refine rd [7, 11] ?_
             refine rc (fun K hK => ?_) ?_
             ·
              refine step_yields (S := fun U => U.rangeAt g (pb * 18) eb.cells) (yieldsIf_load_mid (by rfl) 33 (.tmp 90) rfl g (pb * 18) (by first | rfl | simp [Addr.add]) eb.cells _ (fun w hw => hw) Tryz.underlying33 rfl (IE _).out) (by rfl) HRb.out ?_
              refine kk hK (trivial) (fun hHeld => ?_)
              clear hK K
              refine rd [11] ?_
              refine rc (fun K hK => ?_) ?_
              ·
               refine step_yields (S := fun U => U.rangeAt g (pa * 18) ea.cells) (yieldsIf_load_mid (by rfl) 33 (.tmp 94) rfl g (pa * 18) (by first | rfl | simp [Addr.add]) ea.cells _ (fun w hw => hw) Tryz.underlying33 rfl (IE _).out) (by rfl) HRa.out ?_
               refine kk hK (trivial) (fun hHeld => ?_)
               clear hK K
               refine tk 12 ?_
               refine rd [13] ?_
               refine rc (fun K hK => ?_) ?_
               ·
                refine step_store_mid (by rfl) (.tmp 96) (.tmp 91) (by rfl) (by rfl) g (pa * 18) eb (by first | rfl | simp [Addr.add]) (by rfl) (IS _).out (HVd.out.there HPA.out) ?_
                have HV1 := Lib.hid (HVd.out.put HPA.out eb)
                have HBB1 := Lib.hid (Below.setCells HGN.out eb.cells (pa * 18) HBd.out)
                obtain ⟨V1, hV1⟩ : ∃ V, U5.setCells g (pa * 18) eb.cells = V := ⟨_, rfl⟩
                rw [hV1] at HV1 HBB1 ⊢
                clear hV1
                refine kk hK (trivial) (fun hHeld => ?_)
                clear hK K
                refine tk 14 ?_
                refine rd [15] ?_
                refine rc (fun K hK => ?_) ?_
                ·
                 refine step_store_mid (by rfl) (.tmp 97) (.tmp 95) (by rfl) (by rfl) g (pb * 18) ea (by first | rfl | simp [Addr.add]) (by rfl) (IS _).out (HV1.out.there HPB.out) ?_
                 have HV2 := Lib.hid (HV1.out.put HPB.out ea)
                 have HBB2 := Lib.hid (Below.setCells HGN.out ea.cells (pb * 18) HBB1.out)
                 obtain ⟨V2, hV2⟩ : ∃ V, V1.setCells g (pb * 18) ea.cells = V := ⟨_, rfl⟩
                 rw [hV2] at HV2 HBB2 ⊢
                 clear hV2
                 refine kk hK (trivial) (fun hHeld => ?_)
                 clear hK K
                 refine dn ?_
                 clear hHeld
                 go_wp2_with fail
                 go_round
                 case rel => exact ⟨i + 1, _, rfl, by have := HG.out; omega, by have := HG.out; omega, Lib.hid (HSW.out.trans HPM.out), HV2, HBB2⟩
                 case measure => simp [intOf]; have := HG.out; omega
                exact AllReadyH.nil
               exact AllReadyH.nil
              exact AllReadyH.nil
             refine rc (fun K hK => ?_) ?_
             ·
              refine step_yields (S := fun U => U.rangeAt g (pa * 18) ea.cells) (yieldsIf_load_mid (by rfl) 33 (.tmp 94) rfl g (pa * 18) (by first | rfl | simp [Addr.add]) ea.cells _ (fun w hw => hw) Tryz.underlying33 rfl (IE _).out) (by rfl) HRa.out ?_
              refine kk hK (trivial) (fun hHeld => ?_)
              clear hK K
              refine rd [7] ?_
              refine rc (fun K hK => ?_) ?_
              ·
               refine step_yields (S := fun U => U.rangeAt g (pb * 18) eb.cells) (yieldsIf_load_mid (by rfl) 33 (.tmp 90) rfl g (pb * 18) (by first | rfl | simp [Addr.add]) eb.cells _ (fun w hw => hw) Tryz.underlying33 rfl (IE _).out) (by rfl) HRb.out ?_
               refine kk hK (trivial) (fun hHeld => ?_)
               clear hK K
               refine tk 12 ?_
               refine rd [13] ?_
               refine rc (fun K hK => ?_) ?_
               ·
                refine step_store_mid (by rfl) (.tmp 96) (.tmp 91) (by rfl) (by rfl) g (pa * 18) eb (by first | rfl | simp [Addr.add]) (by rfl) (IS _).out (HVd.out.there HPA.out) ?_
                have HV1 := Lib.hid (HVd.out.put HPA.out eb)
                have HBB1 := Lib.hid (Below.setCells HGN.out eb.cells (pa * 18) HBd.out)
                obtain ⟨V1, hV1⟩ : ∃ V, U5.setCells g (pa * 18) eb.cells = V := ⟨_, rfl⟩
                rw [hV1] at HV1 HBB1 ⊢
                clear hV1
                refine kk hK (trivial) (fun hHeld => ?_)
                clear hK K
                refine tk 14 ?_
                refine rd [15] ?_
                refine rc (fun K hK => ?_) ?_
                ·
                 refine step_store_mid (by rfl) (.tmp 97) (.tmp 95) (by rfl) (by rfl) g (pb * 18) ea (by first | rfl | simp [Addr.add]) (by rfl) (IS _).out (HV1.out.there HPB.out) ?_
                 have HV2 := Lib.hid (HV1.out.put HPB.out ea)
                 have HBB2 := Lib.hid (Below.setCells HGN.out ea.cells (pb * 18) HBB1.out)
                 obtain ⟨V2, hV2⟩ : ∃ V, V1.setCells g (pb * 18) ea.cells = V := ⟨_, rfl⟩
                 rw [hV2] at HV2 HBB2 ⊢
                 clear hV2
                 refine kk hK (trivial) (fun hHeld => ?_)
                 clear hK K
                 refine dn ?_
                 clear hHeld
                 go_wp2_with fail
                 go_round
                 case rel => exact ⟨i + 1, _, rfl, by have := HG.out; omega, by have := HG.out; omega, Lib.hid (HSW.out.trans HPM.out), HV2, HBB2⟩
                 case measure => simp [intOf]; have := HG.out; omega
                exact AllReadyH.nil
               exact AllReadyH.nil
              exact AllReadyH.nil
             exact AllReadyH.nil
           · have hend : Hid (i < n3 ∧ i < 90 → mn = 0) := Lib.hid fun h => by
               rcases Nat.eq_zero_or_pos mn with q | q
               · exact q
               · exact (hgo ⟨h.1, h.2, q⟩).elim
             have HO9 := Lib.hid (HO2.out.below (by have := HB8.out; rw [← HN0.out] at this; exact this) (Nat.le_refl _))
             have HPW := Lib.hid (HP.out.below (HB3.out.trans (by have := HB8.out; rw [← HN0.out] at this; exact this.mono HB3.out.size)))
             have HBW := Lib.hid (HB3.out.trans (by have := HB8.out; rw [← HN0.out] at this; exact this.mono HB3.out.size))
             have HTX : Hid (∀ e ∈ ml, e.Wire) := Lib.hid fun e he => by
               have h1 := HPM.out.mem_iff.1 he
               rw [← HM0.out] at h1
               rcases List.mem_append.1 h1 with q | q
               · rcases List.mem_append.1 q with q | q
                 · exact (HLT.out.2 e q).wire
                 · exact (HLT.out.2 e (List.mem_of_mem_take q)).wire
               · obtain ⟨e', h2, rfl⟩ := List.mem_map.1 q
                 exact ((HMT.out.2 e' (List.mem_of_mem_take h2)).1.late d).wire
             have HLN : Hid (ml.length = mn) := Lib.hid (by rw [HPM.out.length_eq]; exact HMN.out)
             have HKS : Hid (∀ j, knownL L d j = knownL ml d j) := Lib.hid fun j => known_same (fun x hx => order_same (l := L) (n := h) (more := M) (fun e he => (HMT.out.2 e he).2.1) (by have h1 := HPM.out; have h2 : M.take k = M := List.take_of_length_le (by rw [HLM.out]; exact Nat.le_refl _); rw [← HM0.out, h2] at h1; exact h1) x hx) j
             have hmm9 := HMM.out
             have C1 := Lib.hid (fun W (hb : Below wr.heap.size wr W) => knownOf_walk L d AL a cL HLA.out (by omega) W ((EAt.of_ol (Y := Old wr) HO9.out (fun b e => by have := (HO9.out.lt b (by rw [e]; rfl)).2; exact this)).keeps (Keeps.of_below hb fun _ hk => hk) |>.mono fun q hq => by unfold Old at *; have := hb.size; omega) (fun e he => (HLT.out.2 e he).wire) (HPW.out.below hb))
             have C2 := Lib.hid (fun W (hb : Below wr.heap.size wr W) => knownOf_walk ml d Am mn cm HLN.out (by omega) W ((EAt.of_ol (Y := Old wr) HV.out (fun b e => by have := (HV.out.lt b (by rw [e]; rfl)).2; exact this)).keeps (Keeps.of_below hb fun _ hk => hk) |>.mono fun q hq => by unfold Old at *; have := hb.size; omega) HTX.out (HPW.out.below hb))
             have three : (decide (i < n3) = false) ∨ (decide (i < n3) = true ∧ decide ((i : Int) < 90) = false) ∨ (decide (i < n3) = true ∧ decide ((i : Int) < 90) = true ∧ mn = 0) := by
               by_cases h1 : i < n3
               · by_cases h2 : i < 90
                 · exact .inr (.inr ⟨by simp [h1], by simp; omega, hend.out ⟨h1, h2⟩⟩)
                 · exact .inr (.inl ⟨by simp [h1], by simp; omega⟩)
               · exact .inl (by simp; omega)
             clear hend hgo hi hi90 hmm9 hmm
             rcases three with h1 | ⟨h1, h2⟩ | ⟨h1, h2, rfl⟩
             all_goals
               go_wp2_with (first
                 | (go_at_call 15; (with_reducible refine (C1.out wr (Below.refl _ _)).mono ?_); rintro e2 w8 ⟨B1, rfl, hB1, hI1, hb⟩; have HK1 := Lib.hid hB1; have HJ1 := Lib.hid hI1; have HBx := Lib.hid hb; clear hB1 hI1 hb C1)
                 | (go_at_call 15; (with_reducible refine (C2.out w8 HBx.out).mono ?_); rintro e2 w9 ⟨B2, rfl, hB2, hI2, hb⟩; have HK2 := Lib.hid hB2; have HJ2 := Lib.hid hI2; have HBy := Lib.hid hb; clear hB2 hI2 hb C2)
                 | (go_at_call 14; (with_reducible refine (same_walk B1 B2 w9 (HK1.out.below HBy.out) HK2.out).mono ?_); rintro e2 w10 ⟨rfl, hb⟩; have HBz := Lib.hid hb; have HSB : sameB B1 B2 = true := (sameB_iff B1 B2).2 fun j hj => (by rw [HJ1.out j hj, HJ2.out j hj]; exact HKS.out j); rw [HSB]; clear hb HSB)
                 | fail)
               go_ret
               have a1 := HBW.out.trans (HBx.out.mono HBW.out.size)
               have a2 := a1.trans (HBy.out.mono a1.size)
               exact ⟨rfl, a2.trans (HBz.out.mono a2.size)⟩
    exact AllReadyH.nil
   exact AllReadyH.nil
  exact AllReadyH.nil
end Go.Proofs.YteeifhlhpiimoaaGreatDoor
