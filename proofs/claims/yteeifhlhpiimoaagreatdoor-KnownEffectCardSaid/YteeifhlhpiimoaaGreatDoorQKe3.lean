/-
  The law KnownEffect returns true. Conditions: its arguments lie in memory; the table of powers stands.
-/
import Derived.Test.YteeifhlhpiimoaaGreatDoorQAa
import Derived.Test.YteeifhlhpiimoaaGreatDoorQKe0
import Derived.Test.YteeifhlhpiimoaaGreatDoorQKe2
import Derived.Test.YteeifhlhpiimoaaGreatDoorQKc3
import Derived.Test.YteeifhlhpiimoaaGreatDoorQAp
import Derived.Test.YteeifhlhpiimoaaGreatDoorQAq
import Derived.Deep.CutRange
namespace Go.Proofs.YteeifhlhpiimoaaGreatDoor
open Go Go.RowKit Go.Shelf Wr
attribute [local go_sem] Oper.semAt_some
abbrev Bw (U V : World) : Prop := Below U.heap.size U V
abbrev Says (w : World) (g : Nat) (args : Array Value) (v : Value) : Prop := ∀ W, Bw w W → Calls Tryz.prog g args W fun r W' => r = .returned v ∧ Bw W W'
theorem below_up {U V W : World} (h : Hid (Bw U V)) (hb : Bw V W) : Hid (Bw U W) := hZ (h.out.trans (hb.mono h.out.size))
theorem says_at {w U V : World} {g : Nat} {args : Array Value} {v : Value} (c : Says w g args v) (hv : Hid (Bw w U)) (hs : Hid (Bw U V)) : Calls Tryz.prog g args V fun r V' => r = .returned v ∧ Hid (Bw U V') := (c V (below_up hv hs.out).out).mono fun _ _ ⟨h1, h2⟩ => ⟨h1, below_up hs h2⟩
theorem ydE {ops : Array Oper} {S : World → Prop} {op : Oper} {a : Act} (hw : Region.wanted op (yielded ops a.tmps) = true) (x : Operand) (ho : op.op = .load 33 x) (b o : Nat) (hx : a.eval x = .pointer (some ⟨b, o, none⟩)) (e : Ent) (hS : ∀ w, S w → w.rangeAt b o e.cells) : YieldsIf Tryz.prog ops S op (.agg e.cells.toArray) a := yieldsIf_load_mid hw 33 x ho b o hx e.cells _ hS Tryz.underlying33 rfl ientry
theorem shae3 {α β γ : Type} {F G : α → β → γ → Prop} {Z : Prop} (h : (∀ a b c, F a b c → G a b c) → Z) (k : ∀ a b c, F a b c → G a b c) : Z := h k
theorem u4e {V W : World} {b : Nat} {cs : Array Value} {T : TypeId} (h : Hid (V.heap[b]? = some (.cells cs T (0, 0)))) (hb : Bw V W) : Hid (W.heap[b]? = some (.cells cs T (0, 0))) := hZ (below_at2 hb h.out)
set_option maxRecDepth 100000 in
set_option maxHeartbeats 8000000 in
theorem keff_walk (w : World) (hp : Pow10 w) (l1 : List Six) (A1 : Option Addr) (n1 c1 : Nat) (e0 : Ent) (dv : Int) (hn1 : l1.length = n1) (hm1 : n1 ≤ maxLen) (ho1 : ∀ y ∈ l1, y.Ok) (hd : I64 dv) (hA1 : SixAt w A1 l1) :
    Calls Tryz.prog 5 #[.slice A1 n1 c1, e0.val, .int .i64 dv] w (ValP w true) := by
  have HP := hZ hp
  have IE := fun e : Ent => hZ (ientry (e := e))
  have IS := fun e : Ent => hZ (show (Tryz.prog.info? 33).map (·.size) = some e.cells.toArray.size from ientry (e := e))
  have S1 := hZ (fun W (h : Bw w W) => some_walk l1 A1 n1 c1 hn1 hm1 ho1 W (hA1.below h))
  obtain ⟨L, hL⟩ : ∃ L, (l1.take 30).map someE = L := ⟨_, rfl⟩
  have HLT : Hid (L.length ≤ 30 ∧ ∀ e ∈ L, e.Wire) := hZ ⟨by rw [← hL]; simp; omega, fun e he => by rw [← hL] at he; obtain ⟨y, _, rfl⟩ := List.mem_map.1 he; exact (some_texts y).wire⟩
  rw [hL] at S1
  obtain ⟨day, hp1⟩ : ∃ p, pickZ dv 31 = p := ⟨_, rfl⟩
  have P1 : Hid (∀ W, Calls Tryz.prog 13 #[.int .i64 dv, .int .i64 31] W fun e W' => e = .returned (.int .i64 day) ∧ W = W') := hZ fun W => by rw [← hp1]; exact pick19_walk W dv 31 hd.1 hd.2 (by omega) (by omega)
  clear hp hn1 hm1 ho1 hd hA1 hL hp1
  go_enter Tryz.func5, Tryz.ntmps5
  go_wp2_with (first
    | ((with_reducible refine box_ent rfl (.tmp 1) rfl e0 ?hx ?_); (case hx => rfl); intro w1 he1 hb1 hs1
       obtain ⟨b4, hb4⟩ : ∃ b, w.heap.size = b := ⟨_, rfl⟩
       rw [hb4] at he1 ⊢
       have HE1 := hZ he1
       have HB1 := hZ hb1
       clear he1 hb1 hs1 hb4)
    | (go_at_call 11; refine (sane_walk _ (HP.out.below HB1.out)).mono ?_; rintro e2 w2 ⟨rfl, hb⟩
       have HB2 := below_up HB1 hb
       have HE2 := hZ (below_at2 hb HE1.out)
       clear hb HB1 HE1)
    | fail)
  have HBU : Hid (Bw w w2.drew) := hZ (Below.drew HB2.out)
  have HEE : Hid (∀ W, Bw w2.drew W → W.rangeAt b4 0 e0.cells) := hZ fun W h => range_of (below_at2 h (show w2.drew.heap[b4]? = _ from HE2.out))
  clear HB2 HE2
  refine wp_region_noPanic ?_
  refine wp_region_held_drew (S := fun U => U.rangeAt b4 0 e0.cells) (by kernel_rfl) (HEE.out w2.drew (Below.refl _ _)) (fun hHeld => ?_)
  obtain ⟨U0, hU0⟩ : ∃ U, w2.drew = U := ⟨_, rfl⟩
  rw [hU0] at HEE HBU hHeld ⊢
  clear hU0
  have HBQ : Hid (Bw U0 U0) := hZ (Below.refl _ _)
  refine tk 0 ?_
  refine tl 2 rfl (ydE (by rfl) (.tmp 4) rfl b4 0 (by rfl) e0 fun w h => h) ?_
  apply shae3
  intro N0
  ·
   refine rd [1, 3] ?_
   refine rc (fun K hK => ?_) ?_
   ·
    go_simp
    (refine (S1.out _ (below_up HBU HBQ.out).out).mono ?_)
    rintro r V1 ⟨v21, rfl, ho, hb⟩
    try have H3 := u4e H3 hb
    have HA := hZ (ho.base HBQ.out.size)
    have HBQ := below_up HBQ hb
    clear ho hb
    refine kk hK (HEE.out _ HBQ.out) (fun hHeld => ?_)
    clear hK K
    refine rd [3] ?_
    refine rc (fun K hK => ?_) ?_
    ·
     refine step_build_ent (by rfl) (.tmp 22) (by rfl) e0 (by rfl) ?_
     intro b3 V3 hq hb h3
     rw [← hq] at hb
     try have HA := hZ (HA.out.below hb (Nat.le_refl _))
     have HBQ := below_up HBQ hb
     have H3 := hZ h3
     clear h3 hb hq
     refine kk hK (HEE.out _ HBQ.out) (fun hHeld => ?_)
     clear hK K
     have HX := (And.intro HBQ (And.intro HA (And.intro H3 hHeld)))
     exact N0 V3 v21 b3 HX
    exact AllReadyH.nil
   refine rc (fun K hK => ?_) ?_
   ·
    refine step_build_ent (by rfl) (.tmp 22) (by rfl) e0 (by rfl) ?_
    intro b3 V3 hq hb h3
    rw [← hq] at hb
    try have HA := hZ (HA.out.below hb (Nat.le_refl _))
    have HBQ := below_up HBQ hb
    have H3 := hZ h3
    clear h3 hb hq
    refine kk hK (HEE.out _ HBQ.out) (fun hHeld => ?_)
    clear hK K
    refine rd [1] ?_
    refine rc (fun K hK => ?_) ?_
    ·
     go_simp
     (refine (S1.out _ (below_up HBU HBQ.out).out).mono ?_)
     rintro r V1 ⟨v21, rfl, ho, hb⟩
     try have H3 := u4e H3 hb
     have HA := hZ (ho.base HBQ.out.size)
     have HBQ := below_up HBQ hb
     clear ho hb
     refine kk hK (HEE.out _ HBQ.out) (fun hHeld => ?_)
     clear hK K
     exact N0 V1 v21 b3 ⟨HBQ, HA, H3, hHeld⟩
    exact AllReadyH.nil
   exact AllReadyH.nil
  ·
   rintro XN0 v21 b3 ⟨HBQ, HA, H3, hHeld⟩
   refine rd [4] ?_
   refine rc (fun K hK => ?_) ?_
   ·
    go_simp
    (refine (few1_walk e0 b3 _ H3.out).mono ?_)
    rintro r V4 ⟨f, v24, rfl, hfw, ho, hb⟩
    have HFW := hZ hfw
    have HA := hZ (HA.out.below hb (Nat.le_refl _))
    have HBQ := below_up HBQ hb
    obtain ⟨Af, cf, rfl, -, -⟩ := ho.slice
    have HO4 := hZ ho
    clear hfw ho hb H3
    refine kk hK (HEE.out _ HBQ.out) (fun hHeld => ?_)
    clear hK K
    refine rd [5] ?_
    refine rc (fun K hK => ?_) ?_
    ·
     refine step_cat (by rfl) (.tmp 21) (.tmp 24) 25 (by rfl) elemEnt (fun _ => rfl) v21 L (by rfl) HA.out Af [f] 1 cf rfl (by rfl) HO4.out.nilcap HO4.out.cats (fun x _ => one_cells' x) (by have := HLT.out.1; unfold maxLen; omega) (by have := HLT.out.1; omega) HBQ.out.size ?_
     intro v25 V5 h5 _ hb
     have HA := hZ h5
     have HBQ := hZ (HBQ.out.trans hb)
     clear h5 hb HO4
     refine kk hK (HEE.out _ HBQ.out) (fun hHeld => ?_)
     clear hK K
     refine tk 6 ?_
     refine dn ?_
     clear hHeld
     obtain ⟨M, hM⟩ : ∃ M, L ++ [f] = M := ⟨_, rfl⟩
     have HM : Hid (M.length ≤ 31 ∧ ∀ x ∈ M, x.Wire) := hZ (by
      rw [← hM]
      refine ⟨by have := HLT.out.1; simp; omega, fun x hx => ?_⟩
      rcases List.mem_append.1 hx with q | q
      ·
       exact HLT.out.2 x q
      ·
       rw [List.mem_singleton.1 q]; exact HFW.out)
     rw [hM] at HA
     obtain ⟨Al, cl, hv, -, -⟩ := HA.out.slice
     subst hv
     obtain ⟨n, hn⟩ : ∃ n, M.length = n := ⟨_, rfl⟩
     rw [hn] at HA ⊢
     have HN := hZ hn
     have HBA := below_up HBU HBQ.out
     have hn31 : n ≤ 31 := by rw [← hn]; exact HM.out.1
     have HN31 := hZ hn31
     have C1 := hZ (knownOf_walk M day Al n cl hn (by omega) V5 (EAt.of_ol (Y := Old V5) HA.out (fun b e => by have := (HA.out.lt b (by rw [e]; rfl)).2; exact this)) HM.out.2 (HP.out.below HBA.out))
     clear hM hn HEE HBU HBQ S1 hn31
     go_wp2_with (first
       | (go_at_call 13; (with_reducible refine (P1.out _).mono ?_); rintro e2 W2 ⟨rfl, rfl⟩; clear P1)
       | (go_at_call 15; (with_reducible refine C1.out.mono ?_); rintro e2 w6 ⟨B, rfl, hB, hK, hb⟩
          have HB6 := hZ hb
          have HYB6 := hZ hB
          have HI := hZ hK
          clear hB hK hb C1)
       | (go_at_call 16; (with_reducible refine (lists19_walk B w6).mono ?_); rintro e2 W0 ⟨bL, rfl, hb, -, h1⟩
          have HL1 := hZ h1
          have HYB := hZ (HYB6.out.below hb)
          have HBV := below_up HB6 hb
          clear hb h1 HB6 HYB6)
       | fail)
     have HEM : Hid (EAt W0 (Old W0) Al M) := hZ ((EAt.of_ol (Y := Old V5) HA.out (fun b e => by have := (HA.out.lt b (by rw [e]; rfl)).2; exact this)).below HBV.out)
     have HBW := below_up HBA HBV.out
     have HPW := hZ (HP.out.below HBW.out)
     have HX : Hid (∀ W, Bw W0 W → ∀ i, i < 9 → W.cell? ⟨bL, i, none⟩ = some (.slice (B.ad i) (B.ls i).length (B.cp i))) := hZ fun W h i hi => cells_i (below_at2 h HL1.out) (B.cell_at hi)
     have HIN : Hid (∀ x, x ∈ M → Says W0 18 #[.slice Al n cl, x.val] (.bool true)) := hZ fun x hx W h => by
      have := in_walk M x Al n cl HN.out (by have := HN31.out; omega) W (HEM.out.below h)
      rw [decide_eq_true hx] at this
      exact this
     have HVL : Hid (∀ x, x ∈ M → Says W0 20 #[x.val] (.bool (validE x))) := hZ fun x hx W h => valid_walk_E x (HM.out.2 x hx).small W (HPW.out.below h)
     have HPV : Hid (∀ x y, x ∈ M → y ∈ M → Says W0 22 #[x.val, y.val] (.bool (prevE x y))) := hZ fun x y hx hy W h => prev_walk x y (HM.out.2 x hx) (HM.out.2 y hy) W (HPW.out.below h)
     have HNU : Hid (∀ x, Says W0 21 #[x.val] (.int .i64 (numE x))) := hZ fun x W h => number19_walk x W
     have HB0 : Hid (Bw W0 W0) := hZ (Below.refl _ _)
     obtain ⟨sl, hsl⟩ : ∃ sl : Nat → Nat, (fun i => sumL M day i) = sl := ⟨_, rfl⟩
     have HSL : Hid (∀ i, sl i = sumL M day i) := hZ fun i => by rw [← hsl]
     have HS0 : Hid (sl 0 = 0) := hZ (by rw [HSL.out]; rfl)
     clear hsl HA HBA HBV HL1 HPW
     go_loopw [10, 11, 12, 14] (fun cv xv _ _ wr => ∃ i : Nat, cv = .int .i64 ((sl i : Nat) : Int) ∧ xv = .int .i64 (i : Int) ∧ i ≤ 9 ∧ Hid (Bw W0 wr)) (fun _ x _ _ _ => 9 - (intOf x).toNat)
     case atStart => exact ⟨0, by rw [HS0.out]; rfl, rfl, by omega, HB0⟩
     case round =>
      clear HB0
      obtain ⟨i, rfl, rfl, hi, HB⟩ := hrel
      by_cases h9 : i < 9
      ·
       as_aux_lemma =>
        have d2 : decide ((i : Int) < 9) = true := by simp; omega
        have z3 : (0 : Int) ≤ (i : Int) := by omega
        have z4 : (i : Int) < 9 := by omega
        have wk1 : IntKind.i64.wrap ((i : Int) + 1) = ((i + 1 : Nat) : Int) := by rw [IntKind.wrap_i64]; omega
        obtain ⟨m, hm⟩ : ∃ l, B.ls i = l := ⟨_, rfl⟩
        have HMM := hZ (hm.symm.trans (HI.out i h9))
        obtain ⟨nk, hnk⟩ : ∃ n, m.length = n := ⟨_, rfl⟩
        obtain ⟨A, hA⟩ : ∃ A, B.ad i = A := ⟨_, rfl⟩
        obtain ⟨c, hc⟩ : ∃ A, B.cp i = A := ⟨_, rfl⟩
        have HXI : Hid (∀ W, Bw W0 W → W.cell? ⟨bL, i, none⟩ = some (.slice A nk c)) := hZ fun W h => by
         have := HX.out W h i h9
         rw [hm, hnk, hA, hc] at this
         exact this
        have HEB : Hid (EAt W0 (Old W0) A m) := hZ (by have := HYB.out.at_ i h9; rw [hA, hm] at this; exact this)
        have HNK := hZ hnk
        have HI9 := hZ h9
        obtain ⟨s0, hs0⟩ : ∃ t, sl i = t := ⟨_, rfl⟩
        have HS1 : Hid (sl (i + 1) = s0 + nk) := hZ (by rw [← hs0, HSL.out, HSL.out, ← hnk, HMM.out]; rfl)
        have HS9 : Hid (s0 + nk ≤ 31) := hZ (by rw [← HS1.out, HSL.out]; exact Nat.le_trans (sumL_le _ _ _) HM.out.1)
        rw [hs0]
        clear hm hnk hA hc h9 hs0
        go_wp2_with fail
        obtain ⟨wo, rfl⟩ : ∃ wo : World, wo = wr := ⟨_, rfl⟩
        go_loopw [10, 12, 14] (fun cv kv _ wr => ∃ k : Nat, cv = .int .i64 ((s0 + k : Nat) : Int) ∧ kv = .int .i64 (k : Int) ∧ k ≤ nk ∧ Hid (Bw W0 wr)) (fun _ x _ _ => nk - (intOf x).toNat)
        case atStart => exact ⟨0, rfl, rfl, Nat.zero_le _, HB⟩
        case round =>
         clear HB
         obtain ⟨k, rfl, rfl, hk, HBV0⟩ := hrel
         have xa : wr.cell? ⟨bL, i, none⟩ = some (.slice A nk c) := HXI.out wr HBV0.out
         by_cases hkn : k < nk
         ·
          as_aux_lemma =>
           obtain ⟨x, hx⟩ : ∃ e, m[k]? = some e := ⟨_, List.getElem?_eq_getElem (by rw [HNK.out]; exact hkn)⟩
           obtain ⟨bx, hA, hYx, hrg⟩ := HEB.out k x hx
           subst hA
           have d3 : decide (k < nk) = true := by simp [hkn]
           have z5 : (0 : Int) ≤ (k : Int) := by omega
           have z6 : (k : Int) < (nk : Int) := by omega
           have hs9 := HS9.out
           have wk2 : IntKind.i64.wrap ((k : Int) + 1) = ((k + 1 : Nat) : Int) := by rw [IntKind.wrap_i64]; omega
           obtain ⟨t0, ht0⟩ : ∃ t, s0 + k = t := ⟨_, rfl⟩
           have wt : IntKind.i64.wrap ((t0 : Int) + 1) = ((t0 + 1 : Nat) : Int) := by rw [IntKind.wrap_i64]; omega
           have HT0 := hZ ht0
           have HKN := hZ hkn
           have hxk : x ∈ knownL M day i := by rw [← HMM.out]; exact List.mem_of_getElem? hx
           have hxe := known_mem'.1 hxk
           have hxf := eff_iff.1 hxe.1
           have HXM : Hid (x ∈ M) := hZ hxf.1
           have HNP : Hid (∀ z, z ∈ M → z.day ≤ day → prevE z x = false) := hZ hxf.2.2
           have HXP : Hid (x.day ≤ day ∧ x.gone = false ∧ x.kind = ((i + 1 : Nat) : Int)) := hZ ⟨(okD_iff.1 hxf.2.1.1).2, hxf.2.1.2, hxe.2⟩
           have HV1 : Hid (Says W0 20 #[x.val] (.bool true)) := hZ (by have := HVL.out x hxf.1; rwa [(okD_iff.1 hxf.2.1.1).1] at this)
           have HRX : Hid (wr.rangeAt bx (k * 18) x.cells) := hZ fun j v hv => (HBV0.out.cell (p := ⟨bx, k * 18 + j, none⟩) hYx).trans (hrg j v hv)
           have hkp : k = 0 ∨ ∃ kp y, k = kp + 1 ∧ m[kp]? = some y ∧ numE y < numE x := by
            cases k with
            | zero => exact .inl rfl
            | succ kp =>
              have hkl : kp + 1 < m.length := by rw [HNK.out]; exact hkn
              refine .inr ⟨kp, m[kp], rfl, List.getElem?_eq_getElem (by omega), ?_⟩
              have := List.pairwise_iff_getElem.1 (by rw [HMM.out]; exact known_asc M day i : m.Pairwise fun a b => numE a < numE b) kp (kp + 1) (by omega) hkl (by omega)
              rw [List.getElem?_eq_getElem hkl] at hx
              injection hx with hx
              rw [← hx]; exact this
           have HKP := hZ hkp
           rw [ht0]
           clear hx hYx hrg hkn ht0 hxk hxe hxf hs9 hkp
           go_wp2_with (first
             | ((with_reducible refine wpList_load_mid rfl 33 (.tmp 52) rfl bx (k * 18) ?hx x.cells _ HRX.out Tryz.underlying33 rfl (IE _).out ?_); (case hx => first | rfl | simp [Addr.add]))
             | ((with_reducible refine store_new rfl (.tmp 13) (.tmp 53) rfl rfl x ?hx ?hy (IS _).out ?hold ?_); (case hx => rfl); (case hy => rfl); (case hold => rfl); intro w5 he5 hb5 hs5
                obtain ⟨b13, hbb⟩ : ∃ q, wr.heap.size = q := ⟨_, rfl⟩
                rw [hbb] at he5 ⊢
                have HBV := below_up HBV0 hb5
                have HE13 : Hid (w5.heap[b13]? = some (.cells x.cells.toArray 33 (0, 0))) := hZ he5
                clear he5 hb5 hs5 hbb HBV0 HRX)
             | fail)
           clear xa
           go_cut [97] from 54 to 96 (fun v U => v = .bool false ∧ Bw w5 U)
           case first =>
            have HBS : Hid (Bw w5 w5.drew) := hZ (Below.drew (Below.refl _ _))
            have xg := HXP.out.1
            have dg : decide (day < x.day) = false := by simp; omega
            have HS13 : Hid (∀ W, Bw w5 W → W.cell? ⟨b13, 3, none⟩ = some (.int .i64 x.day) ∧ W.cell? ⟨b13, 4, none⟩ = some (.bool false) ∧ W.cell? ⟨b13, 0, none⟩ = some (.int .i64 ((i + 1 : Nat) : Int)) ∧ W.rangeAt b13 0 x.cells ∧ W.cell? ⟨bL, i, none⟩ = some (.slice (some ⟨bx, 0, none⟩) nk c)) := hZ fun W h => by
             have he := below_at2 h HE13.out
             have h4 := cells_i he (i := 4) (v := .bool x.gone) rfl
             have h0 := cells_i he (i := 0) (v := .int .i64 x.kind) rfl
             rw [HXP.out.2.1] at h4
             rw [HXP.out.2.2] at h0
             exact ⟨cells_i he (i := 3) rfl, h4, h0, range_of he, HXI.out W (below_up HBV h).out⟩
            clear xg
            rcases HKP.out with rfl | ⟨kp, y, hkk, hy, hlt⟩
            ·
             refine wp_region_noPanic ?_
             refine wp_region_held_drew (S := fun U => U.cell? ⟨b13, 3, none⟩ = some (.int .i64 x.day) ∧ U.cell? ⟨b13, 4, none⟩ = some (.bool false) ∧ U.cell? ⟨b13, 0, none⟩ = some (.int .i64 ((i + 1 : Nat) : Int)) ∧ U.rangeAt b13 0 x.cells ∧ U.cell? ⟨bL, i, none⟩ = some (.slice (some ⟨bx, 0, none⟩) nk c)) (by kernel_rfl) (HS13.out w5.drew HBS.out) (fun hHeld => ?_)
             obtain ⟨U0, hU0⟩ : ∃ U, w5.drew = U := ⟨_, rfl⟩
             rw [hU0] at HBS hHeld ⊢
             clear hU0
             refine tk 0 ?_
             refine tl 1 rfl (ydE (by rfl) (.tmp 13) rfl b13 0 (by rfl) x fun w h => h.2.2.2.1) ?_
             refine rd [2] ?_
             refine rc (fun K hK => ?_) ?_
             ·
              go_simp
              (with_reducible refine (says_at (HIN.out x HXM.out) HBV HBS).mono ?_)
              rintro r Va ⟨rfl, HBS⟩
              refine kk hK (HS13.out _ HBS.out) (fun hHeld => ?_)
              clear hK K
              refine tk 3 ?_; refine tk 4 ?_
              refine tl 5 rfl (ydE (by rfl) (.tmp 13) rfl b13 0 (by rfl) x fun w h => h.2.2.2.1) ?_
              refine rd [6] ?_
              refine rc (fun K hK => ?_) ?_
              ·
               go_simp
               (with_reducible refine (says_at (HV1.out) HBV HBS).mono ?_)
               rintro r Vb ⟨rfl, HBS⟩
               refine kk hK (HS13.out _ HBS.out) (fun hHeld => ?_)
               clear hK K
               refine tk 7 ?_; refine tk 8 ?_; refine tk 9 ?_; refine tk 10 ?_; refine tk 11 ?_; refine tk 12 ?_; refine tk 13 ?_; refine tk 14 ?_; refine tk 15 ?_; refine tk 16 ?_; refine tk 17 ?_; refine tk 18 ?_; refine tk 19 ?_; refine tk 20 ?_; refine tk 21 ?_; refine tk 22 ?_; refine tk 23 ?_; refine tk 24 ?_; refine tk 25 ?_; refine tk 26 ?_; refine tk 27 ?_; refine tk 28 ?_; refine tk 29 ?_
               refine tn 30 ?_; refine tn 31 ?_; refine tn 32 ?_; refine tn 33 ?_; refine tn 34 ?_; refine tn 35 ?_; refine tn 36 ?_; refine tn 37 ?_; refine tn 38 ?_; refine tn 39 ?_; refine tn 40 ?_; refine tn 41 ?_
               refine tk 42 ?_; refine tk 43 ?_
               refine dn ?_
               clear hHeld
               go_wp2
               go_meet
               case rel => exact ⟨rfl, HBS.out⟩
              exact AllReadyH.nil
             exact AllReadyH.nil
            ·
             obtain ⟨by_, hAy, hYy, hrg⟩ := HEB.out kp y hy
             injection hAy with hAy
             injection hAy with hAy
             subst hAy
             have HRY : Hid (∀ W, Bw w5 W → W.rangeAt bx (kp * 18) y.cells) := hZ fun W h j v hv => ((below_up HBV h).out.cell (p := ⟨bx, kp * 18 + j, none⟩) hYy).trans (hrg j v hv)
             have HS13B := hZ fun W (h : Bw w5 W) => And.intro (HS13.out W h).1 (And.intro (HS13.out W h).2.1 (And.intro (HS13.out W h).2.2.1 (And.intro (HS13.out W h).2.2.2.1 (And.intro (HS13.out W h).2.2.2.2 (HRY.out W h)))))
             have hn9 := HS9.out
             have hk9 := HKN.out
             have dk : decide (0 < k) = true := by simp; omega
             have wkp : IntKind.i64.wrap ((k : Int) - 1) = (kp : Int) := by rw [IntKind.wrap_i64]; omega
             have z7 : (0 : Int) ≤ (kp : Int) := by omega
             have z8 : (kp : Int) < (nk : Int) := by omega
             obtain ⟨ny, hny⟩ : ∃ n, numE y = n := ⟨_, rfl⟩
             obtain ⟨nx, hnx⟩ : ∃ n, numE x = n := ⟨_, rfl⟩
             have HNY := hZ (HNU.out y)
             have HNX := hZ (HNU.out x)
             rw [hny] at HNY hlt
             rw [hnx] at HNX hlt
             have dnn : decide (nx ≤ ny) = false := by simp; omega
             clear hy hYy hrg hkk hlt hny hnx hn9 hk9
             refine wp_region_noPanic ?_
             refine wp_region_held_drew (S := fun U => U.cell? ⟨b13, 3, none⟩ = some (.int .i64 x.day) ∧ U.cell? ⟨b13, 4, none⟩ = some (.bool false) ∧ U.cell? ⟨b13, 0, none⟩ = some (.int .i64 ((i + 1 : Nat) : Int)) ∧ U.rangeAt b13 0 x.cells ∧ U.cell? ⟨bL, i, none⟩ = some (.slice (some ⟨bx, 0, none⟩) nk c) ∧ U.rangeAt bx (kp * 18) y.cells) (by kernel_rfl) (HS13B.out w5.drew HBS.out) (fun hHeld => ?_)
             obtain ⟨U0, hU0⟩ : ∃ U, w5.drew = U := ⟨_, rfl⟩
             rw [hU0] at HBS hHeld ⊢
             clear hU0
             refine tk 0 ?_
             refine tl 1 rfl (ydE (by rfl) (.tmp 13) rfl b13 0 (by rfl) x fun w h => h.2.2.2.1) ?_
             refine rd [2] ?_
             refine rc (fun K hK => ?_) ?_
             ·
              go_simp
              (with_reducible refine (says_at (HIN.out x HXM.out) HBV HBS).mono ?_)
              rintro r Va ⟨rfl, HBS⟩
              refine kk hK (HS13B.out _ HBS.out) (fun hHeld => ?_)
              clear hK K
              refine tk 3 ?_; refine tk 4 ?_
              refine tl 5 rfl (ydE (by rfl) (.tmp 13) rfl b13 0 (by rfl) x fun w h => h.2.2.2.1) ?_
              refine rd [6] ?_
              refine rc (fun K hK => ?_) ?_
              ·
               go_simp
               (with_reducible refine (says_at (HV1.out) HBV HBS).mono ?_)
               rintro r Vb ⟨rfl, HBS⟩
               refine kk hK (HS13B.out _ HBS.out) (fun hHeld => ?_)
               clear hK K
               refine tk 7 ?_; refine tk 8 ?_; refine tk 9 ?_; refine tk 10 ?_; refine tk 11 ?_; refine tk 12 ?_; refine tk 13 ?_; refine tk 14 ?_; refine tk 15 ?_; refine tk 16 ?_; refine tk 17 ?_; refine tk 18 ?_; refine tk 19 ?_; refine tk 20 ?_; refine tk 21 ?_; refine tk 22 ?_; refine tk 23 ?_; refine tk 24 ?_; refine tk 25 ?_; refine tk 26 ?_; refine tk 27 ?_; refine tk 28 ?_; refine tk 29 ?_
               refine tk 30 ?_; refine tk 31 ?_; refine tk 32 ?_; refine tk 33 ?_; refine tk 34 ?_; refine tk 35 ?_; refine tk 36 ?_
               refine tl 37 rfl (ydE (by rfl) (.tmp 90) rfl bx (kp * 18) (by rfl) y fun w h => h.2.2.2.2.2) ?_
               refine tl 39 rfl (ydE (by rfl) (.tmp 13) rfl b13 0 (by rfl) x fun w h => h.2.2.2.1) ?_
               refine rd [38] ?_
               refine rc (fun K hK => ?_) ?_
               ·
                go_simp
                (with_reducible refine (says_at (HNY.out) HBV HBS).mono ?_)
                rintro r Vc ⟨rfl, HBS⟩
                refine kk hK (HS13B.out _ HBS.out) (fun hHeld => ?_)
                clear hK K
                refine rd [40] ?_
                refine rc (fun K hK => ?_) ?_
                ·
                 go_simp
                 (with_reducible refine (says_at (HNX.out) HBV HBS).mono ?_)
                 rintro r Vd ⟨rfl, HBS⟩
                 refine kk hK (HS13B.out _ HBS.out) (fun hHeld => ?_)
                 clear hK K
                 refine tk 41 ?_; refine tk 42 ?_; refine tk 43 ?_
                 refine dn ?_
                 clear hHeld
                 go_wp2
                 go_meet
                 case rel => exact ⟨rfl, HBS.out⟩
                exact AllReadyH.nil
               exact AllReadyH.nil
              exact AllReadyH.nil
             exact AllReadyH.nil
           case rest =>
           obtain ⟨rfl, hcb⟩ := hcut
           have HBc := below_up HBV hcb
           have HE13c := hZ (below_at2 hcb HE13.out)
           clear hcb HBV HE13 HKP
           go_wp2_with fail
           obtain ⟨wp, hwp⟩ : ∃ wp : World, wp = wc := ⟨_, rfl⟩
           go_loopw [14] (fun jv wr => ∃ j : Nat, jv = .int .i64 (j : Int) ∧ j ≤ n ∧ Hid (Bw W0 wr) ∧ Hid (wr.heap[b13]? = some (.cells x.cells.toArray 33 (0, 0)))) (fun x _ => n - (intOf x).toNat)
           case atStart => exact ⟨0, rfl, Nat.zero_le _, HBc, HE13c⟩
           case round =>
            clear HBc HE13c
            obtain ⟨j, rfl, hj, HBr, HEr⟩ := hrel
            by_cases hjn : j < n
            ·
             as_aux_lemma =>
              obtain ⟨y, hy⟩ : ∃ e, M[j]? = some e := ⟨_, List.getElem?_eq_getElem (by rw [HN.out]; exact hjn)⟩
              obtain ⟨bl, hAl, hYl, hrl⟩ := HEM.out j y hy
              have HYM : Hid (y ∈ M) := hZ (List.mem_of_getElem? hy)
              subst hAl
              have d5 : decide (j < n) = true := by simp [hjn]
              have z9 : (0 : Int) ≤ (j : Int) := by omega
              have z10 : (j : Int) < (n : Int) := by omega
              have wk3 : IntKind.i64.wrap ((j : Int) + 1) = ((j + 1 : Nat) : Int) := by have := HN31.out; rw [IntKind.wrap_i64]; omega
              have HS18 : Hid (∀ W, Bw wr W → W.cell? ⟨bl, j * 18 + 3, none⟩ = some (.int .i64 y.day) ∧ W.rangeAt bl (j * 18) y.cells ∧ W.rangeAt b13 0 x.cells) := hZ fun W h => by
               have h1 : W.rangeAt bl (j * 18) y.cells := fun q v hv => ((below_up HBr h).out.cell (p := ⟨bl, j * 18 + q, none⟩) hYl).trans (hrl q v hv)
               exact ⟨h1 3 _ rfl, h1, range_of (below_at2 h HEr.out)⟩
              have HBS : Hid (Bw wr wr.drew) := hZ (Below.drew (Below.refl _ _))
              have HJN := hZ hjn
              clear hy hYl hrl hjn
              have hq : decide (y.day ≤ day) = false ∨ (decide (y.day ≤ day) = true ∧ Hid (Says W0 22 #[y.val, x.val] (.bool false))) := by
               by_cases h : y.day ≤ day
               ·
                exact .inr ⟨by simp [h], hZ (by have := HPV.out y x HYM.out HXM.out; rwa [HNP.out y HYM.out h] at this)⟩
               ·
                exact .inl (by simp; omega)
              rcases hq with dq | ⟨dq, HPF⟩
              ·
               go_wp2_with fail
               refine wp_region_noPanic ?_
               refine wp_region_held_drew (S := fun U => U.cell? ⟨bl, j * 18 + 3, none⟩ = some (.int .i64 y.day) ∧ U.rangeAt bl (j * 18) y.cells ∧ U.rangeAt b13 0 x.cells) (by kernel_rfl) (HS18.out wr.drew HBS.out) (fun hHeld => ?_)
               obtain ⟨U0, hU0⟩ : ∃ U, wr.drew = U := ⟨_, rfl⟩
               rw [hU0] at HBS hHeld ⊢
               clear hU0
               refine tk 0 ?_; refine tk 1 ?_; refine tk 2 ?_; refine tk 3 ?_; refine tk 4 ?_; refine tk 5 ?_; refine tk 6 ?_; refine tk 7 ?_
               refine tn 8 ?_; refine tn 9 ?_; refine tn 10 ?_; refine tn 11 ?_; refine tn 12 ?_; refine tn 13 ?_
               refine tk 14 ?_
               refine dn ?_
               clear hHeld
               go_wp2_with fail
               go_round
               case rel => exact ⟨j + 1, rfl, HJN.out, below_up HBr HBS.out, u4e HEr HBS.out⟩
               case measure => simp [intOf]; have := HJN.out; omega
              ·
               go_wp2_with fail
               refine wp_region_noPanic ?_
               refine wp_region_held_drew (S := fun U => U.cell? ⟨bl, j * 18 + 3, none⟩ = some (.int .i64 y.day) ∧ U.rangeAt bl (j * 18) y.cells ∧ U.rangeAt b13 0 x.cells) (by kernel_rfl) (HS18.out wr.drew HBS.out) (fun hHeld => ?_)
               obtain ⟨U0, hU0⟩ : ∃ U, wr.drew = U := ⟨_, rfl⟩
               rw [hU0] at HBS hHeld ⊢
               clear hU0
               refine tk 0 ?_; refine tk 1 ?_; refine tk 2 ?_; refine tk 3 ?_; refine tk 4 ?_; refine tk 5 ?_; refine tk 6 ?_; refine tk 7 ?_
               refine tk 8 ?_; refine tk 9 ?_; refine tk 10 ?_
               refine tl 11 rfl (ydE (by rfl) (.tmp 114) rfl bl (j * 18) (by rfl) y fun w h => h.2.1) ?_
               refine tl 12 rfl (ydE (by rfl) (.tmp 13) rfl b13 0 (by rfl) x fun w h => h.2.2) ?_
               refine rd [13] ?_
               refine rc (fun K hK => ?_) ?_
               ·
                go_simp
                (with_reducible refine (says_at (HPF.out) HBr HBS).mono ?_)
                rintro r Va ⟨rfl, HBS⟩
                refine kk hK (HS18.out _ HBS.out) (fun hHeld => ?_)
                clear hK K
                refine tk 14 ?_
                refine dn ?_
                clear hHeld
                go_wp2_with fail
                go_round
                case rel => exact ⟨j + 1, rfl, HJN.out, below_up HBr HBS.out, u4e HEr HBS.out⟩
                case measure => simp [intOf]; have := HJN.out; omega
               exact AllReadyH.nil
            ·
             have d5 : decide (j < n) = false := by simp; omega
             go_wp2_with fail
             go_roundw
             case rel => exact ⟨k + 1, by have := HT0.out; subst this; rfl, rfl, HKN.out, HBr⟩
             case measure => simp [intOf]; have := HKN.out; omega
         ·
          have d3 : decide (k < nk) = false := by simp; omega
          obtain rfl : nk = k := by omega
          rw [← HS1.out]
          go_wp2_with fail
          go_roundw
          case rel => exact ⟨i + 1, rfl, rfl, HI9.out, HBV0⟩
          case measure => simp [intOf]; have := HI9.out; omega
      ·
       have d2 : decide ((i : Int) < 9) = false := by simp; omega
       have hi9 : i = 9 := by omega
       have HSE0 : sl i = (stands M day M.length).length := by rw [hi9]; exact (HSL.out 9).trans (eff_len M day)
       rw [HN.out] at HSE0
       obtain ⟨st, hst⟩ : ∃ st : Nat → Nat, (fun i => (stands M day i).length) = st := ⟨_, rfl⟩
       have HST : Hid (∀ i, st i = (stands M day i).length) := hZ fun i => by rw [← hst]
       have HSE : Hid (sl i = st n) := hZ (by rw [HST.out]; exact HSE0)
       have HT0 : Hid (st 0 = 0) := hZ (by rw [HST.out]; rfl)
       rw [HSE.out]
       clear HSE0 hst hi9 d2 HX HI HYB HNU HIN
       go_wp2_with fail
       go_loopw [15, 16, 17, 18] (fun cv xv _ _ wr => ∃ i : Nat, cv = .int .i64 ((st i : Nat) : Int) ∧ xv = .int .i64 (i : Int) ∧ i ≤ n ∧ Hid (Bw W0 wr)) (fun _ x _ _ _ => n - (intOf x).toNat)
       case atStart => exact ⟨0, by rw [HT0.out]; rfl, rfl, Nat.zero_le _, HB⟩
       case round =>
        clear HB
        obtain ⟨i, rfl, rfl, hi, HBV⟩ := hrel
        by_cases hin : i < n
        ·
         as_aux_lemma =>
          obtain ⟨x, hx⟩ : ∃ e, M[i]? = some e := ⟨_, List.getElem?_eq_getElem (by rw [HN.out]; exact hin)⟩
          obtain ⟨bl, hAl, hYl, hrl⟩ := HEM.out i x hx
          have HXM : Hid (x ∈ M) := hZ (List.mem_of_getElem? hx)
          subst hAl
          have HRW : Hid (∀ (q : Nat) (z : Ent), M[q]? = some z → ∀ W, Bw W0 W → W.rangeAt bl (q * 18) z.cells) := hZ fun q z hz W h => by
           obtain ⟨b', hA', hY', hr'⟩ := HEM.out q z hz
           injection hA' with hA'
           injection hA' with hA'
           subst hA'
           exact fun o v hv => (h.cell (p := ⟨bl, q * 18 + o, none⟩) hY').trans (hr' o v hv)
          have HRX : Hid (∀ W, Bw W0 W → W.rangeAt bl (i * 18) x.cells) := hZ (HRW.out i x hx)
          have HR0 := hZ (HRX.out wr HBV.out)
          have d2 : decide (i < n) = true := by simp [hin]
          have z3 : (0 : Int) ≤ (i : Int) := by omega
          have z4 : (i : Int) < (n : Int) := by omega
          have hn31 := HN31.out
          have wk1 : IntKind.i64.wrap ((i : Int) + 1) = ((i + 1 : Nat) : Int) := by rw [IntKind.wrap_i64]; omega
          obtain ⟨si, hsi⟩ : ∃ t, st i = t := ⟨_, rfl⟩
          have hs31 : si ≤ 31 := by rw [← hsi, HST.out]; have := stands_le M day i; omega
          have wt : IntKind.i64.wrap ((si : Int) + 1) = ((si + 1 : Nat) : Int) := by rw [IntKind.wrap_i64]; omega
          obtain ⟨v, hv⟩ : ∃ v, validE x = v := ⟨_, rfl⟩
          obtain ⟨q, hq⟩ : ∃ q, decide (x.day ≤ day) = q := ⟨_, rfl⟩
          obtain ⟨g, hg⟩ : ∃ g, x.gone = g := ⟨_, rfl⟩
          have HVX := hZ (HVL.out x HXM.out)
          rw [hv] at HVX
          have HSX : Hid (st (i + 1) = si + if ((v && (q && !g)) && !(blockN M day x i n)) = true then 1 else 0) := hZ (by
           rw [HST.out, stands_snoc hx, ← hsi, HST.out]
           unfold standB
           rw [hv, hq, hg, HN.out])
          have HG := hZ hg
          have HIN := hZ hin
          have ways : (v = true ∧ q = true ∧ g = false) ∨ (v = false ∨ (v = true ∧ (q = false ∨ (q = true ∧ g = true)))) := by cases v <;> cases q <;> cases g <;> simp
          have hpos : decide (0 < n) = true := by simp; omega
          rw [hsi]
          clear hx hYl hrl hsi hs31 hn31 hv hg hin
          rcases ways with ⟨rfl, rfl, rfl⟩ | rfl | ⟨rfl, rfl | ⟨rfl, rfl⟩⟩
          ·
           go_wp2_with (first
             | ((with_reducible refine wpList_load_mid rfl 33 (.tmp 129) rfl bl (i * 18) ?hx x.cells _ HR0.out Tryz.underlying33 rfl (IE _).out ?_); (case hx => first | rfl | simp [Addr.add]))
             | (go_at_call 20; (with_reducible refine (HVX.out _ HBV.out).mono ?_); rintro r V1 ⟨rfl, hb⟩
                have HBW1 := below_up HBV hb
                have c3 : V1.cell? ⟨bl, i * 18 + 3, none⟩ = some (.int .i64 x.day) := HRX.out V1 HBW1.out 3 _ rfl
                have c4 : V1.cell? ⟨bl, i * 18 + 4, none⟩ = some (.bool false) := by rw [← HG.out]; exact HRX.out V1 HBW1.out 4 _ rfl
                clear hb HBV)
             | fail)
           clear c3 c4 hpos
           obtain ⟨wo, rfl⟩ : ∃ wo : World, wo = V1 := ⟨_, rfl⟩
           go_loopw [17, 18] (fun bv kv wr => ∃ k : Nat, bv = .bool (!(blockN M day x i k)) ∧ kv = .int .i64 (k : Int) ∧ k ≤ n ∧ Hid (Bw W0 wr)) (fun _ x _ => n - (intOf x).toNat)
           case atStart => exact ⟨0, rfl, rfl, Nat.zero_le _, HBW1⟩
           case round =>
            clear HBW1
            obtain ⟨k, rfl, rfl, hk, HBr⟩ := hrel
            obtain ⟨bk, hbk⟩ : ∃ b, blockN M day x i k = b := ⟨_, rfl⟩
            have HBK := hZ hbk
            rw [hbk]
            by_cases hgo : k < n ∧ bk = false
            ·
             as_aux_lemma =>
              obtain ⟨hkn, rfl⟩ := hgo
              obtain ⟨z, hz⟩ : ∃ e, M[k]? = some e := ⟨_, List.getElem?_eq_getElem (by rw [HN.out]; exact hkn)⟩
              have HZM : Hid (z ∈ M) := hZ (List.mem_of_getElem? hz)
              have d5 : decide (k < n) = true := by simp [hkn]
              have z9 : (0 : Int) ≤ (k : Int) := by omega
              have z10 : (k : Int) < (n : Int) := by omega
              have wk3 : IntKind.i64.wrap ((k : Int) + 1) = ((k + 1 : Nat) : Int) := by have := HN31.out; rw [IntKind.wrap_i64]; omega
              have HS29 : Hid (∀ W, Bw wr W → W.cell? ⟨bl, k * 18 + 3, none⟩ = some (.int .i64 z.day) ∧ W.rangeAt bl (k * 18) z.cells ∧ W.rangeAt bl (i * 18) x.cells) := hZ fun W h => ⟨HRW.out k z hz W (below_up HBr h).out 3 _ rfl, HRW.out k z hz W (below_up HBr h).out, HRX.out W (below_up HBr h).out⟩
              have HBS : Hid (Bw wr wr.drew) := hZ (Below.drew (Below.refl _ _))
              obtain ⟨dz, hdz⟩ : ∃ b, decide (z.day ≤ day) = b := ⟨_, rfl⟩
              obtain ⟨pz, hpz⟩ : ∃ b, prevE z x = b := ⟨_, rfl⟩
              obtain ⟨ck, hck⟩ : ∃ b, decide (k < i) = b := ⟨_, rfl⟩
              obtain ⟨qe, hqe⟩ : ∃ b, eqE z x = b := ⟨_, rfl⟩
              have HPF := hZ (HPV.out z x HZM.out HXM.out)
              rw [hpz] at HPF
              have HEQ : Hid (∀ W, (binOp .eql 33 (.agg z.cells.toArray) (.agg x.cells.toArray)).run Tryz.prog W = .ok (.bool qe) W) := hZ (fun W => by rw [← hqe]; exact eql_ents z x W)
              have HBN : Hid (blockN M day x i (k + 1) = ((dz && pz) || (ck && qe))) := hZ (by rw [blockN_snoc hz, HBK.out]; unfold barsB; rw [hdz, hpz, hck, hqe]; rfl)
              have HKN := hZ hkn
              have w5s : (dz = true ∧ pz = true) ∨ (dz = false ∧ ck = false) ∨ (dz = false ∧ ck = true) ∨ (dz = true ∧ pz = false ∧ ck = false) ∨ (dz = true ∧ pz = false ∧ ck = true) := by cases dz <;> cases pz <;> cases ck <;> simp
              clear hz hkn hpz hqe
              go_wp2_with fail
              refine wp_region_noPanic ?_
              refine wp_region_held_drew (S := fun U => U.cell? ⟨bl, k * 18 + 3, none⟩ = some (.int .i64 z.day) ∧ U.rangeAt bl (k * 18) z.cells ∧ U.rangeAt bl (i * 18) x.cells) (by kernel_rfl) (HS29.out wr.drew HBS.out) (fun hHeld => ?_)
              obtain ⟨U0, hU0⟩ : ∃ U, wr.drew = U := ⟨_, rfl⟩
              rw [hU0] at HBS hHeld ⊢
              clear hU0
              refine tk 0 ?_; refine tk 1 ?_; refine tk 2 ?_; refine tk 3 ?_; refine tk 4 ?_; refine tk 5 ?_; refine tk 6 ?_
              rcases w5s with ⟨rfl, rfl⟩ | ⟨rfl, rfl⟩ | ⟨rfl, rfl⟩ | ⟨rfl, rfl, rfl⟩ | ⟨rfl, rfl, rfl⟩
              ·
               refine tk 7 ?_; refine tk 8 ?_; refine tk 9 ?_; refine tk 10 ?_
               refine tl 11 rfl (ydE (by rfl) (.tmp 168) rfl bl (k * 18) (by rfl) z fun w h => h.2.1) ?_
               refine tk 12 ?_; refine tk 13 ?_; refine tk 14 ?_
               refine tl 15 rfl (ydE (by rfl) (.tmp 172) rfl bl (i * 18) (by rfl) x fun w h => h.2.2) ?_
               refine rd [16] ?_
               refine rc (fun K hK => ?_) ?_
               ·
                go_simp
                (with_reducible refine (says_at (HPF.out) HBr HBS).mono ?_)
                rintro r Va ⟨rfl, HBS⟩
                refine kk hK (HS29.out _ HBS.out) (fun hHeld => ?_)
                clear hK K
                refine tk 17 ?_; refine tk 18 ?_
                refine tn 19 ?_; refine tn 20 ?_; refine tn 21 ?_; refine tn 22 ?_; refine tn 23 ?_; refine tn 24 ?_; refine tn 25 ?_; refine tn 26 ?_; refine tn 27 ?_; refine tn 28 ?_; refine tn 29 ?_; refine tn 30 ?_; refine tn 31 ?_; refine tn 32 ?_
                refine tk 33 ?_
                refine dn ?_
                clear hHeld
                go_wp2_with fail
                go_roundw
                case rel => exact ⟨k + 1, by rw [HBN.out]; rfl, rfl, HKN.out, below_up HBr HBS.out⟩
                case measure => simp [intOf]; have := HKN.out; omega
               exact AllReadyH.nil
              ·
               refine tk 7 ?_
               refine tn 8 ?_; refine tn 9 ?_; refine tn 10 ?_; refine tn 11 ?_; refine tn 12 ?_; refine tn 13 ?_; refine tn 14 ?_; refine tn 15 ?_; refine tn 16 ?_
               refine tk 17 ?_; refine tk 18 ?_
               refine tk 19 ?_; refine tk 20 ?_; refine tk 21 ?_; refine tk 22 ?_
               refine tn 23 ?_; refine tn 24 ?_; refine tn 25 ?_; refine tn 26 ?_; refine tn 27 ?_; refine tn 28 ?_; refine tn 29 ?_; refine tn 30 ?_; refine tn 31 ?_
               refine tk 32 ?_; refine tk 33 ?_
               refine dn ?_
               clear hHeld
               go_wp2_with fail
               go_roundw
               case rel => exact ⟨k + 1, by rw [HBN.out]; rfl, rfl, HKN.out, below_up HBr HBS.out⟩
               case measure => simp [intOf]; have := HKN.out; omega
              ·
               refine tk 7 ?_
               refine tn 8 ?_; refine tn 9 ?_; refine tn 10 ?_; refine tn 11 ?_; refine tn 12 ?_; refine tn 13 ?_; refine tn 14 ?_; refine tn 15 ?_; refine tn 16 ?_
               refine tk 17 ?_; refine tk 18 ?_
               refine tk 19 ?_; refine tk 20 ?_; refine tk 21 ?_; refine tk 22 ?_; refine tk 23 ?_; refine tk 24 ?_; refine tk 25 ?_
               refine tl 26 rfl (ydE (by rfl) (.tmp 183) rfl bl (k * 18) (by rfl) z fun w h => h.2.1) ?_
               refine tk 27 ?_; refine tk 28 ?_; refine tk 29 ?_
               refine tl 30 rfl (ydE (by rfl) (.tmp 187) rfl bl (i * 18) (by rfl) x fun w h => h.2.2) ?_
               refine tl 31 rfl (yields_eql (by rfl) 33 33 (.tmp 184) (.tmp 188) (by rfl) (.agg z.cells.toArray) (.agg x.cells.toArray) (by rfl) (by rfl) qe (fun w => guard_eql _ _ _ _ w) HEQ.out) ?_
               refine tk 32 ?_; refine tk 33 ?_
               refine dn ?_
               clear hHeld
               cases qe
               all_goals
                 go_wp2_with fail
                 go_roundw
                 case rel => exact ⟨k + 1, by rw [HBN.out]; rfl, rfl, HKN.out, below_up HBr HBS.out⟩
                 case measure => simp [intOf]; have := HKN.out; omega
              ·
               refine tk 7 ?_; refine tk 8 ?_; refine tk 9 ?_; refine tk 10 ?_
               refine tl 11 rfl (ydE (by rfl) (.tmp 168) rfl bl (k * 18) (by rfl) z fun w h => h.2.1) ?_
               refine tk 12 ?_; refine tk 13 ?_; refine tk 14 ?_
               refine tl 15 rfl (ydE (by rfl) (.tmp 172) rfl bl (i * 18) (by rfl) x fun w h => h.2.2) ?_
               refine rd [16] ?_
               refine rc (fun K hK => ?_) ?_
               ·
                go_simp
                (with_reducible refine (says_at (HPF.out) HBr HBS).mono ?_)
                rintro r Va ⟨rfl, HBS⟩
                refine kk hK (HS29.out _ HBS.out) (fun hHeld => ?_)
                clear hK K
                refine tk 17 ?_; refine tk 18 ?_
                refine tk 19 ?_; refine tk 20 ?_; refine tk 21 ?_; refine tk 22 ?_
                refine tn 23 ?_; refine tn 24 ?_; refine tn 25 ?_; refine tn 26 ?_; refine tn 27 ?_; refine tn 28 ?_; refine tn 29 ?_; refine tn 30 ?_; refine tn 31 ?_
                refine tk 32 ?_; refine tk 33 ?_
                refine dn ?_
                clear hHeld
                go_wp2_with fail
                go_roundw
                case rel => exact ⟨k + 1, by rw [HBN.out]; rfl, rfl, HKN.out, below_up HBr HBS.out⟩
                case measure => simp [intOf]; have := HKN.out; omega
               exact AllReadyH.nil
              ·
               refine tk 7 ?_; refine tk 8 ?_; refine tk 9 ?_; refine tk 10 ?_
               refine tl 11 rfl (ydE (by rfl) (.tmp 168) rfl bl (k * 18) (by rfl) z fun w h => h.2.1) ?_
               refine tk 12 ?_; refine tk 13 ?_; refine tk 14 ?_
               refine tl 15 rfl (ydE (by rfl) (.tmp 172) rfl bl (i * 18) (by rfl) x fun w h => h.2.2) ?_
               refine rd [16] ?_
               refine rc (fun K hK => ?_) ?_
               ·
                go_simp
                (with_reducible refine (says_at (HPF.out) HBr HBS).mono ?_)
                rintro r Va ⟨rfl, HBS⟩
                refine kk hK (HS29.out _ HBS.out) (fun hHeld => ?_)
                clear hK K
                refine tk 17 ?_; refine tk 18 ?_
                refine tk 19 ?_; refine tk 20 ?_; refine tk 21 ?_; refine tk 22 ?_; refine tk 23 ?_; refine tk 24 ?_; refine tk 25 ?_
                refine tl 26 rfl (ydE (by rfl) (.tmp 183) rfl bl (k * 18) (by rfl) z fun w h => h.2.1) ?_
                refine tk 27 ?_; refine tk 28 ?_; refine tk 29 ?_
                refine tl 30 rfl (ydE (by rfl) (.tmp 187) rfl bl (i * 18) (by rfl) x fun w h => h.2.2) ?_
                refine tl 31 rfl (yields_eql (by rfl) 33 33 (.tmp 184) (.tmp 188) (by rfl) (.agg z.cells.toArray) (.agg x.cells.toArray) (by rfl) (by rfl) qe (fun w => guard_eql _ _ _ _ w) HEQ.out) ?_
                refine tk 32 ?_; refine tk 33 ?_
                refine dn ?_
                clear hHeld
                cases qe
                all_goals
                  go_wp2_with fail
                  go_roundw
                  case rel => exact ⟨k + 1, by rw [HBN.out]; rfl, rfl, HKN.out, below_up HBr HBS.out⟩
                  case measure => simp [intOf]; have := HKN.out; omega
               exact AllReadyH.nil
            ·
             as_aux_lemma =>
              have hbn : blockN M day x i n = bk ∧ (decide (k < n) = false ∨ (decide (k < n) = true ∧ bk = true)) := by
               by_cases hkn : k < n
               ·
                have hb1 : bk = true := by cases bk; exact (hgo ⟨hkn, rfl⟩).elim; rfl
                subst hb1
                exact ⟨blockN_mono hbk (by omega), .inr ⟨by simp [hkn], rfl⟩⟩
               ·
                obtain rfl : k = n := by omega
                exact ⟨hbk, .inl (by simp)⟩
              have HSN : Hid (st (i + 1) = si + if bk = true then 0 else 1) := hZ (by rw [HSX.out, hbn.1]; cases bk <;> rfl)
              have hw := hbn.2
              clear hgo hbn hbk
              have hw3 : (decide (k < n) = false ∧ bk = false) ∨ (decide (k < n) = false ∧ bk = true) ∨ (decide (k < n) = true ∧ bk = true) := by cases bk <;> simp_all
              clear hw
              rcases hw3 with ⟨d5, rfl⟩ | ⟨d5, rfl⟩ | ⟨d5, rfl⟩
              all_goals
               go_wp2_with fail
               go_roundw
               case rel => exact ⟨i + 1, by rw [HSN.out]; rfl, rfl, HIN.out, HBr⟩
               case measure => simp [intOf]; have := HIN.out; omega
          all_goals
           go_wp2_with (first
             | ((with_reducible refine wpList_load_mid rfl 33 (.tmp 129) rfl bl (i * 18) ?hx x.cells _ HR0.out Tryz.underlying33 rfl (IE _).out ?_); (case hx => first | rfl | simp [Addr.add]))
             | (go_at_call 20; (with_reducible refine (HVX.out _ HBV.out).mono ?_); rintro r V1 ⟨rfl, hb⟩
                have HBW1 := below_up HBV hb
                have c3 : V1.cell? ⟨bl, i * 18 + 3, none⟩ = some (.int .i64 x.day) := HRX.out V1 HBW1.out 3 _ rfl
                have c4 := HRX.out V1 HBW1.out 4 _ rfl
                try rw [HG.out] at c4
                clear hb HBV)
             | fail)
           clear c3 c4
           obtain ⟨wo, rfl⟩ : ∃ wo : World, wo = V1 := ⟨_, rfl⟩
           go_loopw [17, 18] (fun bv kv wr => bv = .bool false ∧ kv = .int .i64 0 ∧ Hid (Bw W0 wr)) (fun _ _ _ => 0)
           case atStart => exact ⟨rfl, rfl, HBW1⟩
           case round =>
            clear HBW1
            obtain ⟨rfl, rfl, HBr⟩ := hrel
            go_wp2_with fail
            go_roundw
            case rel => exact ⟨i + 1, by rw [HSX.out]; rfl, rfl, HIN.out, HBr⟩
            case measure => simp [intOf]; have := HIN.out; omega
        ·
         have d2 : decide (i < n) = false := by simp; omega
         obtain rfl : n = i := by omega
         go_wp2_with fail
         go_ret
         exact ⟨rfl, (below_up HBW HBV.out).out⟩
    exact AllReadyH.nil
   exact AllReadyH.nil
end Go.Proofs.YteeifhlhpiimoaaGreatDoor
