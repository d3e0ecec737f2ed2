/-
  The law KnownOthers returns true. Conditions: its arguments lie in memory; the table of powers stands.
-/
import Derived.Test.YteeifhlhpiimoaaGreatDoorPAa
import Derived.Test.YteeifhlhpiimoaaGreatDoorPAo
import Derived.Test.YteeifhlhpiimoaaGreatDoorPAq
import Derived.Test.YteeifhlhpiimoaaGreatDoorPAl
import Derived.Test.YteeifhlhpiimoaaGreatDoorPAn
import Derived.Test.YteeifhlhpiimoaaGreatDoorPAr
namespace Go.Proofs.YteeifhlhpiimoaaGreatDoor
open Go Go.RowKit Go.Shelf Wr
attribute [local go_sem] Oper.semAt_some
abbrev nilled (V : World) (b : Nat) : World := ((((((V.setCell ⟨b, 0, none⟩ (.slice none 0 0)).setCell ⟨b, 1, none⟩ (.slice none 0 0)).setCell ⟨b, 2, none⟩ (.slice none 0 0)).setCell ⟨b, 3, none⟩ (.slice none 0 0)).setCell ⟨b, 4, none⟩ (.slice none 0 0)).setCell ⟨b, 7, none⟩ (.slice none 0 0)).setCell ⟨b, 8, none⟩ (.slice none 0 0)
theorem own_ls {w V : World} {b b' : Nat} {B : Bas} (hB : V.heap[b]? = some (.cells B.cells.toArray 36 (0, 0))) (hC : V.heap[b']? = some (.cells B.cells.toArray 36 (0, 0))) (ne : b ≠ b') (lo : w.heap.size ≤ b') (hb : Below w.heap.size w V) (h : BasAt V (fun q => q ≠ b' ∧ q < V.heap.size) B) :
 Ls w (nilled V b') b b' B (ownB B) := by
 have hk : ∀ q, q ≠ b' → (nilled V b').heap[q]? = V.heap[q]? := fun q hq => by
  unfold nilled
  iterate 7 rw [Below.heap_setCell _ _ _ _ (by show q ≠ b'; exact hq)]
 have hs : (nilled V b').heap.size = V.heap.size := by unfold nilled; simp only [World.size_setCell]
 have hY : BasAt (nilled V b') (fun q => q ≠ b' ∧ q < (nilled V b').heap.size) B := (h.keeps fun q hq => hk q hq.1).mono fun q hq => by rw [hs]; exact hq
 refine ⟨(hk b ne).trans hB, ?_, ne, lo, ?_, hY, own_at hY⟩
 · unfold nilled
   have h1 := heap_set (k := 8) (heap_set (k := 7) (heap_set (k := 4) (heap_set (k := 3) (heap_set (k := 2) (heap_set (k := 1) (heap_set (k := 0) hC (.slice none 0 0)) (.slice none 0 0)) (.slice none 0 0)) (.slice none 0 0)) (.slice none 0 0)) (.slice none 0 0)) (.slice none 0 0)
   have e1 : ((((((B.cells.toArray.setIfInBounds 0 (.slice none 0 0)).setIfInBounds 1 (.slice none 0 0)).setIfInBounds 2 (.slice none 0 0)).setIfInBounds 3 (.slice none 0 0)).setIfInBounds 4 (.slice none 0 0)).setIfInBounds 7 (.slice none 0 0)).setIfInBounds 8 (.slice none 0 0) = (ownB B).cells.toArray := by unfold Bas.cells ownB; simp
   rw [e1] at h1
   exact h1
 · unfold nilled
   iterate 7 refine Below.setCell ?_ (show w.heap.size ≤ b' from lo) _
   exact hb
set_option maxRecDepth 100000 in
set_option maxHeartbeats 8000000 in
theorem kothers_walk (w : World) (hp : Pow10 w) (l1 : List Six) (A1 : Option Addr) (n1 c1 : Nat) (dv nv tv : Int) (hn1 : l1.length = n1) (hm1 : n1 ≤ maxLen) (ho1 : ∀ y ∈ l1, y.Ok) (hd : I64 dv) (hnn : I64 nv) (ht : I64 tv) (hA1 : SixAt w A1 l1) :
 Calls Tryz.prog 7 #[.slice A1 n1 c1, .int .i64 dv, .int .i64 nv, .int .i64 tv] w (ValP w true) := by
 have HPW := hZ hp
 have IE := fun e : Ent => hZ (ientry (e := e))
 have IB := fun B : Bas => hZ (ibase B)
 have S1 := hZ (fun W (h : Below w.heap.size w W) => some_walk l1 A1 n1 c1 hn1 hm1 ho1 W (hA1.below h))
 obtain ⟨L, hL⟩ := oQ ((l1.take 30).map someE)
 have HLT : Hid (L.length ≤ 30 ∧ (∀ e ∈ L, Texts e) ∧ ∀ e ∈ L, 0 ≤ e.id ∧ e.id < ((10 : Nat) : Int)) := hZ ⟨by rw [← hL]; simp; omega, fun e he => by rw [← hL] at he; obtain ⟨y, _, rfl⟩ := List.mem_map.1 he; exact some_texts y, fun e he => by rw [← hL] at he; obtain ⟨y, _, rfl⟩ := List.mem_map.1 he; have := some_id y; omega⟩
 rw [hL] at S1
 have r3 := pickZ_range nv (n := 4) (by omega)
 obtain ⟨day, hp1⟩ := oQ (pickZ dv 31)
 obtain ⟨time, hp2⟩ := oQ (pickZ tv 80)
 obtain ⟨p3, hp3⟩ := oQ (pickZ nv 4)
 rw [hp3] at r3
 have PK : ∀ (x n p : Int), I64 x → 1 ≤ n → n ≤ 100 → pickZ x n = p → ∀ W, Calls Tryz.prog 13 #[.int .i64 x, .int .i64 n] W fun e W' => e = .returned (.int .i64 p) ∧ W = W' := fun x n p hx h1 h2 hp W => by rw [← hp]; exact pick19_walk W x n hx.1 hx.2 h1 (by omega)
 have P1 := hZ (PK dv 31 day hd (by omega) (by omega) hp1)
 have P2 := hZ (PK tv 80 time ht (by omega) (by omega) hp2)
 have P3 := hZ (PK nv 4 p3 hnn (by omega) (by omega) hp3)
 obtain ⟨num, hnum⟩ := oQ (1 + p3)
 have wl : IntKind.i64.wrap (1 + p3) = num := by rw [IntKind.wrap_i64]; omega
 clear hp hn1 hm1 ho1 hd hnn ht hA1 hL PK hp1 hp2 hp3 hnum r3
 go_enter Tryz.func7, Tryz.ntmps7
 go_wp2_with (first
  | (go_at_call 11; refine (sane_walk _ HPW.out).mono ?_; rintro e2 w1 ⟨rfl, hb⟩; have HB1 := hZ hb; clear hb)
  | (go_at_call 12; refine (S1.out w1 HB1.out).mono ?_; rintro e2 w2 ⟨v10, rfl, ho, hb⟩
     have HB2 := bTr HB1 hb
     obtain ⟨AL, cL, rfl, hcl, hcm⟩ := ho.slice
     have C1 := hZ (knownOf_walk L day AL _ cL rfl (by have := HLT.out.1; omega) w2 (EAt.of_ol (Y := Old w2) ho (fun b e => by have := (ho.lt b (by rw [e]; rfl)).2; exact this)) (fun e he => (HLT.out.2.1 e he).wire) (HPW.out.below HB2.out))
     obtain ⟨n0, hn0⟩ := oQ (L.length)
     rw [hn0] at C1 ⊢
     clear hb ho HB1 S1 hcl hcm hn0)
  | (go_at_call 13; (with_reducible refine (P1.out _).mono ?_); rintro e2 W2 ⟨rfl, rfl⟩; clear P1)
  | (go_at_call 13; (with_reducible refine (P2.out _).mono ?_); rintro e2 W2 ⟨rfl, rfl⟩; clear P2)
  | (go_at_call 13; (with_reducible refine (P3.out _).mono ?_); rintro e2 W2 ⟨rfl, rfl⟩; clear P3)
  | (go_at_call 15; (with_reducible refine C1.out.mono ?_); rintro e2 w3 ⟨B, rfl, hB, hI, hb⟩
     have HBS := hZ hB
     have HLB : Hid ((B.ls 0).length ≤ 10 ∧ ∀ j, j < 9 → (B.ls j).length ≤ 30) := hZ ⟨by rw [hI 0 (by decide)]; exact points_few 10 HLT.out.2.2, fun j hj => by rw [hI j hj]; have := known_len L day j; have := HLT.out.1; omega⟩
     have HB3 := bTr HB2 hb
     clear hB hI hb HB2 C1)
  | ((with_reducible refine store_newB rfl (.tmp 11) (.tmp 41) rfl rfl B ?hx ?hy ?hold ?_); (case hx => rfl); (case hy => rfl); (case hold => rfl); intro w4 hs4 hb4
     obtain ⟨b11, hb11⟩ := oQ (w3.heap.size)
     rw [hb11] at hs4 ⊢
     have H11 := hZ hs4
     have E11 := hZ hb11
     have HB4 := hZ hb4
     have HR11 := hZ (range_of (cs := B.cells) hs4)
     clear hs4 hb11 hb4)
  | ((with_reducible refine wpList_load_mid rfl 36 (.tmp 11) rfl b11 0 ?hx B.cells _ HR11.out Tryz.underlying36 rfl (IB B).out ?_); (case hx => first | rfl | (rw [← E11.out]; rfl)))
  | ((with_reducible refine store_newB rfl (.tmp 12) (.tmp 42) rfl rfl B ?hx ?hy ?hold ?_); (case hx => rfl); (case hy => rfl); (case hold => rfl); intro w5 hs5 hb5
     obtain ⟨b12, hb12⟩ := oQ (w4.heap.size)
     rw [hb12] at hs5 ⊢
     have x0 := cells_i hs5 (i := 0) rfl
     have f0 := cells_free hs5 0
     have x1 := cells_i hs5 (i := 1) rfl
     have f1 := cells_free hs5 1
     have x2 := cells_i hs5 (i := 2) rfl
     have f2 := cells_free hs5 2
     have x3 := cells_i hs5 (i := 3) rfl
     have f3 := cells_free hs5 3
     have x4 := cells_i hs5 (i := 4) rfl
     have f4 := cells_free hs5 4
     have x7 := cells_i hs5 (i := 7) rfl
     have f7 := cells_free hs5 7
     have x8 := cells_i hs5 (i := 8) rfl
     have f8 := cells_free hs5 8
     have HL : Hid (Ls w (nilled w5 b12) b11 b12 B (ownB B)) := hZ (by
      have h1 := cells_lt H11.out
      have h2 := E11.out
      have h3 := HB3.out.size
      have h4 := HB4.out.size
      have h5 := HB4.out.trans (hb5.mono h4)
      exact own_ls (below_at2 hb5 H11.out) hs5 (by omega) (by omega) (HB3.out.trans (h5.mono h3)) ((HBS.out.keeps (Keeps.of_below h5 fun _ hk => hk)).mono fun k hk => by unfold Old at hk; have := h5.size; omega))
     have E12 := hZ hb12
     clear hs5 hb12 hb5)
  | fail)
 clear x0 f0 x1 f1 x2 f2 x3 f3 x4 f4 x7 f7 x8 f8
 obtain ⟨U1, hU1⟩ := oQ (nilled w5 b12)
 have hU2 := hU1
 unfold nilled at hU2
 rw [hU2]
 rw [hU1] at HL
 have HQ := hZ (own_part B num)
 clear hU1 hU2 H11 HR11 HB4 HBS HB3
 obtain ⟨nk, hnk⟩ := oQ ((B.ls 0).length)
 obtain ⟨Ak, hAk⟩ := oQ (B.ad 0)
 obtain ⟨ck, hck⟩ := oQ (B.cp 0)
 have hn30 : nk ≤ 30 := by rw [← hnk]; exact HLB.out.2 0 (by decide)
 have HX : Hid (∀ D v m U, Lp w U1 b11 b12 B D v m U → U.cell? ⟨b11, 0, none⟩ = some (.slice Ak nk ck)) := hZ fun D v m U h => by rw [← hnk, ← hAk, ← hck]; exact cells_i h.hB rfl
 have HNK := hZ hnk
 have HEN := hZ (fun i e he => Lp.entry HL.out (k := 0) (i := i) (e := e) (by decide) hnk hAk hck he)
 have HP0 := hZ (HL.out.start (HQ.out.nil 0 (by decide) (by decide)))
 clear hnk hAk hck
 go_loopw [13] (fun xv wr => ∃ (i : Nat) (m : List Ent) (A : Option Addr) (c : Nat), xv = .int .i64 (i : Int) ∧ i ≤ nk ∧ Hid (m = ((B.ls 0).take i).filter (itemB num)) ∧ Hid (Lp w U1 b11 b12 B ((ownB B).put 0 m A c) (.slice A m.length c) m wr)) (fun x _ => nk - (intOf x).toNat)
 case atStart => exact ⟨0, [], none, 0, rfl, Nat.zero_le _, hZ (by simp), HP0⟩
 case round =>
  clear HP0
  obtain ⟨i, m, A, c, rfl, hi, HM, HP⟩ := hrel
  have x13 := HX.out _ _ _ _ HP.out
  by_cases hin : i < nk
  · as_aux_lemma =>
     obtain ⟨e, he⟩ : ∃ e, (B.ls 0)[i]? = some e := ⟨_, List.getElem?_eq_getElem (by rw [HNK.out]; exact hin)⟩
     obtain ⟨bx, hA, hss⟩ := HEN.out i e he
     subst hA
     have HSS := hZ hss
     have d2 : decide (i < nk) = true := by simp [hin]
     have z1 : (0 : Int) ≤ (i : Int) := by omega
     have z2 : (i : Int) < (nk : Int) := by omega
     have wk : IntKind.i64.wrap ((i : Int) + 1) = ((i + 1 : Nat) : Int) := by rw [IntKind.wrap_i64]; omega
     have y1 : wr.cell? ⟨bx, i * 18 + 8, none⟩ = some (.int .i64 e.item) := (HSS.out _ _ _ _ HP.out).2 8 _ rfl
     have HML : Hid (m.length ≤ 30) := hZ (by rw [HM.out]; exact Nat.le_trans (List.length_filter_le _ _) (by rw [List.length_take]; omega))
     obtain ⟨q, hq⟩ := oQ ((e.item == num))
     have HMN : Hid (((B.ls 0).take (i + 1)).filter (itemB num) = if q = true then m ++ [e] else m) := hZ (by
      have hq2 : itemB num e = q := hq
      rw [List.take_add_one, he, Option.toList_some, List.filter_append, ← HM.out]
      cases q <;> simp [hq2])
     have HIN := hZ hin
     clear he hin hss HX HEN HM
     cases q
     · go_wp2_with fail
       go_round
       case rel => exact ⟨i + 1, m, A, c, rfl, HIN.out, hZ (by rw [HMN.out]; rfl), HP⟩
       case measure => simp [intOf]; have := HIN.out; omega
     · go_wp2_with fail
       have HP := hZ HP.out.drew
       clear x13 y1
       refine wp_region_noPanic ?_
       refine wp_region_held_drew (S := fun U => U.cell? ⟨b11, 0, none⟩ = some (.slice (some ⟨bx, 0, none⟩) nk ck) ∧ World.rangeAt U bx (i * 18) e.cells) (by kernel_rfl) (HSS.out _ _ _ _ HP.out) (fun hHeld => ?_)
       obtain ⟨Ud, hUd⟩ := oQ (wr.drew)
       rw [hUd] at HP hHeld ⊢
       clear hUd
       refine tk 0 ?_; refine tk 2 ?_; refine tk 3 ?_; refine tk 4 ?_; refine tk 5 ?_
       refine tl 6 rfl (yieldsIf_load_mid (by rfl) 33 (.tmp 70) rfl bx (i * 18) (by rfl) e.cells _ (fun w hw => hw.2) Tryz.underlying33 rfl (IE e).out) ?_
       refine rd [1, 7] ?_
       refine rc (fun K hK => ?_) ?_
       ·
        have c1 := cells_i HP.out.hD (i := 0) rfl
        go_simp
        clear c1
        refine kk hK (hHeld) (fun hHeld => ?_)
        clear hK K
        refine rd [7] ?_
        refine rcE fun K hK => ?_
        refine step_build_ent (by rfl) (.tmp 71) (by rfl) e (by rfl) ?_
        intro bn V7 hbn hbl hn7
        subst hbn
        have HN7 := hZ hn7
        have HP := hZ (HP.out.grow hbl)
        clear hn7 hbl
        refine kk hK ((HSS.out _ _ _ _ HP.out)) (fun hHeld => ?_)
        clear hK K
        refine rd [8] ?_
        refine rcE fun K hK => ?_
        refine step_app (by rfl) (.tmp 66) (.tmp 72) 25 (by rfl) elemEnt (.slice A m.length c) m m.length rfl (by rfl) HP.out.ol e Ud.heap.size e.cells.toArray (by rfl) HN7.out (by simp) rfl (one_cells' e) (by have := HML.out; unfold maxLen; omega) (by have := HML.out; omega) HP.out.size ?_
        intro g' cap' V8 ho8 hgr8 _ _ hb8
        have HP := hZ (HP.out.app ho8 hgr8 hb8)
        clear ho8 hgr8 hb8
        refine kk hK ((HSS.out _ _ _ _ HP.out)) (fun hHeld => ?_)
        clear hK K
        refine tk 9 ?_
        refine rd [10] ?_
        refine rcE fun K hK => ?_
        have c14 := cells_i HP.out.hD (i := 0) rfl
        have f14 := cells_free HP.out.hD 0
        go_simp
        clear c14 f14
        obtain ⟨V9, hV9⟩ := oQ (V8.setCell ⟨b12, 0, none⟩ (.slice (some ⟨g', 0, none⟩) (m.length + 1) cap'))
        have HP := hZ (HP.out.set1 (by decide) hV9)
        rw [hV9]
        clear hV9
        refine kk hK ((HSS.out _ _ _ _ HP.out)) (fun hHeld => ?_)
        clear hK K
        refine dn ?_
        clear hHeld
        go_wp2_with fail
        go_round
        case rel => exact ⟨i + 1, m ++ [e], _, _, rfl, HIN.out, hZ (by rw [HMN.out]; rfl), HP⟩
        case measure => simp [intOf]; have := HIN.out; omega
       refine rcE fun K hK => ?_
       refine step_build_ent (by rfl) (.tmp 71) (by rfl) e (by rfl) ?_
       intro bn V7 hbn hbl hn7
       subst hbn
       have HN7 := hZ hn7
       have HP := hZ (HP.out.grow hbl)
       clear hn7 hbl
       refine kk hK ((HSS.out _ _ _ _ HP.out)) (fun hHeld => ?_)
       clear hK K
       refine rd [1] ?_
       refine rcE fun K hK => ?_
       have c1 := cells_i HP.out.hD (i := 0) rfl
       go_simp
       clear c1
       refine kk hK (hHeld) (fun hHeld => ?_)
       clear hK K
       refine rd [8] ?_
       refine rcE fun K hK => ?_
       refine step_app (by rfl) (.tmp 66) (.tmp 72) 25 (by rfl) elemEnt (.slice A m.length c) m m.length rfl (by rfl) HP.out.ol e Ud.heap.size e.cells.toArray (by rfl) HN7.out (by simp) rfl (one_cells' e) (by have := HML.out; unfold maxLen; omega) (by have := HML.out; omega) HP.out.size ?_
       intro g' cap' V8 ho8 hgr8 _ _ hb8
       have HP := hZ (HP.out.app ho8 hgr8 hb8)
       clear ho8 hgr8 hb8
       refine kk hK ((HSS.out _ _ _ _ HP.out)) (fun hHeld => ?_)
       clear hK K
       refine tk 9 ?_
       refine rd [10] ?_
       refine rcE fun K hK => ?_
       have c14 := cells_i HP.out.hD (i := 0) rfl
       have f14 := cells_free HP.out.hD 0
       go_simp
       clear c14 f14
       obtain ⟨V9, hV9⟩ := oQ (V8.setCell ⟨b12, 0, none⟩ (.slice (some ⟨g', 0, none⟩) (m.length + 1) cap'))
       have HP := hZ (HP.out.set1 (by decide) hV9)
       rw [hV9]
       clear hV9
       refine kk hK ((HSS.out _ _ _ _ HP.out)) (fun hHeld => ?_)
       clear hK K
       refine dn ?_
       clear hHeld
       go_wp2_with fail
       go_round
       case rel => exact ⟨i + 1, m ++ [e], _, _, rfl, HIN.out, hZ (by rw [HMN.out]; rfl), HP⟩
       case measure => simp [intOf]; have := HIN.out; omega
  · have d2 : decide (i < nk) = false := by simp; omega
    obtain rfl : nk = i := by omega
    have hm : m = tgt B num 0 := by rw [HM.out, List.take_of_length_le (by rw [HNK.out]; exact Nat.le_refl _)]; rfl
    obtain ⟨C1, hC⟩ := oQ ((ownB B).put 0 m A c)
    have hl := Lp.stop HL.out HP.out
    have hq := HQ.out.step (k := 0) (A := A) (c := c) (by decide) hm
    rw [hC] at hl hq
    go_wp2_with fail
    obtain ⟨U2, hU2⟩ : ∃ U, U = wr := ⟨_, rfl⟩
    rw [← hU2] at hl ⊢
    clear hC hm hi HM HP HL HQ x13 HX HEN HNK d2 hn30 hU2
    have HL := hZ hl
    have HQ := hZ hq
    clear hl hq
    obtain ⟨U1, hU1⟩ := oQ (U2)
    rw [hU1] at HL ⊢
    clear hU1
    obtain ⟨nk, hnk⟩ := oQ ((B.ls 1).length)
    obtain ⟨Ak, hAk⟩ := oQ (B.ad 1)
    obtain ⟨ck, hck⟩ := oQ (B.cp 1)
    have hn30 : nk ≤ 30 := by rw [← hnk]; exact HLB.out.2 1 (by decide)
    have HX : Hid (∀ D v m U, Lp w U1 b11 b12 B D v m U → U.cell? ⟨b11, 1, none⟩ = some (.slice Ak nk ck)) := hZ fun D v m U h => by rw [← hnk, ← hAk, ← hck]; exact cells_i h.hB rfl
    have HNK := hZ hnk
    have HEN := hZ (fun i e he => Lp.entry HL.out (k := 1) (i := i) (e := e) (by decide) hnk hAk hck he)
    have HP0 := hZ (HL.out.start (HQ.out.nil 1 (by decide) (by decide)))
    clear hnk hAk hck
    go_loopw [14] (fun xv wr => ∃ (i : Nat) (m : List Ent) (A : Option Addr) (c : Nat), xv = .int .i64 (i : Int) ∧ i ≤ nk ∧ Hid (m = ((B.ls 1).take i).filter (itemB num)) ∧ Hid (Lp w U1 b11 b12 B (C1.put 1 m A c) (.slice A m.length c) m wr)) (fun x _ => nk - (intOf x).toNat)
    case atStart => exact ⟨0, [], none, 0, rfl, Nat.zero_le _, hZ (by simp), HP0⟩
    case round =>
     clear HP0
     obtain ⟨i, m, A, c, rfl, hi, HM, HP⟩ := hrel
     have x13 := HX.out _ _ _ _ HP.out
     by_cases hin : i < nk
     · as_aux_lemma =>
        obtain ⟨e, he⟩ : ∃ e, (B.ls 1)[i]? = some e := ⟨_, List.getElem?_eq_getElem (by rw [HNK.out]; exact hin)⟩
        obtain ⟨bx, hA, hss⟩ := HEN.out i e he
        subst hA
        have HSS := hZ hss
        have d2 : decide (i < nk) = true := by simp [hin]
        have z1 : (0 : Int) ≤ (i : Int) := by omega
        have z2 : (i : Int) < (nk : Int) := by omega
        have wk : IntKind.i64.wrap ((i : Int) + 1) = ((i + 1 : Nat) : Int) := by rw [IntKind.wrap_i64]; omega
        have y1 : wr.cell? ⟨bx, i * 18 + 8, none⟩ = some (.int .i64 e.item) := (HSS.out _ _ _ _ HP.out).2 8 _ rfl
        have HML : Hid (m.length ≤ 30) := hZ (by rw [HM.out]; exact Nat.le_trans (List.length_filter_le _ _) (by rw [List.length_take]; omega))
        obtain ⟨q, hq⟩ := oQ ((e.item == num))
        have HMN : Hid (((B.ls 1).take (i + 1)).filter (itemB num) = if q = true then m ++ [e] else m) := hZ (by
         have hq2 : itemB num e = q := hq
         rw [List.take_add_one, he, Option.toList_some, List.filter_append, ← HM.out]
         cases q <;> simp [hq2])
        have HIN := hZ hin
        clear he hin hss HX HEN HM
        cases q
        · go_wp2_with fail
          go_round
          case rel => exact ⟨i + 1, m, A, c, rfl, HIN.out, hZ (by rw [HMN.out]; rfl), HP⟩
          case measure => simp [intOf]; have := HIN.out; omega
        · go_wp2_with fail
          have HP := hZ HP.out.drew
          clear x13 y1
          refine wp_region_noPanic ?_
          refine wp_region_held_drew (S := fun U => U.cell? ⟨b11, 1, none⟩ = some (.slice (some ⟨bx, 0, none⟩) nk ck) ∧ World.rangeAt U bx (i * 18) e.cells) (by kernel_rfl) (HSS.out _ _ _ _ HP.out) (fun hHeld => ?_)
          obtain ⟨Ud, hUd⟩ := oQ (wr.drew)
          rw [hUd] at HP hHeld ⊢
          clear hUd
          refine tk 0 ?_; refine tk 2 ?_; refine tk 3 ?_; refine tk 4 ?_; refine tk 5 ?_
          refine tl 6 rfl (yieldsIf_load_mid (by rfl) 33 (.tmp 95) rfl bx (i * 18) (by rfl) e.cells _ (fun w hw => hw.2) Tryz.underlying33 rfl (IE e).out) ?_
          refine rd [1, 7] ?_
          refine rc (fun K hK => ?_) ?_
          ·
           have c1 := cells_i HP.out.hD (i := 1) rfl
           go_simp
           clear c1
           refine kk hK (hHeld) (fun hHeld => ?_)
           clear hK K
           refine rd [7] ?_
           refine rcE fun K hK => ?_
           refine step_build_ent (by rfl) (.tmp 96) (by rfl) e (by rfl) ?_
           intro bn V7 hbn hbl hn7
           subst hbn
           have HN7 := hZ hn7
           have HP := hZ (HP.out.grow hbl)
           clear hn7 hbl
           refine kk hK ((HSS.out _ _ _ _ HP.out)) (fun hHeld => ?_)
           clear hK K
           refine rd [8] ?_
           refine rcE fun K hK => ?_
           refine step_app (by rfl) (.tmp 91) (.tmp 97) 25 (by rfl) elemEnt (.slice A m.length c) m m.length rfl (by rfl) HP.out.ol e Ud.heap.size e.cells.toArray (by rfl) HN7.out (by simp) rfl (one_cells' e) (by have := HML.out; unfold maxLen; omega) (by have := HML.out; omega) HP.out.size ?_
           intro g' cap' V8 ho8 hgr8 _ _ hb8
           have HP := hZ (HP.out.app ho8 hgr8 hb8)
           clear ho8 hgr8 hb8
           refine kk hK ((HSS.out _ _ _ _ HP.out)) (fun hHeld => ?_)
           clear hK K
           refine tk 9 ?_
           refine rd [10] ?_
           refine rcE fun K hK => ?_
           have c14 := cells_i HP.out.hD (i := 1) rfl
           have f14 := cells_free HP.out.hD 1
           go_simp
           clear c14 f14
           obtain ⟨V9, hV9⟩ := oQ (V8.setCell ⟨b12, 1, none⟩ (.slice (some ⟨g', 0, none⟩) (m.length + 1) cap'))
           have HP := hZ (HP.out.set1 (by decide) hV9)
           rw [hV9]
           clear hV9
           refine kk hK ((HSS.out _ _ _ _ HP.out)) (fun hHeld => ?_)
           clear hK K
           refine dn ?_
           clear hHeld
           go_wp2_with fail
           go_round
           case rel => exact ⟨i + 1, m ++ [e], _, _, rfl, HIN.out, hZ (by rw [HMN.out]; rfl), HP⟩
           case measure => simp [intOf]; have := HIN.out; omega
          refine rcE fun K hK => ?_
          refine step_build_ent (by rfl) (.tmp 96) (by rfl) e (by rfl) ?_
          intro bn V7 hbn hbl hn7
          subst hbn
          have HN7 := hZ hn7
          have HP := hZ (HP.out.grow hbl)
          clear hn7 hbl
          refine kk hK ((HSS.out _ _ _ _ HP.out)) (fun hHeld => ?_)
          clear hK K
          refine rd [1] ?_
          refine rcE fun K hK => ?_
          have c1 := cells_i HP.out.hD (i := 1) rfl
          go_simp
          clear c1
          refine kk hK (hHeld) (fun hHeld => ?_)
          clear hK K
          refine rd [8] ?_
          refine rcE fun K hK => ?_
          refine step_app (by rfl) (.tmp 91) (.tmp 97) 25 (by rfl) elemEnt (.slice A m.length c) m m.length rfl (by rfl) HP.out.ol e Ud.heap.size e.cells.toArray (by rfl) HN7.out (by simp) rfl (one_cells' e) (by have := HML.out; unfold maxLen; omega) (by have := HML.out; omega) HP.out.size ?_
          intro g' cap' V8 ho8 hgr8 _ _ hb8
          have HP := hZ (HP.out.app ho8 hgr8 hb8)
          clear ho8 hgr8 hb8
          refine kk hK ((HSS.out _ _ _ _ HP.out)) (fun hHeld => ?_)
          clear hK K
          refine tk 9 ?_
          refine rd [10] ?_
          refine rcE fun K hK => ?_
          have c14 := cells_i HP.out.hD (i := 1) rfl
          have f14 := cells_free HP.out.hD 1
          go_simp
          clear c14 f14
          obtain ⟨V9, hV9⟩ := oQ (V8.setCell ⟨b12, 1, none⟩ (.slice (some ⟨g', 0, none⟩) (m.length + 1) cap'))
          have HP := hZ (HP.out.set1 (by decide) hV9)
          rw [hV9]
          clear hV9
          refine kk hK ((HSS.out _ _ _ _ HP.out)) (fun hHeld => ?_)
          clear hK K
          refine dn ?_
          clear hHeld
          go_wp2_with fail
          go_round
          case rel => exact ⟨i + 1, m ++ [e], _, _, rfl, HIN.out, hZ (by rw [HMN.out]; rfl), HP⟩
          case measure => simp [intOf]; have := HIN.out; omega
     · have d2 : decide (i < nk) = false := by simp; omega
       obtain rfl : nk = i := by omega
       have hm : m = tgt B num 1 := by rw [HM.out, List.take_of_length_le (by rw [HNK.out]; exact Nat.le_refl _)]; rfl
       obtain ⟨C2, hC⟩ := oQ (C1.put 1 m A c)
       have hl := Lp.stop HL.out HP.out
       have hq := HQ.out.step (k := 1) (A := A) (c := c) (by decide) hm
       rw [hC] at hl hq
       go_wp2_with fail
       obtain ⟨U2, hU2⟩ : ∃ U, U = wr := ⟨_, rfl⟩
       rw [← hU2] at hl ⊢
       clear hC hm hi HM HP HL HQ x13 HX HEN HNK d2 hn30 hU2
       have HL := hZ hl
       have HQ := hZ hq
       clear hl hq
       obtain ⟨U1, hU1⟩ := oQ (U2)
       rw [hU1] at HL ⊢
       clear hU1
       obtain ⟨nk, hnk⟩ := oQ ((B.ls 2).length)
       obtain ⟨Ak, hAk⟩ := oQ (B.ad 2)
       obtain ⟨ck, hck⟩ := oQ (B.cp 2)
       have hn30 : nk ≤ 30 := by rw [← hnk]; exact HLB.out.2 2 (by decide)
       have HX : Hid (∀ D v m U, Lp w U1 b11 b12 B D v m U → U.cell? ⟨b11, 2, none⟩ = some (.slice Ak nk ck)) := hZ fun D v m U h => by rw [← hnk, ← hAk, ← hck]; exact cells_i h.hB rfl
       have HNK := hZ hnk
       have HEN := hZ (fun i e he => Lp.entry HL.out (k := 2) (i := i) (e := e) (by decide) hnk hAk hck he)
       have HP0 := hZ (HL.out.start (HQ.out.nil 2 (by decide) (by decide)))
       clear hnk hAk hck
       go_loopw [15] (fun xv wr => ∃ (i : Nat) (m : List Ent) (A : Option Addr) (c : Nat), xv = .int .i64 (i : Int) ∧ i ≤ nk ∧ Hid (m = ((B.ls 2).take i).filter (itemB num)) ∧ Hid (Lp w U1 b11 b12 B (C2.put 2 m A c) (.slice A m.length c) m wr)) (fun x _ => nk - (intOf x).toNat)
       case atStart => exact ⟨0, [], none, 0, rfl, Nat.zero_le _, hZ (by simp), HP0⟩
       case round =>
        clear HP0
        obtain ⟨i, m, A, c, rfl, hi, HM, HP⟩ := hrel
        have x13 := HX.out _ _ _ _ HP.out
        by_cases hin : i < nk
        · as_aux_lemma =>
           obtain ⟨e, he⟩ : ∃ e, (B.ls 2)[i]? = some e := ⟨_, List.getElem?_eq_getElem (by rw [HNK.out]; exact hin)⟩
           obtain ⟨bx, hA, hss⟩ := HEN.out i e he
           subst hA
           have HSS := hZ hss
           have d2 : decide (i < nk) = true := by simp [hin]
           have z1 : (0 : Int) ≤ (i : Int) := by omega
           have z2 : (i : Int) < (nk : Int) := by omega
           have wk : IntKind.i64.wrap ((i : Int) + 1) = ((i + 1 : Nat) : Int) := by rw [IntKind.wrap_i64]; omega
           have y1 : wr.cell? ⟨bx, i * 18 + 8, none⟩ = some (.int .i64 e.item) := (HSS.out _ _ _ _ HP.out).2 8 _ rfl
           have HML : Hid (m.length ≤ 30) := hZ (by rw [HM.out]; exact Nat.le_trans (List.length_filter_le _ _) (by rw [List.length_take]; omega))
           obtain ⟨q, hq⟩ := oQ ((e.item == num))
           have HMN : Hid (((B.ls 2).take (i + 1)).filter (itemB num) = if q = true then m ++ [e] else m) := hZ (by
            have hq2 : itemB num e = q := hq
            rw [List.take_add_one, he, Option.toList_some, List.filter_append, ← HM.out]
            cases q <;> simp [hq2])
           have HIN := hZ hin
           clear he hin hss HX HEN HM
           cases q
           · go_wp2_with fail
             go_round
             case rel => exact ⟨i + 1, m, A, c, rfl, HIN.out, hZ (by rw [HMN.out]; rfl), HP⟩
             case measure => simp [intOf]; have := HIN.out; omega
           · go_wp2_with fail
             have HP := hZ HP.out.drew
             clear x13 y1
             refine wp_region_noPanic ?_
             refine wp_region_held_drew (S := fun U => U.cell? ⟨b11, 2, none⟩ = some (.slice (some ⟨bx, 0, none⟩) nk ck) ∧ World.rangeAt U bx (i * 18) e.cells) (by kernel_rfl) (HSS.out _ _ _ _ HP.out) (fun hHeld => ?_)
             obtain ⟨Ud, hUd⟩ := oQ (wr.drew)
             rw [hUd] at HP hHeld ⊢
             clear hUd
             refine tk 0 ?_; refine tk 2 ?_; refine tk 3 ?_; refine tk 4 ?_; refine tk 5 ?_
             refine tl 6 rfl (yieldsIf_load_mid (by rfl) 33 (.tmp 120) rfl bx (i * 18) (by rfl) e.cells _ (fun w hw => hw.2) Tryz.underlying33 rfl (IE e).out) ?_
             refine rd [1, 7] ?_
             refine rc (fun K hK => ?_) ?_
             ·
              have c1 := cells_i HP.out.hD (i := 2) rfl
              go_simp
              clear c1
              refine kk hK (hHeld) (fun hHeld => ?_)
              clear hK K
              refine rd [7] ?_
              refine rcE fun K hK => ?_
              refine step_build_ent (by rfl) (.tmp 121) (by rfl) e (by rfl) ?_
              intro bn V7 hbn hbl hn7
              subst hbn
              have HN7 := hZ hn7
              have HP := hZ (HP.out.grow hbl)
              clear hn7 hbl
              refine kk hK ((HSS.out _ _ _ _ HP.out)) (fun hHeld => ?_)
              clear hK K
              refine rd [8] ?_
              refine rcE fun K hK => ?_
              refine step_app (by rfl) (.tmp 116) (.tmp 122) 25 (by rfl) elemEnt (.slice A m.length c) m m.length rfl (by rfl) HP.out.ol e Ud.heap.size e.cells.toArray (by rfl) HN7.out (by simp) rfl (one_cells' e) (by have := HML.out; unfold maxLen; omega) (by have := HML.out; omega) HP.out.size ?_
              intro g' cap' V8 ho8 hgr8 _ _ hb8
              have HP := hZ (HP.out.app ho8 hgr8 hb8)
              clear ho8 hgr8 hb8
              refine kk hK ((HSS.out _ _ _ _ HP.out)) (fun hHeld => ?_)
              clear hK K
              refine tk 9 ?_
              refine rd [10] ?_
              refine rcE fun K hK => ?_
              have c14 := cells_i HP.out.hD (i := 2) rfl
              have f14 := cells_free HP.out.hD 2
              go_simp
              clear c14 f14
              obtain ⟨V9, hV9⟩ := oQ (V8.setCell ⟨b12, 2, none⟩ (.slice (some ⟨g', 0, none⟩) (m.length + 1) cap'))
              have HP := hZ (HP.out.set1 (by decide) hV9)
              rw [hV9]
              clear hV9
              refine kk hK ((HSS.out _ _ _ _ HP.out)) (fun hHeld => ?_)
              clear hK K
              refine dn ?_
              clear hHeld
              go_wp2_with fail
              go_round
              case rel => exact ⟨i + 1, m ++ [e], _, _, rfl, HIN.out, hZ (by rw [HMN.out]; rfl), HP⟩
              case measure => simp [intOf]; have := HIN.out; omega
             refine rcE fun K hK => ?_
             refine step_build_ent (by rfl) (.tmp 121) (by rfl) e (by rfl) ?_
             intro bn V7 hbn hbl hn7
             subst hbn
             have HN7 := hZ hn7
             have HP := hZ (HP.out.grow hbl)
             clear hn7 hbl
             refine kk hK ((HSS.out _ _ _ _ HP.out)) (fun hHeld => ?_)
             clear hK K
             refine rd [1] ?_
             refine rcE fun K hK => ?_
             have c1 := cells_i HP.out.hD (i := 2) rfl
             go_simp
             clear c1
             refine kk hK (hHeld) (fun hHeld => ?_)
             clear hK K
             refine rd [8] ?_
             refine rcE fun K hK => ?_
             refine step_app (by rfl) (.tmp 116) (.tmp 122) 25 (by rfl) elemEnt (.slice A m.length c) m m.length rfl (by rfl) HP.out.ol e Ud.heap.size e.cells.toArray (by rfl) HN7.out (by simp) rfl (one_cells' e) (by have := HML.out; unfold maxLen; omega) (by have := HML.out; omega) HP.out.size ?_
             intro g' cap' V8 ho8 hgr8 _ _ hb8
             have HP := hZ (HP.out.app ho8 hgr8 hb8)
             clear ho8 hgr8 hb8
             refine kk hK ((HSS.out _ _ _ _ HP.out)) (fun hHeld => ?_)
             clear hK K
             refine tk 9 ?_
             refine rd [10] ?_
             refine rcE fun K hK => ?_
             have c14 := cells_i HP.out.hD (i := 2) rfl
             have f14 := cells_free HP.out.hD 2
             go_simp
             clear c14 f14
             obtain ⟨V9, hV9⟩ := oQ (V8.setCell ⟨b12, 2, none⟩ (.slice (some ⟨g', 0, none⟩) (m.length + 1) cap'))
             have HP := hZ (HP.out.set1 (by decide) hV9)
             rw [hV9]
             clear hV9
             refine kk hK ((HSS.out _ _ _ _ HP.out)) (fun hHeld => ?_)
             clear hK K
             refine dn ?_
             clear hHeld
             go_wp2_with fail
             go_round
             case rel => exact ⟨i + 1, m ++ [e], _, _, rfl, HIN.out, hZ (by rw [HMN.out]; rfl), HP⟩
             case measure => simp [intOf]; have := HIN.out; omega
        · have d2 : decide (i < nk) = false := by simp; omega
          obtain rfl : nk = i := by omega
          have hm : m = tgt B num 2 := by rw [HM.out, List.take_of_length_le (by rw [HNK.out]; exact Nat.le_refl _)]; rfl
          obtain ⟨C3, hC⟩ := oQ (C2.put 2 m A c)
          have hl := Lp.stop HL.out HP.out
          have hq := HQ.out.step (k := 2) (A := A) (c := c) (by decide) hm
          rw [hC] at hl hq
          go_wp2_with fail
          obtain ⟨U2, hU2⟩ : ∃ U, U = wr := ⟨_, rfl⟩
          rw [← hU2] at hl ⊢
          clear hC hm hi HM HP HL HQ x13 HX HEN HNK d2 hn30 hU2
          have HL := hZ hl
          have HQ := hZ hq
          clear hl hq
          obtain ⟨U1, hU1⟩ := oQ (U2)
          rw [hU1] at HL ⊢
          clear hU1
          obtain ⟨nk, hnk⟩ := oQ ((B.ls 3).length)
          obtain ⟨Ak, hAk⟩ := oQ (B.ad 3)
          obtain ⟨ck, hck⟩ := oQ (B.cp 3)
          have hn30 : nk ≤ 30 := by rw [← hnk]; exact HLB.out.2 3 (by decide)
          have HX : Hid (∀ D v m U, Lp w U1 b11 b12 B D v m U → U.cell? ⟨b11, 3, none⟩ = some (.slice Ak nk ck)) := hZ fun D v m U h => by rw [← hnk, ← hAk, ← hck]; exact cells_i h.hB rfl
          have HNK := hZ hnk
          have HEN := hZ (fun i e he => Lp.entry HL.out (k := 3) (i := i) (e := e) (by decide) hnk hAk hck he)
          have HP0 := hZ (HL.out.start (HQ.out.nil 3 (by decide) (by decide)))
          clear hnk hAk hck
          go_loopw [16] (fun xv wr => ∃ (i : Nat) (m : List Ent) (A : Option Addr) (c : Nat), xv = .int .i64 (i : Int) ∧ i ≤ nk ∧ Hid (m = ((B.ls 3).take i).filter (itemB num)) ∧ Hid (Lp w U1 b11 b12 B (C3.put 3 m A c) (.slice A m.length c) m wr)) (fun x _ => nk - (intOf x).toNat)
          case atStart => exact ⟨0, [], none, 0, rfl, Nat.zero_le _, hZ (by simp), HP0⟩
          case round =>
           clear HP0
           obtain ⟨i, m, A, c, rfl, hi, HM, HP⟩ := hrel
           have x13 := HX.out _ _ _ _ HP.out
           by_cases hin : i < nk
           · as_aux_lemma =>
              obtain ⟨e, he⟩ : ∃ e, (B.ls 3)[i]? = some e := ⟨_, List.getElem?_eq_getElem (by rw [HNK.out]; exact hin)⟩
              obtain ⟨bx, hA, hss⟩ := HEN.out i e he
              subst hA
              have HSS := hZ hss
              have d2 : decide (i < nk) = true := by simp [hin]
              have z1 : (0 : Int) ≤ (i : Int) := by omega
              have z2 : (i : Int) < (nk : Int) := by omega
              have wk : IntKind.i64.wrap ((i : Int) + 1) = ((i + 1 : Nat) : Int) := by rw [IntKind.wrap_i64]; omega
              have y1 : wr.cell? ⟨bx, i * 18 + 8, none⟩ = some (.int .i64 e.item) := (HSS.out _ _ _ _ HP.out).2 8 _ rfl
              have HML : Hid (m.length ≤ 30) := hZ (by rw [HM.out]; exact Nat.le_trans (List.length_filter_le _ _) (by rw [List.length_take]; omega))
              obtain ⟨q, hq⟩ := oQ ((e.item == num))
              have HMN : Hid (((B.ls 3).take (i + 1)).filter (itemB num) = if q = true then m ++ [e] else m) := hZ (by
               have hq2 : itemB num e = q := hq
               rw [List.take_add_one, he, Option.toList_some, List.filter_append, ← HM.out]
               cases q <;> simp [hq2])
              have HIN := hZ hin
              clear he hin hss HX HEN HM
              cases q
              · go_wp2_with fail
                go_round
                case rel => exact ⟨i + 1, m, A, c, rfl, HIN.out, hZ (by rw [HMN.out]; rfl), HP⟩
                case measure => simp [intOf]; have := HIN.out; omega
              · go_wp2_with fail
                have HP := hZ HP.out.drew
                clear x13 y1
                refine wp_region_noPanic ?_
                refine wp_region_held_drew (S := fun U => U.cell? ⟨b11, 3, none⟩ = some (.slice (some ⟨bx, 0, none⟩) nk ck) ∧ World.rangeAt U bx (i * 18) e.cells) (by kernel_rfl) (HSS.out _ _ _ _ HP.out) (fun hHeld => ?_)
                obtain ⟨Ud, hUd⟩ := oQ (wr.drew)
                rw [hUd] at HP hHeld ⊢
                clear hUd
                refine tk 0 ?_; refine tk 2 ?_; refine tk 3 ?_; refine tk 4 ?_; refine tk 5 ?_
                refine tl 6 rfl (yieldsIf_load_mid (by rfl) 33 (.tmp 145) rfl bx (i * 18) (by rfl) e.cells _ (fun w hw => hw.2) Tryz.underlying33 rfl (IE e).out) ?_
                refine rd [1, 7] ?_
                refine rc (fun K hK => ?_) ?_
                ·
                 have c1 := cells_i HP.out.hD (i := 3) rfl
                 go_simp
                 clear c1
                 refine kk hK (hHeld) (fun hHeld => ?_)
                 clear hK K
                 refine rd [7] ?_
                 refine rcE fun K hK => ?_
                 refine step_build_ent (by rfl) (.tmp 146) (by rfl) e (by rfl) ?_
                 intro bn V7 hbn hbl hn7
                 subst hbn
                 have HN7 := hZ hn7
                 have HP := hZ (HP.out.grow hbl)
                 clear hn7 hbl
                 refine kk hK ((HSS.out _ _ _ _ HP.out)) (fun hHeld => ?_)
                 clear hK K
                 refine rd [8] ?_
                 refine rcE fun K hK => ?_
                 refine step_app (by rfl) (.tmp 141) (.tmp 147) 25 (by rfl) elemEnt (.slice A m.length c) m m.length rfl (by rfl) HP.out.ol e Ud.heap.size e.cells.toArray (by rfl) HN7.out (by simp) rfl (one_cells' e) (by have := HML.out; unfold maxLen; omega) (by have := HML.out; omega) HP.out.size ?_
                 intro g' cap' V8 ho8 hgr8 _ _ hb8
                 have HP := hZ (HP.out.app ho8 hgr8 hb8)
                 clear ho8 hgr8 hb8
                 refine kk hK ((HSS.out _ _ _ _ HP.out)) (fun hHeld => ?_)
                 clear hK K
                 refine tk 9 ?_
                 refine rd [10] ?_
                 refine rcE fun K hK => ?_
                 have c14 := cells_i HP.out.hD (i := 3) rfl
                 have f14 := cells_free HP.out.hD 3
                 go_simp
                 clear c14 f14
                 obtain ⟨V9, hV9⟩ := oQ (V8.setCell ⟨b12, 3, none⟩ (.slice (some ⟨g', 0, none⟩) (m.length + 1) cap'))
                 have HP := hZ (HP.out.set1 (by decide) hV9)
                 rw [hV9]
                 clear hV9
                 refine kk hK ((HSS.out _ _ _ _ HP.out)) (fun hHeld => ?_)
                 clear hK K
                 refine dn ?_
                 clear hHeld
                 go_wp2_with fail
                 go_round
                 case rel => exact ⟨i + 1, m ++ [e], _, _, rfl, HIN.out, hZ (by rw [HMN.out]; rfl), HP⟩
                 case measure => simp [intOf]; have := HIN.out; omega
                refine rcE fun K hK => ?_
                refine step_build_ent (by rfl) (.tmp 146) (by rfl) e (by rfl) ?_
                intro bn V7 hbn hbl hn7
                subst hbn
                have HN7 := hZ hn7
                have HP := hZ (HP.out.grow hbl)
                clear hn7 hbl
                refine kk hK ((HSS.out _ _ _ _ HP.out)) (fun hHeld => ?_)
                clear hK K
                refine rd [1] ?_
                refine rcE fun K hK => ?_
                have c1 := cells_i HP.out.hD (i := 3) rfl
                go_simp
                clear c1
                refine kk hK (hHeld) (fun hHeld => ?_)
                clear hK K
                refine rd [8] ?_
                refine rcE fun K hK => ?_
                refine step_app (by rfl) (.tmp 141) (.tmp 147) 25 (by rfl) elemEnt (.slice A m.length c) m m.length rfl (by rfl) HP.out.ol e Ud.heap.size e.cells.toArray (by rfl) HN7.out (by simp) rfl (one_cells' e) (by have := HML.out; unfold maxLen; omega) (by have := HML.out; omega) HP.out.size ?_
                intro g' cap' V8 ho8 hgr8 _ _ hb8
                have HP := hZ (HP.out.app ho8 hgr8 hb8)
                clear ho8 hgr8 hb8
                refine kk hK ((HSS.out _ _ _ _ HP.out)) (fun hHeld => ?_)
                clear hK K
                refine tk 9 ?_
                refine rd [10] ?_
                refine rcE fun K hK => ?_
                have c14 := cells_i HP.out.hD (i := 3) rfl
                have f14 := cells_free HP.out.hD 3
                go_simp
                clear c14 f14
                obtain ⟨V9, hV9⟩ := oQ (V8.setCell ⟨b12, 3, none⟩ (.slice (some ⟨g', 0, none⟩) (m.length + 1) cap'))
                have HP := hZ (HP.out.set1 (by decide) hV9)
                rw [hV9]
                clear hV9
                refine kk hK ((HSS.out _ _ _ _ HP.out)) (fun hHeld => ?_)
                clear hK K
                refine dn ?_
                clear hHeld
                go_wp2_with fail
                go_round
                case rel => exact ⟨i + 1, m ++ [e], _, _, rfl, HIN.out, hZ (by rw [HMN.out]; rfl), HP⟩
                case measure => simp [intOf]; have := HIN.out; omega
           · have d2 : decide (i < nk) = false := by simp; omega
             obtain rfl : nk = i := by omega
             have hm : m = tgt B num 3 := by rw [HM.out, List.take_of_length_le (by rw [HNK.out]; exact Nat.le_refl _)]; rfl
             obtain ⟨C4, hC⟩ := oQ (C3.put 3 m A c)
             have hl := Lp.stop HL.out HP.out
             have hq := HQ.out.step (k := 3) (A := A) (c := c) (by decide) hm
             rw [hC] at hl hq
             go_wp2_with fail
             obtain ⟨U2, hU2⟩ : ∃ U, U = wr := ⟨_, rfl⟩
             rw [← hU2] at hl ⊢
             clear hC hm hi HM HP HL HQ x13 HX HEN HNK d2 hn30 hU2
             have HL := hZ hl
             have HQ := hZ hq
             clear hl hq
             obtain ⟨U1, hU1⟩ := oQ (U2)
             rw [hU1] at HL ⊢
             clear hU1
             obtain ⟨nk, hnk⟩ := oQ ((B.ls 4).length)
             obtain ⟨Ak, hAk⟩ := oQ (B.ad 4)
             obtain ⟨ck, hck⟩ := oQ (B.cp 4)
             have hn30 : nk ≤ 30 := by rw [← hnk]; exact HLB.out.2 4 (by decide)
             have HX : Hid (∀ D v m U, Lp w U1 b11 b12 B D v m U → U.cell? ⟨b11, 4, none⟩ = some (.slice Ak nk ck)) := hZ fun D v m U h => by rw [← hnk, ← hAk, ← hck]; exact cells_i h.hB rfl
             have HNK := hZ hnk
             have HEN := hZ (fun i e he => Lp.entry HL.out (k := 4) (i := i) (e := e) (by decide) hnk hAk hck he)
             have HP0 := hZ (HL.out.start (HQ.out.nil 4 (by decide) (by decide)))
             clear hnk hAk hck
             go_loopw [17] (fun xv wr => ∃ (i : Nat) (m : List Ent) (A : Option Addr) (c : Nat), xv = .int .i64 (i : Int) ∧ i ≤ nk ∧ Hid (m = ((B.ls 4).take i).filter (labB num)) ∧ Hid (Lp w U1 b11 b12 B (C4.put 4 m A c) (.slice A m.length c) m wr)) (fun x _ => nk - (intOf x).toNat)
             case atStart => exact ⟨0, [], none, 0, rfl, Nat.zero_le _, hZ (by simp), HP0⟩
             case round =>
              clear HP0
              obtain ⟨i, m, A, c, rfl, hi, HM, HP⟩ := hrel
              have x13 := HX.out _ _ _ _ HP.out
              by_cases hin : i < nk
              · as_aux_lemma =>
                 obtain ⟨e, he⟩ : ∃ e, (B.ls 4)[i]? = some e := ⟨_, List.getElem?_eq_getElem (by rw [HNK.out]; exact hin)⟩
                 obtain ⟨bx, hA, hss⟩ := HEN.out i e he
                 subst hA
                 have HSS := hZ hss
                 have d2 : decide (i < nk) = true := by simp [hin]
                 have z1 : (0 : Int) ≤ (i : Int) := by omega
                 have z2 : (i : Int) < (nk : Int) := by omega
                 have wk : IntKind.i64.wrap ((i : Int) + 1) = ((i + 1 : Nat) : Int) := by rw [IntKind.wrap_i64]; omega
                 have y1 : wr.cell? ⟨bx, i * 18 + 7, none⟩ = some (.int .i64 e.lab) := (HSS.out _ _ _ _ HP.out).2 7 _ rfl
                 have HML : Hid (m.length ≤ 30) := hZ (by rw [HM.out]; exact Nat.le_trans (List.length_filter_le _ _) (by rw [List.length_take]; omega))
                 obtain ⟨q, hq⟩ := oQ ((e.lab == num))
                 have HMN : Hid (((B.ls 4).take (i + 1)).filter (labB num) = if q = true then m ++ [e] else m) := hZ (by
                  have hq2 : labB num e = q := hq
                  rw [List.take_add_one, he, Option.toList_some, List.filter_append, ← HM.out]
                  cases q <;> simp [hq2])
                 have HIN := hZ hin
                 clear he hin hss HX HEN HM
                 cases q
                 · go_wp2_with fail
                   go_round
                   case rel => exact ⟨i + 1, m, A, c, rfl, HIN.out, hZ (by rw [HMN.out]; rfl), HP⟩
                   case measure => simp [intOf]; have := HIN.out; omega
                 · go_wp2_with fail
                   have HP := hZ HP.out.drew
                   clear x13 y1
                   refine wp_region_noPanic ?_
                   refine wp_region_held_drew (S := fun U => U.cell? ⟨b11, 4, none⟩ = some (.slice (some ⟨bx, 0, none⟩) nk ck) ∧ World.rangeAt U bx (i * 18) e.cells) (by kernel_rfl) (HSS.out _ _ _ _ HP.out) (fun hHeld => ?_)
                   obtain ⟨Ud, hUd⟩ := oQ (wr.drew)
                   rw [hUd] at HP hHeld ⊢
                   clear hUd
                   refine tk 0 ?_; refine tk 2 ?_; refine tk 3 ?_; refine tk 4 ?_; refine tk 5 ?_
                   refine tl 6 rfl (yieldsIf_load_mid (by rfl) 33 (.tmp 170) rfl bx (i * 18) (by rfl) e.cells _ (fun w hw => hw.2) Tryz.underlying33 rfl (IE e).out) ?_
                   refine rd [1, 7] ?_
                   refine rc (fun K hK => ?_) ?_
                   ·
                    have c1 := cells_i HP.out.hD (i := 4) rfl
                    go_simp
                    clear c1
                    refine kk hK (hHeld) (fun hHeld => ?_)
                    clear hK K
                    refine rd [7] ?_
                    refine rcE fun K hK => ?_
                    refine step_build_ent (by rfl) (.tmp 171) (by rfl) e (by rfl) ?_
                    intro bn V7 hbn hbl hn7
                    subst hbn
                    have HN7 := hZ hn7
                    have HP := hZ (HP.out.grow hbl)
                    clear hn7 hbl
                    refine kk hK ((HSS.out _ _ _ _ HP.out)) (fun hHeld => ?_)
                    clear hK K
                    refine rd [8] ?_
                    refine rcE fun K hK => ?_
                    refine step_app (by rfl) (.tmp 166) (.tmp 172) 25 (by rfl) elemEnt (.slice A m.length c) m m.length rfl (by rfl) HP.out.ol e Ud.heap.size e.cells.toArray (by rfl) HN7.out (by simp) rfl (one_cells' e) (by have := HML.out; unfold maxLen; omega) (by have := HML.out; omega) HP.out.size ?_
                    intro g' cap' V8 ho8 hgr8 _ _ hb8
                    have HP := hZ (HP.out.app ho8 hgr8 hb8)
                    clear ho8 hgr8 hb8
                    refine kk hK ((HSS.out _ _ _ _ HP.out)) (fun hHeld => ?_)
                    clear hK K
                    refine tk 9 ?_
                    refine rd [10] ?_
                    refine rcE fun K hK => ?_
                    have c14 := cells_i HP.out.hD (i := 4) rfl
                    have f14 := cells_free HP.out.hD 4
                    go_simp
                    clear c14 f14
                    obtain ⟨V9, hV9⟩ := oQ (V8.setCell ⟨b12, 4, none⟩ (.slice (some ⟨g', 0, none⟩) (m.length + 1) cap'))
                    have HP := hZ (HP.out.set1 (by decide) hV9)
                    rw [hV9]
                    clear hV9
                    refine kk hK ((HSS.out _ _ _ _ HP.out)) (fun hHeld => ?_)
                    clear hK K
                    refine dn ?_
                    clear hHeld
                    go_wp2_with fail
                    go_round
                    case rel => exact ⟨i + 1, m ++ [e], _, _, rfl, HIN.out, hZ (by rw [HMN.out]; rfl), HP⟩
                    case measure => simp [intOf]; have := HIN.out; omega
                   refine rcE fun K hK => ?_
                   refine step_build_ent (by rfl) (.tmp 171) (by rfl) e (by rfl) ?_
                   intro bn V7 hbn hbl hn7
                   subst hbn
                   have HN7 := hZ hn7
                   have HP := hZ (HP.out.grow hbl)
                   clear hn7 hbl
                   refine kk hK ((HSS.out _ _ _ _ HP.out)) (fun hHeld => ?_)
                   clear hK K
                   refine rd [1] ?_
                   refine rcE fun K hK => ?_
                   have c1 := cells_i HP.out.hD (i := 4) rfl
                   go_simp
                   clear c1
                   refine kk hK (hHeld) (fun hHeld => ?_)
                   clear hK K
                   refine rd [8] ?_
                   refine rcE fun K hK => ?_
                   refine step_app (by rfl) (.tmp 166) (.tmp 172) 25 (by rfl) elemEnt (.slice A m.length c) m m.length rfl (by rfl) HP.out.ol e Ud.heap.size e.cells.toArray (by rfl) HN7.out (by simp) rfl (one_cells' e) (by have := HML.out; unfold maxLen; omega) (by have := HML.out; omega) HP.out.size ?_
                   intro g' cap' V8 ho8 hgr8 _ _ hb8
                   have HP := hZ (HP.out.app ho8 hgr8 hb8)
                   clear ho8 hgr8 hb8
                   refine kk hK ((HSS.out _ _ _ _ HP.out)) (fun hHeld => ?_)
                   clear hK K
                   refine tk 9 ?_
                   refine rd [10] ?_
                   refine rcE fun K hK => ?_
                   have c14 := cells_i HP.out.hD (i := 4) rfl
                   have f14 := cells_free HP.out.hD 4
                   go_simp
                   clear c14 f14
                   obtain ⟨V9, hV9⟩ := oQ (V8.setCell ⟨b12, 4, none⟩ (.slice (some ⟨g', 0, none⟩) (m.length + 1) cap'))
                   have HP := hZ (HP.out.set1 (by decide) hV9)
                   rw [hV9]
                   clear hV9
                   refine kk hK ((HSS.out _ _ _ _ HP.out)) (fun hHeld => ?_)
                   clear hK K
                   refine dn ?_
                   clear hHeld
                   go_wp2_with fail
                   go_round
                   case rel => exact ⟨i + 1, m ++ [e], _, _, rfl, HIN.out, hZ (by rw [HMN.out]; rfl), HP⟩
                   case measure => simp [intOf]; have := HIN.out; omega
              · have d2 : decide (i < nk) = false := by simp; omega
                obtain rfl : nk = i := by omega
                have hm : m = tgt B num 4 := by rw [HM.out, List.take_of_length_le (by rw [HNK.out]; exact Nat.le_refl _)]; rfl
                obtain ⟨C5, hC⟩ := oQ (C4.put 4 m A c)
                have hl := Lp.stop HL.out HP.out
                have hq := HQ.out.step (k := 4) (A := A) (c := c) (by decide) hm
                rw [hC] at hl hq
                go_wp2_with fail
                obtain ⟨U2, hU2⟩ : ∃ U, U = wr := ⟨_, rfl⟩
                rw [← hU2] at hl ⊢
                clear hC hm hi HM HP HL HQ x13 HX HEN HNK d2 hn30 hU2
                have HL := hZ hl
                have HQ := hZ hq
                clear hl hq
                obtain ⟨U1, hU1⟩ := oQ (U2)
                rw [hU1] at HL ⊢
                clear hU1
                obtain ⟨nk, hnk⟩ := oQ ((B.ls 7).length)
                obtain ⟨Ak, hAk⟩ := oQ (B.ad 7)
                obtain ⟨ck, hck⟩ := oQ (B.cp 7)
                have hn30 : nk ≤ 30 := by rw [← hnk]; exact HLB.out.2 7 (by decide)
                have HX : Hid (∀ D v m U, Lp w U1 b11 b12 B D v m U → U.cell? ⟨b11, 7, none⟩ = some (.slice Ak nk ck)) := hZ fun D v m U h => by rw [← hnk, ← hAk, ← hck]; exact cells_i h.hB rfl
                have HNK := hZ hnk
                have HEN := hZ (fun i e he => Lp.entry HL.out (k := 7) (i := i) (e := e) (by decide) hnk hAk hck he)
                have HP0 := hZ (HL.out.start (HQ.out.nil 7 (by decide) (by decide)))
                clear hnk hAk hck
                go_loopw [18] (fun xv wr => ∃ (i : Nat) (m : List Ent) (A : Option Addr) (c : Nat), xv = .int .i64 (i : Int) ∧ i ≤ nk ∧ Hid (m = ((B.ls 7).take i).filter (itemB num)) ∧ Hid (Lp w U1 b11 b12 B (C5.put 7 m A c) (.slice A m.length c) m wr)) (fun x _ => nk - (intOf x).toNat)
                case atStart => exact ⟨0, [], none, 0, rfl, Nat.zero_le _, hZ (by simp), HP0⟩
                case round =>
                 clear HP0
                 obtain ⟨i, m, A, c, rfl, hi, HM, HP⟩ := hrel
                 have x13 := HX.out _ _ _ _ HP.out
                 by_cases hin : i < nk
                 · as_aux_lemma =>
                    obtain ⟨e, he⟩ : ∃ e, (B.ls 7)[i]? = some e := ⟨_, List.getElem?_eq_getElem (by rw [HNK.out]; exact hin)⟩
                    obtain ⟨bx, hA, hss⟩ := HEN.out i e he
                    subst hA
                    have HSS := hZ hss
                    have d2 : decide (i < nk) = true := by simp [hin]
                    have z1 : (0 : Int) ≤ (i : Int) := by omega
                    have z2 : (i : Int) < (nk : Int) := by omega
                    have wk : IntKind.i64.wrap ((i : Int) + 1) = ((i + 1 : Nat) : Int) := by rw [IntKind.wrap_i64]; omega
                    have y1 : wr.cell? ⟨bx, i * 18 + 8, none⟩ = some (.int .i64 e.item) := (HSS.out _ _ _ _ HP.out).2 8 _ rfl
                    have HML : Hid (m.length ≤ 30) := hZ (by rw [HM.out]; exact Nat.le_trans (List.length_filter_le _ _) (by rw [List.length_take]; omega))
                    obtain ⟨q, hq⟩ := oQ ((e.item == num))
                    have HMN : Hid (((B.ls 7).take (i + 1)).filter (itemB num) = if q = true then m ++ [e] else m) := hZ (by
                     have hq2 : itemB num e = q := hq
                     rw [List.take_add_one, he, Option.toList_some, List.filter_append, ← HM.out]
                     cases q <;> simp [hq2])
                    have HIN := hZ hin
                    clear he hin hss HX HEN HM
                    cases q
                    · go_wp2_with fail
                      go_round
                      case rel => exact ⟨i + 1, m, A, c, rfl, HIN.out, hZ (by rw [HMN.out]; rfl), HP⟩
                      case measure => simp [intOf]; have := HIN.out; omega
                    · go_wp2_with fail
                      have HP := hZ HP.out.drew
                      clear x13 y1
                      refine wp_region_noPanic ?_
                      refine wp_region_held_drew (S := fun U => U.cell? ⟨b11, 7, none⟩ = some (.slice (some ⟨bx, 0, none⟩) nk ck) ∧ World.rangeAt U bx (i * 18) e.cells) (by kernel_rfl) (HSS.out _ _ _ _ HP.out) (fun hHeld => ?_)
                      obtain ⟨Ud, hUd⟩ := oQ (wr.drew)
                      rw [hUd] at HP hHeld ⊢
                      clear hUd
                      refine tk 0 ?_; refine tk 2 ?_; refine tk 3 ?_; refine tk 4 ?_; refine tk 5 ?_
                      refine tl 6 rfl (yieldsIf_load_mid (by rfl) 33 (.tmp 195) rfl bx (i * 18) (by rfl) e.cells _ (fun w hw => hw.2) Tryz.underlying33 rfl (IE e).out) ?_
                      refine rd [1, 7] ?_
                      refine rc (fun K hK => ?_) ?_
                      ·
                       have c1 := cells_i HP.out.hD (i := 7) rfl
                       go_simp
                       clear c1
                       refine kk hK (hHeld) (fun hHeld => ?_)
                       clear hK K
                       refine rd [7] ?_
                       refine rcE fun K hK => ?_
                       refine step_build_ent (by rfl) (.tmp 196) (by rfl) e (by rfl) ?_
                       intro bn V7 hbn hbl hn7
                       subst hbn
                       have HN7 := hZ hn7
                       have HP := hZ (HP.out.grow hbl)
                       clear hn7 hbl
                       refine kk hK ((HSS.out _ _ _ _ HP.out)) (fun hHeld => ?_)
                       clear hK K
                       refine rd [8] ?_
                       refine rcE fun K hK => ?_
                       refine step_app (by rfl) (.tmp 191) (.tmp 197) 25 (by rfl) elemEnt (.slice A m.length c) m m.length rfl (by rfl) HP.out.ol e Ud.heap.size e.cells.toArray (by rfl) HN7.out (by simp) rfl (one_cells' e) (by have := HML.out; unfold maxLen; omega) (by have := HML.out; omega) HP.out.size ?_
                       intro g' cap' V8 ho8 hgr8 _ _ hb8
                       have HP := hZ (HP.out.app ho8 hgr8 hb8)
                       clear ho8 hgr8 hb8
                       refine kk hK ((HSS.out _ _ _ _ HP.out)) (fun hHeld => ?_)
                       clear hK K
                       refine tk 9 ?_
                       refine rd [10] ?_
                       refine rcE fun K hK => ?_
                       have c14 := cells_i HP.out.hD (i := 7) rfl
                       have f14 := cells_free HP.out.hD 7
                       go_simp
                       clear c14 f14
                       obtain ⟨V9, hV9⟩ := oQ (V8.setCell ⟨b12, 7, none⟩ (.slice (some ⟨g', 0, none⟩) (m.length + 1) cap'))
                       have HP := hZ (HP.out.set1 (by decide) hV9)
                       rw [hV9]
                       clear hV9
                       refine kk hK ((HSS.out _ _ _ _ HP.out)) (fun hHeld => ?_)
                       clear hK K
                       refine dn ?_
                       clear hHeld
                       go_wp2_with fail
                       go_round
                       case rel => exact ⟨i + 1, m ++ [e], _, _, rfl, HIN.out, hZ (by rw [HMN.out]; rfl), HP⟩
                       case measure => simp [intOf]; have := HIN.out; omega
                      refine rcE fun K hK => ?_
                      refine step_build_ent (by rfl) (.tmp 196) (by rfl) e (by rfl) ?_
                      intro bn V7 hbn hbl hn7
                      subst hbn
                      have HN7 := hZ hn7
                      have HP := hZ (HP.out.grow hbl)
                      clear hn7 hbl
                      refine kk hK ((HSS.out _ _ _ _ HP.out)) (fun hHeld => ?_)
                      clear hK K
                      refine rd [1] ?_
                      refine rcE fun K hK => ?_
                      have c1 := cells_i HP.out.hD (i := 7) rfl
                      go_simp
                      clear c1
                      refine kk hK (hHeld) (fun hHeld => ?_)
                      clear hK K
                      refine rd [8] ?_
                      refine rcE fun K hK => ?_
                      refine step_app (by rfl) (.tmp 191) (.tmp 197) 25 (by rfl) elemEnt (.slice A m.length c) m m.length rfl (by rfl) HP.out.ol e Ud.heap.size e.cells.toArray (by rfl) HN7.out (by simp) rfl (one_cells' e) (by have := HML.out; unfold maxLen; omega) (by have := HML.out; omega) HP.out.size ?_
                      intro g' cap' V8 ho8 hgr8 _ _ hb8
                      have HP := hZ (HP.out.app ho8 hgr8 hb8)
                      clear ho8 hgr8 hb8
                      refine kk hK ((HSS.out _ _ _ _ HP.out)) (fun hHeld => ?_)
                      clear hK K
                      refine tk 9 ?_
                      refine rd [10] ?_
                      refine rcE fun K hK => ?_
                      have c14 := cells_i HP.out.hD (i := 7) rfl
                      have f14 := cells_free HP.out.hD 7
                      go_simp
                      clear c14 f14
                      obtain ⟨V9, hV9⟩ := oQ (V8.setCell ⟨b12, 7, none⟩ (.slice (some ⟨g', 0, none⟩) (m.length + 1) cap'))
                      have HP := hZ (HP.out.set1 (by decide) hV9)
                      rw [hV9]
                      clear hV9
                      refine kk hK ((HSS.out _ _ _ _ HP.out)) (fun hHeld => ?_)
                      clear hK K
                      refine dn ?_
                      clear hHeld
                      go_wp2_with fail
                      go_round
                      case rel => exact ⟨i + 1, m ++ [e], _, _, rfl, HIN.out, hZ (by rw [HMN.out]; rfl), HP⟩
                      case measure => simp [intOf]; have := HIN.out; omega
                 · have d2 : decide (i < nk) = false := by simp; omega
                   obtain rfl : nk = i := by omega
                   have hm : m = tgt B num 7 := by rw [HM.out, List.take_of_length_le (by rw [HNK.out]; exact Nat.le_refl _)]; rfl
                   obtain ⟨C6, hC⟩ := oQ (C5.put 7 m A c)
                   have hl := Lp.stop HL.out HP.out
                   have hq := HQ.out.step (k := 7) (A := A) (c := c) (by decide) hm
                   rw [hC] at hl hq
                   go_wp2_with fail
                   obtain ⟨U2, hU2⟩ : ∃ U, U = wr := ⟨_, rfl⟩
                   rw [← hU2] at hl ⊢
                   clear hC hm hi HM HP HL HQ x13 HX HEN HNK d2 hn30 hU2
                   have HL := hZ hl
                   have HQ := hZ hq
                   clear hl hq
                   obtain ⟨U1, hU1⟩ := oQ (U2)
                   rw [hU1] at HL ⊢
                   clear hU1
                   obtain ⟨nk, hnk⟩ := oQ ((B.ls 8).length)
                   obtain ⟨Ak, hAk⟩ := oQ (B.ad 8)
                   obtain ⟨ck, hck⟩ := oQ (B.cp 8)
                   have hn30 : nk ≤ 30 := by rw [← hnk]; exact HLB.out.2 8 (by decide)
                   have HX : Hid (∀ D v m U, Lp w U1 b11 b12 B D v m U → U.cell? ⟨b11, 8, none⟩ = some (.slice Ak nk ck)) := hZ fun D v m U h => by rw [← hnk, ← hAk, ← hck]; exact cells_i h.hB rfl
                   have HNK := hZ hnk
                   have HEN := hZ (fun i e he => Lp.entry HL.out (k := 8) (i := i) (e := e) (by decide) hnk hAk hck he)
                   have HP0 := hZ (HL.out.start (HQ.out.nil 8 (by decide) (by decide)))
                   clear hnk hAk hck
                   go_loopw [19] (fun xv wr => ∃ (i : Nat) (m : List Ent) (A : Option Addr) (c : Nat), xv = .int .i64 (i : Int) ∧ i ≤ nk ∧ Hid (m = ((B.ls 8).take i).filter (itemB num)) ∧ Hid (Lp w U1 b11 b12 B (C6.put 8 m A c) (.slice A m.length c) m wr)) (fun x _ => nk - (intOf x).toNat)
                   case atStart => exact ⟨0, [], none, 0, rfl, Nat.zero_le _, hZ (by simp), HP0⟩
                   case round =>
                    clear HP0
                    obtain ⟨i, m, A, c, rfl, hi, HM, HP⟩ := hrel
                    have x13 := HX.out _ _ _ _ HP.out
                    by_cases hin : i < nk
                    · as_aux_lemma =>
                       obtain ⟨e, he⟩ : ∃ e, (B.ls 8)[i]? = some e := ⟨_, List.getElem?_eq_getElem (by rw [HNK.out]; exact hin)⟩
                       obtain ⟨bx, hA, hss⟩ := HEN.out i e he
                       subst hA
                       have HSS := hZ hss
                       have d2 : decide (i < nk) = true := by simp [hin]
                       have z1 : (0 : Int) ≤ (i : Int) := by omega
                       have z2 : (i : Int) < (nk : Int) := by omega
                       have wk : IntKind.i64.wrap ((i : Int) + 1) = ((i + 1 : Nat) : Int) := by rw [IntKind.wrap_i64]; omega
                       have y1 : wr.cell? ⟨bx, i * 18 + 8, none⟩ = some (.int .i64 e.item) := (HSS.out _ _ _ _ HP.out).2 8 _ rfl
                       have HML : Hid (m.length ≤ 30) := hZ (by rw [HM.out]; exact Nat.le_trans (List.length_filter_le _ _) (by rw [List.length_take]; omega))
                       obtain ⟨q, hq⟩ := oQ ((e.item == num))
                       have HMN : Hid (((B.ls 8).take (i + 1)).filter (itemB num) = if q = true then m ++ [e] else m) := hZ (by
                        have hq2 : itemB num e = q := hq
                        rw [List.take_add_one, he, Option.toList_some, List.filter_append, ← HM.out]
                        cases q <;> simp [hq2])
                       have HIN := hZ hin
                       clear he hin hss HX HEN HM
                       cases q
                       · go_wp2_with fail
                         go_round
                         case rel => exact ⟨i + 1, m, A, c, rfl, HIN.out, hZ (by rw [HMN.out]; rfl), HP⟩
                         case measure => simp [intOf]; have := HIN.out; omega
                       · go_wp2_with fail
                         have HP := hZ HP.out.drew
                         clear x13 y1
                         refine wp_region_noPanic ?_
                         refine wp_region_held_drew (S := fun U => U.cell? ⟨b11, 8, none⟩ = some (.slice (some ⟨bx, 0, none⟩) nk ck) ∧ World.rangeAt U bx (i * 18) e.cells) (by kernel_rfl) (HSS.out _ _ _ _ HP.out) (fun hHeld => ?_)
                         obtain ⟨Ud, hUd⟩ := oQ (wr.drew)
                         rw [hUd] at HP hHeld ⊢
                         clear hUd
                         refine tk 0 ?_; refine tk 2 ?_; refine tk 3 ?_; refine tk 4 ?_; refine tk 5 ?_
                         refine tl 6 rfl (yieldsIf_load_mid (by rfl) 33 (.tmp 220) rfl bx (i * 18) (by rfl) e.cells _ (fun w hw => hw.2) Tryz.underlying33 rfl (IE e).out) ?_
                         refine rd [1, 7] ?_
                         refine rc (fun K hK => ?_) ?_
                         ·
                          have c1 := cells_i HP.out.hD (i := 8) rfl
                          go_simp
                          clear c1
                          refine kk hK (hHeld) (fun hHeld => ?_)
                          clear hK K
                          refine rd [7] ?_
                          refine rcE fun K hK => ?_
                          refine step_build_ent (by rfl) (.tmp 221) (by rfl) e (by rfl) ?_
                          intro bn V7 hbn hbl hn7
                          subst hbn
                          have HN7 := hZ hn7
                          have HP := hZ (HP.out.grow hbl)
                          clear hn7 hbl
                          refine kk hK ((HSS.out _ _ _ _ HP.out)) (fun hHeld => ?_)
                          clear hK K
                          refine rd [8] ?_
                          refine rcE fun K hK => ?_
                          refine step_app (by rfl) (.tmp 216) (.tmp 222) 25 (by rfl) elemEnt (.slice A m.length c) m m.length rfl (by rfl) HP.out.ol e Ud.heap.size e.cells.toArray (by rfl) HN7.out (by simp) rfl (one_cells' e) (by have := HML.out; unfold maxLen; omega) (by have := HML.out; omega) HP.out.size ?_
                          intro g' cap' V8 ho8 hgr8 _ _ hb8
                          have HP := hZ (HP.out.app ho8 hgr8 hb8)
                          clear ho8 hgr8 hb8
                          refine kk hK ((HSS.out _ _ _ _ HP.out)) (fun hHeld => ?_)
                          clear hK K
                          refine tk 9 ?_
                          refine rd [10] ?_
                          refine rcE fun K hK => ?_
                          have c14 := cells_i HP.out.hD (i := 8) rfl
                          have f14 := cells_free HP.out.hD 8
                          go_simp
                          clear c14 f14
                          obtain ⟨V9, hV9⟩ := oQ (V8.setCell ⟨b12, 8, none⟩ (.slice (some ⟨g', 0, none⟩) (m.length + 1) cap'))
                          have HP := hZ (HP.out.set1 (by decide) hV9)
                          rw [hV9]
                          clear hV9
                          refine kk hK ((HSS.out _ _ _ _ HP.out)) (fun hHeld => ?_)
                          clear hK K
                          refine dn ?_
                          clear hHeld
                          go_wp2_with fail
                          go_round
                          case rel => exact ⟨i + 1, m ++ [e], _, _, rfl, HIN.out, hZ (by rw [HMN.out]; rfl), HP⟩
                          case measure => simp [intOf]; have := HIN.out; omega
                         refine rcE fun K hK => ?_
                         refine step_build_ent (by rfl) (.tmp 221) (by rfl) e (by rfl) ?_
                         intro bn V7 hbn hbl hn7
                         subst hbn
                         have HN7 := hZ hn7
                         have HP := hZ (HP.out.grow hbl)
                         clear hn7 hbl
                         refine kk hK ((HSS.out _ _ _ _ HP.out)) (fun hHeld => ?_)
                         clear hK K
                         refine rd [1] ?_
                         refine rcE fun K hK => ?_
                         have c1 := cells_i HP.out.hD (i := 8) rfl
                         go_simp
                         clear c1
                         refine kk hK (hHeld) (fun hHeld => ?_)
                         clear hK K
                         refine rd [8] ?_
                         refine rcE fun K hK => ?_
                         refine step_app (by rfl) (.tmp 216) (.tmp 222) 25 (by rfl) elemEnt (.slice A m.length c) m m.length rfl (by rfl) HP.out.ol e Ud.heap.size e.cells.toArray (by rfl) HN7.out (by simp) rfl (one_cells' e) (by have := HML.out; unfold maxLen; omega) (by have := HML.out; omega) HP.out.size ?_
                         intro g' cap' V8 ho8 hgr8 _ _ hb8
                         have HP := hZ (HP.out.app ho8 hgr8 hb8)
                         clear ho8 hgr8 hb8
                         refine kk hK ((HSS.out _ _ _ _ HP.out)) (fun hHeld => ?_)
                         clear hK K
                         refine tk 9 ?_
                         refine rd [10] ?_
                         refine rcE fun K hK => ?_
                         have c14 := cells_i HP.out.hD (i := 8) rfl
                         have f14 := cells_free HP.out.hD 8
                         go_simp
                         clear c14 f14
                         obtain ⟨V9, hV9⟩ := oQ (V8.setCell ⟨b12, 8, none⟩ (.slice (some ⟨g', 0, none⟩) (m.length + 1) cap'))
                         have HP := hZ (HP.out.set1 (by decide) hV9)
                         rw [hV9]
                         clear hV9
                         refine kk hK ((HSS.out _ _ _ _ HP.out)) (fun hHeld => ?_)
                         clear hK K
                         refine dn ?_
                         clear hHeld
                         go_wp2_with fail
                         go_round
                         case rel => exact ⟨i + 1, m ++ [e], _, _, rfl, HIN.out, hZ (by rw [HMN.out]; rfl), HP⟩
                         case measure => simp [intOf]; have := HIN.out; omega
                    · have d2 : decide (i < nk) = false := by simp; omega
                      obtain rfl : nk = i := by omega
                      have hm : m = tgt B num 8 := by rw [HM.out, List.take_of_length_le (by rw [HNK.out]; exact Nat.le_refl _)]; rfl
                      obtain ⟨C7, hC⟩ := oQ (C6.put 8 m A c)
                      have hl := Lp.stop HL.out HP.out
                      have hq := HQ.out.step (k := 8) (A := A) (c := c) (by decide) hm
                      rw [hC] at hl hq
                      have hon : Only B C7 num := hq.only (by decide)
                      have hst : St w wr [(b11, .cells B.cells.toArray 36 (0, 0)), (b12, .cells C7.cells.toArray 36 (0, 0))] [B, C7] :=
                       ⟨⟨hl.below, fun p hp => by
                         simp only [List.mem_cons, List.not_mem_nil, or_false] at hp
                         rcases hp with rfl | rfl
                         · exact hl.hB
                         · exact hl.hC⟩, fun X hX => by
                         simp only [List.mem_cons, List.not_mem_nil, or_false] at hX
                         rcases hX with rfl | rfl
                         · exact hl.bB.mono fun k hk => hk.2
                         · exact hl.bC.mono fun k hk => hk.2, HPW.out.below hl.below⟩
                      have HF := hZ hst
                      have HLC : Hid ((C7.ls 0).length ≤ 10 ∧ (C7.ls 2).length ≤ 30 ∧ (C7.ls 8).length ≤ 30) := hZ ⟨by rw [hon.h0]; exact Nat.le_trans (List.length_filter_le _ _) HLB.out.1, by rw [hon.h2]; exact Nat.le_trans (List.length_filter_le _ _) (HLB.out.2 2 (by decide)), by rw [hon.h8]; exact Nat.le_trans (List.length_filter_le _ _) (HLB.out.2 8 (by decide))⟩
                      obtain ⟨s, hs⟩ := oQ ((keyB B num time).1.text)
                      obtain ⟨o, ho⟩ := oQ ((keyB B num time).2)
                      obtain ⟨br, hbr⟩ := oQ ((budgetE (B.ls 7) num).rn)
                      obtain ⟨bd, hbd⟩ := oQ ((budgetE (B.ls 7) num).rd)
                      obtain ⟨bo, hbo⟩ := oQ (((B.ls 7).any fun e => decide (e.item = num)))
                      obtain ⟨wo, hwo⟩ := oQ (((B.ls 3).any fun e => decide (e.item = num) && (decide (e.frm ≤ time) && decide (time ≤ e.til))))
                      obtain ⟨hr, hhr⟩ := oQ ((budgetE (B.ls 1) num).rn)
                      obtain ⟨hd, hhd⟩ := oQ ((budgetE (B.ls 1) num).rd)
                      obtain ⟨pts, hpts⟩ := oQ (histPts B num)
                      obtain ⟨fs, hfs⟩ := oQ (faultsS B num)
                      obtain ⟨cs, hcs⟩ := oQ (customersB B num)
                      have KK1 := hZ (fun W L (h : St w W L [B, C7]) => knownKey_walk B num time W (h.bas B (by simp)))
                      rw [hs, ho] at KK1
                      have KK2 := hZ (fun W L (h : St w W L [B, C7]) => hon.keyW W (h.bas C7 (by simp)) time)
                      rw [hs, ho] at KK2
                      have KB1 := hZ (fun W L (h : St w W L [B, C7]) => budget_walk B num W (h.bas B (by simp)))
                      rw [hbr, hbd, hbo] at KB1
                      have KB2 := hZ (fun W L (h : St w W L [B, C7]) => hon.budgetW W (h.bas C7 (by simp)))
                      rw [hbr, hbd, hbo] at KB2
                      have KW1 := hZ (fun W L (h : St w W L [B, C7]) => wrong_walk B num time W (h.bas B (by simp)))
                      rw [hwo] at KW1
                      have KW2 := hZ (fun W L (h : St w W L [B, C7]) => hon.wrongW W (h.bas C7 (by simp)) time)
                      rw [hwo] at KW2
                      have KH1 := hZ (fun W L (h : St w W L [B, C7]) => few_walk_h (n := num) W (h.bas B (by simp)) HLB.out.1)
                      unfold HistP at KH1
                      rw [hhr, hhd, hpts] at KH1
                      have KH2 := hZ (fun W L (h : St w W L [B, C7]) => hon.histW W (h.bas C7 (by simp)) HLC.out.1)
                      unfold HistP at KH2
                      rw [hhr, hhd, hpts] at KH2
                      have KF1 := hZ (fun W L (h : St w W L [B, C7]) => faults_walk B num W (h.bas B (by simp)) (Nat.le_trans (HLB.out.2 2 (by decide)) (by decide)))
                      rw [hfs] at KF1
                      have KF2 := hZ (fun W L (h : St w W L [B, C7]) => hon.faultsW W (h.bas C7 (by simp)) HLC.out.2.1)
                      rw [hfs] at KF2
                      have KC1 := hZ (fun W L (h : St w W L [B, C7]) => customers_walk B num W (h.bas B (by simp)) (Nat.le_trans (HLB.out.2 8 (by decide)) (by decide)))
                      rw [hcs] at KC1
                      have KC2 := hZ (fun W L (h : St w W L [B, C7]) => hon.customersW W (h.bas C7 (by simp)) HLC.out.2.2)
                      rw [hcs] at KC2
                      clear hs ho hbr hbd hbo hwo hhr hhd hpts hfs hcs hl hq hst hon HL HQ HP HM hC hm
                      go_wp2_with (first
                       | ((with_reducible refine wpList_load_mid rfl 36 (.tmp 11) rfl b11 0 ?hx B.cells _ (HF.out.row (b := b11) (cs := B.cells) (t := 36) (by simp)) Tryz.underlying36 rfl (IB B).out ?_); (case hx => first | rfl | (rw [← E11.out]; rfl)))
                       | ((with_reducible refine wpList_load_mid rfl 36 (.tmp 12) rfl b12 0 ?hx C7.cells _ (HF.out.row (b := b12) (cs := C7.cells) (t := 36) (by simp)) Tryz.underlying36 rfl (IB C7).out ?_); (case hx => first | rfl | (rw [← E12.out]; rfl)))
                       | (go_at_call 23; (with_reducible refine (KK1.out _ _ HF.out).mono ?_); rintro e2 W2 ⟨rfl, hb⟩; have HF1 := HF.out.step hb; have HF := hZ HF1; clear hb HF1 KK1)
                       | (go_at_call 23; (with_reducible refine (KK2.out _ _ HF.out).mono ?_); rintro e2 W2 ⟨rfl, hb⟩; have HF1 := HF.out.step hb; have HF := hZ HF1; clear hb HF1 KK2)
                       | (go_at_call 24; (with_reducible refine (KB1.out _ _ HF.out).mono ?_); rintro e2 W2 ⟨rfl, hb⟩; have HF1 := HF.out.step hb; have HF := hZ HF1; clear hb HF1 KB1)
                       | (go_at_call 24; (with_reducible refine (KB2.out _ _ HF.out).mono ?_); rintro e2 W2 ⟨rfl, hb⟩; have HF1 := HF.out.step hb; have HF := hZ HF1; clear hb HF1 KB2)
                       | ((with_reducible refine wpList_var rfl 29 (.tmp 24) (.tmp 243) rfl rfl (#[.string br, .string bd]) ?hx ?hy ?hi ?ho ?h1 HF.out ?_); (case hx => rfl); (case hy => rfl); (case hi => kernel_rfl); (case ho => rfl); (case h1 => simp [Value.oneCell']); intro b24 V24 hb hst; rw [hb]; have HF := hZ hst; clear hb hst)
                       | ((with_reducible refine wpList_var rfl 29 (.tmp 26) (.tmp 249) rfl rfl (#[.string br, .string bd]) ?hx ?hy ?hi ?ho ?h1 HF.out ?_); (case hx => rfl); (case hy => rfl); (case hi => kernel_rfl); (case ho => rfl); (case h1 => simp [Value.oneCell']); intro b26 V26 hb hst; rw [hb]; have HF := hZ hst; clear hb hst)
                       | fail)
                      obtain ⟨L, hst, m11, m12, m24, m26⟩ : ∃ L, St w V26 L [B, C7] ∧ (b11, .cells (B.cells.toArray : Array Value) 36 (0, 0)) ∈ L ∧ (b12, .cells (C7.cells.toArray : Array Value) 36 (0, 0)) ∈ L ∧ (b24, .cells (#[.string br, .string bd] : Array Value) 29 (0, 0)) ∈ L ∧ (b26, .cells (#[.string br, .string bd] : Array Value) 29 (0, 0)) ∈ L := ⟨_, HF.out, by simp, by simp, by simp, by simp⟩
                      have HM := hZ (And.intro m11 (And.intro m12 (And.intro m24 m26)))
                      have hS0 := hst.drew
                      clear HF hst m11 m12 m24 m26 x13 d2
                      refine wp_region_noPanic ?_
                      refine wp_region_held_drew (S := fun U => St w U L [B, C7]) (by kernel_rfl) hS0 (fun hHeld => ?_)
                      obtain ⟨Ud, hUd⟩ := oQ (V26.drew)
                      rw [hUd] at hHeld ⊢
                      clear hUd hS0
                      refine tk 0 ?_; refine tk 1 ?_; refine tk 2 ?_; refine tk 3 ?_; refine tk 4 ?_; refine tk 5 ?_; refine tk 6 ?_; refine tk 7 ?_; refine tk 8 ?_
                      refine tl 9 rfl (yieldsIf_load_mid (by rfl) 29 (.tmp 24) rfl b24 0 (by rfl) [.string br, .string bd] _ (fun W hw => hw.row (cs := [.string br, .string bd]) HM.out.2.2.1) Tryz.underlying29 rfl (by kernel_rfl)) ?_
                      refine tl 10 rfl (yieldsIf_load_mid (by rfl) 29 (.tmp 26) rfl b26 0 (by rfl) [.string br, .string bd] _ (fun W hw => hw.row (cs := [.string br, .string bd]) HM.out.2.2.2) Tryz.underlying29 rfl (by kernel_rfl)) ?_
                      refine tl 11 rfl (yields_eql (by rfl) 29 29 (.tmp 260) (.tmp 261) (by rfl) (.agg #[.string br, .string bd]) (.agg #[.string br, .string bd]) (by rfl) (by rfl) true (fun w => guard_rat _ _ _ _ w) (fun w => eql_rat _ _ w)) ?_
                      refine tk 12 ?_; refine tk 13 ?_; refine tk 14 ?_; refine tk 15 ?_; refine tk 16 ?_; refine tk 17 ?_; refine tk 18 ?_
                      refine tl 19 rfl (yieldsIf_load_mid (by rfl) 36 (.tmp 11) rfl b11 0 (by rfl) B.cells _ (fun W hw => hw.row (cs := B.cells) HM.out.1) Tryz.underlying36 rfl (IB B).out) ?_
                      refine tk 20 ?_; refine tk 21 ?_
                      refine tl 23 rfl (yieldsIf_load_mid (by rfl) 36 (.tmp 12) rfl b12 0 (by rfl) C7.cells _ (fun W hw => hw.row (cs := C7.cells) HM.out.2.1) Tryz.underlying36 rfl (IB C7).out) ?_
                      refine tk 24 ?_; refine tk 25 ?_
                      refine rd [22] ?_
                      refine rcE fun K hK => ?_
                      go_simp
                      (with_reducible refine (KW1.out _ _ hHeld).mono ?_)
                      rintro e1 Wa ⟨rfl, hb⟩
                      have hst := hHeld.step hb
                      clear hb
                      refine kk hK (hst) (fun hHeld => ?_)
                      clear hK K
                      refine rd [26] ?_
                      refine rcE fun K hK => ?_
                      go_simp
                      (with_reducible refine (KW2.out _ _ hHeld).mono ?_)
                      rintro e1 Wb ⟨rfl, hb⟩
                      have hst := hHeld.step hb
                      clear hb
                      refine kk hK (hst) (fun hHeld => ?_)
                      clear hK K
                      refine tk 27 ?_; refine tk 28 ?_; refine tk 29 ?_
                      refine dn ?_
                      clear KW1 KW2
                      go_wp2_with fail
                      have hS0 := hHeld.drew
                      clear hHeld
                      refine wp_region_noPanic ?_
                      refine wp_region_held_drew (S := fun U => St w U L [B, C7]) (by kernel_rfl) hS0 (fun hHeld => ?_)
                      obtain ⟨Ud, hUd⟩ := oQ (Wb.drew)
                      rw [hUd] at hHeld ⊢
                      clear hUd hS0
                      refine tk 0 ?_; refine tk 1 ?_; refine tk 2 ?_; refine tk 3 ?_; refine tk 4 ?_
                      refine tl 5 rfl (yieldsIf_load_mid (by rfl) 36 (.tmp 11) rfl b11 0 (by rfl) B.cells _ (fun W hw => hw.row (cs := B.cells) HM.out.1) Tryz.underlying36 rfl (IB B).out) ?_
                      refine tk 6 ?_
                      refine tl 8 rfl (yieldsIf_load_mid (by rfl) 36 (.tmp 12) rfl b12 0 (by rfl) C7.cells _ (fun W hw => hw.row (cs := C7.cells) HM.out.2.1) Tryz.underlying36 rfl (IB C7).out) ?_
                      refine tk 9 ?_
                      refine rd [7] ?_
                      refine rcE fun K hK => ?_
                      go_simp
                      (with_reducible refine (KH1.out _ _ hHeld).mono ?_)
                      rintro e1 W7 ⟨v7, rfl, ho, hb⟩
                      have hst := hHeld.step hb
                      obtain ⟨A7, c7, rfl, hc, hm⟩ := ho.slice
                      have HR7 := hZ (RowAt.of_ol (f := ptC) (k := 5) (fun _ => rfl) ho)
                      have HMX := hZ (Nat.le_trans hc hm)
                      clear hb ho hc hm
                      refine kk hK (hst) (fun hHeld => ?_)
                      clear hK K
                      refine rd [10] ?_
                      refine rcE fun K hK => ?_
                      go_simp
                      (with_reducible refine (KH2.out _ _ hHeld).mono ?_)
                      rintro e1 W10 ⟨v10, rfl, ho, hb⟩
                      have hst := hHeld.step hb
                      obtain ⟨A10, c10, rfl, hc, hm⟩ := ho.slice
                      have HR7 := hZ (HR7.out.below hb)
                      have HR10 := hZ (RowAt.of_ol (f := ptC) (k := 5) (fun _ => rfl) ho)
                      have HMX := hZ (Nat.le_trans hc hm)
                      clear hb ho hc hm
                      refine kk hK (hst) (fun hHeld => ?_)
                      clear hK K
                      refine rd [11] ?_
                      refine rcE fun K hK => ?_
                      go_simp
                      have hsm := sameHist_walk hr hd pts A7 A10 _ c7 c10 rfl HMX.out _ HR7.out HR10.out
                      (with_reducible refine hsm.mono ?_)
                      rintro e1 W11 ⟨rfl, hb⟩
                      have hst := hHeld.step hb
                      clear hb hsm HMX
                      refine kk hK (hst) (fun hHeld => ?_)
                      clear hK K
                      refine tk 12 ?_; refine tk 13 ?_
                      refine tl 14 rfl (yieldsIf_load_mid (by rfl) 36 (.tmp 11) rfl b11 0 (by rfl) B.cells _ (fun W hw => hw.row (cs := B.cells) HM.out.1) Tryz.underlying36 rfl (IB B).out) ?_
                      refine tk 15 ?_
                      refine tl 17 rfl (yieldsIf_load_mid (by rfl) 36 (.tmp 12) rfl b12 0 (by rfl) C7.cells _ (fun W hw => hw.row (cs := C7.cells) HM.out.2.1) Tryz.underlying36 rfl (IB C7).out) ?_
                      refine tk 18 ?_
                      refine rd [16] ?_
                      refine rcE fun K hK => ?_
                      go_simp
                      (with_reducible refine (KF1.out _ _ hHeld).mono ?_)
                      rintro e1 W16 ⟨v16, rfl, ho, hb⟩
                      have hst := hHeld.step hb
                      obtain ⟨A16, c16, rfl, hc, hm⟩ := ho.slice
                      have HR16 := hZ (RowAt.of_ol (f := susC) (k := 3) (fun _ => rfl) ho)
                      have HMX := hZ (Nat.le_trans hc hm)
                      clear hb ho hc hm
                      refine kk hK (hst) (fun hHeld => ?_)
                      clear hK K
                      refine rd [19] ?_
                      refine rcE fun K hK => ?_
                      go_simp
                      (with_reducible refine (KF2.out _ _ hHeld).mono ?_)
                      rintro e1 W19 ⟨v19, rfl, ho, hb⟩
                      have hst := hHeld.step hb
                      obtain ⟨A19, c19, rfl, hc, hm⟩ := ho.slice
                      have HR16 := hZ (HR16.out.below hb)
                      have HR19 := hZ (RowAt.of_ol (f := susC) (k := 3) (fun _ => rfl) ho)
                      have HMX := hZ (Nat.le_trans hc hm)
                      clear hb ho hc hm
                      refine kk hK (hst) (fun hHeld => ?_)
                      clear hK K
                      refine rd [20] ?_
                      refine rcE fun K hK => ?_
                      go_simp
                      have hsm := sameSus_walk fs fs A16 A19 _ c16 _ c19 rfl rfl HMX.out _ HR16.out HR19.out
                      rw [decide_eq_true rfl] at hsm
                      (with_reducible refine hsm.mono ?_)
                      rintro e1 W20 ⟨rfl, hb⟩
                      have hst := hHeld.step hb
                      clear hb hsm HMX
                      refine kk hK (hst) (fun hHeld => ?_)
                      clear hK K
                      refine tk 21 ?_; refine tk 22 ?_
                      refine tl 23 rfl (yieldsIf_load_mid (by rfl) 36 (.tmp 11) rfl b11 0 (by rfl) B.cells _ (fun W hw => hw.row (cs := B.cells) HM.out.1) Tryz.underlying36 rfl (IB B).out) ?_
                      refine tk 24 ?_
                      refine tl 26 rfl (yieldsIf_load_mid (by rfl) 36 (.tmp 12) rfl b12 0 (by rfl) C7.cells _ (fun W hw => hw.row (cs := C7.cells) HM.out.2.1) Tryz.underlying36 rfl (IB C7).out) ?_
                      refine tk 27 ?_
                      refine rd [25] ?_
                      refine rcE fun K hK => ?_
                      go_simp
                      (with_reducible refine (KC1.out _ _ hHeld).mono ?_)
                      rintro e1 W25 ⟨v25, rfl, ho, hb⟩
                      have hst := hHeld.step hb
                      obtain ⟨A25, c25, rfl, hc, hm⟩ := ho.slice
                      have HR25 := hZ (RowAt.of_ol (f := one iv) (k := 1) (fun _ => rfl) ho)
                      have HMX := hZ (Nat.le_trans hc hm)
                      clear hb ho hc hm
                      refine kk hK (hst) (fun hHeld => ?_)
                      clear hK K
                      refine rd [28] ?_
                      refine rcE fun K hK => ?_
                      go_simp
                      (with_reducible refine (KC2.out _ _ hHeld).mono ?_)
                      rintro e1 W28 ⟨v28, rfl, ho, hb⟩
                      have hst := hHeld.step hb
                      obtain ⟨A28, c28, rfl, hc, hm⟩ := ho.slice
                      have HR25 := hZ (HR25.out.below hb)
                      have HR28 := hZ (RowAt.of_ol (f := one iv) (k := 1) (fun _ => rfl) ho)
                      have HMX := hZ (Nat.le_trans hc hm)
                      clear hb ho hc hm
                      refine kk hK (hst) (fun hHeld => ?_)
                      clear hK K
                      refine rd [29] ?_
                      refine rcE fun K hK => ?_
                      go_simp
                      have hsm := sameInts_walk cs cs A25 A28 _ c25 _ c28 rfl rfl HMX.out _ HR25.out HR28.out
                      rw [decide_eq_true rfl] at hsm
                      (with_reducible refine hsm.mono ?_)
                      rintro e1 W29 ⟨rfl, hb⟩
                      have hst := hHeld.step hb
                      clear hb hsm HMX
                      refine kk hK (hst) (fun hHeld => ?_)
                      clear hK K
                      refine tk 30 ?_; refine tk 31 ?_
                      refine dn ?_
                      go_wp2_with fail
                      go_ret
                      exact ⟨rfl, hHeld.at_.below⟩
end Go.Proofs.YteeifhlhpiimoaaGreatDoor
