/-
  The law KnownKeys returns true. Conditions: its arguments lie in memory; the table of powers stands.
-/
import Derived.Test.YteeifhlhpiimoaaGreatDoorQAa
import Derived.Test.YteeifhlhpiimoaaGreatDoorQKk0
import Derived.Test.YteeifhlhpiimoaaGreatDoorQAp
import Derived.Test.YteeifhlhpiimoaaGreatDoorQAo
import Derived.Test.YteeifhlhpiimoaaGreatDoorQAq
namespace Go.Proofs.YteeifhlhpiimoaaGreatDoor
open Go Go.RowKit Go.Shelf Wr
attribute [local go_sem] Oper.semAt_some
def revE (i f : Int) : Ent := { zeroE with kind := 6, ver := 1, item := i, frm := f }
set_option maxRecDepth 100000 in
set_option maxHeartbeats 8000000 in
theorem kkeys_walk (w : World) (hp : Pow10 w) (l1 : List Six) (A1 : Option Addr) (n1 c1 : Nat) (iv fv lv tv : Int) (hn1 : l1.length = n1) (hm1 : n1 ≤ maxLen) (ho1 : ∀ y ∈ l1, y.Ok) (hi : I64 iv) (hf : I64 fv) (hl : I64 lv) (ht : I64 tv) (hA1 : SixAt w A1 l1) :
    Calls Tryz.prog 6 #[.slice A1 n1 c1, .int .i64 iv, .int .i64 fv, .int .i64 lv, .int .i64 tv] w (ValP w true) := by
  have HP := Lib.hid hp
  have IE := fun e : Ent => Lib.hid (ientry (e := e))
  have IS := fun e : Ent => Lib.hid (show (Tryz.prog.info? 33).map (·.size) = some e.cells.toArray.size from ientry (e := e))
  have IB := fun B : Bas => Lib.hid (ibase B)
  have S1 := Lib.hid (fun W (h : Below w.heap.size w W) => some_walk l1 A1 n1 c1 hn1 hm1 ho1 W (hA1.below h))
  obtain ⟨L, hL⟩ : ∃ L, (l1.take 30).map someE = L := ⟨_, rfl⟩
  have HLT : Hid (L.length ≤ 30 ∧ ∀ e ∈ L, Texts e) := Lib.hid ⟨by rw [← hL]; simp; omega, fun e he => by rw [← hL] at he; obtain ⟨y, _, rfl⟩ := List.mem_map.1 he; exact some_texts y⟩
  rw [hL] at S1
  have r1 := pickZ_range iv (n := 9) (by omega)
  have r2 := pickZ_range fv (n := 70) (by omega)
  have r3 := pickZ_range lv (n := 4) (by omega)
  have r4 := pickZ_range tv (n := 80) (by omega)
  obtain ⟨p1, hp1⟩ : ∃ p, pickZ iv 9 = p := ⟨_, rfl⟩
  obtain ⟨from_, hp2⟩ : ∃ p, pickZ fv 70 = p := ⟨_, rfl⟩
  obtain ⟨p3, hp3⟩ : ∃ p, pickZ lv 4 = p := ⟨_, rfl⟩
  obtain ⟨time, hp4⟩ : ∃ p, pickZ tv 80 = p := ⟨_, rfl⟩
  rw [hp1] at r1
  rw [hp2] at r2
  rw [hp3] at r3
  rw [hp4] at r4
  have PK : ∀ (x n p : Int), I64 x → 1 ≤ n → n ≤ 100 → pickZ x n = p → ∀ W, Calls Tryz.prog 13 #[.int .i64 x, .int .i64 n] W fun e W' => e = .returned (.int .i64 p) ∧ W = W' := fun x n p hx h1 h2 hp W => by rw [← hp]; exact pick19_walk W x n hx.1 hx.2 h1 (by omega)
  have P1 := Lib.hid (PK iv 9 p1 hi (by omega) (by omega) hp1)
  have P2 := Lib.hid (PK fv 70 from_ hf (by omega) (by omega) hp2)
  have P3 := Lib.hid (PK lv 4 p3 hl (by omega) (by omega) hp3)
  have P4 := Lib.hid (PK tv 80 time ht (by omega) (by omega) hp4)
  obtain ⟨idn, hid⟩ : ∃ q, 1 + p1 = q := ⟨_, rfl⟩
  obtain ⟨lab, hlab⟩ : ∃ q, 1 + p3 = q := ⟨_, rfl⟩
  have wi : IntKind.i64.wrap (1 + p1) = idn := by rw [IntKind.wrap_i64]; omega
  have wl : IntKind.i64.wrap (1 + p3) = lab := by rw [IntKind.wrap_i64]; omega
  clear hp hn1 hm1 ho1 hi hf hl ht hA1 hL PK hp1 hp2 hp3 hp4 hid hlab r1 r2 r3 r4
  go_enter Tryz.func6, Tryz.ntmps6
  go_wp2_with (first
    | (go_at_call 11; refine (sane_walk _ HP.out).mono ?_; rintro e2 w1 ⟨rfl, hb⟩; have HB1 := Lib.hid hb; clear hb)
    | (go_at_call 12; refine (S1.out w1 HB1.out).mono ?_; rintro e2 w2 ⟨v10, rfl, ho, hb⟩
       have HB2 := Lib.hid (HB1.out.trans (hb.mono HB1.out.size))
       obtain ⟨AL, cL, rfl, hcl, hcm⟩ := ho.slice
       have C1 := Lib.hid (knownOf_walk L 100000 AL _ cL rfl (by have := HLT.out.1; omega) w2 (EAt.of_ol (Y := Old w2) ho (fun b e => by have := (ho.lt b (by rw [e]; rfl)).2; exact this)) (fun e he => (HLT.out.2 e he).wire) (HP.out.below HB2.out))
       obtain ⟨n0, hn0⟩ : ∃ n0, L.length = n0 := ⟨_, rfl⟩
       rw [hn0] at C1 ⊢
       clear hb ho HB1 S1 hcl hcm hn0)
    | (go_at_call 15; (with_reducible refine C1.out.mono ?_); rintro e2 w3 ⟨B, rfl, hB, hI, hb⟩
       have HBS := Lib.hid hB
       have HL4 : Hid ((B.ls 4).length ≤ 30 ∧ (B.ls 5).length ≤ 30) := Lib.hid (by rw [hI 4 (by decide), hI 5 (by decide)]; have := known_len L 100000 4; have := known_len L 100000 5; have := HLT.out.1; omega)
       have HB3 := Lib.hid (HB2.out.trans (hb.mono HB2.out.size))
       clear hB hI hb HB2 C1)
    | ((with_reducible refine store_newB rfl (.tmp 13) (.tmp 29) rfl rfl B ?hx ?hy ?hold ?_); (case hx => rfl); (case hy => rfl); (case hold => rfl); intro w4 hs4 hb4
       obtain ⟨b13, hb13⟩ : ∃ q, w3.heap.size = q := ⟨_, rfl⟩
       rw [hb13] at hs4 ⊢
       have H13 := Lib.hid hs4
       have E13 := Lib.hid hb13
       have HB4 := Lib.hid hb4
       have HR13 := Lib.hid (range_of (cs := B.cells) hs4)
       clear hs4 hb13 hb4)
    | (go_at_call 13; (with_reducible refine (P1.out _).mono ?_); rintro e2 W2 ⟨rfl, rfl⟩; clear P1)
    | (go_at_call 13; (with_reducible refine (P2.out _).mono ?_); rintro e2 W2 ⟨rfl, rfl⟩; clear P2)
    | (go_at_call 13; (with_reducible refine (P3.out _).mono ?_); rintro e2 W2 ⟨rfl, rfl⟩; clear P3)
    | (go_at_call 13; (with_reducible refine (P4.out _).mono ?_); rintro e2 W2 ⟨rfl, rfl⟩; clear P4)
    | ((with_reducible refine wpList_load_mid rfl 36 (.tmp 13) rfl b13 0 ?hx B.cells _ HR13.out Tryz.underlying36 rfl (IB B).out ?_); (case hx => first | rfl | (rw [← E13.out]; rfl)))
    | ((with_reducible refine store_newB rfl (.tmp 14) (.tmp 40) rfl rfl B ?hx ?hy ?hold ?_); (case hx => rfl); (case hy => rfl); (case hold => rfl); intro w5 hs5 hb5
       obtain ⟨b14, hb14⟩ : ∃ q, w4.heap.size = q := ⟨_, rfl⟩
       rw [hb14] at hs5 ⊢
       have H14 := Lib.hid hs5
       have E14 := Lib.hid hb14
       have HB5 := Lib.hid hb5
       obtain ⟨w6, hw6⟩ : ∃ W, w5.alloc (.cells #[] 33) = W := ⟨_, rfl⟩
       have HB6 : Hid (Below w5.heap.size w5 w6) := Lib.hid (by rw [← hw6]; exact below_new _ _)
       have HZ : Hid (OL w6 w5.heap.size 33 18 Ent.cells (.slice (some ⟨w5.heap.size, 0, none⟩) 0 0) []) := Lib.hid (by rw [← hw6]; exact OL.lit0E w5 (Nat.le_refl _))
       have x5 : w6.cell? ⟨b13, 5, none⟩ = some (.slice (B.ad 5) (B.ls 5).length (B.cp 5)) := cells_i (below_at2 HB6.out (below_at2 HB5.out H13.out)) (i := 5) rfl
       have HS6 := Lib.hid (((HBS.out.below HB4.out).below HB5.out).below HB6.out)
       clear hs5 hb14 hb5)
    | (at_builtin; refine wpList_cat rfl (.tmp 41) (.tmp 43) 25 rfl elemEnt (fun _ => rfl) _ [] rfl HZ.out (B.ad 5) (B.ls 5) _ (B.cp 5) rfl rfl (HS6.out.none_ 5 (by decide)) (HS6.out.at_ 5 (by decide)).cats (fun x _ => one_cells' x) (by have := HL4.out.2; unfold maxLen; simp; omega) (by have := HL4.out.2; simp; omega) HB6.out.size ?_; intro v44 w7 h1 _ h3
       have HV7 := Lib.hid h1
       have HB7 := Lib.hid (HB6.out.trans h3)
       clear h1 h3)
    | (refine wpList_build rfl 33 #[(0, .const (.int .i64 6)), (2, .const (.int .i64 1)), (8, .tmp 45), (5, .tmp 46)] rfl (revE idn from_).cells.toArray (by kernel_rfl) ?_)
    | ((with_reducible refine wpList_build_ent rfl (.tmp 47) rfl (revE idn from_) ?hx ?_); (case hx => rfl); intro bn V9 hbn hV9
       have HV9 := Lib.hid (show V9.heap[bn]? = some (.cells (revE idn from_).cells.toArray 33 (0, 0)) from by rw [← hV9, ← hbn]; exact World.alloc_heap_new _ _)
       have HBV := Lib.hid (show Below w7.heap.size w7 V9 from by rw [← hV9]; exact below_new _ _)
       clear hbn hV9)
    | (at_builtin; refine wpList_app rfl (.tmp 44) (.tmp 48) 25 rfl elemEnt v44 ([] ++ B.ls 5) (B.ls 5).length (by simp) rfl (HV7.out.below HBV.out (Nat.le_refl _)) (revE idn from_) bn (revE idn from_).cells.toArray rfl HV9.out rfl rfl (one_cells' _) (by have := HL4.out.2; unfold maxLen; simp; omega) (by have := HL4.out.2; simp; omega) (Nat.le_trans HB7.out.size HBV.out.size) ?_; intro g3 c3 w8 h3 _ _ _ hb3
       obtain ⟨w9, hw9⟩ : ∃ W, w8.setCell ⟨b14, 5, none⟩ (.slice (some ⟨g3, 0, none⟩) ((B.ls 5).length + 1) c3) = W := ⟨_, rfl⟩
       have hb8 : Below w5.heap.size w5 w8 := (HB7.out.trans (HBV.out.mono HB7.out.size)).trans hb3
       have q13 : b13 < b14 := by have := cells_lt H13.out; rw [← E14.out]; exact this
       have q14 : b14 < w5.heap.size := cells_lt H14.out
       have hg3 := (h3.lt g3 rfl).1
       have k13 := below_at2 hb8 (below_at2 HB5.out H13.out)
       have k14 := below_at2 hb8 H14.out
       have x14 : w8.cell? ⟨b14, 5, none⟩ = some (.slice (B.ad 5) (B.ls 5).length (B.cp 5)) := cells_i k14 (i := 5) rfl
       have f14 := cells_free k14 5
       obtain ⟨C, hC⟩ : ∃ C, B.put 5 (B.ls 5 ++ [revE idn from_]) (some ⟨g3, 0, none⟩) c3 = C := ⟨_, rfl⟩
       have HC := Lib.hid hC
       have n13 : w9.heap[b13]? = some (.cells B.cells.toArray 36 (0, 0)) := by rw [← hw9, Below.heap_setCell _ _ _ _ (by show b13 ≠ b14; omega)]; exact k13
       have n14 : w9.heap[b14]? = some (.cells C.cells.toArray 36 (0, 0)) := by
         have := heap_setCell_same w8 b14 5 _ _ (.slice (some ⟨g3, 0, none⟩) ((B.ls 5).length + 1) c3) k14
         have e1 := B.put_cells (j := 5) (by decide) (B.ls 5 ++ [revE idn from_]) (some ⟨g3, 0, none⟩) c3
         rw [List.length_append, List.length_singleton, hC] at e1
         rw [← hw9, this, e1]
       have hb9 : Below w3.heap.size w3 w9 := by
         rw [← hw9]
         exact Below.setCell (((HB4.out.trans (HB5.out.mono HB4.out.size)).trans (hb8.mono (Nat.le_trans HB4.out.size HB5.out.size)))) (by show w3.heap.size ≤ b14; rw [← E14.out]; exact HB4.out.size) _
       have e13 := E13.out
       have hYB : BasAt w9 (fun k => k < w9.heap.size ∧ k ≠ b13 ∧ k ≠ b14) B := (HBS.out.keeps (Keeps.of_below hb9 fun _ hk => hk)).mono fun k hk => by unfold Old at hk; have := hb9.size; omega
       have ho9 : OL w9 w5.heap.size 33 18 Ent.cells (.slice (some ⟨g3, 0, none⟩) ((B.ls 5).length + 1) c3) (B.ls 5 ++ [revE idn from_]) := by
         have h4 : OL w8 w5.heap.size 33 18 Ent.cells (.slice (some ⟨g3, 0, none⟩) ((B.ls 5).length + 1) c3) (B.ls 5 ++ [revE idn from_]) := by simpa using h3
         refine h4.keep fun g hg => ?_
         have hgg : g3 = g := by injection hg
         rw [← hw9]
         exact Below.heap_setCell _ _ _ _ (by show g ≠ b14; omega)
       have hYC : BasAt w9 (fun k => k < w9.heap.size ∧ k ≠ b13 ∧ k ≠ b14) C := by
         rw [← hC]
         refine hYB.putO ho9 fun b hb => ?_
         injection hb with hb
         injection hb with hb
         have := (ho9.lt g3 rfl).2
         omega
       have HYB := Lib.hid hYB
       have HYC := Lib.hid hYC
       have N13 := Lib.hid n13
       have N14 := Lib.hid n14
       have HR13 := Lib.hid (range_of (cs := B.cells) n13)
       have HR14 := Lib.hid (range_of (cs := C.cells) n14)
       have HB9 := Lib.hid (HB3.out.trans (hb9.mono HB3.out.size))
       have HNE := Lib.hid (And.intro q13 (show b14 < w9.heap.size from by have := cells_lt n14; exact this))
       have K1 := Lib.hid (knownKey_walk B lab time w9 (hYB.mono fun k hk => hk.1))
       clear H13 H14 HB4 HB5 HB6 HB7 HBV HV7 HV9 HZ HS6 hw6 x5 h3 hb3 hb8 q13 q14 hg3 k13 k14 hC n13 n14 hb9 e13 hYB ho9 hYC)
    | (go_at_call 23; (with_reducible refine K1.out.mono ?_); rintro e2 w10 ⟨rfl, hb⟩
       have HB10 := Lib.hid hb
       have HR14 := Lib.hid (range_of (cs := C.cells) (below_at2 hb N14.out))
       obtain ⟨s1, hs1⟩ : ∃ s, (keyB B lab time).1.text = s := ⟨_, rfl⟩
       obtain ⟨o1, ho1⟩ : ∃ o, (keyB B lab time).2 = o := ⟨_, rfl⟩
       have HS1 := Lib.hid hs1
       have HO1 := Lib.hid ho1
       rw [hs1, ho1]
       clear K1 hs1 ho1 hb hw9 x14 f14)
    | ((with_reducible refine wpList_load_mid rfl 36 (.tmp 14) rfl b14 0 ?hx C.cells _ HR14.out Tryz.underlying36 rfl (IB C).out ?_); (case hx => first | rfl | (rw [← E14.out]; rfl)))
    | fail)
  have K2 := Lib.hid (fun W (h : Below w9.heap.size w9 W) => knownKey_walk C lab time W ((HYC.out.keeps (Keeps.of_below h fun _ hk => hk.1)).mono fun k hk => by unfold Old; have := h.size; omega))
  obtain ⟨s2, hs2⟩ : ∃ s, (keyB C lab time).1.text = s := ⟨_, rfl⟩
  obtain ⟨o2, ho2⟩ : ∃ o, (keyB C lab time).2 = o := ⟨_, rfl⟩
  have HS2 := Lib.hid hs2
  have HO2 := Lib.hid ho2
  rw [hs2, ho2] at K2
  have HC4 : Hid (C.ls 4 = B.ls 4 ∧ C.ad 4 = B.ad 4 ∧ C.cp 4 = B.cp 4 ∧ C.ls 5 = B.ls 5 ++ [revE idn from_]) := Lib.hid (by rw [← HC.out]; exact ⟨rfl, rfl, rfl, rfl⟩)
  clear hs2 ho2
  by_cases hlt : time < from_
  · have d1 : decide (time < from_) = true := by simp [hlt]
    have he := keys_early (lab := lab) (t := time) HC4.out.1 HC4.out.2.2.2 (r := revE idn from_) hlt
    obtain rfl : s1 = s2 := by rw [← HS1.out, ← HS2.out, he]
    obtain rfl : o1 = o2 := by rw [← HO1.out, ← HO2.out, he]
    clear he hlt
    go_wp2_with (first
      | (go_at_call 23; (with_reducible refine (K2.out _ HB10.out).mono ?_); rintro e2 w11 ⟨rfl, hb⟩; have HB11 := Lib.hid hb; clear hb K2)
      | fail)
    go_ret
    have a1 := HB9.out.trans (HB10.out.mono HB9.out.size)
    exact ⟨rfl, a1.trans (HB11.out.mono a1.size)⟩
  · have d1 : decide (time < from_) = false := by simp; omega
    have hle : (revE idn from_).frm ≤ time := by show from_ ≤ time; omega
    have hor : o2 = false ∨ (o2 = true ∧ o1 = true) := by
      cases o2
      · exact .inl rfl
      · refine .inr ⟨rfl, ?_⟩
        rw [← HO1.out]
        exact keys_two HC4.out.1 HC4.out.2.2.2 HO2.out
    have HFD : Hid ((!(keyB C lab time).2 || (B.ls 4).any (heldB lab time s2.toList idn)) = true) := Lib.hid (by
      have := keys_found (lab := lab) (t := time) HC4.out.1 HC4.out.2.2.2 hle
      rw [HS2.out] at this
      exact this)
    have HLE := Lib.hid hle
    obtain ⟨n4, hn4⟩ : ∃ n, (B.ls 4).length = n := ⟨_, rfl⟩
    obtain ⟨A4, hA4⟩ : ∃ A, B.ad 4 = A := ⟨_, rfl⟩
    obtain ⟨c4, hc4⟩ : ∃ c, B.cp 4 = c := ⟨_, rfl⟩
    have HN4 := Lib.hid hn4
    have HA4 := Lib.hid hA4
    have hn30 : n4 ≤ 30 := by rw [← hn4]; exact HL4.out.1
    have HX13 : Hid (∀ W : World, W.heap[b13]? = some (.cells B.cells.toArray 36 (0, 0)) → W.cell? ⟨b13, 4, none⟩ = some (.slice A4 n4 c4)) := Lib.hid fun W h => by rw [← hn4, ← hA4, ← hc4]; exact cells_i h (i := 4) rfl
    clear hlt hle hn4 hA4 hc4
    rcases hor with rfl | ⟨rfl, rfl⟩
    all_goals
      go_wp2_with (first
        | (go_at_call 23; (with_reducible refine (K2.out _ HB10.out).mono ?_); rintro e2 w11 ⟨rfl, hb⟩
           have hb11 := HB10.out.trans (hb.mono HB10.out.size)
           have k13 := below_at2 hb11 N13.out
           have k14 := below_at2 hb11 N14.out
           have x14 := cells_i k14 (i := 4) rfl
           have f14 := cells_free k14 4
           obtain ⟨w12, hw12⟩ : ∃ W, w11.setCell ⟨b14, 4, none⟩ (.slice none 0 0) = W := ⟨_, rfl⟩
           obtain ⟨N, hN⟩ : ∃ N, w12.heap.size = N := ⟨_, rfl⟩
           have q1 := HNE.out.1
           have e13 := E13.out
           have q2 := HB3.out.size
           have m13 : w12.heap[b13]? = some (.cells B.cells.toArray 36 (0, 0)) := by rw [← hw12, Below.heap_setCell _ _ _ _ (by show b13 ≠ b14; omega)]; exact k13
           have m14 : w12.heap[b14]? = some (.cells (C.put 4 [] none 0).cells.toArray 36 (0, 0)) := by
             rw [← hw12, heap_setCell_same w11 b14 4 _ _ (.slice none 0 0) k14]
             have e1 := C.put_cells (j := 4) (by decide) [] none 0
             rw [← e1]; rfl
           have hk9 : Keeps (fun k => k < w9.heap.size ∧ k ≠ b13 ∧ k ≠ b14) w9 w12 := fun k hk => by
             rw [← hw12, Below.heap_setCell _ _ _ _ hk.2.2]; exact hb11.block k hk.1
           have hs12 : w9.heap.size ≤ N := by rw [← hN, ← hw12]; exact Nat.le_trans hb11.size (Nat.le_of_eq (World.size_setCell _ _ _).symm)
           have hyc : BasAt w12 (fun k => k ≠ b14 ∧ k < N) C := (HYC.out.keeps hk9).mono fun k hk => ⟨hk.2.2, by omega⟩
           have hye : EAt w12 (fun k => k ≠ b14 ∧ k < N) A4 (B.ls 4) := by
             have := hyc.at_ 4 (by decide)
             rw [HC4.out.1, HC4.out.2.1, HA4.out] at this
             exact this
           have HYD := Lib.hid hyc
           have HYE := Lib.hid hye
           have M13 := Lib.hid m13
           have M14 := Lib.hid m14
           have HB14 : Hid (b14 < N) := Lib.hid (by rw [← hN]; exact cells_lt m14)
           have HB13 : Hid (b13 ≠ b14 ∧ b13 < N) := Lib.hid ⟨by omega, by rw [← hN]; exact cells_lt m13⟩
           have HW14 : Hid (w.heap.size ≤ b14) := Lib.hid (by omega)
           have HBW : Hid (Below w.heap.size w w12) := Lib.hid (by rw [← hw12]; exact Below.setCell (HB9.out.trans (hb11.mono HB9.out.size)) HW14.out _)
           have HWN : Hid (w.heap.size ≤ N) := Lib.hid (by rw [← hN]; exact HBW.out.size)
           have HNN := Lib.hid hN
           clear hb K2 k13 k14 q1 q2 e13 m13 m14 hk9 hs12 hyc hye hb11 hN)
        | fail)
      have HNL := Lib.hid (Nat.le_of_eq HNN.out.symm)
      have HO0 : Hid (OL w12 N 33 18 Ent.cells (.slice none ([] : List Ent).length 0) []) := Lib.hid OL.nil
      clear x14 f14 hw12
      go_loopw [19] (fun xv wr => ∃ (i : Nat) (m : List Ent) (A : Option Addr) (c : Nat), xv = .int .i64 (i : Int) ∧ i ≤ n4 ∧ Hid (m = ((B.ls 4).take i).filter fun e => e.id != idn) ∧ Hid (OL wr N 33 18 Ent.cells (.slice A m.length c) m) ∧ Hid (wr.heap[b14]? = some (.cells (C.put 4 m A c).cells.toArray 36 (0, 0))) ∧ Hid (Keeps (fun k => k ≠ b14 ∧ k < N) w12 wr) ∧ Hid (Below w.heap.size w wr ∧ w12.heap.size ≤ wr.heap.size)) (fun x _ => n4 - (intOf x).toNat)
      case atStart => exact ⟨0, [], none, 0, rfl, Nat.zero_le _, Lib.hid (by simp), HO0, M14, Lib.hid (Keeps.refl _ _), Lib.hid ⟨HBW.out, Nat.le_refl _⟩⟩
      case round =>
        clear HO0 M14 HBW
        obtain ⟨i, m, Am, cm, rfl, hi, HM, HO, H14, HK, HBW⟩ := hrel
        have x13 : wr.cell? ⟨b13, 4, none⟩ = some (.slice A4 n4 c4) := HX13.out wr ((HK.out b13 HB13.out).trans M13.out)
        by_cases hin : i < n4
        · obtain ⟨e, he⟩ : ∃ e, (B.ls 4)[i]? = some e := ⟨_, List.getElem?_eq_getElem (by rw [HN4.out]; exact hin)⟩
          obtain ⟨b4, hA, hY4, hrg⟩ := HYE.out i e he
          subst hA
          have HE := Lib.hid he
          have d2 : decide (i < n4) = true := by simp [hin]
          have z1 : (0 : Int) ≤ (i : Int) := by omega
          have z2 : (i : Int) < (n4 : Int) := by omega
          have wk : IntKind.i64.wrap ((i : Int) + 1) = ((i + 1 : Nat) : Int) := by rw [IntKind.wrap_i64]; omega
          have HSS : Hid (∀ W, Keeps (fun k => k ≠ b14 ∧ k < N) w12 W → W.cell? ⟨b13, 4, none⟩ = some (.slice (some ⟨b4, 0, none⟩) n4 c4) ∧ World.rangeAt W b4 (i * 18) e.cells) := Lib.hid fun W hk => ⟨HX13.out W ((hk b13 HB13.out).trans M13.out), fun j v hv => (World.cell?_of_block (w := w12) (a := ⟨b4, i * 18 + j, none⟩) (hk b4 hY4)).trans (hrg j v hv)⟩
          have y1 : wr.cell? ⟨b4, i * 18 + 1, none⟩ = some (.int .i64 e.id) := (HSS.out wr HK.out).2 1 _ rfl
          have HML : Hid (m.length ≤ 30) := Lib.hid (by have h1 : m.length ≤ ((B.ls 4).take i).length := by rw [HM.out]; exact List.length_filter_le _ _
                                                        rw [List.length_take] at h1; omega)
          obtain ⟨q, hq⟩ : ∃ q, (e.id != idn) = q := ⟨_, rfl⟩
          have HQ := Lib.hid hq
          have HIN := Lib.hid hin
          have hmn : ((B.ls 4).take (i + 1)).filter (fun e => e.id != idn) = if q = true then m ++ [e] else m := by
            rw [List.take_add_one, he, Option.toList_some, List.filter_append, ← HM.out]
            cases q <;> simp [hq]
          have HMN := Lib.hid hmn
          clear he hY4 hrg hin hmn
          cases q
          · go_wp2_with fail
            go_round
            case rel => exact ⟨i + 1, m, Am, cm, rfl, HIN.out, Lib.hid (by rw [HMN.out]; rfl), HO, H14, HK, HBW⟩
            case measure => simp [intOf]; have := HIN.out; omega
          · go_wp2_with fail
            have HKd : Hid (Keeps (fun k => k ≠ b14 ∧ k < N) w12 wr.drew) := Lib.hid HK.out
            have H14d : Hid (wr.drew.heap[b14]? = some (.cells (C.put 4 m Am cm).cells.toArray 36 (0, 0))) := Lib.hid H14.out
            have HOd := Lib.hid HO.out.drew
            have HBWd : Hid (Below w.heap.size w wr.drew ∧ w12.heap.size ≤ wr.drew.heap.size) := Lib.hid ⟨Below.drew HBW.out.1, HBW.out.2⟩
            clear x13 y1 HK H14 HO HBW
            refine wp_region_noPanic ?_
            refine wp_region_held_drew (S := fun U => U.cell? ⟨b13, 4, none⟩ = some (.slice (some ⟨b4, 0, none⟩) n4 c4) ∧ World.rangeAt U b4 (i * 18) e.cells) (by kernel_rfl) (HSS.out wr.drew HKd.out) (fun hHeld => ?_)
            obtain ⟨U0, hU0⟩ : ∃ U, wr.drew = U := ⟨_, rfl⟩
            rw [hU0] at HKd H14d HOd HBWd hHeld ⊢
            clear hU0
            refine tk 0 ?_
            refine tk 2 ?_
            refine tk 3 ?_
            refine tk 4 ?_
            refine tk 5 ?_
            refine tl 6 rfl (yieldsIf_load_mid (by rfl) 33 (.tmp 105) rfl b4 (i * 18) (by rfl) e.cells _ (fun w hw => hw.2) Tryz.underlying33 rfl (IE e).out) ?_
            refine rd [1, 7] ?_
            refine rc (fun K hK => ?_) ?_
            ·
             have c1 := cells_i H14d.out (i := 4) rfl
             go_simp
             clear c1
             refine kk hK (hHeld) (fun hHeld => ?_)
             clear hK K
             refine rd [7] ?_
             refine rc (fun K hK => ?_) ?_
             ·
              refine step_build_ent (by rfl) (.tmp 106) (by rfl) e (by rfl) ?_
              intro bn V7 hbn hbl hn7
              subst hbn
              have HN7 := Lib.hid hn7
              have HKd := Lib.hid (HKd.out.trans (Keeps.of_below hbl fun k hk => Nat.lt_of_lt_of_le hk.2 (Nat.le_trans HNL.out HBWd.out.2)))
              have H14d := Lib.hid (below_at2 hbl H14d.out)
              have HOd := Lib.hid (HOd.out.below hbl (Nat.le_refl _))
              have HBWd := Lib.hid (And.intro (HBWd.out.1.trans (hbl.mono HBWd.out.1.size)) (Nat.le_trans HBWd.out.2 hbl.size))
              clear hn7 hbl
              refine kk hK (HSS.out _ HKd.out) (fun hHeld => ?_)
              clear hK K
              refine rd [8] ?_
              refine rc (fun K hK => ?_) ?_
              ·
               refine step_app (by rfl) (.tmp 101) (.tmp 107) 25 (by rfl) elemEnt (.slice Am m.length cm) m m.length rfl (by rfl) HOd.out e U0.heap.size e.cells.toArray (by rfl) HN7.out (by simp) rfl (one_cells' e) (by have := HML.out; unfold maxLen; omega) (by have := HML.out; omega) (Nat.le_trans HNL.out HBWd.out.2) ?_
               intro g' cap' V8 ho8 hgr8 _ _ hb8
               have hne : ∀ k, k < N → (Value.slice Am m.length cm).ownBlock ≠ some k := fun k hk e => by have := (HOd.out.lt k e).1; omega
               have HKe : Hid (Keeps (fun k => k ≠ b14 ∧ k < N) w12 V8) := Lib.hid (HKd.out.trans fun k hk => hgr8.block k (Nat.lt_of_lt_of_le hk.2 (Nat.le_trans HNL.out HBWd.out.2)) fun e => hne k hk.2 e.symm)
               have H14e : Hid (V8.heap[b14]? = some (.cells (C.put 4 m Am cm).cells.toArray 36 (0, 0))) := Lib.hid ((hgr8.block b14 (cells_lt H14d.out) fun e => hne b14 HB14.out e.symm).trans H14d.out)
               have HOe := Lib.hid ho8
               have HBWe := Lib.hid (And.intro (HBWd.out.1.trans (hb8.mono HWN.out)) (Nat.le_trans HBWd.out.2 hgr8.size))
               clear ho8 hgr8 hb8 hne
               refine kk hK (HSS.out _ HKe.out) (fun hHeld => ?_)
               clear hK K
               refine tk 9 ?_
               refine rd [10] ?_
               refine rc (fun K hK => ?_) ?_
               ·
                have c14 := cells_i H14e.out (i := 4) rfl
                have f14 := cells_free H14e.out 4
                go_simp
                clear c14 f14
                obtain ⟨V9, hV9⟩ : ∃ V, V8.setCell ⟨b14, 4, none⟩ (.slice (some ⟨g', 0, none⟩) (m.length + 1) cap') = V := ⟨_, rfl⟩
                have HKf : Hid (Keeps (fun k => k ≠ b14 ∧ k < N) w12 V9) := Lib.hid (by rw [← hV9]; exact HKe.out.trans fun k hk => Below.heap_setCell _ _ _ _ hk.1)
                have H14f : Hid (V9.heap[b14]? = some (.cells (C.put 4 (m ++ [e]) (some ⟨g', 0, none⟩) cap').cells.toArray 36 (0, 0))) := Lib.hid (by rw [← hV9, heap_setCell_same V8 b14 4 _ _ _ H14e.out]; have e1 := C.put2_cells (j := 4) (by decide) m (m ++ [e]) Am (some ⟨g', 0, none⟩) cm cap'; rw [List.length_append, List.length_singleton] at e1; rw [e1])
                have HOf : Hid (OL V9 N 33 18 Ent.cells (.slice (some ⟨g', 0, none⟩) (m.length + 1) cap') (m ++ [e])) := Lib.hid (by rw [← hV9]; refine HOe.out.keep fun g hg => Below.heap_setCell _ _ _ _ ?_; show g ≠ b14; have := (HOe.out.lt g hg).1; have := HB14.out; omega)
                have HBWf : Hid (Below w.heap.size w V9 ∧ w12.heap.size ≤ V9.heap.size) := Lib.hid (by rw [← hV9]; exact ⟨Below.setCell HBWe.out.1 HW14.out _, by rw [World.size_setCell]; exact HBWe.out.2⟩)
                rw [hV9]
                clear hV9
                refine kk hK (HSS.out _ HKf.out) (fun hHeld => ?_)
                clear hK K
                refine dn ?_
                clear hHeld
                go_wp2_with fail
                go_round
                case rel => exact ⟨i + 1, m ++ [e], _, _, rfl, HIN.out, Lib.hid (by rw [HMN.out]; rfl), Lib.hid (by rw [List.length_append, List.length_singleton]; exact HOf.out), H14f, HKf, HBWf⟩
                case measure => simp [intOf]; have := HIN.out; omega
               exact AllReadyH.nil
              exact AllReadyH.nil
             exact AllReadyH.nil
            refine rc (fun K hK => ?_) ?_
            ·
             refine step_build_ent (by rfl) (.tmp 106) (by rfl) e (by rfl) ?_
             intro bn V7 hbn hbl hn7
             subst hbn
             have HN7 := Lib.hid hn7
             have HKd := Lib.hid (HKd.out.trans (Keeps.of_below hbl fun k hk => Nat.lt_of_lt_of_le hk.2 (Nat.le_trans HNL.out HBWd.out.2)))
             have H14d := Lib.hid (below_at2 hbl H14d.out)
             have HOd := Lib.hid (HOd.out.below hbl (Nat.le_refl _))
             have HBWd := Lib.hid (And.intro (HBWd.out.1.trans (hbl.mono HBWd.out.1.size)) (Nat.le_trans HBWd.out.2 hbl.size))
             clear hn7 hbl
             refine kk hK (HSS.out _ HKd.out) (fun hHeld => ?_)
             clear hK K
             refine rd [1] ?_
             refine rc (fun K hK => ?_) ?_
             ·
              have c1 := cells_i H14d.out (i := 4) rfl
              go_simp
              clear c1
              refine kk hK (hHeld) (fun hHeld => ?_)
              clear hK K
              refine rd [8] ?_
              refine rc (fun K hK => ?_) ?_
              ·
               refine step_app (by rfl) (.tmp 101) (.tmp 107) 25 (by rfl) elemEnt (.slice Am m.length cm) m m.length rfl (by rfl) HOd.out e U0.heap.size e.cells.toArray (by rfl) HN7.out (by simp) rfl (one_cells' e) (by have := HML.out; unfold maxLen; omega) (by have := HML.out; omega) (Nat.le_trans HNL.out HBWd.out.2) ?_
               intro g' cap' V8 ho8 hgr8 _ _ hb8
               have hne : ∀ k, k < N → (Value.slice Am m.length cm).ownBlock ≠ some k := fun k hk e => by have := (HOd.out.lt k e).1; omega
               have HKe : Hid (Keeps (fun k => k ≠ b14 ∧ k < N) w12 V8) := Lib.hid (HKd.out.trans fun k hk => hgr8.block k (Nat.lt_of_lt_of_le hk.2 (Nat.le_trans HNL.out HBWd.out.2)) fun e => hne k hk.2 e.symm)
               have H14e : Hid (V8.heap[b14]? = some (.cells (C.put 4 m Am cm).cells.toArray 36 (0, 0))) := Lib.hid ((hgr8.block b14 (cells_lt H14d.out) fun e => hne b14 HB14.out e.symm).trans H14d.out)
               have HOe := Lib.hid ho8
               have HBWe := Lib.hid (And.intro (HBWd.out.1.trans (hb8.mono HWN.out)) (Nat.le_trans HBWd.out.2 hgr8.size))
               clear ho8 hgr8 hb8 hne
               refine kk hK (HSS.out _ HKe.out) (fun hHeld => ?_)
               clear hK K
               refine tk 9 ?_
               refine rd [10] ?_
               refine rc (fun K hK => ?_) ?_
               ·
                have c14 := cells_i H14e.out (i := 4) rfl
                have f14 := cells_free H14e.out 4
                go_simp
                clear c14 f14
                obtain ⟨V9, hV9⟩ : ∃ V, V8.setCell ⟨b14, 4, none⟩ (.slice (some ⟨g', 0, none⟩) (m.length + 1) cap') = V := ⟨_, rfl⟩
                have HKf : Hid (Keeps (fun k => k ≠ b14 ∧ k < N) w12 V9) := Lib.hid (by rw [← hV9]; exact HKe.out.trans fun k hk => Below.heap_setCell _ _ _ _ hk.1)
                have H14f : Hid (V9.heap[b14]? = some (.cells (C.put 4 (m ++ [e]) (some ⟨g', 0, none⟩) cap').cells.toArray 36 (0, 0))) := Lib.hid (by rw [← hV9, heap_setCell_same V8 b14 4 _ _ _ H14e.out]; have e1 := C.put2_cells (j := 4) (by decide) m (m ++ [e]) Am (some ⟨g', 0, none⟩) cm cap'; rw [List.length_append, List.length_singleton] at e1; rw [e1])
                have HOf : Hid (OL V9 N 33 18 Ent.cells (.slice (some ⟨g', 0, none⟩) (m.length + 1) cap') (m ++ [e])) := Lib.hid (by rw [← hV9]; refine HOe.out.keep fun g hg => Below.heap_setCell _ _ _ _ ?_; show g ≠ b14; have := (HOe.out.lt g hg).1; have := HB14.out; omega)
                have HBWf : Hid (Below w.heap.size w V9 ∧ w12.heap.size ≤ V9.heap.size) := Lib.hid (by rw [← hV9]; exact ⟨Below.setCell HBWe.out.1 HW14.out _, by rw [World.size_setCell]; exact HBWe.out.2⟩)
                rw [hV9]
                clear hV9
                refine kk hK (HSS.out _ HKf.out) (fun hHeld => ?_)
                clear hK K
                refine dn ?_
                clear hHeld
                go_wp2_with fail
                go_round
                case rel => exact ⟨i + 1, m ++ [e], _, _, rfl, HIN.out, Lib.hid (by rw [HMN.out]; rfl), Lib.hid (by rw [List.length_append, List.length_singleton]; exact HOf.out), H14f, HKf, HBWf⟩
                case measure => simp [intOf]; have := HIN.out; omega
               exact AllReadyH.nil
              exact AllReadyH.nil
             exact AllReadyH.nil
            exact AllReadyH.nil
        · have d2 : decide (i < n4) = false := by simp; omega
          obtain rfl : n4 = i := by omega
          have HWS : Hid (N ≤ wr.heap.size) := Lib.hid (by have := HBW.out.2; have := HNN.out; omega)
          have hm : m = (B.ls 4).filter (fun e => e.id != (revE idn from_).item) := by rw [HM.out, List.take_of_length_le (by rw [HN4.out]; exact Nat.le_refl _)]; rfl
          obtain ⟨D, hD⟩ : ∃ D, C.put 4 m Am cm = D := ⟨_, rfl⟩
          have hkl := keys_less (lab := lab) (t := time) HC4.out.1 HC4.out.2.2.2 (D := D) (by rw [← hD]; exact hm) (by rw [← hD]; rfl) HLE.out
          have hDA : BasAt wr (Old wr) D := by
            rw [← hD]
            refine ((HYD.out.keeps HK.out).mono fun k hk => ?_).putO HO.out fun b hb => (HO.out.lt b (by rw [hb]; rfl)).2
            have := HBW.out.2; have := HNN.out; unfold Old; omega
          have K3 := Lib.hid (knownKey_walk D lab time wr hDA)
          rw [hkl, HS2.out, HO2.out] at K3
          rw [hD] at H14
          have HR14 := Lib.hid (range_of (cs := D.cells) H14.out)
          have HBa := Lib.hid HBW.out.1
          have HKa := HK
          clear hm hD hkl hDA HBW H14 HO
          go_wp2_with (first
            | ((with_reducible refine wpList_load_mid rfl 36 (.tmp 14) rfl b14 0 ?hx D.cells _ HR14.out Tryz.underlying36 rfl (IB D).out ?_); (case hx => first | rfl | (rw [← E14.out]; rfl)))
            | (go_at_call 23; (with_reducible refine K3.out.mono ?_); rintro e2 wS ⟨rfl, hb⟩
               have HBs := Lib.hid (And.intro (HBa.out.trans (hb.mono HBa.out.size)) (Nat.le_trans HWS.out hb.size))
               have HKs := Lib.hid (HKa.out.trans (Keeps.of_below hb fun k hk => Nat.lt_of_lt_of_le hk.2 HWS.out))
               clear hb K3)
            | fail)
          clear x13 d2
          go_loopw [22, 23] (fun fv xv wr => ∃ (j : Nat) (f : Bool), fv = .bool f ∧ xv = .int .i64 (j : Int) ∧ j ≤ n4 ∧ Hid (f = (!(keyB C lab time).2 || ((B.ls 4).take j).any (heldB lab time s2.toList idn))) ∧ Hid (Keeps (fun k => k ≠ b14 ∧ k < N) w12 wr) ∧ Hid (Below w.heap.size w wr ∧ N ≤ wr.heap.size)) (fun _ x _ => n4 - (intOf x).toNat)
          case atStart => exact ⟨0, _, rfl, rfl, Nat.zero_le _, Lib.hid (by rw [HO2.out]; rfl), HKs, HBs⟩
          case round =>
            clear HKs HBs HKa HBa HK
            obtain ⟨j, f, rfl, rfl, hj, HF, HK, HB⟩ := hrel
            have x13 : wr.cell? ⟨b13, 4, none⟩ = some (.slice A4 n4 c4) := HX13.out wr ((HK.out b13 HB13.out).trans M13.out)
            by_cases hin : j < n4
            · obtain ⟨e, he⟩ : ∃ e, (B.ls 4)[j]? = some e := ⟨_, List.getElem?_eq_getElem (by rw [HN4.out]; exact hin)⟩
              obtain ⟨b4, hA, hY4, hrg⟩ := HYE.out j e he
              subst hA
              have d2 : decide (j < n4) = true := by simp [hin]
              have z1 : (0 : Int) ≤ (j : Int) := by omega
              have z2 : (j : Int) < (n4 : Int) := by omega
              have wk : IntKind.i64.wrap ((j : Int) + 1) = ((j + 1 : Nat) : Int) := by rw [IntKind.wrap_i64]; omega
              have HRG : Hid (World.rangeAt wr b4 (j * 18) e.cells) := Lib.hid fun k v hv => (World.cell?_of_block (w := w12) (a := ⟨b4, j * 18 + k, none⟩) (HK.out b4 hY4)).trans (hrg k v hv)
              have HIN := Lib.hid hin
              have HTK : Hid (((B.ls 4).take (j + 1)).any (heldB lab time s2.toList idn) = (((B.ls 4).take j).any (heldB lab time s2.toList idn) || heldB lab time s2.toList idn e)) := Lib.hid (by rw [List.take_add_one, he, Option.toList_some, List.any_append]; simp)
              obtain ⟨q1, hq1⟩ : ∃ q, (e.lab == lab) = q := ⟨_, rfl⟩
              obtain ⟨q2, hq2⟩ : ∃ q, decide (e.frm ≤ time) = q := ⟨_, rfl⟩
              obtain ⟨q3, hq3⟩ : ∃ q, decide (time ≤ e.til) = q := ⟨_, rfl⟩
              obtain ⟨q4, hq4⟩ : ∃ q, (e.text.toList == s2.toList) = q := ⟨_, rfl⟩
              obtain ⟨q5, hq5⟩ : ∃ q, (e.id != idn) = q := ⟨_, rfl⟩
              have HH : Hid (heldB lab time s2.toList idn e = (q1 && (q2 && (q3 && (q4 && q5))))) := Lib.hid (by unfold heldB; rw [hq1, hq2, hq3, hq4, hq5])
              have ways : f = true ∨ (f = false ∧ (q1 = false ∨ (q1 = true ∧ (q2 = false ∨ (q2 = true ∧ (q3 = false ∨ (q3 = true ∧ (q4 = false ∨ (q4 = true ∧ (q5 = false ∨ q5 = true)))))))))) := by cases f <;> cases q1 <;> cases q2 <;> cases q3 <;> cases q4 <;> cases q5 <;> simp
              clear he hY4 hrg hin
              rcases ways with rfl | ⟨rfl, rfl | ⟨rfl, rfl | ⟨rfl, rfl | ⟨rfl, rfl | ⟨rfl, rfl | rfl⟩⟩⟩⟩⟩
              all_goals
                go_wp2_with (first
                  | ((with_reducible refine wpList_load_mid rfl 33 (.tmp 129) rfl b4 (j * 18) ?hx e.cells _ HRG.out Tryz.underlying33 rfl (IE _).out ?_); (case hx => first | rfl | simp [Addr.add]))
                  | ((with_reducible refine store_new rfl (.tmp 24) (.tmp 130) rfl rfl e ?hx ?hy (IS _).out ?hold ?_); (case hx => rfl); (case hy => rfl); (case hold => rfl); intro w5 he5 hb5 hs5
                     have x7 := he5.cell (i := 7) rfl
                     have x5 := he5.cell (i := 5) rfl
                     have x6 := he5.cell (i := 6) rfl
                     have xt := he5.cell (i := 17) rfl
                     have x1 := he5.cell (i := 1) rfl
                     have HK5 := Lib.hid (HK.out.trans (Keeps.of_below hb5 fun k hk => Nat.lt_of_lt_of_le hk.2 HB.out.2))
                     have HB5 := Lib.hid (And.intro (HB.out.1.trans (hb5.mono HB.out.1.size)) (Nat.le_trans HB.out.2 hb5.size))
                     clear he5 hb5 hs5)
                  | fail)
                go_roundw
                case rel => exact ⟨j + 1, _, rfl, rfl, HIN.out, Lib.hid (by rw [HTK.out, HH.out, ← Bool.or_assoc, ← HF.out]; rfl), HK5, HB5⟩
                case measure => simp [intOf]; have := HIN.out; omega
            · have d2 : decide (j < n4) = false := by simp; omega
              obtain rfl : n4 = j := by omega
              have HFT : Hid (f = true) := Lib.hid (by rw [HF.out, List.take_of_length_le (by rw [HN4.out]; exact Nat.le_refl _)]; exact HFD.out)
              obtain rfl := HFT.out
              go_wp2_with fail
              go_ret
              exact ⟨rfl, HB.out.1⟩
end Go.Proofs.YteeifhlhpiimoaaGreatDoor
