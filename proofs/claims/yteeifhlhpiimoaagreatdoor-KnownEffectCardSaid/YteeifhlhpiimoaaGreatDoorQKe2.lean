/-
  The laws' helper few at one entry: what it makes has short texts. Condition: the entry lies in memory.
-/
import Derived.Test.YteeifhlhpiimoaaGreatDoorQAa
import Derived.Test.YteeifhlhpiimoaaGreatDoorQKe1
import Derived.Test.YteeifhlhpiimoaaGreatDoorQAp
import Derived.Deep.CutRange
namespace Go.Proofs.YteeifhlhpiimoaaGreatDoor
open Go Go.RowKit Go.Shelf
attribute [local go_sem] Oper.semAt_some
theorem uBe {U V W : World} (h : Hid (Below U.heap.size U V)) (hb : Below V.heap.size V W) : Hid (Below U.heap.size U W) := hZ (h.out.trans (hb.mono h.out.size))
theorem short_at (a b : ByteArray) {U V : World} (h : Hid (Below U.heap.size U V)) : Calls Tryz.prog 66 #[.agg #[.string a, .string b]] V fun r V' => ∃ n d : ByteArray, r = .returned (.agg #[.string n, .string d]) ∧ Hid (n.size ≤ 45 ∧ d.size ≤ 45) ∧ Hid (Below U.heap.size U V') :=
  (short19_walk a b V).mono fun _ _ ⟨n, d, h1, h2, h3, h4⟩ => ⟨n, d, h1, hZ ⟨h2, h3⟩, uBe h h4⟩
theorem there_ent {W : World} {b : Nat} {e : Ent} (h : EntAt W b e) (i n : Nat) (hn1 : i + n ≤ 18) : W.there b i n := fun j hj => by
 obtain ⟨v, hv⟩ : ∃ v, e.cells.toArray[i + j]? = some v := ⟨_, Array.getElem?_eq_getElem (by show i + j < 18; omega)⟩
 exact ⟨by rw [cells_i h hv]; rfl, cells_free h _⟩
theorem step_ratio {ops : Array Oper} {o : Oper} {a : Act} {V : World} {K : Act → World → Prop} {Q : Exit → Act → World → Prop} {D : Prop} (hgd : o.guard = none) (x : Operand) (ho : o.op = .load 29 x) (b i : Nat) (hx : a.eval x = .pointer (some ⟨b, i, none⟩)) (c d : ByteArray) (hr : V.rangeAt b i [.string c, .string d]) (hk : K (a.put o.dst (.agg #[.string c, .string d])) V) : if Region.wanted o (yielded ops a.tmps) = true then Oper.wp Tryz.prog o a V K Q else D :=
  step_yields (S := fun U => U.rangeAt b i [.string c, .string d]) (yieldsIf_load_mid (by simp [Region.wanted, hgd]) 29 x ho b i hx [.string c, .string d] _ (fun w hw => hw) Tryz.underlying29 rfl (by kernel_rfl)) hgd hr hk
theorem put4 {U V : World} {b : Nat} {e : Ent} (h : Hid (∀ W, Below U.heap.size U W → EntAt W b e)) (hq : Hid (Below U.heap.size U V)) (a1 b1 c1 d1 : ByteArray) : Hid (EntAt (V.setCells b 11 [.string a1, .string b1, .string c1, .string d1]) b { e with ln := a1, ld := b1, hn := c1, hd := d1 }) :=
  hZ (((((h.out _ hq.out).setc (e' := { e with ln := a1 }) 11 (.string a1) rfl).setc (e' := { e with ln := a1, ld := b1 }) 12 (.string b1) rfl).setc (e' := { e with ln := a1, ld := b1, hn := c1 }) 13 (.string c1) rfl).setc 14 (.string d1) rfl)
theorem step_iv {ops : Array Oper} {o : Oper} {a : Act} {V : World} {K : Act → World → Prop} {Q : Exit → Act → World → Prop} {D : Prop} (hgd : o.guard = none) (x y : Operand) (ho : o.op = .store 31 x y) (hd : o.dst = none) (b : Nat) (s1 s2 s3 s4 : ByteArray) {e : Ent}
    (hx : a.eval x = .pointer (some ⟨b, 11, none⟩)) (hy : a.eval y = .agg #[.string s1, .string s2, .string s3, .string s4]) (he : EntAt V b e) (hk : K a (V.setCells b 11 [.string s1, .string s2, .string s3, .string s4])) :
    if Region.wanted o (yielded ops a.tmps) = true then Oper.wp Tryz.prog o a V K Q else D := by
  rw [if_pos (by simp [Region.wanted, hgd])]
  refine wp_store_mid 31 x y ho b 11 #[.string s1, .string s2, .string s3, .string s4] hx hy (there_ent he 11 4 (by decide)) (by kernel_rfl) (by simp [Value.oneCell']) ?_
  rw [hd]
  exact hk
set_option maxRecDepth 100000 in
set_option maxHeartbeats 8000000 in
theorem few1_walk (e : Ent) (g : Nat) (w : World) (hA : w.heap[g]? = some (.cells e.cells.toArray 33 (0, 0))) : Calls Tryz.prog 19 #[.slice (some ⟨g, 0, none⟩) 1 1] w fun r w' => ∃ (f : Ent) (v : Value), r = .returned v ∧ f.Wire ∧ OL w' w.heap.size 33 18 Ent.cells v [f] ∧ Below w.heap.size w w' := by
 have IE := fun e : Ent => hZ (ientry (e := e))
 have IS := fun e : Ent => hZ (show (Tryz.prog.info? 33).map (·.size) = some e.cells.toArray.size from ientry (e := e))
 have IR : ∀ a b : ByteArray, Hid ((Tryz.prog.info? 29).map (·.size) = some [Value.string a, Value.string b].length) := fun a b => hZ (by kernel_rfl)
 have HR0 := hZ (range_of (cs := e.cells) hA)
 obtain ⟨m, hm⟩ : ∃ m : Nat, min e.text.size 40 = m := ⟨_, rfl⟩
 have e1 : min (e.text.size : Int) 40 = (m : Int) := by omega
 have z1 : m ≤ e.text.size := by omega
 obtain ⟨tx, htx⟩ : ∃ t, e.text.extract 0 m = t := ⟨_, rfl⟩
 have HTX : Hid (tx.size ≤ 40) := hZ (by rw [← htx, ByteArray.size_extract]; omega)
 clear hA hm
 go_enter Tryz.func19, Tryz.ntmps19
 go_wp2_with fail
 refine wp_loop_rounds 3 ?_
 rw [rounds_succ]
 go_wp2_with (first
   | ((with_reducible refine wpList_load_mid rfl 33 (.tmp 18) rfl g 0 ?hx e.cells _ HR0.out Tryz.underlying33 rfl (IE _).out ?_); (case hx => first | rfl | simp [Addr.add]))
   | ((with_reducible refine store_new rfl (.tmp 5) (.tmp 19) rfl rfl e ?hx ?hy (IS _).out ?hold ?_); (case hx => rfl); (case hy => rfl); (case hold => rfl); intro w5 he5 hb5 hs5
      obtain ⟨b5, hbb5⟩ : ∃ q, w.heap.size = q := ⟨_, rfl⟩
      rw [hbb5] at he5 ⊢
      have x17 := he5.cell (i := 17) rfl
      have f17 := he5.free 17
      have he6 := he5.setc (e' := { e with text := tx }) 17 (.string tx) rfl
      obtain ⟨w6, hw6⟩ : ∃ W, w5.setCell ⟨b5, 17, none⟩ (.string tx) = W := ⟨_, rfl⟩
      rw [hw6] at he6
      have x15 : w6.cell? ⟨b5, 15, none⟩ = some (.string e.rn) := he6.cell (i := 15) rfl
      have x16 : w6.cell? ⟨b5, 16, none⟩ = some (.string e.rd) := he6.cell (i := 16) rfl
      have HE6 := hZ he6
      have HLE : Hid (w.heap.size ≤ b5) := hZ (Nat.le_of_eq hbb5)
      have HB6 : Hid (Below w.heap.size w w6) := hZ (by rw [← hw6]; exact Below.setCell (p := ⟨b5, 17, none⟩) hb5 (Nat.le_of_eq hbb5) _)
      clear he5 hb5 hs5 hbb5 he6)
   | (go_at_call 66; (with_reducible refine (short19_walk e.rn e.rd w6).mono ?_); rintro r w7 ⟨rn1, rd1, rfl, hz1, hz2, hb⟩
      have he7 : EntAt w7 b5 { e with text := tx } := below_at2 hb HE6.out
      have y15 := he7.cell (i := 15) rfl
      have y16 := he7.cell (i := 16) rfl
      have f15 := he7.free 15
      have f16 := he7.free 16
      have he8 : EntAt ((w7.setCell ⟨b5, 15, none⟩ (.string rn1)).setCell ⟨b5, 16, none⟩ (.string rd1)) b5 { e with text := tx, rn := rn1, rd := rd1 } := (he7.setc (e' := { e with text := tx, rn := rn1 }) 15 (.string rn1) rfl).setc 16 (.string rd1) rfl
      obtain ⟨w8, hw8⟩ : ∃ W, (w7.setCell ⟨b5, 15, none⟩ (.string rn1)).setCell ⟨b5, 16, none⟩ (.string rd1) = W := ⟨_, rfl⟩
      rw [hw8] at he8
      have HRZ := hZ (And.intro hz1 hz2)
      have HBU : Hid (Below w.heap.size w w8.drew) := hZ (Below.drew (by rw [← hw8]; exact Below.setCell (p := ⟨b5, 16, none⟩) (Below.setCell (p := ⟨b5, 15, none⟩) (HB6.out.trans (hb.mono HB6.out.size)) HLE.out _) HLE.out _))
      have HEE : Hid (∀ W, Below w8.drew.heap.size w8.drew W → EntAt W b5 { e with text := tx, rn := rn1, rd := rd1 }) := hZ fun W h => below_at2 h (show w8.drew.heap[b5]? = _ from he8)
      have HSS : Hid (∀ W, Below w8.drew.heap.size w8.drew W → W.rangeAt b5 11 [.string e.ln, .string e.ld] ∧ W.rangeAt b5 13 [.string e.hn, .string e.hd]) := hZ fun W h => by
       have hr := range_of (cs := ({ e with text := tx, rn := rn1, rd := rd1 } : Ent).cells) (HEE.out W h)
       refine ⟨fun j v hv => ?_, fun j v hv => ?_⟩
       ·
        have hj : j < 2 := (List.getElem?_eq_some_iff.1 hv).1
        have := hr (11 + j) v (by rcases (show j = 0 ∨ j = 1 by omega) with rfl | rfl <;> exact hv)
        rwa [Nat.zero_add] at this
       ·
        have hj : j < 2 := (List.getElem?_eq_some_iff.1 hv).1
        have := hr (13 + j) v (by rcases (show j = 0 ∨ j = 1 by omega) with rfl | rfl <;> exact hv)
        rwa [Nat.zero_add] at this
      clear hz1 hz2 hb he7 he8 HE6 HB6 hw6 x15 x16 x17 f17)
   | fail)
 clear htx
 go_cut [5] from 32 to 41 (fun v U => v = .pointer (some ⟨b5, 0, none⟩) ∧ ∃ ln1 ld1 hn1 hd1 : ByteArray, ln1.size ≤ 45 ∧ ld1.size ≤ 45 ∧ hn1.size ≤ 45 ∧ hd1.size ≤ 45 ∧ EntAt U b5 { e with text := tx, rn := rn1, rd := rd1, ln := ln1, ld := ld1, hn := hn1, hd := hd1 } ∧ Below w.heap.size w U)
 case first =>
  refine wp_region_noPanic ?_
  refine wp_region_held_drew (S := fun _ => True) (by kernel_rfl) trivial (fun hHeld => ?_)
  obtain ⟨U0, hU0⟩ : ∃ U, w8.drew = U := ⟨_, rfl⟩
  rw [hU0] at HSS HEE HBU ⊢
  clear hU0
  have HBQ : Hid (Below U0.heap.size U0 U0) := hZ (Below.refl _ _)
  refine tk 0 ?_; refine tk 1 ?_; refine tk 4 ?_; refine tk 5 ?_
  refine rd [2, 6] ?_
  refine rc (fun K hK => ?_) ?_
  ·
   refine step_ratio (by rfl) (.tmp 33) (by rfl) b5 11 (by rfl) e.ln e.ld (HSS.out _ HBQ.out).1 ?_
   refine kk hK (trivial) (fun hHeld => ?_)
   clear hK K
   refine rd [3, 6] ?_
   refine rc (fun K hK => ?_) ?_
   ·
    go_simp
    (with_reducible refine (short_at e.ln e.ld HBQ).mono ?_)
    rintro r V3 ⟨ln1, ld1, rfl, H3, HBQ⟩
    refine kk hK (trivial) (fun hHeld => ?_)
    clear hK K
    refine rd [6] ?_
    refine rc (fun K hK => ?_) ?_
    ·
     refine step_ratio (by rfl) (.tmp 37) (by rfl) b5 13 (by rfl) e.hn e.hd (HSS.out _ HBQ.out).2 ?_
     refine kk hK (trivial) (fun hHeld => ?_)
     clear hK K
     refine rd [7] ?_
     refine rc (fun K hK => ?_) ?_
     ·
      go_simp
      (with_reducible refine (short_at e.hn e.hd HBQ).mono ?_)
      rintro r V7 ⟨hn1, hd1, rfl, H7, HBQ⟩
      refine kk hK (trivial) (fun hHeld => ?_)
      clear hK K
      refine tk 8 ?_; refine tk 9 ?_
      refine rd [10] ?_
      refine rc (fun K hK => ?_) ?_
      ·
       refine step_iv (by rfl) (.tmp 41) (.tmp 40) (by rfl) (by rfl) b5 ln1 ld1 hn1 hd1 (by rfl) (by rfl) (HEE.out _ HBQ.out) ?_
       have HE9 := put4 HEE HBQ ln1 ld1 hn1 hd1
       have HB9 := hZ (Below.setCells HLE.out [.string ln1, .string ld1, .string hn1, .string hd1] 11 (HBU.out.trans (HBQ.out.mono HBU.out.size)))
       refine kk hK (trivial) (fun hHeld => ?_)
       clear hK K
       refine dn ?_
       clear hHeld
       go_wp2
       go_meet
       case rel => exact ⟨rfl, ln1, ld1, hn1, hd1, H3.out.1, H3.out.2, H7.out.1, H7.out.2, HE9.out, HB9.out⟩
      exact AllReadyH.nil
     exact AllReadyH.nil
    exact AllReadyH.nil
   refine rc (fun K hK => ?_) ?_
   ·
    refine step_ratio (by rfl) (.tmp 37) (by rfl) b5 13 (by rfl) e.hn e.hd (HSS.out _ HBQ.out).2 ?_
    refine kk hK (trivial) (fun hHeld => ?_)
    clear hK K
    refine rd [3] ?_
    refine rc (fun K hK => ?_) ?_
    ·
     go_simp
     (with_reducible refine (short_at e.ln e.ld HBQ).mono ?_)
     rintro r V3 ⟨ln1, ld1, rfl, H3, HBQ⟩
     refine kk hK (trivial) (fun hHeld => ?_)
     clear hK K
     refine rd [7] ?_
     refine rc (fun K hK => ?_) ?_
     ·
      go_simp
      (with_reducible refine (short_at e.hn e.hd HBQ).mono ?_)
      rintro r V7 ⟨hn1, hd1, rfl, H7, HBQ⟩
      refine kk hK (trivial) (fun hHeld => ?_)
      clear hK K
      refine tk 8 ?_; refine tk 9 ?_
      refine rd [10] ?_
      refine rc (fun K hK => ?_) ?_
      ·
       refine step_iv (by rfl) (.tmp 41) (.tmp 40) (by rfl) (by rfl) b5 ln1 ld1 hn1 hd1 (by rfl) (by rfl) (HEE.out _ HBQ.out) ?_
       have HE9 := put4 HEE HBQ ln1 ld1 hn1 hd1
       have HB9 := hZ (Below.setCells HLE.out [.string ln1, .string ld1, .string hn1, .string hd1] 11 (HBU.out.trans (HBQ.out.mono HBU.out.size)))
       refine kk hK (trivial) (fun hHeld => ?_)
       clear hK K
       refine dn ?_
       clear hHeld
       go_wp2
       go_meet
       case rel => exact ⟨rfl, ln1, ld1, hn1, hd1, H3.out.1, H3.out.2, H7.out.1, H7.out.2, HE9.out, HB9.out⟩
      exact AllReadyH.nil
     exact AllReadyH.nil
    exact AllReadyH.nil
   exact AllReadyH.nil
  refine rc (fun K hK => ?_) ?_
  ·
   refine step_ratio (by rfl) (.tmp 37) (by rfl) b5 13 (by rfl) e.hn e.hd (HSS.out _ HBQ.out).2 ?_
   refine kk hK (trivial) (fun hHeld => ?_)
   clear hK K
   refine rd [2] ?_
   refine rc (fun K hK => ?_) ?_
   ·
    refine step_ratio (by rfl) (.tmp 33) (by rfl) b5 11 (by rfl) e.ln e.ld (HSS.out _ HBQ.out).1 ?_
    refine kk hK (trivial) (fun hHeld => ?_)
    clear hK K
    refine rd [3] ?_
    refine rc (fun K hK => ?_) ?_
    ·
     go_simp
     (with_reducible refine (short_at e.ln e.ld HBQ).mono ?_)
     rintro r V3 ⟨ln1, ld1, rfl, H3, HBQ⟩
     refine kk hK (trivial) (fun hHeld => ?_)
     clear hK K
     refine rd [7] ?_
     refine rc (fun K hK => ?_) ?_
     ·
      go_simp
      (with_reducible refine (short_at e.hn e.hd HBQ).mono ?_)
      rintro r V7 ⟨hn1, hd1, rfl, H7, HBQ⟩
      refine kk hK (trivial) (fun hHeld => ?_)
      clear hK K
      refine tk 8 ?_; refine tk 9 ?_
      refine rd [10] ?_
      refine rc (fun K hK => ?_) ?_
      ·
       refine step_iv (by rfl) (.tmp 41) (.tmp 40) (by rfl) (by rfl) b5 ln1 ld1 hn1 hd1 (by rfl) (by rfl) (HEE.out _ HBQ.out) ?_
       have HE9 := put4 HEE HBQ ln1 ld1 hn1 hd1
       have HB9 := hZ (Below.setCells HLE.out [.string ln1, .string ld1, .string hn1, .string hd1] 11 (HBU.out.trans (HBQ.out.mono HBU.out.size)))
       refine kk hK (trivial) (fun hHeld => ?_)
       clear hK K
       refine dn ?_
       clear hHeld
       go_wp2
       go_meet
       case rel => exact ⟨rfl, ln1, ld1, hn1, hd1, H3.out.1, H3.out.2, H7.out.1, H7.out.2, HE9.out, HB9.out⟩
      exact AllReadyH.nil
     exact AllReadyH.nil
    exact AllReadyH.nil
   exact AllReadyH.nil
  exact AllReadyH.nil
 case rest =>
 obtain ⟨rfl, ln1, ld1, hn1, hd1, k1, k2, k3, k4, he9, hb9⟩ := hcut
 have HB9 := hZ hb9
 have HR9 := hZ (range_of (cs := ({ e with text := tx, rn := rn1, rd := rd1, ln := ln1, ld := ld1, hn := hn1, hd := hd1 } : Ent).cells) he9)
 obtain ⟨f, hf⟩ : ∃ f : Ent, ({ e with text := tx, rn := rn1, rd := rd1, ln := ln1, ld := ld1, hn := hn1, hd := hd1 } : Ent) = f := ⟨_, rfl⟩
 have HFW : Hid f.Wire := hZ (by rw [← hf]; have h3 := And.intro k1 k2; have h7 := And.intro k3 k4; have hr := HRZ.out; have ht := HTX.out; exact ⟨Nat.le_trans h3.1 (by decide), Nat.le_trans h3.2 (by decide), Nat.le_trans h7.1 (by decide), Nat.le_trans h7.2 (by decide), Nat.le_trans hr.1 (by decide), Nat.le_trans hr.2 (by decide), Nat.le_trans ht (by decide)⟩)
 rw [hf] at HR9
 clear hf HSS HEE HRZ y15 y16 f15 f16 hw8 he9 hb9 k1 k2 k3 k4
 go_wp2_with (first
   | ((with_reducible refine wpList_load_mid rfl 33 (.tmp 5) rfl b5 0 ?hx f.cells _ HR9.out Tryz.underlying33 rfl (IE _).out ?_); (case hx => rfl))
   | ((with_reducible refine wpList_build_ent rfl (.tmp 43) rfl f ?hx ?_); (case hx => rfl); intro bn V10 hbn hV10
      have HV10 := hZ (show V10.heap[bn]? = some (.cells f.cells.toArray 33 (0, 0)) from by rw [← hV10, ← hbn]; exact World.alloc_heap_new _ _)
      have HBV := hZ (show Below w.heap.size w V10 from by rw [← hV10]; exact HB9.out.trans ((below_new _ _).mono HB9.out.size))
      clear hbn hV10)
   | (at_builtin; refine wpList_app rfl (.tmp 42) (.tmp 44) 25 rfl elemEnt (.slice none 0 0) [] 0 rfl rfl (OL.nil (B := w.heap.size)) f bn f.cells.toArray rfl HV10.out rfl rfl (one_cells' _) (by unfold maxLen; simp) (by simp) HBV.out.size ?_; intro g3 c3 w11 h3 _ _ _ hb3; have HO := hZ h3; have HBZ := hZ (HBV.out.trans hb3); clear h3 hb3)
   | fail)
 all_goals (try (rw [rounds_succ]; go_wp2))
 all_goals
  go_ret
  exact ⟨f, _, rfl, HFW.out, HO.out, HBZ.out⟩
end Go.Proofs.YteeifhlhpiimoaaGreatDoor
