/-
  Contract of the law's sane: it answers true. Condition: the table of powers stands. What is known of the entries of the law KnownSpans, plainly. The law KnownSpans returns true. Condition: the table of powers stands.
-/
import Derived.Test.YteeifhlhpiimoaaGreatDoorSAa
import Derived.Test.YteeifhlhpiimoaaGreatDoorSAo
section
namespace Go.Proofs.YteeifhlhpiimoaaGreatDoor
open Go Go.RowKit Go.Shelf Wr
attribute [local go_sem] Oper.semAt_some
set_option maxRecDepth 100000 in
set_option maxHeartbeats 8000000 in
theorem sane_walk (w : World) (hp : Pow10 w) : Calls Tryz.prog 11 #[] w (ValP w true) := by
  have HF := Lib.hid (St.start hp)
  clear hp
  go_enter Tryz.func11, Tryz.ntmps11
  go_wp2_with (first
    | (go_at_call 48; (with_reducible refine (example_walk _).mono ?_); rintro e2 w2 ⟨bx, rfl, hat, hb⟩; have HF1 := HF.out.step hb; have HF := Lib.hid HF1; have HX := Lib.hid hat; clear hb HF1 hat)
    | (go_at_call 15; (with_reducible refine (knownOf_walk exL 10 (some ⟨bx, 0, none⟩) 8 8 rfl (by decide) _ HX.out exW HF.out.pow).mono ?_); rintro e2 w2 ⟨B10, rfl, hB, hI, hb⟩; have HF1 := (HF.out.step hb).add hB; have HF := Lib.hid HF1; have HI10 : Hid (ExB B10 10) := Lib.hid hI; clear hb hB HF1 hI)
    | (go_at_call 15; (with_reducible refine (knownOf_walk exL 30 (some ⟨bx, 0, none⟩) 8 8 rfl (by decide) _ HX.out exW HF.out.pow).mono ?_); rintro e2 w2 ⟨B30, rfl, hB, hI, hb⟩; have HF1 := (HF.out.step hb).add hB; have HF := Lib.hid HF1; have HI30 : Hid (ExB B30 30) := Lib.hid hI; clear hb hB HF1 hI)
    | (go_at_call 15; (with_reducible refine (knownOf_walk exL 9 (some ⟨bx, 0, none⟩) 8 8 rfl (by decide) _ HX.out exW HF.out.pow).mono ?_); rintro e2 w2 ⟨B9, rfl, hB, hI, hb⟩; have HF1 := (HF.out.step hb).add hB; have HF := Lib.hid HF1; have HI9 : Hid (ExB B9 9) := Lib.hid hI; clear hb hB HF1 hI)
    | ((with_reducible refine wpList_var rfl 36 (.tmp 1) (.tmp 12) rfl rfl (B10.cells.toArray) ?hx ?hy ?hi ?ho ?h1 HF.out ?_); (case hx => rfl); (case hy => rfl); (case hi => exact ibase B10); (case ho => rfl); (case h1 => exact one_base _); intro b1 V hb hst; rw [hb]; have HF := Lib.hid hst; clear hb hst)
    | ((with_reducible refine wpList_var rfl 36 (.tmp 2) (.tmp 14) rfl rfl (B30.cells.toArray) ?hx ?hy ?hi ?ho ?h1 HF.out ?_); (case hx => rfl); (case hy => rfl); (case hi => exact ibase B30); (case ho => rfl); (case h1 => exact one_base _); intro b2 V hb hst; rw [hb]; have HF := Lib.hid hst; clear hb hst)
    | ((with_reducible refine wpList_load_midw ?hw 36 (.tmp 1) rfl b1 0 ?hx B10.cells _ (HF.out.row (b := b1) (cs := B10.cells) (t := 36) (by simp)) Tryz.underlying36 rfl (ibase B10) ?_); (case hw => rfl); (case hx => rfl))
    | ((with_reducible refine wpList_load_midw ?hw 36 (.tmp 2) rfl b2 0 ?hx B30.cells _ (HF.out.row (b := b2) (cs := B30.cells) (t := 36) (by simp)) Tryz.underlying36 rfl (ibase B30) ?_); (case hw => rfl); (case hx => rfl))
    | (go_at_call 27; (with_reducible refine (hist9 (HF.out.bas B9 (by simp)) HI9.out).mono ?_); rintro e2 w2 ⟨v9, rfl, ho, hb⟩; obtain ⟨A9, c9, rfl⟩ := OL.empty ho; have HF1 := HF.out.step hb; have HF := Lib.hid HF1; clear hb HF1 ho)
    | (go_at_call 27; (with_reducible refine (hist10 (HF.out.bas B10 (by simp)) HI10.out).mono ?_); rintro e2 w2 ⟨v9, rfl, ho, hb⟩; obtain ⟨g4, c4, cur4, rfl, hg, hc⟩ := OL.first (n := 1) ho rfl (by decide) (by decide) (x := .int .i64 10) rfl; have HF1 := (HF.out.step hb).put hg; have HF := Lib.hid HF1; have HC4 := Lib.hid hc; clear hb HF1 ho hg hc)
    | (go_at_call 27; (with_reducible refine (hist30 (HF.out.bas B30 (by simp)) HI30.out).mono ?_); rintro e2 w2 ⟨v9, rfl, ho, hb⟩; obtain ⟨g5, c5, cur5, rfl, hg, hc⟩ := OL.first (n := 2) ho rfl (by decide) (by decide) (x := .int .i64 5) rfl; have HF1 := (HF.out.step hb).put hg; have HF := Lib.hid HF1; have HC5 := Lib.hid hc; clear hb HF1 ho hg hc)
    | ((with_reducible refine wpList_var rfl 58 (.tmp 3) (.tmp 17) rfl rfl (#[.string ⟨#[49]⟩, .string ⟨#[49, 48]⟩, .slice A9 0 c9]) ?hx ?hy ?hi ?ho ?h1 HF.out ?_); (case hx => rfl); (case hy => rfl); (case hi => kernel_rfl); (case ho => rfl); (case h1 => exact one_hist _ _ _ rfl); intro b3 V hb hst; rw [hb]; have HF := Lib.hid hst; clear hb hst)
    | ((with_reducible refine wpList_var rfl 58 (.tmp 4) (.tmp 19) rfl rfl (#[.string ⟨#[49]⟩, .string ⟨#[49, 48]⟩, .slice (some ⟨g4, 0, none⟩) 1 c4]) ?hx ?hy ?hi ?ho ?h1 HF.out ?_); (case hx => rfl); (case hy => rfl); (case hi => kernel_rfl); (case ho => rfl); (case h1 => exact one_hist _ _ _ rfl); intro b4 V hb hst; rw [hb]; have HF := Lib.hid hst; clear hb hst)
    | ((with_reducible refine wpList_var rfl 58 (.tmp 5) (.tmp 21) rfl rfl (#[.string ⟨#[49]⟩, .string ⟨#[49, 48]⟩, .slice (some ⟨g5, 0, none⟩) 2 c5]) ?hx ?hy ?hi ?ho ?h1 HF.out ?_); (case hx => rfl); (case hy => rfl); (case hi => kernel_rfl); (case ho => rfl); (case h1 => exact one_hist _ _ _ rfl); intro b5 V hb hst; rw [hb]; have HF := Lib.hid hst; clear hb hst)
    | (go_at_call 23; (with_reducible refine (key101 (HF.out.bas B30 (by simp)) HI30.out).mono ?_); rintro e2 w2 ⟨rfl, hb⟩; have HF1 := HF.out.step hb; have HF := Lib.hid HF1; clear hb HF1)
    | (go_at_call 24; (with_reducible refine (bud30 (HF.out.bas B30 (by simp)) HI30.out).mono ?_); rintro e2 w2 ⟨rfl, hb⟩; have HF1 := HF.out.step hb; have HF := Lib.hid HF1; clear hb HF1)
    | ((with_reducible refine wpList_var rfl 29 (.tmp 8) (.tmp 30) rfl rfl (#[.string ⟨#[51]⟩, .string ⟨#[49]⟩]) ?hx ?hy ?hi ?ho ?h1 HF.out ?_); (case hx => rfl); (case hy => rfl); (case hi => kernel_rfl); (case ho => rfl); (case h1 => simp [Value.oneCell']); intro b8 V hb hst; rw [hb]; have HF := Lib.hid hst; clear hb hst)
    | (go_at_call 49; (with_reducible refine (key49 (HF.out.bas B30 (by simp)) HI30.out).mono ?_); rintro e2 w2 ⟨rfl, hb⟩; have HF1 := HF.out.step hb; have HF := Lib.hid HF1; clear hb HF1)
    | (go_at_call 49; (with_reducible refine (key50 (HF.out.bas B30 (by simp)) HI30.out).mono ?_); rintro e2 w2 ⟨rfl, hb⟩; have HF1 := HF.out.step hb; have HF := Lib.hid HF1; clear hb HF1)
    | (go_at_call 49; (with_reducible refine (key59 (HF.out.bas B30 (by simp)) HI30.out).mono ?_); rintro e2 w2 ⟨rfl, hb⟩; have HF1 := HF.out.step hb; have HF := Lib.hid HF1; clear hb HF1)
    | (go_at_call 49; (with_reducible refine (key60 (HF.out.bas B30 (by simp)) HI30.out).mono ?_); rintro e2 w2 ⟨rfl, hb⟩; have HF1 := HF.out.step hb; have HF := Lib.hid HF1; clear hb HF1)
    | (go_at_call 49; (with_reducible refine (key100 (HF.out.bas B30 (by simp)) HI30.out).mono ?_); rintro e2 wK ⟨rfl, hb⟩; have HF1 := HF.out.step hb; have HF := Lib.hid HF1; clear hb HF1
       have x4 := HF.out.at_.cell (b := b4) (cs := #[.string ⟨#[49]⟩, .string ⟨#[49, 48]⟩, .slice (some ⟨g4, 0, none⟩) 1 c4]) (t := 58) (by simp) (i := 2) rfl
       have x5 := HF.out.at_.cell (b := b5) (cs := #[.string ⟨#[49]⟩, .string ⟨#[49, 48]⟩, .slice (some ⟨g5, 0, none⟩) 2 c5]) (t := 58) (by simp) (i := 2) rfl)
    | fail)
  clear x4 x5
  obtain ⟨L, hst, mb1, mb2, mb3, mb4, mb5, mb8, mg4, mg5⟩ : ∃ L, St w wK L [B9, B30, B10] ∧ (b1, .cells (B10.cells.toArray : Array Value) 36 (0, 0)) ∈ L ∧ (b2, .cells (B30.cells.toArray : Array Value) 36 (0, 0)) ∈ L ∧ (b3, .cells (#[.string ⟨#[49]⟩, .string ⟨#[49, 48]⟩, .slice A9 0 c9] : Array Value) 58 (0, 0)) ∈ L ∧ (b4, .cells (#[.string ⟨#[49]⟩, .string ⟨#[49, 48]⟩, .slice (some ⟨g4, 0, none⟩) 1 c4] : Array Value) 58 (0, 0)) ∈ L ∧ (b5, .cells (#[.string ⟨#[49]⟩, .string ⟨#[49, 48]⟩, .slice (some ⟨g5, 0, none⟩) 2 c5] : Array Value) 58 (0, 0)) ∈ L ∧ (b8, .cells (#[.string ⟨#[51]⟩, .string ⟨#[49]⟩] : Array Value) 29 (0, 0)) ∈ L ∧ (g4, .cells (cur4 : Array Value) 86 (0, 0)) ∈ L ∧ (g5, .cells (cur5 : Array Value) 86 (0, 0)) ∈ L := ⟨_, HF.out, by simp, by simp, by simp, by simp, by simp, by simp, by simp, by simp⟩
  have HMK : Hid (∀ U, St w U L [B9, B30, B10] → St w U L [B9, B30, B10] ∧ U.cell? ⟨b3, 2, none⟩ = some (.slice A9 0 c9) ∧ U.cell? ⟨b4, 2, none⟩ = some (.slice (some ⟨g4, 0, none⟩) 1 c4) ∧ U.cell? ⟨g4, 0, none⟩ = some (.int .i64 10) ∧ U.cell? ⟨b5, 2, none⟩ = some (.slice (some ⟨g5, 0, none⟩) 2 c5) ∧ U.cell? ⟨g5, 0, none⟩ = some (.int .i64 5)) := Lib.hid (fun U h => ⟨h, h.at_.cell mb3 (i := 2) rfl, h.at_.cell mb4 (i := 2) rfl, h.at_.cell mg4 (i := 0) HC4.out, h.at_.cell mb5 (i := 2) rfl, h.at_.cell mg5 (i := 0) HC5.out⟩)
  have HM := Lib.hid (And.intro mb1 (And.intro mb2 (And.intro mb3 mb8)))
  have hS0 := HMK.out _ hst.drew
  clear HF hst mb1 mb2 mb3 mb4 mb5 mb8 mg4 mg5
  refine wp_region_noPanic ?_
  refine wp_region_held_drew (S := fun U => St w U L [B9, B30, B10] ∧ U.cell? ⟨b3, 2, none⟩ = some (.slice A9 0 c9) ∧ U.cell? ⟨b4, 2, none⟩ = some (.slice (some ⟨g4, 0, none⟩) 1 c4) ∧ U.cell? ⟨g4, 0, none⟩ = some (.int .i64 10) ∧ U.cell? ⟨b5, 2, none⟩ = some (.slice (some ⟨g5, 0, none⟩) 2 c5) ∧ U.cell? ⟨g5, 0, none⟩ = some (.int .i64 5)) (by kernel_rfl) hS0 (fun hHeld => ?_)
  obtain ⟨U0, hU0⟩ : ∃ U0, wK.drew = U0 := ⟨_, rfl⟩
  rw [hU0] at hHeld ⊢
  clear hU0 hS0
  refine tk 0 ?_
  refine tk 1 ?_
  refine tk 2 ?_
  refine tk 3 ?_
  refine tk 4 ?_
  refine tk 5 ?_
  refine tl 6 rfl (yieldsIf_load_mid (by rfl) 29 (.tmp 69) rfl b3 0 (by rfl) [.string ⟨#[49]⟩, .string ⟨#[49, 48]⟩] _ (fun w hw => fun k u hu => (hw.1.row (cs := [.string ⟨#[49]⟩, .string ⟨#[49, 48]⟩, .slice A9 0 c9]) HM.out.2.2.1) k u (by rcases k with _ | _ | k <;> first | (simp at hu; done) | simpa using hu)) Tryz.underlying29 rfl (by kernel_rfl)) ?_
  refine tk 7 ?_
  refine tl 8 rfl (yields_eql (by rfl) 29 29 (.tmp 70) (.tmp 71) (by rfl) (.agg #[.string ⟨#[49]⟩, .string ⟨#[49, 48]⟩]) (.agg #[.string ⟨#[49]⟩, .string ⟨#[49, 48]⟩]) (by rfl) (by rfl) true (fun w => guard_rat _ _ _ _ w) (fun w => eql_rat _ _ w)) ?_
  refine tk 9 ?_
  refine tk 10 ?_
  refine tk 11 ?_
  refine tk 12 ?_
  refine tk 13 ?_
  refine tk 14 ?_
  refine tk 15 ?_
  refine tk 16 ?_
  refine tk 17 ?_
  refine tk 18 ?_
  refine tk 19 ?_
  refine tk 20 ?_
  refine tk 21 ?_
  refine tk 22 ?_
  refine tk 23 ?_
  refine tk 24 ?_
  refine tk 25 ?_
  refine tk 26 ?_
  refine tk 27 ?_
  refine tk 28 ?_
  refine tk 29 ?_
  refine tl 30 rfl (yieldsIf_load_mid (by rfl) 36 (.tmp 1) rfl b1 0 (by rfl) B10.cells _ (fun w hw => hw.1.row HM.out.1) Tryz.underlying36 rfl (ibase B10)) ?_
  refine tl 31 rfl (yieldsIf_load_mid (by rfl) 36 (.tmp 1) rfl b1 0 (by rfl) B10.cells _ (fun w hw => hw.1.row HM.out.1) Tryz.underlying36 rfl (ibase B10)) ?_
  refine rd [32] ?_
  refine rc (fun K hK => ?_) ?_
  ·
   go_simp
   (with_reducible refine (same_self (hHeld.1.bas B10 (by simp))).mono ?_)
   rintro e5 U5 ⟨rfl, hb5⟩
   have HH := Lib.hid (hHeld.1.step hb5)
   clear hb5
   refine kk hK (HMK.out _ HH.out) (fun hHeld => ?_)
   clear hK K
   refine tk 33 ?_
   refine tk 34 ?_
   refine tl 35 rfl (yieldsIf_load_mid (by rfl) 36 (.tmp 1) rfl b1 0 (by rfl) B10.cells _ (fun w hw => hw.1.row HM.out.1) Tryz.underlying36 rfl (ibase B10)) ?_
   refine tl 36 rfl (yieldsIf_load_mid (by rfl) 36 (.tmp 2) rfl b2 0 (by rfl) B30.cells _ (fun w hw => hw.1.row HM.out.2.1) Tryz.underlying36 rfl (ibase B30)) ?_
   refine rd [37] ?_
   refine rc (fun K hK => ?_) ?_
   ·
    go_simp
    (with_reducible refine (same_not (hHeld.1.bas B10 (by simp)) (hHeld.1.bas B30 (by simp)) HI10.out HI30.out).mono ?_)
    rintro e5 U5 ⟨rfl, hb5⟩
    have HH := Lib.hid (hHeld.1.step hb5)
    clear hb5
    refine kk hK (HMK.out _ HH.out) (fun hHeld => ?_)
    clear hK K
    refine tk 38 ?_
    refine tk 39 ?_
    refine tk 40 ?_
    refine tk 41 ?_
    refine tk 42 ?_
    refine tk 43 ?_
    refine tl 44 rfl (yieldsIf_load_mid (by rfl) 29 (.tmp 8) rfl b8 0 (by rfl) [.string ⟨#[51]⟩, .string ⟨#[49]⟩] _ (fun w hw => hw.1.row HM.out.2.2.2) Tryz.underlying29 rfl (by kernel_rfl)) ?_
    refine rd [45] ?_
    refine rc (fun K hK => ?_) ?_
    ·
     go_simp
     (with_reducible refine (n_walk _ _).mono ?_)
     rintro e5 U5 ⟨rfl, hb5⟩
     have HH := Lib.hid (hHeld.1.step hb5)
     clear hb5
     refine kk hK (HMK.out _ HH.out) (fun hHeld => ?_)
     clear hK K
     refine tl 46 rfl (yields_eql (by rfl) 29 29 (.tmp 108) (.tmp 109) (by rfl) (.agg #[.string ⟨#[51]⟩, .string ⟨#[49]⟩]) (.agg #[.string ⟨#[51]⟩, .string ⟨#[49]⟩]) (by rfl) (by rfl) true (fun w => guard_rat _ _ _ _ w) (fun w => eql_rat _ _ w)) ?_
     refine tk 47 ?_
     refine tk 48 ?_
     refine tl 49 rfl (yieldsIf_load_mid (by rfl) 36 (.tmp 2) rfl b2 0 (by rfl) B30.cells _ (fun w hw => hw.1.row HM.out.2.1) Tryz.underlying36 rfl (ibase B30)) ?_
     refine rd [50, 51] ?_
     refine rc (fun K hK => ?_) ?_
     ·
      go_simp
      (with_reducible refine (cust30 (hHeld.1.bas B30 (by simp)) HI30.out).mono ?_)
      rintro e7 U7 ⟨v7, rfl, ho7, hb7⟩
      obtain ⟨A7, c7, hv7, -, -⟩ := ho7.slice
      have hv7' : v7 = .slice A7 1 c7 := hv7
      subst hv7'
      have HR7 : Hid (RowAt U7 (one iv) 1 A7 [9]) := Lib.hid (RowAt.of_ol (fun _ => rfl) ho7)
      have HH := Lib.hid (hHeld.1.step hb7)
      clear ho7 hv7 hb7
      refine kk hK (HMK.out _ HH.out) (fun hHeld => ?_)
      clear hK K
      refine rd [51] ?_
      refine rc (fun K hK => ?_) ?_
      ·
       go_simp
       have hbl9 := below_new U7 (.cells #[.int .i64 9] 3)
       have hn9 := World.alloc_heap_new U7 (.cells #[.int .i64 9] 3)
       obtain ⟨b9, hb9⟩ : ∃ b9, U7.heap.size = b9 := ⟨_, rfl⟩
       obtain ⟨V9, hV9⟩ : ∃ V9, U7.alloc (.cells #[.int .i64 9] 3) = V9 := ⟨_, rfl⟩
       have HH := Lib.hid (hHeld.1.step hbl9)
       have HR7 : Hid (RowAt V9 (one iv) 1 A7 [9]) := Lib.hid (by rw [← hV9]; exact HR7.out.below hbl9)
       rw [hV9] at hn9 HH ⊢
       rw [hb9] at hn9 ⊢
       have HR9 : Hid (RowAt V9 (one iv) 1 (some ⟨b9, 0, none⟩) [9]) := Lib.hid (RowAt.of_block (fun _ => rfl) hn9)
       clear hbl9 hn9 hb9 hV9
       refine kk hK (HMK.out _ HH.out) (fun hHeld => ?_)
       clear hK K
       refine rd [52] ?_
       refine rc (fun K hK => ?_) ?_
       ·
        go_simp
        (with_reducible refine (sameInts9 HR7.out HR9.out).mono ?_)
        rintro e8 U8 ⟨rfl, hb8⟩
        have HH := Lib.hid (hHeld.1.step hb8)
        clear hb8
        refine kk hK (HMK.out _ HH.out) (fun hHeld => ?_)
        clear hK K
        refine tk 53 ?_
        refine tk 54 ?_
        refine dn ?_
        clear hHeld
        go_wp2
        go_ret
        exact ⟨rfl, HH.out.at_.below⟩
       exact AllReadyH.nil
      exact AllReadyH.nil
     refine rc (fun K hK => ?_) ?_
     ·
      go_simp
      have hbl9 := below_new U5 (.cells #[.int .i64 9] 3)
      have hn9 := World.alloc_heap_new U5 (.cells #[.int .i64 9] 3)
      obtain ⟨b9, hb9⟩ : ∃ b9, U5.heap.size = b9 := ⟨_, rfl⟩
      obtain ⟨V9, hV9⟩ : ∃ V9, U5.alloc (.cells #[.int .i64 9] 3) = V9 := ⟨_, rfl⟩
      have HH := Lib.hid (hHeld.1.step hbl9)
      rw [hV9] at hn9 HH ⊢
      rw [hb9] at hn9 ⊢
      have HR9 : Hid (RowAt V9 (one iv) 1 (some ⟨b9, 0, none⟩) [9]) := Lib.hid (RowAt.of_block (fun _ => rfl) hn9)
      clear hbl9 hn9 hb9 hV9
      refine kk hK (HMK.out _ HH.out) (fun hHeld => ?_)
      clear hK K
      refine rd [50] ?_
      refine rc (fun K hK => ?_) ?_
      ·
       go_simp
       (with_reducible refine (cust30 (hHeld.1.bas B30 (by simp)) HI30.out).mono ?_)
       rintro e7 U7 ⟨v7, rfl, ho7, hb7⟩
       obtain ⟨A7, c7, hv7, -, -⟩ := ho7.slice
       have hv7' : v7 = .slice A7 1 c7 := hv7
       subst hv7'
       have HR7 : Hid (RowAt U7 (one iv) 1 A7 [9]) := Lib.hid (RowAt.of_ol (fun _ => rfl) ho7)
       have HH := Lib.hid (hHeld.1.step hb7)
       have HR9 := Lib.hid (HR9.out.below hb7)
       clear ho7 hv7 hb7
       refine kk hK (HMK.out _ HH.out) (fun hHeld => ?_)
       clear hK K
       refine rd [52] ?_
       refine rc (fun K hK => ?_) ?_
       ·
        go_simp
        (with_reducible refine (sameInts9 HR7.out HR9.out).mono ?_)
        rintro e8 U8 ⟨rfl, hb8⟩
        have HH := Lib.hid (hHeld.1.step hb8)
        clear hb8
        refine kk hK (HMK.out _ HH.out) (fun hHeld => ?_)
        clear hK K
        refine tk 53 ?_
        refine tk 54 ?_
        refine dn ?_
        clear hHeld
        go_wp2
        go_ret
        exact ⟨rfl, HH.out.at_.below⟩
       exact AllReadyH.nil
      exact AllReadyH.nil
     exact AllReadyH.nil
    exact AllReadyH.nil
   exact AllReadyH.nil
  exact AllReadyH.nil
end Go.Proofs.YteeifhlhpiimoaaGreatDoor
end
section
namespace Go.Proofs.YteeifhlhpiimoaaGreatDoor
open Go Go.RowKit Go.Shelf Wr
def sp1 (n : Nat) (f u : Int) : Ent := { zeroE with kind := 4, ver := 1, id := n, frm := f, til := u, item := n }
def sp2 (n : Nat) (f u : Int) : Ent := { zeroE with kind := 5, ver := 1, id := n, frm := f, til := u, lab := n, text := rootB n }
def sp3 (n : Nat) (f u : Int) : Ent := { zeroE with kind := 7, ver := 1, id := n, frm := f, til := u, person := n, skill := 7 }
def sp4 (n : Nat) (f u : Int) : Ent := { zeroE with kind := 3, ver := 1, id := n, frm := f, til := u, item := n }
def spL (n : Nat) (f u : Int) : List Ent := [sp1 n f u, sp2 n f u, sp3 n f u, sp4 n f u]
theorem effL_all {E K : Type} [DecidableEq K] {ok : E → Bool} {key : E → K} {prev : E → E → Bool} (l : List E) (hok : ∀ e ∈ l, ok e = true) (hk : Keyd key l) : effL ok key prev l = l := by
  have h : ∀ (m acc : List E), (∀ e ∈ m, ok e = true) → Keyd key (acc ++ m) → m.foldl (takeL ok key prev) acc = acc ++ m := by
    intro m
    induction m with
    | nil => intro acc _ _; simp
    | cons e m ih =>
      intro acc ho hd
      have hn : acc.find? (fun x => decide (key x = key e)) = none := by
        rw [List.find?_eq_none]
        intro x hx
        have := (List.pairwise_append.1 hd).2.2 x hx e (List.mem_cons_self ..)
        simpa using this
      have ht : takeL ok key prev acc e = acc ++ [e] := by
        unfold takeL
        rw [if_pos (ho e (List.mem_cons_self ..)), hn]
      rw [List.foldl_cons, ht, ih (acc ++ [e]) (fun x hx => ho x (List.mem_cons_of_mem _ hx)) (by rw [List.append_assoc]; exact hd)]
      simp
  have := h l [] hok (by simpa using hk)
  unfold effL
  simpa using this
section
variable {n : Nat} {f u : Int} (hn : 1 ≤ n ∧ n ≤ 60) (hf : 0 ≤ f ∧ f ≤ 50) (hu : f ≤ u ∧ u ≤ 200)
include hn hf hu
theorem spV1 : validE (sp1 n f u) = true := by
  simp [validE, sp1, zeroE, shapeQ, headQ, condQ, checks, Ent.num, Ent.clr, ByteArray.toList_eq]
  exact ⟨decide_eq_true hu.1, by omega⟩
theorem spV2 : validE (sp2 n f u) = true := by
  have hr := rootB_size n
  simp [validE, sp2, zeroE, shapeQ, headQ, condQ, checks, Ent.num, Ent.clr, ByteArray.toList_eq, hr]
  exact ⟨decide_eq_true hu.1, by omega⟩
theorem spV3 : validE (sp3 n f u) = true := by
  simp [validE, sp3, zeroE, shapeQ, headQ, condQ, checks, Ent.num, Ent.clr, ByteArray.toList_eq]
  exact ⟨decide_eq_true hu.1, by omega⟩
theorem spV4 : validE (sp4 n f u) = true := by
  simp [validE, sp4, zeroE, shapeQ, headQ, condQ, checks, Ent.num, Ent.clr, ByteArray.toList_eq]
  exact ⟨decide_eq_true hu.1, by omega⟩
theorem spVal : ∀ e ∈ spL n f u, validE e = true := by
  intro e he
  simp only [spL, List.mem_cons, List.not_mem_nil, or_false] at he
  rcases he with rfl | rfl | rfl | rfl
  · exact spV1 hn hf hu
  · exact spV2 hn hf hu
  · exact spV3 hn hf hu
  · exact spV4 hn hf hu
theorem spKeyd : Keyd keyE (spL n f u) := by
  have k1 : keyE (sp1 n f u) = 8 :: putI n := by unfold keyE; rw [if_pos (spV1 hn hf hu)]; rfl
  have k2 : keyE (sp2 n f u) = 10 :: putI n := by unfold keyE; rw [if_pos (spV2 hn hf hu)]; rfl
  have k3 : keyE (sp3 n f u) = 14 :: putI n := by unfold keyE; rw [if_pos (spV3 hn hf hu)]; rfl
  have k4 : keyE (sp4 n f u) = 6 :: putI n := by unfold keyE; rw [if_pos (spV4 hn hf hu)]; rfl
  unfold Keyd spL
  simp only [List.pairwise_cons, List.mem_cons, List.not_mem_nil, or_false, forall_eq_or_imp, forall_eq, false_imp_iff, implies_true, and_true, List.Pairwise.nil]
  rw [k1, k2, k3, k4]
  simp
theorem spEff : effD (spL n f u) 0 = spL n f u := by
  unfold effD
  rw [effL_all (spL n f u) (fun e he => by
    unfold okD
    rw [spVal hn hf hu e he]
    simp only [spL, List.mem_cons, List.not_mem_nil, or_false] at he
    rcases he with rfl | rfl | rfl | rfl <;> rfl) (spKeyd hn hf hu)]
  rfl
theorem sp_2 : knownL (spL n f u) 0 2 = [sp4 n f u] := by unfold knownL; rw [spEff hn hf hu]; rfl
theorem sp_3 : knownL (spL n f u) 0 3 = [sp1 n f u] := by unfold knownL; rw [spEff hn hf hu]; rfl
theorem sp_4 : knownL (spL n f u) 0 4 = [sp2 n f u] := by unfold knownL; rw [spEff hn hf hu]; rfl
theorem sp_5 : knownL (spL n f u) 0 5 = [] := by unfold knownL; rw [spEff hn hf hu]; rfl
theorem sp_6 : knownL (spL n f u) 0 6 = [sp3 n f u] := by unfold knownL; rw [spEff hn hf hu]; rfl
end
theorem spW (n : Nat) (f u : Int) : ∀ e ∈ spL n f u, e.Wire := by
  have h1 := rootB_size n
  intro e he
  simp only [spL, List.mem_cons, List.not_mem_nil, or_false] at he
  rcases he with rfl | rfl | rfl | rfl
  · exact ⟨Nat.zero_le _, Nat.zero_le _, Nat.zero_le _, Nat.zero_le _, Nat.zero_le _, Nat.zero_le _, Nat.zero_le _⟩
  · exact ⟨Nat.zero_le _, Nat.zero_le _, Nat.zero_le _, Nat.zero_le _, Nat.zero_le _, Nat.zero_le _, by show (rootB n).size ≤ 65536; omega⟩
  · exact ⟨Nat.zero_le _, Nat.zero_le _, Nat.zero_le _, Nat.zero_le _, Nat.zero_le _, Nat.zero_le _, Nat.zero_le _⟩
  · exact ⟨Nat.zero_le _, Nat.zero_le _, Nat.zero_le _, Nat.zero_le _, Nat.zero_le _, Nat.zero_le _, Nat.zero_le _⟩
def SpB (B : Bas) (n : Nat) (f u : Int) : Prop := ∀ j, j < 9 → B.ls j = knownL (spL n f u) 0 j
section
variable {B : Bas} {n : Nat} {f u t : Int} {q1 q2 : Bool} {w : World} (hn : 1 ≤ n ∧ n ≤ 60) (hf : 0 ≤ f ∧ f ≤ 50) (hu : f ≤ u ∧ u ≤ 200) (h : SpB B n f u) (hB : BasAt w (Old w) B) (h1 : decide (f ≤ t) = q1) (h2 : decide (t ≤ u) = q2)
include hn hf hu h hB
theorem spFaults : Calls Tryz.prog 29 #[B.val, .int .i64 n] w fun e w' => ∃ v, e = .returned v ∧ OL w' w.heap.size 75 3 susC v [⟨n, f, u⟩] ∧ Below w.heap.size w w' := by
  have hl : B.ls 2 = [sp4 n f u] := by rw [h 2 (by decide), sp_2 hn hf hu]
  have hfl : faultsL B (n : Int) = [⟨n, f, u⟩] := by unfold faultsL; rw [hl]; simp [sp4, susOf]
  have := faults1K_walk B n w hB (by rw [hl]; simp) (by rw [hfl]; simp)
  rw [hfl] at this
  exact this
include h1 h2
theorem spWrong : Calls Tryz.prog 25 #[B.val, .int .i64 n, .int .i64 t] w (ValP w (q1 && q2)) := by
  have := wrong_walk B n t w hB
  rw [h 3 (by decide), sp_3 hn hf hu] at this
  simp only [List.any_cons, List.any_nil, Bool.or_false] at this
  rw [show (decide ((sp1 n f u).item = (n : Int))) = true from decide_eq_true rfl, Bool.true_and] at this
  rw [← h1, ← h2]
  exact this
omit h1 h2 in
theorem spWrong1 {n1 : Nat} (hn1 : n + 1 = n1) : Calls Tryz.prog 25 #[B.val, .int .i64 n1, .int .i64 t] w (ValP w false) := by
  have := wrong_walk B n1 t w hB
  rw [h 3 (by decide), sp_3 hn hf hu] at this
  simp only [List.any_cons, List.any_nil, Bool.or_false] at this
  rw [show (decide ((sp1 n f u).item = (n1 : Int))) = false from decide_eq_false (by show ¬ ((n : Int) = _); omega), Bool.false_and] at this
  exact this
theorem spSkilled : Calls Tryz.prog 37 #[B.val, .int .i64 n, .int .i64 7, .int .i64 t] w (ValP w (q1 && q2)) := by
  have := skilled_walk B n 7 t w hB
  rw [h 6 (by decide), sp_6 hn hf hu] at this
  simp only [List.any_cons, List.any_nil, Bool.or_false] at this
  rw [show (decide ((sp3 n f u).person = (n : Int))) = true from decide_eq_true rfl, show (decide ((sp3 n f u).skill = 7)) = true from decide_eq_true rfl, Bool.and_self, Bool.and_true] at this
  rw [← h1, ← h2]
  exact this
omit h1 h2 in
theorem spSkilled8 : Calls Tryz.prog 37 #[B.val, .int .i64 n, .int .i64 8, .int .i64 t] w (ValP w false) := by
  have := skilled_walk B n 8 t w hB
  rw [h 6 (by decide), sp_6 hn hf hu] at this
  simp only [List.any_cons, List.any_nil, Bool.or_false] at this
  rw [show (decide ((sp3 n f u).skill = 8)) = false from decide_eq_false (by show ¬ ((7 : Int) = 8); omega), Bool.and_false, Bool.and_false] at this
  exact this
theorem spKey : Calls Tryz.prog 23 #[B.val, .int .i64 n, .int .i64 t] w fun e w' => e = .returned (.tuple #[.string (if q1 && q2 then rootB n else ⟨#[]⟩), .bool (q1 && q2)]) ∧ Below w.heap.size w w' := by
  have hk : keyB B n t = (if q1 && q2 then (sp2 n f u, true) else (zeroE, false)) := by
    unfold keyB
    rw [h 4 (by decide), h 5 (by decide), sp_4 hn hf hu, sp_5 hn hf hu]
    have e1 : ([sp2 n f u].filter fun e => (decide (e.frm ≤ t) && decide (t ≤ e.til)) && (decide (e.lab = (n : Int)) && !(revoked [] e.id t))) = if q1 && q2 then [sp2 n f u] else [] := by
      rw [List.filter_cons, List.filter_nil]
      rw [show (decide ((sp2 n f u).lab = (n : Int))) = true from decide_eq_true rfl, show revoked [] (sp2 n f u).id t = false from rfl, show decide ((sp2 n f u).frm ≤ t) = q1 from h1, show decide (t ≤ (sp2 n f u).til) = q2 from h2]
      cases q1 <;> cases q2 <;> rfl
    rw [e1]
    cases q1 <;> cases q2 <;> rfl
  have := knownKey_walk B n t w hB
  rw [hk] at this
  cases q1 <;> cases q2 <;> exact this
end
end Go.Proofs.YteeifhlhpiimoaaGreatDoor
end
section
namespace Go.Proofs.YteeifhlhpiimoaaGreatDoor
open Go Go.RowKit Go.Shelf Wr
attribute [local go_sem] Oper.semAt_some
theorem OL.block {α : Type} {w : World} {B k n : Nat} {T : TypeId} {f : α → List Value} {v : Value} {l : List α} (h : OL w B T k f v l) (hn : l.length = n) (hl : 0 < n) : ∃ g cap cur, v = .slice (some ⟨g, 0, none⟩) n cap ∧ w.heap[g]? = some (.cells cur T (0, 0)) ∧ cur.toList.take (n * k) = l.flatMap f := by
  subst hn
  rcases h.2 with ⟨e1, h0⟩ | ⟨g, cap, cur, e1, hb, hc, h4, h5, h6, h7⟩
  · omega
  · exact ⟨g, cap, cur, e1, hc, h7⟩
theorem RowAt.of_take {α : Type} {w : World} {b k n : Nat} {l : List α} {T : TypeId} {f : α → List Value} {cur : Array Value} (hf : ∀ x, (f x).length = k) (_hn : l.length = n) (h : w.heap[b]? = some (.cells cur T (0, 0))) (ht : cur.toList.take (n * k) = l.flatMap f) : RowAt w f k (some ⟨b, 0, none⟩) l := fun i e he => by
  refine ⟨b, rfl, (Array.getElem?_eq_some_iff.1 h).1, fun j v hv => ?_⟩
  have hj : j < k := by rw [← hf e]; exact (List.getElem?_eq_some_iff.1 hv).1
  have h1 := flat_at (f := f) (s := k) hf l i e he j hj
  rw [← ht, hv] at h1
  have h2 : cur.toList[i * k + j]? = some v := by
    rw [List.getElem?_take] at h1
    split at h1
    · exact h1
    · cases h1
  exact cells_i h (by simpa using h2)
theorem sameSus1 {w : World} {A A2 : Option Addr} {c c2 : Nat} {s : Sus} (hA : RowAt w susC 3 A [s]) (hA2 : RowAt w susC 3 A2 [s]) : Calls Tryz.prog 28 #[.slice A 1 c, .slice A2 1 c2] w (ValP w true) := by
  have := sameSus_walk [s] [s] A A2 1 c 1 c2 rfl rfl (by decide) w hA hA2
  rwa [decide_eq_true rfl] at this
theorem empty_root (n : Nat) : ((⟨#[]⟩ : ByteArray).toList == (rootB n).toList) = false := by
  rw [beq_bytes]
  refine decide_eq_false fun h => ?_
  have := rootB_size n
  rw [← h] at this
  cases this
set_option maxRecDepth 100000 in
set_option maxHeartbeats 8000000 in
theorem spans_cut (w : World) (hp : Pow10 w) (x1 x2 x3 x4 f u0 u t0 t n0 : Int) (n : Nat) (q1 q2 : Bool) (r1 : -9223372036854775808 ≤ x1) (s1 : x1 ≤ 9223372036854775807) (r2 : -9223372036854775808 ≤ x2) (s2 : x2 ≤ 9223372036854775807) (r3 : -9223372036854775808 ≤ x3) (s3 : x3 ≤ 9223372036854775807) (r4 : -9223372036854775808 ≤ x4) (s4 : x4 ≤ 9223372036854775807)
    (p1 : pickZ x1 50 = f) (p2 : pickZ x2 50 = u0) (p3 : pickZ x3 120 = t0) (p4 : pickZ x4 60 = n0) (e2 : IntKind.i64.wrap (f + u0) = u) (e3 : IntKind.i64.wrap (t0 - 10) = t) (e4 : IntKind.i64.wrap (1 + n0) = (n : Int)) (n1 : Nat) (hn1 : n + 1 = n1) (e5 : IntKind.i64.wrap ((n : Int) + 1) = (n1 : Int))
    (hn : 1 ≤ n ∧ n ≤ 60) (hf : 0 ≤ f ∧ f ≤ 50) (hu : f ≤ u ∧ u ≤ 200) (h1 : decide (f ≤ t) = q1) (h2 : decide (t ≤ u) = q2) :
    Calls Tryz.prog 9 #[.int .i64 x1, .int .i64 x2, .int .i64 x3, .int .i64 x4] w (ValP w true) := by
  have HF := Lib.hid (St.start hp)
  have HR := Lib.hid (And.intro hn (And.intro hf hu))
  have HQ := Lib.hid (And.intro h1 h2)
  have HP := Lib.hid (And.intro p1 (And.intro p2 (And.intro p3 p4)))
  have hnm : n ≤ 1000000 := by omega
  have hz := empty_root n
  have hz2 : (rootB n).toList.isEmpty = false := by simpa using hz
  have HN1 := Lib.hid hn1
  clear hn1 hp hn hf hu p1 p2 p3 p4
  cases q1 <;> cases q2
  · go_enter Tryz.func9, Tryz.ntmps9
    go_wp2_with (first
      | (go_at_call 11; (with_reducible refine (sane_walk _ HF.out.pow).mono ?_); rintro e2 w2 ⟨rfl, hb⟩; have HF1 := HF.out.step hb; have HF := Lib.hid HF1; clear hb HF1)
      | (go_at_call 13; (with_reducible refine (pick19_walk _ x1 50 (by omega) (by omega) (by omega) (by omega)).mono ?_); rintro e2 w2 ⟨rfl, rfl⟩; rw [HP.out.1])
      | (go_at_call 13; (with_reducible refine (pick19_walk _ x2 50 (by omega) (by omega) (by omega) (by omega)).mono ?_); rintro e2 w2 ⟨rfl, rfl⟩; rw [HP.out.2.1])
      | (go_at_call 13; (with_reducible refine (pick19_walk _ x3 120 (by omega) (by omega) (by omega) (by omega)).mono ?_); rintro e2 w2 ⟨rfl, rfl⟩; rw [HP.out.2.2.1])
      | (go_at_call 13; (with_reducible refine (pick19_walk _ x4 60 (by omega) (by omega) (by omega) (by omega)).mono ?_); rintro e2 w2 ⟨rfl, rfl⟩; rw [HP.out.2.2.2])
      | (go_at_call 43; (with_reducible refine (root_walk n hnm _).mono ?_); rintro e2 w2 ⟨rfl, hb⟩; have HF1 := HF.out.step hb; have HF := Lib.hid HF1; clear hb HF1)
      | ((with_reducible refine wpList_build_ents rfl 4 #[(0, .tmp 34), (1, .tmp 41), (2, .tmp 46), (3, .tmp 51)] rfl ?hn (spL n f u) ?hl ?hp ?_); (case hn => decide); (case hl => rfl); (case hp => kernel_rfl); intro bx V hb hbl hat; have HX := Lib.hid hat; have HF1 := HF.out.step (hbl.mono (by omega)); have HF := Lib.hid HF1; clear hb hbl hat HF1)
      | (go_at_call 15; (with_reducible refine (knownOf_walk (spL n f u) 0 (some ⟨bx, 0, none⟩) 4 4 rfl (by decide) _ HX.out (spW n f u) HF.out.pow).mono ?_); rintro e2 w2 ⟨B, rfl, hB, hI, hb⟩; have HF1 := (HF.out.step hb).add hB; have HF := Lib.hid HF1; have HSB : Hid (SpB B n f u) := Lib.hid hI; clear hb hB HF1 hI)
      | ((with_reducible refine wpList_var rfl 36 (.tmp 11) (.tmp 54) rfl rfl (B.cells.toArray) ?hx ?hy ?hi ?ho ?h1 HF.out ?_); (case hx => rfl); (case hy => rfl); (case hi => exact ibase B); (case ho => rfl); (case h1 => exact one_base _); intro b11 V hb hst; rw [hb]; have HF := Lib.hid hst; clear hb hst)
      | ((with_reducible refine wpList_load_midw ?hw 36 (.tmp 11) rfl b11 0 ?hx B.cells _ (HF.out.row (b := b11) (cs := B.cells) (t := 36) (by simp)) Tryz.underlying36 rfl (ibase B) ?_); (case hw => rfl); (case hx => rfl))
      | (go_at_call 23; (with_reducible refine (spKey HR.out.1 HR.out.2.1 HR.out.2.2 HSB.out (HF.out.bas B (by simp)) HQ.out.1 HQ.out.2).mono ?_); rintro e2 w2 ⟨rfl, hb⟩; have HF1 := HF.out.step hb; have HF := Lib.hid HF1; clear hb HF1)
      | (go_at_call 25; (with_reducible refine (spWrong HR.out.1 HR.out.2.1 HR.out.2.2 HSB.out (HF.out.bas B (by simp)) HQ.out.1 HQ.out.2).mono ?_); rintro e2 w2 ⟨rfl, hb⟩; have HF1 := HF.out.step hb; have HF := Lib.hid HF1; clear hb HF1)
      | (go_at_call 25; (with_reducible refine (spWrong1 HR.out.1 HR.out.2.1 HR.out.2.2 HSB.out (HF.out.bas B (by simp)) HN1.out).mono ?_); rintro e2 w2 ⟨rfl, hb⟩; have HF1 := HF.out.step hb; have HF := Lib.hid HF1; clear hb HF1)
      | (go_at_call 37; (with_reducible refine (spSkilled HR.out.1 HR.out.2.1 HR.out.2.2 HSB.out (HF.out.bas B (by simp)) HQ.out.1 HQ.out.2).mono ?_); rintro e2 w2 ⟨rfl, hb⟩; have HF1 := HF.out.step hb; have HF := Lib.hid HF1; clear hb HF1)
      | (go_at_call 37; (with_reducible refine (spSkilled8 HR.out.1 HR.out.2.1 HR.out.2.2 HSB.out (HF.out.bas B (by simp))).mono ?_); rintro e2 w2 ⟨rfl, hb⟩; have HF1 := HF.out.step hb; have HF := Lib.hid HF1; clear hb HF1)
      | (go_at_call 29; (with_reducible refine (spFaults HR.out.1 HR.out.2.1 HR.out.2.2 HSB.out (HF.out.bas B (by simp))).mono ?_); rintro e2 w2 ⟨v2, rfl, ho, hb⟩; obtain ⟨g9, c9, cur9, rfl, hg, hc⟩ := OL.block (n := 1) ho rfl (by decide); have HF1 := (HF.out.step hb).put hg; have HF := Lib.hid HF1; have HC9 := Lib.hid hc; clear hb HF1 ho hg hc)
      | (go_at_call 28
         have hS1 := HF.out.step (below_new w2 (.cells #[.int .i64 n, .int .i64 f, .int .i64 u] 75))
         have hA1 : RowAt (w2.alloc (.cells #[.int .i64 n, .int .i64 f, .int .i64 u] 75)) susC 3 (some ⟨g9, 0, none⟩) [⟨n, f, u⟩] := RowAt.of_take (n := 1) (fun _ => rfl) rfl (hS1.at_.has (g9, .cells cur9 75 (0, 0)) (by simp)) HC9.out
         have hA2 : RowAt (w2.alloc (.cells #[.int .i64 n, .int .i64 f, .int .i64 u] 75)) susC 3 (some ⟨w2.heap.size, 0, none⟩) [⟨n, f, u⟩] := RowAt.of_block (T := 75) (fun _ => rfl) (World.alloc_heap_new _ _)
         (with_reducible refine (sameSus1 hA1 hA2).mono ?_); rintro e3 w3 ⟨rfl, hb⟩; have HF1 := hS1.step hb; have HF := Lib.hid HF1; clear hb HF1 hS1 hA1 hA2)
      | fail)
    go_ret
    exact ⟨rfl, HF.out.at_.below⟩
  · go_enter Tryz.func9, Tryz.ntmps9
    go_wp2_with (first
      | (go_at_call 11; (with_reducible refine (sane_walk _ HF.out.pow).mono ?_); rintro e2 w2 ⟨rfl, hb⟩; have HF1 := HF.out.step hb; have HF := Lib.hid HF1; clear hb HF1)
      | (go_at_call 13; (with_reducible refine (pick19_walk _ x1 50 (by omega) (by omega) (by omega) (by omega)).mono ?_); rintro e2 w2 ⟨rfl, rfl⟩; rw [HP.out.1])
      | (go_at_call 13; (with_reducible refine (pick19_walk _ x2 50 (by omega) (by omega) (by omega) (by omega)).mono ?_); rintro e2 w2 ⟨rfl, rfl⟩; rw [HP.out.2.1])
      | (go_at_call 13; (with_reducible refine (pick19_walk _ x3 120 (by omega) (by omega) (by omega) (by omega)).mono ?_); rintro e2 w2 ⟨rfl, rfl⟩; rw [HP.out.2.2.1])
      | (go_at_call 13; (with_reducible refine (pick19_walk _ x4 60 (by omega) (by omega) (by omega) (by omega)).mono ?_); rintro e2 w2 ⟨rfl, rfl⟩; rw [HP.out.2.2.2])
      | (go_at_call 43; (with_reducible refine (root_walk n hnm _).mono ?_); rintro e2 w2 ⟨rfl, hb⟩; have HF1 := HF.out.step hb; have HF := Lib.hid HF1; clear hb HF1)
      | ((with_reducible refine wpList_build_ents rfl 4 #[(0, .tmp 34), (1, .tmp 41), (2, .tmp 46), (3, .tmp 51)] rfl ?hn (spL n f u) ?hl ?hp ?_); (case hn => decide); (case hl => rfl); (case hp => kernel_rfl); intro bx V hb hbl hat; have HX := Lib.hid hat; have HF1 := HF.out.step (hbl.mono (by omega)); have HF := Lib.hid HF1; clear hb hbl hat HF1)
      | (go_at_call 15; (with_reducible refine (knownOf_walk (spL n f u) 0 (some ⟨bx, 0, none⟩) 4 4 rfl (by decide) _ HX.out (spW n f u) HF.out.pow).mono ?_); rintro e2 w2 ⟨B, rfl, hB, hI, hb⟩; have HF1 := (HF.out.step hb).add hB; have HF := Lib.hid HF1; have HSB : Hid (SpB B n f u) := Lib.hid hI; clear hb hB HF1 hI)
      | ((with_reducible refine wpList_var rfl 36 (.tmp 11) (.tmp 54) rfl rfl (B.cells.toArray) ?hx ?hy ?hi ?ho ?h1 HF.out ?_); (case hx => rfl); (case hy => rfl); (case hi => exact ibase B); (case ho => rfl); (case h1 => exact one_base _); intro b11 V hb hst; rw [hb]; have HF := Lib.hid hst; clear hb hst)
      | ((with_reducible refine wpList_load_midw ?hw 36 (.tmp 11) rfl b11 0 ?hx B.cells _ (HF.out.row (b := b11) (cs := B.cells) (t := 36) (by simp)) Tryz.underlying36 rfl (ibase B) ?_); (case hw => rfl); (case hx => rfl))
      | (go_at_call 23; (with_reducible refine (spKey HR.out.1 HR.out.2.1 HR.out.2.2 HSB.out (HF.out.bas B (by simp)) HQ.out.1 HQ.out.2).mono ?_); rintro e2 w2 ⟨rfl, hb⟩; have HF1 := HF.out.step hb; have HF := Lib.hid HF1; clear hb HF1)
      | (go_at_call 25; (with_reducible refine (spWrong HR.out.1 HR.out.2.1 HR.out.2.2 HSB.out (HF.out.bas B (by simp)) HQ.out.1 HQ.out.2).mono ?_); rintro e2 w2 ⟨rfl, hb⟩; have HF1 := HF.out.step hb; have HF := Lib.hid HF1; clear hb HF1)
      | (go_at_call 25; (with_reducible refine (spWrong1 HR.out.1 HR.out.2.1 HR.out.2.2 HSB.out (HF.out.bas B (by simp)) HN1.out).mono ?_); rintro e2 w2 ⟨rfl, hb⟩; have HF1 := HF.out.step hb; have HF := Lib.hid HF1; clear hb HF1)
      | (go_at_call 37; (with_reducible refine (spSkilled HR.out.1 HR.out.2.1 HR.out.2.2 HSB.out (HF.out.bas B (by simp)) HQ.out.1 HQ.out.2).mono ?_); rintro e2 w2 ⟨rfl, hb⟩; have HF1 := HF.out.step hb; have HF := Lib.hid HF1; clear hb HF1)
      | (go_at_call 37; (with_reducible refine (spSkilled8 HR.out.1 HR.out.2.1 HR.out.2.2 HSB.out (HF.out.bas B (by simp))).mono ?_); rintro e2 w2 ⟨rfl, hb⟩; have HF1 := HF.out.step hb; have HF := Lib.hid HF1; clear hb HF1)
      | (go_at_call 29; (with_reducible refine (spFaults HR.out.1 HR.out.2.1 HR.out.2.2 HSB.out (HF.out.bas B (by simp))).mono ?_); rintro e2 w2 ⟨v2, rfl, ho, hb⟩; obtain ⟨g9, c9, cur9, rfl, hg, hc⟩ := OL.block (n := 1) ho rfl (by decide); have HF1 := (HF.out.step hb).put hg; have HF := Lib.hid HF1; have HC9 := Lib.hid hc; clear hb HF1 ho hg hc)
      | (go_at_call 28
         have hS1 := HF.out.step (below_new w2 (.cells #[.int .i64 n, .int .i64 f, .int .i64 u] 75))
         have hA1 : RowAt (w2.alloc (.cells #[.int .i64 n, .int .i64 f, .int .i64 u] 75)) susC 3 (some ⟨g9, 0, none⟩) [⟨n, f, u⟩] := RowAt.of_take (n := 1) (fun _ => rfl) rfl (hS1.at_.has (g9, .cells cur9 75 (0, 0)) (by simp)) HC9.out
         have hA2 : RowAt (w2.alloc (.cells #[.int .i64 n, .int .i64 f, .int .i64 u] 75)) susC 3 (some ⟨w2.heap.size, 0, none⟩) [⟨n, f, u⟩] := RowAt.of_block (T := 75) (fun _ => rfl) (World.alloc_heap_new _ _)
         (with_reducible refine (sameSus1 hA1 hA2).mono ?_); rintro e3 w3 ⟨rfl, hb⟩; have HF1 := hS1.step hb; have HF := Lib.hid HF1; clear hb HF1 hS1 hA1 hA2)
      | fail)
    go_ret
    exact ⟨rfl, HF.out.at_.below⟩
  · go_enter Tryz.func9, Tryz.ntmps9
    go_wp2_with (first
      | (go_at_call 11; (with_reducible refine (sane_walk _ HF.out.pow).mono ?_); rintro e2 w2 ⟨rfl, hb⟩; have HF1 := HF.out.step hb; have HF := Lib.hid HF1; clear hb HF1)
      | (go_at_call 13; (with_reducible refine (pick19_walk _ x1 50 (by omega) (by omega) (by omega) (by omega)).mono ?_); rintro e2 w2 ⟨rfl, rfl⟩; rw [HP.out.1])
      | (go_at_call 13; (with_reducible refine (pick19_walk _ x2 50 (by omega) (by omega) (by omega) (by omega)).mono ?_); rintro e2 w2 ⟨rfl, rfl⟩; rw [HP.out.2.1])
      | (go_at_call 13; (with_reducible refine (pick19_walk _ x3 120 (by omega) (by omega) (by omega) (by omega)).mono ?_); rintro e2 w2 ⟨rfl, rfl⟩; rw [HP.out.2.2.1])
      | (go_at_call 13; (with_reducible refine (pick19_walk _ x4 60 (by omega) (by omega) (by omega) (by omega)).mono ?_); rintro e2 w2 ⟨rfl, rfl⟩; rw [HP.out.2.2.2])
      | (go_at_call 43; (with_reducible refine (root_walk n hnm _).mono ?_); rintro e2 w2 ⟨rfl, hb⟩; have HF1 := HF.out.step hb; have HF := Lib.hid HF1; clear hb HF1)
      | ((with_reducible refine wpList_build_ents rfl 4 #[(0, .tmp 34), (1, .tmp 41), (2, .tmp 46), (3, .tmp 51)] rfl ?hn (spL n f u) ?hl ?hp ?_); (case hn => decide); (case hl => rfl); (case hp => kernel_rfl); intro bx V hb hbl hat; have HX := Lib.hid hat; have HF1 := HF.out.step (hbl.mono (by omega)); have HF := Lib.hid HF1; clear hb hbl hat HF1)
      | (go_at_call 15; (with_reducible refine (knownOf_walk (spL n f u) 0 (some ⟨bx, 0, none⟩) 4 4 rfl (by decide) _ HX.out (spW n f u) HF.out.pow).mono ?_); rintro e2 w2 ⟨B, rfl, hB, hI, hb⟩; have HF1 := (HF.out.step hb).add hB; have HF := Lib.hid HF1; have HSB : Hid (SpB B n f u) := Lib.hid hI; clear hb hB HF1 hI)
      | ((with_reducible refine wpList_var rfl 36 (.tmp 11) (.tmp 54) rfl rfl (B.cells.toArray) ?hx ?hy ?hi ?ho ?h1 HF.out ?_); (case hx => rfl); (case hy => rfl); (case hi => exact ibase B); (case ho => rfl); (case h1 => exact one_base _); intro b11 V hb hst; rw [hb]; have HF := Lib.hid hst; clear hb hst)
      | ((with_reducible refine wpList_load_midw ?hw 36 (.tmp 11) rfl b11 0 ?hx B.cells _ (HF.out.row (b := b11) (cs := B.cells) (t := 36) (by simp)) Tryz.underlying36 rfl (ibase B) ?_); (case hw => rfl); (case hx => rfl))
      | (go_at_call 23; (with_reducible refine (spKey HR.out.1 HR.out.2.1 HR.out.2.2 HSB.out (HF.out.bas B (by simp)) HQ.out.1 HQ.out.2).mono ?_); rintro e2 w2 ⟨rfl, hb⟩; have HF1 := HF.out.step hb; have HF := Lib.hid HF1; clear hb HF1)
      | (go_at_call 25; (with_reducible refine (spWrong HR.out.1 HR.out.2.1 HR.out.2.2 HSB.out (HF.out.bas B (by simp)) HQ.out.1 HQ.out.2).mono ?_); rintro e2 w2 ⟨rfl, hb⟩; have HF1 := HF.out.step hb; have HF := Lib.hid HF1; clear hb HF1)
      | (go_at_call 25; (with_reducible refine (spWrong1 HR.out.1 HR.out.2.1 HR.out.2.2 HSB.out (HF.out.bas B (by simp)) HN1.out).mono ?_); rintro e2 w2 ⟨rfl, hb⟩; have HF1 := HF.out.step hb; have HF := Lib.hid HF1; clear hb HF1)
      | (go_at_call 37; (with_reducible refine (spSkilled HR.out.1 HR.out.2.1 HR.out.2.2 HSB.out (HF.out.bas B (by simp)) HQ.out.1 HQ.out.2).mono ?_); rintro e2 w2 ⟨rfl, hb⟩; have HF1 := HF.out.step hb; have HF := Lib.hid HF1; clear hb HF1)
      | (go_at_call 37; (with_reducible refine (spSkilled8 HR.out.1 HR.out.2.1 HR.out.2.2 HSB.out (HF.out.bas B (by simp))).mono ?_); rintro e2 w2 ⟨rfl, hb⟩; have HF1 := HF.out.step hb; have HF := Lib.hid HF1; clear hb HF1)
      | (go_at_call 29; (with_reducible refine (spFaults HR.out.1 HR.out.2.1 HR.out.2.2 HSB.out (HF.out.bas B (by simp))).mono ?_); rintro e2 w2 ⟨v2, rfl, ho, hb⟩; obtain ⟨g9, c9, cur9, rfl, hg, hc⟩ := OL.block (n := 1) ho rfl (by decide); have HF1 := (HF.out.step hb).put hg; have HF := Lib.hid HF1; have HC9 := Lib.hid hc; clear hb HF1 ho hg hc)
      | (go_at_call 28
         have hS1 := HF.out.step (below_new w2 (.cells #[.int .i64 n, .int .i64 f, .int .i64 u] 75))
         have hA1 : RowAt (w2.alloc (.cells #[.int .i64 n, .int .i64 f, .int .i64 u] 75)) susC 3 (some ⟨g9, 0, none⟩) [⟨n, f, u⟩] := RowAt.of_take (n := 1) (fun _ => rfl) rfl (hS1.at_.has (g9, .cells cur9 75 (0, 0)) (by simp)) HC9.out
         have hA2 : RowAt (w2.alloc (.cells #[.int .i64 n, .int .i64 f, .int .i64 u] 75)) susC 3 (some ⟨w2.heap.size, 0, none⟩) [⟨n, f, u⟩] := RowAt.of_block (T := 75) (fun _ => rfl) (World.alloc_heap_new _ _)
         (with_reducible refine (sameSus1 hA1 hA2).mono ?_); rintro e3 w3 ⟨rfl, hb⟩; have HF1 := hS1.step hb; have HF := Lib.hid HF1; clear hb HF1 hS1 hA1 hA2)
      | fail)
    go_ret
    exact ⟨rfl, HF.out.at_.below⟩
  · go_enter Tryz.func9, Tryz.ntmps9
    go_wp2_with (first
      | (go_at_call 11; (with_reducible refine (sane_walk _ HF.out.pow).mono ?_); rintro e2 w2 ⟨rfl, hb⟩; have HF1 := HF.out.step hb; have HF := Lib.hid HF1; clear hb HF1)
      | (go_at_call 13; (with_reducible refine (pick19_walk _ x1 50 (by omega) (by omega) (by omega) (by omega)).mono ?_); rintro e2 w2 ⟨rfl, rfl⟩; rw [HP.out.1])
      | (go_at_call 13; (with_reducible refine (pick19_walk _ x2 50 (by omega) (by omega) (by omega) (by omega)).mono ?_); rintro e2 w2 ⟨rfl, rfl⟩; rw [HP.out.2.1])
      | (go_at_call 13; (with_reducible refine (pick19_walk _ x3 120 (by omega) (by omega) (by omega) (by omega)).mono ?_); rintro e2 w2 ⟨rfl, rfl⟩; rw [HP.out.2.2.1])
      | (go_at_call 13; (with_reducible refine (pick19_walk _ x4 60 (by omega) (by omega) (by omega) (by omega)).mono ?_); rintro e2 w2 ⟨rfl, rfl⟩; rw [HP.out.2.2.2])
      | (go_at_call 43; (with_reducible refine (root_walk n hnm _).mono ?_); rintro e2 w2 ⟨rfl, hb⟩; have HF1 := HF.out.step hb; have HF := Lib.hid HF1; clear hb HF1)
      | ((with_reducible refine wpList_build_ents rfl 4 #[(0, .tmp 34), (1, .tmp 41), (2, .tmp 46), (3, .tmp 51)] rfl ?hn (spL n f u) ?hl ?hp ?_); (case hn => decide); (case hl => rfl); (case hp => kernel_rfl); intro bx V hb hbl hat; have HX := Lib.hid hat; have HF1 := HF.out.step (hbl.mono (by omega)); have HF := Lib.hid HF1; clear hb hbl hat HF1)
      | (go_at_call 15; (with_reducible refine (knownOf_walk (spL n f u) 0 (some ⟨bx, 0, none⟩) 4 4 rfl (by decide) _ HX.out (spW n f u) HF.out.pow).mono ?_); rintro e2 w2 ⟨B, rfl, hB, hI, hb⟩; have HF1 := (HF.out.step hb).add hB; have HF := Lib.hid HF1; have HSB : Hid (SpB B n f u) := Lib.hid hI; clear hb hB HF1 hI)
      | ((with_reducible refine wpList_var rfl 36 (.tmp 11) (.tmp 54) rfl rfl (B.cells.toArray) ?hx ?hy ?hi ?ho ?h1 HF.out ?_); (case hx => rfl); (case hy => rfl); (case hi => exact ibase B); (case ho => rfl); (case h1 => exact one_base _); intro b11 V hb hst; rw [hb]; have HF := Lib.hid hst; clear hb hst)
      | ((with_reducible refine wpList_load_midw ?hw 36 (.tmp 11) rfl b11 0 ?hx B.cells _ (HF.out.row (b := b11) (cs := B.cells) (t := 36) (by simp)) Tryz.underlying36 rfl (ibase B) ?_); (case hw => rfl); (case hx => rfl))
      | (go_at_call 23; (with_reducible refine (spKey HR.out.1 HR.out.2.1 HR.out.2.2 HSB.out (HF.out.bas B (by simp)) HQ.out.1 HQ.out.2).mono ?_); rintro e2 w2 ⟨rfl, hb⟩; have HF1 := HF.out.step hb; have HF := Lib.hid HF1; clear hb HF1)
      | (go_at_call 25; (with_reducible refine (spWrong HR.out.1 HR.out.2.1 HR.out.2.2 HSB.out (HF.out.bas B (by simp)) HQ.out.1 HQ.out.2).mono ?_); rintro e2 w2 ⟨rfl, hb⟩; have HF1 := HF.out.step hb; have HF := Lib.hid HF1; clear hb HF1)
      | (go_at_call 25; (with_reducible refine (spWrong1 HR.out.1 HR.out.2.1 HR.out.2.2 HSB.out (HF.out.bas B (by simp)) HN1.out).mono ?_); rintro e2 w2 ⟨rfl, hb⟩; have HF1 := HF.out.step hb; have HF := Lib.hid HF1; clear hb HF1)
      | (go_at_call 37; (with_reducible refine (spSkilled HR.out.1 HR.out.2.1 HR.out.2.2 HSB.out (HF.out.bas B (by simp)) HQ.out.1 HQ.out.2).mono ?_); rintro e2 w2 ⟨rfl, hb⟩; have HF1 := HF.out.step hb; have HF := Lib.hid HF1; clear hb HF1)
      | (go_at_call 37; (with_reducible refine (spSkilled8 HR.out.1 HR.out.2.1 HR.out.2.2 HSB.out (HF.out.bas B (by simp))).mono ?_); rintro e2 w2 ⟨rfl, hb⟩; have HF1 := HF.out.step hb; have HF := Lib.hid HF1; clear hb HF1)
      | (go_at_call 29; (with_reducible refine (spFaults HR.out.1 HR.out.2.1 HR.out.2.2 HSB.out (HF.out.bas B (by simp))).mono ?_); rintro e2 w2 ⟨v2, rfl, ho, hb⟩; obtain ⟨g9, c9, cur9, rfl, hg, hc⟩ := OL.block (n := 1) ho rfl (by decide); have HF1 := (HF.out.step hb).put hg; have HF := Lib.hid HF1; have HC9 := Lib.hid hc; clear hb HF1 ho hg hc)
      | (go_at_call 28
         have hS1 := HF.out.step (below_new w2 (.cells #[.int .i64 n, .int .i64 f, .int .i64 u] 75))
         have hA1 : RowAt (w2.alloc (.cells #[.int .i64 n, .int .i64 f, .int .i64 u] 75)) susC 3 (some ⟨g9, 0, none⟩) [⟨n, f, u⟩] := RowAt.of_take (n := 1) (fun _ => rfl) rfl (hS1.at_.has (g9, .cells cur9 75 (0, 0)) (by simp)) HC9.out
         have hA2 : RowAt (w2.alloc (.cells #[.int .i64 n, .int .i64 f, .int .i64 u] 75)) susC 3 (some ⟨w2.heap.size, 0, none⟩) [⟨n, f, u⟩] := RowAt.of_block (T := 75) (fun _ => rfl) (World.alloc_heap_new _ _)
         (with_reducible refine (sameSus1 hA1 hA2).mono ?_); rintro e3 w3 ⟨rfl, hb⟩; have HF1 := hS1.step hb; have HF := Lib.hid HF1; clear hb HF1 hS1 hA1 hA2)
      | fail)
    go_ret
    exact ⟨rfl, HF.out.at_.below⟩
theorem spans_walk (w : World) (hp : Pow10 w) (x1 x2 x3 x4 : Int) (r1 : -9223372036854775808 ≤ x1) (s1 : x1 ≤ 9223372036854775807) (r2 : -9223372036854775808 ≤ x2) (s2 : x2 ≤ 9223372036854775807) (r3 : -9223372036854775808 ≤ x3) (s3 : x3 ≤ 9223372036854775807) (r4 : -9223372036854775808 ≤ x4) (s4 : x4 ≤ 9223372036854775807) :
    Calls Tryz.prog 9 #[.int .i64 x1, .int .i64 x2, .int .i64 x3, .int .i64 x4] w (ValP w true) := by
  obtain ⟨f, p1⟩ : ∃ f, pickZ x1 50 = f := ⟨_, rfl⟩
  obtain ⟨u0, p2⟩ : ∃ f, pickZ x2 50 = f := ⟨_, rfl⟩
  obtain ⟨t0, p3⟩ : ∃ f, pickZ x3 120 = f := ⟨_, rfl⟩
  obtain ⟨n0, p4⟩ : ∃ f, pickZ x4 60 = f := ⟨_, rfl⟩
  have k1 := pickZ_range x1 (n := 50) (by decide)
  have k2 := pickZ_range x2 (n := 50) (by decide)
  have k3 := pickZ_range x3 (n := 120) (by decide)
  have k4 := pickZ_range x4 (n := 60) (by decide)
  rw [p1] at k1
  rw [p2] at k2
  rw [p3] at k3
  rw [p4] at k4
  exact spans_cut w hp x1 x2 x3 x4 f u0 (f + u0) t0 (t0 - 10) n0 (1 + n0).toNat _ _ r1 s1 r2 s2 r3 s3 r4 s4 p1 p2 p3 p4 (by rw [IntKind.wrap_i64]; omega) (by rw [IntKind.wrap_i64]; omega) (by rw [IntKind.wrap_i64]; omega) ((1 + n0).toNat + 1) rfl (by rw [IntKind.wrap_i64]; omega) (by omega) (by omega) (by omega) rfl rfl
end Go.Proofs.YteeifhlhpiimoaaGreatDoor
end
