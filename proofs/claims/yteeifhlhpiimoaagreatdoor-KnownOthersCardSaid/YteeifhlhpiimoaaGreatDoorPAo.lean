/-
  Contract of the law's sane: it answers true. Condition: the table of powers stands. Decimal digits as lists, the lowest first: plainly. No condition. Contracts of yardstickref03's trim and order. Conditions: digits below 10. Contract of yardstickref03's minus. Conditions: the difference is not negative; at most 100000 digits. Contract of yardstickref03's divided. Conditions: the divisor is not 0; at most 1000 digits. Contracts of yardstickref03's text, checked, FromInt. Conditions: at most 1000 digits. Contracts of yardstickref03's checked, FromInt. Conditions: at most 200 digits; numbers of at most 18 digits. Contract of yardstickref03's digits at decimal texts. Conditions: at most 200 digits.
-/
import Derived.Test.YteeifhlhpiimoaaGreatDoorPAa
import Derived.Test.YteeifhlhpiimoaaGreatDoorPAn
import Derived.Test.YteeifhlhpiimoaaGreatDoorPAc
import Derived.Test.YteeifhlhpiimoaaGreatDoorPAb
import Derived.Test.YteeifhlhpiimoaaGreatDoorPAe
import Derived.Test.YteeifhlhpiimoaaGreatDoorPAi
section
namespace Go.Proofs.YteeifhlhpiimoaaGreatDoor
open Go Go.RowKit Go.Shelf Wr
attribute [local go_sem] Oper.semAt_some
set_option maxRecDepth 100000 in
set_option maxHeartbeats 8000000 in
theorem sane_walk (w : World) (hp : Pow10 w) : Calls Tryz.prog 11 #[] w (ValP w true) := by
 have HF := hZ (St.start hp)
 clear hp
 go_enter Tryz.func11, Tryz.ntmps11
 go_wp2_with (first
  | (go_at_call 48; (with_reducible refine (example_walk _).mono ?_); rintro e2 w2 ⟨bx, rfl, hat, hb⟩; have HF1 := HF.out.step hb; have HF := hZ HF1; have HX := hZ hat; clear hb HF1 hat)
  | (go_at_call 15; (with_reducible refine (knownOf_walk exL 10 (some ⟨bx, 0, none⟩) 8 8 rfl (by decide) _ HX.out exW HF.out.pow).mono ?_); rintro e2 w2 ⟨B10, rfl, hB, hI, hb⟩; have HF1 := (HF.out.step hb).add hB; have HF := hZ HF1; have HI10 : Hid (ExB B10 10) := hZ hI; clear hb hB HF1 hI)
  | (go_at_call 15; (with_reducible refine (knownOf_walk exL 30 (some ⟨bx, 0, none⟩) 8 8 rfl (by decide) _ HX.out exW HF.out.pow).mono ?_); rintro e2 w2 ⟨B30, rfl, hB, hI, hb⟩; have HF1 := (HF.out.step hb).add hB; have HF := hZ HF1; have HI30 : Hid (ExB B30 30) := hZ hI; clear hb hB HF1 hI)
  | (go_at_call 15; (with_reducible refine (knownOf_walk exL 9 (some ⟨bx, 0, none⟩) 8 8 rfl (by decide) _ HX.out exW HF.out.pow).mono ?_); rintro e2 w2 ⟨B9, rfl, hB, hI, hb⟩; have HF1 := (HF.out.step hb).add hB; have HF := hZ HF1; have HI9 : Hid (ExB B9 9) := hZ hI; clear hb hB HF1 hI)
  | ((with_reducible refine wpList_var rfl 36 (.tmp 1) (.tmp 12) rfl rfl (B10.cells.toArray) ?hx ?hy ?hi ?ho ?h1 HF.out ?_); (case hx => rfl); (case hy => rfl); (case hi => exact ibase B10); (case ho => rfl); (case h1 => exact one_base _); intro b1 V hb hst; rw [hb]; have HF := hZ hst; clear hb hst)
  | ((with_reducible refine wpList_var rfl 36 (.tmp 2) (.tmp 14) rfl rfl (B30.cells.toArray) ?hx ?hy ?hi ?ho ?h1 HF.out ?_); (case hx => rfl); (case hy => rfl); (case hi => exact ibase B30); (case ho => rfl); (case h1 => exact one_base _); intro b2 V hb hst; rw [hb]; have HF := hZ hst; clear hb hst)
  | ((with_reducible refine wpList_load_midw ?hw 36 (.tmp 1) rfl b1 0 ?hx B10.cells _ (HF.out.row (b := b1) (cs := B10.cells) (t := 36) (by simp)) Tryz.underlying36 rfl (ibase B10) ?_); (case hw => rfl); (case hx => rfl))
  | ((with_reducible refine wpList_load_midw ?hw 36 (.tmp 2) rfl b2 0 ?hx B30.cells _ (HF.out.row (b := b2) (cs := B30.cells) (t := 36) (by simp)) Tryz.underlying36 rfl (ibase B30) ?_); (case hw => rfl); (case hx => rfl))
  | (go_at_call 27; (with_reducible refine (hist9 (HF.out.bas B9 (by simp)) HI9.out).mono ?_); rintro e2 w2 ⟨v9, rfl, ho, hb⟩; obtain ⟨A9, c9, rfl⟩ := OL.empty ho; have HF1 := HF.out.step hb; have HF := hZ HF1; clear hb HF1 ho)
  | (go_at_call 27; (with_reducible refine (hist10 (HF.out.bas B10 (by simp)) HI10.out).mono ?_); rintro e2 w2 ⟨v9, rfl, ho, hb⟩; obtain ⟨g4, c4, cur4, rfl, hg, hc⟩ := OL.first (n := 1) ho rfl (by decide) (by decide) (x := .int .i64 10) rfl; have HF1 := (HF.out.step hb).put hg; have HF := hZ HF1; have HC4 := hZ hc; clear hb HF1 ho hg hc)
  | (go_at_call 27; (with_reducible refine (hist30 (HF.out.bas B30 (by simp)) HI30.out).mono ?_); rintro e2 w2 ⟨v9, rfl, ho, hb⟩; obtain ⟨g5, c5, cur5, rfl, hg, hc⟩ := OL.first (n := 2) ho rfl (by decide) (by decide) (x := .int .i64 5) rfl; have HF1 := (HF.out.step hb).put hg; have HF := hZ HF1; have HC5 := hZ hc; clear hb HF1 ho hg hc)
  | ((with_reducible refine wpList_var rfl 58 (.tmp 3) (.tmp 17) rfl rfl (#[.string ⟨#[49]⟩, .string ⟨#[49, 48]⟩, .slice A9 0 c9]) ?hx ?hy ?hi ?ho ?h1 HF.out ?_); (case hx => rfl); (case hy => rfl); (case hi => kernel_rfl); (case ho => rfl); (case h1 => exact one_hist _ _ _ rfl); intro b3 V hb hst; rw [hb]; have HF := hZ hst; clear hb hst)
  | ((with_reducible refine wpList_var rfl 58 (.tmp 4) (.tmp 19) rfl rfl (#[.string ⟨#[49]⟩, .string ⟨#[49, 48]⟩, .slice (some ⟨g4, 0, none⟩) 1 c4]) ?hx ?hy ?hi ?ho ?h1 HF.out ?_); (case hx => rfl); (case hy => rfl); (case hi => kernel_rfl); (case ho => rfl); (case h1 => exact one_hist _ _ _ rfl); intro b4 V hb hst; rw [hb]; have HF := hZ hst; clear hb hst)
  | ((with_reducible refine wpList_var rfl 58 (.tmp 5) (.tmp 21) rfl rfl (#[.string ⟨#[49]⟩, .string ⟨#[49, 48]⟩, .slice (some ⟨g5, 0, none⟩) 2 c5]) ?hx ?hy ?hi ?ho ?h1 HF.out ?_); (case hx => rfl); (case hy => rfl); (case hi => kernel_rfl); (case ho => rfl); (case h1 => exact one_hist _ _ _ rfl); intro b5 V hb hst; rw [hb]; have HF := hZ hst; clear hb hst)
  | (go_at_call 23; (with_reducible refine (key101 (HF.out.bas B30 (by simp)) HI30.out).mono ?_); rintro e2 w2 ⟨rfl, hb⟩; have HF1 := HF.out.step hb; have HF := hZ HF1; clear hb HF1)
  | (go_at_call 24; (with_reducible refine (bud30 (HF.out.bas B30 (by simp)) HI30.out).mono ?_); rintro e2 w2 ⟨rfl, hb⟩; have HF1 := HF.out.step hb; have HF := hZ HF1; clear hb HF1)
  | ((with_reducible refine wpList_var rfl 29 (.tmp 8) (.tmp 30) rfl rfl (#[.string ⟨#[51]⟩, .string ⟨#[49]⟩]) ?hx ?hy ?hi ?ho ?h1 HF.out ?_); (case hx => rfl); (case hy => rfl); (case hi => kernel_rfl); (case ho => rfl); (case h1 => simp [Value.oneCell']); intro b8 V hb hst; rw [hb]; have HF := hZ hst; clear hb hst)
  | (go_at_call 49; (with_reducible refine (key49 (HF.out.bas B30 (by simp)) HI30.out).mono ?_); rintro e2 w2 ⟨rfl, hb⟩; have HF1 := HF.out.step hb; have HF := hZ HF1; clear hb HF1)
  | (go_at_call 49; (with_reducible refine (key50 (HF.out.bas B30 (by simp)) HI30.out).mono ?_); rintro e2 w2 ⟨rfl, hb⟩; have HF1 := HF.out.step hb; have HF := hZ HF1; clear hb HF1)
  | (go_at_call 49; (with_reducible refine (key59 (HF.out.bas B30 (by simp)) HI30.out).mono ?_); rintro e2 w2 ⟨rfl, hb⟩; have HF1 := HF.out.step hb; have HF := hZ HF1; clear hb HF1)
  | (go_at_call 49; (with_reducible refine (key60 (HF.out.bas B30 (by simp)) HI30.out).mono ?_); rintro e2 w2 ⟨rfl, hb⟩; have HF1 := HF.out.step hb; have HF := hZ HF1; clear hb HF1)
  | (go_at_call 49; (with_reducible refine (key100 (HF.out.bas B30 (by simp)) HI30.out).mono ?_); rintro e2 wK ⟨rfl, hb⟩; have HF1 := HF.out.step hb; have HF := hZ HF1; clear hb HF1
     have x4 := HF.out.at_.cell (b := b4) (cs := #[.string ⟨#[49]⟩, .string ⟨#[49, 48]⟩, .slice (some ⟨g4, 0, none⟩) 1 c4]) (t := 58) (by simp) (i := 2) rfl
     have x5 := HF.out.at_.cell (b := b5) (cs := #[.string ⟨#[49]⟩, .string ⟨#[49, 48]⟩, .slice (some ⟨g5, 0, none⟩) 2 c5]) (t := 58) (by simp) (i := 2) rfl)
  | fail)
 clear x4 x5
 obtain ⟨L, hst, mb1, mb2, mb3, mb4, mb5, mb8, mg4, mg5⟩ : ∃ L, St w wK L [B9, B30, B10] ∧ (b1, .cells (B10.cells.toArray : Array Value) 36 (0, 0)) ∈ L ∧ (b2, .cells (B30.cells.toArray : Array Value) 36 (0, 0)) ∈ L ∧ (b3, .cells (#[.string ⟨#[49]⟩, .string ⟨#[49, 48]⟩, .slice A9 0 c9] : Array Value) 58 (0, 0)) ∈ L ∧ (b4, .cells (#[.string ⟨#[49]⟩, .string ⟨#[49, 48]⟩, .slice (some ⟨g4, 0, none⟩) 1 c4] : Array Value) 58 (0, 0)) ∈ L ∧ (b5, .cells (#[.string ⟨#[49]⟩, .string ⟨#[49, 48]⟩, .slice (some ⟨g5, 0, none⟩) 2 c5] : Array Value) 58 (0, 0)) ∈ L ∧ (b8, .cells (#[.string ⟨#[51]⟩, .string ⟨#[49]⟩] : Array Value) 29 (0, 0)) ∈ L ∧ (g4, .cells (cur4 : Array Value) 86 (0, 0)) ∈ L ∧ (g5, .cells (cur5 : Array Value) 86 (0, 0)) ∈ L := ⟨_, HF.out, by simp, by simp, by simp, by simp, by simp, by simp, by simp, by simp⟩
 have HMK : Hid (∀ U, St w U L [B9, B30, B10] → St w U L [B9, B30, B10] ∧ U.cell? ⟨b3, 2, none⟩ = some (.slice A9 0 c9) ∧ U.cell? ⟨b4, 2, none⟩ = some (.slice (some ⟨g4, 0, none⟩) 1 c4) ∧ U.cell? ⟨g4, 0, none⟩ = some (.int .i64 10) ∧ U.cell? ⟨b5, 2, none⟩ = some (.slice (some ⟨g5, 0, none⟩) 2 c5) ∧ U.cell? ⟨g5, 0, none⟩ = some (.int .i64 5)) := hZ (fun U h => ⟨h, h.at_.cell mb3 (i := 2) rfl, h.at_.cell mb4 (i := 2) rfl, h.at_.cell mg4 (i := 0) HC4.out, h.at_.cell mb5 (i := 2) rfl, h.at_.cell mg5 (i := 0) HC5.out⟩)
 have HM := hZ (And.intro mb1 (And.intro mb2 (And.intro mb3 mb8)))
 have hS0 := HMK.out _ hst.drew
 clear HF hst mb1 mb2 mb3 mb4 mb5 mb8 mg4 mg5
 refine wp_region_noPanic ?_
 refine wp_region_held_drew (S := fun U => St w U L [B9, B30, B10] ∧ U.cell? ⟨b3, 2, none⟩ = some (.slice A9 0 c9) ∧ U.cell? ⟨b4, 2, none⟩ = some (.slice (some ⟨g4, 0, none⟩) 1 c4) ∧ U.cell? ⟨g4, 0, none⟩ = some (.int .i64 10) ∧ U.cell? ⟨b5, 2, none⟩ = some (.slice (some ⟨g5, 0, none⟩) 2 c5) ∧ U.cell? ⟨g5, 0, none⟩ = some (.int .i64 5)) (by kernel_rfl) hS0 (fun hHeld => ?_)
 obtain ⟨U0, hU0⟩ := oQ (wK.drew)
 rw [hU0] at hHeld ⊢
 clear hU0 hS0
 refine tk 0 ?_
 refine tk 1 ?_
 refine tk 2 ?_
 refine tk 3 ?_
 refine tk 4 ?_
 refine tk 5 ?_
 refine tl 6 rfl (yieldsIf_load_mid (by rfl) 29 (.tmp 69) rfl b3 0 (by rfl) [.string ⟨#[49]⟩, .string ⟨#[49, 48]⟩] _ (fun w hw => fun k u hu => (hw.1.row (cs := [.string ⟨#[49]⟩, .string ⟨#[49, 48]⟩, .slice A9 0 c9]) HM.out.2.2.1) k u (by rcases k with _ | _ | k <;> first | (simp at hu; done) | simpa using hu)) Tryz.underlying29 rfl (by kernel_rfl)) ?_
 refine tk 7 ?_
 refine tl 8 rfl (yields_eql (by rfl) 29 29 (.tmp 70) (.tmp 71) (by rfl) (.agg #[.string ⟨#[49]⟩, .string ⟨#[49, 48]⟩]) (.agg #[.string ⟨#[49]⟩, .string ⟨#[49, 48]⟩]) (by rfl) (by rfl) true (fun w => guard_rat _ _ _ _ w) (fun w => eql_rat _ _ w)) ?_
 refine tk 9 ?_
 refine tk 10 ?_
 refine tk 11 ?_
 refine tk 12 ?_
 refine tk 13 ?_
 refine tk 14 ?_
 refine tk 15 ?_
 refine tk 16 ?_
 refine tk 17 ?_
 refine tk 18 ?_
 refine tk 19 ?_
 refine tk 20 ?_
 refine tk 21 ?_
 refine tk 22 ?_
 refine tk 23 ?_
 refine tk 24 ?_
 refine tk 25 ?_
 refine tk 26 ?_
 refine tk 27 ?_
 refine tk 28 ?_
 refine tk 29 ?_
 refine tl 30 rfl (yieldsIf_load_mid (by rfl) 36 (.tmp 1) rfl b1 0 (by rfl) B10.cells _ (fun w hw => hw.1.row HM.out.1) Tryz.underlying36 rfl (ibase B10)) ?_
 refine tl 31 rfl (yieldsIf_load_mid (by rfl) 36 (.tmp 1) rfl b1 0 (by rfl) B10.cells _ (fun w hw => hw.1.row HM.out.1) Tryz.underlying36 rfl (ibase B10)) ?_
 refine rd [32] ?_
 refine rcE fun K hK => ?_
 go_simp
 (with_reducible refine (same_self (hHeld.1.bas B10 (by simp))).mono ?_)
 rintro e5 U5 ⟨rfl, hb5⟩
 have HH := hZ (hHeld.1.step hb5)
 clear hb5
 refine kk hK (HMK.out _ HH.out) (fun hHeld => ?_)
 clear hK K
 refine tk 33 ?_
 refine tk 34 ?_
 refine tl 35 rfl (yieldsIf_load_mid (by rfl) 36 (.tmp 1) rfl b1 0 (by rfl) B10.cells _ (fun w hw => hw.1.row HM.out.1) Tryz.underlying36 rfl (ibase B10)) ?_
 refine tl 36 rfl (yieldsIf_load_mid (by rfl) 36 (.tmp 2) rfl b2 0 (by rfl) B30.cells _ (fun w hw => hw.1.row HM.out.2.1) Tryz.underlying36 rfl (ibase B30)) ?_
 refine rd [37] ?_
 refine rcE fun K hK => ?_
 go_simp
 (with_reducible refine (same_not (hHeld.1.bas B10 (by simp)) (hHeld.1.bas B30 (by simp)) HI10.out HI30.out).mono ?_)
 rintro e5 U5 ⟨rfl, hb5⟩
 have HH := hZ (hHeld.1.step hb5)
 clear hb5
 refine kk hK (HMK.out _ HH.out) (fun hHeld => ?_)
 clear hK K
 refine tk 38 ?_
 refine tk 39 ?_
 refine tk 40 ?_
 refine tk 41 ?_
 refine tk 42 ?_
 refine tk 43 ?_
 refine tl 44 rfl (yieldsIf_load_mid (by rfl) 29 (.tmp 8) rfl b8 0 (by rfl) [.string ⟨#[51]⟩, .string ⟨#[49]⟩] _ (fun w hw => hw.1.row HM.out.2.2.2) Tryz.underlying29 rfl (by kernel_rfl)) ?_
 refine rd [45] ?_
 refine rcE fun K hK => ?_
 go_simp
 (with_reducible refine (n_walk _ _).mono ?_)
 rintro e5 U5 ⟨rfl, hb5⟩
 have HH := hZ (hHeld.1.step hb5)
 clear hb5
 refine kk hK (HMK.out _ HH.out) (fun hHeld => ?_)
 clear hK K
 refine tl 46 rfl (yields_eql (by rfl) 29 29 (.tmp 108) (.tmp 109) (by rfl) (.agg #[.string ⟨#[51]⟩, .string ⟨#[49]⟩]) (.agg #[.string ⟨#[51]⟩, .string ⟨#[49]⟩]) (by rfl) (by rfl) true (fun w => guard_rat _ _ _ _ w) (fun w => eql_rat _ _ w)) ?_
 refine tk 47 ?_
 refine tk 48 ?_
 refine tl 49 rfl (yieldsIf_load_mid (by rfl) 36 (.tmp 2) rfl b2 0 (by rfl) B30.cells _ (fun w hw => hw.1.row HM.out.2.1) Tryz.underlying36 rfl (ibase B30)) ?_
 refine rd [50, 51] ?_
 refine rc (fun K hK => ?_) ?_
 ·
  go_simp
  (with_reducible refine (cust30 (hHeld.1.bas B30 (by simp)) HI30.out).mono ?_)
  rintro e7 U7 ⟨v7, rfl, ho7, hb7⟩
  obtain ⟨A7, c7, hv7, -, -⟩ := ho7.slice
  have hv7' : v7 = .slice A7 1 c7 := hv7
  subst hv7'
  have HR7 : Hid (RowAt U7 (one iv) 1 A7 [9]) := hZ (RowAt.of_ol (fun _ => rfl) ho7)
  have HH := hZ (hHeld.1.step hb7)
  clear ho7 hv7 hb7
  refine kk hK (HMK.out _ HH.out) (fun hHeld => ?_)
  clear hK K
  refine rd [51] ?_
  refine rcE fun K hK => ?_
  go_simp
  have hbl9 := below_new U7 (.cells #[.int .i64 9] 3)
  have hn9 := World.alloc_heap_new U7 (.cells #[.int .i64 9] 3)
  obtain ⟨b9, hb9⟩ := oQ (U7.heap.size)
  obtain ⟨V9, hV9⟩ := oQ (U7.alloc (.cells #[.int .i64 9] 3))
  have HH := hZ (hHeld.1.step hbl9)
  have HR7 : Hid (RowAt V9 (one iv) 1 A7 [9]) := hZ (by rw [← hV9]; exact HR7.out.below hbl9)
  rw [hV9] at hn9 HH ⊢
  rw [hb9] at hn9 ⊢
  have HR9 : Hid (RowAt V9 (one iv) 1 (some ⟨b9, 0, none⟩) [9]) := hZ (RowAt.of_block (fun _ => rfl) hn9)
  clear hbl9 hn9 hb9 hV9
  refine kk hK (HMK.out _ HH.out) (fun hHeld => ?_)
  clear hK K
  refine rd [52] ?_
  refine rcE fun K hK => ?_
  go_simp
  (with_reducible refine (sameInts9 HR7.out HR9.out).mono ?_)
  rintro e8 U8 ⟨rfl, hb8⟩
  have HH := hZ (hHeld.1.step hb8)
  clear hb8
  refine kk hK (HMK.out _ HH.out) (fun hHeld => ?_)
  clear hK K
  refine tk 53 ?_
  refine tk 54 ?_
  refine dn ?_
  clear hHeld
  go_wp2
  go_ret
  exact ⟨rfl, HH.out.at_.below⟩
 refine rcE fun K hK => ?_
 go_simp
 have hbl9 := below_new U5 (.cells #[.int .i64 9] 3)
 have hn9 := World.alloc_heap_new U5 (.cells #[.int .i64 9] 3)
 obtain ⟨b9, hb9⟩ := oQ (U5.heap.size)
 obtain ⟨V9, hV9⟩ := oQ (U5.alloc (.cells #[.int .i64 9] 3))
 have HH := hZ (hHeld.1.step hbl9)
 rw [hV9] at hn9 HH ⊢
 rw [hb9] at hn9 ⊢
 have HR9 : Hid (RowAt V9 (one iv) 1 (some ⟨b9, 0, none⟩) [9]) := hZ (RowAt.of_block (fun _ => rfl) hn9)
 clear hbl9 hn9 hb9 hV9
 refine kk hK (HMK.out _ HH.out) (fun hHeld => ?_)
 clear hK K
 refine rd [50] ?_
 refine rcE fun K hK => ?_
 go_simp
 (with_reducible refine (cust30 (hHeld.1.bas B30 (by simp)) HI30.out).mono ?_)
 rintro e7 U7 ⟨v7, rfl, ho7, hb7⟩
 obtain ⟨A7, c7, hv7, -, -⟩ := ho7.slice
 have hv7' : v7 = .slice A7 1 c7 := hv7
 subst hv7'
 have HR7 : Hid (RowAt U7 (one iv) 1 A7 [9]) := hZ (RowAt.of_ol (fun _ => rfl) ho7)
 have HH := hZ (hHeld.1.step hb7)
 have HR9 := hZ (HR9.out.below hb7)
 clear ho7 hv7 hb7
 refine kk hK (HMK.out _ HH.out) (fun hHeld => ?_)
 clear hK K
 refine rd [52] ?_
 refine rcE fun K hK => ?_
 go_simp
 (with_reducible refine (sameInts9 HR7.out HR9.out).mono ?_)
 rintro e8 U8 ⟨rfl, hb8⟩
 have HH := hZ (hHeld.1.step hb8)
 clear hb8
 refine kk hK (HMK.out _ HH.out) (fun hHeld => ?_)
 clear hK K
 refine tk 53 ?_
 refine tk 54 ?_
 refine dn ?_
 clear hHeld
 go_wp2
 go_ret
 exact ⟨rfl, HH.out.at_.below⟩
end Go.Proofs.YteeifhlhpiimoaaGreatDoor
end
section
namespace Go.Proofs.YteeifhlhpiimoaaGreatDoor
open Go
def dv : List Nat → Nat
 | [] => 0
 | d :: l => d + 10 * dv l
def dg (n : Nat) : List Nat := if n = 0 then [] else n % 10 :: dg (n / 10)
termination_by n
decreasing_by omega
def Dgs (l : List Nat) : Prop := ∀ d ∈ l, d < 10
theorem dg_zero : dg 0 = [] := by rw [dg, if_pos rfl]
theorem dg_pos {n : Nat} (h : 0 < n) : dg n = n % 10 :: dg (n / 10) := by rw [dg, if_neg (by omega)]
theorem dv_dg (n : Nat) : dv (dg n) = n := by
 induction n using Nat.strongRecOn with
 | ind n ih =>
   rcases Nat.eq_zero_or_pos n with rfl | h
   · rw [dg_zero]; rfl
   · rw [dg_pos h, dv, ih (n / 10) (by omega)]; omega
theorem dg_dgs (n : Nat) : Dgs (dg n) := by
 induction n using Nat.strongRecOn with
 | ind n ih =>
   rcases Nat.eq_zero_or_pos n with rfl | h
   · rw [dg_zero]; intro d hd; cases hd
   · rw [dg_pos h]
     intro d hd
     rcases List.mem_cons.1 hd with rfl | hd
     · omega
     · exact ih (n / 10) (by omega) d hd
theorem dv_app (l m : List Nat) : dv (l ++ m) = dv l + 10 ^ l.length * dv m := by
 induction l with
 | nil => simp [dv]
 | cons d l ih => rw [List.cons_append, dv, ih, dv, List.length_cons, Nat.pow_succ, Nat.mul_add, Nat.mul_comm (10 ^ l.length) 10, Nat.mul_assoc]; omega
theorem Dgs.tail {d : Nat} {l : List Nat} (h : Dgs (d :: l)) : Dgs l := fun x hx => h x (by simp [hx])
theorem Dgs.take {l : List Nat} (h : Dgs l) (k : Nat) : Dgs (l.take k) := fun x hx => h x (List.mem_of_mem_take hx)
theorem Dgs.drop {l : List Nat} (h : Dgs l) (k : Nat) : Dgs (l.drop k) := fun x hx => h x (List.mem_of_mem_drop hx)
theorem Dgs.app {l m : List Nat} (h : Dgs l) (h2 : Dgs m) : Dgs (l ++ m) := fun x hx => (List.mem_append.1 hx).elim (h x) (h2 x)
theorem dv_lt {l : List Nat} (h : Dgs l) : dv l < 10 ^ l.length := by
 induction l with
 | nil => simp [dv]
 | cons d l ih =>
   have h1 := ih h.tail
   have h2 := h d (by simp)
   rw [dv, List.length_cons, Nat.pow_succ]; omega
theorem dg_dv {l : List Nat} (h : Dgs l) (hl : ∀ d ∈ l.getLast?, d ≠ 0) : dg (dv l) = l := by
 induction l with
 | nil => exact dg_zero
 | cons d l ih =>
   have h2 := h d (by simp)
   have h3 : 0 < dv (d :: l) := by
    rw [dv]
    cases l with
    | nil => have := hl d (by simp); omega
    | cons e l =>
      have hl' : ∀ x ∈ (e :: l).getLast?, x ≠ 0 := fun x hx => hl x (by rw [List.getLast?_cons_cons]; exact hx)
      have := ih h.tail hl'
      rcases Nat.eq_zero_or_pos (dv (e :: l)) with q | q
      · rw [q, dg_zero] at this; cases this
      · omega
   rw [dg_pos h3, dv]
   have e1 : (d + 10 * dv l) % 10 = d := by omega
   have e2 : (d + 10 * dv l) / 10 = dv l := by omega
   rw [e1, e2]
   cases l with
   | nil => rw [dv, dg_zero]
   | cons e l => rw [ih h.tail (fun x hx => hl x (by rw [List.getLast?_cons_cons]; exact hx))]
theorem dg_last (n : Nat) : ∀ d ∈ (dg n).getLast?, d ≠ 0 := by
 induction n using Nat.strongRecOn with
 | ind n ih =>
   rcases Nat.eq_zero_or_pos n with rfl | h
   · rw [dg_zero]; intro d hd; cases hd
   · rw [dg_pos h]
     rcases Nat.lt_or_ge n 10 with q | q
     · rw [show n / 10 = 0 by omega, dg_zero]
       intro d hd
       simp at hd; omega
     · rw [dg_pos (show 0 < n / 10 by omega), List.getLast?_cons_cons, ← dg_pos (show 0 < n / 10 by omega)]
       exact ih (n / 10) (by omega)
theorem dv_zeros {l : List Nat} (h : ∀ d ∈ l, d = 0) : dv l = 0 := by
 induction l with
 | nil => rfl
 | cons d l ih => rw [dv, ih (fun x hx => h x (by simp [hx])), h d (by simp)]
theorem trim_spec {l : List Nat} {k : Nat} (h : Dgs l) (hz : ∀ d ∈ l.drop k, d = 0) (hl : k = 0 ∨ ∀ d, l[k - 1]? = some d → d ≠ 0) (hk : k ≤ l.length) : l.take k = dg (dv l) := by
 have e : dv l = dv (l.take k) := by
  conv => lhs; rw [← List.take_append_drop k l]
  rw [dv_app, dv_zeros hz]; omega
 rw [e, dg_dv (h.take k)]
 intro d hd
 rcases hl with rfl | hl
 · simp at hd
 · refine hl d ?_
   have hd' : (l.take k).getLast? = some d := hd
   rw [List.getLast?_eq_getElem?, List.length_take, Nat.min_eq_left hk, List.getElem?_take] at hd'
   split at hd'
   · exact hd'
   · cases hd'
theorem dg_len_lt {a b : Nat} (h : (dg a).length < (dg b).length) : a < b := by
 rcases Nat.lt_or_ge a b with q | q
 · exact q
 · exfalso
   have h1 := dv_lt (dg_dgs a)
   rw [dv_dg] at h1
   have h2 : 10 ^ ((dg b).length - 1) ≤ b := by
    have hl := dg_last b
    have hp : 0 < (dg b).length := by omega
    have hs : dg b = (dg b).take ((dg b).length - 1) ++ (dg b).drop ((dg b).length - 1) := (List.take_append_drop _ _).symm
    have hdl : (dg b).drop ((dg b).length - 1) = [(dg b)[(dg b).length - 1]] := by
     rw [List.drop_eq_getElem_cons (by omega)]
     rw [List.drop_of_length_le (by omega)]
    have hv : dv (dg b) = dv ((dg b).take ((dg b).length - 1)) + 10 ^ ((dg b).length - 1) * (dg b)[(dg b).length - 1] := by
     conv => lhs; rw [hs, hdl]
     rw [dv_app]
     simp [dv]
    rw [dv_dg] at hv
    have hne : (dg b)[(dg b).length - 1] ≠ 0 := hl _ (by rw [List.getLast?_eq_getElem?, List.getElem?_eq_getElem (by omega)]; rfl)
    have : 10 ^ ((dg b).length - 1) * 1 ≤ 10 ^ ((dg b).length - 1) * (dg b)[(dg b).length - 1] := Nat.mul_le_mul_left _ (by omega)
    omega
   have h3 : 10 ^ (dg a).length ≤ 10 ^ ((dg b).length - 1) := Nat.pow_le_pow_right (by omega) (by omega)
   omega
theorem dg_len_mono {a b : Nat} (h : a ≤ b) : (dg a).length ≤ (dg b).length := by
 rcases Nat.lt_or_ge (dg b).length (dg a).length with q | q
 · have := dg_len_lt q; omega
 · exact q
theorem dg_len_le {n k : Nat} (h : n < 10 ^ k) : (dg n).length ≤ k := by
 rcases Nat.lt_or_ge k (dg n).length with q | q
 · exfalso
   induction k generalizing n with
   | zero => simp at h; subst h; rw [dg_zero] at q; simp at q
   | succ k ih =>
     rcases Nat.eq_zero_or_pos n with rfl | hp
     · rw [dg_zero] at q; simp at q
     · rw [dg_pos hp, List.length_cons] at q
       rw [Nat.pow_succ] at h
       exact ih (n := n / 10) (by omega) (by omega)
 · exact q
theorem ord_lt {a b : List Nat} {i x y : Nat} (ha : Dgs a) (hd : a.drop (i + 1) = b.drop (i + 1)) (hx : a[i]? = some x) (hy : b[i]? = some y) (h : x < y) : dv a < dv b := by
 have split : ∀ {l : List Nat} {z : Nat}, l[i]? = some z → l = l.take i ++ (z :: l.drop (i + 1)) := fun {l z} hz => by
  obtain ⟨h1, h2⟩ := List.getElem?_eq_some_iff.1 hz
  rw [← h2, ← List.drop_eq_getElem_cons h1, List.take_append_drop]
 have la : (a.take i).length = i := by rw [List.length_take]; have := (List.getElem?_eq_some_iff.1 hx).1; omega
 have lb : (b.take i).length = i := by rw [List.length_take]; have := (List.getElem?_eq_some_iff.1 hy).1; omega
 have ea : dv a = dv (a.take i) + 10 ^ i * (x + 10 * dv (a.drop (i + 1))) := by
  conv => lhs; rw [split hx]
  rw [dv_app, la, dv]
 have eb : dv b = dv (b.take i) + 10 ^ i * (y + 10 * dv (a.drop (i + 1))) := by
  conv => lhs; rw [split hy]
  rw [dv_app, lb, dv, hd]
 have h1 := dv_lt (ha.take i)
 rw [la] at h1
 have h3 : 10 ^ i * ((x + 1) + 10 * dv (a.drop (i + 1))) ≤ 10 ^ i * (y + 10 * dv (a.drop (i + 1))) := Nat.mul_le_mul_left _ (by omega)
 rw [show x + 1 + 10 * dv (a.drop (i + 1)) = (x + 10 * dv (a.drop (i + 1))) + 1 by omega, Nat.mul_add, Nat.mul_one] at h3
 omega
theorem take_dv {l : List Nat} {i x : Nat} (hx : l[i]? = some x) : dv (l.take (i + 1)) = dv (l.take i) + 10 ^ i * x := by
 obtain ⟨h1, h2⟩ := List.getElem?_eq_some_iff.1 hx
 rw [List.take_add_one, hx, dv_app, List.length_take, Nat.min_eq_left (by omega)]
 simp [dv]
theorem minus_step {a b o : List Nat} {i x y c d c' : Nat} (h : dv o + dv (b.take i) = dv (a.take i) + c * 10 ^ i) (ho : o.length = i) (hx : a[i]? = some x) (hy : b[i]? = some y ∨ b.length ≤ i ∧ y = 0) (hd : d + y + c = x + 10 * c') : dv (o ++ [d]) + dv (b.take (i + 1)) = dv (a.take (i + 1)) + c' * 10 ^ (i + 1) := by
 have eb : dv (b.take (i + 1)) = dv (b.take i) + 10 ^ i * y := by
  rcases hy with hy | ⟨h1, rfl⟩
  · exact take_dv hy
  · rw [List.take_of_length_le (by omega), List.take_of_length_le h1]; omega
 rw [eb, take_dv hx, dv_app, ho, Nat.pow_succ]
 simp only [dv, Nat.mul_zero, Nat.add_zero]
 have e := congrArg (10 ^ i * ·) hd
 simp only [Nat.mul_add] at e
 have e3 : c' * (10 ^ i * 10) = 10 ^ i * (10 * c') := by rw [← Nat.mul_assoc, Nat.mul_comm c', Nat.mul_assoc, Nat.mul_comm c']
 rw [e3]
 rw [Nat.mul_comm c] at h
 omega
theorem minus_end {a b o : List Nat} {c : Nat} (h : dv o + dv (b.take a.length) = dv (a.take a.length) + c * 10 ^ a.length) (ho : o.length = a.length) (hd : Dgs o) (hb : b.length ≤ a.length) (hle : dv b ≤ dv a) : dv o = dv a - dv b := by
 rw [List.take_of_length_le hb, List.take_of_length_le (Nat.le_refl _)] at h
 have h1 := dv_lt hd
 rw [ho] at h1
 rcases Nat.eq_zero_or_pos c with rfl | hc
 · omega
 · have : 1 * 10 ^ a.length ≤ c * 10 ^ a.length := Nat.mul_le_mul_right _ hc
   omega
def digB (d : Nat) : UInt8 := UInt8.ofNat (48 + d)
theorem decS_dg {n : Nat} (h : 0 < n) : decS n = ((dg n).map digB).reverse := by
 induction n using Nat.strongRecOn with
 | ind n ih =>
   rw [dg_pos h, List.map_cons, List.reverse_cons]
   rcases Nat.lt_or_ge n 10 with q | q
   · rw [decS_lt q, show n / 10 = 0 by omega, dg_zero, show n % 10 = n by omega]; rfl
   · rw [decS_ge q, ih (n / 10) (by omega) (by omega)]; rfl
theorem decS_len_dg (n : Nat) : (decS n).length = max 1 (dg n).length := by
 rcases Nat.eq_zero_or_pos n with rfl | h
 · rw [decS_lt (by decide), dg_zero]; rfl
 · rw [decS_dg h, List.length_reverse, List.length_map, dg_pos h, List.length_cons]; omega
end Go.Proofs.YteeifhlhpiimoaaGreatDoor
end
section
namespace Go.Proofs.YteeifhlhpiimoaaGreatDoor
open Go Go.RowKit Go.Shelf
attribute [local go_sem] Oper.semAt_some
set_option maxHeartbeats 2000000 in
theorem rtrim_walk (A : Option Addr) (c : Nat) (l : List Nat) (n : Nat) (hn : l.length = n) (hc : n ≤ c) (hcm : c ≤ maxLen) (hc0 : A = none → c = 0) (w : World) (h : LAt w w.heap.size A nv l) (hd : Dgs l) :
 Calls Tryz.prog 257 #[.slice A n c] w fun e w' => (∃ v, e = .returned v ∧ LsAt w v (dg (dv l)) ∧ ∀ B, Fresh B (.slice A n c) → Fresh B v) ∧ w' = w := by
 have hAe : ∀ k, k ≤ n → (∀ d ∈ l.drop k, d = 0) → (k = 0 ∨ ∀ d, l[k - 1]? = some d → d ≠ 0) → LsAt w (.slice A k c) (dg (dv l)) := fun k hk h1 h2 => by
  rw [← trim_spec hd h1 h2 (by omega)]
  exact ⟨A, c, by simp; omega, by simp; omega, hcm, hc0, h.take k⟩
 have HE := hZ hAe
 have H := hZ h
 have HN := hZ hn
 clear h hn hAe hc0 hd
 unfold maxLen at hcm
 go_enter Tryz.func257, Tryz.ntmps257
 go_wp2_with fail
 go_loop [0] (fun v => ∃ k : Nat, k ≤ n ∧ v = .slice A k c ∧ Hid (∀ d ∈ l.drop k, d = 0)) (fun v => match v with | .slice _ k _ => k | _ => 0)
 case atStart => exact ⟨n, Nat.le_refl _, rfl, hZ (by rw [List.drop_of_length_le (by rw [HN.out]; exact Nat.le_refl _)]; simp)⟩
 case round =>
  obtain ⟨k, hk, rfl, HT⟩ := hrel
  rcases Nat.eq_zero_or_pos k with rfl | h0
  · have d1 : decide ((0 : Int) < ((0 : Nat) : Int)) = false := by decide
    go_wp2_with fail
    go_ret
    refine ⟨⟨_, rfl, ?_, fun B h => h.cut⟩, rfl⟩
    exact HE.out 0 (by omega) HT.out (.inl rfl)
  · obtain ⟨m, rfl⟩ : ∃ m, k = m + 1 := ⟨k - 1, by omega⟩
    have hm : m < l.length := by rw [HN.out]; omega
    obtain ⟨a, rfl, hab, hac⟩ := H.out.get hm
    unfold nv at hac
    obtain ⟨x, hx⟩ := oQ (l[m])
    rw [hx] at hac
    have HX : Hid (l[m]? = some x) := hZ (by rw [← hx]; exact List.getElem?_eq_getElem hm)
    have d1 : decide ((0 : Int) < ((m + 1 : Nat) : Int)) = true := by simp
    have w1 : IntKind.i64.wrap (((m + 1 : Nat) : Int) - 1) = (m : Int) := by rw [IntKind.wrap_i64]; omega
    have z1 : (0 : Int) ≤ (m : Int) := by omega
    have z2 : (m : Int) < ((m + 1 : Nat) : Int) := by omega
    clear hx
    by_cases hx0 : x = 0
    · subst hx0
      go_wp2_with fail
      go_round
      case rel => exact ⟨m, by omega, rfl, hZ (by rw [List.drop_eq_getElem_cons hm, (List.getElem?_eq_some_iff.1 HX.out).2]; intro d hd; rcases List.mem_cons.1 hd with rfl | hd; rfl; exact HT.out d hd)⟩
      case measure => simp
    · have d2 : ((x : Int) == 0) = false := by simp; exact hx0
      go_wp2_with fail
      go_ret
      refine ⟨⟨_, rfl, ?_, fun B h => h.cut⟩, rfl⟩
      exact HE.out (m + 1) (by omega) HT.out (.inr fun d hd => by rw [Nat.add_sub_cancel, HX.out] at hd; cases hd; exact hx0)
def IntV (w : World) (z : Int) (e : Ending) (w' : World) : Prop := e = .returned (.int .i64 z) ∧ Below w.heap.size w w'
def ordZ (a b : Nat) : Int := if a < b then -1 else if b < a then 1 else 0
theorem ordZ_lt {a b : Nat} (h : a < b) : ordZ a b = -1 := if_pos h
theorem ordZ_gt {a b : Nat} (h : b < a) : ordZ a b = 1 := by unfold ordZ; rw [if_neg (by omega), if_pos h]
theorem ordZ_self (a : Nat) : ordZ a a = 0 := by unfold ordZ; rw [if_neg (by omega), if_neg (by omega)]
set_option maxRecDepth 100000 in
set_option maxHeartbeats 2000000 in
theorem rorder_walk (a b : Nat) (v1 v2 : Value) (w : World) (h1 : LsAt w v1 (dg a)) (h2 : LsAt w v2 (dg b)) :
 Calls Tryz.prog 218 #[v1, v2] w (IntV w (ordZ a b)) := by
 obtain ⟨A, c, rfl, hc1, hc2, hc3, hA⟩ := h1
 obtain ⟨B, d, rfl, hd1, hd2, hd3, hB⟩ := h2
 have HA := hZ hA
 have HB := hZ hB
 obtain ⟨n, hn⟩ := oQ ((dg a).length)
 obtain ⟨k, hk⟩ := oQ ((dg b).length)
 have HN := hZ hn
 have HK := hZ hk
 rw [hn, hk]
 have hn1 : n ≤ 9223372036854775807 := by unfold maxLen at hc2; omega
 by_cases hnk : n = k
 · subst hnk
   clear hn hk hA hB hc1 hc2 hc3 hd1 hd2 hd3
   have d0 : ((n : Int) != (n : Int)) = false := by simp
   obtain ⟨z, hz⟩ := oQ (IntKind.i64.wrap ((n : Int) - 1))
   have hzz : z = (n : Int) - 1 := by rw [← hz, IntKind.wrap_i64]; omega
   have HZ := hZ hzz
   clear hzz
   go_enter Tryz.func218, Tryz.ntmps218
   go_wp2_with fail
   go_loopw [5] (fun v wr => (∃ k : Nat, k ≤ n ∧ v = .int .i64 ((k : Int) - 1) ∧ Hid ((dg a).drop k = (dg b).drop k)) ∧ Below w.heap.size w wr) (fun v _ => match v with | .int _ k => (k + 1).toNat | _ => 0)
   case atStart => exact ⟨⟨n, Nat.le_refl _, by rw [HZ.out], hZ (by rw [List.drop_of_length_le (by rw [HN.out]; omega), List.drop_of_length_le (by rw [HK.out]; omega)])⟩, Below.refl _ _⟩
   case round =>
    obtain ⟨⟨k, hk, rfl, HT⟩, hBB⟩ := hrel
    have HBB := hZ hBB
    clear hBB
    rcases Nat.eq_zero_or_pos k with rfl | h0
    · have d1 : decide ((0 : Int) ≤ ((0 : Nat) : Int) - 1) = false := by decide
      go_wp2_with fail
      go_ret
      have e : a = b := by have := congrArg dv HT.out; rw [List.drop_zero, List.drop_zero, dv_dg, dv_dg] at this; exact this
      subst e
      rw [ordZ_self]
      exact ⟨rfl, HBB.out⟩
    · obtain ⟨m, rfl⟩ : ∃ m, k = m + 1 := ⟨k - 1, by omega⟩
      have e1 : ((m + 1 : Nat) : Int) - 1 = (m : Int) := by omega
      rw [e1]
      have hm : m < (dg a).length := by rw [HN.out]; omega
      have hm2 : m < (dg b).length := by rw [HK.out]; omega
      obtain ⟨p, rfl, hpb, hpc⟩ := HA.out.get hm
      obtain ⟨q, rfl, hqb, hqc⟩ := HB.out.get hm2
      unfold nv at hpc hqc
      obtain ⟨x, hx⟩ := oQ ((dg a)[m])
      obtain ⟨y, hy⟩ := oQ ((dg b)[m])
      rw [hx] at hpc
      rw [hy] at hqc
      have HX : Hid ((dg a)[m]? = some x) := hZ (by rw [← hx]; exact List.getElem?_eq_getElem hm)
      have HY : Hid ((dg b)[m]? = some y) := hZ (by rw [← hy]; exact List.getElem?_eq_getElem hm2)
      have hS0 : wr.drew.cell? (p.add m) = some (.int .i64 x) ∧ wr.drew.cell? (q.add m) = some (.int .i64 y) := ⟨(HBB.out.cell (p := p.add m) (by rw [addr_add_block]; exact hpb)).trans hpc, (HBB.out.cell (p := q.add m) (by rw [addr_add_block]; exact hqb)).trans hqc⟩
      have d1 : decide ((0 : Int) ≤ (m : Int)) = true := by simp
      obtain ⟨z', hz'⟩ := oQ (IntKind.i64.wrap ((m : Int) - 1))
      have hzz : z' = (m : Int) - 1 := by rw [← hz', IntKind.wrap_i64]; omega
      have HZ' := hZ hzz
      have z1 : (0 : Int) ≤ (m : Int) := by omega
      have z2 : (m : Int) < (n : Int) := by omega
      clear hzz hpc hqc hx hy e1
      obtain ⟨g, hg⟩ := oQ (((x : Int) != (y : Int)))
      go_wp2_with fail
      refine wp_region_noPanic ?_
      refine wp_region_held_drew (S := fun U => U.cell? (p.add m) = some (.int .i64 x) ∧ U.cell? (q.add m) = some (.int .i64 y)) (by kernel_rfl) hS0 (fun hHeld => ?_)
      refine tk 0 ?_
      refine tk 1 ?_
      refine tk 2 ?_
      refine tk 3 ?_
      refine tk 4 ?_
      refine tk 5 ?_
      refine tk 6 ?_
      refine tk 7 ?_
      refine tk 8 ?_
      refine dn ?_
      have HBd : Hid (Below w.heap.size w wr.drew) := hZ (Below.drew HBB.out)
      clear hHeld
      cases g
      · have hxy : x = y := by have h := hg; simp at h; omega
        have ht : (dg a).drop m = (dg b).drop m := by
         rw [List.drop_eq_getElem_cons hm, List.drop_eq_getElem_cons hm2, (List.getElem?_eq_some_iff.1 HX.out).2, (List.getElem?_eq_some_iff.1 HY.out).2, hxy, HT.out]
        have HTT := hZ ht
        clear ht hxy
        go_wp2
        go_round
        case rel => exact ⟨⟨m, by omega, by rw [HZ'.out], HTT⟩, HBd.out⟩
        case measure => rw [HZ'.out]; simp
      · have hS1 : wr.drew.drew.cell? (p.add m) = some (.int .i64 x) ∧ wr.drew.drew.cell? (q.add m) = some (.int .i64 y) := hS0
        obtain ⟨g2, hg2⟩ := oQ (decide ((x : Int) < (y : Int)))
        have HG2 := hZ hg2
        have HG := hZ hg
        clear hg2 hS0
        have hg2' : decide (x < y) = g2 := by rw [← HG2.out]; simp
        go_wp2_with fail
        refine wp_region_noPanic ?_
        refine wp_region_held_drew (S := fun U => U.cell? (p.add m) = some (.int .i64 x) ∧ U.cell? (q.add m) = some (.int .i64 y)) (by kernel_rfl) hS1 (fun hHeld => ?_)
        refine tk 0 ?_
        refine tk 1 ?_
        refine tk 2 ?_
        refine tk 3 ?_
        refine tk 4 ?_
        refine tk 5 ?_
        refine tk 6 ?_
        refine tk 7 ?_
        refine tk 8 ?_
        refine dn ?_
        have HBd2 : Hid (Below w.heap.size w wr.drew.drew) := hZ (Below.drew HBd.out)
        clear hHeld
        cases g2
        · go_wp2
          go_ret
          have hlt : y < x := by
           have h1 := HG2.out
           have h2 := HG.out
           simp at h1 h2
           omega
          have := ord_lt (dg_dgs b) HT.out.symm HY.out HX.out hlt
          rw [dv_dg, dv_dg] at this
          rw [ordZ_gt this]
          exact ⟨rfl, HBd2.out⟩
        · go_wp2
          go_ret
          have hlt : x < y := by
           have h1 := HG2.out
           simp at h1
           omega
          have := ord_lt (dg_dgs a) HT.out HX.out HY.out hlt
          rw [dv_dg, dv_dg] at this
          rw [ordZ_lt this]
          exact ⟨rfl, HBd2.out⟩
 · have d0 : ((n : Int) != (k : Int)) = true := by simp; omega
   rcases Nat.lt_or_ge n k with hlt | hge
   · have d1 : decide (n < k) = true := by simp [hlt]
     have hab : a < b := dg_len_lt (by omega)
     rw [ordZ_lt hab]
     clear hn hk hA hB HA HB
     go_enter Tryz.func218, Tryz.ntmps218
     go_wp2
     go_ret
     exact ⟨rfl, Below.refl _ _⟩
   · have d1 : decide (n < k) = false := by simp; omega
     have hab : b < a := dg_len_lt (by omega)
     rw [ordZ_gt hab]
     clear hn hk hA hB HA HB
     go_enter Tryz.func218, Tryz.ntmps218
     go_wp2
     go_ret
     exact ⟨rfl, Below.refl _ _⟩
def DgP (w : World) (n : Nat) (e : Ending) (w' : World) : Prop := ∃ v, e = .returned v ∧ LsAt w' v (dg n) ∧ Fresh w.heap.size v ∧ Below w.heap.size w w'
set_option maxRecDepth 100000 in
set_option maxHeartbeats 4000000 in
theorem rminus_walk (a b : Nat) (hab : b ≤ a) (v1 v2 : Value) (w : World) (h1 : LsAt w v1 (dg a)) (h2 : LsAt w v2 (dg b)) (ha : (dg a).length ≤ 100000) :
 Calls Tryz.prog 223 #[v1, v2] w (DgP w (a - b)) := by
 obtain ⟨A, c, rfl, hc1, hc2, hc3, hA⟩ := h1
 obtain ⟨B, d, rfl, hd1, hd2, hd3, hB⟩ := h2
 have HA := hZ hA
 have HB := hZ hB
 obtain ⟨n, hn⟩ := oQ ((dg a).length)
 obtain ⟨k, hk⟩ := oQ ((dg b).length)
 have HN := hZ hn
 have HK := hZ hk
 have HKN : Hid (k ≤ n) := hZ (by rw [← hn, ← hk]; exact dg_len_mono hab)
 have HAB := hZ hab
 rw [hn] at ha
 rw [hn, hk]
 have HN1 := hZ ha
 clear hn hk hA hB hc1 hc2 hc3 hd1 hd2 hd3 hab
 go_enter Tryz.func223, Tryz.ntmps223
 go_wp2_with fail
 go_loopw [5, 6, 7] (fun v cv iv wr => ∃ (i c : Nat) (o : List Nat), iv = .int .i64 (i : Int) ∧ cv = .int .i64 (c : Int) ∧ i ≤ n ∧ c ≤ 1 ∧ Hid (o.length = i) ∧ Hid (Dgs o ∧ dv o + dv ((dg b).take i) = dv ((dg a).take i) + c * 10 ^ i) ∧ Hid (IntL wr w.heap.size v o) ∧ Hid (Below w.heap.size w wr)) (fun _ _ i _ => n - (intOf i).toNat)
 case atStart => exact ⟨0, 0, [], rfl, rfl, Nat.zero_le _, Nat.zero_le _, hZ rfl, hZ ⟨fun d hd => (by cases hd), (by simp [dv])⟩, hZ OL.nil, hZ (Below.refl _ _)⟩
 case round =>
  obtain ⟨i, c, o, rfl, rfl, hi, hc, HO, HI, HOL, HBB⟩ := hrel
  by_cases hlt : i < n
  · have hm : i < (dg a).length := by rw [HN.out]; exact hlt
    obtain ⟨p, rfl, hpb, hpc⟩ := HA.out.get hm
    unfold nv at hpc
    obtain ⟨x, hx⟩ := oQ ((dg a)[i])
    rw [hx] at hpc
    have HX : Hid ((dg a)[i]? = some x) := hZ (by rw [← hx]; exact List.getElem?_eq_getElem hm)
    have hx9 : x < 10 := dg_dgs a x (List.mem_of_getElem? HX.out)
    have hpc2 : wr.cell? (p.add i) = some (.int .i64 x) := (HBB.out.cell (p := p.add i) (by rw [addr_add_block]; exact hpb)).trans hpc
    have d1 : decide (i < n) = true := by simp [hlt]
    have z1 : (0 : Int) ≤ (i : Int) := by omega
    have z2 : (i : Int) < (n : Int) := by omega
    have w1 : IntKind.i64.wrap ((i : Int) + 1) = ((i + 1 : Nat) : Int) := by have := HN1.out; rw [IntKind.wrap_i64]; omega
    have HBs := hZ HBB.out.size
    have HST : Hid (∀ y d c', ((dg b)[i]? = some y ∨ (dg b).length ≤ i ∧ y = 0) → d + y + c = x + 10 * c' → d < 10 → Dgs (o ++ [d]) ∧ dv (o ++ [d]) + dv ((dg b).take (i + 1)) = dv ((dg a).take (i + 1)) + c' * 10 ^ (i + 1)) :=
     hZ fun y d c' hy hd hd9 => ⟨HI.out.1.app (fun z hz => by rw [List.mem_singleton.1 hz]; exact hd9), minus_step HI.out.2 HO.out HX.out hy hd⟩
    clear hpc hpb hx hm
    by_cases hik : i < k
    · have hm2 : i < (dg b).length := by rw [HK.out]; exact hik
      obtain ⟨q, rfl, hqb, hqc⟩ := HB.out.get hm2
      unfold nv at hqc
      obtain ⟨y, hy⟩ := oQ ((dg b)[i])
      rw [hy] at hqc
      have HY : Hid ((dg b)[i]? = some y) := hZ (by rw [← hy]; exact List.getElem?_eq_getElem hm2)
      have hy9 : y < 10 := dg_dgs b y (List.mem_of_getElem? HY.out)
      have hqc2 : wr.cell? (q.add i) = some (.int .i64 y) := (HBB.out.cell (p := q.add i) (by rw [addr_add_block]; exact hqb)).trans hqc
      have d2 : decide (i < k) = true := by simp [hik]
      have z3 : (i : Int) < (k : Int) := by omega
      obtain ⟨s, hs⟩ : ∃ s : Int, (x : Int) - (c : Int) = s := ⟨_, rfl⟩
      have ws : IntKind.i64.wrap ((x : Int) - (c : Int)) = s := by rw [IntKind.wrap_i64]; omega
      clear hqc hqb hy hm2
      by_cases hneg : s - (y : Int) < 0
      · obtain ⟨d, hd⟩ : ∃ d : Nat, s - (y : Int) + 10 = (d : Int) := ⟨(s - (y : Int) + 10).toNat, by omega⟩
        obtain ⟨t, ht⟩ : ∃ t : Int, s - (y : Int) = t := ⟨_, rfl⟩
        have wt : IntKind.i64.wrap (s - (y : Int)) = t := by rw [IntKind.wrap_i64]; omega
        have wd : IntKind.i64.wrap (t + 10) = (d : Int) := by rw [IntKind.wrap_i64]; omega
        have b1 : decide (t < 0) = true := by simp; omega
        have HN2 := hZ (HST.out y d 1 (.inl HY.out) (by omega) (by omega))
        clear hs ht hd hneg hx9 hy9
        go_wp2_with (first
         | (at_builtin; refine wpList_app rfl (.tmp 35) (.tmp 37) 23 rfl elemInt _ _ i HO.out rfl (HOL.out.alloc _) d wr.heap.size #[.int .i64 d] rfl ?hc rfl rfl (by simp [one, nv, Value.oneCell']) (by have := HO.out; have := HN1.out; unfold maxLen; omega) (by have := HO.out; have := HN1.out; omega) (by have := HBs.out; simp; omega) ?_; (case hc => exact World.alloc_heap_new _ _); intro g3 c3 w3 h3 _ _ _ hb3)
         | fail)
        go_roundw
        case rel => exact ⟨i + 1, 1, _, by go_num, rfl, by omega, by omega, hZ (by rw [List.length_append, HO.out]; rfl), hZ HN2.out, hZ h3, hZ ((HBB.out.alloc HBs.out _).trans hb3)⟩
        case measure => simp [intOf]; omega
      · obtain ⟨d, hd⟩ : ∃ d : Nat, s - (y : Int) = (d : Int) := ⟨(s - (y : Int)).toNat, by omega⟩
        have wt : IntKind.i64.wrap (s - (y : Int)) = (d : Int) := by rw [IntKind.wrap_i64]; omega
        have b1 : decide ((d : Int) < 0) = false := by simp
        have HN2 := hZ (HST.out y d 0 (.inl HY.out) (by omega) (by omega))
        clear hs hd hneg hx9 hy9
        go_wp2_with (first
         | (at_builtin; refine wpList_app rfl (.tmp 35) (.tmp 37) 23 rfl elemInt _ _ i HO.out rfl (HOL.out.alloc _) d wr.heap.size #[.int .i64 d] rfl ?hc rfl rfl (by simp [one, nv, Value.oneCell']) (by have := HO.out; have := HN1.out; unfold maxLen; omega) (by have := HO.out; have := HN1.out; omega) (by have := HBs.out; simp; omega) ?_; (case hc => exact World.alloc_heap_new _ _); intro g3 c3 w3 h3 _ _ _ hb3)
         | fail)
        go_roundw
        case rel => exact ⟨i + 1, 0, _, by go_num, rfl, by omega, by omega, hZ (by rw [List.length_append, HO.out]; rfl), hZ HN2.out, hZ h3, hZ ((HBB.out.alloc HBs.out _).trans hb3)⟩
        case measure => simp [intOf]; omega
    · have d2 : decide (i < k) = false := by simp; omega
      have HY : Hid ((dg b).length ≤ i) := hZ (by rw [HK.out]; omega)
      by_cases hneg : (x : Int) - (c : Int) < 0
      · obtain ⟨t, ht⟩ : ∃ t : Int, (x : Int) - (c : Int) = t := ⟨_, rfl⟩
        obtain ⟨d, hd⟩ : ∃ d : Nat, t + 10 = (d : Int) := ⟨(t + 10).toNat, by omega⟩
        have wt : IntKind.i64.wrap ((x : Int) - (c : Int)) = t := by rw [IntKind.wrap_i64]; omega
        have wd : IntKind.i64.wrap (t + 10) = (d : Int) := by rw [IntKind.wrap_i64]; omega
        have b1 : decide (t < 0) = true := by simp; omega
        have HN2 := hZ (HST.out 0 d 1 (.inr ⟨HY.out, rfl⟩) (by omega) (by omega))
        clear ht hd hneg hx9
        go_wp2_with (first
         | (at_builtin; refine wpList_app rfl (.tmp 35) (.tmp 37) 23 rfl elemInt _ _ i HO.out rfl (HOL.out.alloc _) d wr.heap.size #[.int .i64 d] rfl ?hc rfl rfl (by simp [one, nv, Value.oneCell']) (by have := HO.out; have := HN1.out; unfold maxLen; omega) (by have := HO.out; have := HN1.out; omega) (by have := HBs.out; simp; omega) ?_; (case hc => exact World.alloc_heap_new _ _); intro g3 c3 w3 h3 _ _ _ hb3)
         | fail)
        go_roundw
        case rel => exact ⟨i + 1, 1, _, by go_num, rfl, by omega, by omega, hZ (by rw [List.length_append, HO.out]; rfl), hZ HN2.out, hZ h3, hZ ((HBB.out.alloc HBs.out _).trans hb3)⟩
        case measure => simp [intOf]; omega
      · obtain ⟨d, hd⟩ : ∃ d : Nat, (x : Int) - (c : Int) = (d : Int) := ⟨((x : Int) - (c : Int)).toNat, by omega⟩
        have wt : IntKind.i64.wrap ((x : Int) - (c : Int)) = (d : Int) := by rw [IntKind.wrap_i64]; omega
        have b1 : decide ((d : Int) < 0) = false := by simp
        have HN2 := hZ (HST.out 0 d 0 (.inr ⟨HY.out, rfl⟩) (by omega) (by omega))
        clear hd hneg hx9
        go_wp2_with (first
         | (at_builtin; refine wpList_app rfl (.tmp 35) (.tmp 37) 23 rfl elemInt _ _ i HO.out rfl (HOL.out.alloc _) d wr.heap.size #[.int .i64 d] rfl ?hc rfl rfl (by simp [one, nv, Value.oneCell']) (by have := HO.out; have := HN1.out; unfold maxLen; omega) (by have := HO.out; have := HN1.out; omega) (by have := HBs.out; simp; omega) ?_; (case hc => exact World.alloc_heap_new _ _); intro g3 c3 w3 h3 _ _ _ hb3)
         | fail)
        go_roundw
        case rel => exact ⟨i + 1, 0, _, by go_num, rfl, by omega, by omega, hZ (by rw [List.length_append, HO.out]; rfl), hZ HN2.out, hZ h3, hZ ((HBB.out.alloc HBs.out _).trans hb3)⟩
        case measure => simp [intOf]; omega
  · have d1 : decide (i < n) = false := by simp; omega
    obtain rfl : i = n := by omega
    have hval : dv o = a - b := by
     have h := HI.out.2
     rw [← HN.out] at h
     have := minus_end h (by rw [HO.out, HN.out]) HI.out.1 (by rw [HN.out, HK.out]; exact HKN.out) (by rw [dv_dg, dv_dg]; exact HAB.out)
     rw [dv_dg, dv_dg] at this
     exact this
    have HV := hZ hval
    have HFR := hZ HOL.out.fresh
    obtain ⟨A', c', rfl, q1, q2, q3, q4⟩ := LsAt.of_ol HOL.out
    have HT := hZ (rtrim_walk A' c' o o.length rfl q1 q2 q3 wr q4 HI.out.1)
    clear q1 q2 q3 q4 hval hi hlt
    obtain ⟨m, hm⟩ := oQ (o.length)
    rw [hm] at HT HFR HOL ⊢
    clear hm
    go_wp2_with (first
     | (go_at_call 257; refine HT.out.mono ?_; rintro e w2 ⟨⟨v2, rfl, hv2, hf2⟩, rfl⟩; have HV2 := hZ hv2; have HF2 := hZ hf2; clear hv2 hf2)
     | fail)
    go_ret
    exact ⟨_, rfl, by rw [← HV.out]; exact HV2.out, HF2.out _ HFR.out, HBB.out⟩
def QuoP (w : World) (q r : Nat) (e : Ending) (w' : World) : Prop := ∃ vq vr, e = .returned (.tuple #[vq, vr]) ∧ LsAt w' vq (dg q) ∧ LsAt w' vr (dg r) ∧ Fresh w.heap.size vq ∧ Fresh w.heap.size vr ∧ Below w.heap.size w w'
theorem mkInts (n : Nat) (hn : n ≤ 1000000) (w : World) : (Instr.makeSlice 23 (.int .i64 (n : Int)) (.int .i64 (n : Int))).run Tryz.prog w = .ok (.slice (some ⟨w.heap.size, 0, none⟩) n n) (w.alloc (.cells (madeCells #[.int .i64 0] n) 3)) :=
 run_make_row' (P := Tryz.prog) 23 3 (.int .i64 0) 8 Tryz.underlying23 (by kernel_rfl) rfl .i64 .i64 n (by omega) (by omega) w
theorem made_ol (n : Nat) (hn : n ≤ 1000000) (w : World) : IntL (w.alloc (.cells (madeCells #[.int .i64 0] n) 3)) w.heap.size (.slice (some ⟨w.heap.size, 0, none⟩) n n) (List.replicate n 0) := by
 have hs : (madeCells #[.int .i64 0] n).size = n := by have := congrArg List.length (made_nums n); simpa using this
 refine ⟨by rw [flatMap_one]; simp, .inr ⟨w.heap.size, n, _, by simp, Nat.le_refl _, World.alloc_heap_new w _, by simp, by unfold maxLen; omega, by rw [hs]; omega, ?_⟩⟩
 rw [made_nums, flatMap_one, List.take_of_length_le (by simp)]
theorem OL.storedN {w : World} {B g n c : Nat} {l : List Nat} (h : IntL w B (.slice (some ⟨g, 0, none⟩) n c) l) (j u : Nat) : IntL (w.setCell ⟨g, j, none⟩ (.int .i64 (u : Int))) B (.slice (some ⟨g, 0, none⟩) n c) (l.set j u) := by
 have hn := h.len.1
 subst hn
 have h1 := (World.ownsRow.stored h j (nv u)).1
 unfold IntL OL
 rw [List.length_set, flatMap_one, List.map_set, ← flatMap_one]
 exact h1
theorem set_mid {m : Nat} {c d : Nat} {qs : List Nat} : (List.replicate m 0 ++ c :: qs).set m d = List.replicate m 0 ++ d :: qs := by
 rw [List.set_append_right _ _ (by simp)]; simp
theorem get_mid {m : Nat} {c : Nat} {qs : List Nat} : (List.replicate m 0 ++ c :: qs)[m]? = some c := by
 rw [List.getElem?_append_right (by simp)]; simp
theorem row_mid {w : World} {B g n m q : Nat} {qs : List Nat} (h : IntL w B (.slice (some ⟨g, 0, none⟩) n n) (List.replicate m 0 ++ q :: qs)) : w.cell? ⟨g, m, none⟩ = some (.int .i64 (q : Int)) ∧ w.frozen? ⟨g, m, none⟩ = false :=
 ⟨h.getq get_mid, World.ownsRow.frozenAt (cap := n) (by have := h.len.1; subst this; exact h) m⟩
def toTen (w : World) (g m : Nat) : Nat := match w.cell? ⟨g, m, none⟩ with | some (.int _ z) => 10 - z.toNat | _ => 0
theorem toTen_of {w : World} {g m c : Nat} (h : w.cell? ⟨g, m, none⟩ = some (.int .i64 (c : Int))) : toTen w g m = 10 - c := by unfold toTen; rw [h]; simp
theorem drop_dv {x m d : Nat} (h : (dg x)[m]? = some d) : dv ((dg x).drop m) = d + 10 * dv ((dg x).drop (m + 1)) := by
 obtain ⟨h1, h2⟩ := List.getElem?_eq_some_iff.1 h
 rw [List.drop_eq_getElem_cons h1, h2, dv]
set_option maxRecDepth 100000 in
set_option maxHeartbeats 4000000 in
theorem rdivided_walk (x y : Nat) (hy : 0 < y) (v1 v2 : Value) (w : World) (h1 : LsAt w v1 (dg x)) (h2 : LsAt w v2 (dg y)) (hx : (dg x).length ≤ 1000) (hyl : (dg y).length ≤ 1000) :
 Calls Tryz.prog 220 #[v1, v2] w (QuoP w (x / y) (x % y)) := by
 obtain ⟨A, c, rfl, hc1, hc2, hc3, hA⟩ := h1
 have H2 := hZ h2
 have HA := hZ hA
 obtain ⟨n, hn⟩ := oQ ((dg x).length)
 have HN := hZ hn
 rw [hn] at hx ⊢
 have HN1 := hZ hx
 have HY := hZ hy
 have HYL := hZ hyl
 obtain ⟨g, hg⟩ := oQ (w.heap.size)
 have hol := made_ol n (by omega) w
 have hmk := mkInts n (by omega) w
 obtain ⟨W1, hW1⟩ := oQ (w.alloc (.cells (madeCells #[.int .i64 0] n) 3))
 have hb1 : Below w.heap.size w W1 := by rw [← hW1]; exact below_new w _
 have hs1 : W1.heap.size = w.heap.size + 1 := by rw [← hW1]; exact World.size_alloc w _
 rw [hW1] at hol hmk
 rw [hg] at hol hmk hb1 hs1
 have HOL1 := hZ hol
 have HB1 := hZ hb1
 have HS1 := hZ hs1
 have HG := hZ hg
 obtain ⟨z, hz⟩ := oQ (IntKind.i64.wrap ((n : Int) - 1))
 have hzz : z = (n : Int) - 1 := by rw [← hz, IntKind.wrap_i64]; omega
 have HZ := hZ hzz
 clear hzz hn hA h2 hc1 hc2 hc3 hx hy hyl hol hW1 hb1 hs1 hg
 go_enter Tryz.func220, Tryz.ntmps220
 go_wp2_with fail
 clear hmk
 go_loopw [7, 8] (fun rv iv wr => ∃ (k : Nat) (qs : List Nat) (R : Nat), iv = .int .i64 ((k : Int) - 1) ∧ k ≤ n ∧ Hid (IntL wr g (.slice (some ⟨g, 0, none⟩) n n) (List.replicate k 0 ++ qs)) ∧ Hid (Dgs qs ∧ dv qs * y + R = dv ((dg x).drop k) ∧ R < y) ∧ Hid (LsAt wr rv (dg R) ∧ Fresh (g + 1) rv) ∧ Hid (Below g w wr ∧ g < wr.heap.size)) (fun _ i _ => (intOf i + 1).toNat)
 case atStart => exact ⟨n, [], 0, by rw [HZ.out], Nat.le_refl _, hZ (by rw [List.append_nil]; exact HOL1.out), hZ ⟨fun d hd => (by cases hd), by rw [List.drop_of_length_le (by rw [HN.out]; omega)]; simp [dv], HY.out⟩, hZ ⟨by rw [dg_zero]; exact LsAt.nil _, Fresh.nil _⟩, hZ ⟨HB1.out, by rw [HS1.out]; omega⟩⟩
 case round =>
  clear HOL1 HB1 HS1 HZ hz
  obtain ⟨k, qs, R, rfl, hk, HOL, HI, HR, HBB⟩ := hrel
  rcases Nat.eq_zero_or_pos k with rfl | h0
  · have d1 : decide ((0 : Int) ≤ ((0 : Nat) : Int) - 1) = false := by decide
    have hI := HI.out
    rw [List.drop_zero, dv_dg] at hI
    have hq : dv qs = x / y := by rw [← hI.2.1, Nat.mul_comm, Nat.mul_add_div HY.out, Nat.div_eq_of_lt hI.2.2]; omega
    have hr : R = x % y := by rw [← hI.2.1, Nat.mul_comm, Nat.mul_add_mod, Nat.mod_eq_of_lt hI.2.2]
    have HQ := hZ hq
    have HRR := hZ hr
    have hol := HOL.out
    rw [List.replicate_zero, List.nil_append] at hol
    have hl := hol.len.1
    have HOLQ := hZ hol
    have hls := LsAt.of_ol hol
    obtain ⟨A', c', e', q1, q2, q3, q4⟩ := hls
    injection e' with e1 e2 e3
    subst e1 e3
    have HT := hZ (rtrim_walk (some ⟨g, 0, none⟩) n qs n e2.symm (by omega) q2 q3 wr q4 hI.1)
    have HF := hZ hol.fresh
    clear hI hq hr hol hl q1 q2 q3 q4 e2 HOL HI
    go_wp2_with (first
     | (go_at_call 257; refine HT.out.mono ?_; rintro e w2 ⟨⟨v2, rfl, hv2, hf2⟩, rfl⟩; have HV2 := hZ hv2; have HF2 := hZ hf2; clear hv2 hf2)
     | fail)
    go_ret2
    exact ⟨_, _, rfl, by rw [← HQ.out]; exact HV2.out, by rw [← HRR.out]; exact HR.out.1, by rw [HG.out]; exact HF2.out _ HF.out, by rw [HG.out]; exact HR.out.2.base (by omega), by rw [HG.out]; exact HBB.out.1⟩
  · obtain ⟨m, rfl⟩ : ∃ m, k = m + 1 := ⟨k - 1, by omega⟩
    have e1 : ((m + 1 : Nat) : Int) - 1 = (m : Int) := by omega
    rw [e1]
    have hm : m < (dg x).length := by rw [HN.out]; omega
    obtain ⟨p, rfl, hpb, hpc⟩ := HA.out.get hm
    unfold nv at hpc
    obtain ⟨d, hd⟩ := oQ ((dg x)[m])
    rw [hd] at hpc
    have HX : Hid ((dg x)[m]? = some d) := hZ (by rw [← hd]; exact List.getElem?_eq_getElem hm)
    have hd9 : d < 10 := dg_dgs x d (List.mem_of_getElem? HX.out)
    have hpc2 : wr.cell? (p.add m) = some (.int .i64 d) := (HBB.out.1.cell (p := p.add m) (by rw [addr_add_block, ← HG.out]; exact hpb)).trans hpc
    have d1 : decide ((0 : Int) ≤ (m : Int)) = true := by simp
    have z1 : (0 : Int) ≤ (m : Int) := by omega
    have z2 : (m : Int) < (n : Int) := by omega
    obtain ⟨z', hz'⟩ := oQ (IntKind.i64.wrap ((m : Int) - 1))
    have hzz : z' = (m : Int) - 1 := by have := HN1.out; rw [← hz', IntKind.wrap_i64]; omega
    have HZ' := hZ hzz
    obtain ⟨T, hT⟩ := oQ (d + 10 * R)
    have HT : Hid (T < 10 * y ∧ dv (d :: dg R) = T ∧ dv ((dg x).drop m) = dv qs * y * 10 + T) := hZ ⟨by have := HI.out.2.2; omega, by rw [dv, dv_dg]; exact hT, by rw [drop_dv HX.out, ← HI.out.2.1]; omega⟩
    have HD : Hid (Dgs (d :: dg R)) := hZ fun q hq => by
     rcases List.mem_cons.1 hq with rfl | hq
     · exact hd9
     · exact dg_dgs R q hq
    have HOLm : Hid (IntL wr g (.slice (some ⟨g, 0, none⟩) n n) (List.replicate m 0 ++ 0 :: qs)) := hZ (by
     have := HOL.out
     rwa [List.replicate_succ', List.append_assoc] at this)
    have HMN : Hid (m < n) := hZ (by omega)
    have hRl : (dg R).length ≤ 1000 := Nat.le_trans (dg_len_mono (Nat.le_of_lt HI.out.2.2)) HYL.out
    have HRL := hZ hRl
    obtain ⟨Ar, cr, rfl, r1, r2, r3, r4⟩ := HR.out.1
    have HAR := hZ r4
    obtain ⟨rl, hrl⟩ := oQ ((dg R).length)
    have HRLN := hZ hrl
    rw [hrl]
    clear hpc hpb hd hm hzz hT e1 hRl r1 r2 r4 HOL hrl
    go_wp2_with (first
     | (at_builtin; refine wpList_cat rfl (.tmp 23) (.tmp 24) 23 rfl elemInt (fun _ => rfl) _ [d] rfl (OL.lit1N (B := wr.heap.size) wr d (Nat.le_refl _)) Ar (dg R) rl cr HRLN.out rfl r3 (HAR.out.catN (below_new wr _)) (fun x _ u hu => by rw [List.mem_singleton.1 hu]; rfl) (by have := HRL.out; have := HRLN.out; unfold maxLen; simp; omega) (by have := HRL.out; have := HRLN.out; simp; omega) (by simp) ?_; intro v3 w3 h3 _ hb3; have HB3 := hZ ((below_new wr _).trans hb3); have HO3 := hZ h3; clear h3 hb3)
     | fail)
    obtain ⟨A3, c3, rfl, q1, q2, q3, q4⟩ := LsAt.of_ol HO3.out
    have HTR := hZ (rtrim_walk A3 c3 _ _ rfl q1 q2 q3 w3 q4 HD.out)
    have HF3 := hZ HO3.out.fresh
    obtain ⟨l3, hl3⟩ := oQ (([d] ++ dg R).length)
    rw [hl3]
    have HL3 := hZ hl3
    clear q1 q2 q3 q4 hl3
    go_wp2_with (first
     | (go_at_call 257; refine (show Calls _ _ #[.slice A3 l3 c3] w3 _ from by rw [← HL3.out]; exact HTR.out).mono ?_; rintro e w4 ⟨⟨v4, rfl, hv4, hf4⟩, rfl⟩; have HV4 := hZ hv4; have HF4 := hZ hf4; clear hv4 hf4)
     | fail)
    have HR4 : Hid (LsAt w4 v4 (dg T) ∧ Fresh (g + 1) v4) := hZ ⟨by have := HV4.out; rw [List.singleton_append, HT.out.2.1] at this; exact this, (HF4.out _ HF3.out).base HBB.out.2⟩
    have HO4 : Hid (IntL w4 g (.slice (some ⟨g, 0, none⟩) n n) (List.replicate m 0 ++ 0 :: qs)) := hZ (HOLm.out.below HB3.out (Nat.le_refl _))
    have HB4 : Hid (Below g w w4 ∧ g < w4.heap.size) := hZ ⟨HBB.out.1.trans (HB3.out.mono (Nat.le_of_lt HBB.out.2)), Nat.lt_of_lt_of_le HBB.out.2 HB3.out.size⟩
    clear HV4 HF4 HF3 HB3 HO3 HTR HBB HOLm HR HAR HRL HRLN r3 HL3 hpc2
    go_loopw [7] (fun rv wr => ∃ (vv : Value) (q R' : Nat), vv = rv ∧ R' + q * y = T ∧ Hid (IntL wr g (.slice (some ⟨g, 0, none⟩) n n) (List.replicate m 0 ++ q :: qs)) ∧ Hid (LsAt wr rv (dg R') ∧ Fresh (g + 1) rv) ∧ Hid (Below g w wr ∧ g < wr.heap.size)) (fun _ wr => toTen wr g m)
    case atStart => exact ⟨v4, 0, T, rfl, by omega, HO4.out, HR4.out, HB4.out⟩
    case round =>
     clear HO4 HR4 HB4
     obtain ⟨rv, q, R', rfl, hq, HO, HR, HB⟩ := hrel
     have H2r := hZ (H2.out.below (by have := HB.out.1; rwa [← HG.out] at this))
     have HQT := hZ hq
     have hq9 : q < 10 := by
      rcases Nat.lt_or_ge q 10 with h | h
      · exact h
      · have := Nat.mul_le_mul_right y h
        have := HT.out.1
        omega
     have HQ9 := hZ hq9
     clear hq hq9
     by_cases hlt : R' < y
     · have HORD : Hid (Calls Tryz.prog 218 #[rv, v2] wr (IntV wr (-1))) := hZ (by rw [← ordZ_lt hlt]; exact rorder_walk R' y rv v2 wr HR.out.1 H2r.out)
       have d2 : decide ((0 : Int) ≤ -1) = false := by decide
       have HLT := hZ hlt
       clear hlt
       go_wp2_with (first
        | (go_at_call 218; refine HORD.out.mono ?_; rintro e w5 ⟨rfl, hb5⟩; have HB5 := hZ hb5; clear hb5)
        | fail)
       go_roundw
       case rel => exact ⟨m, q :: qs, R', by rw [HZ'.out], by have := HMN.out; omega, hZ (HO.out.below HB5.out (Nat.le_refl _)),
        hZ ⟨fun a ha => (by rcases List.mem_cons.1 ha with rfl | ha; exact HQ9.out; exact HI.out.1 a ha), by rw [HT.out.2.2, ← HQT.out, dv, Nat.add_mul, Nat.mul_assoc 10, Nat.mul_comm 10]; omega, HLT.out⟩,
        hZ ⟨HR.out.1.below HB5.out, HR.out.2⟩, hZ ⟨HB.out.1.trans (HB5.out.mono (Nat.le_of_lt HB.out.2)), Nat.lt_of_lt_of_le HB.out.2 HB5.out.size⟩⟩
       case measure => rw [HZ'.out]; simp [intOf]
     · have hle : y ≤ R' := by omega
       have hz0 : 0 ≤ ordZ R' y := by unfold ordZ; rw [if_neg hlt]; split <;> omega
       obtain ⟨zz, hzz⟩ := oQ (ordZ R' y)
       rw [hzz] at hz0
       have HORD : Hid (Calls Tryz.prog 218 #[rv, v2] wr (IntV wr zz)) := hZ (by rw [← hzz]; exact rorder_walk R' y rv v2 wr HR.out.1 H2r.out)
       have d2 : decide ((0 : Int) ≤ zz) = true := by simp [hz0]
       have HLE := hZ hle
       have HRl : Hid ((dg R').length ≤ 100000) := hZ (by
        have h1 := HT.out.1
        have h2 : R' ≤ T := by have := HQT.out; omega
        have h3 := dv_lt (dg_dgs y)
        rw [dv_dg] at h3
        have h4 := HYL.out
        have : (dg R').length ≤ (dg y).length + 1 := dg_len_le (by rw [Nat.pow_succ]; omega)
        omega)
       have wq : IntKind.i64.wrap ((q : Int) + 1) = ((q + 1 : Nat) : Int) := by have := HQ9.out; rw [IntKind.wrap_i64]; omega
       clear hlt hle hz0 hzz
       go_wp2_with (first
        | (go_at_call 218; refine HORD.out.mono ?_; rintro e w5 ⟨rfl, hb5⟩; have HB5 := hZ hb5; clear hb5; have HM := hZ (rminus_walk R' y HLE.out rv v2 w5 (HR.out.1.below HB5.out) (H2r.out.below HB5.out) HRl.out))
        | (go_at_call 223; refine HM.out.mono ?_; rintro e w6 ⟨v6, rfl, hv6, hf6, hb6⟩; have HV6 := hZ hv6; have HF6 := hZ hf6; have HB6 := bTr HB5 hb6; clear hb6 hv6 hf6; have HO6 := hZ (HO.out.below HB6.out (Nat.le_refl _)); obtain ⟨x1, x2⟩ := row_mid HO6.out)
        | fail)
       have HO7 := hZ (HO6.out.storedN m (q + 1))
       go_roundw
       case rel => exact ⟨_, q + 1, R' - y, rfl, by have := HLE.out; have := HQT.out; rw [Nat.add_mul]; omega, hZ (by have := HO7.out; rwa [set_mid] at this),
        hZ ⟨LsAt.set HV6.out (B := g + 1) (HF6.out.base (by have := HB.out.2; have := HB5.out.size; omega)) ⟨g, m, none⟩ (Nat.lt_succ_self g) _, HF6.out.base (by have := HB.out.2; have := HB5.out.size; omega)⟩,
        hZ ⟨(HB.out.1.trans (HB6.out.mono (Nat.le_of_lt HB.out.2))).setCell (Nat.le_refl _) _, by simp [World.setCell]; exact Nat.lt_of_lt_of_le HB.out.2 HB6.out.size⟩⟩
       case measure =>
        rw [toTen_of (row_mid HO.out).1, toTen_of (c := q + 1) (by have h := HO7.out; rw [set_mid] at h; exact (row_mid h).1)]
        have := HQ9.out; omega
theorem elemU : Elem Tryz.prog 116 5 1 1 := Elem.mk' (z := .int .u8 0) Tryz.underlying116 (by kernel_rfl) rfl (by decide)
theorem digB_val {d : Nat} (h : d < 10) : bv (digB d) = .int .u8 ((48 + d : Nat) : Int) := by unfold bv digB; rw [toNat_dig h]
def txtL (neg : Bool) (n : Nat) : List UInt8 := if n = 0 then [48] else (if neg then [45] else []) ++ decS n
def txtB (neg : Bool) (n : Nat) : ByteArray := ⟨(txtL neg n).toArray⟩
theorem txt_int (z : Int) : txtL (decide (z < 0)) z.natAbs = intS z := by
 unfold txtL intS
 by_cases h0 : z.natAbs = 0
 · rw [if_pos h0, if_neg (by omega), h0, decS_lt (by decide)]; rfl
 · rw [if_neg h0]
   by_cases h : z < 0
   · simp [h]
   · simp [h]
def TxP (w : World) (neg : Bool) (n : Nat) (e : Ending) (w' : World) : Prop := e = .returned (.tuple #[.string (txtB neg n), .bool (decide ((dg n).length ≤ 200))]) ∧ Below w.heap.size w w'
theorem up_step {n m d : Nat} {pre : List UInt8} (h : (dg n)[m]? = some d) : pre ++ (((dg n).drop m).map digB).reverse = (pre ++ (((dg n).drop (m + 1)).map digB).reverse) ++ [digB d] := by
 obtain ⟨h1, h2⟩ := List.getElem?_eq_some_iff.1 h
 rw [List.drop_eq_getElem_cons h1, h2, List.map_cons, List.reverse_cons, List.append_assoc]
set_option maxRecDepth 100000 in
set_option maxHeartbeats 4000000 in
theorem rtext_walk (neg : Bool) (n : Nat) (v : Value) (w : World) (h : LsAt w v (dg n)) (hl : (dg n).length ≤ 1000) : Calls Tryz.prog 155 #[.bool neg, v] w (TxP w neg n) := by
 obtain ⟨A, c, rfl, hc1, hc2, hc3, hA⟩ := h
 have HA := hZ hA
 obtain ⟨k, hk⟩ := oQ ((dg n).length)
 have HK := hZ hk
 rw [hk] at hl ⊢
 have HKL := hZ hl
 unfold TxP
 rw [hk]
 clear hA hc1 hc2 hc3 hl
 rcases Nat.eq_zero_or_pos n with rfl | h0
 · obtain rfl : k = 0 := by rw [← hk, dg_zero]; rfl
   clear hk
   have e : txtB neg 0 = ⟨#[48]⟩ := rfl
   rw [e]
   go_enter Tryz.func155, Tryz.ntmps155
   go_wp2
   go_ret2
   exact ⟨rfl, Below.refl _ _⟩
 · have hk0 : 0 < k := by rw [← hk, dg_pos h0]; simp
   clear hk
   obtain ⟨pre, hpre⟩ : ∃ pre : List UInt8, pre = (if neg then [45] else []) := ⟨_, rfl⟩
   have htx : txtB neg n = ⟨(pre ++ ((dg n).map digB).reverse).toArray⟩ := by
    unfold txtB txtL; rw [if_neg (by omega), decS_dg h0, hpre]
   rw [htx]
   have hpl : pre.length ≤ 1 := by rw [hpre]; split <;> simp
   have HPL := hZ hpl
   obtain ⟨z, hz⟩ := oQ (IntKind.i64.wrap ((k : Int) - 1))
   have hzz : z = (k : Int) - 1 := by have := HKL.out; rw [← hz, IntKind.wrap_i64]; omega
   have HZ := hZ hzz
   have d0 : ((k : Int) == 0) = false := by simp; omega
   have dl : decide ((k : Int) ≤ 200) = decide (k ≤ 200) := by rw [decide_eq_decide]; omega
   obtain ⟨fits, hfits⟩ := oQ (decide (k ≤ 200))
   have HFT := hZ hfits
   rw [hfits] at dl ⊢
   clear htx hzz hpl hk0 hfits
   cases neg
   all_goals simp only [Bool.false_eq_true, if_true, if_false] at hpre
   all_goals have HPRE := hZ hpre
   all_goals clear hpre
   all_goals go_enter Tryz.func155, Tryz.ntmps155
   all_goals go_wp2_with (first
    | (at_builtin; refine wpList_app rfl (.tmp 12) (.tmp 13) 116 rfl elemU _ ([] : List UInt8) 0 rfl rfl ((OL.nil (f := one bv) (B := w.heap.size)).alloc _) 45 w.heap.size #[.int .u8 45] rfl ?hc rfl rfl (by simp [one, bv, Value.oneCell']) (by unfold maxLen; simp) (by simp) (by simp) ?_; (case hc => exact World.alloc_heap_new _ _); intro g3 c3 w3 h3 _ _ _ hb3; have HO3 : Hid (OL w3 w.heap.size 5 1 (one bv) _ pre) := hZ (by rw [HPRE.out]; exact h3); have HB3 := hZ ((below_new w _).trans hb3); clear h3 hb3)
    | fail)
   have HO3 : Hid (OL w w.heap.size 5 1 (one bv) (.slice none 0 0) pre) := hZ (by rw [HPRE.out]; exact OL.nil)
   have HB3 := hZ (Below.refl w.heap.size w)
   all_goals
    go_loopw [6, 7] (fun v iv wr => ∃ (vv : Value) (j : Nat), vv = v ∧ iv = .int .i64 ((j : Int) - 1) ∧ j ≤ k ∧ Hid (OL wr w.heap.size 5 1 (one bv) vv (pre ++ (((dg n).drop j).map digB).reverse)) ∧ Hid (Below w.heap.size w wr)) (fun _ i _ => (intOf i + 1).toNat)
    case atStart => exact ⟨_, k, rfl, by rw [HZ.out], Nat.le_refl _, hZ (by rw [List.drop_of_length_le (by rw [HK.out]; omega)]; simpa using HO3.out), HB3⟩
    case round =>
     clear HO3 HB3 HZ hz
     obtain ⟨vv, j, rfl, rfl, hj, HO, HB⟩ := hrel
     rcases Nat.eq_zero_or_pos j with rfl | h0
     · have d1 : decide ((0 : Int) ≤ ((0 : Nat) : Int) - 1) = false := by decide
       have hol := HO.out
       rw [List.drop_zero] at hol
       have hr := hol
       unfold OL at hr
       rw [flatMap_one] at hr
       have hconv := Wr.convert_own (P := Tryz.prog) 116 9 Tryz.underlying116 Tryz.underlying5 Tryz.underlying9 hr
       clear hol hr
       go_wp2_with fail
       go_ret2
       exact ⟨rfl, HB.out⟩
     · obtain ⟨m, rfl⟩ : ∃ m, j = m + 1 := ⟨j - 1, by omega⟩
       have e1 : ((m + 1 : Nat) : Int) - 1 = (m : Int) := by omega
       rw [e1]
       have hm : m < (dg n).length := by rw [HK.out]; omega
       obtain ⟨p, rfl, hpb, hpc⟩ := HA.out.get hm
       unfold nv at hpc
       obtain ⟨d, hd⟩ := oQ ((dg n)[m])
       rw [hd] at hpc
       have HX : Hid ((dg n)[m]? = some d) := hZ (by rw [← hd]; exact List.getElem?_eq_getElem hm)
       have hd9 : d < 10 := dg_dgs n d (List.mem_of_getElem? HX.out)
       have hpc2 : wr.cell? (p.add m) = some (.int .i64 d) := (HB.out.cell (p := p.add m) (by rw [addr_add_block]; exact hpb)).trans hpc
       have d1 : decide ((0 : Int) ≤ (m : Int)) = true := by simp
       have z1 : (0 : Int) ≤ (m : Int) := by omega
       have z2 : (m : Int) < (k : Int) := by omega
       obtain ⟨z', hz'⟩ := oQ (IntKind.i64.wrap ((m : Int) - 1))
       have hzz : z' = (m : Int) - 1 := by have := HKL.out; rw [← hz', IntKind.wrap_i64]; omega
       have HZ' := hZ hzz
       obtain ⟨b, hb⟩ := oQ (48 + d)
       have w3 : IntKind.i64.wrap (48 + (d : Int)) = (b : Int) := by rw [IntKind.wrap_i64]; omega
       have w4 : IntKind.u8.wrap (b : Int) = (b : Int) := by rw [IntKind.wrap_u8]; omega
       have HV : Hid (bv (digB d) = .int .u8 (b : Int)) := hZ (by rw [← hb]; exact digB_val hd9)
       obtain ⟨ln, hln⟩ := oQ ((pre ++ (((dg n).drop (m + 1)).map digB).reverse).length)
       have HLN := hZ hln
       have HLEN : Hid (ln ≤ 1001) := hZ (by have := HPL.out; have := HK.out; have := HKL.out; rw [← hln]; simp; omega)
       clear hln
       have HBs := hZ HB.out.size
       clear hpc hpb hd hm hzz hb hd9 e1
       go_wp2_with (first
        | (at_builtin; refine wpList_app rfl (.tmp 22) (.tmp 29) 116 rfl elemU _ _ ln HLN.out rfl (HO.out.alloc _) (digB d) wr.heap.size #[.int .u8 (b : Int)] rfl ?hc (by unfold one; rw [HV.out]) rfl (by simp [one, bv, Value.oneCell']) (by have := HLN.out; have := HLEN.out; unfold maxLen; omega) (by have := HLN.out; have := HLEN.out; omega) (by have := HBs.out; simp; omega) ?_; (case hc => exact World.alloc_heap_new _ _); intro g3 c3 w3 h3 _ _ _ hb3; have HO3 := hZ h3; have HB3 := hZ ((HB.out.alloc HBs.out _).trans hb3); clear h3 hb3)
        | fail)
       go_roundw
       case rel => exact ⟨_, m, rfl, by rw [HZ'.out], by omega, hZ (by have := HO3.out; rwa [← up_step HX.out] at this), HB3⟩
       case measure => rw [HZ'.out]; simp [intOf]
def ErP (w : World) (s : ByteArray) (e : Ending) (w' : World) : Prop := e = .returned (.tuple #[.string s, .int .i64 0]) ∧ Below w.heap.size w w'
set_option maxRecDepth 100000 in
set_option maxHeartbeats 4000000 in
theorem rchecked_walk (neg : Bool) (n : Nat) (v : Value) (w : World) (h : LsAt w v (dg n)) (hl : (dg n).length ≤ 200) : Calls Tryz.prog 221 #[.bool neg, v] w (ErP w (txtB neg n)) := by
 have HT := hZ (rtext_walk neg n v w h (by omega))
 have d1 : decide ((dg n).length ≤ 200) = true := by simp [hl]
 clear h hl
 go_enter Tryz.func221, Tryz.ntmps221
 go_wp2_with (first
  | (go_at_call 155; refine HT.out.mono ?_; rintro e w2 ⟨rfl, hb⟩; have HB := hZ hb; clear hb)
  | fail)
 go_ret2
 exact ⟨rfl, HB.out⟩
def IntP (w : World) (z : Int) (e : Ending) (w' : World) : Prop := e = .returned (.string ⟨(intS z).toArray⟩) ∧ Below w.heap.size w w'
set_option maxRecDepth 100000 in
set_option maxHeartbeats 4000000 in
theorem rfromInt_walk (z : Int) (w : World) (hz : z.natAbs < 10 ^ 18) : Calls Tryz.prog 99 #[.int .i64 z] w (IntP w z) := by
 have HL : Hid ((dg z.natAbs).length ≤ 18) := hZ (dg_len_le hz)
 have hz2 : z.natAbs < 1000000000000000000 := hz
 have HZ := hZ hz2
 clear hz hz2
 go_enter Tryz.func99, Tryz.ntmps99
 go_wp2_with fail
 go_loopw [3, 4] (fun v iv wr => ∃ (vv : Value) (o : List Nat) (q : Int), vv = v ∧ iv = .int .i64 q ∧ Hid (o ++ dg q.natAbs = dg z.natAbs) ∧ Hid (q.natAbs < 1000000000000000000) ∧ Hid (IntL wr w.heap.size vv o) ∧ Hid (Below w.heap.size w wr)) (fun _ i _ => (intOf i).natAbs)
 case atStart => exact ⟨_, [], z, rfl, rfl, hZ rfl, HZ, hZ OL.nil, hZ (Below.refl _ _)⟩
 case round =>
  obtain ⟨vv, o, q, rfl, rfl, HI, HQ, HO, HB⟩ := hrel
  by_cases h0 : q = 0
  · subst h0
    have ho : o = dg z.natAbs := by have := HI.out; simpa [dg_zero] using this
    subst ho
    obtain ⟨b, hb⟩ := oQ (decide (z < 0))
    have HT := hZ (rtext_walk b z.natAbs vv wr (LsAt.of_ol HO.out) (by have := HL.out; omega))
    have HTX : Hid (txtB b z.natAbs = ⟨(intS z).toArray⟩) := hZ (by unfold txtB; rw [← hb, txt_int])
    go_wp2_with (first
     | (go_at_call 155; refine HT.out.mono ?_; rintro e w2 ⟨rfl, hb⟩; have HB2 := hZ hb; clear hb)
     | fail)
    go_ret
    exact ⟨(by rw [HTX.out]; rfl), HB.out.trans (HB2.out.mono HB.out.size)⟩
  · have d1 : (q != 0) = true := by simp [h0]
    obtain ⟨d, hd⟩ := oQ (q.natAbs % 10)
    obtain ⟨t, ht⟩ := oQ (Int.tdiv q 10)
    have hta : t.natAbs = q.natAbs / 10 := by rw [← ht, Int.natAbs_tdiv]; rfl
    have htn : t.natAbs < q.natAbs := by omega
    have HS : Hid ((o ++ [d]) ++ dg t.natAbs = dg z.natAbs) := hZ (by rw [← HI.out, hta, dg_pos (n := q.natAbs) (by omega), hd, List.append_assoc]; rfl)
    have HTN := hZ htn
    have wt : IntKind.i64.wrap t = t := by have := HQ.out; rw [IntKind.wrap_i64]; omega
    have HLEN : Hid (o.length ≤ 18) := hZ (by have h1 := congrArg List.length HI.out; have := HL.out; rw [List.length_append] at h1; omega)
    have HBs := hZ HB.out.size
    obtain ⟨ln, hln⟩ := oQ (o.length)
    have HLN := hZ hln
    rw [hln] at HLEN
    obtain ⟨r, hr⟩ := oQ (Int.tmod q 10)
    have hra : r.natAbs = d := by rw [← hr, Int.natAbs_tmod]; exact hd
    have hd9 : d < 10 := by omega
    by_cases hneg : r < 0
    · have b1 : decide (r < 0) = true := by simp [hneg]
      have wd : IntKind.i64.wrap (-r) = (d : Int) := by rw [IntKind.wrap_i64]; omega
      clear hta htn hln hra hd hneg
      go_wp2_with (first
       | (at_builtin; refine wpList_app rfl (.tmp 19) (.tmp 21) 23 rfl elemInt _ _ ln HLN.out rfl (HO.out.alloc _) d wr.heap.size #[.int .i64 d] rfl ?hc rfl rfl (by simp [one, nv, Value.oneCell']) (by have := HLN.out; have := HLEN.out; unfold maxLen; omega) (by have := HLN.out; have := HLEN.out; omega) (by have := HBs.out; simp; omega) ?_; (case hc => exact World.alloc_heap_new _ _); intro g3 c3 w3 h3 _ _ _ hb3; have HO3 := hZ h3; have HB3 := hZ ((HB.out.alloc HBs.out _).trans hb3); clear h3 hb3)
       | fail)
      go_roundw
      case rel => exact ⟨_, _, t, rfl, rfl, HS, hZ (by have := HTN.out; have := HQ.out; omega), HO3, HB3⟩
      case measure => simp [intOf]; exact HTN.out
    · have b1 : decide (r < 0) = false := by simp; omega
      obtain rfl : r = (d : Int) := by omega
      clear hta htn hln hra hd hneg
      go_wp2_with (first
       | (at_builtin; refine wpList_app rfl (.tmp 19) (.tmp 21) 23 rfl elemInt _ _ ln HLN.out rfl (HO.out.alloc _) d wr.heap.size #[.int .i64 d] rfl ?hc rfl rfl (by simp [one, nv, Value.oneCell']) (by have := HLN.out; have := HLEN.out; unfold maxLen; omega) (by have := HLN.out; have := HLEN.out; omega) (by have := HBs.out; simp; omega) ?_; (case hc => exact World.alloc_heap_new _ _); intro g3 c3 w3 h3 _ _ _ hb3; have HO3 := hZ h3; have HB3 := hZ ((HB.out.alloc HBs.out _).trans hb3); clear h3 hb3)
       | fail)
      go_roundw
      case rel => exact ⟨_, _, t, rfl, rfl, HS, hZ (by have := HTN.out; have := HQ.out; omega), HO3, HB3⟩
      case measure => simp [intOf]; exact HTN.out
def DsP (w : World) (z : Int) (e : Ending) (w' : World) : Prop := ∃ v, e = .returned (.tuple #[.bool (decide (z < 0)), v]) ∧ LsAt w' v (dg z.natAbs) ∧ Fresh w.heap.size v ∧ Below w.heap.size w w'
theorem at_list {s : ByteArray} {l : List UInt8} (h : s.data.toList = l) {i : Nat} (hi : i < s.size) : l[i]? = some s[i] := by
 rw [← h]
 have : s[i] = s.data[i] := rfl
 rw [this, Array.getElem?_toList]
 exact Array.getElem?_eq_getElem hi
theorem dig_at {n m : Nat} (h : 0 < n) (hm : m < (dg n).length) : (decS n)[(dg n).length - 1 - m]? = ((dg n)[m]?).map digB := by
 rw [decS_dg h, List.getElem?_reverse (by rw [List.length_map]; omega), List.length_map, List.getElem?_map, show (dg n).length - 1 - ((dg n).length - 1 - m) = m by omega]
set_option maxRecDepth 100000 in
set_option maxHeartbeats 4000000 in
theorem rdigits_walk (z : Int) (s : ByteArray) (hs : s.data.toList = intS z) (hl : (dg z.natAbs).length ≤ 200) (w : World) : Calls Tryz.prog 217 #[.string s] w (DsP w z) := by
 have hsz : s.size = (intS z).length := by rw [← hs]; exact Array.length_toList.symm
 have hp : 0 < s.size := by
  rw [hsz]
  unfold intS
  split
  · simp
  · exact List.length_pos_iff.2 (decS_ne _)
 obtain ⟨b, hb⟩ := oQ (s[0].toNat)
 obtain ⟨n, hn⟩ := oQ (z.natAbs)
 unfold DsP
 rw [hn] at hl ⊢
 have HL := hZ hl
 have key : ∃ t : ByteArray, t.data.toList = decS n ∧ ((z < 0 ∧ b = 45 ∧ s.extract 1 s.size = t) ∨ (¬ z < 0 ∧ b ≠ 45 ∧ t = s)) := by
  by_cases hneg : z < 0
  · refine ⟨s.extract 1 s.size, ?_, .inl ⟨hneg, ?_, rfl⟩⟩
    · have h := hs
      unfold intS at h
      rw [if_pos hneg, hn] at h
      rw [Lib.extract_data, h]
      have hsl : s.size = (decS n).length + 1 := by rw [← List.length_cons (a := (45 : UInt8)), ← h]; exact Array.length_toList.symm
      rw [hsl]; simp
    · have h := at_list hs hp
      unfold intS at h
      rw [if_pos hneg] at h
      simp at h
      rw [← hb, ← h]; rfl
  · have h := hs
    unfold intS at h
    rw [if_neg hneg, hn] at h
    refine ⟨s, h, .inr ⟨hneg, fun e => ?_, rfl⟩⟩
    have h2 := at_list h hp
    have h3 := decS_dig n _ (List.mem_of_getElem? h2)
    unfold dig10 at h3
    rw [hb, e] at h3
    simp at h3
 obtain ⟨t, HT, key⟩ := key
 have HT := hZ HT
 obtain ⟨k, hk⟩ := oQ (t.size)
 have hkl : k = (decS n).length := by rw [← hk, ← HT.out]; exact Array.length_toList.symm
 have hkm := decS_len_dg n
 have HK : Hid (k ≤ 200 ∧ 1 ≤ k ∧ k = max 1 (dg n).length) := hZ ⟨by omega, by omega, by omega⟩
 obtain ⟨u, hu⟩ := oQ (IntKind.i64.wrap ((k : Int) - 1))
 have huu : u = (k : Int) - 1 := by have := HK.out; rw [← hu, IntKind.wrap_i64]; omega
 have HU := hZ huu
 have hg : (t.toList == [48]) = decide (n = 0) := by
  rw [ByteArray.toList_eq, HT.out]
  rcases Nat.eq_zero_or_pos n with rfl | h
  · rw [decS_lt (by decide)]; rfl
  · rw [decide_eq_false (by omega), beq_eq_false_iff_ne]
    intro e
    exact decS_head h 48 (by rw [e]; rfl) rfl
 have HB0 := hZ (Below.refl w.heap.size w)
 clear hkl hkm huu hl hs hsz
 rcases key with ⟨hneg, hb45, hx⟩ | ⟨hneg, hb45, rfl⟩
 · subst hb45
   rw [decide_eq_true hneg]
   clear hneg
   go_enter Tryz.func217, Tryz.ntmps217
   go_wp2_with fail
   clear hx hb hp
   · go_loopw [5, 6] (fun v iv wr => ∃ (vv : Value) (m : Nat), vv = v ∧ iv = .int .i64 ((k : Int) - 1 - (m : Int)) ∧ m ≤ k ∧ Hid (n = 0 → m = 0) ∧ Hid (IntL wr w.heap.size vv ((dg n).take m)) ∧ Hid (Below w.heap.size w wr)) (fun _ i _ => (intOf i + 1).toNat)
     case atStart => exact ⟨_, 0, rfl, by rw [HU.out]; simp, Nat.zero_le _, hZ fun _ => rfl, hZ OL.nil, HB0⟩
     case round =>
      obtain ⟨vv, m, rfl, rfl, hm, H0, HO, HB⟩ := hrel
      have hend : m = k ∨ n = 0 → (dg n).take m = dg n := fun h => by
       rcases Nat.eq_zero_or_pos n with rfl | hp
       · rw [dg_zero]; simp
       · have : 1 ≤ (dg n).length := by rw [dg_pos hp]; simp
         have := HK.out
         rw [List.take_of_length_le (by omega)]
      have HEND := hZ hend
      clear hend
      rcases Nat.lt_or_ge m k with hlt | hge
      · obtain ⟨p, hp2⟩ := oQ (k - 1 - m)
        have e1 : (k : Int) - 1 - (m : Int) = (p : Int) := by omega
        rw [e1]
        have d1 : decide ((0 : Int) ≤ (p : Int)) = true := by simp
        rcases Nat.eq_zero_or_pos n with rfl | hn0
        · have hg2 : (t.toList == [48]) = true := by rw [hg]; rfl
          have HV := hZ (HEND.out (.inr rfl))
          clear hg
          go_wp2_with fail
          go_ret2
          exact ⟨_, rfl, by have := HO.out; rw [HV.out] at this; exact LsAt.of_ol this, HO.out.fresh, HB.out⟩
        · have hg2 : (t.toList == [48]) = false := by rw [hg]; exact decide_eq_false (by omega)
          have hkn : k = (dg n).length := by have := HK.out; have : 1 ≤ (dg n).length := (by rw [dg_pos hn0]; simp); omega
          have hmn : m < (dg n).length := by omega
          obtain ⟨d, hd⟩ := oQ ((dg n)[m])
          have HX : Hid ((dg n)[m]? = some d) := hZ (by rw [← hd]; exact List.getElem?_eq_getElem hmn)
          have hd9 : d < 10 := dg_dgs n d (List.mem_of_getElem? HX.out)
          have hpt : p < t.size := by rw [hk]; omega
          obtain ⟨c, hc⟩ := oQ (t[p].toNat)
          have hcd : c = 48 + d := by
           have h0 := dig_at hn0 hmn
           rw [show (dg n).length - 1 - m = p by omega, HX.out] at h0
           have h1 := at_list HT.out hpt
           rw [h0] at h1
           simp only [Option.map_some, Option.some.injEq] at h1
           rw [← hc, ← h1]
           exact toNat_dig hd9
          have y1 : (0 : Int) ≤ (p : Int) := by omega
          have y2 : (p : Int) < (k : Int) := by omega
          have w5 : IntKind.u8.wrap ((c : Int) - 48) = (d : Int) := by rw [IntKind.wrap_u8]; omega
          have w6 : IntKind.i64.wrap (d : Int) = (d : Int) := by rw [IntKind.wrap_i64]; omega
          obtain ⟨z', hz'⟩ := oQ (IntKind.i64.wrap ((p : Int) - 1))
          have hzz : z' = (k : Int) - 1 - ((m + 1 : Nat) : Int) := by have := HK.out; rw [← hz', IntKind.wrap_i64]; omega
          have HZ' := hZ hzz
          have HP2 := hZ hp2
          have HLT := hZ hlt
          have HNE := hZ hn0
          have HST : Hid ((dg n).take m ++ [d] = (dg n).take (m + 1)) := hZ (by rw [List.take_add_one, HX.out]; rfl)
          have HLN : Hid (((dg n).take m).length = m) := hZ (by rw [List.length_take]; omega)
          have HBs := hZ HB.out.size
          have HM : Hid (m ≤ 200) := hZ (by have := HK.out; omega)
          clear hg hd hd9 hcd hzz hp2 hlt hn0 hkn hmn e1 hm
          go_wp2_with (first
           | (at_builtin; refine wpList_app rfl (.tmp 24) (.tmp 30) 23 rfl elemInt _ _ m HLN.out rfl (HO.out.alloc _) d wr.heap.size #[.int .i64 d] rfl ?hc rfl rfl (by simp [one, nv, Value.oneCell']) (by have := HLN.out; have := HM.out; unfold maxLen; omega) (by have := HLN.out; have := HM.out; omega) (by have := HBs.out; simp; omega) ?_; (case hc => exact World.alloc_heap_new _ _); intro g3 c3 w3 h3 _ _ _ hb3; have HO3 := hZ h3; have HB3 := hZ ((HB.out.alloc HBs.out _).trans hb3); clear h3 hb3)
           | fail)
          go_roundw
          case rel => exact ⟨_, m + 1, rfl, by rw [HZ'.out], HLT.out, hZ (fun e => by have := HNE.out; omega), hZ (by have := HO3.out; rwa [HST.out] at this), HB3⟩
          case measure => rw [HZ'.out]; simp [intOf]; have := HP2.out; have := HLT.out; omega
      · obtain rfl : m = k := by omega
        have e1 : (m : Int) - 1 - (m : Int) = -1 := by omega
        rw [e1]
        have HV := hZ (HEND.out (.inl rfl))
        clear hg
        go_wp2_with fail
        go_ret2
        exact ⟨_, rfl, by have := HO.out; rw [HV.out] at this; exact LsAt.of_ol this, HO.out.fresh, HB.out⟩
 · rw [decide_eq_false hneg]
   clear hneg
   have d0 : ((b : Int) == 45) = false := by simp; omega
   go_enter Tryz.func217, Tryz.ntmps217
   go_wp2_with fail
   clear d0 hb45 hb hp
   · go_loopw [5, 6] (fun v iv wr => ∃ (vv : Value) (m : Nat), vv = v ∧ iv = .int .i64 ((k : Int) - 1 - (m : Int)) ∧ m ≤ k ∧ Hid (n = 0 → m = 0) ∧ Hid (IntL wr w.heap.size vv ((dg n).take m)) ∧ Hid (Below w.heap.size w wr)) (fun _ i _ => (intOf i + 1).toNat)
     case atStart => exact ⟨_, 0, rfl, by rw [HU.out]; simp, Nat.zero_le _, hZ fun _ => rfl, hZ OL.nil, HB0⟩
     case round =>
      obtain ⟨vv, m, rfl, rfl, hm, H0, HO, HB⟩ := hrel
      have hend : m = k ∨ n = 0 → (dg n).take m = dg n := fun h => by
       rcases Nat.eq_zero_or_pos n with rfl | hp
       · rw [dg_zero]; simp
       · have : 1 ≤ (dg n).length := by rw [dg_pos hp]; simp
         have := HK.out
         rw [List.take_of_length_le (by omega)]
      have HEND := hZ hend
      clear hend
      rcases Nat.lt_or_ge m k with hlt | hge
      · obtain ⟨p, hp2⟩ := oQ (k - 1 - m)
        have e1 : (k : Int) - 1 - (m : Int) = (p : Int) := by omega
        rw [e1]
        have d1 : decide ((0 : Int) ≤ (p : Int)) = true := by simp
        rcases Nat.eq_zero_or_pos n with rfl | hn0
        · have hg2 : (t.toList == [48]) = true := by rw [hg]; rfl
          have HV := hZ (HEND.out (.inr rfl))
          clear hg
          go_wp2_with fail
          go_ret2
          exact ⟨_, rfl, by have := HO.out; rw [HV.out] at this; exact LsAt.of_ol this, HO.out.fresh, HB.out⟩
        · have hg2 : (t.toList == [48]) = false := by rw [hg]; exact decide_eq_false (by omega)
          have hkn : k = (dg n).length := by have := HK.out; have : 1 ≤ (dg n).length := (by rw [dg_pos hn0]; simp); omega
          have hmn : m < (dg n).length := by omega
          obtain ⟨d, hd⟩ := oQ ((dg n)[m])
          have HX : Hid ((dg n)[m]? = some d) := hZ (by rw [← hd]; exact List.getElem?_eq_getElem hmn)
          have hd9 : d < 10 := dg_dgs n d (List.mem_of_getElem? HX.out)
          have hpt : p < t.size := by rw [hk]; omega
          obtain ⟨c, hc⟩ := oQ (t[p].toNat)
          have hcd : c = 48 + d := by
           have h0 := dig_at hn0 hmn
           rw [show (dg n).length - 1 - m = p by omega, HX.out] at h0
           have h1 := at_list HT.out hpt
           rw [h0] at h1
           simp only [Option.map_some, Option.some.injEq] at h1
           rw [← hc, ← h1]
           exact toNat_dig hd9
          have y1 : (0 : Int) ≤ (p : Int) := by omega
          have y2 : (p : Int) < (k : Int) := by omega
          have w5 : IntKind.u8.wrap ((c : Int) - 48) = (d : Int) := by rw [IntKind.wrap_u8]; omega
          have w6 : IntKind.i64.wrap (d : Int) = (d : Int) := by rw [IntKind.wrap_i64]; omega
          obtain ⟨z', hz'⟩ := oQ (IntKind.i64.wrap ((p : Int) - 1))
          have hzz : z' = (k : Int) - 1 - ((m + 1 : Nat) : Int) := by have := HK.out; rw [← hz', IntKind.wrap_i64]; omega
          have HZ' := hZ hzz
          have HP2 := hZ hp2
          have HLT := hZ hlt
          have HNE := hZ hn0
          have HST : Hid ((dg n).take m ++ [d] = (dg n).take (m + 1)) := hZ (by rw [List.take_add_one, HX.out]; rfl)
          have HLN : Hid (((dg n).take m).length = m) := hZ (by rw [List.length_take]; omega)
          have HBs := hZ HB.out.size
          have HM : Hid (m ≤ 200) := hZ (by have := HK.out; omega)
          clear hg hd hd9 hcd hzz hp2 hlt hn0 hkn hmn e1 hm
          go_wp2_with (first
           | (at_builtin; refine wpList_app rfl (.tmp 24) (.tmp 30) 23 rfl elemInt _ _ m HLN.out rfl (HO.out.alloc _) d wr.heap.size #[.int .i64 d] rfl ?hc rfl rfl (by simp [one, nv, Value.oneCell']) (by have := HLN.out; have := HM.out; unfold maxLen; omega) (by have := HLN.out; have := HM.out; omega) (by have := HBs.out; simp; omega) ?_; (case hc => exact World.alloc_heap_new _ _); intro g3 c3 w3 h3 _ _ _ hb3; have HO3 := hZ h3; have HB3 := hZ ((HB.out.alloc HBs.out _).trans hb3); clear h3 hb3)
           | fail)
          go_roundw
          case rel => exact ⟨_, m + 1, rfl, by rw [HZ'.out], HLT.out, hZ (fun e => by have := HNE.out; omega), hZ (by have := HO3.out; rwa [HST.out] at this), HB3⟩
          case measure => rw [HZ'.out]; simp [intOf]; have := HP2.out; have := HLT.out; omega
      · obtain rfl : m = k := by omega
        have e1 : (m : Int) - 1 - (m : Int) = -1 := by omega
        rw [e1]
        have HV := hZ (HEND.out (.inl rfl))
        clear hg
        go_wp2_with fail
        go_ret2
        exact ⟨_, rfl, by have := HO.out; rw [HV.out] at this; exact LsAt.of_ol this, HO.out.fresh, HB.out⟩
end Go.Proofs.YteeifhlhpiimoaaGreatDoor
end
