/-
  Contract of entry.shapeOf, kind by kind (printed by tools/genshape.py). No condition.
-/
import Derived.Test.YteeifhlhpiimoaaGreatDoorPAa
import Derived.Test.YteeifhlhpiimoaaGreatDoorPAe
import Derived.Deep.RegionHeld
namespace Go.Proofs.YteeifhlhpiimoaaGreatDoor
open Go Go.RowKit Go.Shelf
attribute [local go_sem] Oper.semAt_some
theorem mkS {V : World} {p4 p5 : Nat} (h4 : V.heap[p4]? = some (.cells #[.func (.func 106) #[] #[], .int .i64 1, .int .i64 1000000, .nilFunc] 109 (0, 0))) (h5 : V.heap[p5]? = some (.cells #[.func (.func 107) #[] #[], .int .i64 1, .int .i64 1000000, .nilFunc] 109 (0, 0))) : (fun V => V.cell? ⟨p4, 0, none⟩ = some (.func (.func 106) #[] #[]) ∧ V.cell? ⟨p4, 1, none⟩ = some (.int .i64 1) ∧ V.cell? ⟨p4, 2, none⟩ = some (.int .i64 1000000) ∧ V.cell? ⟨p4, 3, none⟩ = some (.nilFunc) ∧ V.cell? ⟨p5, 0, none⟩ = some (.func (.func 107) #[] #[]) ∧ V.cell? ⟨p5, 1, none⟩ = some (.int .i64 1) ∧ V.cell? ⟨p5, 2, none⟩ = some (.int .i64 1000000) ∧ V.cell? ⟨p5, 3, none⟩ = some (.nilFunc)) V := ⟨cells_i (i := 0) h4 rfl, cells_i (i := 1) h4 rfl, cells_i (i := 2) h4 rfl, cells_i (i := 3) h4 rfl, cells_i (i := 0) h5 rfl, cells_i (i := 1) h5 rfl, cells_i (i := 2) h5 rfl, cells_i (i := 3) h5 rfl⟩
theorem fresh_row (w : World) (cs : Array Value) (T : TypeId) : ∃ b v, w.alloc (.cells cs T) = v ∧ Hid (v.heap[b]? = some (.cells cs T (0, 0))) ∧ Below w.heap.size w v ∧ w.heap.size = b ∧ v.heap.size = w.heap.size + 1 :=
 ⟨_, _, rfl, hZ (World.alloc_heap_new w _), below_new w _, rfl, World.size_alloc w _⟩
theorem free6 {W : World} {b : Nat} {cs : Array Value} {T : TypeId} (h : W.heap[b]? = some (.cells cs T (0, 0))) : W.frozen? ⟨b, 0, none⟩ = false ∧ W.frozen? ⟨b, 1, none⟩ = false ∧ W.frozen? ⟨b, 2, none⟩ = false ∧ W.frozen? ⟨b, 3, none⟩ = false ∧ W.frozen? ⟨b, 4, none⟩ = false ∧ W.frozen? ⟨b, 5, none⟩ = false :=
 ⟨cells_free h 0, cells_free h 1, cells_free h 2, cells_free h 3, cells_free h 4, cells_free h 5⟩
theorem all6 {W : World} {b : Nat} {cs : Array Value} {T : TypeId} {v0 v1 v2 v3 v4 v5 : Value} (h : W.heap[b]? = some (.cells cs T (0, 0))) (h0 : cs[0]? = some v0 := by rfl) (h1 : cs[1]? = some v1 := by rfl) (h2 : cs[2]? = some v2 := by rfl) (h3 : cs[3]? = some v3 := by rfl) (h4 : cs[4]? = some v4 := by rfl) (h5 : cs[5]? = some v5 := by rfl) :
 W.cell? ⟨b, 0, none⟩ = some v0 ∧ W.cell? ⟨b, 1, none⟩ = some v1 ∧ W.cell? ⟨b, 2, none⟩ = some v2 ∧ W.cell? ⟨b, 3, none⟩ = some v3 ∧ W.cell? ⟨b, 4, none⟩ = some v4 ∧ W.cell? ⟨b, 5, none⟩ = some v5 :=
 ⟨cells_i h h0, cells_i h h1, cells_i h h2, cells_i h h3, cells_i h h4, cells_i h h5⟩
set_option maxRecDepth 100000 in
set_option maxHeartbeats 8000000 in
theorem shape1 (w : World) : Calls Tryz.prog 62 #[.int .i64 1] w (ShapeP w ⟨[.num 106 1, .num 110 0, .num 111 1, .num 107 1, .txt 112], 106, [113]⟩) := by
 go_enter Tryz.func62, Tryz.ntmps62
 go_wp2_with (first
  | (go_at_call 105; (with_reducible refine (numbered_walk _ _).mono ?_); rintro e v1 ⟨rfl, hb⟩; have RES := hZ (below_at2 hb (World.alloc_heap_new w _)); have BP := hZ ((below_new w _).trans (hb.mono (below_new w _).size)); clear hb)
  | (go_at_call 105; (with_reducible refine (numbered_walk _ _).mono ?_); rintro e v2 ⟨rfl, hb⟩; have RES := bAt hb RES; have BP := bTr BP hb; clear hb)
  | fail)
 obtain ⟨k1, k2, k3, k4⟩ := two_boxes v2 #[.func (.func 106) #[] #[], .int .i64 1, .int .i64 1000000, .nilFunc] #[.func (.func 107) #[] #[], .int .i64 1, .int .i64 1000000, .nilFunc] 109 109
 have hlt := cells_lt RES.out
 have RES := bAt k4 RES
 have BP := bTr BP k4
 obtain ⟨W5, hW5⟩ := oQ ((v2.alloc (.cells #[.func (.func 106) #[] #[], .int .i64 1, .int .i64 1000000, .nilFunc] 109)).alloc (.cells #[.func (.func 107) #[] #[], .int .i64 1, .int .i64 1000000, .nilFunc] 109))
 rw [hW5] at k1 k2 k3 k4 RES BP
 rw [hW5]
 obtain ⟨p2, hp2⟩ := oQ (w.heap.size)
 obtain ⟨p4, hp4⟩ := oQ (v2.heap.size)
 rw [hp4] at k1 k2 hlt
 rw [hp4]
 obtain ⟨p5, hp5⟩ := oQ (p4 + 1)
 rw [hp5] at k2
 rw [hp5]
 have HP2 : Hid (w.heap.size ≤ p2) := hZ (by omega)
 rw [hp2] at RES hlt
 rw [hp2]
 have H4 := hZ k1
 have H5 := hZ k2
 have HNE : Hid (p4 ≠ p2 ∧ p5 ≠ p2 ∧ p2 < p4) := hZ ⟨by omega, by omega, by omega⟩
 clear hW5 k1 k2 k3 k4 hp2 hp4 hp5 hlt
 refine wp_region_noPanic ?_
 refine wp_region_held_drew (S := fun V => V.cell? ⟨p4, 0, none⟩ = some (.func (.func 106) #[] #[]) ∧ V.cell? ⟨p4, 1, none⟩ = some (.int .i64 1) ∧ V.cell? ⟨p4, 2, none⟩ = some (.int .i64 1000000) ∧ V.cell? ⟨p4, 3, none⟩ = some (.nilFunc) ∧ V.cell? ⟨p5, 0, none⟩ = some (.func (.func 107) #[] #[]) ∧ V.cell? ⟨p5, 1, none⟩ = some (.int .i64 1) ∧ V.cell? ⟨p5, 2, none⟩ = some (.int .i64 1000000) ∧ V.cell? ⟨p5, 3, none⟩ = some (.nilFunc)) (by kernel_rfl) (mkS H4.out H5.out) (fun hHeld => ?_)
 have BP := hZ (Below.drew BP.out)
 have H4 : Hid (W5.drew.heap[p4]? = _) := H4
 have H5 : Hid (W5.drew.heap[p5]? = _) := H5
 have RES : Hid (W5.drew.heap[p2]? = _) := RES
 obtain ⟨U5, hU5⟩ := oQ (W5.drew)
 rw [hU5] at hHeld BP H4 H5 RES ⊢
 clear hU5
 refine tk 0 ?_
 refine tk 1 ?_
 refine tk 4 ?_
 refine tk 5 ?_
 apply share3
 intro N0
 apply share2
 intro N1
 apply share2
 intro N2
 ·
  refine rd [2, 7] ?_
  refine rc (fun K hK => ?_) ?_
  ·
   go_simp
   (with_reducible refine (timed_walk _ _).mono ?_)
   rintro e v3 ⟨rfl, hb⟩
   have H4 := bAt hb H4
   have H5 := bAt hb H5
   have RES := bAt hb RES
   have BP := bTr BP hb
   clear hb
   refine kk hK ((mkS H4.out H5.out)) (fun hHeld => ?_)
   clear hK K
   refine rd [3, 7] ?_
   refine rc (fun K hK => ?_) ?_
   ·
    go_simp
    (with_reducible refine (numbered_walk _ _).mono ?_)
    rintro e v4 ⟨rfl, hb⟩
    have H4 := bAt hb H4
    have H5 := bAt hb H5
    have RES := bAt hb RES
    have BP := bTr BP hb
    clear hb
    refine kk hK ((mkS H4.out H5.out)) (fun hHeld => ?_)
    clear hK K
    refine rd [6, 7] ?_
    refine rc (fun K hK => ?_) ?_
    ·
     go_simp
     have ORES := cells_lt RES.out
     obtain ⟨b1, v5, hv5, FB, hb, hbl, hsz⟩ := fresh_row v4 #[.func (.func 106) #[] #[], .int .i64 1, .int .i64 1000000, .nilFunc, .func (.func 110) #[] #[], .int .i64 0, .int .i64 1000000, .nilFunc, .func (.func 111) #[] #[], .int .i64 1, .int .i64 1000000, .nilFunc, .func (.func 107) #[] #[], .int .i64 1, .int .i64 1000000, .nilFunc, .nilFunc, .int .i64 0, .int .i64 0, .func (.func 112) #[] #[]] 109
     have H4 := bAt hb H4
     have H5 := bAt hb H5
     have RES := bAt hb RES
     have ZFB := hZ (And.intro (Nat.le_trans BP.out.size (Nat.le_of_eq hbl)) (hbl ▸ ORES))
     have BP := bTr BP hb
     rw [hbl, hv5]
     clear hv5 hb hbl hsz ORES
     refine kk hK ((mkS H4.out H5.out)) (fun hHeld => ?_)
     clear hK K
     refine rd [7] ?_
     refine rcE fun K hK => ?_
     go_simp
     have ORES := cells_lt RES.out
     obtain ⟨b2, v6, hv6, FR, hb, hbl, hsz⟩ := fresh_row v5 #[.func (.func 113) #[] #[]] 45
     have H4 := bAt hb H4
     have H5 := bAt hb H5
     have RES := bAt hb RES
     have FB := bAt hb FB
     have ZFR := hZ (And.intro (Nat.le_trans BP.out.size (Nat.le_of_eq hbl)) (hbl ▸ ORES))
     have BP := bTr BP hb
     rw [hbl, hv6]
     clear hv6 hb hbl hsz ORES
     refine kk hK ((mkS H4.out H5.out)) (fun hHeld => ?_)
     clear hK K
     have HX := (And.intro H4 (And.intro H5 (And.intro RES (And.intro FB (And.intro FR (And.intro ZFB (And.intro ZFR (And.intro BP hHeld))))))))
     exact N0 v6 b1 b2 HX
    refine rcE fun K hK => ?_
    go_simp
    have ORES := cells_lt RES.out
    obtain ⟨b2, v7, hv7, FR, hb, hbl, hsz⟩ := fresh_row v4 #[.func (.func 113) #[] #[]] 45
    have H4 := bAt hb H4
    have H5 := bAt hb H5
    have RES := bAt hb RES
    have ZFR := hZ (And.intro (Nat.le_trans BP.out.size (Nat.le_of_eq hbl)) (hbl ▸ ORES))
    have BP := bTr BP hb
    rw [hbl, hv7]
    clear hv7 hb hbl hsz ORES
    refine kk hK ((mkS H4.out H5.out)) (fun hHeld => ?_)
    clear hK K
    have HX := (And.intro H4 (And.intro H5 (And.intro RES (And.intro FR (And.intro ZFR (And.intro BP hHeld))))))
    exact N1 v7 b2 HX
   refine rcE fun K hK => ?_
   go_simp
   have ORES := cells_lt RES.out
   obtain ⟨b2, v8, hv8, FR, hb, hbl, hsz⟩ := fresh_row v3 #[.func (.func 113) #[] #[]] 45
   have H4 := bAt hb H4
   have H5 := bAt hb H5
   have RES := bAt hb RES
   have ZFR := hZ (And.intro (Nat.le_trans BP.out.size (Nat.le_of_eq hbl)) (hbl ▸ ORES))
   have BP := bTr BP hb
   rw [hbl, hv8]
   clear hv8 hb hbl hsz ORES
   refine kk hK ((mkS H4.out H5.out)) (fun hHeld => ?_)
   clear hK K
   have HX := (And.intro H4 (And.intro H5 (And.intro RES (And.intro FR (And.intro ZFR (And.intro BP hHeld))))))
   exact N2 v8 b2 HX
  refine rcE fun K hK => ?_
  go_simp
  have ORES := cells_lt RES.out
  obtain ⟨b2, v9, hv9, FR, hb, hbl, hsz⟩ := fresh_row U5 #[.func (.func 113) #[] #[]] 45
  have H4 := bAt hb H4
  have H5 := bAt hb H5
  have RES := bAt hb RES
  have ZFR := hZ (And.intro (Nat.le_trans BP.out.size (Nat.le_of_eq hbl)) (hbl ▸ ORES))
  have BP := bTr BP hb
  rw [hbl, hv9]
  clear hv9 hb hbl hsz ORES
  refine kk hK ((mkS H4.out H5.out)) (fun hHeld => ?_)
  clear hK K
  refine rd [2] ?_
  refine rcE fun K hK => ?_
  go_simp
  (with_reducible refine (timed_walk _ _).mono ?_)
  rintro e v10 ⟨rfl, hb⟩
  have H4 := bAt hb H4
  have H5 := bAt hb H5
  have RES := bAt hb RES
  have FR := bAt hb FR
  have BP := bTr BP hb
  clear hb
  refine kk hK ((mkS H4.out H5.out)) (fun hHeld => ?_)
  clear hK K
  exact N2 v10 b2 ⟨H4, H5, RES, FR, ZFR, BP, hHeld⟩
 ·
  rintro XN2 b2 ⟨H4, H5, RES, FR, ZFR, BP, hHeld⟩
  refine rd [3] ?_
  refine rcE fun K hK => ?_
  go_simp
  (with_reducible refine (numbered_walk _ _).mono ?_)
  rintro e v11 ⟨rfl, hb⟩
  have H4 := bAt hb H4
  have H5 := bAt hb H5
  have RES := bAt hb RES
  have FR := bAt hb FR
  have BP := bTr BP hb
  clear hb
  refine kk hK ((mkS H4.out H5.out)) (fun hHeld => ?_)
  clear hK K
  exact N1 v11 b2 ⟨H4, H5, RES, FR, ZFR, BP, hHeld⟩
 ·
  rintro XN1 b2 ⟨H4, H5, RES, FR, ZFR, BP, hHeld⟩
  refine rd [6] ?_
  refine rcE fun K hK => ?_
  go_simp
  have ORES := cells_lt RES.out
  obtain ⟨b1, v12, hv12, FB, hb, hbl, hsz⟩ := fresh_row XN1 #[.func (.func 106) #[] #[], .int .i64 1, .int .i64 1000000, .nilFunc, .func (.func 110) #[] #[], .int .i64 0, .int .i64 1000000, .nilFunc, .func (.func 111) #[] #[], .int .i64 1, .int .i64 1000000, .nilFunc, .func (.func 107) #[] #[], .int .i64 1, .int .i64 1000000, .nilFunc, .nilFunc, .int .i64 0, .int .i64 0, .func (.func 112) #[] #[]] 109
  have H4 := bAt hb H4
  have H5 := bAt hb H5
  have RES := bAt hb RES
  have FR := bAt hb FR
  have ZFB := hZ (And.intro (Nat.le_trans BP.out.size (Nat.le_of_eq hbl)) (hbl ▸ ORES))
  have BP := bTr BP hb
  rw [hbl, hv12]
  clear hv12 hb hbl hsz ORES
  refine kk hK ((mkS H4.out H5.out)) (fun hHeld => ?_)
  clear hK K
  exact N0 v12 b1 b2 ⟨H4, H5, RES, FB, FR, ZFB, ZFR, BP, hHeld⟩
 ·
  rintro XN0 b1 b2 ⟨H4, H5, RES, FB, FR, ZFB, ZFR, BP, hHeld⟩
  refine rd [8] ?_
  refine rcE fun K hK => ?_
  go_simp
  (with_reducible refine (of_walk _ _ _ _ _ _ _ _ _ _).mono ?_)
  rintro e v13 ⟨rfl, hb⟩
  have H4 := bAt hb H4
  have H5 := bAt hb H5
  have RES := bAt hb RES
  have FB := bAt hb FB
  have FR := bAt hb FR
  have BP := bTr BP hb
  clear hb
  refine kk hK ((mkS H4.out H5.out)) (fun hHeld => ?_)
  clear hK K
  refine rd [9] ?_
  refine rcE fun K hK => ?_
  obtain ⟨r0, r1, r2, r3, r4, r5⟩ := free6 RES.out; obtain ⟨q0, q1, q2, q3, q4, q5⟩ := all6 RES.out
  go_simp
  have FIN0 := put6 RES.out (.slice (some ⟨b1, 0, none⟩) 5 5) (.func (.func 106) #[] #[]) (.int .i64 1) (.int .i64 1000000) (.nilFunc) (.slice (some ⟨b2, 0, none⟩) 1 1)
  have hne := HNE.out
  have H4 := hZ ((put6_other (r := p2) hne.1 (.slice (some ⟨b1, 0, none⟩) 5 5) (.func (.func 106) #[] #[]) (.int .i64 1) (.int .i64 1000000) (.nilFunc) (.slice (some ⟨b2, 0, none⟩) 1 1)).trans H4.out)
  have H5 := hZ ((put6_other (r := p2) hne.2.1 (.slice (some ⟨b1, 0, none⟩) 5 5) (.func (.func 106) #[] #[]) (.int .i64 1) (.int .i64 1000000) (.nilFunc) (.slice (some ⟨b2, 0, none⟩) 1 1)).trans H5.out)
  have FB := hZ ((put6_other (r := p2) (by have := ZFB.out; omega) (.slice (some ⟨b1, 0, none⟩) 5 5) (.func (.func 106) #[] #[]) (.int .i64 1) (.int .i64 1000000) (.nilFunc) (.slice (some ⟨b2, 0, none⟩) 1 1)).trans FB.out)
  have FR := hZ ((put6_other (r := p2) (by have := ZFR.out; omega) (.slice (some ⟨b1, 0, none⟩) 5 5) (.func (.func 106) #[] #[]) (.int .i64 1) (.int .i64 1000000) (.nilFunc) (.slice (some ⟨b2, 0, none⟩) 1 1)).trans FR.out)
  have BP := hZ (put6_below (r := p2) BP.out HP2.out (.slice (some ⟨b1, 0, none⟩) 5 5) (.func (.func 106) #[] #[]) (.int .i64 1) (.int .i64 1000000) (.nilFunc) (.slice (some ⟨b2, 0, none⟩) 1 1))
  have FIN := hZ FIN0
  obtain ⟨v14, hv14⟩ := oQ (((((((v13.setCell ⟨p2, 0, none⟩ (.slice (some ⟨b1, 0, none⟩) 5 5)).setCell ⟨p2, 1, none⟩ (.func (.func 106) #[] #[])).setCell ⟨p2, 2, none⟩ (.int .i64 1)).setCell ⟨p2, 3, none⟩ (.int .i64 1000000)).setCell ⟨p2, 4, none⟩ (.nilFunc)).setCell ⟨p2, 5, none⟩ (.slice (some ⟨b2, 0, none⟩) 1 1)))
  rw [hv14] at H4 H5 FB FR BP FIN ⊢
  clear hv14 r0 r1 r2 r3 r4 r5 q0 q1 q2 q3 q4 q5 hne FIN0
  refine kk hK ((mkS H4.out H5.out)) (fun hHeld => ?_)
  clear hK K
  refine tk 10 ?_
  refine dn ?_
  go_wp2
  refine bodyPost_ret (results_celltmp rfl _ _ p2 [.slice (some ⟨b1, 0, none⟩) 5 5, .func (.func 106) #[] #[], .int .i64 1, .int .i64 1000000, .nilFunc, .slice (some ⟨b2, 0, none⟩) 1 1] _ rfl (range_of FIN.out) Tryz.underlying112 rfl (by kernel_rfl)) rfl ⟨_, rfl, ⟨b1, _, _, rfl, ZFB.out.1, FB.out, .inr ⟨b2, rfl, rfl, ZFR.out.1, FR.out⟩⟩, BP.out⟩
set_option maxRecDepth 100000 in
set_option maxHeartbeats 8000000 in
theorem shape3 (w : World) : Calls Tryz.prog 62 #[.int .i64 3] w (ShapeP w ⟨[.num 106 1, .num 110 0, .num 116 0, .num 107 1], 106, [117]⟩) := by
 go_enter Tryz.func62, Tryz.ntmps62
 go_wp2_with (first
  | (go_at_call 105; (with_reducible refine (numbered_walk _ _).mono ?_); rintro e v1 ⟨rfl, hb⟩; have RES := hZ (below_at2 hb (World.alloc_heap_new w _)); have BP := hZ ((below_new w _).trans (hb.mono (below_new w _).size)); clear hb)
  | (go_at_call 105; (with_reducible refine (numbered_walk _ _).mono ?_); rintro e v2 ⟨rfl, hb⟩; have RES := bAt hb RES; have BP := bTr BP hb; clear hb)
  | fail)
 obtain ⟨k1, k2, k3, k4⟩ := two_boxes v2 #[.func (.func 106) #[] #[], .int .i64 1, .int .i64 1000000, .nilFunc] #[.func (.func 107) #[] #[], .int .i64 1, .int .i64 1000000, .nilFunc] 109 109
 have hlt := cells_lt RES.out
 have RES := bAt k4 RES
 have BP := bTr BP k4
 obtain ⟨W5, hW5⟩ := oQ ((v2.alloc (.cells #[.func (.func 106) #[] #[], .int .i64 1, .int .i64 1000000, .nilFunc] 109)).alloc (.cells #[.func (.func 107) #[] #[], .int .i64 1, .int .i64 1000000, .nilFunc] 109))
 rw [hW5] at k1 k2 k3 k4 RES BP
 rw [hW5]
 obtain ⟨p2, hp2⟩ := oQ (w.heap.size)
 obtain ⟨p4, hp4⟩ := oQ (v2.heap.size)
 rw [hp4] at k1 k2 hlt
 rw [hp4]
 obtain ⟨p5, hp5⟩ := oQ (p4 + 1)
 rw [hp5] at k2
 rw [hp5]
 have HP2 : Hid (w.heap.size ≤ p2) := hZ (by omega)
 rw [hp2] at RES hlt
 rw [hp2]
 have H4 := hZ k1
 have H5 := hZ k2
 have HNE : Hid (p4 ≠ p2 ∧ p5 ≠ p2 ∧ p2 < p4) := hZ ⟨by omega, by omega, by omega⟩
 clear hW5 k1 k2 k3 k4 hp2 hp4 hp5 hlt
 refine wp_region_noPanic ?_
 refine wp_region_held_drew (S := fun V => V.cell? ⟨p4, 0, none⟩ = some (.func (.func 106) #[] #[]) ∧ V.cell? ⟨p4, 1, none⟩ = some (.int .i64 1) ∧ V.cell? ⟨p4, 2, none⟩ = some (.int .i64 1000000) ∧ V.cell? ⟨p4, 3, none⟩ = some (.nilFunc) ∧ V.cell? ⟨p5, 0, none⟩ = some (.func (.func 107) #[] #[]) ∧ V.cell? ⟨p5, 1, none⟩ = some (.int .i64 1) ∧ V.cell? ⟨p5, 2, none⟩ = some (.int .i64 1000000) ∧ V.cell? ⟨p5, 3, none⟩ = some (.nilFunc)) (by kernel_rfl) (mkS H4.out H5.out) (fun hHeld => ?_)
 have BP := hZ (Below.drew BP.out)
 have H4 : Hid (W5.drew.heap[p4]? = _) := H4
 have H5 : Hid (W5.drew.heap[p5]? = _) := H5
 have RES : Hid (W5.drew.heap[p2]? = _) := RES
 obtain ⟨U5, hU5⟩ := oQ (W5.drew)
 rw [hU5] at hHeld BP H4 H5 RES ⊢
 clear hU5
 refine tk 0 ?_
 refine tk 1 ?_
 refine tk 4 ?_
 apply share3
 intro N0
 apply share2
 intro N1
 apply share2
 intro N2
 ·
  refine rd [2, 6] ?_
  refine rc (fun K hK => ?_) ?_
  ·
   go_simp
   (with_reducible refine (timed_walk _ _).mono ?_)
   rintro e v3 ⟨rfl, hb⟩
   have H4 := bAt hb H4
   have H5 := bAt hb H5
   have RES := bAt hb RES
   have BP := bTr BP hb
   clear hb
   refine kk hK ((mkS H4.out H5.out)) (fun hHeld => ?_)
   clear hK K
   refine rd [3, 6] ?_
   refine rc (fun K hK => ?_) ?_
   ·
    go_simp
    (with_reducible refine (timed_walk _ _).mono ?_)
    rintro e v4 ⟨rfl, hb⟩
    have H4 := bAt hb H4
    have H5 := bAt hb H5
    have RES := bAt hb RES
    have BP := bTr BP hb
    clear hb
    refine kk hK ((mkS H4.out H5.out)) (fun hHeld => ?_)
    clear hK K
    refine rd [5, 6] ?_
    refine rc (fun K hK => ?_) ?_
    ·
     go_simp
     have ORES := cells_lt RES.out
     obtain ⟨b1, v5, hv5, FB, hb, hbl, hsz⟩ := fresh_row v4 #[.func (.func 106) #[] #[], .int .i64 1, .int .i64 1000000, .nilFunc, .func (.func 110) #[] #[], .int .i64 0, .int .i64 1000000, .nilFunc, .func (.func 116) #[] #[], .int .i64 0, .int .i64 1000000, .nilFunc, .func (.func 107) #[] #[], .int .i64 1, .int .i64 1000000, .nilFunc] 109
     have H4 := bAt hb H4
     have H5 := bAt hb H5
     have RES := bAt hb RES
     have ZFB := hZ (And.intro (Nat.le_trans BP.out.size (Nat.le_of_eq hbl)) (hbl ▸ ORES))
     have BP := bTr BP hb
     rw [hbl, hv5]
     clear hv5 hb hbl hsz ORES
     refine kk hK ((mkS H4.out H5.out)) (fun hHeld => ?_)
     clear hK K
     refine rd [6] ?_
     refine rcE fun K hK => ?_
     go_simp
     have ORES := cells_lt RES.out
     obtain ⟨b2, v6, hv6, FR, hb, hbl, hsz⟩ := fresh_row v5 #[.func (.func 117) #[] #[]] 45
     have H4 := bAt hb H4
     have H5 := bAt hb H5
     have RES := bAt hb RES
     have FB := bAt hb FB
     have ZFR := hZ (And.intro (Nat.le_trans BP.out.size (Nat.le_of_eq hbl)) (hbl ▸ ORES))
     have BP := bTr BP hb
     rw [hbl, hv6]
     clear hv6 hb hbl hsz ORES
     refine kk hK ((mkS H4.out H5.out)) (fun hHeld => ?_)
     clear hK K
     have HX := (And.intro H4 (And.intro H5 (And.intro RES (And.intro FB (And.intro FR (And.intro ZFB (And.intro ZFR (And.intro BP hHeld))))))))
     exact N0 v6 b1 b2 HX
    refine rcE fun K hK => ?_
    go_simp
    have ORES := cells_lt RES.out
    obtain ⟨b2, v7, hv7, FR, hb, hbl, hsz⟩ := fresh_row v4 #[.func (.func 117) #[] #[]] 45
    have H4 := bAt hb H4
    have H5 := bAt hb H5
    have RES := bAt hb RES
    have ZFR := hZ (And.intro (Nat.le_trans BP.out.size (Nat.le_of_eq hbl)) (hbl ▸ ORES))
    have BP := bTr BP hb
    rw [hbl, hv7]
    clear hv7 hb hbl hsz ORES
    refine kk hK ((mkS H4.out H5.out)) (fun hHeld => ?_)
    clear hK K
    have HX := (And.intro H4 (And.intro H5 (And.intro RES (And.intro FR (And.intro ZFR (And.intro BP hHeld))))))
    exact N1 v7 b2 HX
   refine rcE fun K hK => ?_
   go_simp
   have ORES := cells_lt RES.out
   obtain ⟨b2, v8, hv8, FR, hb, hbl, hsz⟩ := fresh_row v3 #[.func (.func 117) #[] #[]] 45
   have H4 := bAt hb H4
   have H5 := bAt hb H5
   have RES := bAt hb RES
   have ZFR := hZ (And.intro (Nat.le_trans BP.out.size (Nat.le_of_eq hbl)) (hbl ▸ ORES))
   have BP := bTr BP hb
   rw [hbl, hv8]
   clear hv8 hb hbl hsz ORES
   refine kk hK ((mkS H4.out H5.out)) (fun hHeld => ?_)
   clear hK K
   have HX := (And.intro H4 (And.intro H5 (And.intro RES (And.intro FR (And.intro ZFR (And.intro BP hHeld))))))
   exact N2 v8 b2 HX
  refine rcE fun K hK => ?_
  go_simp
  have ORES := cells_lt RES.out
  obtain ⟨b2, v9, hv9, FR, hb, hbl, hsz⟩ := fresh_row U5 #[.func (.func 117) #[] #[]] 45
  have H4 := bAt hb H4
  have H5 := bAt hb H5
  have RES := bAt hb RES
  have ZFR := hZ (And.intro (Nat.le_trans BP.out.size (Nat.le_of_eq hbl)) (hbl ▸ ORES))
  have BP := bTr BP hb
  rw [hbl, hv9]
  clear hv9 hb hbl hsz ORES
  refine kk hK ((mkS H4.out H5.out)) (fun hHeld => ?_)
  clear hK K
  refine rd [2] ?_
  refine rcE fun K hK => ?_
  go_simp
  (with_reducible refine (timed_walk _ _).mono ?_)
  rintro e v10 ⟨rfl, hb⟩
  have H4 := bAt hb H4
  have H5 := bAt hb H5
  have RES := bAt hb RES
  have FR := bAt hb FR
  have BP := bTr BP hb
  clear hb
  refine kk hK ((mkS H4.out H5.out)) (fun hHeld => ?_)
  clear hK K
  exact N2 v10 b2 ⟨H4, H5, RES, FR, ZFR, BP, hHeld⟩
 ·
  rintro XN2 b2 ⟨H4, H5, RES, FR, ZFR, BP, hHeld⟩
  refine rd [3] ?_
  refine rcE fun K hK => ?_
  go_simp
  (with_reducible refine (timed_walk _ _).mono ?_)
  rintro e v11 ⟨rfl, hb⟩
  have H4 := bAt hb H4
  have H5 := bAt hb H5
  have RES := bAt hb RES
  have FR := bAt hb FR
  have BP := bTr BP hb
  clear hb
  refine kk hK ((mkS H4.out H5.out)) (fun hHeld => ?_)
  clear hK K
  exact N1 v11 b2 ⟨H4, H5, RES, FR, ZFR, BP, hHeld⟩
 ·
  rintro XN1 b2 ⟨H4, H5, RES, FR, ZFR, BP, hHeld⟩
  refine rd [5] ?_
  refine rcE fun K hK => ?_
  go_simp
  have ORES := cells_lt RES.out
  obtain ⟨b1, v12, hv12, FB, hb, hbl, hsz⟩ := fresh_row XN1 #[.func (.func 106) #[] #[], .int .i64 1, .int .i64 1000000, .nilFunc, .func (.func 110) #[] #[], .int .i64 0, .int .i64 1000000, .nilFunc, .func (.func 116) #[] #[], .int .i64 0, .int .i64 1000000, .nilFunc, .func (.func 107) #[] #[], .int .i64 1, .int .i64 1000000, .nilFunc] 109
  have H4 := bAt hb H4
  have H5 := bAt hb H5
  have RES := bAt hb RES
  have FR := bAt hb FR
  have ZFB := hZ (And.intro (Nat.le_trans BP.out.size (Nat.le_of_eq hbl)) (hbl ▸ ORES))
  have BP := bTr BP hb
  rw [hbl, hv12]
  clear hv12 hb hbl hsz ORES
  refine kk hK ((mkS H4.out H5.out)) (fun hHeld => ?_)
  clear hK K
  exact N0 v12 b1 b2 ⟨H4, H5, RES, FB, FR, ZFB, ZFR, BP, hHeld⟩
 ·
  rintro XN0 b1 b2 ⟨H4, H5, RES, FB, FR, ZFB, ZFR, BP, hHeld⟩
  refine rd [7] ?_
  refine rcE fun K hK => ?_
  go_simp
  (with_reducible refine (of_walk _ _ _ _ _ _ _ _ _ _).mono ?_)
  rintro e v13 ⟨rfl, hb⟩
  have H4 := bAt hb H4
  have H5 := bAt hb H5
  have RES := bAt hb RES
  have FB := bAt hb FB
  have FR := bAt hb FR
  have BP := bTr BP hb
  clear hb
  refine kk hK ((mkS H4.out H5.out)) (fun hHeld => ?_)
  clear hK K
  refine rd [8] ?_
  refine rcE fun K hK => ?_
  obtain ⟨r0, r1, r2, r3, r4, r5⟩ := free6 RES.out; obtain ⟨q0, q1, q2, q3, q4, q5⟩ := all6 RES.out
  go_simp
  have FIN0 := put6 RES.out (.slice (some ⟨b1, 0, none⟩) 4 4) (.func (.func 106) #[] #[]) (.int .i64 1) (.int .i64 1000000) (.nilFunc) (.slice (some ⟨b2, 0, none⟩) 1 1)
  have hne := HNE.out
  have H4 := hZ ((put6_other (r := p2) hne.1 (.slice (some ⟨b1, 0, none⟩) 4 4) (.func (.func 106) #[] #[]) (.int .i64 1) (.int .i64 1000000) (.nilFunc) (.slice (some ⟨b2, 0, none⟩) 1 1)).trans H4.out)
  have H5 := hZ ((put6_other (r := p2) hne.2.1 (.slice (some ⟨b1, 0, none⟩) 4 4) (.func (.func 106) #[] #[]) (.int .i64 1) (.int .i64 1000000) (.nilFunc) (.slice (some ⟨b2, 0, none⟩) 1 1)).trans H5.out)
  have FB := hZ ((put6_other (r := p2) (by have := ZFB.out; omega) (.slice (some ⟨b1, 0, none⟩) 4 4) (.func (.func 106) #[] #[]) (.int .i64 1) (.int .i64 1000000) (.nilFunc) (.slice (some ⟨b2, 0, none⟩) 1 1)).trans FB.out)
  have FR := hZ ((put6_other (r := p2) (by have := ZFR.out; omega) (.slice (some ⟨b1, 0, none⟩) 4 4) (.func (.func 106) #[] #[]) (.int .i64 1) (.int .i64 1000000) (.nilFunc) (.slice (some ⟨b2, 0, none⟩) 1 1)).trans FR.out)
  have BP := hZ (put6_below (r := p2) BP.out HP2.out (.slice (some ⟨b1, 0, none⟩) 4 4) (.func (.func 106) #[] #[]) (.int .i64 1) (.int .i64 1000000) (.nilFunc) (.slice (some ⟨b2, 0, none⟩) 1 1))
  have FIN := hZ FIN0
  obtain ⟨v14, hv14⟩ := oQ (((((((v13.setCell ⟨p2, 0, none⟩ (.slice (some ⟨b1, 0, none⟩) 4 4)).setCell ⟨p2, 1, none⟩ (.func (.func 106) #[] #[])).setCell ⟨p2, 2, none⟩ (.int .i64 1)).setCell ⟨p2, 3, none⟩ (.int .i64 1000000)).setCell ⟨p2, 4, none⟩ (.nilFunc)).setCell ⟨p2, 5, none⟩ (.slice (some ⟨b2, 0, none⟩) 1 1)))
  rw [hv14] at H4 H5 FB FR BP FIN ⊢
  clear hv14 r0 r1 r2 r3 r4 r5 q0 q1 q2 q3 q4 q5 hne FIN0
  refine kk hK ((mkS H4.out H5.out)) (fun hHeld => ?_)
  clear hK K
  refine tk 9 ?_
  refine dn ?_
  go_wp2
  refine bodyPost_ret (results_celltmp rfl _ _ p2 [.slice (some ⟨b1, 0, none⟩) 4 4, .func (.func 106) #[] #[], .int .i64 1, .int .i64 1000000, .nilFunc, .slice (some ⟨b2, 0, none⟩) 1 1] _ rfl (range_of FIN.out) Tryz.underlying112 rfl (by kernel_rfl)) rfl ⟨_, rfl, ⟨b1, _, _, rfl, ZFB.out.1, FB.out, .inr ⟨b2, rfl, rfl, ZFR.out.1, FR.out⟩⟩, BP.out⟩
set_option maxRecDepth 100000 in
set_option maxHeartbeats 8000000 in
theorem shape4 (w : World) : Calls Tryz.prog 62 #[.int .i64 4] w (ShapeP w ⟨[.num 106 1, .num 110 0, .num 116 0, .num 107 1], 106, [117]⟩) := by
 go_enter Tryz.func62, Tryz.ntmps62
 go_wp2_with (first
  | (go_at_call 105; (with_reducible refine (numbered_walk _ _).mono ?_); rintro e v1 ⟨rfl, hb⟩; have RES := hZ (below_at2 hb (World.alloc_heap_new w _)); have BP := hZ ((below_new w _).trans (hb.mono (below_new w _).size)); clear hb)
  | (go_at_call 105; (with_reducible refine (numbered_walk _ _).mono ?_); rintro e v2 ⟨rfl, hb⟩; have RES := bAt hb RES; have BP := bTr BP hb; clear hb)
  | fail)
 obtain ⟨k1, k2, k3, k4⟩ := two_boxes v2 #[.func (.func 106) #[] #[], .int .i64 1, .int .i64 1000000, .nilFunc] #[.func (.func 107) #[] #[], .int .i64 1, .int .i64 1000000, .nilFunc] 109 109
 have hlt := cells_lt RES.out
 have RES := bAt k4 RES
 have BP := bTr BP k4
 obtain ⟨W5, hW5⟩ := oQ ((v2.alloc (.cells #[.func (.func 106) #[] #[], .int .i64 1, .int .i64 1000000, .nilFunc] 109)).alloc (.cells #[.func (.func 107) #[] #[], .int .i64 1, .int .i64 1000000, .nilFunc] 109))
 rw [hW5] at k1 k2 k3 k4 RES BP
 rw [hW5]
 obtain ⟨p2, hp2⟩ := oQ (w.heap.size)
 obtain ⟨p4, hp4⟩ := oQ (v2.heap.size)
 rw [hp4] at k1 k2 hlt
 rw [hp4]
 obtain ⟨p5, hp5⟩ := oQ (p4 + 1)
 rw [hp5] at k2
 rw [hp5]
 have HP2 : Hid (w.heap.size ≤ p2) := hZ (by omega)
 rw [hp2] at RES hlt
 rw [hp2]
 have H4 := hZ k1
 have H5 := hZ k2
 have HNE : Hid (p4 ≠ p2 ∧ p5 ≠ p2 ∧ p2 < p4) := hZ ⟨by omega, by omega, by omega⟩
 clear hW5 k1 k2 k3 k4 hp2 hp4 hp5 hlt
 refine wp_region_noPanic ?_
 refine wp_region_held_drew (S := fun V => V.cell? ⟨p4, 0, none⟩ = some (.func (.func 106) #[] #[]) ∧ V.cell? ⟨p4, 1, none⟩ = some (.int .i64 1) ∧ V.cell? ⟨p4, 2, none⟩ = some (.int .i64 1000000) ∧ V.cell? ⟨p4, 3, none⟩ = some (.nilFunc) ∧ V.cell? ⟨p5, 0, none⟩ = some (.func (.func 107) #[] #[]) ∧ V.cell? ⟨p5, 1, none⟩ = some (.int .i64 1) ∧ V.cell? ⟨p5, 2, none⟩ = some (.int .i64 1000000) ∧ V.cell? ⟨p5, 3, none⟩ = some (.nilFunc)) (by kernel_rfl) (mkS H4.out H5.out) (fun hHeld => ?_)
 have BP := hZ (Below.drew BP.out)
 have H4 : Hid (W5.drew.heap[p4]? = _) := H4
 have H5 : Hid (W5.drew.heap[p5]? = _) := H5
 have RES : Hid (W5.drew.heap[p2]? = _) := RES
 obtain ⟨U5, hU5⟩ := oQ (W5.drew)
 rw [hU5] at hHeld BP H4 H5 RES ⊢
 clear hU5
 refine tk 0 ?_
 refine tk 1 ?_
 refine tk 4 ?_
 apply share3
 intro N0
 apply share2
 intro N1
 apply share2
 intro N2
 ·
  refine rd [2, 6] ?_
  refine rc (fun K hK => ?_) ?_
  ·
   go_simp
   (with_reducible refine (timed_walk _ _).mono ?_)
   rintro e v3 ⟨rfl, hb⟩
   have H4 := bAt hb H4
   have H5 := bAt hb H5
   have RES := bAt hb RES
   have BP := bTr BP hb
   clear hb
   refine kk hK ((mkS H4.out H5.out)) (fun hHeld => ?_)
   clear hK K
   refine rd [3, 6] ?_
   refine rc (fun K hK => ?_) ?_
   ·
    go_simp
    (with_reducible refine (timed_walk _ _).mono ?_)
    rintro e v4 ⟨rfl, hb⟩
    have H4 := bAt hb H4
    have H5 := bAt hb H5
    have RES := bAt hb RES
    have BP := bTr BP hb
    clear hb
    refine kk hK ((mkS H4.out H5.out)) (fun hHeld => ?_)
    clear hK K
    refine rd [5, 6] ?_
    refine rc (fun K hK => ?_) ?_
    ·
     go_simp
     have ORES := cells_lt RES.out
     obtain ⟨b1, v5, hv5, FB, hb, hbl, hsz⟩ := fresh_row v4 #[.func (.func 106) #[] #[], .int .i64 1, .int .i64 1000000, .nilFunc, .func (.func 110) #[] #[], .int .i64 0, .int .i64 1000000, .nilFunc, .func (.func 116) #[] #[], .int .i64 0, .int .i64 1000000, .nilFunc, .func (.func 107) #[] #[], .int .i64 1, .int .i64 1000000, .nilFunc] 109
     have H4 := bAt hb H4
     have H5 := bAt hb H5
     have RES := bAt hb RES
     have ZFB := hZ (And.intro (Nat.le_trans BP.out.size (Nat.le_of_eq hbl)) (hbl ▸ ORES))
     have BP := bTr BP hb
     rw [hbl, hv5]
     clear hv5 hb hbl hsz ORES
     refine kk hK ((mkS H4.out H5.out)) (fun hHeld => ?_)
     clear hK K
     refine rd [6] ?_
     refine rcE fun K hK => ?_
     go_simp
     have ORES := cells_lt RES.out
     obtain ⟨b2, v6, hv6, FR, hb, hbl, hsz⟩ := fresh_row v5 #[.func (.func 117) #[] #[]] 45
     have H4 := bAt hb H4
     have H5 := bAt hb H5
     have RES := bAt hb RES
     have FB := bAt hb FB
     have ZFR := hZ (And.intro (Nat.le_trans BP.out.size (Nat.le_of_eq hbl)) (hbl ▸ ORES))
     have BP := bTr BP hb
     rw [hbl, hv6]
     clear hv6 hb hbl hsz ORES
     refine kk hK ((mkS H4.out H5.out)) (fun hHeld => ?_)
     clear hK K
     have HX := (And.intro H4 (And.intro H5 (And.intro RES (And.intro FB (And.intro FR (And.intro ZFB (And.intro ZFR (And.intro BP hHeld))))))))
     exact N0 v6 b1 b2 HX
    refine rcE fun K hK => ?_
    go_simp
    have ORES := cells_lt RES.out
    obtain ⟨b2, v7, hv7, FR, hb, hbl, hsz⟩ := fresh_row v4 #[.func (.func 117) #[] #[]] 45
    have H4 := bAt hb H4
    have H5 := bAt hb H5
    have RES := bAt hb RES
    have ZFR := hZ (And.intro (Nat.le_trans BP.out.size (Nat.le_of_eq hbl)) (hbl ▸ ORES))
    have BP := bTr BP hb
    rw [hbl, hv7]
    clear hv7 hb hbl hsz ORES
    refine kk hK ((mkS H4.out H5.out)) (fun hHeld => ?_)
    clear hK K
    have HX := (And.intro H4 (And.intro H5 (And.intro RES (And.intro FR (And.intro ZFR (And.intro BP hHeld))))))
    exact N1 v7 b2 HX
   refine rcE fun K hK => ?_
   go_simp
   have ORES := cells_lt RES.out
   obtain ⟨b2, v8, hv8, FR, hb, hbl, hsz⟩ := fresh_row v3 #[.func (.func 117) #[] #[]] 45
   have H4 := bAt hb H4
   have H5 := bAt hb H5
   have RES := bAt hb RES
   have ZFR := hZ (And.intro (Nat.le_trans BP.out.size (Nat.le_of_eq hbl)) (hbl ▸ ORES))
   have BP := bTr BP hb
   rw [hbl, hv8]
   clear hv8 hb hbl hsz ORES
   refine kk hK ((mkS H4.out H5.out)) (fun hHeld => ?_)
   clear hK K
   have HX := (And.intro H4 (And.intro H5 (And.intro RES (And.intro FR (And.intro ZFR (And.intro BP hHeld))))))
   exact N2 v8 b2 HX
  refine rcE fun K hK => ?_
  go_simp
  have ORES := cells_lt RES.out
  obtain ⟨b2, v9, hv9, FR, hb, hbl, hsz⟩ := fresh_row U5 #[.func (.func 117) #[] #[]] 45
  have H4 := bAt hb H4
  have H5 := bAt hb H5
  have RES := bAt hb RES
  have ZFR := hZ (And.intro (Nat.le_trans BP.out.size (Nat.le_of_eq hbl)) (hbl ▸ ORES))
  have BP := bTr BP hb
  rw [hbl, hv9]
  clear hv9 hb hbl hsz ORES
  refine kk hK ((mkS H4.out H5.out)) (fun hHeld => ?_)
  clear hK K
  refine rd [2] ?_
  refine rcE fun K hK => ?_
  go_simp
  (with_reducible refine (timed_walk _ _).mono ?_)
  rintro e v10 ⟨rfl, hb⟩
  have H4 := bAt hb H4
  have H5 := bAt hb H5
  have RES := bAt hb RES
  have FR := bAt hb FR
  have BP := bTr BP hb
  clear hb
  refine kk hK ((mkS H4.out H5.out)) (fun hHeld => ?_)
  clear hK K
  exact N2 v10 b2 ⟨H4, H5, RES, FR, ZFR, BP, hHeld⟩
 ·
  rintro XN2 b2 ⟨H4, H5, RES, FR, ZFR, BP, hHeld⟩
  refine rd [3] ?_
  refine rcE fun K hK => ?_
  go_simp
  (with_reducible refine (timed_walk _ _).mono ?_)
  rintro e v11 ⟨rfl, hb⟩
  have H4 := bAt hb H4
  have H5 := bAt hb H5
  have RES := bAt hb RES
  have FR := bAt hb FR
  have BP := bTr BP hb
  clear hb
  refine kk hK ((mkS H4.out H5.out)) (fun hHeld => ?_)
  clear hK K
  exact N1 v11 b2 ⟨H4, H5, RES, FR, ZFR, BP, hHeld⟩
 ·
  rintro XN1 b2 ⟨H4, H5, RES, FR, ZFR, BP, hHeld⟩
  refine rd [5] ?_
  refine rcE fun K hK => ?_
  go_simp
  have ORES := cells_lt RES.out
  obtain ⟨b1, v12, hv12, FB, hb, hbl, hsz⟩ := fresh_row XN1 #[.func (.func 106) #[] #[], .int .i64 1, .int .i64 1000000, .nilFunc, .func (.func 110) #[] #[], .int .i64 0, .int .i64 1000000, .nilFunc, .func (.func 116) #[] #[], .int .i64 0, .int .i64 1000000, .nilFunc, .func (.func 107) #[] #[], .int .i64 1, .int .i64 1000000, .nilFunc] 109
  have H4 := bAt hb H4
  have H5 := bAt hb H5
  have RES := bAt hb RES
  have FR := bAt hb FR
  have ZFB := hZ (And.intro (Nat.le_trans BP.out.size (Nat.le_of_eq hbl)) (hbl ▸ ORES))
  have BP := bTr BP hb
  rw [hbl, hv12]
  clear hv12 hb hbl hsz ORES
  refine kk hK ((mkS H4.out H5.out)) (fun hHeld => ?_)
  clear hK K
  exact N0 v12 b1 b2 ⟨H4, H5, RES, FB, FR, ZFB, ZFR, BP, hHeld⟩
 ·
  rintro XN0 b1 b2 ⟨H4, H5, RES, FB, FR, ZFB, ZFR, BP, hHeld⟩
  refine rd [7] ?_
  refine rcE fun K hK => ?_
  go_simp
  (with_reducible refine (of_walk _ _ _ _ _ _ _ _ _ _).mono ?_)
  rintro e v13 ⟨rfl, hb⟩
  have H4 := bAt hb H4
  have H5 := bAt hb H5
  have RES := bAt hb RES
  have FB := bAt hb FB
  have FR := bAt hb FR
  have BP := bTr BP hb
  clear hb
  refine kk hK ((mkS H4.out H5.out)) (fun hHeld => ?_)
  clear hK K
  refine rd [8] ?_
  refine rcE fun K hK => ?_
  obtain ⟨r0, r1, r2, r3, r4, r5⟩ := free6 RES.out; obtain ⟨q0, q1, q2, q3, q4, q5⟩ := all6 RES.out
  go_simp
  have FIN0 := put6 RES.out (.slice (some ⟨b1, 0, none⟩) 4 4) (.func (.func 106) #[] #[]) (.int .i64 1) (.int .i64 1000000) (.nilFunc) (.slice (some ⟨b2, 0, none⟩) 1 1)
  have hne := HNE.out
  have H4 := hZ ((put6_other (r := p2) hne.1 (.slice (some ⟨b1, 0, none⟩) 4 4) (.func (.func 106) #[] #[]) (.int .i64 1) (.int .i64 1000000) (.nilFunc) (.slice (some ⟨b2, 0, none⟩) 1 1)).trans H4.out)
  have H5 := hZ ((put6_other (r := p2) hne.2.1 (.slice (some ⟨b1, 0, none⟩) 4 4) (.func (.func 106) #[] #[]) (.int .i64 1) (.int .i64 1000000) (.nilFunc) (.slice (some ⟨b2, 0, none⟩) 1 1)).trans H5.out)
  have FB := hZ ((put6_other (r := p2) (by have := ZFB.out; omega) (.slice (some ⟨b1, 0, none⟩) 4 4) (.func (.func 106) #[] #[]) (.int .i64 1) (.int .i64 1000000) (.nilFunc) (.slice (some ⟨b2, 0, none⟩) 1 1)).trans FB.out)
  have FR := hZ ((put6_other (r := p2) (by have := ZFR.out; omega) (.slice (some ⟨b1, 0, none⟩) 4 4) (.func (.func 106) #[] #[]) (.int .i64 1) (.int .i64 1000000) (.nilFunc) (.slice (some ⟨b2, 0, none⟩) 1 1)).trans FR.out)
  have BP := hZ (put6_below (r := p2) BP.out HP2.out (.slice (some ⟨b1, 0, none⟩) 4 4) (.func (.func 106) #[] #[]) (.int .i64 1) (.int .i64 1000000) (.nilFunc) (.slice (some ⟨b2, 0, none⟩) 1 1))
  have FIN := hZ FIN0
  obtain ⟨v14, hv14⟩ := oQ (((((((v13.setCell ⟨p2, 0, none⟩ (.slice (some ⟨b1, 0, none⟩) 4 4)).setCell ⟨p2, 1, none⟩ (.func (.func 106) #[] #[])).setCell ⟨p2, 2, none⟩ (.int .i64 1)).setCell ⟨p2, 3, none⟩ (.int .i64 1000000)).setCell ⟨p2, 4, none⟩ (.nilFunc)).setCell ⟨p2, 5, none⟩ (.slice (some ⟨b2, 0, none⟩) 1 1)))
  rw [hv14] at H4 H5 FB FR BP FIN ⊢
  clear hv14 r0 r1 r2 r3 r4 r5 q0 q1 q2 q3 q4 q5 hne FIN0
  refine kk hK ((mkS H4.out H5.out)) (fun hHeld => ?_)
  clear hK K
  refine tk 9 ?_
  refine dn ?_
  go_wp2
  refine bodyPost_ret (results_celltmp rfl _ _ p2 [.slice (some ⟨b1, 0, none⟩) 4 4, .func (.func 106) #[] #[], .int .i64 1, .int .i64 1000000, .nilFunc, .slice (some ⟨b2, 0, none⟩) 1 1] _ rfl (range_of FIN.out) Tryz.underlying112 rfl (by kernel_rfl)) rfl ⟨_, rfl, ⟨b1, _, _, rfl, ZFB.out.1, FB.out, .inr ⟨b2, rfl, rfl, ZFR.out.1, FR.out⟩⟩, BP.out⟩
set_option maxRecDepth 100000 in
set_option maxHeartbeats 8000000 in
theorem shape5 (w : World) : Calls Tryz.prog 62 #[.int .i64 5] w (ShapeP w ⟨[.num 106 1, .num 110 0, .num 116 0, .num 111 1, .txt 118], 106, [117, 119]⟩) := by
 go_enter Tryz.func62, Tryz.ntmps62
 go_wp2_with (first
  | (go_at_call 105; (with_reducible refine (numbered_walk _ _).mono ?_); rintro e v1 ⟨rfl, hb⟩; have RES := hZ (below_at2 hb (World.alloc_heap_new w _)); have BP := hZ ((below_new w _).trans (hb.mono (below_new w _).size)); clear hb)
  | (go_at_call 105; (with_reducible refine (numbered_walk _ _).mono ?_); rintro e v2 ⟨rfl, hb⟩; have RES := bAt hb RES; have BP := bTr BP hb; clear hb)
  | fail)
 obtain ⟨k1, k2, k3, k4⟩ := two_boxes v2 #[.func (.func 106) #[] #[], .int .i64 1, .int .i64 1000000, .nilFunc] #[.func (.func 107) #[] #[], .int .i64 1, .int .i64 1000000, .nilFunc] 109 109
 have hlt := cells_lt RES.out
 have RES := bAt k4 RES
 have BP := bTr BP k4
 obtain ⟨W5, hW5⟩ := oQ ((v2.alloc (.cells #[.func (.func 106) #[] #[], .int .i64 1, .int .i64 1000000, .nilFunc] 109)).alloc (.cells #[.func (.func 107) #[] #[], .int .i64 1, .int .i64 1000000, .nilFunc] 109))
 rw [hW5] at k1 k2 k3 k4 RES BP
 rw [hW5]
 obtain ⟨p2, hp2⟩ := oQ (w.heap.size)
 obtain ⟨p4, hp4⟩ := oQ (v2.heap.size)
 rw [hp4] at k1 k2 hlt
 rw [hp4]
 obtain ⟨p5, hp5⟩ := oQ (p4 + 1)
 rw [hp5] at k2
 rw [hp5]
 have HP2 : Hid (w.heap.size ≤ p2) := hZ (by omega)
 rw [hp2] at RES hlt
 rw [hp2]
 have H4 := hZ k1
 have H5 := hZ k2
 have HNE : Hid (p4 ≠ p2 ∧ p5 ≠ p2 ∧ p2 < p4) := hZ ⟨by omega, by omega, by omega⟩
 clear hW5 k1 k2 k3 k4 hp2 hp4 hp5 hlt
 refine wp_region_noPanic ?_
 refine wp_region_held_drew (S := fun V => V.cell? ⟨p4, 0, none⟩ = some (.func (.func 106) #[] #[]) ∧ V.cell? ⟨p4, 1, none⟩ = some (.int .i64 1) ∧ V.cell? ⟨p4, 2, none⟩ = some (.int .i64 1000000) ∧ V.cell? ⟨p4, 3, none⟩ = some (.nilFunc) ∧ V.cell? ⟨p5, 0, none⟩ = some (.func (.func 107) #[] #[]) ∧ V.cell? ⟨p5, 1, none⟩ = some (.int .i64 1) ∧ V.cell? ⟨p5, 2, none⟩ = some (.int .i64 1000000) ∧ V.cell? ⟨p5, 3, none⟩ = some (.nilFunc)) (by kernel_rfl) (mkS H4.out H5.out) (fun hHeld => ?_)
 have BP := hZ (Below.drew BP.out)
 have H4 : Hid (W5.drew.heap[p4]? = _) := H4
 have H5 : Hid (W5.drew.heap[p5]? = _) := H5
 have RES : Hid (W5.drew.heap[p2]? = _) := RES
 obtain ⟨U5, hU5⟩ := oQ (W5.drew)
 rw [hU5] at hHeld BP H4 H5 RES ⊢
 clear hU5
 refine tk 0 ?_
 refine tk 1 ?_
 refine tk 5 ?_
 apply share3
 intro N0
 apply share2
 intro N1
 apply share2
 intro N2
 apply share2
 intro N3
 ·
  refine rd [2, 7] ?_
  refine rc (fun K hK => ?_) ?_
  ·
   go_simp
   (with_reducible refine (timed_walk _ _).mono ?_)
   rintro e v3 ⟨rfl, hb⟩
   have H4 := bAt hb H4
   have H5 := bAt hb H5
   have RES := bAt hb RES
   have BP := bTr BP hb
   clear hb
   refine kk hK ((mkS H4.out H5.out)) (fun hHeld => ?_)
   clear hK K
   refine rd [3, 7] ?_
   refine rc (fun K hK => ?_) ?_
   ·
    go_simp
    (with_reducible refine (timed_walk _ _).mono ?_)
    rintro e v4 ⟨rfl, hb⟩
    have H4 := bAt hb H4
    have H5 := bAt hb H5
    have RES := bAt hb RES
    have BP := bTr BP hb
    clear hb
    refine kk hK ((mkS H4.out H5.out)) (fun hHeld => ?_)
    clear hK K
    refine rd [4, 7] ?_
    refine rc (fun K hK => ?_) ?_
    ·
     go_simp
     (with_reducible refine (numbered_walk _ _).mono ?_)
     rintro e v5 ⟨rfl, hb⟩
     have H4 := bAt hb H4
     have H5 := bAt hb H5
     have RES := bAt hb RES
     have BP := bTr BP hb
     clear hb
     refine kk hK ((mkS H4.out H5.out)) (fun hHeld => ?_)
     clear hK K
     refine rd [6, 7] ?_
     refine rc (fun K hK => ?_) ?_
     ·
      go_simp
      have ORES := cells_lt RES.out
      obtain ⟨b1, v6, hv6, FB, hb, hbl, hsz⟩ := fresh_row v5 #[.func (.func 106) #[] #[], .int .i64 1, .int .i64 1000000, .nilFunc, .func (.func 110) #[] #[], .int .i64 0, .int .i64 1000000, .nilFunc, .func (.func 116) #[] #[], .int .i64 0, .int .i64 1000000, .nilFunc, .func (.func 111) #[] #[], .int .i64 1, .int .i64 1000000, .nilFunc, .nilFunc, .int .i64 0, .int .i64 0, .func (.func 118) #[] #[]] 109
      have H4 := bAt hb H4
      have H5 := bAt hb H5
      have RES := bAt hb RES
      have ZFB := hZ (And.intro (Nat.le_trans BP.out.size (Nat.le_of_eq hbl)) (hbl ▸ ORES))
      have BP := bTr BP hb
      rw [hbl, hv6]
      clear hv6 hb hbl hsz ORES
      refine kk hK ((mkS H4.out H5.out)) (fun hHeld => ?_)
      clear hK K
      refine rd [7] ?_
      refine rcE fun K hK => ?_
      go_simp
      have ORES := cells_lt RES.out
      obtain ⟨b2, v7, hv7, FR, hb, hbl, hsz⟩ := fresh_row v6 #[.func (.func 117) #[] #[], .func (.func 119) #[] #[]] 45
      have H4 := bAt hb H4
      have H5 := bAt hb H5
      have RES := bAt hb RES
      have FB := bAt hb FB
      have ZFR := hZ (And.intro (Nat.le_trans BP.out.size (Nat.le_of_eq hbl)) (hbl ▸ ORES))
      have BP := bTr BP hb
      rw [hbl, hv7]
      clear hv7 hb hbl hsz ORES
      refine kk hK ((mkS H4.out H5.out)) (fun hHeld => ?_)
      clear hK K
      have HX := (And.intro H4 (And.intro H5 (And.intro RES (And.intro FB (And.intro FR (And.intro ZFB (And.intro ZFR (And.intro BP hHeld))))))))
      exact N0 v7 b1 b2 HX
     refine rcE fun K hK => ?_
     go_simp
     have ORES := cells_lt RES.out
     obtain ⟨b2, v8, hv8, FR, hb, hbl, hsz⟩ := fresh_row v5 #[.func (.func 117) #[] #[], .func (.func 119) #[] #[]] 45
     have H4 := bAt hb H4
     have H5 := bAt hb H5
     have RES := bAt hb RES
     have ZFR := hZ (And.intro (Nat.le_trans BP.out.size (Nat.le_of_eq hbl)) (hbl ▸ ORES))
     have BP := bTr BP hb
     rw [hbl, hv8]
     clear hv8 hb hbl hsz ORES
     refine kk hK ((mkS H4.out H5.out)) (fun hHeld => ?_)
     clear hK K
     have HX := (And.intro H4 (And.intro H5 (And.intro RES (And.intro FR (And.intro ZFR (And.intro BP hHeld))))))
     exact N1 v8 b2 HX
    refine rcE fun K hK => ?_
    go_simp
    have ORES := cells_lt RES.out
    obtain ⟨b2, v9, hv9, FR, hb, hbl, hsz⟩ := fresh_row v4 #[.func (.func 117) #[] #[], .func (.func 119) #[] #[]] 45
    have H4 := bAt hb H4
    have H5 := bAt hb H5
    have RES := bAt hb RES
    have ZFR := hZ (And.intro (Nat.le_trans BP.out.size (Nat.le_of_eq hbl)) (hbl ▸ ORES))
    have BP := bTr BP hb
    rw [hbl, hv9]
    clear hv9 hb hbl hsz ORES
    refine kk hK ((mkS H4.out H5.out)) (fun hHeld => ?_)
    clear hK K
    have HX := (And.intro H4 (And.intro H5 (And.intro RES (And.intro FR (And.intro ZFR (And.intro BP hHeld))))))
    exact N2 v9 b2 HX
   refine rcE fun K hK => ?_
   go_simp
   have ORES := cells_lt RES.out
   obtain ⟨b2, v10, hv10, FR, hb, hbl, hsz⟩ := fresh_row v3 #[.func (.func 117) #[] #[], .func (.func 119) #[] #[]] 45
   have H4 := bAt hb H4
   have H5 := bAt hb H5
   have RES := bAt hb RES
   have ZFR := hZ (And.intro (Nat.le_trans BP.out.size (Nat.le_of_eq hbl)) (hbl ▸ ORES))
   have BP := bTr BP hb
   rw [hbl, hv10]
   clear hv10 hb hbl hsz ORES
   refine kk hK ((mkS H4.out H5.out)) (fun hHeld => ?_)
   clear hK K
   have HX := (And.intro H4 (And.intro H5 (And.intro RES (And.intro FR (And.intro ZFR (And.intro BP hHeld))))))
   exact N3 v10 b2 HX
  refine rcE fun K hK => ?_
  go_simp
  have ORES := cells_lt RES.out
  obtain ⟨b2, v11, hv11, FR, hb, hbl, hsz⟩ := fresh_row U5 #[.func (.func 117) #[] #[], .func (.func 119) #[] #[]] 45
  have H4 := bAt hb H4
  have H5 := bAt hb H5
  have RES := bAt hb RES
  have ZFR := hZ (And.intro (Nat.le_trans BP.out.size (Nat.le_of_eq hbl)) (hbl ▸ ORES))
  have BP := bTr BP hb
  rw [hbl, hv11]
  clear hv11 hb hbl hsz ORES
  refine kk hK ((mkS H4.out H5.out)) (fun hHeld => ?_)
  clear hK K
  refine rd [2] ?_
  refine rcE fun K hK => ?_
  go_simp
  (with_reducible refine (timed_walk _ _).mono ?_)
  rintro e v12 ⟨rfl, hb⟩
  have H4 := bAt hb H4
  have H5 := bAt hb H5
  have RES := bAt hb RES
  have FR := bAt hb FR
  have BP := bTr BP hb
  clear hb
  refine kk hK ((mkS H4.out H5.out)) (fun hHeld => ?_)
  clear hK K
  exact N3 v12 b2 ⟨H4, H5, RES, FR, ZFR, BP, hHeld⟩
 ·
  rintro XN3 b2 ⟨H4, H5, RES, FR, ZFR, BP, hHeld⟩
  refine rd [3] ?_
  refine rcE fun K hK => ?_
  go_simp
  (with_reducible refine (timed_walk _ _).mono ?_)
  rintro e v13 ⟨rfl, hb⟩
  have H4 := bAt hb H4
  have H5 := bAt hb H5
  have RES := bAt hb RES
  have FR := bAt hb FR
  have BP := bTr BP hb
  clear hb
  refine kk hK ((mkS H4.out H5.out)) (fun hHeld => ?_)
  clear hK K
  exact N2 v13 b2 ⟨H4, H5, RES, FR, ZFR, BP, hHeld⟩
 ·
  rintro XN2 b2 ⟨H4, H5, RES, FR, ZFR, BP, hHeld⟩
  refine rd [4] ?_
  refine rcE fun K hK => ?_
  go_simp
  (with_reducible refine (numbered_walk _ _).mono ?_)
  rintro e v14 ⟨rfl, hb⟩
  have H4 := bAt hb H4
  have H5 := bAt hb H5
  have RES := bAt hb RES
  have FR := bAt hb FR
  have BP := bTr BP hb
  clear hb
  refine kk hK ((mkS H4.out H5.out)) (fun hHeld => ?_)
  clear hK K
  exact N1 v14 b2 ⟨H4, H5, RES, FR, ZFR, BP, hHeld⟩
 ·
  rintro XN1 b2 ⟨H4, H5, RES, FR, ZFR, BP, hHeld⟩
  refine rd [6] ?_
  refine rcE fun K hK => ?_
  go_simp
  have ORES := cells_lt RES.out
  obtain ⟨b1, v15, hv15, FB, hb, hbl, hsz⟩ := fresh_row XN1 #[.func (.func 106) #[] #[], .int .i64 1, .int .i64 1000000, .nilFunc, .func (.func 110) #[] #[], .int .i64 0, .int .i64 1000000, .nilFunc, .func (.func 116) #[] #[], .int .i64 0, .int .i64 1000000, .nilFunc, .func (.func 111) #[] #[], .int .i64 1, .int .i64 1000000, .nilFunc, .nilFunc, .int .i64 0, .int .i64 0, .func (.func 118) #[] #[]] 109
  have H4 := bAt hb H4
  have H5 := bAt hb H5
  have RES := bAt hb RES
  have FR := bAt hb FR
  have ZFB := hZ (And.intro (Nat.le_trans BP.out.size (Nat.le_of_eq hbl)) (hbl ▸ ORES))
  have BP := bTr BP hb
  rw [hbl, hv15]
  clear hv15 hb hbl hsz ORES
  refine kk hK ((mkS H4.out H5.out)) (fun hHeld => ?_)
  clear hK K
  exact N0 v15 b1 b2 ⟨H4, H5, RES, FB, FR, ZFB, ZFR, BP, hHeld⟩
 ·
  rintro XN0 b1 b2 ⟨H4, H5, RES, FB, FR, ZFB, ZFR, BP, hHeld⟩
  refine rd [8] ?_
  refine rcE fun K hK => ?_
  go_simp
  (with_reducible refine (of_walk _ _ _ _ _ _ _ _ _ _).mono ?_)
  rintro e v16 ⟨rfl, hb⟩
  have H4 := bAt hb H4
  have H5 := bAt hb H5
  have RES := bAt hb RES
  have FB := bAt hb FB
  have FR := bAt hb FR
  have BP := bTr BP hb
  clear hb
  refine kk hK ((mkS H4.out H5.out)) (fun hHeld => ?_)
  clear hK K
  refine rd [9] ?_
  refine rcE fun K hK => ?_
  obtain ⟨r0, r1, r2, r3, r4, r5⟩ := free6 RES.out; obtain ⟨q0, q1, q2, q3, q4, q5⟩ := all6 RES.out
  go_simp
  have FIN0 := put6 RES.out (.slice (some ⟨b1, 0, none⟩) 5 5) (.func (.func 106) #[] #[]) (.int .i64 1) (.int .i64 1000000) (.nilFunc) (.slice (some ⟨b2, 0, none⟩) 2 2)
  have hne := HNE.out
  have H4 := hZ ((put6_other (r := p2) hne.1 (.slice (some ⟨b1, 0, none⟩) 5 5) (.func (.func 106) #[] #[]) (.int .i64 1) (.int .i64 1000000) (.nilFunc) (.slice (some ⟨b2, 0, none⟩) 2 2)).trans H4.out)
  have H5 := hZ ((put6_other (r := p2) hne.2.1 (.slice (some ⟨b1, 0, none⟩) 5 5) (.func (.func 106) #[] #[]) (.int .i64 1) (.int .i64 1000000) (.nilFunc) (.slice (some ⟨b2, 0, none⟩) 2 2)).trans H5.out)
  have FB := hZ ((put6_other (r := p2) (by have := ZFB.out; omega) (.slice (some ⟨b1, 0, none⟩) 5 5) (.func (.func 106) #[] #[]) (.int .i64 1) (.int .i64 1000000) (.nilFunc) (.slice (some ⟨b2, 0, none⟩) 2 2)).trans FB.out)
  have FR := hZ ((put6_other (r := p2) (by have := ZFR.out; omega) (.slice (some ⟨b1, 0, none⟩) 5 5) (.func (.func 106) #[] #[]) (.int .i64 1) (.int .i64 1000000) (.nilFunc) (.slice (some ⟨b2, 0, none⟩) 2 2)).trans FR.out)
  have BP := hZ (put6_below (r := p2) BP.out HP2.out (.slice (some ⟨b1, 0, none⟩) 5 5) (.func (.func 106) #[] #[]) (.int .i64 1) (.int .i64 1000000) (.nilFunc) (.slice (some ⟨b2, 0, none⟩) 2 2))
  have FIN := hZ FIN0
  obtain ⟨v17, hv17⟩ := oQ (((((((v16.setCell ⟨p2, 0, none⟩ (.slice (some ⟨b1, 0, none⟩) 5 5)).setCell ⟨p2, 1, none⟩ (.func (.func 106) #[] #[])).setCell ⟨p2, 2, none⟩ (.int .i64 1)).setCell ⟨p2, 3, none⟩ (.int .i64 1000000)).setCell ⟨p2, 4, none⟩ (.nilFunc)).setCell ⟨p2, 5, none⟩ (.slice (some ⟨b2, 0, none⟩) 2 2)))
  rw [hv17] at H4 H5 FB FR BP FIN ⊢
  clear hv17 r0 r1 r2 r3 r4 r5 q0 q1 q2 q3 q4 q5 hne FIN0
  refine kk hK ((mkS H4.out H5.out)) (fun hHeld => ?_)
  clear hK K
  refine tk 10 ?_
  refine dn ?_
  go_wp2
  refine bodyPost_ret (results_celltmp rfl _ _ p2 [.slice (some ⟨b1, 0, none⟩) 5 5, .func (.func 106) #[] #[], .int .i64 1, .int .i64 1000000, .nilFunc, .slice (some ⟨b2, 0, none⟩) 2 2] _ rfl (range_of FIN.out) Tryz.underlying112 rfl (by kernel_rfl)) rfl ⟨_, rfl, ⟨b1, _, _, rfl, ZFB.out.1, FB.out, .inr ⟨b2, rfl, rfl, ZFR.out.1, FR.out⟩⟩, BP.out⟩
set_option maxRecDepth 100000 in
set_option maxHeartbeats 8000000 in
theorem shape6 (w : World) : Calls Tryz.prog 62 #[.int .i64 6] w (ShapeP w ⟨[.num 107 1, .num 110 0], 107, []⟩) := by
 go_enter Tryz.func62, Tryz.ntmps62
 go_wp2_with (first
  | (go_at_call 105; (with_reducible refine (numbered_walk _ _).mono ?_); rintro e v1 ⟨rfl, hb⟩; have RES := hZ (below_at2 hb (World.alloc_heap_new w _)); have BP := hZ ((below_new w _).trans (hb.mono (below_new w _).size)); clear hb)
  | (go_at_call 105; (with_reducible refine (numbered_walk _ _).mono ?_); rintro e v2 ⟨rfl, hb⟩; have RES := bAt hb RES; have BP := bTr BP hb; clear hb)
  | fail)
 obtain ⟨k1, k2, k3, k4⟩ := two_boxes v2 #[.func (.func 106) #[] #[], .int .i64 1, .int .i64 1000000, .nilFunc] #[.func (.func 107) #[] #[], .int .i64 1, .int .i64 1000000, .nilFunc] 109 109
 have hlt := cells_lt RES.out
 have RES := bAt k4 RES
 have BP := bTr BP k4
 obtain ⟨W5, hW5⟩ := oQ ((v2.alloc (.cells #[.func (.func 106) #[] #[], .int .i64 1, .int .i64 1000000, .nilFunc] 109)).alloc (.cells #[.func (.func 107) #[] #[], .int .i64 1, .int .i64 1000000, .nilFunc] 109))
 rw [hW5] at k1 k2 k3 k4 RES BP
 rw [hW5]
 obtain ⟨p2, hp2⟩ := oQ (w.heap.size)
 obtain ⟨p4, hp4⟩ := oQ (v2.heap.size)
 rw [hp4] at k1 k2 hlt
 rw [hp4]
 obtain ⟨p5, hp5⟩ := oQ (p4 + 1)
 rw [hp5] at k2
 rw [hp5]
 have HP2 : Hid (w.heap.size ≤ p2) := hZ (by omega)
 rw [hp2] at RES hlt
 rw [hp2]
 have H4 := hZ k1
 have H5 := hZ k2
 have HNE : Hid (p4 ≠ p2 ∧ p5 ≠ p2 ∧ p2 < p4) := hZ ⟨by omega, by omega, by omega⟩
 clear hW5 k1 k2 k3 k4 hp2 hp4 hp5 hlt
 refine wp_region_noPanic ?_
 refine wp_region_held_drew (S := fun V => V.cell? ⟨p4, 0, none⟩ = some (.func (.func 106) #[] #[]) ∧ V.cell? ⟨p4, 1, none⟩ = some (.int .i64 1) ∧ V.cell? ⟨p4, 2, none⟩ = some (.int .i64 1000000) ∧ V.cell? ⟨p4, 3, none⟩ = some (.nilFunc) ∧ V.cell? ⟨p5, 0, none⟩ = some (.func (.func 107) #[] #[]) ∧ V.cell? ⟨p5, 1, none⟩ = some (.int .i64 1) ∧ V.cell? ⟨p5, 2, none⟩ = some (.int .i64 1000000) ∧ V.cell? ⟨p5, 3, none⟩ = some (.nilFunc)) (by kernel_rfl) (mkS H4.out H5.out) (fun hHeld => ?_)
 have BP := hZ (Below.drew BP.out)
 have H4 : Hid (W5.drew.heap[p4]? = _) := H4
 have H5 : Hid (W5.drew.heap[p5]? = _) := H5
 have RES : Hid (W5.drew.heap[p2]? = _) := RES
 obtain ⟨U5, hU5⟩ := oQ (W5.drew)
 rw [hU5] at hHeld BP H4 H5 RES ⊢
 clear hU5
 refine tk 0 ?_
 refine tk 1 ?_
 refine rd [2] ?_
 refine rcE fun K hK => ?_
 go_simp
 (with_reducible refine (timed_walk _ _).mono ?_)
 rintro e v3 ⟨rfl, hb⟩
 have H4 := bAt hb H4
 have H5 := bAt hb H5
 have RES := bAt hb RES
 have BP := bTr BP hb
 clear hb
 refine kk hK ((mkS H4.out H5.out)) (fun hHeld => ?_)
 clear hK K
 refine rd [3] ?_
 refine rcE fun K hK => ?_
 go_simp
 have ORES := cells_lt RES.out
 obtain ⟨b1, v4, hv4, FB, hb, hbl, hsz⟩ := fresh_row v3 #[.func (.func 107) #[] #[], .int .i64 1, .int .i64 1000000, .nilFunc, .func (.func 110) #[] #[], .int .i64 0, .int .i64 1000000, .nilFunc] 109
 have H4 := bAt hb H4
 have H5 := bAt hb H5
 have RES := bAt hb RES
 have ZFB := hZ (And.intro (Nat.le_trans BP.out.size (Nat.le_of_eq hbl)) (hbl ▸ ORES))
 have BP := bTr BP hb
 rw [hbl, hv4]
 clear hv4 hb hbl hsz ORES
 refine kk hK ((mkS H4.out H5.out)) (fun hHeld => ?_)
 clear hK K
 refine rd [4] ?_
 refine rcE fun K hK => ?_
 go_simp
 (with_reducible refine (of_walk _ _ _ _ _ _ _ _ _ _).mono ?_)
 rintro e v5 ⟨rfl, hb⟩
 have H4 := bAt hb H4
 have H5 := bAt hb H5
 have RES := bAt hb RES
 have FB := bAt hb FB
 have BP := bTr BP hb
 clear hb
 refine kk hK ((mkS H4.out H5.out)) (fun hHeld => ?_)
 clear hK K
 refine rd [5] ?_
 refine rcE fun K hK => ?_
 obtain ⟨r0, r1, r2, r3, r4, r5⟩ := free6 RES.out; obtain ⟨q0, q1, q2, q3, q4, q5⟩ := all6 RES.out
 go_simp
 have FIN0 := put6 RES.out (.slice (some ⟨b1, 0, none⟩) 2 2) (.func (.func 107) #[] #[]) (.int .i64 1) (.int .i64 1000000) (.nilFunc) (.slice none 0 0)
 have hne := HNE.out
 have H4 := hZ ((put6_other (r := p2) hne.1 (.slice (some ⟨b1, 0, none⟩) 2 2) (.func (.func 107) #[] #[]) (.int .i64 1) (.int .i64 1000000) (.nilFunc) (.slice none 0 0)).trans H4.out)
 have H5 := hZ ((put6_other (r := p2) hne.2.1 (.slice (some ⟨b1, 0, none⟩) 2 2) (.func (.func 107) #[] #[]) (.int .i64 1) (.int .i64 1000000) (.nilFunc) (.slice none 0 0)).trans H5.out)
 have FB := hZ ((put6_other (r := p2) (by have := ZFB.out; omega) (.slice (some ⟨b1, 0, none⟩) 2 2) (.func (.func 107) #[] #[]) (.int .i64 1) (.int .i64 1000000) (.nilFunc) (.slice none 0 0)).trans FB.out)
 have BP := hZ (put6_below (r := p2) BP.out HP2.out (.slice (some ⟨b1, 0, none⟩) 2 2) (.func (.func 107) #[] #[]) (.int .i64 1) (.int .i64 1000000) (.nilFunc) (.slice none 0 0))
 have FIN := hZ FIN0
 obtain ⟨v6, hv6⟩ := oQ (((((((v5.setCell ⟨p2, 0, none⟩ (.slice (some ⟨b1, 0, none⟩) 2 2)).setCell ⟨p2, 1, none⟩ (.func (.func 107) #[] #[])).setCell ⟨p2, 2, none⟩ (.int .i64 1)).setCell ⟨p2, 3, none⟩ (.int .i64 1000000)).setCell ⟨p2, 4, none⟩ (.nilFunc)).setCell ⟨p2, 5, none⟩ (.slice none 0 0)))
 rw [hv6] at H4 H5 FB BP FIN ⊢
 clear hv6 r0 r1 r2 r3 r4 r5 q0 q1 q2 q3 q4 q5 hne FIN0
 refine kk hK ((mkS H4.out H5.out)) (fun hHeld => ?_)
 clear hK K
 refine tk 6 ?_
 refine dn ?_
 go_wp2
 refine bodyPost_ret (results_celltmp rfl _ _ p2 [.slice (some ⟨b1, 0, none⟩) 2 2, .func (.func 107) #[] #[], .int .i64 1, .int .i64 1000000, .nilFunc, .slice none 0 0] _ rfl (range_of FIN.out) Tryz.underlying112 rfl (by kernel_rfl)) rfl ⟨_, rfl, ⟨b1, _, _, rfl, ZFB.out.1, FB.out, .inl ⟨rfl, rfl, rfl⟩⟩, BP.out⟩
set_option maxRecDepth 100000 in
set_option maxHeartbeats 8000000 in
theorem shape7 (w : World) : Calls Tryz.prog 62 #[.int .i64 7] w (ShapeP w ⟨[.num 106 1, .num 110 0, .num 116 0, .num 120 1, .num 121 1], 106, [117]⟩) := by
 go_enter Tryz.func62, Tryz.ntmps62
 go_wp2_with (first
  | (go_at_call 105; (with_reducible refine (numbered_walk _ _).mono ?_); rintro e v1 ⟨rfl, hb⟩; have RES := hZ (below_at2 hb (World.alloc_heap_new w _)); have BP := hZ ((below_new w _).trans (hb.mono (below_new w _).size)); clear hb)
  | (go_at_call 105; (with_reducible refine (numbered_walk _ _).mono ?_); rintro e v2 ⟨rfl, hb⟩; have RES := bAt hb RES; have BP := bTr BP hb; clear hb)
  | fail)
 obtain ⟨k1, k2, k3, k4⟩ := two_boxes v2 #[.func (.func 106) #[] #[], .int .i64 1, .int .i64 1000000, .nilFunc] #[.func (.func 107) #[] #[], .int .i64 1, .int .i64 1000000, .nilFunc] 109 109
 have hlt := cells_lt RES.out
 have RES := bAt k4 RES
 have BP := bTr BP k4
 obtain ⟨W5, hW5⟩ := oQ ((v2.alloc (.cells #[.func (.func 106) #[] #[], .int .i64 1, .int .i64 1000000, .nilFunc] 109)).alloc (.cells #[.func (.func 107) #[] #[], .int .i64 1, .int .i64 1000000, .nilFunc] 109))
 rw [hW5] at k1 k2 k3 k4 RES BP
 rw [hW5]
 obtain ⟨p2, hp2⟩ := oQ (w.heap.size)
 obtain ⟨p4, hp4⟩ := oQ (v2.heap.size)
 rw [hp4] at k1 k2 hlt
 rw [hp4]
 obtain ⟨p5, hp5⟩ := oQ (p4 + 1)
 rw [hp5] at k2
 rw [hp5]
 have HP2 : Hid (w.heap.size ≤ p2) := hZ (by omega)
 rw [hp2] at RES hlt
 rw [hp2]
 have H4 := hZ k1
 have H5 := hZ k2
 have HNE : Hid (p4 ≠ p2 ∧ p5 ≠ p2 ∧ p2 < p4) := hZ ⟨by omega, by omega, by omega⟩
 clear hW5 k1 k2 k3 k4 hp2 hp4 hp5 hlt
 refine wp_region_noPanic ?_
 refine wp_region_held_drew (S := fun V => V.cell? ⟨p4, 0, none⟩ = some (.func (.func 106) #[] #[]) ∧ V.cell? ⟨p4, 1, none⟩ = some (.int .i64 1) ∧ V.cell? ⟨p4, 2, none⟩ = some (.int .i64 1000000) ∧ V.cell? ⟨p4, 3, none⟩ = some (.nilFunc) ∧ V.cell? ⟨p5, 0, none⟩ = some (.func (.func 107) #[] #[]) ∧ V.cell? ⟨p5, 1, none⟩ = some (.int .i64 1) ∧ V.cell? ⟨p5, 2, none⟩ = some (.int .i64 1000000) ∧ V.cell? ⟨p5, 3, none⟩ = some (.nilFunc)) (by kernel_rfl) (mkS H4.out H5.out) (fun hHeld => ?_)
 have BP := hZ (Below.drew BP.out)
 have H4 : Hid (W5.drew.heap[p4]? = _) := H4
 have H5 : Hid (W5.drew.heap[p5]? = _) := H5
 have RES : Hid (W5.drew.heap[p2]? = _) := RES
 obtain ⟨U5, hU5⟩ := oQ (W5.drew)
 rw [hU5] at hHeld BP H4 H5 RES ⊢
 clear hU5
 refine tk 0 ?_
 refine tk 1 ?_
 apply share3
 intro N0
 apply share2
 intro N1
 apply share2
 intro N2
 apply share2
 intro N3
 apply share2
 intro N4
 ·
  refine rd [2, 7] ?_
  refine rc (fun K hK => ?_) ?_
  ·
   go_simp
   (with_reducible refine (timed_walk _ _).mono ?_)
   rintro e v3 ⟨rfl, hb⟩
   have H4 := bAt hb H4
   have H5 := bAt hb H5
   have RES := bAt hb RES
   have BP := bTr BP hb
   clear hb
   refine kk hK ((mkS H4.out H5.out)) (fun hHeld => ?_)
   clear hK K
   refine rd [3, 7] ?_
   refine rc (fun K hK => ?_) ?_
   ·
    go_simp
    (with_reducible refine (timed_walk _ _).mono ?_)
    rintro e v4 ⟨rfl, hb⟩
    have H4 := bAt hb H4
    have H5 := bAt hb H5
    have RES := bAt hb RES
    have BP := bTr BP hb
    clear hb
    refine kk hK ((mkS H4.out H5.out)) (fun hHeld => ?_)
    clear hK K
    refine rd [4, 7] ?_
    refine rc (fun K hK => ?_) ?_
    ·
     go_simp
     (with_reducible refine (numbered_walk _ _).mono ?_)
     rintro e v5 ⟨rfl, hb⟩
     have H4 := bAt hb H4
     have H5 := bAt hb H5
     have RES := bAt hb RES
     have BP := bTr BP hb
     clear hb
     refine kk hK ((mkS H4.out H5.out)) (fun hHeld => ?_)
     clear hK K
     refine rd [5, 7] ?_
     refine rc (fun K hK => ?_) ?_
     ·
      go_simp
      (with_reducible refine (numbered_walk _ _).mono ?_)
      rintro e v6 ⟨rfl, hb⟩
      have H4 := bAt hb H4
      have H5 := bAt hb H5
      have RES := bAt hb RES
      have BP := bTr BP hb
      clear hb
      refine kk hK ((mkS H4.out H5.out)) (fun hHeld => ?_)
      clear hK K
      refine rd [6, 7] ?_
      refine rc (fun K hK => ?_) ?_
      ·
       go_simp
       have ORES := cells_lt RES.out
       obtain ⟨b1, v7, hv7, FB, hb, hbl, hsz⟩ := fresh_row v6 #[.func (.func 106) #[] #[], .int .i64 1, .int .i64 1000000, .nilFunc, .func (.func 110) #[] #[], .int .i64 0, .int .i64 1000000, .nilFunc, .func (.func 116) #[] #[], .int .i64 0, .int .i64 1000000, .nilFunc, .func (.func 120) #[] #[], .int .i64 1, .int .i64 1000000, .nilFunc, .func (.func 121) #[] #[], .int .i64 1, .int .i64 1000000, .nilFunc] 109
       have H4 := bAt hb H4
       have H5 := bAt hb H5
       have RES := bAt hb RES
       have ZFB := hZ (And.intro (Nat.le_trans BP.out.size (Nat.le_of_eq hbl)) (hbl ▸ ORES))
       have BP := bTr BP hb
       rw [hbl, hv7]
       clear hv7 hb hbl hsz ORES
       refine kk hK ((mkS H4.out H5.out)) (fun hHeld => ?_)
       clear hK K
       refine rd [7] ?_
       refine rcE fun K hK => ?_
       go_simp
       have ORES := cells_lt RES.out
       obtain ⟨b2, v8, hv8, FR, hb, hbl, hsz⟩ := fresh_row v7 #[.func (.func 117) #[] #[]] 45
       have H4 := bAt hb H4
       have H5 := bAt hb H5
       have RES := bAt hb RES
       have FB := bAt hb FB
       have ZFR := hZ (And.intro (Nat.le_trans BP.out.size (Nat.le_of_eq hbl)) (hbl ▸ ORES))
       have BP := bTr BP hb
       rw [hbl, hv8]
       clear hv8 hb hbl hsz ORES
       refine kk hK ((mkS H4.out H5.out)) (fun hHeld => ?_)
       clear hK K
       have HX := (And.intro H4 (And.intro H5 (And.intro RES (And.intro FB (And.intro FR (And.intro ZFB (And.intro ZFR (And.intro BP hHeld))))))))
       exact N0 v8 b1 b2 HX
      refine rcE fun K hK => ?_
      go_simp
      have ORES := cells_lt RES.out
      obtain ⟨b2, v9, hv9, FR, hb, hbl, hsz⟩ := fresh_row v6 #[.func (.func 117) #[] #[]] 45
      have H4 := bAt hb H4
      have H5 := bAt hb H5
      have RES := bAt hb RES
      have ZFR := hZ (And.intro (Nat.le_trans BP.out.size (Nat.le_of_eq hbl)) (hbl ▸ ORES))
      have BP := bTr BP hb
      rw [hbl, hv9]
      clear hv9 hb hbl hsz ORES
      refine kk hK ((mkS H4.out H5.out)) (fun hHeld => ?_)
      clear hK K
      have HX := (And.intro H4 (And.intro H5 (And.intro RES (And.intro FR (And.intro ZFR (And.intro BP hHeld))))))
      exact N1 v9 b2 HX
     refine rcE fun K hK => ?_
     go_simp
     have ORES := cells_lt RES.out
     obtain ⟨b2, v10, hv10, FR, hb, hbl, hsz⟩ := fresh_row v5 #[.func (.func 117) #[] #[]] 45
     have H4 := bAt hb H4
     have H5 := bAt hb H5
     have RES := bAt hb RES
     have ZFR := hZ (And.intro (Nat.le_trans BP.out.size (Nat.le_of_eq hbl)) (hbl ▸ ORES))
     have BP := bTr BP hb
     rw [hbl, hv10]
     clear hv10 hb hbl hsz ORES
     refine kk hK ((mkS H4.out H5.out)) (fun hHeld => ?_)
     clear hK K
     have HX := (And.intro H4 (And.intro H5 (And.intro RES (And.intro FR (And.intro ZFR (And.intro BP hHeld))))))
     exact N2 v10 b2 HX
    refine rcE fun K hK => ?_
    go_simp
    have ORES := cells_lt RES.out
    obtain ⟨b2, v11, hv11, FR, hb, hbl, hsz⟩ := fresh_row v4 #[.func (.func 117) #[] #[]] 45
    have H4 := bAt hb H4
    have H5 := bAt hb H5
    have RES := bAt hb RES
    have ZFR := hZ (And.intro (Nat.le_trans BP.out.size (Nat.le_of_eq hbl)) (hbl ▸ ORES))
    have BP := bTr BP hb
    rw [hbl, hv11]
    clear hv11 hb hbl hsz ORES
    refine kk hK ((mkS H4.out H5.out)) (fun hHeld => ?_)
    clear hK K
    have HX := (And.intro H4 (And.intro H5 (And.intro RES (And.intro FR (And.intro ZFR (And.intro BP hHeld))))))
    exact N3 v11 b2 HX
   refine rcE fun K hK => ?_
   go_simp
   have ORES := cells_lt RES.out
   obtain ⟨b2, v12, hv12, FR, hb, hbl, hsz⟩ := fresh_row v3 #[.func (.func 117) #[] #[]] 45
   have H4 := bAt hb H4
   have H5 := bAt hb H5
   have RES := bAt hb RES
   have ZFR := hZ (And.intro (Nat.le_trans BP.out.size (Nat.le_of_eq hbl)) (hbl ▸ ORES))
   have BP := bTr BP hb
   rw [hbl, hv12]
   clear hv12 hb hbl hsz ORES
   refine kk hK ((mkS H4.out H5.out)) (fun hHeld => ?_)
   clear hK K
   have HX := (And.intro H4 (And.intro H5 (And.intro RES (And.intro FR (And.intro ZFR (And.intro BP hHeld))))))
   exact N4 v12 b2 HX
  refine rcE fun K hK => ?_
  go_simp
  have ORES := cells_lt RES.out
  obtain ⟨b2, v13, hv13, FR, hb, hbl, hsz⟩ := fresh_row U5 #[.func (.func 117) #[] #[]] 45
  have H4 := bAt hb H4
  have H5 := bAt hb H5
  have RES := bAt hb RES
  have ZFR := hZ (And.intro (Nat.le_trans BP.out.size (Nat.le_of_eq hbl)) (hbl ▸ ORES))
  have BP := bTr BP hb
  rw [hbl, hv13]
  clear hv13 hb hbl hsz ORES
  refine kk hK ((mkS H4.out H5.out)) (fun hHeld => ?_)
  clear hK K
  refine rd [2] ?_
  refine rcE fun K hK => ?_
  go_simp
  (with_reducible refine (timed_walk _ _).mono ?_)
  rintro e v14 ⟨rfl, hb⟩
  have H4 := bAt hb H4
  have H5 := bAt hb H5
  have RES := bAt hb RES
  have FR := bAt hb FR
  have BP := bTr BP hb
  clear hb
  refine kk hK ((mkS H4.out H5.out)) (fun hHeld => ?_)
  clear hK K
  exact N4 v14 b2 ⟨H4, H5, RES, FR, ZFR, BP, hHeld⟩
 ·
  rintro XN4 b2 ⟨H4, H5, RES, FR, ZFR, BP, hHeld⟩
  refine rd [3] ?_
  refine rcE fun K hK => ?_
  go_simp
  (with_reducible refine (timed_walk _ _).mono ?_)
  rintro e v15 ⟨rfl, hb⟩
  have H4 := bAt hb H4
  have H5 := bAt hb H5
  have RES := bAt hb RES
  have FR := bAt hb FR
  have BP := bTr BP hb
  clear hb
  refine kk hK ((mkS H4.out H5.out)) (fun hHeld => ?_)
  clear hK K
  exact N3 v15 b2 ⟨H4, H5, RES, FR, ZFR, BP, hHeld⟩
 ·
  rintro XN3 b2 ⟨H4, H5, RES, FR, ZFR, BP, hHeld⟩
  refine rd [4] ?_
  refine rcE fun K hK => ?_
  go_simp
  (with_reducible refine (numbered_walk _ _).mono ?_)
  rintro e v16 ⟨rfl, hb⟩
  have H4 := bAt hb H4
  have H5 := bAt hb H5
  have RES := bAt hb RES
  have FR := bAt hb FR
  have BP := bTr BP hb
  clear hb
  refine kk hK ((mkS H4.out H5.out)) (fun hHeld => ?_)
  clear hK K
  exact N2 v16 b2 ⟨H4, H5, RES, FR, ZFR, BP, hHeld⟩
 ·
  rintro XN2 b2 ⟨H4, H5, RES, FR, ZFR, BP, hHeld⟩
  refine rd [5] ?_
  refine rcE fun K hK => ?_
  go_simp
  (with_reducible refine (numbered_walk _ _).mono ?_)
  rintro e v17 ⟨rfl, hb⟩
  have H4 := bAt hb H4
  have H5 := bAt hb H5
  have RES := bAt hb RES
  have FR := bAt hb FR
  have BP := bTr BP hb
  clear hb
  refine kk hK ((mkS H4.out H5.out)) (fun hHeld => ?_)
  clear hK K
  exact N1 v17 b2 ⟨H4, H5, RES, FR, ZFR, BP, hHeld⟩
 ·
  rintro XN1 b2 ⟨H4, H5, RES, FR, ZFR, BP, hHeld⟩
  refine rd [6] ?_
  refine rcE fun K hK => ?_
  go_simp
  have ORES := cells_lt RES.out
  obtain ⟨b1, v18, hv18, FB, hb, hbl, hsz⟩ := fresh_row XN1 #[.func (.func 106) #[] #[], .int .i64 1, .int .i64 1000000, .nilFunc, .func (.func 110) #[] #[], .int .i64 0, .int .i64 1000000, .nilFunc, .func (.func 116) #[] #[], .int .i64 0, .int .i64 1000000, .nilFunc, .func (.func 120) #[] #[], .int .i64 1, .int .i64 1000000, .nilFunc, .func (.func 121) #[] #[], .int .i64 1, .int .i64 1000000, .nilFunc] 109
  have H4 := bAt hb H4
  have H5 := bAt hb H5
  have RES := bAt hb RES
  have FR := bAt hb FR
  have ZFB := hZ (And.intro (Nat.le_trans BP.out.size (Nat.le_of_eq hbl)) (hbl ▸ ORES))
  have BP := bTr BP hb
  rw [hbl, hv18]
  clear hv18 hb hbl hsz ORES
  refine kk hK ((mkS H4.out H5.out)) (fun hHeld => ?_)
  clear hK K
  exact N0 v18 b1 b2 ⟨H4, H5, RES, FB, FR, ZFB, ZFR, BP, hHeld⟩
 ·
  rintro XN0 b1 b2 ⟨H4, H5, RES, FB, FR, ZFB, ZFR, BP, hHeld⟩
  refine rd [8] ?_
  refine rcE fun K hK => ?_
  go_simp
  (with_reducible refine (of_walk _ _ _ _ _ _ _ _ _ _).mono ?_)
  rintro e v19 ⟨rfl, hb⟩
  have H4 := bAt hb H4
  have H5 := bAt hb H5
  have RES := bAt hb RES
  have FB := bAt hb FB
  have FR := bAt hb FR
  have BP := bTr BP hb
  clear hb
  refine kk hK ((mkS H4.out H5.out)) (fun hHeld => ?_)
  clear hK K
  refine rd [9] ?_
  refine rcE fun K hK => ?_
  obtain ⟨r0, r1, r2, r3, r4, r5⟩ := free6 RES.out; obtain ⟨q0, q1, q2, q3, q4, q5⟩ := all6 RES.out
  go_simp
  have FIN0 := put6 RES.out (.slice (some ⟨b1, 0, none⟩) 5 5) (.func (.func 106) #[] #[]) (.int .i64 1) (.int .i64 1000000) (.nilFunc) (.slice (some ⟨b2, 0, none⟩) 1 1)
  have hne := HNE.out
  have H4 := hZ ((put6_other (r := p2) hne.1 (.slice (some ⟨b1, 0, none⟩) 5 5) (.func (.func 106) #[] #[]) (.int .i64 1) (.int .i64 1000000) (.nilFunc) (.slice (some ⟨b2, 0, none⟩) 1 1)).trans H4.out)
  have H5 := hZ ((put6_other (r := p2) hne.2.1 (.slice (some ⟨b1, 0, none⟩) 5 5) (.func (.func 106) #[] #[]) (.int .i64 1) (.int .i64 1000000) (.nilFunc) (.slice (some ⟨b2, 0, none⟩) 1 1)).trans H5.out)
  have FB := hZ ((put6_other (r := p2) (by have := ZFB.out; omega) (.slice (some ⟨b1, 0, none⟩) 5 5) (.func (.func 106) #[] #[]) (.int .i64 1) (.int .i64 1000000) (.nilFunc) (.slice (some ⟨b2, 0, none⟩) 1 1)).trans FB.out)
  have FR := hZ ((put6_other (r := p2) (by have := ZFR.out; omega) (.slice (some ⟨b1, 0, none⟩) 5 5) (.func (.func 106) #[] #[]) (.int .i64 1) (.int .i64 1000000) (.nilFunc) (.slice (some ⟨b2, 0, none⟩) 1 1)).trans FR.out)
  have BP := hZ (put6_below (r := p2) BP.out HP2.out (.slice (some ⟨b1, 0, none⟩) 5 5) (.func (.func 106) #[] #[]) (.int .i64 1) (.int .i64 1000000) (.nilFunc) (.slice (some ⟨b2, 0, none⟩) 1 1))
  have FIN := hZ FIN0
  obtain ⟨v20, hv20⟩ := oQ (((((((v19.setCell ⟨p2, 0, none⟩ (.slice (some ⟨b1, 0, none⟩) 5 5)).setCell ⟨p2, 1, none⟩ (.func (.func 106) #[] #[])).setCell ⟨p2, 2, none⟩ (.int .i64 1)).setCell ⟨p2, 3, none⟩ (.int .i64 1000000)).setCell ⟨p2, 4, none⟩ (.nilFunc)).setCell ⟨p2, 5, none⟩ (.slice (some ⟨b2, 0, none⟩) 1 1)))
  rw [hv20] at H4 H5 FB FR BP FIN ⊢
  clear hv20 r0 r1 r2 r3 r4 r5 q0 q1 q2 q3 q4 q5 hne FIN0
  refine kk hK ((mkS H4.out H5.out)) (fun hHeld => ?_)
  clear hK K
  refine tk 10 ?_
  refine dn ?_
  go_wp2
  refine bodyPost_ret (results_celltmp rfl _ _ p2 [.slice (some ⟨b1, 0, none⟩) 5 5, .func (.func 106) #[] #[], .int .i64 1, .int .i64 1000000, .nilFunc, .slice (some ⟨b2, 0, none⟩) 1 1] _ rfl (range_of FIN.out) Tryz.underlying112 rfl (by kernel_rfl)) rfl ⟨_, rfl, ⟨b1, _, _, rfl, ZFB.out.1, FB.out, .inr ⟨b2, rfl, rfl, ZFR.out.1, FR.out⟩⟩, BP.out⟩
set_option maxRecDepth 100000 in
set_option maxHeartbeats 8000000 in
theorem shape9 (w : World) : Calls Tryz.prog 62 #[.int .i64 9] w (ShapeP w ⟨[.num 106 1, .num 107 1, .num 120 1], 106, []⟩) := by
 go_enter Tryz.func62, Tryz.ntmps62
 go_wp2_with (first
  | (go_at_call 105; (with_reducible refine (numbered_walk _ _).mono ?_); rintro e v1 ⟨rfl, hb⟩; have RES := hZ (below_at2 hb (World.alloc_heap_new w _)); have BP := hZ ((below_new w _).trans (hb.mono (below_new w _).size)); clear hb)
  | (go_at_call 105; (with_reducible refine (numbered_walk _ _).mono ?_); rintro e v2 ⟨rfl, hb⟩; have RES := bAt hb RES; have BP := bTr BP hb; clear hb)
  | fail)
 obtain ⟨k1, k2, k3, k4⟩ := two_boxes v2 #[.func (.func 106) #[] #[], .int .i64 1, .int .i64 1000000, .nilFunc] #[.func (.func 107) #[] #[], .int .i64 1, .int .i64 1000000, .nilFunc] 109 109
 have hlt := cells_lt RES.out
 have RES := bAt k4 RES
 have BP := bTr BP k4
 obtain ⟨W5, hW5⟩ := oQ ((v2.alloc (.cells #[.func (.func 106) #[] #[], .int .i64 1, .int .i64 1000000, .nilFunc] 109)).alloc (.cells #[.func (.func 107) #[] #[], .int .i64 1, .int .i64 1000000, .nilFunc] 109))
 rw [hW5] at k1 k2 k3 k4 RES BP
 rw [hW5]
 obtain ⟨p2, hp2⟩ := oQ (w.heap.size)
 obtain ⟨p4, hp4⟩ := oQ (v2.heap.size)
 rw [hp4] at k1 k2 hlt
 rw [hp4]
 obtain ⟨p5, hp5⟩ := oQ (p4 + 1)
 rw [hp5] at k2
 rw [hp5]
 have HP2 : Hid (w.heap.size ≤ p2) := hZ (by omega)
 rw [hp2] at RES hlt
 rw [hp2]
 have H4 := hZ k1
 have H5 := hZ k2
 have HNE : Hid (p4 ≠ p2 ∧ p5 ≠ p2 ∧ p2 < p4) := hZ ⟨by omega, by omega, by omega⟩
 clear hW5 k1 k2 k3 k4 hp2 hp4 hp5 hlt
 refine wp_region_noPanic ?_
 refine wp_region_held_drew (S := fun V => V.cell? ⟨p4, 0, none⟩ = some (.func (.func 106) #[] #[]) ∧ V.cell? ⟨p4, 1, none⟩ = some (.int .i64 1) ∧ V.cell? ⟨p4, 2, none⟩ = some (.int .i64 1000000) ∧ V.cell? ⟨p4, 3, none⟩ = some (.nilFunc) ∧ V.cell? ⟨p5, 0, none⟩ = some (.func (.func 107) #[] #[]) ∧ V.cell? ⟨p5, 1, none⟩ = some (.int .i64 1) ∧ V.cell? ⟨p5, 2, none⟩ = some (.int .i64 1000000) ∧ V.cell? ⟨p5, 3, none⟩ = some (.nilFunc)) (by kernel_rfl) (mkS H4.out H5.out) (fun hHeld => ?_)
 have BP := hZ (Below.drew BP.out)
 have H4 : Hid (W5.drew.heap[p4]? = _) := H4
 have H5 : Hid (W5.drew.heap[p5]? = _) := H5
 have RES : Hid (W5.drew.heap[p2]? = _) := RES
 obtain ⟨U5, hU5⟩ := oQ (W5.drew)
 rw [hU5] at hHeld BP H4 H5 RES ⊢
 clear hU5
 refine tk 0 ?_
 refine tk 1 ?_
 refine tk 2 ?_
 refine rd [3] ?_
 refine rcE fun K hK => ?_
 go_simp
 (with_reducible refine (numbered_walk _ _).mono ?_)
 rintro e v3 ⟨rfl, hb⟩
 have H4 := bAt hb H4
 have H5 := bAt hb H5
 have RES := bAt hb RES
 have BP := bTr BP hb
 clear hb
 refine kk hK ((mkS H4.out H5.out)) (fun hHeld => ?_)
 clear hK K
 refine rd [4] ?_
 refine rcE fun K hK => ?_
 go_simp
 have ORES := cells_lt RES.out
 obtain ⟨b1, v4, hv4, FB, hb, hbl, hsz⟩ := fresh_row v3 #[.func (.func 106) #[] #[], .int .i64 1, .int .i64 1000000, .nilFunc, .func (.func 107) #[] #[], .int .i64 1, .int .i64 1000000, .nilFunc, .func (.func 120) #[] #[], .int .i64 1, .int .i64 1000000, .nilFunc] 109
 have H4 := bAt hb H4
 have H5 := bAt hb H5
 have RES := bAt hb RES
 have ZFB := hZ (And.intro (Nat.le_trans BP.out.size (Nat.le_of_eq hbl)) (hbl ▸ ORES))
 have BP := bTr BP hb
 rw [hbl, hv4]
 clear hv4 hb hbl hsz ORES
 refine kk hK ((mkS H4.out H5.out)) (fun hHeld => ?_)
 clear hK K
 refine rd [5] ?_
 refine rcE fun K hK => ?_
 go_simp
 (with_reducible refine (of_walk _ _ _ _ _ _ _ _ _ _).mono ?_)
 rintro e v5 ⟨rfl, hb⟩
 have H4 := bAt hb H4
 have H5 := bAt hb H5
 have RES := bAt hb RES
 have FB := bAt hb FB
 have BP := bTr BP hb
 clear hb
 refine kk hK ((mkS H4.out H5.out)) (fun hHeld => ?_)
 clear hK K
 refine rd [6] ?_
 refine rcE fun K hK => ?_
 obtain ⟨r0, r1, r2, r3, r4, r5⟩ := free6 RES.out; obtain ⟨q0, q1, q2, q3, q4, q5⟩ := all6 RES.out
 go_simp
 have FIN0 := put6 RES.out (.slice (some ⟨b1, 0, none⟩) 3 3) (.func (.func 106) #[] #[]) (.int .i64 1) (.int .i64 1000000) (.nilFunc) (.slice none 0 0)
 have hne := HNE.out
 have H4 := hZ ((put6_other (r := p2) hne.1 (.slice (some ⟨b1, 0, none⟩) 3 3) (.func (.func 106) #[] #[]) (.int .i64 1) (.int .i64 1000000) (.nilFunc) (.slice none 0 0)).trans H4.out)
 have H5 := hZ ((put6_other (r := p2) hne.2.1 (.slice (some ⟨b1, 0, none⟩) 3 3) (.func (.func 106) #[] #[]) (.int .i64 1) (.int .i64 1000000) (.nilFunc) (.slice none 0 0)).trans H5.out)
 have FB := hZ ((put6_other (r := p2) (by have := ZFB.out; omega) (.slice (some ⟨b1, 0, none⟩) 3 3) (.func (.func 106) #[] #[]) (.int .i64 1) (.int .i64 1000000) (.nilFunc) (.slice none 0 0)).trans FB.out)
 have BP := hZ (put6_below (r := p2) BP.out HP2.out (.slice (some ⟨b1, 0, none⟩) 3 3) (.func (.func 106) #[] #[]) (.int .i64 1) (.int .i64 1000000) (.nilFunc) (.slice none 0 0))
 have FIN := hZ FIN0
 obtain ⟨v6, hv6⟩ := oQ (((((((v5.setCell ⟨p2, 0, none⟩ (.slice (some ⟨b1, 0, none⟩) 3 3)).setCell ⟨p2, 1, none⟩ (.func (.func 106) #[] #[])).setCell ⟨p2, 2, none⟩ (.int .i64 1)).setCell ⟨p2, 3, none⟩ (.int .i64 1000000)).setCell ⟨p2, 4, none⟩ (.nilFunc)).setCell ⟨p2, 5, none⟩ (.slice none 0 0)))
 rw [hv6] at H4 H5 FB BP FIN ⊢
 clear hv6 r0 r1 r2 r3 r4 r5 q0 q1 q2 q3 q4 q5 hne FIN0
 refine kk hK ((mkS H4.out H5.out)) (fun hHeld => ?_)
 clear hK K
 refine tk 7 ?_
 refine dn ?_
 go_wp2
 refine bodyPost_ret (results_celltmp rfl _ _ p2 [.slice (some ⟨b1, 0, none⟩) 3 3, .func (.func 106) #[] #[], .int .i64 1, .int .i64 1000000, .nilFunc, .slice none 0 0] _ rfl (range_of FIN.out) Tryz.underlying112 rfl (by kernel_rfl)) rfl ⟨_, rfl, ⟨b1, _, _, rfl, ZFB.out.1, FB.out, .inl ⟨rfl, rfl, rfl⟩⟩, BP.out⟩
set_option maxRecDepth 100000 in
set_option maxHeartbeats 8000000 in
theorem shape2 (w : World) : Calls Tryz.prog 62 #[.int .i64 2] w (ShapeP w ⟨[.num 107 1, .txt 114], 107, [115]⟩) := by
 go_enter Tryz.func62, Tryz.ntmps62
 go_wp2_with (first
  | (go_at_call 105; (with_reducible refine (numbered_walk _ _).mono ?_); rintro e v1 ⟨rfl, hb⟩; have RES := hZ (below_at2 hb (World.alloc_heap_new w _)); have BP := hZ ((below_new w _).trans (hb.mono (below_new w _).size)); clear hb)
  | (go_at_call 105; (with_reducible refine (numbered_walk _ _).mono ?_); rintro e v2 ⟨rfl, hb⟩; have RES := bAt hb RES; have BP := bTr BP hb; clear hb)
  | (go_at_call 108; (with_reducible refine (of_walk _ _ _ _ _ _ _ _ _ _).mono ?_); rintro e v3 ⟨rfl, hb⟩
     have kA := World.alloc_heap_new v2 (.cells #[.func (.func 106) #[] #[], .int .i64 1, .int .i64 1000000, .nilFunc] 109)
     have hrs := cells_lt RES.out
     obtain ⟨u1, hu1⟩ := oQ (v2.alloc (.cells #[.func (.func 106) #[] #[], .int .i64 1, .int .i64 1000000, .nilFunc] 109))
     obtain ⟨u2, hu2⟩ := oQ (u1.alloc (.cells #[.func (.func 107) #[] #[], .int .i64 1, .int .i64 1000000, .nilFunc] 109))
     obtain ⟨u3, hu3⟩ := oQ (u2.alloc (.cells #[.func (.func 107) #[] #[], .int .i64 1, .int .i64 1000000, .nilFunc, .nilFunc, .int .i64 0, .int .i64 0, .func (.func 114) #[] #[]] 109))
     obtain ⟨u4, hu4⟩ := oQ (u3.alloc (.cells #[.func (.func 115) #[] #[]] 45))
     have b1 : Below v2.heap.size v2 u1 := by rw [← hu1]; exact below_new _ _
     have b2 : Below u1.heap.size u1 u2 := by rw [← hu2]; exact below_new _ _
     have b3 : Below u2.heap.size u2 u3 := by rw [← hu3]; exact below_new _ _
     have b4 : Below u3.heap.size u3 u4 := by rw [← hu4]; exact below_new _ _
     have s1 : u1.heap.size = v2.heap.size + 1 := by rw [← hu1, World.size_alloc]
     have s2 : u2.heap.size = v2.heap.size + 2 := by rw [← hu2, World.size_alloc, s1]
     have s3 : u3.heap.size = v2.heap.size + 3 := by rw [← hu3, World.size_alloc, s2]
     have fb : u3.heap[v2.heap.size + 2]? = some (.cells #[.func (.func 107) #[] #[], .int .i64 1, .int .i64 1000000, .nilFunc, .nilFunc, .int .i64 0, .int .i64 0, .func (.func 114) #[] #[]] 109 (0, 0)) := by rw [← hu3, ← s2]; exact World.alloc_heap_new _ _
     have fr : u4.heap[v2.heap.size + 3]? = some (.cells #[.func (.func 115) #[] #[]] 45 (0, 0)) := by rw [← hu4, ← s3]; exact World.alloc_heap_new _ _
     rw [hu1, hu2, hu3, hu4] at hb
     have FB := hZ (below_at2 hb (below_at2 b4 fb))
     have FR := hZ (below_at2 hb fr)
     have RES := hZ (below_at2 hb (below_at2 b4 (below_at2 b3 (below_at2 b2 (below_at2 b1 RES.out)))))
     have BP := hZ (((((BP.out.trans (b1.mono BP.out.size)).trans (b2.mono (by have := BP.out.size; omega))).trans (b3.mono (by have := BP.out.size; omega))).trans (b4.mono (by have := BP.out.size; omega))).trans (hb.mono (by have := BP.out.size; have := b4.size; omega)))
     have HRS := hZ hrs
     obtain ⟨r0, r1, r2, r3, r4, r5⟩ := free6 RES.out; obtain ⟨q0, q1, q2, q3, q4, q5⟩ := all6 RES.out
     clear b1 b2 b3 b4 s1 s2 s3 fb fr hb hu1 hu2 hu3 hu4 kA hrs)
  | fail)
 have FIN := put6 RES.out (.slice (some ⟨v2.heap.size + 2, 0, none⟩) 2 2) (.func (.func 107) #[] #[]) (.int .i64 1) (.int .i64 1000000) (.nilFunc) (.slice (some ⟨v2.heap.size + 3, 0, none⟩) 1 1)
 have hrs := HRS.out
 have FB2 := (put6_other (k := v2.heap.size + 2) (r := w.heap.size) (by omega) (.slice (some ⟨v2.heap.size + 2, 0, none⟩) 2 2) (.func (.func 107) #[] #[]) (.int .i64 1) (.int .i64 1000000) (.nilFunc) (.slice (some ⟨v2.heap.size + 3, 0, none⟩) 1 1)).trans FB.out
 have FR2 := (put6_other (k := v2.heap.size + 3) (r := w.heap.size) (by omega) (.slice (some ⟨v2.heap.size + 2, 0, none⟩) 2 2) (.func (.func 107) #[] #[]) (.int .i64 1) (.int .i64 1000000) (.nilFunc) (.slice (some ⟨v2.heap.size + 3, 0, none⟩) 1 1)).trans FR.out
 have hsz := BP.out.size
 refine bodyPost_ret (results_celltmp rfl _ _ w.heap.size [.slice (some ⟨v2.heap.size + 2, 0, none⟩) 2 2, .func (.func 107) #[] #[], .int .i64 1, .int .i64 1000000, .nilFunc, .slice (some ⟨v2.heap.size + 3, 0, none⟩) 1 1] _ rfl (range_of FIN) Tryz.underlying112 rfl (by kernel_rfl)) rfl ⟨_, rfl, ⟨v2.heap.size + 2, _, _, rfl, by omega, FB2, .inr ⟨v2.heap.size + 3, rfl, rfl, by omega, FR2⟩⟩, put6_below (r := w.heap.size) BP.out (Nat.le_refl _) (.slice (some ⟨v2.heap.size + 2, 0, none⟩) 2 2) (.func (.func 107) #[] #[]) (.int .i64 1) (.int .i64 1000000) (.nilFunc) (.slice (some ⟨v2.heap.size + 3, 0, none⟩) 1 1)⟩
set_option maxRecDepth 100000 in
set_option maxHeartbeats 8000000 in
theorem shape8 (w : World) : Calls Tryz.prog 62 #[.int .i64 8] w (ShapeP w ⟨[.num 107 1, .txt 114], 107, [115]⟩) := by
 go_enter Tryz.func62, Tryz.ntmps62
 go_wp2_with (first
  | (go_at_call 105; (with_reducible refine (numbered_walk _ _).mono ?_); rintro e v1 ⟨rfl, hb⟩; have RES := hZ (below_at2 hb (World.alloc_heap_new w _)); have BP := hZ ((below_new w _).trans (hb.mono (below_new w _).size)); clear hb)
  | (go_at_call 105; (with_reducible refine (numbered_walk _ _).mono ?_); rintro e v2 ⟨rfl, hb⟩; have RES := bAt hb RES; have BP := bTr BP hb; clear hb)
  | (go_at_call 108; (with_reducible refine (of_walk _ _ _ _ _ _ _ _ _ _).mono ?_); rintro e v3 ⟨rfl, hb⟩
     have kA := World.alloc_heap_new v2 (.cells #[.func (.func 106) #[] #[], .int .i64 1, .int .i64 1000000, .nilFunc] 109)
     have hrs := cells_lt RES.out
     obtain ⟨u1, hu1⟩ := oQ (v2.alloc (.cells #[.func (.func 106) #[] #[], .int .i64 1, .int .i64 1000000, .nilFunc] 109))
     obtain ⟨u2, hu2⟩ := oQ (u1.alloc (.cells #[.func (.func 107) #[] #[], .int .i64 1, .int .i64 1000000, .nilFunc] 109))
     obtain ⟨u3, hu3⟩ := oQ (u2.alloc (.cells #[.func (.func 107) #[] #[], .int .i64 1, .int .i64 1000000, .nilFunc, .nilFunc, .int .i64 0, .int .i64 0, .func (.func 114) #[] #[]] 109))
     obtain ⟨u4, hu4⟩ := oQ (u3.alloc (.cells #[.func (.func 115) #[] #[]] 45))
     have b1 : Below v2.heap.size v2 u1 := by rw [← hu1]; exact below_new _ _
     have b2 : Below u1.heap.size u1 u2 := by rw [← hu2]; exact below_new _ _
     have b3 : Below u2.heap.size u2 u3 := by rw [← hu3]; exact below_new _ _
     have b4 : Below u3.heap.size u3 u4 := by rw [← hu4]; exact below_new _ _
     have s1 : u1.heap.size = v2.heap.size + 1 := by rw [← hu1, World.size_alloc]
     have s2 : u2.heap.size = v2.heap.size + 2 := by rw [← hu2, World.size_alloc, s1]
     have s3 : u3.heap.size = v2.heap.size + 3 := by rw [← hu3, World.size_alloc, s2]
     have fb : u3.heap[v2.heap.size + 2]? = some (.cells #[.func (.func 107) #[] #[], .int .i64 1, .int .i64 1000000, .nilFunc, .nilFunc, .int .i64 0, .int .i64 0, .func (.func 114) #[] #[]] 109 (0, 0)) := by rw [← hu3, ← s2]; exact World.alloc_heap_new _ _
     have fr : u4.heap[v2.heap.size + 3]? = some (.cells #[.func (.func 115) #[] #[]] 45 (0, 0)) := by rw [← hu4, ← s3]; exact World.alloc_heap_new _ _
     rw [hu1, hu2, hu3, hu4] at hb
     have FB := hZ (below_at2 hb (below_at2 b4 fb))
     have FR := hZ (below_at2 hb fr)
     have RES := hZ (below_at2 hb (below_at2 b4 (below_at2 b3 (below_at2 b2 (below_at2 b1 RES.out)))))
     have BP := hZ (((((BP.out.trans (b1.mono BP.out.size)).trans (b2.mono (by have := BP.out.size; omega))).trans (b3.mono (by have := BP.out.size; omega))).trans (b4.mono (by have := BP.out.size; omega))).trans (hb.mono (by have := BP.out.size; have := b4.size; omega)))
     have HRS := hZ hrs
     obtain ⟨r0, r1, r2, r3, r4, r5⟩ := free6 RES.out; obtain ⟨q0, q1, q2, q3, q4, q5⟩ := all6 RES.out
     clear b1 b2 b3 b4 s1 s2 s3 fb fr hb hu1 hu2 hu3 hu4 kA hrs)
  | fail)
 have FIN := put6 RES.out (.slice (some ⟨v2.heap.size + 2, 0, none⟩) 2 2) (.func (.func 107) #[] #[]) (.int .i64 1) (.int .i64 1000000) (.nilFunc) (.slice (some ⟨v2.heap.size + 3, 0, none⟩) 1 1)
 have hrs := HRS.out
 have FB2 := (put6_other (k := v2.heap.size + 2) (r := w.heap.size) (by omega) (.slice (some ⟨v2.heap.size + 2, 0, none⟩) 2 2) (.func (.func 107) #[] #[]) (.int .i64 1) (.int .i64 1000000) (.nilFunc) (.slice (some ⟨v2.heap.size + 3, 0, none⟩) 1 1)).trans FB.out
 have FR2 := (put6_other (k := v2.heap.size + 3) (r := w.heap.size) (by omega) (.slice (some ⟨v2.heap.size + 2, 0, none⟩) 2 2) (.func (.func 107) #[] #[]) (.int .i64 1) (.int .i64 1000000) (.nilFunc) (.slice (some ⟨v2.heap.size + 3, 0, none⟩) 1 1)).trans FR.out
 have hsz := BP.out.size
 refine bodyPost_ret (results_celltmp rfl _ _ w.heap.size [.slice (some ⟨v2.heap.size + 2, 0, none⟩) 2 2, .func (.func 107) #[] #[], .int .i64 1, .int .i64 1000000, .nilFunc, .slice (some ⟨v2.heap.size + 3, 0, none⟩) 1 1] _ rfl (range_of FIN) Tryz.underlying112 rfl (by kernel_rfl)) rfl ⟨_, rfl, ⟨v2.heap.size + 2, _, _, rfl, by omega, FB2, .inr ⟨v2.heap.size + 3, rfl, rfl, by omega, FR2⟩⟩, put6_below (r := w.heap.size) BP.out (Nat.le_refl _) (.slice (some ⟨v2.heap.size + 2, 0, none⟩) 2 2) (.func (.func 107) #[] #[]) (.int .i64 1) (.int .i64 1000000) (.nilFunc) (.slice (some ⟨v2.heap.size + 3, 0, none⟩) 1 1)⟩
set_option maxRecDepth 100000 in
set_option maxHeartbeats 8000000 in
theorem shape_no (k : Int) (w : World) (h : k < 1 ∨ 9 < k) : Calls Tryz.prog 62 #[.int .i64 k] w fun e w' => e = .returned (.tuple #[.agg #[.slice none 0 0, .nilFunc, .int .i64 0, .int .i64 0, .nilFunc, .slice none 0 0], .bool false]) ∧ Below w.heap.size w w' := by
 have e1 : (k == 1) = false := by rw [beq_eq_false_iff_ne]; omega
 have e2 : (k == 2) = false := by rw [beq_eq_false_iff_ne]; omega
 have e3 : (k == 3) = false := by rw [beq_eq_false_iff_ne]; omega
 have e4 : (k == 4) = false := by rw [beq_eq_false_iff_ne]; omega
 have e5 : (k == 5) = false := by rw [beq_eq_false_iff_ne]; omega
 have e6 : (k == 6) = false := by rw [beq_eq_false_iff_ne]; omega
 have e7 : (k == 7) = false := by rw [beq_eq_false_iff_ne]; omega
 have e8 : (k == 8) = false := by rw [beq_eq_false_iff_ne]; omega
 have e9 : (k == 9) = false := by rw [beq_eq_false_iff_ne]; omega
 go_enter Tryz.func62, Tryz.ntmps62
 go_wp2_with (first
  | (go_at_call 105; (with_reducible refine (numbered_walk _ _).mono ?_); rintro e v1 ⟨rfl, hb⟩; have RES := hZ (below_at2 hb (World.alloc_heap_new w _)); have BP := hZ ((below_new w _).trans (hb.mono (below_new w _).size)); clear hb)
  | (go_at_call 105; (with_reducible refine (numbered_walk _ _).mono ?_); rintro e v2 ⟨rfl, hb⟩; have RES := bAt hb RES; have BP := bTr BP hb; have QQ := hZ (below_at2 (two_boxes v2 #[.func (.func 106) #[] #[], .int .i64 1, .int .i64 1000000, .nilFunc] #[.func (.func 107) #[] #[], .int .i64 1, .int .i64 1000000, .nilFunc] 109 109).2.2.2 RES.out); have r0 := cells_free QQ.out 0; have q0 := cells_i (i := 0) QQ.out rfl; have r1 := cells_free QQ.out 1; have q1 := cells_i (i := 1) QQ.out rfl; have r2 := cells_free QQ.out 2; have q2 := cells_i (i := 2) QQ.out rfl; have r3 := cells_free QQ.out 3; have q3 := cells_i (i := 3) QQ.out rfl; have r4 := cells_free QQ.out 4; have q4 := cells_i (i := 4) QQ.out rfl; have r5 := cells_free QQ.out 5; have q5 := cells_i (i := 5) QQ.out rfl; clear hb)
  | fail)
 have FIN := put6 QQ.out (.slice none 0 0) (.nilFunc) (.int .i64 0) (.int .i64 0) (.nilFunc) (.slice none 0 0)
 refine bodyPost_ret (results_celltmp rfl _ _ w.heap.size [.slice none 0 0, .nilFunc, .int .i64 0, .int .i64 0, .nilFunc, .slice none 0 0] _ rfl (range_of FIN) Tryz.underlying112 rfl (by kernel_rfl)) rfl ⟨rfl, put6_below (r := w.heap.size) (BP.out.trans ((two_boxes v2 #[.func (.func 106) #[] #[], .int .i64 1, .int .i64 1000000, .nilFunc] #[.func (.func 107) #[] #[], .int .i64 1, .int .i64 1000000, .nilFunc] 109 109).2.2.2.mono BP.out.size)) (Nat.le_refl _) (.slice none 0 0) (.nilFunc) (.int .i64 0) (.int .i64 0) (.nilFunc) (.slice none 0 0)⟩
end Go.Proofs.YteeifhlhpiimoaaGreatDoor
