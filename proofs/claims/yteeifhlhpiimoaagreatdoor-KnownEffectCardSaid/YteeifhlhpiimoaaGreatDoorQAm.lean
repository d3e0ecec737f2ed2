/-
  Contracts of known.Wrong, known.Budget, known.Skilled. Conditions: the lists' bounds. Contracts of yardstickref04's Make and Of at integers with a positive denominator. Conditions: at most 200 digits (Make), 18 digits (Of). Contract of known.Of. Conditions: a list of at most 1000000 entries whose texts have at most 65536 bytes; the table of powers stands. Entries compared whole; slices.Equal at them; known.Same. Conditions: the lists' bounds. Contracts of slices.Equal at entries and of known.Same. Conditions: the lists' bounds.
-/
import Derived.Test.YteeifhlhpiimoaaGreatDoorQAa
import Derived.Test.YteeifhlhpiimoaaGreatDoorQAf
import Derived.Test.YteeifhlhpiimoaaGreatDoorQAl
import Derived.Test.YteeifhlhpiimoaaGreatDoorQAk
import Derived.Shelf.SlSortCmp.NoneTotal
import Derived.Laws.StructEq
section
namespace Go.Proofs.YteeifhlhpiimoaaGreatDoor
open Go Go.RowKit Go.Shelf
attribute [local go_sem] Oper.semAt_some
def budgetE (l : List Ent) (p : Int) : Ent := (l.filter fun e => decide (e.item = p)).headD zeroE
set_option maxRecDepth 100000 in
set_option maxHeartbeats 4000000 in
theorem budget_walk (B : Bas) (p : Int) (w : World) (hB : BasAt w (Old w) B) : Calls Tryz.prog 24 #[B.val, .int .i64 p] w (fun e w' => e = .returned (.tuple #[.agg #[.string (budgetE (B.ls 7) p).rn, .string (budgetE (B.ls 7) p).rd], .bool ((B.ls 7).any fun e => decide (e.item = p))]) ∧ Below w.heap.size w w') := by
  have HB := Lib.hid hB
  have IE := fun e : Ent => Lib.hid (ientry (e := e))
  clear hB
  go_enter Tryz.func24, Tryz.ntmps24
  go_wp2
  have HF0 := Lib.hid (At.start w)
  obtain ⟨b0, w0, q1, q2, q3, hf, hs0⟩ := HF0.out.alloc2 (.cells B.cells.toArray 36)
  rw [q1, q2]
  have HF0 := Lib.hid hf
  have Hb0 := Lib.hid q3
  clear hf q1 q2 q3
  obtain ⟨b4, w1, q1, q2, q3, hf, hs1⟩ := HF0.out.alloc2 (.cells #[.string ⟨#[]⟩, .string ⟨#[]⟩] 29)
  rw [hs0] at q1
  rw [q1, q2]
  have HF0 := Lib.hid hf
  have Hb4 := Lib.hid q3
  clear hf q1 q2 q3 hs0
  clear hs1
  have HF := Lib.hid HF0.out.drew
  clear HF0
  refine wp_region_noPanic ?_
  refine wp_region_held_drew (S := fun U => U.cell? ⟨b0, 7, none⟩ = some (.slice (B.ad 7) (B.ls 7).length (B.cp 7))) (by kernel_rfl) (At.cell HF.out (b := b0) (cs := B.cells.toArray) (t := 36) (i := 7) (by simp) rfl) (fun hHeld => ?_)
  obtain ⟨U0, hU0⟩ : ∃ U0, w1.drew = U0 := ⟨_, rfl⟩
  rw [hU0] at HF hHeld ⊢
  clear hU0
  refine tk 0 ?_
  refine tk 1 ?_
  refine tk 2 ?_
  refine rd [3, 10] ?_
  refine rc (fun K hK => ?_) ?_
  ·
   go_simp
   (with_reducible refine (about_at (p) HF.out).mono ?_)
   rintro e1 V1 ⟨ba, rfl, HF1⟩
   have HF := Lib.hid HF1
   clear HF1
   refine kk hK (At.cell HF.out (b := b0) (cs := B.cells.toArray) (t := 36) (i := 7) (by simp) rfl) (fun hHeld => ?_)
   clear hK K
   refine rd [4, 10] ?_
   refine rc (fun K hK => ?_) ?_
   ·
    go_simp
    obtain ⟨bc, V3, q1, q2, -, HF1⟩ := HF.out.alloc (.cells #[.func (.func 129) #[] #[.pointer (some ⟨ba, 0, none⟩)]] 45)
    rw [q1, q2]
    have HF := Lib.hid HF1
    clear HF1 q1 q2
    refine kk hK (At.cell HF.out (b := b0) (cs := B.cells.toArray) (t := 36) (i := 7) (by simp) rfl) (fun hHeld => ?_)
    clear hK K
    refine rd [5, 10] ?_
    refine rc (fun K hK => ?_) ?_
    ·
     go_simp
     (with_reducible refine (where_at (B.ad 7) (B.ls 7).length (B.cp 7) (some ⟨bc, 0, none⟩) 1 1 HF.out).mono ?_)
     rintro e1 V4 ⟨b1, b2, rfl, HF1⟩
     have HF := Lib.hid HF1
     clear HF1
     refine kk hK (At.cell HF.out (b := b0) (cs := B.cells.toArray) (t := 36) (i := 7) (by simp) rfl) (fun hHeld => ?_)
     clear hK K
     refine rd [6, 10] ?_
     refine rc (fun K hK => ?_) ?_
     ·
      go_simp
      (with_reducible refine (first_at HF.out [⟨129, #[.pointer (some ⟨ba, 0, none⟩)], fun e => decide (e.item = p)⟩] (B.ls 7) (B.ad 7) (some ⟨bc, 0, none⟩) _ (B.cp 7) 1 1 b1 b2 rfl (Nat.le_trans (HB.out.cap 7 (by decide)).1 (HB.out.cap 7 (by decide)).2) rfl (by decide) (by simp) (by simp) (HB.out.at_ 7 (by decide)) bc rfl 45 (by simp [CndD.val]) ?hc).mono ?_)
      case hc => intro c hc; simp only [List.mem_cons, List.not_mem_nil, or_false] at hc; obtain rfl := hc; exact HF.out.about (by simp)
      rintro e1 V5 ⟨rfl, HF1⟩
      have HF := Lib.hid HF1
      unfold firstR
      obtain ⟨ev, hev⟩ : ∃ ev, (List.filter (allP [⟨129, #[.pointer (some ⟨ba, 0, none⟩)], fun e => decide (e.item = p)⟩]) (B.ls 7)).headD zeroE = ev := ⟨_, rfl⟩
      obtain ⟨qv, hqv⟩ : ∃ qv, (!(List.filter (allP [⟨129, #[.pointer (some ⟨ba, 0, none⟩)], fun e => decide (e.item = p)⟩]) (B.ls 7)).isEmpty) = qv := ⟨_, rfl⟩
      rw [hev, hqv]
      have HEV := Lib.hid hev
      have HQV := Lib.hid hqv
      clear HF1 hev hqv
      refine kk hK (At.cell HF.out (b := b0) (cs := B.cells.toArray) (t := 36) (i := 7) (by simp) rfl) (fun hHeld => ?_)
      clear hK K
      refine tk 7 ?_
      refine tk 8 ?_
      refine tk 9 ?_
      refine rd [10] ?_
      refine rc (fun K hK => ?_) ?_
      ·
       go_simp
       obtain ⟨bv, V6, q1, q2, q3, HF1⟩ := HF.out.alloc (.cells zeroE.cells.toArray 33)
       have q2' : V6 = V6 := rfl
       simp only [zeroE, Ent.cells] at q2
       rw [q1, q2]
       have HF := Lib.hid HF1
       have HV := Lib.hid q3
       clear HF1 q1 q2 q2' q3
       refine kk hK (At.cell HF.out (b := b0) (cs := B.cells.toArray) (t := 36) (i := 7) (by simp) rfl) (fun hHeld => ?_)
       clear hK K
       refine rd [11] ?_
       refine rc (fun K hK => ?_) ?_
       ·
        refine step_store_at (by rfl) (.tmp 6) (.tmp 16) (by rfl) (by rfl) bv ev (by rfl) (by rfl) (IE _).out HF.out HV.out (by simp [zeroE, Ent.cells]) ?_
        intro V7 hb7 he7 hk7
        have HST := Lib.hid (And.intro hb7 he7)
        have HK7 := Lib.hid hk7
        clear hb7 he7 hk7
        refine kk hK (cells_i (HK7.out b0 B.cells.toArray 36 (by simp) (by decide)) (i := 7) rfl) (fun hHeld => ?_)
        clear hK K
        refine tk 12 ?_
        refine dn ?_
        have HB4 := Lib.hid (HK7.out b4 #[.string ⟨#[]⟩, .string ⟨#[]⟩] 29 (by simp) (by decide))
        have x1 := HST.out.2.cell (i := 15) rfl
        have x2 := HST.out.2.cell (i := 16) rfl
        have y1 := cells_i (i := 0) HB4.out rfl
        have y2 := cells_i (i := 1) HB4.out rfl
        have f1 := cells_free HB4.out 0
        have f2 := cells_free HB4.out 1
        clear hHeld
        go_wp2
        have hq : qv = (B.ls 7).any fun e => decide (e.item = p) := by rw [← HQV.out, any_first]; congr 1; funext e; simp [allP]
        have he : ev = budgetE (B.ls 7) p := by rw [← HEV.out]; unfold budgetE; congr 2; funext e; simp [allP]
        rw [← hq, ← he]
        have hR := put2 HB4.out (.string ev.rn) (.string ev.rd)
        refine bodyPost_ret (results_celltmp rfl _ _ b4 [.string ev.rn, .string ev.rd] _ rfl (range_of hR) Tryz.underlying29 rfl (by kernel_rfl)) rfl ?_
        exact ⟨rfl, below_put2 HST.out.1 Hb4.out _ _⟩
       exact AllReadyH.nil
      exact AllReadyH.nil
     refine rc (fun K hK => ?_) ?_
     ·
      go_simp
      obtain ⟨bv, V6, q1, q2, q3, HF1⟩ := HF.out.alloc (.cells zeroE.cells.toArray 33)
      have q2' : V6 = V6 := rfl
      simp only [zeroE, Ent.cells] at q2
      rw [q1, q2]
      have HF := Lib.hid HF1
      have HV := Lib.hid q3
      clear HF1 q1 q2 q2' q3
      refine kk hK (At.cell HF.out (b := b0) (cs := B.cells.toArray) (t := 36) (i := 7) (by simp) rfl) (fun hHeld => ?_)
      clear hK K
      refine rd [6] ?_
      refine rc (fun K hK => ?_) ?_
      ·
       go_simp
       (with_reducible refine (first_at HF.out [⟨129, #[.pointer (some ⟨ba, 0, none⟩)], fun e => decide (e.item = p)⟩] (B.ls 7) (B.ad 7) (some ⟨bc, 0, none⟩) _ (B.cp 7) 1 1 b1 b2 rfl (Nat.le_trans (HB.out.cap 7 (by decide)).1 (HB.out.cap 7 (by decide)).2) rfl (by decide) (by simp) (by simp) (HB.out.at_ 7 (by decide)) bc rfl 45 (by simp [CndD.val]) ?hc).mono ?_)
       case hc => intro c hc; simp only [List.mem_cons, List.not_mem_nil, or_false] at hc; obtain rfl := hc; exact HF.out.about (by simp)
       rintro e1 V5 ⟨rfl, HF1⟩
       have HF := Lib.hid HF1
       unfold firstR
       obtain ⟨ev, hev⟩ : ∃ ev, (List.filter (allP [⟨129, #[.pointer (some ⟨ba, 0, none⟩)], fun e => decide (e.item = p)⟩]) (B.ls 7)).headD zeroE = ev := ⟨_, rfl⟩
       obtain ⟨qv, hqv⟩ : ∃ qv, (!(List.filter (allP [⟨129, #[.pointer (some ⟨ba, 0, none⟩)], fun e => decide (e.item = p)⟩]) (B.ls 7)).isEmpty) = qv := ⟨_, rfl⟩
       rw [hev, hqv]
       have HEV := Lib.hid hev
       have HQV := Lib.hid hqv
       clear HF1 hev hqv
       refine kk hK (At.cell HF.out (b := b0) (cs := B.cells.toArray) (t := 36) (i := 7) (by simp) rfl) (fun hHeld => ?_)
       clear hK K
       refine tk 7 ?_
       refine tk 8 ?_
       refine tk 9 ?_
       refine rd [11] ?_
       refine rc (fun K hK => ?_) ?_
       ·
        refine step_store_at (by rfl) (.tmp 6) (.tmp 16) (by rfl) (by rfl) bv ev (by rfl) (by rfl) (IE _).out HF.out HV.out (by simp [zeroE, Ent.cells]) ?_
        intro V7 hb7 he7 hk7
        have HST := Lib.hid (And.intro hb7 he7)
        have HK7 := Lib.hid hk7
        clear hb7 he7 hk7
        refine kk hK (cells_i (HK7.out b0 B.cells.toArray 36 (by simp) (by decide)) (i := 7) rfl) (fun hHeld => ?_)
        clear hK K
        refine tk 12 ?_
        refine dn ?_
        have HB4 := Lib.hid (HK7.out b4 #[.string ⟨#[]⟩, .string ⟨#[]⟩] 29 (by simp) (by decide))
        have x1 := HST.out.2.cell (i := 15) rfl
        have x2 := HST.out.2.cell (i := 16) rfl
        have y1 := cells_i (i := 0) HB4.out rfl
        have y2 := cells_i (i := 1) HB4.out rfl
        have f1 := cells_free HB4.out 0
        have f2 := cells_free HB4.out 1
        clear hHeld
        go_wp2
        have hq : qv = (B.ls 7).any fun e => decide (e.item = p) := by rw [← HQV.out, any_first]; congr 1; funext e; simp [allP]
        have he : ev = budgetE (B.ls 7) p := by rw [← HEV.out]; unfold budgetE; congr 2; funext e; simp [allP]
        rw [← hq, ← he]
        have hR := put2 HB4.out (.string ev.rn) (.string ev.rd)
        refine bodyPost_ret (results_celltmp rfl _ _ b4 [.string ev.rn, .string ev.rd] _ rfl (range_of hR) Tryz.underlying29 rfl (by kernel_rfl)) rfl ?_
        exact ⟨rfl, below_put2 HST.out.1 Hb4.out _ _⟩
       exact AllReadyH.nil
      exact AllReadyH.nil
     exact AllReadyH.nil
    refine rc (fun K hK => ?_) ?_
    ·
     go_simp
     obtain ⟨bv, V6, q1, q2, q3, HF1⟩ := HF.out.alloc (.cells zeroE.cells.toArray 33)
     have q2' : V6 = V6 := rfl
     simp only [zeroE, Ent.cells] at q2
     rw [q1, q2]
     have HF := Lib.hid HF1
     have HV := Lib.hid q3
     clear HF1 q1 q2 q2' q3
     refine kk hK (At.cell HF.out (b := b0) (cs := B.cells.toArray) (t := 36) (i := 7) (by simp) rfl) (fun hHeld => ?_)
     clear hK K
     refine rd [5] ?_
     refine rc (fun K hK => ?_) ?_
     ·
      go_simp
      (with_reducible refine (where_at (B.ad 7) (B.ls 7).length (B.cp 7) (some ⟨bc, 0, none⟩) 1 1 HF.out).mono ?_)
      rintro e1 V4 ⟨b1, b2, rfl, HF1⟩
      have HF := Lib.hid HF1
      clear HF1
      refine kk hK (At.cell HF.out (b := b0) (cs := B.cells.toArray) (t := 36) (i := 7) (by simp) rfl) (fun hHeld => ?_)
      clear hK K
      refine rd [6] ?_
      refine rc (fun K hK => ?_) ?_
      ·
       go_simp
       (with_reducible refine (first_at HF.out [⟨129, #[.pointer (some ⟨ba, 0, none⟩)], fun e => decide (e.item = p)⟩] (B.ls 7) (B.ad 7) (some ⟨bc, 0, none⟩) _ (B.cp 7) 1 1 b1 b2 rfl (Nat.le_trans (HB.out.cap 7 (by decide)).1 (HB.out.cap 7 (by decide)).2) rfl (by decide) (by simp) (by simp) (HB.out.at_ 7 (by decide)) bc rfl 45 (by simp [CndD.val]) ?hc).mono ?_)
       case hc => intro c hc; simp only [List.mem_cons, List.not_mem_nil, or_false] at hc; obtain rfl := hc; exact HF.out.about (by simp)
       rintro e1 V5 ⟨rfl, HF1⟩
       have HF := Lib.hid HF1
       unfold firstR
       obtain ⟨ev, hev⟩ : ∃ ev, (List.filter (allP [⟨129, #[.pointer (some ⟨ba, 0, none⟩)], fun e => decide (e.item = p)⟩]) (B.ls 7)).headD zeroE = ev := ⟨_, rfl⟩
       obtain ⟨qv, hqv⟩ : ∃ qv, (!(List.filter (allP [⟨129, #[.pointer (some ⟨ba, 0, none⟩)], fun e => decide (e.item = p)⟩]) (B.ls 7)).isEmpty) = qv := ⟨_, rfl⟩
       rw [hev, hqv]
       have HEV := Lib.hid hev
       have HQV := Lib.hid hqv
       clear HF1 hev hqv
       refine kk hK (At.cell HF.out (b := b0) (cs := B.cells.toArray) (t := 36) (i := 7) (by simp) rfl) (fun hHeld => ?_)
       clear hK K
       refine tk 7 ?_
       refine tk 8 ?_
       refine tk 9 ?_
       refine rd [11] ?_
       refine rc (fun K hK => ?_) ?_
       ·
        refine step_store_at (by rfl) (.tmp 6) (.tmp 16) (by rfl) (by rfl) bv ev (by rfl) (by rfl) (IE _).out HF.out HV.out (by simp [zeroE, Ent.cells]) ?_
        intro V7 hb7 he7 hk7
        have HST := Lib.hid (And.intro hb7 he7)
        have HK7 := Lib.hid hk7
        clear hb7 he7 hk7
        refine kk hK (cells_i (HK7.out b0 B.cells.toArray 36 (by simp) (by decide)) (i := 7) rfl) (fun hHeld => ?_)
        clear hK K
        refine tk 12 ?_
        refine dn ?_
        have HB4 := Lib.hid (HK7.out b4 #[.string ⟨#[]⟩, .string ⟨#[]⟩] 29 (by simp) (by decide))
        have x1 := HST.out.2.cell (i := 15) rfl
        have x2 := HST.out.2.cell (i := 16) rfl
        have y1 := cells_i (i := 0) HB4.out rfl
        have y2 := cells_i (i := 1) HB4.out rfl
        have f1 := cells_free HB4.out 0
        have f2 := cells_free HB4.out 1
        clear hHeld
        go_wp2
        have hq : qv = (B.ls 7).any fun e => decide (e.item = p) := by rw [← HQV.out, any_first]; congr 1; funext e; simp [allP]
        have he : ev = budgetE (B.ls 7) p := by rw [← HEV.out]; unfold budgetE; congr 2; funext e; simp [allP]
        rw [← hq, ← he]
        have hR := put2 HB4.out (.string ev.rn) (.string ev.rd)
        refine bodyPost_ret (results_celltmp rfl _ _ b4 [.string ev.rn, .string ev.rd] _ rfl (range_of hR) Tryz.underlying29 rfl (by kernel_rfl)) rfl ?_
        exact ⟨rfl, below_put2 HST.out.1 Hb4.out _ _⟩
       exact AllReadyH.nil
      exact AllReadyH.nil
     exact AllReadyH.nil
    exact AllReadyH.nil
   refine rc (fun K hK => ?_) ?_
   ·
    go_simp
    obtain ⟨bv, V6, q1, q2, q3, HF1⟩ := HF.out.alloc (.cells zeroE.cells.toArray 33)
    have q2' : V6 = V6 := rfl
    simp only [zeroE, Ent.cells] at q2
    rw [q1, q2]
    have HF := Lib.hid HF1
    have HV := Lib.hid q3
    clear HF1 q1 q2 q2' q3
    refine kk hK (At.cell HF.out (b := b0) (cs := B.cells.toArray) (t := 36) (i := 7) (by simp) rfl) (fun hHeld => ?_)
    clear hK K
    refine rd [4] ?_
    refine rc (fun K hK => ?_) ?_
    ·
     go_simp
     obtain ⟨bc, V3, q1, q2, -, HF1⟩ := HF.out.alloc (.cells #[.func (.func 129) #[] #[.pointer (some ⟨ba, 0, none⟩)]] 45)
     rw [q1, q2]
     have HF := Lib.hid HF1
     clear HF1 q1 q2
     refine kk hK (At.cell HF.out (b := b0) (cs := B.cells.toArray) (t := 36) (i := 7) (by simp) rfl) (fun hHeld => ?_)
     clear hK K
     refine rd [5] ?_
     refine rc (fun K hK => ?_) ?_
     ·
      go_simp
      (with_reducible refine (where_at (B.ad 7) (B.ls 7).length (B.cp 7) (some ⟨bc, 0, none⟩) 1 1 HF.out).mono ?_)
      rintro e1 V4 ⟨b1, b2, rfl, HF1⟩
      have HF := Lib.hid HF1
      clear HF1
      refine kk hK (At.cell HF.out (b := b0) (cs := B.cells.toArray) (t := 36) (i := 7) (by simp) rfl) (fun hHeld => ?_)
      clear hK K
      refine rd [6] ?_
      refine rc (fun K hK => ?_) ?_
      ·
       go_simp
       (with_reducible refine (first_at HF.out [⟨129, #[.pointer (some ⟨ba, 0, none⟩)], fun e => decide (e.item = p)⟩] (B.ls 7) (B.ad 7) (some ⟨bc, 0, none⟩) _ (B.cp 7) 1 1 b1 b2 rfl (Nat.le_trans (HB.out.cap 7 (by decide)).1 (HB.out.cap 7 (by decide)).2) rfl (by decide) (by simp) (by simp) (HB.out.at_ 7 (by decide)) bc rfl 45 (by simp [CndD.val]) ?hc).mono ?_)
       case hc => intro c hc; simp only [List.mem_cons, List.not_mem_nil, or_false] at hc; obtain rfl := hc; exact HF.out.about (by simp)
       rintro e1 V5 ⟨rfl, HF1⟩
       have HF := Lib.hid HF1
       unfold firstR
       obtain ⟨ev, hev⟩ : ∃ ev, (List.filter (allP [⟨129, #[.pointer (some ⟨ba, 0, none⟩)], fun e => decide (e.item = p)⟩]) (B.ls 7)).headD zeroE = ev := ⟨_, rfl⟩
       obtain ⟨qv, hqv⟩ : ∃ qv, (!(List.filter (allP [⟨129, #[.pointer (some ⟨ba, 0, none⟩)], fun e => decide (e.item = p)⟩]) (B.ls 7)).isEmpty) = qv := ⟨_, rfl⟩
       rw [hev, hqv]
       have HEV := Lib.hid hev
       have HQV := Lib.hid hqv
       clear HF1 hev hqv
       refine kk hK (At.cell HF.out (b := b0) (cs := B.cells.toArray) (t := 36) (i := 7) (by simp) rfl) (fun hHeld => ?_)
       clear hK K
       refine tk 7 ?_
       refine tk 8 ?_
       refine tk 9 ?_
       refine rd [11] ?_
       refine rc (fun K hK => ?_) ?_
       ·
        refine step_store_at (by rfl) (.tmp 6) (.tmp 16) (by rfl) (by rfl) bv ev (by rfl) (by rfl) (IE _).out HF.out HV.out (by simp [zeroE, Ent.cells]) ?_
        intro V7 hb7 he7 hk7
        have HST := Lib.hid (And.intro hb7 he7)
        have HK7 := Lib.hid hk7
        clear hb7 he7 hk7
        refine kk hK (cells_i (HK7.out b0 B.cells.toArray 36 (by simp) (by decide)) (i := 7) rfl) (fun hHeld => ?_)
        clear hK K
        refine tk 12 ?_
        refine dn ?_
        have HB4 := Lib.hid (HK7.out b4 #[.string ⟨#[]⟩, .string ⟨#[]⟩] 29 (by simp) (by decide))
        have x1 := HST.out.2.cell (i := 15) rfl
        have x2 := HST.out.2.cell (i := 16) rfl
        have y1 := cells_i (i := 0) HB4.out rfl
        have y2 := cells_i (i := 1) HB4.out rfl
        have f1 := cells_free HB4.out 0
        have f2 := cells_free HB4.out 1
        clear hHeld
        go_wp2
        have hq : qv = (B.ls 7).any fun e => decide (e.item = p) := by rw [← HQV.out, any_first]; congr 1; funext e; simp [allP]
        have he : ev = budgetE (B.ls 7) p := by rw [← HEV.out]; unfold budgetE; congr 2; funext e; simp [allP]
        rw [← hq, ← he]
        have hR := put2 HB4.out (.string ev.rn) (.string ev.rd)
        refine bodyPost_ret (results_celltmp rfl _ _ b4 [.string ev.rn, .string ev.rd] _ rfl (range_of hR) Tryz.underlying29 rfl (by kernel_rfl)) rfl ?_
        exact ⟨rfl, below_put2 HST.out.1 Hb4.out _ _⟩
       exact AllReadyH.nil
      exact AllReadyH.nil
     exact AllReadyH.nil
    exact AllReadyH.nil
   exact AllReadyH.nil
  refine rc (fun K hK => ?_) ?_
  ·
   go_simp
   obtain ⟨bv, V6, q1, q2, q3, HF1⟩ := HF.out.alloc (.cells zeroE.cells.toArray 33)
   have q2' : V6 = V6 := rfl
   simp only [zeroE, Ent.cells] at q2
   rw [q1, q2]
   have HF := Lib.hid HF1
   have HV := Lib.hid q3
   clear HF1 q1 q2 q2' q3
   refine kk hK (At.cell HF.out (b := b0) (cs := B.cells.toArray) (t := 36) (i := 7) (by simp) rfl) (fun hHeld => ?_)
   clear hK K
   refine rd [3] ?_
   refine rc (fun K hK => ?_) ?_
   ·
    go_simp
    (with_reducible refine (about_at (p) HF.out).mono ?_)
    rintro e1 V1 ⟨ba, rfl, HF1⟩
    have HF := Lib.hid HF1
    clear HF1
    refine kk hK (At.cell HF.out (b := b0) (cs := B.cells.toArray) (t := 36) (i := 7) (by simp) rfl) (fun hHeld => ?_)
    clear hK K
    refine rd [4] ?_
    refine rc (fun K hK => ?_) ?_
    ·
     go_simp
     obtain ⟨bc, V3, q1, q2, -, HF1⟩ := HF.out.alloc (.cells #[.func (.func 129) #[] #[.pointer (some ⟨ba, 0, none⟩)]] 45)
     rw [q1, q2]
     have HF := Lib.hid HF1
     clear HF1 q1 q2
     refine kk hK (At.cell HF.out (b := b0) (cs := B.cells.toArray) (t := 36) (i := 7) (by simp) rfl) (fun hHeld => ?_)
     clear hK K
     refine rd [5] ?_
     refine rc (fun K hK => ?_) ?_
     ·
      go_simp
      (with_reducible refine (where_at (B.ad 7) (B.ls 7).length (B.cp 7) (some ⟨bc, 0, none⟩) 1 1 HF.out).mono ?_)
      rintro e1 V4 ⟨b1, b2, rfl, HF1⟩
      have HF := Lib.hid HF1
      clear HF1
      refine kk hK (At.cell HF.out (b := b0) (cs := B.cells.toArray) (t := 36) (i := 7) (by simp) rfl) (fun hHeld => ?_)
      clear hK K
      refine rd [6] ?_
      refine rc (fun K hK => ?_) ?_
      ·
       go_simp
       (with_reducible refine (first_at HF.out [⟨129, #[.pointer (some ⟨ba, 0, none⟩)], fun e => decide (e.item = p)⟩] (B.ls 7) (B.ad 7) (some ⟨bc, 0, none⟩) _ (B.cp 7) 1 1 b1 b2 rfl (Nat.le_trans (HB.out.cap 7 (by decide)).1 (HB.out.cap 7 (by decide)).2) rfl (by decide) (by simp) (by simp) (HB.out.at_ 7 (by decide)) bc rfl 45 (by simp [CndD.val]) ?hc).mono ?_)
       case hc => intro c hc; simp only [List.mem_cons, List.not_mem_nil, or_false] at hc; obtain rfl := hc; exact HF.out.about (by simp)
       rintro e1 V5 ⟨rfl, HF1⟩
       have HF := Lib.hid HF1
       unfold firstR
       obtain ⟨ev, hev⟩ : ∃ ev, (List.filter (allP [⟨129, #[.pointer (some ⟨ba, 0, none⟩)], fun e => decide (e.item = p)⟩]) (B.ls 7)).headD zeroE = ev := ⟨_, rfl⟩
       obtain ⟨qv, hqv⟩ : ∃ qv, (!(List.filter (allP [⟨129, #[.pointer (some ⟨ba, 0, none⟩)], fun e => decide (e.item = p)⟩]) (B.ls 7)).isEmpty) = qv := ⟨_, rfl⟩
       rw [hev, hqv]
       have HEV := Lib.hid hev
       have HQV := Lib.hid hqv
       clear HF1 hev hqv
       refine kk hK (At.cell HF.out (b := b0) (cs := B.cells.toArray) (t := 36) (i := 7) (by simp) rfl) (fun hHeld => ?_)
       clear hK K
       refine tk 7 ?_
       refine tk 8 ?_
       refine tk 9 ?_
       refine rd [11] ?_
       refine rc (fun K hK => ?_) ?_
       ·
        refine step_store_at (by rfl) (.tmp 6) (.tmp 16) (by rfl) (by rfl) bv ev (by rfl) (by rfl) (IE _).out HF.out HV.out (by simp [zeroE, Ent.cells]) ?_
        intro V7 hb7 he7 hk7
        have HST := Lib.hid (And.intro hb7 he7)
        have HK7 := Lib.hid hk7
        clear hb7 he7 hk7
        refine kk hK (cells_i (HK7.out b0 B.cells.toArray 36 (by simp) (by decide)) (i := 7) rfl) (fun hHeld => ?_)
        clear hK K
        refine tk 12 ?_
        refine dn ?_
        have HB4 := Lib.hid (HK7.out b4 #[.string ⟨#[]⟩, .string ⟨#[]⟩] 29 (by simp) (by decide))
        have x1 := HST.out.2.cell (i := 15) rfl
        have x2 := HST.out.2.cell (i := 16) rfl
        have y1 := cells_i (i := 0) HB4.out rfl
        have y2 := cells_i (i := 1) HB4.out rfl
        have f1 := cells_free HB4.out 0
        have f2 := cells_free HB4.out 1
        clear hHeld
        go_wp2
        have hq : qv = (B.ls 7).any fun e => decide (e.item = p) := by rw [← HQV.out, any_first]; congr 1; funext e; simp [allP]
        have he : ev = budgetE (B.ls 7) p := by rw [← HEV.out]; unfold budgetE; congr 2; funext e; simp [allP]
        rw [← hq, ← he]
        have hR := put2 HB4.out (.string ev.rn) (.string ev.rd)
        refine bodyPost_ret (results_celltmp rfl _ _ b4 [.string ev.rn, .string ev.rd] _ rfl (range_of hR) Tryz.underlying29 rfl (by kernel_rfl)) rfl ?_
        exact ⟨rfl, below_put2 HST.out.1 Hb4.out _ _⟩
       exact AllReadyH.nil
      exact AllReadyH.nil
     exact AllReadyH.nil
    exact AllReadyH.nil
   exact AllReadyH.nil
  exact AllReadyH.nil
end Go.Proofs.YteeifhlhpiimoaaGreatDoor
end
section
namespace Go.Proofs.YteeifhlhpiimoaaGreatDoor
open Go Go.RowKit Go.Shelf
attribute [local go_sem] Oper.semAt_some
theorem txtB_nat (n : Nat) : txtB false n = zB (n : Int) := by
  have := txt_int (n : Int)
  rw [decide_eq_false (show ¬ (n : Int) < 0 by omega)] at this
  unfold txtB zB
  rw [← this]; rfl
theorem zB_zero : zB 0 = ⟨#[48]⟩ := by unfold zB intS; rw [if_neg (by omega), show (0 : Int).natAbs = 0 from rfl, decS_lt (by decide)]; rfl
def rnB (x : Int) (y : Nat) : ByteArray := txtB (decide (x < 0)) (x.natAbs / Nat.gcd x.natAbs y)
def rdB (x : Int) (y : Nat) : ByteArray := txtB false (y / Nat.gcd x.natAbs y)
def RtP (x : Int) (y : Nat) (w : World) (e : Ending) (w' : World) : Prop := e = .returned (.tuple #[.agg #[.string (rnB x y), .string (rdB x y)], .int .i64 0]) ∧ Below w.heap.size w w'
def DvP (s : ByteArray) (w : World) (e : Ending) (w' : World) : Prop := e = .returned (.tuple #[.string s, .string (txtB false 0), .int .i64 0]) ∧ Below w.heap.size w w'
set_option maxRecDepth 100000 in
set_option maxHeartbeats 4000000 in
theorem rmake_walk (x : Int) (y : Nat) (h0 : 0 < y) (hx : (dg x.natAbs).length ≤ 200) (hy : (dg y).length ≤ 200) (w : World) : Calls Tryz.prog 98 #[.string (zB x), .string (zB (y : Int))] w (RtP x y w) := by
  have hy' : (dg (y : Int).natAbs).length ≤ 200 := hy
  have hg0 : 0 < Nat.gcd x.natAbs y := Nat.gcd_pos_of_pos_right _ h0
  have hgl : (dg (Nat.gcd x.natAbs y)).length ≤ 200 := Nat.le_trans (dg_len_mono (Nat.gcd_le_right _ h0)) hy
  have C1 := Lib.hid (fun W => valid_z hx W)
  have C2 := Lib.hid (fun W => valid_z hy' W)
  have C3 : Hid (∀ W, Calls Tryz.prog 151 #[.string (zB (y : Int)), .string ⟨#[48]⟩] W (IntV W 1)) := Lib.hid fun W => by
    have := rcompare3_walk (y : Int) 0 hy' (by rw [show (0 : Int).natAbs = 0 from rfl, dg_zero]; simp) W
    rw [zB_zero, show ordI (y : Int) 0 = 1 from by unfold ordI; rw [if_neg (by omega), if_pos (by omega)]] at this
    exact this
  have C4 := Lib.hid (fun W => rgcd3_walk x (y : Int) hx hy' W)
  rw [show (y : Int).natAbs = y from rfl] at C4
  have C5 : Hid (∀ W, Calls Tryz.prog 154 #[.string (zB x), .string (txtB false (Nat.gcd x.natAbs y))] W (DvP (rnB x y) W)) := Lib.hid fun W => by
    rw [txtB_nat]; exact rdiv3_walk x _ hg0 (Nat.gcd_dvd_left _ _) hx hgl W
  have C6 : Hid (∀ W, Calls Tryz.prog 154 #[.string (zB (y : Int)), .string (txtB false (Nat.gcd x.natAbs y))] W (DvP (rdB x y) W)) := Lib.hid fun W => by
    have := rdiv3_walk (y : Int) _ hg0 (Nat.gcd_dvd_right _ _) hy' hgl W
    rw [decide_eq_false (show ¬ (y : Int) < 0 by omega), ← txtB_nat (Nat.gcd x.natAbs y)] at this
    exact this
  have h48 := zB_not0 h0
  unfold RtP
  obtain ⟨s, hs⟩ : ∃ s, zB x = s := ⟨_, rfl⟩
  obtain ⟨t, ht⟩ : ∃ t, zB (y : Int) = t := ⟨_, rfl⟩
  obtain ⟨u, hu⟩ : ∃ u, txtB false (Nat.gcd x.natAbs y) = u := ⟨_, rfl⟩
  obtain ⟨rn, hrn⟩ : ∃ s, rnB x y = s := ⟨_, rfl⟩
  obtain ⟨rdd, hrd⟩ : ∃ s, rdB x y = s := ⟨_, rfl⟩
  rw [hs] at C1 C4 C5 ⊢
  rw [ht] at C2 C3 C4 C6 h48 ⊢
  rw [hu] at C4 C5 C6
  rw [hrn] at C5 ⊢
  rw [hrd] at C6 ⊢
  clear hs ht hu hrn hrd hx hy hy' hg0 hgl h0
  have R0 := Lib.hid (World.alloc_heap_new w (.cells #[.string ⟨#[]⟩, .string ⟨#[]⟩] 29))
  have HW0 := Lib.hid (below_new w (.cells #[.string ⟨#[]⟩, .string ⟨#[]⟩] 29))
  obtain ⟨b, hb⟩ : ∃ b, w.heap.size = b := ⟨_, rfl⟩
  obtain ⟨w0, hw0⟩ : ∃ w0, w.alloc (.cells #[.string ⟨#[]⟩, .string ⟨#[]⟩] 29) = w0 := ⟨_, rfl⟩
  rw [hw0] at R0 HW0
  rw [hb] at R0
  have HB := Lib.hid hb
  go_enter Tryz.func98, Tryz.ntmps98
  go_wp2_with (first
    | (go_at_call 150; refine (C1.out w0).mono ?_; rintro e w1 ⟨rfl, hq⟩; have R1 := Lib.hid (below_at2 hq R0.out); have HW1 := Lib.hid (HW0.out.trans (hq.mono HW0.out.size)); clear hq R0 HW0 C1)
    | (go_at_call 150; refine (C2.out w1).mono ?_; rintro e w2 ⟨rfl, hq⟩; have R2 := Lib.hid (below_at2 hq R1.out); have HW2 := Lib.hid (HW1.out.trans (hq.mono HW1.out.size)); clear hq R1 HW1 C2)
    | (go_at_call 151; refine (C3.out w2).mono ?_; rintro e w3 ⟨rfl, hq⟩; have R3 := Lib.hid (below_at2 hq R2.out); have HW3 := Lib.hid (HW2.out.trans (hq.mono HW2.out.size)); clear hq R2 HW2 C3)
    | (go_at_call 153; refine (C4.out w3).mono ?_; rintro e w4 ⟨rfl, hq⟩; have R4 := Lib.hid (below_at2 hq R3.out); have HW4 := Lib.hid (HW3.out.trans (hq.mono HW3.out.size)); clear hq R3 HW3 C4)
    | (go_at_call 154; refine (C5.out w4).mono ?_; rintro e w5 ⟨rfl, hq⟩; have R5 := Lib.hid (below_at2 hq R4.out); have HW5 := Lib.hid (HW4.out.trans (hq.mono HW4.out.size)); clear hq R4 HW4 C5)
    | (go_at_call 154; refine (C6.out w5).mono ?_; rintro e w6 ⟨rfl, hq⟩; have R6 := Lib.hid (below_at2 hq R5.out); have HW6 := Lib.hid (HW5.out.trans (hq.mono HW5.out.size)); have y1 := cells_i (i := 0) R6.out rfl; have y2 := cells_i (i := 1) R6.out rfl; have f1 := cells_free R6.out 0; have f2 := cells_free R6.out 1; clear hq R5 HW5 C6)
    | fail)
  have hR := put2 R6.out (.string rn) (.string rdd)
  refine bodyPost_ret (results_celltmp rfl _ _ b [.string rn, .string rdd] _ rfl (range_of hR) Tryz.underlying29 rfl (by kernel_rfl)) rfl ?_
  exact ⟨rfl, below_put2 HW6.out (Nat.le_of_eq HB.out) _ _⟩
set_option maxRecDepth 100000 in
set_option maxHeartbeats 4000000 in
theorem rof_walk (x : Int) (y : Nat) (h0 : 0 < y) (hx : x.natAbs < 10 ^ 18) (hy : y < 10 ^ 18) (w : World) : Calls Tryz.prog 53 #[.int .i64 x, .int .i64 (y : Int)] w (RtP x y w) := by
  have C1 : Hid (∀ W, Calls Tryz.prog 99 #[.int .i64 x] W (fun e w' => e = .returned (.string (zB x)) ∧ Below W.heap.size W w')) := Lib.hid fun W => rfromInt_walk x W hx
  have C2 : Hid (∀ W, Calls Tryz.prog 99 #[.int .i64 (y : Int)] W (fun e w' => e = .returned (.string (zB (y : Int))) ∧ Below W.heap.size W w')) := Lib.hid fun W => rfromInt_walk (y : Int) W hy
  have C3 := Lib.hid (fun W => rmake_walk x y h0 (Nat.le_trans (dg_len_le hx) (by omega)) (Nat.le_trans (dg_len_le hy) (by omega)) W)
  unfold RtP at C3 ⊢
  obtain ⟨s, hs⟩ : ∃ s, zB x = s := ⟨_, rfl⟩
  obtain ⟨t, ht⟩ : ∃ t, zB (y : Int) = t := ⟨_, rfl⟩
  obtain ⟨rn, hrn⟩ : ∃ s, rnB x y = s := ⟨_, rfl⟩
  obtain ⟨rdd, hrd⟩ : ∃ s, rdB x y = s := ⟨_, rfl⟩
  rw [hs] at C1 C3
  rw [ht] at C2 C3
  rw [hrn, hrd] at C3 ⊢
  clear hs ht hrn hrd hx hy h0
  have R0 := Lib.hid (World.alloc_heap_new w (.cells #[.string ⟨#[]⟩, .string ⟨#[]⟩] 29))
  have HW0 := Lib.hid (below_new w (.cells #[.string ⟨#[]⟩, .string ⟨#[]⟩] 29))
  obtain ⟨b, hb⟩ : ∃ b, w.heap.size = b := ⟨_, rfl⟩
  obtain ⟨w0, hw0⟩ : ∃ w0, w.alloc (.cells #[.string ⟨#[]⟩, .string ⟨#[]⟩] 29) = w0 := ⟨_, rfl⟩
  rw [hw0] at R0 HW0
  rw [hb] at R0
  have HB := Lib.hid hb
  go_enter Tryz.func53, Tryz.ntmps53
  go_wp2_with (first
    | (go_at_call 99; refine (C1.out w0).mono ?_; rintro e w1 ⟨rfl, hq⟩; have R1 := Lib.hid (below_at2 hq R0.out); have HW1 := Lib.hid (HW0.out.trans (hq.mono HW0.out.size)); clear hq R0 HW0 C1)
    | (go_at_call 99; refine (C2.out w1).mono ?_; rintro e w2 ⟨rfl, hq⟩; have R2 := Lib.hid (below_at2 hq R1.out); have HW2 := Lib.hid (HW1.out.trans (hq.mono HW1.out.size)); clear hq R1 HW1 C2)
    | (go_at_call 98; refine (C3.out w2).mono ?_; rintro e w6 ⟨rfl, hq⟩; have R6 := Lib.hid (below_at2 hq R2.out); have HW6 := Lib.hid (HW2.out.trans (hq.mono HW2.out.size)); have y1 := cells_i (i := 0) R6.out rfl; have y2 := cells_i (i := 1) R6.out rfl; have f1 := cells_free R6.out 0; have f2 := cells_free R6.out 1; clear hq R2 HW2 C3)
    | fail)
  have hR := put2 R6.out (.string rn) (.string rdd)
  refine bodyPost_ret (results_celltmp rfl _ _ b [.string rn, .string rdd] _ rfl (range_of hR) Tryz.underlying29 rfl (by kernel_rfl)) rfl ?_
  exact ⟨rfl, below_put2 HW6.out (Nat.le_of_eq HB.out) _ _⟩
end Go.Proofs.YteeifhlhpiimoaaGreatDoor
end
section
namespace Go.Proofs.YteeifhlhpiimoaaGreatDoor
open Go Go.RowKit Go.Shelf Go.Maps Wr
attribute [local go_sem] Oper.semAt_some
theorem elemEnt : Elem Tryz.prog 25 33 18 200 := Elem.mk' (z := zeroE.val) Tryz.underlying25 (by kernel_rfl) rfl (by decide)
def Part1 (acc : List Ent) (left : Lit → Bool) (lf : Nat → List Ent) : Prop := ∀ j, j < 9 → Keyd keyE (lf j) ∧ ∀ e, e ∈ lf j ↔ e ∈ acc ∧ e.kind = ((j + 1 : Nat) : Int) ∧ left (klit (keyE e)) = false
theorem Part1.step {acc : List Ent} {left : Lit → Bool} {lf : Nat → List Ent} (h : Part1 acc left lf) (hk : Keyd keyE acc) {c : Ent} (hc : c ∈ acc) {j : Nat} (hj : c.kind = ((j + 1 : Nat) : Int)) (hl : left (klit (keyE c)) = true) :
    Part1 acc (fun z => left z && !z.sameKey (klit (keyE c))) (upd lf j (lf j ++ [c])) := by
  have hn : ∀ i, i < 9 → ∀ e ∈ lf i, keyE e ≠ keyE c := fun i hi e he q => by
    obtain ⟨h1, _, h3⟩ := ((h i hi).2 e).1 he
    rw [q, hl] at h3; cases h3
  have hleft : ∀ e ∈ acc, ((left (klit (keyE e)) && !(klit (keyE e)).sameKey (klit (keyE c))) = false ↔ e = c ∨ left (klit (keyE e)) = false) := fun e he => by
    by_cases hec : keyE e = keyE c
    · obtain rfl := hk.one he hc hec
      rw [strike_same]; simp
    · rw [strike left _ (fun q => hec (klit_inj q))]
      constructor
      · exact .inr
      · rintro (q | q)
        · exact (hec (by rw [q])).elim
        · exact q
  intro i hi
  by_cases hij : i = j
  · subst hij
    rw [upd_same]
    refine ⟨List.pairwise_append.2 ⟨(h i hi).1, List.pairwise_singleton _ _, fun a ha b hb => ?_⟩, fun e => ?_⟩
    · rw [List.mem_singleton.1 hb]; exact hn i hi a ha
    · rw [List.mem_append, List.mem_singleton, (h i hi).2 e]
      constructor
      · rintro (⟨h1, h2, h3⟩ | rfl)
        · exact ⟨h1, h2, (hleft e h1).2 (.inr h3)⟩
        · exact ⟨hc, hj, (hleft e hc).2 (.inl rfl)⟩
      · rintro ⟨h1, h2, h3⟩
        rcases (hleft e h1).1 h3 with rfl | q
        · exact .inr rfl
        · exact .inl ⟨h1, h2, q⟩
  · rw [upd_other _ _ hij]
    refine ⟨(h i hi).1, fun e => ?_⟩
    rw [(h i hi).2 e]
    constructor
    · rintro ⟨h1, h2, h3⟩
      exact ⟨h1, h2, (hleft e h1).2 (.inr h3)⟩
    · rintro ⟨h1, h2, h3⟩
      refine ⟨h1, h2, ?_⟩
      rcases (hleft e h1).1 h3 with rfl | q
      · rw [hj] at h2; exact (hij (by omega)).elim
      · exact q
theorem ranges_ne {w : World} {b r n : Nat} {D : DataW Ent} {left : Lit → Bool} {cnt : Nat} (h : w.ranges Tryz.prog 9 rdE b r n D left cnt) {g : Nat} {cs : Array Value} {t : TypeId} {fz : Nat × Nat} (hg : w.heap[g]? = some (.cells cs t fz)) : b ≠ g ∧ r ≠ g := by
  obtain ⟨es, clock, since, seen, c0, h1, _, _, _, h2, _⟩ := h
  constructor
  · intro e; subst e; rw [h1] at hg; cases hg
  · intro e; subst e; rw [h2] at hg; cases hg
theorem own_cells {w : World} {N : Nat} {v : Value} {l : List Ent} (h : OL w N 33 18 Ent.cells v l) {g : Nat} (hg : v.ownBlock = some g) : ∃ cs, w.heap[g]? = some (.cells cs 33 (0, 0)) := by
  rcases h.2 with ⟨rfl, _⟩ | ⟨g', cap, cur, rfl, _, h2, _⟩
  · cases hg
  · have : g' = g := by injection hg
    subst this; exact ⟨_, h2⟩
theorem grown_turns {w w' : World} {row : Option Nat} (h : w.grownBy w' row) : Turns (fun q => row = some q) w w' := ⟨h.os, h.tape, h.output, h.size, fun k hk hz => h.block k hk (fun e => hz e.symm)⟩
theorem BasO.turns {w w' : World} {N bB : Nat} {vf : Nat → Value} {lf : Nat → List Ent} {Z : Nat → Prop} (h : BasO w N bB vf lf) (t : Turns Z w w') (hz : ∀ k cs T fz, w.heap[k]? = some (.cells cs T fz) → ¬ Z k) : BasO w' N bB vf lf :=
  ⟨(t.block _ (Array.getElem?_eq_some_iff.1 h.blk).1 (hz _ _ _ _ h.blk)).trans h.blk, fun j hj => (h.row j hj).keep fun g hg => by
    obtain ⟨cs, hc⟩ := own_cells (h.row j hj) hg
    exact t.block g ((h.row j hj).lt g hg).2 (hz _ _ _ _ hc), h.apart⟩
theorem one_cells' (e : Ent) : ∀ u ∈ e.cells, u.oneCell' = true := fun u hu => by
  have := one_cells e
  rw [Array.all_eq_true_iff_forall_mem] at this
  exact this u (by simpa using hu)
theorem run_build_ent (w : World) (e : Ent) : (Instr.buildSlice 25 1 #[(0, e.val)]).run Tryz.prog w = .ok (.slice (some ⟨w.heap.size, 0, none⟩) 1 1) (w.alloc (.cells e.cells.toArray 33)) := by
  obtain ⟨i, h1, h2, h3, h4⟩ := info_parts (show (Tryz.prog.info? 33).map (fun i => (i.zero, i.size, i.bytes)) = some (some zeroE.val, 18, 200) by kernel_rfl)
  refine run_buildSlice w 25 33 1 _ e.cells.toArray i zeroE.val Tryz.underlying25 h1 h2 (by rw [h3]; decide) (by rw [h3]; decide) ?_
  rw [h3]
  kernel_rfl
theorem step_build_ent {ops : Array Oper} {o : Oper} {a : Act} {w : World} {K : Act → World → Prop} {Q : Exit → Act → World → Prop} {D : Prop} (hgd : o.guard = none) (x : Operand) (ho : o.op = .buildSlice 25 1 #[(0, x)]) (e : Ent) (hx : a.eval x = e.val)
    (hk : ∀ b V, w.heap.size = b → Below b w V → V.heap[b]? = some (.cells e.cells.toArray 33 (0, 0)) → K (a.put o.dst (.slice (some ⟨b, 0, none⟩) 1 1)) V) :
    if Region.wanted o (yielded ops a.tmps) = true then Oper.wp Tryz.prog o a w K Q else D := by
  have hw : Region.wanted o (yielded ops a.tmps) = true := by simp [Region.wanted, hgd]
  rw [if_pos hw]
  have h := hk _ _ rfl (below_new w (.cells e.cells.toArray 33)) (World.alloc_heap_new w _)
  unfold Oper.wp execOp
  have hr := run_build_ent w e
  obtain ⟨z, hz⟩ : ∃ z, e.val = z := ⟨_, rfl⟩
  rw [hz] at hr hx
  simp only [ho, List.map_toArray, List.map_cons, List.map_nil, hx, Sem.run_bind, hr, Result.andThen_ok]
  exact h
def nilBase : Array Value := nine fun _ => .slice none 0 0
theorem ltOf_num (x y : Ent) : ltOf (fun x y : Ent => cmpZ' (numE x) (numE y)) x y = byNum numE x y := by
  unfold ltOf cmpZ' byNum
  by_cases h1 : numE x < numE y
  · simp [h1]
  · by_cases h2 : numE y < numE x <;> simp [h1, h2]
theorem swo_num : Go.Sort.SWO (ltOf fun x y : Ent => cmpZ' (numE x) (numE y)) where
  irrefl x := by rw [ltOf_num]; simp [byNum]
  trans x y z h1 h2 := by rw [ltOf_num] at *; simp [byNum] at *; omega
  ntrans x y z h1 h2 := by rw [ltOf_num] at *; simp [byNum] at *; omega
theorem sort_num {w : World} {N : Nat} {v : Value} {l : List Ent} (h : OL w N 33 18 Ent.cells v l) (hl : l.length ≤ 1000000) :
    Calls Tryz.prog 58 #[v, .func (.func 59) #[] #[]] w fun r w' => r = .returned (.tuple #[]) ∧ ∃ l', OL w' N 33 18 Ent.cells v l' ∧ l'.Perm l ∧ Up (ltOf fun x y => cmpZ' (numE x) (numE y)) l' ∧ Turns (fun q => v.ownBlock = some q) w w' :=
  sort_ol Tryz.sortEnt 18 (by decide) Tryz.isAgg33 Tryz.sizeOf33 Ent.cells (fun _ => rfl) (fun x u hu => one_cells' x u hu) (fun x y => cmpZ' (numE x) (numE y)) swo_num 59
    (enters_of Tryz.func59 (by kernel_rfl) rfl) (fun x y W => of1_walk x y W) (fun w => AnyF.slices_SortFunc_none Tryz.sortEnt none 0 _ w) h (by omega)
set_option maxRecDepth 100000 in
set_option maxHeartbeats 8000000 in
theorem knownOf_walk (l : List Ent) (day : Int) (A : Option Addr) (n c : Nat) (hn : l.length = n) (hm : n ≤ 1000000) (w : World) (hA : EAt w (Old w) A l) (hw : ∀ e ∈ l, e.Wire) (hp : Pow10 w) :
    Calls Tryz.prog 15 #[.slice A n c, .int .i64 day] w fun e w' => ∃ B : Bas, e = .returned B.val ∧ BasAt w' (Old w') B ∧ (∀ j, j < 9 → B.ls j = knownL l day j) ∧ Below w.heap.size w w' := by
  have HA := Lib.hid hA
  have HWL := Lib.hid hw
  have HP := Lib.hid hp
  have HN := Lib.hid hn
  have HM := Lib.hid hm
  have IE := fun e : Ent => Lib.hid (ientry (e := e))
  clear hA hw hp hn
  go_enter Tryz.func15, Tryz.ntmps15
  go_wp2_with fail
  have HF0 := Lib.hid (At.start w)
  obtain ⟨b0, w0, q1, q2, q3, hf, hs0⟩ := HF0.out.alloc2 (.cells nilBase 36)
  obtain ⟨bB, w1, r1, r2, r3, hf2, hs1⟩ := hf.alloc2 (.cells nilBase 36)
  rw [hs0] at r1
  simp only [nilBase, nine] at q2 r2
  rw [q1, q2, r1, r2]
  have HF1 := Lib.hid hf2
  have HBB : Hid (w.heap.size ≤ bB ∧ w.heap.size ≤ b0) := Lib.hid ⟨r3, q3⟩
  have HNE : Hid (b0 ≠ bB) := Lib.hid (by omega)
  clear HF0 q1 q2 q3 hf hs0 r1 r2 r3 hf2 hs1
  go_wp2_with (first
    | (go_at_call 55; (with_reducible refine (lists_walk bB _).mono ?_); rintro e2 w2 ⟨rfl, hb2⟩
       have HF2 := Lib.hid (HF1.out.step hb2)
       clear hb2)
    | ((with_reducible refine wpList_store_rowN rfl 96 (.tmp 6) (.tmp 11) rfl rfl w2.heap.size (ptrs bB).toArray _ rfl rfl ?hi (World.alloc_heap_new w2 _) ?ho ?h1 ?_); (case hi => kernel_rfl); (case ho => rfl); (case h1 => simp [ptrs, Value.oneCell']); intro w3 hc3 ht3
       have hb3 : Below w2.heap.size w2 w3 := ht3.below (below_new w2 _) (Nat.le_refl _) (fun k hk => by omega)
       have HF3 := Lib.hid ((HF2.out.step hb3).cons hc3)
       obtain ⟨b6, hb6⟩ : ∃ b6, w2.heap.size = b6 := ⟨_, rfl⟩
       rw [hb6] at HF3
       rw [hb6]
       clear hc3 ht3 hb3 hb6)
    | (go_at_call 57; (with_reducible refine (effect_walk l day A n c HN.out HM.out w3 (HA.out.below HF3.out.below) HWL.out (HP.out.below HF3.out.below)).mono ?_); rintro e4 w4 ⟨bm, rfl, -, hm4, hb4⟩
       have HF4 := Lib.hid (HF3.out.step hb4)
       obtain ⟨D, hown, hrep⟩ := hm4
       have HREP := Lib.hid hrep
       have HSZ := Lib.hid (MapAt.size_le hown)
       clear hb4 hrep)
    | (at_range; refine wpList_range_own _ rfl _ 100 rfl 9 33 keyedS Tryz.underlying100 rdE bm n _ rfl hown ?_; intro w5 hrg5 hg5 hs5
       have HF5 := Lib.hid (HF4.out.step (V' := w5) ⟨hg5.os, hg5.tape, hg5.output, hg5.size, fun k hk => hg5.block k hk (by simp)⟩)
       have HRG5 := Lib.hid hrg5
       clear hrg5 hg5 hs5)
    | fail)
  obtain ⟨r, hr⟩ : ∃ r, w4.heap.size = r := ⟨_, rfl⟩
  rw [hr] at HRG5
  have HR : Hid (w.heap.size ≤ r) := Lib.hid (by rw [← hr]; exact HF4.out.below.size)
  rw [hr]
  clear hr
  go_frame
  have hB0 : BasO w5 w.heap.size bB (fun _ => .slice none 0 0) (fun _ => []) := ⟨HF5.out.has (bB, .cells nilBase 36 (0, 0)) (by simp), fun _ _ => OL.nil, fun _ _ _ _ _ g hg => by cases hg⟩
  have hP0 : Part1 (effD l day) (has D) (fun _ => []) := fun j hj => ⟨List.Pairwise.nil, fun e => by
    constructor
    · intro h; cases h
    · rintro ⟨h1, h2, h3⟩
      rw [HREP.out.has h1] at h3; cases h3⟩
  have HB0 := Lib.hid hB0
  have HP0 := Lib.hid hP0
  obtain ⟨C, hC⟩ : ∃ C, Maps.size D = C := ⟨_, rfl⟩
  rw [hC] at HRG5 HSZ
  have HC : Hid (C ≤ n) := HSZ
  have HT5 : Hid (w5.heap[b6]? = some (.cells (ptrs bB).toArray 96 (0, 0))) := Lib.hid (HF5.out.has (b6, _) (by simp))
  have HZ5 : Hid (w5.heap[b0]? = some (.cells nilBase 36 (0, 0))) := Lib.hid (HF5.out.has (b0, .cells nilBase 36 (0, 0)) (by simp))
  have HB5 : Hid (Below w.heap.size w w5) := Lib.hid HF5.out.below
  clear hB0 hP0 hC HF1 HF2 HF3 HF4 HF5 HSZ hown
  go_loopw [16] (fun _ wr => ∃ (vf : Nat → Value) (lf : Nat → List Ent) (left : Lit → Bool) (cnt : Nat), wr.ranges Tryz.prog 9 rdE bm r n D left cnt ∧ BasO wr w.heap.size bB vf lf ∧ Part1 (effD l day) left lf ∧ (∀ j, j < 9 → (lf j).length + cnt ≤ C) ∧ wr.heap[b6]? = some (.cells (ptrs bB).toArray 96 (0, 0)) ∧ wr.heap[b0]? = some (.cells nilBase 36 (0, 0)) ∧ Below w.heap.size w wr)
    (fun _ wr => wr.rangeLeft bm r)
  case atStart => exact ⟨_, _, _, _, HRG5.out, HB0.out, HP0.out, fun j hj => by simp, HT5.out, HZ5.out, HB5.out⟩
  case round =>
    obtain ⟨vf, lf, left, cnt, hrg, hbo, hpt, hln, htb, hz0, hbw⟩ := hrel
    have HBO := Lib.hid hbo
    have HPT := Lib.hid hpt
    have HLN := Lib.hid hln
    have HTB := Lib.hid htb
    have HZ0 := Lib.hid hz0
    have HBW := Lib.hid hbw
    clear hbo hpt hln htb hz0 hbw HRG5 HB0 HP0 HT5 HZ5 HB5
    go_wp2_with (first
      | (at_next; refine wpList_next_ranges _ rfl _ rfl 9 keyedS rdE Value.string Ent.val (fun _ _ q => key_inv q) (fun v y q => (rdE_inv q).imp fun _ q => q.1) bm r n _ _ _ rfl hrg ?_ ?_)
      | fail)
    · intro _ hl0
      have hfin : ∀ j, j < 9 → Keyd keyE (lf j) ∧ ∀ e, e ∈ lf j ↔ e ∈ effD l day ∧ e.kind = ((j + 1 : Nat) : Int) := fun j hj => ⟨(HPT.out j hj).1, fun e => by rw [(HPT.out j hj).2 e]; simp [hl0]⟩
      have hlens : ∀ j, j < 9 → (lf j).length ≤ 1000000 := fun j hj => by have := HLN.out j hj; have := HC.out; have := HM.out; omega
      have HFN := Lib.hid hfin
      have HLE := Lib.hid hlens
      clear hfin hlens hl0 hrg
      go_wp2_with fail
      obtain ⟨wo, rfl⟩ : ∃ wo : World, wo = wr := ⟨_, rfl⟩
      go_loopw [36] (fun v wr' => ∃ (i : Nat) (lf' : Nat → List Ent), v = .int .i64 (i : Int) ∧ i ≤ 9 ∧ BasO wr' w.heap.size bB vf lf' ∧ (∀ j, j < 9 → lf' j = if j < i then knownL l day j else lf j) ∧ wr'.heap[b6]? = some (.cells (ptrs bB).toArray 96 (0, 0)) ∧ wr'.heap[b0]? = some (.cells nilBase 36 (0, 0)) ∧ Below w.heap.size w wr') (fun v _ => match v with | .int _ k => 9 - k.toNat | _ => 0)
      case atStart => exact ⟨0, lf, rfl, by omega, HBO.out, fun j hj => by rw [if_neg (by omega)], HTB.out, HZ0.out, HBW.out⟩
      case round =>
        obtain ⟨i, lf', rfl, hi, hbo, heq, htb, hz0, hbw⟩ := hrel
        have HBO2 := Lib.hid hbo
        have HEQ := Lib.hid heq
        have HTB2 := Lib.hid htb
        have HZ2 := Lib.hid hz0
        have HBW2 := Lib.hid hbw
        clear hbo heq htb hz0 hbw
        by_cases hlt : i < 9
        · have d1 : decide (i < 9) = true := by simp [hlt]
          have z1 : (0 : Int) ≤ (i : Int) := by omega
          have z2 : (i : Int) < 9 := by omega
          have w2' : IntKind.i64.wrap ((i : Int) + 1) = ((i + 1 : Nat) : Int) := by rw [IntKind.wrap_i64]; omega
          have c1 : wr.cell? ⟨b6, 1 + i, none⟩ = some (.pointer (some ⟨bB, i, none⟩)) := by rw [Nat.add_comm]; exact cells_i HTB2.out (by simpa using ptrs_at bB i hlt)
          have c2 := cells_i HBO2.out.blk (nine_at vf hlt)
          obtain ⟨Ai, ci, hvi, -, -⟩ := (HBO2.out.row i hlt).slice
          obtain ⟨ni, hni⟩ : ∃ ni, (lf' i).length = ni := ⟨_, rfl⟩
          rw [hni] at hvi
          rw [hvi] at c2
          have HS : Hid (Calls Tryz.prog 58 #[.slice Ai ni ci, .func (.func 59) #[] #[]] wr fun e w' => e = .returned (.tuple #[]) ∧ ∃ l', OL w' w.heap.size 33 18 Ent.cells (.slice Ai ni ci) l' ∧ l'.Perm (lf' i) ∧ Up (ltOf fun x y => cmpZ' (numE x) (numE y)) l' ∧ Turns (fun q => (Value.slice Ai ni ci).ownBlock = some q) wr w') := Lib.hid (sort_num (by rw [← hvi]; exact HBO2.out.row i hlt) (by rw [HEQ.out i hlt, if_neg (by omega)]; have := HLE.out i hlt; omega))
          have HVI := Lib.hid hvi
          clear hvi hni
          go_wp2_with (first
            | (go_at_call 58; (with_reducible refine HS.out.mono ?_); rintro e3 w3 ⟨rfl, l', ho3, hp3, hu3, ht3⟩
               have HO3 := Lib.hid ho3
               have HP3 := Lib.hid hp3
               have HU3 := Lib.hid hu3
               have HT3 := Lib.hid ht3
               clear ho3 hp3 hu3 ht3)
            | fail)
          have hrow := HBO2.out.row i hlt
          have ht3 : Turns (fun q => (vf i).ownBlock = some q) wr w3 := by rw [HVI.out]; exact HT3.out
          have hbt := HBO2.out.turn hlt ht3 (by rw [HVI.out]; exact HO3.out)
          have htb3 := (ht3.block b6 (cells_lt HTB2.out) (ol_ne hrow HTB2.out (by decide))).trans HTB2.out
          have hz3 := (ht3.block b0 (cells_lt HZ2.out) (ol_ne hrow HZ2.out (by decide))).trans HZ2.out
          have hb3 := ht3.below HBW2.out (Nat.le_refl _) (fun k hk => (hrow.lt k hk).1)
          have heq3 : l' = knownL l day i := by
            have h0 : lf' i = lf i := by rw [HEQ.out i hlt, if_neg (by omega)]
            refine known_of (HFN.out i hlt).1 (HFN.out i hlt).2 (by rw [← h0]; exact HP3.out) ?_
            exact List.Pairwise.imp (fun {a b} q => by rw [ltOf_num] at q; exact q) HU3.out
          have HFIN := Lib.hid (And.intro hbt (And.intro htb3 (And.intro hz3 (And.intro hb3 heq3))))
          clear hrow ht3 hbt htb3 hz3 hb3 heq3
          go_round
          case rel =>
            refine ⟨i + 1, _, rfl, by omega, HFIN.out.1, fun j hj => ?_, HFIN.out.2.1, HFIN.out.2.2.1, HFIN.out.2.2.2.1⟩
            by_cases hji : j = i
            · subst hji; rw [upd_same, if_pos (by omega)]; exact HFIN.out.2.2.2.2
            · rw [upd_other _ _ hji, HEQ.out j hj]
              by_cases hlt2 : j < i
              · rw [if_pos hlt2, if_pos (by omega)]
              · rw [if_neg hlt2, if_neg (by omega)]
          case measure => simp; omega
        · have d1 : decide (i < 9) = false := by simp; omega
          obtain rfl : i = 9 := by omega
          have hrb : wr.rangeAt bB 0 (nine vf).toList := fun k v hv => cells_i HBO2.out.blk (by simpa using hv)
          have hne := HNE.out
          have hgood : ∀ u ∈ (nine vf), u.oneCell' = true := fun u hu => by
            have hv : ∀ j, j < 9 → (vf j).oneCell' = true := fun j hj => by
              obtain ⟨A, cap, e, _, _⟩ := (HBO2.out.row j hj).slice
              rw [e]; rfl
            simp only [nine, List.mem_toArray, List.mem_cons, List.not_mem_nil, or_false] at hu
            rcases hu with h | h | h | h | h | h | h | h | h
            · rw [h]; exact hv 0 (by decide)
            · rw [h]; exact hv 1 (by decide)
            · rw [h]; exact hv 2 (by decide)
            · rw [h]; exact hv 3 (by decide)
            · rw [h]; exact hv 4 (by decide)
            · rw [h]; exact hv 5 (by decide)
            · rw [h]; exact hv 6 (by decide)
            · rw [h]; exact hv 7 (by decide)
            · rw [h]; exact hv 8 (by decide)
          have HRB := Lib.hid hrb
          have HGD := Lib.hid hgood
          clear hrb hgood
          go_wp2_with (first
            | ((with_reducible refine wpList_load_mid rfl 36 (.tmp 5) rfl bB 0 ?hx (nine vf).toList _ HRB.out Tryz.underlying36 rfl ?hi ?_); (case hx => rfl); (case hi => kernel_rfl))
            | ((with_reducible refine wpList_store_rowN rfl 36 (.tmp 4) (.tmp 45) rfl rfl b0 (nine vf) nilBase rfl ?hy ?hi HZ2.out ?ho ?h1 ?_); (case hy => rfl); (case hi => kernel_rfl); (case ho => rfl); (case h1 => rw [Array.all_eq_true_iff_forall_mem]; exact HGD.out); intro w9 hc9 ht9
               have HC9 := Lib.hid hc9
               have HT9 := Lib.hid ht9
               clear hc9 ht9)
            | fail)
          have hbo9 : BasO w9 w.heap.size bB vf lf' := ⟨(HT9.out.block bB (cells_lt HBO2.out.blk) (fun e => HNE.out e.symm)).trans HBO2.out.blk, fun j hj => (HBO2.out.row j hj).keep fun g hg => HT9.out.block g ((HBO2.out.row j hj).lt g hg).2 (fun e => ol_ne (HBO2.out.row j hj) HZ2.out (by decide) (by rw [hg, e])), HBO2.out.apart⟩
          have hb9 : Below w.heap.size w w9 := HT9.out.below HBW2.out (Nat.le_refl _) (fun k hk => by have := HBB.out.2; omega)
          have hr9 : w9.rangeAt b0 0 (nine vf).toList := fun k v hv => cells_i HC9.out (by simpa using hv)
          refine bodyPost_ret (results_cellN rfl _ _ b0 (nine vf).toList _ rfl hr9 Tryz.underlying36 rfl (by kernel_rfl)) rfl ?_
          refine ⟨mkBas vf lf', ?_, hbo9.bas.2, fun j hj => ?_, hb9⟩
          · rw [hbo9.bas.1]
          · show lf' j = _
            rw [HEQ.out j hj, if_pos (by omega)]
    · intro x ce kl yd yp w6 cnt1 hkey hlx hv hat hrg1 hlt hg1 hs1 hen
      obtain ⟨e, he, rfl, hye⟩ := HREP.out.out hat
      obtain ⟨c2, hc2, hy2⟩ := rdE_inv hv
      obtain rfl : ce = c2 := Ent.val_inj hc2
      have hce : ce = e := by
        have := congrArg Prod.fst hy2
        simp only at this
        rw [hye] at this
        injection this with this
        exact this.symm
      subst hce
      have hval := (effD_ok l day ce he).2.1
      obtain ⟨j, hj9, hkj⟩ : ∃ j : Nat, j < 9 ∧ ce.kind = ((j + 1 : Nat) : Int) := by
        have := valid_kind hval
        exact ⟨(ce.kind - 1).toNat, by omega, by omega⟩
      have ht1 := grown_turns hg1
      have hzr : ∀ k cs T fz, wr.heap[k]? = some (.cells cs T fz) → ¬ (some r = some k) := fun k cs T fz hk e => (ranges_ne hrg hk).2 (by injection e)
      have HRG6 := Lib.hid hrg1
      have HBO6 := Lib.hid (HBO.out.turns ht1 hzr)
      have HTB6 : Hid (w6.heap[b6]? = some (.cells (ptrs bB).toArray 96 (0, 0))) := Lib.hid ((ht1.block _ (Array.getElem?_eq_some_iff.1 HTB.out).1 (hzr _ _ _ _ HTB.out)).trans HTB.out)
      have HZ6 : Hid (w6.heap[b0]? = some (.cells nilBase 36 (0, 0))) := Lib.hid ((ht1.block _ (Array.getElem?_eq_some_iff.1 HZ0.out).1 (hzr _ _ _ _ HZ0.out)).trans HZ0.out)
      have HBW6 := Lib.hid (ht1.below HBW.out (Nat.le_refl _) (fun k e => by injection e with e; have := HR.out; omega))
      have HPT6 := Lib.hid (HPT.out.step HREP.out.keyd he hkj hlx)
      have HLT := Lib.hid hlt
      have HRG0 := Lib.hid hrg
      have HJ := Lib.hid (And.intro hj9 hkj)
      clear hkey hlx hv hat hrg1 hlt hg1 hs1 hc2 hy2 hye he hrg hval ht1 hzr
      obtain ⟨Aj, cj, hvj, -, -⟩ := (HBO6.out.row j hj9).slice
      obtain ⟨nj, hnj⟩ : ∃ nj, (lf j).length = nj := ⟨_, rfl⟩
      rw [hnj] at hvj
      have HVJ := Lib.hid (And.intro hvj hnj)
      have hnb : nj < C := by have := HLN.out j hj9; have := HLT.out; omega
      have HNB : Hid (nj + 1 ≤ 1000000) := Lib.hid (by have := HC.out; have := HM.out; omega)
      obtain ⟨kN, hkN⟩ : ∃ kN, j + 1 = kN := ⟨_, rfl⟩
      have HKN := Lib.hid hkN
      have z1 : (0 : Int) ≤ (kN : Int) := by omega
      have z2 : (kN : Int) < 10 := by omega
      clear hvj hnj hnb hkN hj9 hkj
      go_wp2_with (first
        | ((with_reducible refine store_new rfl (.tmp 8) (.tmp 19) rfl rfl ce rfl rfl ?hi ?ho ?_); (case hi => exact (IE ce).out); (case ho => rfl); intro w7 he7 hb7 hs7
           have HRG7 := Lib.hid (HRG6.out.kept (grown_of_below hb7) (by simp) (by simp))
           have HBO7 := Lib.hid (HBO6.out.below hb7)
           have HTB7 := Lib.hid (below_at2 hb7 HTB6.out)
           have HZ7 := Lib.hid (below_at2 hb7 HZ6.out)
           have HBW7 := Lib.hid (HBW6.out.trans (hb7.mono HBW6.out.size))
           obtain ⟨b8, hb8⟩ : ∃ b8, w6.heap.size = b8 := ⟨_, rfl⟩
           have HLO : Hid (∀ i, i < 9 → ∀ g, (vf i).ownBlock = some g → g < b8) := Lib.hid (fun i hi g hg => by have := ((HBO6.out.row i hi).lt g hg).2; omega)
           rw [hb8] at he7
           rw [hb8]
           have HE8 := Lib.hid he7
           clear he7 hb7 hs7 hb8)
        | fail)
      obtain ⟨U, hU⟩ : ∃ U, w7.drew = U := ⟨_, rfl⟩
      have hbU : Below w7.heap.size w7 U := by rw [← hU]; exact Below.drew (Below.refl _ _)
      have HRG := Lib.hid (HRG7.out.kept (grown_of_below hbU) (by simp) (by simp))
      have HBA := Lib.hid (HBO7.out.below hbU)
      have HTA := Lib.hid (below_at2 hbU HTB7.out)
      have HZA := Lib.hid (below_at2 hbU HZ7.out)
      have HBB' := Lib.hid (HBW7.out.trans (hbU.mono HBW7.out.size))
      have HEA := Lib.hid (HE8.out.below hbU)
      have hcell : ∀ V : World, EntAt V b8 ce → V.cell? ⟨b8, 0, none⟩ = some (.int .i64 (kN : Int)) := fun V q => by
        have := q.cell (i := 0) rfl
        rw [HJ.out.2, HKN.out] at this; exact this
      have htab : ∀ V : World, V.heap[b6]? = some (.cells (ptrs bB).toArray 96 (0, 0)) → V.cell? ⟨b6, kN, none⟩ = some (.pointer (some ⟨bB, j, none⟩)) := fun V q => cells_i q (by rw [← HKN.out]; simpa using ptrs_at bB j HJ.out.1)
      have HCE := Lib.hid hcell
      have HTT := Lib.hid htab
      have hS0 : EntAt w7.drew b8 ce ∧ w7.drew.cell? ⟨b8, 0, none⟩ = some (.int .i64 (kN : Int)) ∧ w7.drew.cell? ⟨b6, kN, none⟩ = some (.pointer (some ⟨bB, j, none⟩)) := by rw [hU]; exact ⟨HEA.out, hcell _ HEA.out, htab _ HTA.out⟩
      clear HRG6 HBO6 HTB6 HZ6 HBW6 HRG7 HBO7 HTB7 HZ7 HBW7 HE8 hbU hcell htab
      refine wp_region_noPanic ?_
      refine wp_region_held_drew (S := fun V => EntAt V b8 ce ∧ V.cell? ⟨b8, 0, none⟩ = some (.int .i64 (kN : Int)) ∧ V.cell? ⟨b6, kN, none⟩ = some (.pointer (some ⟨bB, j, none⟩))) (by kernel_rfl) hS0 (fun hHeld => ?_)
      rw [hU] at hHeld ⊢
      clear hS0 hU
      refine tk 0 ?_
      refine tk 1 ?_
      refine tk 2 ?_
      refine tk 3 ?_
      refine tk 4 ?_
      refine tk 5 ?_
      refine tk 6 ?_
      refine tk 7 ?_
      refine tk 8 ?_
      refine tl 10 rfl (yieldsIf_load_mid (by rfl) 33 (.tmp 8) rfl b8 0 (by rfl) ce.cells _ (fun w hw => range_of hw.1) Tryz.underlying33 rfl (IE ce).out) ?_
      refine rd [9, 11] ?_
      refine rc (fun K hK => ?_) ?_
      ·
       have c9 := cells_i HBA.out.blk (nine_at vf HJ.out.1)
       rw [HVJ.out.1] at c9
       go_simp
       clear c9
       refine kk hK (hHeld) (fun hHeld => ?_)
       clear hK K
       refine rd [11] ?_
       refine rc (fun K hK => ?_) ?_
       ·
        refine step_build_ent (by rfl) (.tmp 30) (by rfl) ce (by rfl) ?_
        intro b11 V11 hb11 hbl hn11
        subst hb11
        have HN11 := Lib.hid hn11
        have HRG := Lib.hid (HRG.out.kept (grown_of_below hbl) (by simp) (by simp))
        have HBA := Lib.hid (HBA.out.below hbl)
        have HTA := Lib.hid (below_at2 hbl HTA.out)
        have HZA := Lib.hid (below_at2 hbl HZA.out)
        have HBB' := Lib.hid (HBB'.out.trans (hbl.mono HBB'.out.size))
        have HEA := Lib.hid (HEA.out.below hbl)
        clear hn11 hbl
        refine kk hK (⟨HEA.out, HCE.out _ HEA.out, HTT.out _ HTA.out⟩) (fun hHeld => ?_)
        clear hK K
        refine rd [12] ?_
        refine rc (fun K hK => ?_) ?_
        ·
         refine step_app (by rfl) (.tmp 29) (.tmp 31) 25 (by rfl) elemEnt (.slice Aj nj cj) (lf j) nj HVJ.out.2 (by rfl) ?hol ce U.heap.size ce.cells.toArray (by rfl) HN11.out (by simp) rfl (one_cells' ce) (by have := HNB.out; have := HVJ.out.2; unfold maxLen; omega) (by have := HNB.out; have := HVJ.out.2; omega) HBB'.out.size ?_
         case hol => have := HBA.out.row j HJ.out.1; rw [HVJ.out.1] at this; exact this
         intro g' cap' w12 ho12 hgr12 hown12 hlt12 hb12
         have HO12 := Lib.hid ho12
         have HG12 := Lib.hid hgr12
         have HW12 := Lib.hid hown12
         have HB12 := Lib.hid hb12
         have hne8 : (Value.slice Aj nj cj).ownBlock ≠ some b8 := fun e => by have := HLO.out j HJ.out.1 b8 (by rw [HVJ.out.1]; exact e); omega
         have hne6 : (Value.slice Aj nj cj).ownBlock ≠ some b6 := by rw [← HVJ.out.1]; exact ol_ne (HBA.out.row j HJ.out.1) HTA.out (by decide)
         have hneB : (Value.slice Aj nj cj).ownBlock ≠ some bB := by rw [← HVJ.out.1]; exact ol_ne (HBA.out.row j HJ.out.1) HBA.out.blk (by decide)
         have he12 : EntAt w12 b8 ce := (hgr12.block b8 (cells_lt HEA.out) (fun e => hne8 e.symm)).trans HEA.out
         have hc12 : w12.heap[b6]? = some (.cells (ptrs bB).toArray 96 (0, 0)) := (hgr12.block b6 (cells_lt HTA.out) (fun e => hne6 e.symm)).trans HTA.out
         have hB12 : w12.heap[bB]? = some (.cells (nine vf) 36 (0, 0)) := (hgr12.block bB (cells_lt HBA.out.blk) (fun e => hneB e.symm)).trans HBA.out.blk
         have HE12 := Lib.hid he12
         have HC12 := Lib.hid hc12
         have HB12' := Lib.hid hB12
         clear ho12 hgr12 hown12 hlt12 hb12 hne8 hne6 hneB he12 hc12 hB12
         refine kk hK (⟨HE12.out, HCE.out _ HE12.out, HTT.out _ HC12.out⟩) (fun hHeld => ?_)
         clear hK K
         refine tk 13 ?_
         refine rd [14] ?_
         refine rc (fun K hK => ?_) ?_
         ·
          have c14 := cells_i HB12'.out (nine_at vf HJ.out.1)
          have f14 := cells_free HB12'.out j
          go_simp
          clear c14 f14
          obtain ⟨w14, hw14⟩ : ∃ w14, w12.setCell ⟨bB, j, none⟩ (.slice (some ⟨g', 0, none⟩) (nj + 1) cap') = w14 := ⟨_, rfl⟩
          have HPUT : Hid (BasO w14 w.heap.size bB (upd vf j (.slice (some ⟨g', 0, none⟩) (nj + 1) cap')) (upd lf j (lf j ++ [ce]))) := Lib.hid (by rw [← hw14]; exact HBA.out.put HJ.out.1 (by rw [HVJ.out.1]; exact grown_turns HG12.out) HO12.out (fun g hg => by injection hg with hg; subst hg; rw [HVJ.out.1]; rcases HW12.out with q | q; exact .inl q; exact .inr (by rw [q]; exact Nat.le_refl _)))
          have hT14 : Turns (fun k => k = bB) w12 w14 := by rw [← hw14]; exact Turns.setCell _ _ _ rfl
          have HT14 := Lib.hid hT14
          rw [hw14]
          have hb6B : b6 ≠ bB := fun e => by have q := HTA.out; rw [e, HBA.out.blk] at q; injection q with q; injection q with q1 q2 q3; exact absurd q2 (by decide)
          have hb8B : b8 ≠ bB := fun e => by have q := HEA.out; unfold EntAt at q; rw [e, HBA.out.blk] at q; injection q with q; injection q with q1 q2 q3; exact absurd q2 (by decide)
          have HC14 : Hid (w14.heap[b6]? = some (.cells (ptrs bB).toArray 96 (0, 0))) := Lib.hid ((hT14.block b6 (cells_lt HC12.out) hb6B).trans HC12.out)
          have HE14 : Hid (EntAt w14 b8 ce) := Lib.hid ((hT14.block b8 (cells_lt HE12.out) hb8B).trans HE12.out)
          clear hw14 hT14 hb6B hb8B
          refine kk hK (⟨HE14.out, HCE.out _ HE14.out, HTT.out _ HC14.out⟩) (fun hHeld => ?_)
          clear hK K
          refine dn ?_
          clear hHeld
          go_wp2
          have hoc : ∀ g, (Value.slice Aj nj cj).ownBlock = some g → ∃ cs, V11.heap[g]? = some (.cells cs 33 (0, 0)) := fun g hg => own_cells (HBA.out.row j HJ.out.1) (by rw [HVJ.out.1]; exact hg)
          have hrg12 := HRG.out.kept HG12.out (fun e => by obtain ⟨cs, hcs⟩ := hoc bm e.symm; exact (ranges_ne HRG.out hcs).1 rfl) (fun e => by obtain ⟨cs, hcs⟩ := hoc r e.symm; exact (ranges_ne HRG.out hcs).2 rfl)
          have hgB : w12.grownBy w14 (some bB) := ⟨HT14.out.os, HT14.out.tape, HT14.out.output, HT14.out.size, fun k hk hz => HT14.out.block k hk (fun e => hz (by rw [e]))⟩
          have hrg14 := hrg12.kept hgB (fun e => (ranges_ne hrg12 HB12'.out).1 (by injection e)) (fun e => (ranges_ne hrg12 HB12'.out).2 (by injection e))
          have hz12 := (HG12.out.block b0 (cells_lt HZA.out) (fun e => (by rw [← HVJ.out.1]; exact ol_ne (HBA.out.row j HJ.out.1) HZA.out (by decide) : (Value.slice Aj nj cj).ownBlock ≠ some b0) e.symm)).trans HZA.out
          have hz14 := (HT14.out.block b0 (cells_lt hz12) HNE.out).trans hz12
          have hb14 : Below w.heap.size w w14 := HT14.out.below (HBB'.out.trans HB12.out) (Nat.le_refl _) (fun k hk => by have := HBB.out.1; omega)
          have HFIN := Lib.hid (And.intro hrg14 (And.intro hz14 hb14))
          clear hoc hrg12 hgB hrg14 hz12 hz14 hb14
          go_roundw
          case rel =>
            refine ⟨_, _, _, _, HFIN.out.1, HPUT.out, HPT6.out, fun i hi => ?_, HC14.out, HFIN.out.2.1, HFIN.out.2.2⟩
            have h1 := HLN.out i hi
            have h2 := HLT.out
            by_cases hij : i = j
            · subst hij; rw [upd_same, List.length_append, List.length_singleton]; omega
            · rw [upd_other _ _ hij]; omega
          case measure => rw [HFIN.out.1.left_eq, HRG0.out.left_eq]; exact HLT.out
         exact AllReadyH.nil
        exact AllReadyH.nil
       exact AllReadyH.nil
      refine rc (fun K hK => ?_) ?_
      ·
       refine step_build_ent (by rfl) (.tmp 30) (by rfl) ce (by rfl) ?_
       intro b11 V11 hb11 hbl hn11
       subst hb11
       have HN11 := Lib.hid hn11
       have HRG := Lib.hid (HRG.out.kept (grown_of_below hbl) (by simp) (by simp))
       have HBA := Lib.hid (HBA.out.below hbl)
       have HTA := Lib.hid (below_at2 hbl HTA.out)
       have HZA := Lib.hid (below_at2 hbl HZA.out)
       have HBB' := Lib.hid (HBB'.out.trans (hbl.mono HBB'.out.size))
       have HEA := Lib.hid (HEA.out.below hbl)
       clear hn11 hbl
       refine kk hK (⟨HEA.out, HCE.out _ HEA.out, HTT.out _ HTA.out⟩) (fun hHeld => ?_)
       clear hK K
       refine rd [9] ?_
       refine rc (fun K hK => ?_) ?_
       ·
        have c9 := cells_i HBA.out.blk (nine_at vf HJ.out.1)
        rw [HVJ.out.1] at c9
        go_simp
        clear c9
        refine kk hK (hHeld) (fun hHeld => ?_)
        clear hK K
        refine rd [12] ?_
        refine rc (fun K hK => ?_) ?_
        ·
         refine step_app (by rfl) (.tmp 29) (.tmp 31) 25 (by rfl) elemEnt (.slice Aj nj cj) (lf j) nj HVJ.out.2 (by rfl) ?hol ce U.heap.size ce.cells.toArray (by rfl) HN11.out (by simp) rfl (one_cells' ce) (by have := HNB.out; have := HVJ.out.2; unfold maxLen; omega) (by have := HNB.out; have := HVJ.out.2; omega) HBB'.out.size ?_
         case hol => have := HBA.out.row j HJ.out.1; rw [HVJ.out.1] at this; exact this
         intro g' cap' w12 ho12 hgr12 hown12 hlt12 hb12
         have HO12 := Lib.hid ho12
         have HG12 := Lib.hid hgr12
         have HW12 := Lib.hid hown12
         have HB12 := Lib.hid hb12
         have hne8 : (Value.slice Aj nj cj).ownBlock ≠ some b8 := fun e => by have := HLO.out j HJ.out.1 b8 (by rw [HVJ.out.1]; exact e); omega
         have hne6 : (Value.slice Aj nj cj).ownBlock ≠ some b6 := by rw [← HVJ.out.1]; exact ol_ne (HBA.out.row j HJ.out.1) HTA.out (by decide)
         have hneB : (Value.slice Aj nj cj).ownBlock ≠ some bB := by rw [← HVJ.out.1]; exact ol_ne (HBA.out.row j HJ.out.1) HBA.out.blk (by decide)
         have he12 : EntAt w12 b8 ce := (hgr12.block b8 (cells_lt HEA.out) (fun e => hne8 e.symm)).trans HEA.out
         have hc12 : w12.heap[b6]? = some (.cells (ptrs bB).toArray 96 (0, 0)) := (hgr12.block b6 (cells_lt HTA.out) (fun e => hne6 e.symm)).trans HTA.out
         have hB12 : w12.heap[bB]? = some (.cells (nine vf) 36 (0, 0)) := (hgr12.block bB (cells_lt HBA.out.blk) (fun e => hneB e.symm)).trans HBA.out.blk
         have HE12 := Lib.hid he12
         have HC12 := Lib.hid hc12
         have HB12' := Lib.hid hB12
         clear ho12 hgr12 hown12 hlt12 hb12 hne8 hne6 hneB he12 hc12 hB12
         refine kk hK (⟨HE12.out, HCE.out _ HE12.out, HTT.out _ HC12.out⟩) (fun hHeld => ?_)
         clear hK K
         refine tk 13 ?_
         refine rd [14] ?_
         refine rc (fun K hK => ?_) ?_
         ·
          have c14 := cells_i HB12'.out (nine_at vf HJ.out.1)
          have f14 := cells_free HB12'.out j
          go_simp
          clear c14 f14
          obtain ⟨w14, hw14⟩ : ∃ w14, w12.setCell ⟨bB, j, none⟩ (.slice (some ⟨g', 0, none⟩) (nj + 1) cap') = w14 := ⟨_, rfl⟩
          have HPUT : Hid (BasO w14 w.heap.size bB (upd vf j (.slice (some ⟨g', 0, none⟩) (nj + 1) cap')) (upd lf j (lf j ++ [ce]))) := Lib.hid (by rw [← hw14]; exact HBA.out.put HJ.out.1 (by rw [HVJ.out.1]; exact grown_turns HG12.out) HO12.out (fun g hg => by injection hg with hg; subst hg; rw [HVJ.out.1]; rcases HW12.out with q | q; exact .inl q; exact .inr (by rw [q]; exact Nat.le_refl _)))
          have hT14 : Turns (fun k => k = bB) w12 w14 := by rw [← hw14]; exact Turns.setCell _ _ _ rfl
          have HT14 := Lib.hid hT14
          rw [hw14]
          have hb6B : b6 ≠ bB := fun e => by have q := HTA.out; rw [e, HBA.out.blk] at q; injection q with q; injection q with q1 q2 q3; exact absurd q2 (by decide)
          have hb8B : b8 ≠ bB := fun e => by have q := HEA.out; unfold EntAt at q; rw [e, HBA.out.blk] at q; injection q with q; injection q with q1 q2 q3; exact absurd q2 (by decide)
          have HC14 : Hid (w14.heap[b6]? = some (.cells (ptrs bB).toArray 96 (0, 0))) := Lib.hid ((hT14.block b6 (cells_lt HC12.out) hb6B).trans HC12.out)
          have HE14 : Hid (EntAt w14 b8 ce) := Lib.hid ((hT14.block b8 (cells_lt HE12.out) hb8B).trans HE12.out)
          clear hw14 hT14 hb6B hb8B
          refine kk hK (⟨HE14.out, HCE.out _ HE14.out, HTT.out _ HC14.out⟩) (fun hHeld => ?_)
          clear hK K
          refine dn ?_
          clear hHeld
          go_wp2
          have hoc : ∀ g, (Value.slice Aj nj cj).ownBlock = some g → ∃ cs, V11.heap[g]? = some (.cells cs 33 (0, 0)) := fun g hg => own_cells (HBA.out.row j HJ.out.1) (by rw [HVJ.out.1]; exact hg)
          have hrg12 := HRG.out.kept HG12.out (fun e => by obtain ⟨cs, hcs⟩ := hoc bm e.symm; exact (ranges_ne HRG.out hcs).1 rfl) (fun e => by obtain ⟨cs, hcs⟩ := hoc r e.symm; exact (ranges_ne HRG.out hcs).2 rfl)
          have hgB : w12.grownBy w14 (some bB) := ⟨HT14.out.os, HT14.out.tape, HT14.out.output, HT14.out.size, fun k hk hz => HT14.out.block k hk (fun e => hz (by rw [e]))⟩
          have hrg14 := hrg12.kept hgB (fun e => (ranges_ne hrg12 HB12'.out).1 (by injection e)) (fun e => (ranges_ne hrg12 HB12'.out).2 (by injection e))
          have hz12 := (HG12.out.block b0 (cells_lt HZA.out) (fun e => (by rw [← HVJ.out.1]; exact ol_ne (HBA.out.row j HJ.out.1) HZA.out (by decide) : (Value.slice Aj nj cj).ownBlock ≠ some b0) e.symm)).trans HZA.out
          have hz14 := (HT14.out.block b0 (cells_lt hz12) HNE.out).trans hz12
          have hb14 : Below w.heap.size w w14 := HT14.out.below (HBB'.out.trans HB12.out) (Nat.le_refl _) (fun k hk => by have := HBB.out.1; omega)
          have HFIN := Lib.hid (And.intro hrg14 (And.intro hz14 hb14))
          clear hoc hrg12 hgB hrg14 hz12 hz14 hb14
          go_roundw
          case rel =>
            refine ⟨_, _, _, _, HFIN.out.1, HPUT.out, HPT6.out, fun i hi => ?_, HC14.out, HFIN.out.2.1, HFIN.out.2.2⟩
            have h1 := HLN.out i hi
            have h2 := HLT.out
            by_cases hij : i = j
            · subst hij; rw [upd_same, List.length_append, List.length_singleton]; omega
            · rw [upd_other _ _ hij]; omega
          case measure => rw [HFIN.out.1.left_eq, HRG0.out.left_eq]; exact HLT.out
         exact AllReadyH.nil
        exact AllReadyH.nil
       exact AllReadyH.nil
      exact AllReadyH.nil
end Go.Proofs.YteeifhlhpiimoaaGreatDoor
end
section
namespace Go.Proofs.YteeifhlhpiimoaaGreatDoor
open Go Go.RowKit Go.Shelf Go.Maps Wr
attribute [local go_sem] Oper.semAt_some
def eqE (e f : Ent) : Bool := decide (e.kind = f.kind ∧ e.id = f.id ∧ e.ver = f.ver ∧ e.day = f.day ∧ e.gone = f.gone ∧ e.frm = f.frm ∧ e.til = f.til ∧ e.lab = f.lab ∧ e.item = f.item ∧ e.person = f.person ∧ e.skill = f.skill ∧ e.ln.toList = f.ln.toList ∧ e.ld.toList = f.ld.toList ∧ e.hn.toList = f.hn.toList ∧ e.hd.toList = f.hd.toList ∧ e.rn.toList = f.rn.toList ∧ e.rd.toList = f.rd.toList ∧ e.text.toList = f.text.toList)
theorem toList_inj {a b : ByteArray} (h : a.toList = b.toList) : a = b := by
  rw [ByteArray.toList_eq, ByteArray.toList_eq] at h
  exact bytes_ext (Array.toList_inj.1 h)
theorem eqE_iff (e f : Ent) : eqE e f = true ↔ e = f := by
  unfold eqE
  rw [decide_eq_true_eq]
  constructor
  · rintro ⟨h0, h1, h2, h3, h4, h5, h6, h7, h8, h9, h10, h11, h12, h13, h14, h15, h16, h17⟩
    cases e; cases f
    simp only [Ent.mk.injEq]
    exact ⟨h0, h1, h2, h3, h4, h5, h6, h7, h8, h9, h10, toList_inj h11, toList_inj h12, toList_inj h13, toList_inj h14, toList_inj h15, toList_inj h16, toList_inj h17⟩
  · rintro rfl
    simp
set_option maxHeartbeats 4000000 in
theorem eql_ents (e f : Ent) (W : World) : (binOp .eql 33 (.agg e.cells.toArray) (.agg f.cells.toArray)).run Tryz.prog W = .ok (.bool (eqE e f)) W := by
  obtain ⟨a0, a1, a2, a3, a4, a5, a6, a7, a8, a9, a10, a11, a12, a13, a14, a15, a16, a17⟩ := e
  obtain ⟨b0, b1, b2, b3, b4, b5, b6, b7, b8, b9, b10, b11, b12, b13, b14, b15, b16, b17⟩ := f
  unfold Ent.cells eqE
  simp only []
  go_simp
  by_cases h0 : a0 = b0
  case neg => simp [h0]
  rw [if_pos h0]
  by_cases h1 : a1 = b1
  case neg => simp [h1]
  rw [if_pos h1]
  by_cases h2 : a2 = b2
  case neg => simp [h2]
  rw [if_pos h2]
  by_cases h3 : a3 = b3
  case neg => simp [h3]
  rw [if_pos h3]
  by_cases h4 : a4 = b4
  case neg => simp [h4]
  rw [if_pos h4]
  by_cases h5 : a5 = b5
  case neg => simp [h5]
  rw [if_pos h5]
  by_cases h6 : a6 = b6
  case neg => simp [h6]
  rw [if_pos h6]
  by_cases h7 : a7 = b7
  case neg => simp [h7]
  rw [if_pos h7]
  by_cases h8 : a8 = b8
  case neg => simp [h8]
  rw [if_pos h8]
  by_cases h9 : a9 = b9
  case neg => simp [h9]
  rw [if_pos h9]
  by_cases h10 : a10 = b10
  case neg => simp [h10]
  rw [if_pos h10]
  by_cases h11 : a11.toList = b11.toList
  case neg => simp [h11]
  rw [if_pos h11]
  by_cases h12 : a12.toList = b12.toList
  case neg => simp [h12]
  rw [if_pos h12]
  by_cases h13 : a13.toList = b13.toList
  case neg => simp [h13]
  rw [if_pos h13]
  by_cases h14 : a14.toList = b14.toList
  case neg => simp [h14]
  rw [if_pos h14]
  by_cases h15 : a15.toList = b15.toList
  case neg => simp [h15]
  rw [if_pos h15]
  by_cases h16 : a16.toList = b16.toList
  case neg => simp [h16]
  rw [if_pos h16]
  by_cases h17 : a17.toList = b17.toList
  case neg => simp [h17]
  simp [h0, h1, h2, h3, h4, h5, h6, h7, h8, h9, h10, h11, h12, h13, h14, h15, h16, h17]
set_option maxHeartbeats 4000000 in
theorem neq_ents (e f : Ent) (W : World) : (binOp .neq 33 (.agg e.cells.toArray) (.agg f.cells.toArray)).run Tryz.prog W = .ok (.bool (!eqE e f)) W := by
  obtain ⟨a0, a1, a2, a3, a4, a5, a6, a7, a8, a9, a10, a11, a12, a13, a14, a15, a16, a17⟩ := e
  obtain ⟨b0, b1, b2, b3, b4, b5, b6, b7, b8, b9, b10, b11, b12, b13, b14, b15, b16, b17⟩ := f
  unfold Ent.cells eqE
  simp only []
  go_simp
  by_cases h0 : a0 = b0
  case neg => simp [h0]
  rw [if_pos h0]
  by_cases h1 : a1 = b1
  case neg => simp [h1]
  rw [if_pos h1]
  by_cases h2 : a2 = b2
  case neg => simp [h2]
  rw [if_pos h2]
  by_cases h3 : a3 = b3
  case neg => simp [h3]
  rw [if_pos h3]
  by_cases h4 : a4 = b4
  case neg => simp [h4]
  rw [if_pos h4]
  by_cases h5 : a5 = b5
  case neg => simp [h5]
  rw [if_pos h5]
  by_cases h6 : a6 = b6
  case neg => simp [h6]
  rw [if_pos h6]
  by_cases h7 : a7 = b7
  case neg => simp [h7]
  rw [if_pos h7]
  by_cases h8 : a8 = b8
  case neg => simp [h8]
  rw [if_pos h8]
  by_cases h9 : a9 = b9
  case neg => simp [h9]
  rw [if_pos h9]
  by_cases h10 : a10 = b10
  case neg => simp [h10]
  rw [if_pos h10]
  by_cases h11 : a11.toList = b11.toList
  case neg => simp [h11]
  rw [if_pos h11]
  by_cases h12 : a12.toList = b12.toList
  case neg => simp [h12]
  rw [if_pos h12]
  by_cases h13 : a13.toList = b13.toList
  case neg => simp [h13]
  rw [if_pos h13]
  by_cases h14 : a14.toList = b14.toList
  case neg => simp [h14]
  rw [if_pos h14]
  by_cases h15 : a15.toList = b15.toList
  case neg => simp [h15]
  rw [if_pos h15]
  by_cases h16 : a16.toList = b16.toList
  case neg => simp [h16]
  rw [if_pos h16]
  by_cases h17 : a17.toList = b17.toList
  case neg => simp [h17]
  simp [h0, h1, h2, h3, h4, h5, h6, h7, h8, h9, h10, h11, h12, h13, h14, h15, h16, h17]
instance entDec : DecidableEq Ent := fun a b => decidable_of_iff (eqE a b = true) (eqE_iff a b)
theorem guard_neq (x y : Operand) (cs ds : Array Value) (W : World) : (eqGuard .neq 33 x y (.agg cs) (.agg ds)).run Tryz.prog W = .ok () W := by kernel_rfl
theorem yields_neq {P : Program} {ops : Array Oper} {S : World → Prop} {o : Oper} {a : Act} (hw : Region.wanted o (yielded ops a.tmps) = true) (t t' : TypeId) (x y : Operand) (ho : o.op = .binOp .neq t x y t') (u v : Value) (hx : a.eval x = u) (hy : a.eval y = v) (b : Bool)
    (hgr : ∀ w, (eqGuard .neq t x y u v).run P w = .ok () w) (hr : ∀ w, (binOp .neq t u v).run P w = .ok (.bool b) w) : YieldsIf P ops S o (.bool b) a :=
  .inl ⟨hw, fun w _ => by
    unfold execOp
    simp only [ho, hx, hy]
    simp only [Sem.run_bind, Sem.run_pure, hgr, hr, Result.andThen_ok]⟩
theorem yields_eql {P : Program} {ops : Array Oper} {S : World → Prop} {o : Oper} {a : Act} (hw : Region.wanted o (yielded ops a.tmps) = true) (t t' : TypeId) (x y : Operand) (ho : o.op = .binOp .eql t x y t') (u v : Value) (hx : a.eval x = u) (hy : a.eval y = v) (b : Bool)
    (hgr : ∀ w, (eqGuard .eql t x y u v).run P w = .ok () w) (hr : ∀ w, (binOp .eql t u v).run P w = .ok (.bool b) w) : YieldsIf P ops S o (.bool b) a :=
  .inl ⟨hw, fun w _ => by
    unfold execOp
    simp only [ho, hx, hy]
    simp only [Sem.run_bind, Sem.run_pure, hgr, hr, Result.andThen_ok]⟩
end Go.Proofs.YteeifhlhpiimoaaGreatDoor
end
section
namespace Go.Proofs.YteeifhlhpiimoaaGreatDoor
open Go Go.RowKit Go.Shelf Go.Maps Wr
attribute [local go_sem] Oper.semAt_some
set_option maxRecDepth 100000 in
set_option maxHeartbeats 4000000 in
theorem equal_walk (l m : List Ent) (A A2 : Option Addr) (n c n2 c2 : Nat) (hn : l.length = n) (hn2 : m.length = n2) (hm : n ≤ maxLen) (w : World) (hA : EAt w (Old w) A l) (hA2 : EAt w (Old w) A2 m) :
    Calls Tryz.prog 56 #[.slice A n c, .slice A2 n2 c2] w (ValP w (decide (l = m))) := by
  have hm' : n ≤ 9223372036854775807 := by unfold maxLen at hm; omega
  have HA := Lib.hid hA
  have HA2 := Lib.hid hA2
  have HN := Lib.hid hn
  have HN2 := Lib.hid hn2
  have IE := fun e : Ent => Lib.hid (ientry (e := e))
  clear hA hA2 hm
  by_cases hnn : n = n2
  · subst hnn
    clear hn hn2
    have d0 : ((n : Int) != (n : Int)) = false := by simp
    go_enter Tryz.func56, Tryz.ntmps56
    go_wp2_with fail
    go_loopw [5, 13] (fun _ v wr => ∃ i : Nat, v = .int .i64 (i : Int) ∧ i ≤ n ∧ Hid (l.take i = m.take i) ∧ Below w.heap.size w wr) (fun _ v _ => match v with | .int _ k => n - k.toNat | _ => 0)
    case atStart => exact ⟨0, rfl, Nat.zero_le _, Lib.hid rfl, Below.refl _ _⟩
    case round =>
      obtain ⟨i, rfl, hi, HT, hB⟩ := hrel
      have HB := Lib.hid hB
      clear hB
      by_cases hlt : i < n
      · obtain ⟨e, he⟩ : ∃ e, l[i]? = some e := ⟨_, List.getElem?_eq_getElem (by rw [HN.out]; exact hlt)⟩
        obtain ⟨f, hf⟩ : ∃ f, m[i]? = some f := ⟨_, List.getElem?_eq_getElem (by rw [HN2.out]; exact hlt)⟩
        obtain ⟨b, hAb, -, hrg⟩ := (HA.out.below HB.out) i e he
        obtain ⟨b', hAb', -, hrg'⟩ := (HA2.out.below HB.out) i f hf
        subst hAb hAb'
        have HE := Lib.hid (And.intro he hf)
        have d1 : decide (i < n) = true := by simp [hlt]
        have z1 : (0 : Int) ≤ (i : Int) := by omega
        have z2 : (i : Int) < (n : Int) := by omega
        have w1 : IntKind.i64.wrap ((i : Int) + 1) = ((i + 1 : Nat) : Int) := by rw [IntKind.wrap_i64]; omega
        obtain ⟨q, hq⟩ : ∃ q, eqE e f = q := ⟨_, rfl⟩
        have HQ := Lib.hid hq
        have HNE : Hid (∀ W, (binOp .neq 33 (.agg e.cells.toArray) (.agg f.cells.toArray)).run Tryz.prog W = .ok (.bool (!q)) W) := Lib.hid (fun W => by rw [← hq]; exact neq_ents e f W)
        have hS0 : World.rangeAt wr.drew b (i * 18) e.cells ∧ World.rangeAt wr.drew b' (i * 18) f.cells := ⟨hrg, hrg'⟩
        clear he hf hrg hrg' hq
        go_wp2_with fail
        refine wp_region_noPanic ?_
        refine wp_region_held_drew (S := fun U => World.rangeAt U b (i * 18) e.cells ∧ World.rangeAt U b' (i * 18) f.cells) (by kernel_rfl) hS0 (fun hHeld => ?_)
        refine tk 0 ?_
        refine tk 1 ?_
        refine tk 2 ?_
        refine tl 3 rfl (yieldsIf_load_mid (by rfl) 33 (.tmp 18) rfl b (i * 18) (by rfl) e.cells _ (fun w hw => hw.1) Tryz.underlying33 rfl (IE e).out) ?_
        refine tk 4 ?_
        refine tk 5 ?_
        refine tk 6 ?_
        refine tl 7 rfl (yieldsIf_load_mid (by rfl) 33 (.tmp 22) rfl b' (i * 18) (by rfl) f.cells _ (fun w hw => hw.2) Tryz.underlying33 rfl (IE f).out) ?_
        refine tl 8 rfl (yields_neq (by rfl) 33 33 (.tmp 19) (.tmp 23) (by rfl) (.agg e.cells.toArray) (.agg f.cells.toArray) (by rfl) (by rfl) (!q) (fun w => guard_neq _ _ _ _ w) HNE.out) ?_
        refine dn ?_
        have HBd : Hid (Below w.heap.size w wr.drew) := Lib.hid (Below.drew HB.out)
        clear hHeld hS0
        cases q
        · go_wp2
          go_ret
          have hne : l ≠ m := fun h => by
            have h1 := HE.out.1
            rw [h, HE.out.2] at h1
            have h2 : f = e := Option.some.inj h1
            have h3 := HQ.out
            rw [h2, (eqE_iff e e).2 rfl] at h3; cases h3
          rw [decide_eq_false hne]
          exact ⟨rfl, HBd.out⟩
        · go_wp2
          have hef := (eqE_iff e f).1 HQ.out
          have ht : l.take (i + 1) = m.take (i + 1) := by rw [List.take_add_one, List.take_add_one, HT.out, HE.out.1, HE.out.2, hef]
          have HTT := Lib.hid ht
          clear ht hef
          go_round
          case rel => exact ⟨i + 1, rfl, by omega, HTT, HBd.out⟩
          case measure => simp; omega
      · have d1 : decide (i < n) = false := by simp; omega
        obtain rfl : i = n := by omega
        have hlm : l = m := by
          have := HT.out
          rwa [List.take_of_length_le (by rw [HN.out]; omega), List.take_of_length_le (by rw [HN2.out]; omega)] at this
        have HLM := Lib.hid hlm
        clear hlm
        go_wp2_with fail
        go_ret
        rw [decide_eq_true HLM.out]
        exact ⟨rfl, HB.out⟩
  · have d0 : ((n : Int) != (n2 : Int)) = true := by simp; omega
    have hlm : l ≠ m := fun h => hnn (by rw [← hn, ← hn2, h])
    rw [decide_eq_false hlm]
    clear hn hn2 hlm
    go_enter Tryz.func56, Tryz.ntmps56
    go_wp2
    go_ret
    exact ⟨rfl, Below.refl _ _⟩
def sameB (A B : Bas) : Bool := (List.range 9).all fun j => decide (A.ls j = B.ls j)
theorem sameB_iff (A B : Bas) : sameB A B = true ↔ ∀ j, j < 9 → A.ls j = B.ls j := by
  unfold sameB
  rw [List.all_eq_true]
  constructor
  · intro h j hj; simpa using h j (List.mem_range.2 hj)
  · intro h j hj; simpa using h j (List.mem_range.1 hj)
theorem bas_at (B : Bas) {j : Nat} (h : j < 9) : B.cells.toArray[j]? = some (.slice (B.ad j) (B.ls j).length (B.cp j)) := by
  match j, h with
  | 0, _ => rfl
  | 1, _ => rfl
  | 2, _ => rfl
  | 3, _ => rfl
  | 4, _ => rfl
  | 5, _ => rfl
  | 6, _ => rfl
  | 7, _ => rfl
  | 8, _ => rfl
def nilPtrs : Array Value := #[.pointer none, .pointer none, .pointer none, .pointer none, .pointer none, .pointer none, .pointer none, .pointer none, .pointer none, .pointer none]
set_option maxRecDepth 100000 in
set_option maxHeartbeats 4000000 in
theorem same_walk (A B : Bas) (w : World) (hA : BasAt w (Old w) A) (hB : BasAt w (Old w) B) : Calls Tryz.prog 14 #[A.val, B.val] w (ValP w (sameB A B)) := by
  have HA := Lib.hid hA
  have HB := Lib.hid hB
  clear hA hB
  go_enter Tryz.func14, Tryz.ntmps14
  go_wp2_with fail
  have HF0 := Lib.hid (At.start w)
  obtain ⟨b0, w0, q1, q2, q3, hf, hs0⟩ := HF0.out.alloc2 (.cells A.cells.toArray 36)
  obtain ⟨b1, w1, r1, r2, r3, hf2, hs1⟩ := hf.alloc2 (.cells B.cells.toArray 36)
  rw [hs0] at r1
  rw [q1, q2, r1, r2]
  have HF1 := Lib.hid hf2
  clear HF0 q1 q2 q3 hf hs0 r1 r2 r3 hf2 hs1
  go_wp2_with (first
    | (go_at_call 55; (with_reducible refine (lists_walk b0 _).mono ?_); rintro e2 w2 ⟨rfl, hb2⟩
       have HF2 := Lib.hid (HF1.out.step hb2)
       clear hb2)
    | (go_at_call 55; (with_reducible refine (lists_walk b1 _).mono ?_); rintro e3 w3 ⟨rfl, hb3⟩
       have HF3 := Lib.hid (HF2.out.step hb3)
       clear hb3)
    | ((with_reducible refine wpList_store_rowN rfl 96 (.tmp 5) (.tmp 8) rfl rfl w3.heap.size (ptrs b0).toArray nilPtrs rfl rfl ?hi ?hh ?ho ?h1 ?_); (case hi => kernel_rfl); (case hh => exact ((below_new (w3.alloc (.cells nilPtrs 96)) (.cells nilPtrs 96)).block _ (by simp)).trans (World.alloc_heap_new w3 _)); (case ho => rfl); (case h1 => simp [ptrs, Value.oneCell']); intro w4 hc4 ht4
       have hb4 : Below w3.heap.size w3 w4 := ht4.below ((below_new w3 _).trans ((below_new (w3.alloc (.cells nilPtrs 96)) _).mono (by simp))) (Nat.le_refl _) (fun k hk => by omega)
       have hn4 : w4.heap[w3.heap.size + 1]? = some (.cells nilPtrs 96 (0, 0)) := (ht4.block _ (by simp) (by omega)).trans (by have := World.alloc_heap_new (w3.alloc (.cells nilPtrs 96)) (.cells nilPtrs 96); rwa [World.size_alloc] at this)
       have HF4 := Lib.hid ((HF3.out.step hb4).cons hc4)
       have HN4 := Lib.hid hn4
       have hw3 : w.heap.size ≤ w3.heap.size := HF3.out.below.size
       obtain ⟨b5, hb5⟩ : ∃ b5, w3.heap.size = b5 := ⟨_, rfl⟩
       rw [hb5] at HF4 HN4 hw3
       have HW3 := Lib.hid hw3
       rw [hb5]
       clear hc4 ht4 hb4 hn4 hb5 hw3)
    | ((with_reducible refine wpList_store_rowN rfl 96 (.tmp 6) (.tmp 9) rfl rfl (b5 + 1) (ptrs b1).toArray nilPtrs rfl rfl ?hi HN4.out ?ho ?h1 ?_); (case hi => kernel_rfl); (case ho => rfl); (case h1 => simp [ptrs, Value.oneCell']); intro w5 hc5 ht5
       have HC5 := Lib.hid hc5
       have HT5 := Lib.hid ht5
       clear hc5 ht5)
    | fail)
  obtain ⟨b6, hb6⟩ : ∃ b6, b5 + 1 = b6 := ⟨_, rfl⟩
  rw [hb6] at HC5 HT5 HN4
  rw [hb6]
  have hf5 : At w w5 [(b6, .cells (ptrs b1).toArray 96 (0, 0)), (b5, .cells (ptrs b0).toArray 96 (0, 0)), (b1, .cells B.cells.toArray 36 (0, 0)), (b0, .cells A.cells.toArray 36 (0, 0))] := by
    have hne : ∀ k cs, (k, Obj.cells cs 36 (0, 0)) ∈ [(b5, Obj.cells (ptrs b0).toArray 96 (0, 0)), (b1, .cells B.cells.toArray 36 (0, 0)), (b0, .cells A.cells.toArray 36 (0, 0))] → w5.heap[k]? = some (Obj.cells cs 36 (0, 0)) := fun k cs hm => by
      have h4 := HF4.out.has _ hm
      refine (HT5.out.block k (HF4.out.lt hm) (fun e => ?_)).trans h4
      rw [e] at h4
      have := HN4.out
      rw [h4] at this
      injection this with this
      injection this with _ q2 _
      exact absurd q2 (by decide)
    refine ⟨HT5.out.below HF4.out.below (Nat.le_refl _) (fun k hk => by have := HW3.out; omega), fun p hp => ?_⟩
    simp only [List.mem_cons, List.not_mem_nil, or_false] at hp
    rcases hp with rfl | rfl | rfl | rfl
    · exact HC5.out
    · exact (HT5.out.block b5 (HF4.out.lt (o := .cells (ptrs b0).toArray 96 (0, 0)) (by simp)) (by omega)).trans (HF4.out.has (b5, .cells (ptrs b0).toArray 96 (0, 0)) (by simp))
    · exact hne _ _ (by simp)
    · exact hne _ _ (by simp)
  have HF5 := Lib.hid hf5
  clear hf5 hb6 HF1 HF2 HF3 HF4 HN4 HC5 HT5
  go_loopw [7] (fun v wr => ∃ k : Nat, v = .int .i64 (k : Int) ∧ 1 ≤ k ∧ k ≤ 10 ∧ Hid (∀ j, j + 1 < k → A.ls j = B.ls j) ∧ At w wr [(b6, .cells (ptrs b1).toArray 96 (0, 0)), (b5, .cells (ptrs b0).toArray 96 (0, 0)), (b1, .cells B.cells.toArray 36 (0, 0)), (b0, .cells A.cells.toArray 36 (0, 0))]) (fun v _ => match v with | .int _ k => 10 - k.toNat | _ => 0)
  case atStart => exact ⟨1, rfl, by omega, by omega, Lib.hid (fun j hj => by omega), HF5.out⟩
  case round =>
    obtain ⟨k, rfl, hk1, hk2, HT, hat⟩ := hrel
    have HAT := Lib.hid hat
    clear hat HF5
    by_cases hlt : k < 10
    · obtain ⟨j, rfl⟩ : ∃ j, k = j + 1 := ⟨k - 1, by omega⟩
      have hj : j < 9 := by omega
      obtain ⟨kN, hkN⟩ : ∃ kN, j + 1 = kN := ⟨_, rfl⟩
      have HKN := Lib.hid (And.intro hkN hj)
      have hS0 : World.cell? wr.drew ⟨b5, kN, none⟩ = some (.pointer (some ⟨b0, j, none⟩)) ∧ World.cell? wr.drew ⟨b0, j, none⟩ = some (.slice (A.ad j) (A.ls j).length (A.cp j)) ∧ World.cell? wr.drew ⟨b6, kN, none⟩ = some (.pointer (some ⟨b1, j, none⟩)) ∧ World.cell? wr.drew ⟨b1, j, none⟩ = some (.slice (B.ad j) (B.ls j).length (B.cp j)) := by
        refine ⟨HAT.out.cell (cs := (ptrs b0).toArray) (t := 96) (by simp) (by rw [← hkN]; simpa using ptrs_at b0 j hj), HAT.out.cell (cs := A.cells.toArray) (t := 36) (by simp) (bas_at A hj), HAT.out.cell (cs := (ptrs b1).toArray) (t := 96) (by simp) (by rw [← hkN]; simpa using ptrs_at b1 j hj), HAT.out.cell (cs := B.cells.toArray) (t := 36) (by simp) (bas_at B hj)⟩
      obtain ⟨na, hna⟩ : ∃ na, (A.ls j).length = na := ⟨_, rfl⟩
      obtain ⟨nb, hnb⟩ : ∃ nb, (B.ls j).length = nb := ⟨_, rfl⟩
      have hEQ := fun V (hV : Below w.heap.size w V) => equal_walk (A.ls j) (B.ls j) (A.ad j) (B.ad j) na (A.cp j) nb (B.cp j) hna hnb (by rw [← hna]; exact Nat.le_trans (HA.out.cap j hj).1 (HA.out.cap j hj).2) V ((HA.out.below hV).at_ j hj) ((HB.out.below hV).at_ j hj)
      have HEQ := Lib.hid hEQ
      obtain ⟨q, hq⟩ : ∃ q, decide (A.ls j = B.ls j) = q := ⟨_, rfl⟩
      rw [hq] at HEQ
      have HQ := Lib.hid hq
      rw [hna, hnb] at hS0
      have z1 : (0 : Int) ≤ (kN : Int) := by omega
      have z2 : (kN : Int) < 10 := by omega
      have d1 : decide (kN < 10) = true := by simp; omega
      have w1' : IntKind.i64.wrap ((kN : Int) + 1) = ((kN + 1 : Nat) : Int) := by rw [IntKind.wrap_i64]; omega
      have HSS := Lib.hid hS0
      rw [hkN]
      clear hkN hj hna hnb hEQ hq hk1 hk2 hlt
      go_wp2_with fail
      have HAD : Hid (At w wr.drew _) := Lib.hid HAT.out.drew
      refine wp_region_noPanic ?_
      refine wp_region_held_drew (S := fun U => World.cell? U ⟨b5, kN, none⟩ = some (.pointer (some ⟨b0, j, none⟩)) ∧ World.cell? U ⟨b0, j, none⟩ = some (.slice (A.ad j) na (A.cp j)) ∧ World.cell? U ⟨b6, kN, none⟩ = some (.pointer (some ⟨b1, j, none⟩)) ∧ World.cell? U ⟨b1, j, none⟩ = some (.slice (B.ad j) nb (B.cp j))) (by kernel_rfl) hS0 (fun hHeld => ?_)
      refine tk 0 ?_
      refine tk 1 ?_
      refine tk 2 ?_
      refine tk 3 ?_
      refine tk 4 ?_
      refine tk 5 ?_
      refine tk 6 ?_
      refine tk 7 ?_
      refine tk 8 ?_
      refine tk 9 ?_
      refine rd [10] ?_
      refine rc (fun K hK => ?_) ?_
      ·
       go_simp
       (with_reducible refine (HEQ.out _ HAD.out.below).mono ?_)
       rintro e8 w8 ⟨rfl, hb8⟩
       have HA8 := Lib.hid (HAD.out.step hb8)
       have HB8 := Lib.hid hb8
       clear hb8
       refine kk hK (⟨(HB8.out.cell (HAD.out.lt (b := b5) (o := .cells (ptrs b0).toArray 96 (0, 0)) (by simp))).trans hHeld.1, (HB8.out.cell (HAD.out.lt (b := b0) (o := .cells A.cells.toArray 36 (0, 0)) (by simp))).trans hHeld.2.1, (HB8.out.cell (HAD.out.lt (b := b6) (o := .cells (ptrs b1).toArray 96 (0, 0)) (by simp))).trans hHeld.2.2.1, (HB8.out.cell (HAD.out.lt (b := b1) (o := .cells B.cells.toArray 36 (0, 0)) (by simp))).trans hHeld.2.2.2⟩) (fun hHeld => ?_)
       clear hK K
       refine tk 11 ?_
       refine dn ?_
       clear hHeld hS0
       cases q
       · go_wp2
         go_ret
         have hs : sameB A B = false := by
           cases hs : sameB A B with
           | false => rfl
           | true =>
             have := (sameB_iff A B).1 hs j HKN.out.2
             have hq := HQ.out
             rw [decide_eq_true this] at hq; cases hq
         rw [hs]
         exact ⟨rfl, HA8.out.below⟩
       · go_wp2
         have ht : ∀ i, i + 1 < kN + 1 → A.ls i = B.ls i := fun i hi => by
           by_cases hij : i = j
           · subst hij; simpa using HQ.out
           · exact HT.out i (by have := HKN.out.1; omega)
         have HTT := Lib.hid ht
         clear ht
         have hkk := HKN.out
         go_roundw
         case rel => exact ⟨kN + 1, rfl, by omega, by omega, HTT, HA8.out⟩
         case measure => simp; omega
      exact AllReadyH.nil
    · have d1 : decide (k < 10) = false := by simp; omega
      have hs : sameB A B = true := (sameB_iff A B).2 fun j hj => HT.out j (by omega)
      have HS := Lib.hid hs
      clear hs
      go_wp2_with fail
      go_ret
      rw [HS.out]
      exact ⟨rfl, HAT.out.below⟩
end Go.Proofs.YteeifhlhpiimoaaGreatDoor
end
