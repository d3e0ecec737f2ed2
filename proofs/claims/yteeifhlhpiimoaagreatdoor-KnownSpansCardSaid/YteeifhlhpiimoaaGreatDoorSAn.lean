/-
  Contracts of known.Wrong, known.Budget, known.Skilled. Conditions: the lists' bounds.
-/
import Derived.Test.YteeifhlhpiimoaaGreatDoorSAa
import Derived.Test.YteeifhlhpiimoaaGreatDoorSAf
namespace Go.Proofs.YteeifhlhpiimoaaGreatDoor
open Go Go.RowKit Go.Shelf
attribute [local go_sem] Oper.semAt_some
def budgetE (l : List Ent) (p : Int) : Ent := (l.filter fun e => decide (e.item = p)).headD zeroE
set_option maxRecDepth 100000 in
set_option maxHeartbeats 4000000 in
theorem wrong_walk (B : Bas) (p t : Int) (w : World) (hB : BasAt w (Old w) B) : Calls Tryz.prog 25 #[B.val, .int .i64 p, .int .i64 t] w (ValP w ((B.ls 3).any fun e => decide (e.item = p) && (decide (e.frm ≤ t) && decide (t ≤ e.til)))) := by
  have HB := Lib.hid hB
  have IE := fun e : Ent => Lib.hid (ientry (e := e))
  clear hB
  go_enter Tryz.func25, Tryz.ntmps25
  go_wp2
  have HF0 := Lib.hid (At.start w)
  obtain ⟨b0, w0, q1, q2, q3, hf, hs0⟩ := HF0.out.alloc2 (.cells B.cells.toArray 36)
  rw [q1, q2]
  have HF0 := Lib.hid hf
  have Hb0 := Lib.hid q3
  clear hf q1 q2 q3
  clear hs0
  have HF := Lib.hid HF0.out.drew
  clear HF0
  refine wp_region_noPanic ?_
  refine wp_region_held_drew (S := fun U => U.cell? ⟨b0, 3, none⟩ = some (.slice (B.ad 3) (B.ls 3).length (B.cp 3))) (by kernel_rfl) (At.cell HF.out (b := b0) (cs := B.cells.toArray) (t := 36) (i := 3) (by simp) rfl) (fun hHeld => ?_)
  obtain ⟨U0, hU0⟩ : ∃ U0, w0.drew = U0 := ⟨_, rfl⟩
  rw [hU0] at HF hHeld ⊢
  clear hU0
  refine tk 0 ?_
  refine tk 1 ?_
  refine tk 2 ?_
  refine tk 4 ?_
  refine rd [3, 12] ?_
  refine rc (fun K hK => ?_) ?_
  ·
   go_simp
   (with_reducible refine (about_at (p) HF.out).mono ?_)
   rintro e1 V1 ⟨ba, rfl, HF1⟩
   have HF := Lib.hid HF1
   clear HF1
   refine kk hK (At.cell HF.out (b := b0) (cs := B.cells.toArray) (t := 36) (i := 3) (by simp) rfl) (fun hHeld => ?_)
   clear hK K
   refine rd [5, 12] ?_
   refine rc (fun K hK => ?_) ?_
   ·
    go_simp
    (with_reducible refine (holds_at (t) HF.out).mono ?_)
    rintro e1 V2 ⟨bh, rfl, HF1⟩
    have HF := Lib.hid HF1
    clear HF1
    refine kk hK (At.cell HF.out (b := b0) (cs := B.cells.toArray) (t := 36) (i := 3) (by simp) rfl) (fun hHeld => ?_)
    clear hK K
    refine rd [6, 12] ?_
    refine rc (fun K hK => ?_) ?_
    ·
     go_simp
     obtain ⟨bc, V3, q1, q2, -, HF1⟩ := HF.out.alloc (.cells #[.func (.func 129) #[] #[.pointer (some ⟨ba, 0, none⟩)], .func (.func 130) #[] #[.pointer (some ⟨bh, 0, none⟩)]] 45)
     rw [q1, q2]
     have HF := Lib.hid HF1
     clear HF1 q1 q2
     refine kk hK (At.cell HF.out (b := b0) (cs := B.cells.toArray) (t := 36) (i := 3) (by simp) rfl) (fun hHeld => ?_)
     clear hK K
     refine rd [7, 12] ?_
     refine rc (fun K hK => ?_) ?_
     ·
      go_simp
      (with_reducible refine (where_at (B.ad 3) (B.ls 3).length (B.cp 3) (some ⟨bc, 0, none⟩) 2 2 HF.out).mono ?_)
      rintro e1 V4 ⟨b1, b2, rfl, HF1⟩
      have HF := Lib.hid HF1
      clear HF1
      refine kk hK (At.cell HF.out (b := b0) (cs := B.cells.toArray) (t := 36) (i := 3) (by simp) rfl) (fun hHeld => ?_)
      clear hK K
      refine rd [8, 12] ?_
      refine rc (fun K hK => ?_) ?_
      ·
       go_simp
       (with_reducible refine (first_at HF.out [⟨129, #[.pointer (some ⟨ba, 0, none⟩)], fun e => decide (e.item = p)⟩, ⟨130, #[.pointer (some ⟨bh, 0, none⟩)], fun e => decide (e.frm ≤ t) && decide (t ≤ e.til)⟩] (B.ls 3) (B.ad 3) (some ⟨bc, 0, none⟩) _ (B.cp 3) 2 2 b1 b2 rfl (Nat.le_trans (HB.out.cap 3 (by decide)).1 (HB.out.cap 3 (by decide)).2) rfl (by decide) (by simp) (by simp) (HB.out.at_ 3 (by decide)) bc rfl 45 (by simp [CndD.val]) ?hc).mono ?_)
       case hc => intro c hc; simp only [List.mem_cons, List.not_mem_nil, or_false] at hc; rcases hc with rfl | rfl; (exact HF.out.about (by simp)); (exact HF.out.holds (by simp))
       rintro e1 V5 ⟨rfl, HF1⟩
       have HF := Lib.hid HF1
       unfold firstR
       obtain ⟨ev, hev⟩ : ∃ ev, (List.filter (allP [⟨129, #[.pointer (some ⟨ba, 0, none⟩)], fun e => decide (e.item = p)⟩, ⟨130, #[.pointer (some ⟨bh, 0, none⟩)], fun e => decide (e.frm ≤ t) && decide (t ≤ e.til)⟩]) (B.ls 3)).headD zeroE = ev := ⟨_, rfl⟩
       obtain ⟨qv, hqv⟩ : ∃ qv, (!(List.filter (allP [⟨129, #[.pointer (some ⟨ba, 0, none⟩)], fun e => decide (e.item = p)⟩, ⟨130, #[.pointer (some ⟨bh, 0, none⟩)], fun e => decide (e.frm ≤ t) && decide (t ≤ e.til)⟩]) (B.ls 3)).isEmpty) = qv := ⟨_, rfl⟩
       rw [hev, hqv]
       have HEV := Lib.hid hev
       have HQV := Lib.hid hqv
       clear HF1 hev hqv
       refine kk hK (At.cell HF.out (b := b0) (cs := B.cells.toArray) (t := 36) (i := 3) (by simp) rfl) (fun hHeld => ?_)
       clear hK K
       refine tk 9 ?_
       refine tk 10 ?_
       refine tk 11 ?_
       refine rd [12] ?_
       refine rc (fun K hK => ?_) ?_
       ·
        go_simp
        obtain ⟨bv, V6, q1, q2, q3, HF1⟩ := HF.out.alloc (.cells zeroE.cells.toArray 33)
        have q2' : V6 = V6 := rfl
        simp only [zeroE, Ent.cells] at q2
        rw [q1, q2]
        have HF := Lib.hid HF1
        have HV := Lib.hid q3
        clear HF1 q1 q2 q2' q3
        refine kk hK (At.cell HF.out (b := b0) (cs := B.cells.toArray) (t := 36) (i := 3) (by simp) rfl) (fun hHeld => ?_)
        clear hK K
        refine rd [13] ?_
        refine rc (fun K hK => ?_) ?_
        ·
         refine step_store_at (by rfl) (.tmp 7) (.tmp 19) (by rfl) (by rfl) bv ev (by rfl) (by rfl) (IE _).out HF.out HV.out (by simp [zeroE, Ent.cells]) ?_
         intro V7 hb7 he7 hk7
         have HST := Lib.hid (And.intro hb7 he7)
         have HK7 := Lib.hid hk7
         clear hb7 he7 hk7
         refine kk hK (cells_i (HK7.out b0 B.cells.toArray 36 (by simp) (by decide)) (i := 3) rfl) (fun hHeld => ?_)
         clear hK K
         refine tk 14 ?_
         refine dn ?_
         clear hHeld
         go_wp2
         go_ret
         have hq : qv = (B.ls 3).any fun e => decide (e.item = p) && (decide (e.frm ≤ t) && decide (t ≤ e.til)) := by rw [← HQV.out, any_first]; congr 1; funext e; simp [allP]
         rw [← hq]
         exact ⟨rfl, HST.out.1⟩
        exact AllReadyH.nil
       exact AllReadyH.nil
      refine rc (fun K hK => ?_) ?_
      ·
       go_simp
       obtain ⟨bv, V6, q1, q2, q3, HF1⟩ := HF.out.alloc (.cells zeroE.cells.toArray 33)
       have q2' : V6 = V6 := rfl
       simp only [zeroE, Ent.cells] at q2
       rw [q1, q2]
       have HF := Lib.hid HF1
       have HV := Lib.hid q3
       clear HF1 q1 q2 q2' q3
       refine kk hK (At.cell HF.out (b := b0) (cs := B.cells.toArray) (t := 36) (i := 3) (by simp) rfl) (fun hHeld => ?_)
       clear hK K
       refine rd [8] ?_
       refine rc (fun K hK => ?_) ?_
       ·
        go_simp
        (with_reducible refine (first_at HF.out [⟨129, #[.pointer (some ⟨ba, 0, none⟩)], fun e => decide (e.item = p)⟩, ⟨130, #[.pointer (some ⟨bh, 0, none⟩)], fun e => decide (e.frm ≤ t) && decide (t ≤ e.til)⟩] (B.ls 3) (B.ad 3) (some ⟨bc, 0, none⟩) _ (B.cp 3) 2 2 b1 b2 rfl (Nat.le_trans (HB.out.cap 3 (by decide)).1 (HB.out.cap 3 (by decide)).2) rfl (by decide) (by simp) (by simp) (HB.out.at_ 3 (by decide)) bc rfl 45 (by simp [CndD.val]) ?hc).mono ?_)
        case hc => intro c hc; simp only [List.mem_cons, List.not_mem_nil, or_false] at hc; rcases hc with rfl | rfl; (exact HF.out.about (by simp)); (exact HF.out.holds (by simp))
        rintro e1 V5 ⟨rfl, HF1⟩
        have HF := Lib.hid HF1
        unfold firstR
        obtain ⟨ev, hev⟩ : ∃ ev, (List.filter (allP [⟨129, #[.pointer (some ⟨ba, 0, none⟩)], fun e => decide (e.item = p)⟩, ⟨130, #[.pointer (some ⟨bh, 0, none⟩)], fun e => decide (e.frm ≤ t) && decide (t ≤ e.til)⟩]) (B.ls 3)).headD zeroE = ev := ⟨_, rfl⟩
        obtain ⟨qv, hqv⟩ : ∃ qv, (!(List.filter (allP [⟨129, #[.pointer (some ⟨ba, 0, none⟩)], fun e => decide (e.item = p)⟩, ⟨130, #[.pointer (some ⟨bh, 0, none⟩)], fun e => decide (e.frm ≤ t) && decide (t ≤ e.til)⟩]) (B.ls 3)).isEmpty) = qv := ⟨_, rfl⟩
        rw [hev, hqv]
        have HEV := Lib.hid hev
        have HQV := Lib.hid hqv
        clear HF1 hev hqv
        refine kk hK (At.cell HF.out (b := b0) (cs := B.cells.toArray) (t := 36) (i := 3) (by simp) rfl) (fun hHeld => ?_)
        clear hK K
        refine tk 9 ?_
        refine tk 10 ?_
        refine tk 11 ?_
        refine rd [13] ?_
        refine rc (fun K hK => ?_) ?_
        ·
         refine step_store_at (by rfl) (.tmp 7) (.tmp 19) (by rfl) (by rfl) bv ev (by rfl) (by rfl) (IE _).out HF.out HV.out (by simp [zeroE, Ent.cells]) ?_
         intro V7 hb7 he7 hk7
         have HST := Lib.hid (And.intro hb7 he7)
         have HK7 := Lib.hid hk7
         clear hb7 he7 hk7
         refine kk hK (cells_i (HK7.out b0 B.cells.toArray 36 (by simp) (by decide)) (i := 3) rfl) (fun hHeld => ?_)
         clear hK K
         refine tk 14 ?_
         refine dn ?_
         clear hHeld
         go_wp2
         go_ret
         have hq : qv = (B.ls 3).any fun e => decide (e.item = p) && (decide (e.frm ≤ t) && decide (t ≤ e.til)) := by rw [← HQV.out, any_first]; congr 1; funext e; simp [allP]
         rw [← hq]
         exact ⟨rfl, HST.out.1⟩
        exact AllReadyH.nil
       exact AllReadyH.nil
      exact AllReadyH.nil
     refine rc (fun K hK => ?_) ?_
     ·
      go_simp
      obtain ⟨bv, V6, q1, q2, q3, HF1⟩ := HF.out.alloc (.cells zeroE.cells.toArray 33)
      have q2' : V6 = V6 := rfl
      simp only [zeroE, Ent.cells] at q2
      rw [q1, q2]
      have HF := Lib.hid HF1
      have HV := Lib.hid q3
      clear HF1 q1 q2 q2' q3
      refine kk hK (At.cell HF.out (b := b0) (cs := B.cells.toArray) (t := 36) (i := 3) (by simp) rfl) (fun hHeld => ?_)
      clear hK K
      refine rd [7] ?_
      refine rc (fun K hK => ?_) ?_
      ·
       go_simp
       (with_reducible refine (where_at (B.ad 3) (B.ls 3).length (B.cp 3) (some ⟨bc, 0, none⟩) 2 2 HF.out).mono ?_)
       rintro e1 V4 ⟨b1, b2, rfl, HF1⟩
       have HF := Lib.hid HF1
       clear HF1
       refine kk hK (At.cell HF.out (b := b0) (cs := B.cells.toArray) (t := 36) (i := 3) (by simp) rfl) (fun hHeld => ?_)
       clear hK K
       refine rd [8] ?_
       refine rc (fun K hK => ?_) ?_
       ·
        go_simp
        (with_reducible refine (first_at HF.out [⟨129, #[.pointer (some ⟨ba, 0, none⟩)], fun e => decide (e.item = p)⟩, ⟨130, #[.pointer (some ⟨bh, 0, none⟩)], fun e => decide (e.frm ≤ t) && decide (t ≤ e.til)⟩] (B.ls 3) (B.ad 3) (some ⟨bc, 0, none⟩) _ (B.cp 3) 2 2 b1 b2 rfl (Nat.le_trans (HB.out.cap 3 (by decide)).1 (HB.out.cap 3 (by decide)).2) rfl (by decide) (by simp) (by simp) (HB.out.at_ 3 (by decide)) bc rfl 45 (by simp [CndD.val]) ?hc).mono ?_)
        case hc => intro c hc; simp only [List.mem_cons, List.not_mem_nil, or_false] at hc; rcases hc with rfl | rfl; (exact HF.out.about (by simp)); (exact HF.out.holds (by simp))
        rintro e1 V5 ⟨rfl, HF1⟩
        have HF := Lib.hid HF1
        unfold firstR
        obtain ⟨ev, hev⟩ : ∃ ev, (List.filter (allP [⟨129, #[.pointer (some ⟨ba, 0, none⟩)], fun e => decide (e.item = p)⟩, ⟨130, #[.pointer (some ⟨bh, 0, none⟩)], fun e => decide (e.frm ≤ t) && decide (t ≤ e.til)⟩]) (B.ls 3)).headD zeroE = ev := ⟨_, rfl⟩
        obtain ⟨qv, hqv⟩ : ∃ qv, (!(List.filter (allP [⟨129, #[.pointer (some ⟨ba, 0, none⟩)], fun e => decide (e.item = p)⟩, ⟨130, #[.pointer (some ⟨bh, 0, none⟩)], fun e => decide (e.frm ≤ t) && decide (t ≤ e.til)⟩]) (B.ls 3)).isEmpty) = qv := ⟨_, rfl⟩
        rw [hev, hqv]
        have HEV := Lib.hid hev
        have HQV := Lib.hid hqv
        clear HF1 hev hqv
        refine kk hK (At.cell HF.out (b := b0) (cs := B.cells.toArray) (t := 36) (i := 3) (by simp) rfl) (fun hHeld => ?_)
        clear hK K
        refine tk 9 ?_
        refine tk 10 ?_
        refine tk 11 ?_
        refine rd [13] ?_
        refine rc (fun K hK => ?_) ?_
        ·
         refine step_store_at (by rfl) (.tmp 7) (.tmp 19) (by rfl) (by rfl) bv ev (by rfl) (by rfl) (IE _).out HF.out HV.out (by simp [zeroE, Ent.cells]) ?_
         intro V7 hb7 he7 hk7
         have HST := Lib.hid (And.intro hb7 he7)
         have HK7 := Lib.hid hk7
         clear hb7 he7 hk7
         refine kk hK (cells_i (HK7.out b0 B.cells.toArray 36 (by simp) (by decide)) (i := 3) rfl) (fun hHeld => ?_)
         clear hK K
         refine tk 14 ?_
         refine dn ?_
         clear hHeld
         go_wp2
         go_ret
         have hq : qv = (B.ls 3).any fun e => decide (e.item = p) && (decide (e.frm ≤ t) && decide (t ≤ e.til)) := by rw [← HQV.out, any_first]; congr 1; funext e; simp [allP]
         rw [← hq]
         exact ⟨rfl, HST.out.1⟩
        exact AllReadyH.nil
       exact AllReadyH.nil
      exact AllReadyH.nil
     exact AllReadyH.nil
    refine rc (fun K hK => ?_) ?_
    ·
     go_simp
     obtain ⟨bv, V6, q1, q2, q3, HF1⟩ := HF.out.alloc (.cells zeroE.cells.toArray 33)
     have q2' : V6 = V6 := rfl
     simp only [zeroE, Ent.cells] at q2
     rw [q1, q2]
     have HF := Lib.hid HF1
     have HV := Lib.hid q3
     clear HF1 q1 q2 q2' q3
     refine kk hK (At.cell HF.out (b := b0) (cs := B.cells.toArray) (t := 36) (i := 3) (by simp) rfl) (fun hHeld => ?_)
     clear hK K
     refine rd [6] ?_
     refine rc (fun K hK => ?_) ?_
     ·
      go_simp
      obtain ⟨bc, V3, q1, q2, -, HF1⟩ := HF.out.alloc (.cells #[.func (.func 129) #[] #[.pointer (some ⟨ba, 0, none⟩)], .func (.func 130) #[] #[.pointer (some ⟨bh, 0, none⟩)]] 45)
      rw [q1, q2]
      have HF := Lib.hid HF1
      clear HF1 q1 q2
      refine kk hK (At.cell HF.out (b := b0) (cs := B.cells.toArray) (t := 36) (i := 3) (by simp) rfl) (fun hHeld => ?_)
      clear hK K
      refine rd [7] ?_
      refine rc (fun K hK => ?_) ?_
      ·
       go_simp
       (with_reducible refine (where_at (B.ad 3) (B.ls 3).length (B.cp 3) (some ⟨bc, 0, none⟩) 2 2 HF.out).mono ?_)
       rintro e1 V4 ⟨b1, b2, rfl, HF1⟩
       have HF := Lib.hid HF1
       clear HF1
       refine kk hK (At.cell HF.out (b := b0) (cs := B.cells.toArray) (t := 36) (i := 3) (by simp) rfl) (fun hHeld => ?_)
       clear hK K
       refine rd [8] ?_
       refine rc (fun K hK => ?_) ?_
       ·
        go_simp
        (with_reducible refine (first_at HF.out [⟨129, #[.pointer (some ⟨ba, 0, none⟩)], fun e => decide (e.item = p)⟩, ⟨130, #[.pointer (some ⟨bh, 0, none⟩)], fun e => decide (e.frm ≤ t) && decide (t ≤ e.til)⟩] (B.ls 3) (B.ad 3) (some ⟨bc, 0, none⟩) _ (B.cp 3) 2 2 b1 b2 rfl (Nat.le_trans (HB.out.cap 3 (by decide)).1 (HB.out.cap 3 (by decide)).2) rfl (by decide) (by simp) (by simp) (HB.out.at_ 3 (by decide)) bc rfl 45 (by simp [CndD.val]) ?hc).mono ?_)
        case hc => intro c hc; simp only [List.mem_cons, List.not_mem_nil, or_false] at hc; rcases hc with rfl | rfl; (exact HF.out.about (by simp)); (exact HF.out.holds (by simp))
        rintro e1 V5 ⟨rfl, HF1⟩
        have HF := Lib.hid HF1
        unfold firstR
        obtain ⟨ev, hev⟩ : ∃ ev, (List.filter (allP [⟨129, #[.pointer (some ⟨ba, 0, none⟩)], fun e => decide (e.item = p)⟩, ⟨130, #[.pointer (some ⟨bh, 0, none⟩)], fun e => decide (e.frm ≤ t) && decide (t ≤ e.til)⟩]) (B.ls 3)).headD zeroE = ev := ⟨_, rfl⟩
        obtain ⟨qv, hqv⟩ : ∃ qv, (!(List.filter (allP [⟨129, #[.pointer (some ⟨ba, 0, none⟩)], fun e => decide (e.item = p)⟩, ⟨130, #[.pointer (some ⟨bh, 0, none⟩)], fun e => decide (e.frm ≤ t) && decide (t ≤ e.til)⟩]) (B.ls 3)).isEmpty) = qv := ⟨_, rfl⟩
        rw [hev, hqv]
        have HEV := Lib.hid hev
        have HQV := Lib.hid hqv
        clear HF1 hev hqv
        refine kk hK (At.cell HF.out (b := b0) (cs := B.cells.toArray) (t := 36) (i := 3) (by simp) rfl) (fun hHeld => ?_)
        clear hK K
        refine tk 9 ?_
        refine tk 10 ?_
        refine tk 11 ?_
        refine rd [13] ?_
        refine rc (fun K hK => ?_) ?_
        ·
         refine step_store_at (by rfl) (.tmp 7) (.tmp 19) (by rfl) (by rfl) bv ev (by rfl) (by rfl) (IE _).out HF.out HV.out (by simp [zeroE, Ent.cells]) ?_
         intro V7 hb7 he7 hk7
         have HST := Lib.hid (And.intro hb7 he7)
         have HK7 := Lib.hid hk7
         clear hb7 he7 hk7
         refine kk hK (cells_i (HK7.out b0 B.cells.toArray 36 (by simp) (by decide)) (i := 3) rfl) (fun hHeld => ?_)
         clear hK K
         refine tk 14 ?_
         refine dn ?_
         clear hHeld
         go_wp2
         go_ret
         have hq : qv = (B.ls 3).any fun e => decide (e.item = p) && (decide (e.frm ≤ t) && decide (t ≤ e.til)) := by rw [← HQV.out, any_first]; congr 1; funext e; simp [allP]
         rw [← hq]
         exact ⟨rfl, HST.out.1⟩
        exact AllReadyH.nil
       exact AllReadyH.nil
      exact AllReadyH.nil
     exact AllReadyH.nil
    exact AllReadyH.nil
   refine rc (fun K hK => ?_) ?_
   ·
    go_simp
    obtain ⟨bv, V6, q1, q2, q3, HF1⟩ := HF.out.alloc (.cells zeroE.cells.toArray 33)
    have q2' : V6 = V6 := rfl
    simp only [zeroE, Ent.cells] at q2
    rw [q1, q2]
    have HF := Lib.hid HF1
    have HV := Lib.hid q3
    clear HF1 q1 q2 q2' q3
    refine kk hK (At.cell HF.out (b := b0) (cs := B.cells.toArray) (t := 36) (i := 3) (by simp) rfl) (fun hHeld => ?_)
    clear hK K
    refine rd [5] ?_
    refine rc (fun K hK => ?_) ?_
    ·
     go_simp
     (with_reducible refine (holds_at (t) HF.out).mono ?_)
     rintro e1 V2 ⟨bh, rfl, HF1⟩
     have HF := Lib.hid HF1
     clear HF1
     refine kk hK (At.cell HF.out (b := b0) (cs := B.cells.toArray) (t := 36) (i := 3) (by simp) rfl) (fun hHeld => ?_)
     clear hK K
     refine rd [6] ?_
     refine rc (fun K hK => ?_) ?_
     ·
      go_simp
      obtain ⟨bc, V3, q1, q2, -, HF1⟩ := HF.out.alloc (.cells #[.func (.func 129) #[] #[.pointer (some ⟨ba, 0, none⟩)], .func (.func 130) #[] #[.pointer (some ⟨bh, 0, none⟩)]] 45)
      rw [q1, q2]
      have HF := Lib.hid HF1
      clear HF1 q1 q2
      refine kk hK (At.cell HF.out (b := b0) (cs := B.cells.toArray) (t := 36) (i := 3) (by simp) rfl) (fun hHeld => ?_)
      clear hK K
      refine rd [7] ?_
      refine rc (fun K hK => ?_) ?_
      ·
       go_simp
       (with_reducible refine (where_at (B.ad 3) (B.ls 3).length (B.cp 3) (some ⟨bc, 0, none⟩) 2 2 HF.out).mono ?_)
       rintro e1 V4 ⟨b1, b2, rfl, HF1⟩
       have HF := Lib.hid HF1
       clear HF1
       refine kk hK (At.cell HF.out (b := b0) (cs := B.cells.toArray) (t := 36) (i := 3) (by simp) rfl) (fun hHeld => ?_)
       clear hK K
       refine rd [8] ?_
       refine rc (fun K hK => ?_) ?_
       ·
        go_simp
        (with_reducible refine (first_at HF.out [⟨129, #[.pointer (some ⟨ba, 0, none⟩)], fun e => decide (e.item = p)⟩, ⟨130, #[.pointer (some ⟨bh, 0, none⟩)], fun e => decide (e.frm ≤ t) && decide (t ≤ e.til)⟩] (B.ls 3) (B.ad 3) (some ⟨bc, 0, none⟩) _ (B.cp 3) 2 2 b1 b2 rfl (Nat.le_trans (HB.out.cap 3 (by decide)).1 (HB.out.cap 3 (by decide)).2) rfl (by decide) (by simp) (by simp) (HB.out.at_ 3 (by decide)) bc rfl 45 (by simp [CndD.val]) ?hc).mono ?_)
        case hc => intro c hc; simp only [List.mem_cons, List.not_mem_nil, or_false] at hc; rcases hc with rfl | rfl; (exact HF.out.about (by simp)); (exact HF.out.holds (by simp))
        rintro e1 V5 ⟨rfl, HF1⟩
        have HF := Lib.hid HF1
        unfold firstR
        obtain ⟨ev, hev⟩ : ∃ ev, (List.filter (allP [⟨129, #[.pointer (some ⟨ba, 0, none⟩)], fun e => decide (e.item = p)⟩, ⟨130, #[.pointer (some ⟨bh, 0, none⟩)], fun e => decide (e.frm ≤ t) && decide (t ≤ e.til)⟩]) (B.ls 3)).headD zeroE = ev := ⟨_, rfl⟩
        obtain ⟨qv, hqv⟩ : ∃ qv, (!(List.filter (allP [⟨129, #[.pointer (some ⟨ba, 0, none⟩)], fun e => decide (e.item = p)⟩, ⟨130, #[.pointer (some ⟨bh, 0, none⟩)], fun e => decide (e.frm ≤ t) && decide (t ≤ e.til)⟩]) (B.ls 3)).isEmpty) = qv := ⟨_, rfl⟩
        rw [hev, hqv]
        have HEV := Lib.hid hev
        have HQV := Lib.hid hqv
        clear HF1 hev hqv
        refine kk hK (At.cell HF.out (b := b0) (cs := B.cells.toArray) (t := 36) (i := 3) (by simp) rfl) (fun hHeld => ?_)
        clear hK K
        refine tk 9 ?_
        refine tk 10 ?_
        refine tk 11 ?_
        refine rd [13] ?_
        refine rc (fun K hK => ?_) ?_
        ·
         refine step_store_at (by rfl) (.tmp 7) (.tmp 19) (by rfl) (by rfl) bv ev (by rfl) (by rfl) (IE _).out HF.out HV.out (by simp [zeroE, Ent.cells]) ?_
         intro V7 hb7 he7 hk7
         have HST := Lib.hid (And.intro hb7 he7)
         have HK7 := Lib.hid hk7
         clear hb7 he7 hk7
         refine kk hK (cells_i (HK7.out b0 B.cells.toArray 36 (by simp) (by decide)) (i := 3) rfl) (fun hHeld => ?_)
         clear hK K
         refine tk 14 ?_
         refine dn ?_
         clear hHeld
         go_wp2
         go_ret
         have hq : qv = (B.ls 3).any fun e => decide (e.item = p) && (decide (e.frm ≤ t) && decide (t ≤ e.til)) := by rw [← HQV.out, any_first]; congr 1; funext e; simp [allP]
         rw [← hq]
         exact ⟨rfl, HST.out.1⟩
        exact AllReadyH.nil
       exact AllReadyH.nil
      exact AllReadyH.nil
     exact AllReadyH.nil
    exact AllReadyH.nil
   exact AllReadyH.nil
  refine rc (fun K hK => ?_) ?_
  ·
   go_simp
   obtain ⟨bv, V6, q1, q2, q3, HF1⟩ := HF.out.alloc (.cells zeroE.cells.toArray 33)
   have q2' : V6 = V6 := rfl
   simp only [zeroE, Ent.cells] at q2
   rw [q1, q2]
   have HF := Lib.hid HF1
   have HV := Lib.hid q3
   clear HF1 q1 q2 q2' q3
   refine kk hK (At.cell HF.out (b := b0) (cs := B.cells.toArray) (t := 36) (i := 3) (by simp) rfl) (fun hHeld => ?_)
   clear hK K
   refine rd [3] ?_
   refine rc (fun K hK => ?_) ?_
   ·
    go_simp
    (with_reducible refine (about_at (p) HF.out).mono ?_)
    rintro e1 V1 ⟨ba, rfl, HF1⟩
    have HF := Lib.hid HF1
    clear HF1
    refine kk hK (At.cell HF.out (b := b0) (cs := B.cells.toArray) (t := 36) (i := 3) (by simp) rfl) (fun hHeld => ?_)
    clear hK K
    refine rd [5] ?_
    refine rc (fun K hK => ?_) ?_
    ·
     go_simp
     (with_reducible refine (holds_at (t) HF.out).mono ?_)
     rintro e1 V2 ⟨bh, rfl, HF1⟩
     have HF := Lib.hid HF1
     clear HF1
     refine kk hK (At.cell HF.out (b := b0) (cs := B.cells.toArray) (t := 36) (i := 3) (by simp) rfl) (fun hHeld => ?_)
     clear hK K
     refine rd [6] ?_
     refine rc (fun K hK => ?_) ?_
     ·
      go_simp
      obtain ⟨bc, V3, q1, q2, -, HF1⟩ := HF.out.alloc (.cells #[.func (.func 129) #[] #[.pointer (some ⟨ba, 0, none⟩)], .func (.func 130) #[] #[.pointer (some ⟨bh, 0, none⟩)]] 45)
      rw [q1, q2]
      have HF := Lib.hid HF1
      clear HF1 q1 q2
      refine kk hK (At.cell HF.out (b := b0) (cs := B.cells.toArray) (t := 36) (i := 3) (by simp) rfl) (fun hHeld => ?_)
      clear hK K
      refine rd [7] ?_
      refine rc (fun K hK => ?_) ?_
      ·
       go_simp
       (with_reducible refine (where_at (B.ad 3) (B.ls 3).length (B.cp 3) (some ⟨bc, 0, none⟩) 2 2 HF.out).mono ?_)
       rintro e1 V4 ⟨b1, b2, rfl, HF1⟩
       have HF := Lib.hid HF1
       clear HF1
       refine kk hK (At.cell HF.out (b := b0) (cs := B.cells.toArray) (t := 36) (i := 3) (by simp) rfl) (fun hHeld => ?_)
       clear hK K
       refine rd [8] ?_
       refine rc (fun K hK => ?_) ?_
       ·
        go_simp
        (with_reducible refine (first_at HF.out [⟨129, #[.pointer (some ⟨ba, 0, none⟩)], fun e => decide (e.item = p)⟩, ⟨130, #[.pointer (some ⟨bh, 0, none⟩)], fun e => decide (e.frm ≤ t) && decide (t ≤ e.til)⟩] (B.ls 3) (B.ad 3) (some ⟨bc, 0, none⟩) _ (B.cp 3) 2 2 b1 b2 rfl (Nat.le_trans (HB.out.cap 3 (by decide)).1 (HB.out.cap 3 (by decide)).2) rfl (by decide) (by simp) (by simp) (HB.out.at_ 3 (by decide)) bc rfl 45 (by simp [CndD.val]) ?hc).mono ?_)
        case hc => intro c hc; simp only [List.mem_cons, List.not_mem_nil, or_false] at hc; rcases hc with rfl | rfl; (exact HF.out.about (by simp)); (exact HF.out.holds (by simp))
        rintro e1 V5 ⟨rfl, HF1⟩
        have HF := Lib.hid HF1
        unfold firstR
        obtain ⟨ev, hev⟩ : ∃ ev, (List.filter (allP [⟨129, #[.pointer (some ⟨ba, 0, none⟩)], fun e => decide (e.item = p)⟩, ⟨130, #[.pointer (some ⟨bh, 0, none⟩)], fun e => decide (e.frm ≤ t) && decide (t ≤ e.til)⟩]) (B.ls 3)).headD zeroE = ev := ⟨_, rfl⟩
        obtain ⟨qv, hqv⟩ : ∃ qv, (!(List.filter (allP [⟨129, #[.pointer (some ⟨ba, 0, none⟩)], fun e => decide (e.item = p)⟩, ⟨130, #[.pointer (some ⟨bh, 0, none⟩)], fun e => decide (e.frm ≤ t) && decide (t ≤ e.til)⟩]) (B.ls 3)).isEmpty) = qv := ⟨_, rfl⟩
        rw [hev, hqv]
        have HEV := Lib.hid hev
        have HQV := Lib.hid hqv
        clear HF1 hev hqv
        refine kk hK (At.cell HF.out (b := b0) (cs := B.cells.toArray) (t := 36) (i := 3) (by simp) rfl) (fun hHeld => ?_)
        clear hK K
        refine tk 9 ?_
        refine tk 10 ?_
        refine tk 11 ?_
        refine rd [13] ?_
        refine rc (fun K hK => ?_) ?_
        ·
         refine step_store_at (by rfl) (.tmp 7) (.tmp 19) (by rfl) (by rfl) bv ev (by rfl) (by rfl) (IE _).out HF.out HV.out (by simp [zeroE, Ent.cells]) ?_
         intro V7 hb7 he7 hk7
         have HST := Lib.hid (And.intro hb7 he7)
         have HK7 := Lib.hid hk7
         clear hb7 he7 hk7
         refine kk hK (cells_i (HK7.out b0 B.cells.toArray 36 (by simp) (by decide)) (i := 3) rfl) (fun hHeld => ?_)
         clear hK K
         refine tk 14 ?_
         refine dn ?_
         clear hHeld
         go_wp2
         go_ret
         have hq : qv = (B.ls 3).any fun e => decide (e.item = p) && (decide (e.frm ≤ t) && decide (t ≤ e.til)) := by rw [← HQV.out, any_first]; congr 1; funext e; simp [allP]
         rw [← hq]
         exact ⟨rfl, HST.out.1⟩
        exact AllReadyH.nil
       exact AllReadyH.nil
      exact AllReadyH.nil
     exact AllReadyH.nil
    exact AllReadyH.nil
   exact AllReadyH.nil
  exact AllReadyH.nil
set_option maxRecDepth 100000 in
set_option maxHeartbeats 4000000 in
theorem budget_walk (B : Bas) (p : Int) (w : World) (hB : BasAt w (Old w) B) : Calls Tryz.prog 24 #[B.val, .int .i64 p] w (fun e w' => e = .returned (.tuple #[.agg #[.string (budgetE (B.ls 7) p).rn, .string (budgetE (B.ls 7) p).rd], .bool ((B.ls 7).any fun e => decide (e.item = p))]) ∧ Below w.heap.size w w') := by
  have HB := Lib.hid hB
  have IE := fun e : Ent => Lib.hid (ientry (e := e))
  clear hB
  go_enter Tryz.func24, Tryz.ntmps24
  go_wp2
  have HF0 := Lib.hid (At.start w)
  obtain ⟨b0, w0, q1, q2, q3, hf, hs0⟩ := HF0.out.alloc2 (.cells B.cells.toArray 36)
  rw [q1, q2]
  have HF0 := Lib.hid hf
  have Hb0 := Lib.hid q3
  clear hf q1 q2 q3
  obtain ⟨b4, w1, q1, q2, q3, hf, hs1⟩ := HF0.out.alloc2 (.cells #[.string ⟨#[]⟩, .string ⟨#[]⟩] 29)
  rw [hs0] at q1
  rw [q1, q2]
  have HF0 := Lib.hid hf
  have Hb4 := Lib.hid q3
  clear hf q1 q2 q3 hs0
  clear hs1
  have HF := Lib.hid HF0.out.drew
  clear HF0
  refine wp_region_noPanic ?_
  refine wp_region_held_drew (S := fun U => U.cell? ⟨b0, 7, none⟩ = some (.slice (B.ad 7) (B.ls 7).length (B.cp 7))) (by kernel_rfl) (At.cell HF.out (b := b0) (cs := B.cells.toArray) (t := 36) (i := 7) (by simp) rfl) (fun hHeld => ?_)
  obtain ⟨U0, hU0⟩ : ∃ U0, w1.drew = U0 := ⟨_, rfl⟩
  rw [hU0] at HF hHeld ⊢
  clear hU0
  refine tk 0 ?_
  refine tk 1 ?_
  refine tk 2 ?_
  refine rd [3, 10] ?_
  refine rc (fun K hK => ?_) ?_
  ·
   go_simp
   (with_reducible refine (about_at (p) HF.out).mono ?_)
   rintro e1 V1 ⟨ba, rfl, HF1⟩
   have HF := Lib.hid HF1
   clear HF1
   refine kk hK (At.cell HF.out (b := b0) (cs := B.cells.toArray) (t := 36) (i := 7) (by simp) rfl) (fun hHeld => ?_)
   clear hK K
   refine rd [4, 10] ?_
   refine rc (fun K hK => ?_) ?_
   ·
    go_simp
    obtain ⟨bc, V3, q1, q2, -, HF1⟩ := HF.out.alloc (.cells #[.func (.func 129) #[] #[.pointer (some ⟨ba, 0, none⟩)]] 45)
    rw [q1, q2]
    have HF := Lib.hid HF1
    clear HF1 q1 q2
    refine kk hK (At.cell HF.out (b := b0) (cs := B.cells.toArray) (t := 36) (i := 7) (by simp) rfl) (fun hHeld => ?_)
    clear hK K
    refine rd [5, 10] ?_
    refine rc (fun K hK => ?_) ?_
    ·
     go_simp
     (with_reducible refine (where_at (B.ad 7) (B.ls 7).length (B.cp 7) (some ⟨bc, 0, none⟩) 1 1 HF.out).mono ?_)
     rintro e1 V4 ⟨b1, b2, rfl, HF1⟩
     have HF := Lib.hid HF1
     clear HF1
     refine kk hK (At.cell HF.out (b := b0) (cs := B.cells.toArray) (t := 36) (i := 7) (by simp) rfl) (fun hHeld => ?_)
     clear hK K
     refine rd [6, 10] ?_
     refine rc (fun K hK => ?_) ?_
     ·
      go_simp
      (with_reducible refine (first_at HF.out [⟨129, #[.pointer (some ⟨ba, 0, none⟩)], fun e => decide (e.item = p)⟩] (B.ls 7) (B.ad 7) (some ⟨bc, 0, none⟩) _ (B.cp 7) 1 1 b1 b2 rfl (Nat.le_trans (HB.out.cap 7 (by decide)).1 (HB.out.cap 7 (by decide)).2) rfl (by decide) (by simp) (by simp) (HB.out.at_ 7 (by decide)) bc rfl 45 (by simp [CndD.val]) ?hc).mono ?_)
      case hc => intro c hc; simp only [List.mem_cons, List.not_mem_nil, or_false] at hc; obtain rfl := hc; exact HF.out.about (by simp)
      rintro e1 V5 ⟨rfl, HF1⟩
      have HF := Lib.hid HF1
      unfold firstR
      obtain ⟨ev, hev⟩ : ∃ ev, (List.filter (allP [⟨129, #[.pointer (some ⟨ba, 0, none⟩)], fun e => decide (e.item = p)⟩]) (B.ls 7)).headD zeroE = ev := ⟨_, rfl⟩
      obtain ⟨qv, hqv⟩ : ∃ qv, (!(List.filter (allP [⟨129, #[.pointer (some ⟨ba, 0, none⟩)], fun e => decide (e.item = p)⟩]) (B.ls 7)).isEmpty) = qv := ⟨_, rfl⟩
      rw [hev, hqv]
      have HEV := Lib.hid hev
      have HQV := Lib.hid hqv
      clear HF1 hev hqv
      refine kk hK (At.cell HF.out (b := b0) (cs := B.cells.toArray) (t := 36) (i := 7) (by simp) rfl) (fun hHeld => ?_)
      clear hK K
      refine tk 7 ?_
      refine tk 8 ?_
      refine tk 9 ?_
      refine rd [10] ?_
      refine rc (fun K hK => ?_) ?_
      ·
       go_simp
       obtain ⟨bv, V6, q1, q2, q3, HF1⟩ := HF.out.alloc (.cells zeroE.cells.toArray 33)
       have q2' : V6 = V6 := rfl
       simp only [zeroE, Ent.cells] at q2
       rw [q1, q2]
       have HF := Lib.hid HF1
       have HV := Lib.hid q3
       clear HF1 q1 q2 q2' q3
       refine kk hK (At.cell HF.out (b := b0) (cs := B.cells.toArray) (t := 36) (i := 7) (by simp) rfl) (fun hHeld => ?_)
       clear hK K
       refine rd [11] ?_
       refine rc (fun K hK => ?_) ?_
       ·
        refine step_store_at (by rfl) (.tmp 6) (.tmp 16) (by rfl) (by rfl) bv ev (by rfl) (by rfl) (IE _).out HF.out HV.out (by simp [zeroE, Ent.cells]) ?_
        intro V7 hb7 he7 hk7
        have HST := Lib.hid (And.intro hb7 he7)
        have HK7 := Lib.hid hk7
        clear hb7 he7 hk7
        refine kk hK (cells_i (HK7.out b0 B.cells.toArray 36 (by simp) (by decide)) (i := 7) rfl) (fun hHeld => ?_)
        clear hK K
        refine tk 12 ?_
        refine dn ?_
        have HB4 := Lib.hid (HK7.out b4 #[.string ⟨#[]⟩, .string ⟨#[]⟩] 29 (by simp) (by decide))
        have x1 := HST.out.2.cell (i := 15) rfl
        have x2 := HST.out.2.cell (i := 16) rfl
        have y1 := cells_i (i := 0) HB4.out rfl
        have y2 := cells_i (i := 1) HB4.out rfl
        have f1 := cells_free HB4.out 0
        have f2 := cells_free HB4.out 1
        clear hHeld
        go_wp2
        have hq : qv = (B.ls 7).any fun e => decide (e.item = p) := by rw [← HQV.out, any_first]; congr 1; funext e; simp [allP]
        have he : ev = budgetE (B.ls 7) p := by rw [← HEV.out]; unfold budgetE; congr 2; funext e; simp [allP]
        rw [← hq, ← he]
        have hR := put2 HB4.out (.string ev.rn) (.string ev.rd)
        refine bodyPost_ret (results_celltmp rfl _ _ b4 [.string ev.rn, .string ev.rd] _ rfl (range_of hR) Tryz.underlying29 rfl (by kernel_rfl)) rfl ?_
        exact ⟨rfl, below_put2 HST.out.1 Hb4.out _ _⟩
       exact AllReadyH.nil
      exact AllReadyH.nil
     refine rc (fun K hK => ?_) ?_
     ·
      go_simp
      obtain ⟨bv, V6, q1, q2, q3, HF1⟩ := HF.out.alloc (.cells zeroE.cells.toArray 33)
      have q2' : V6 = V6 := rfl
      simp only [zeroE, Ent.cells] at q2
      rw [q1, q2]
      have HF := Lib.hid HF1
      have HV := Lib.hid q3
      clear HF1 q1 q2 q2' q3
      refine kk hK (At.cell HF.out (b := b0) (cs := B.cells.toArray) (t := 36) (i := 7) (by simp) rfl) (fun hHeld => ?_)
      clear hK K
      refine rd [6] ?_
      refine rc (fun K hK => ?_) ?_
      ·
       go_simp
       (with_reducible refine (first_at HF.out [⟨129, #[.pointer (some ⟨ba, 0, none⟩)], fun e => decide (e.item = p)⟩] (B.ls 7) (B.ad 7) (some ⟨bc, 0, none⟩) _ (B.cp 7) 1 1 b1 b2 rfl (Nat.le_trans (HB.out.cap 7 (by decide)).1 (HB.out.cap 7 (by decide)).2) rfl (by decide) (by simp) (by simp) (HB.out.at_ 7 (by decide)) bc rfl 45 (by simp [CndD.val]) ?hc).mono ?_)
       case hc => intro c hc; simp only [List.mem_cons, List.not_mem_nil, or_false] at hc; obtain rfl := hc; exact HF.out.about (by simp)
       rintro e1 V5 ⟨rfl, HF1⟩
       have HF := Lib.hid HF1
       unfold firstR
       obtain ⟨ev, hev⟩ : ∃ ev, (List.filter (allP [⟨129, #[.pointer (some ⟨ba, 0, none⟩)], fun e => decide (e.item = p)⟩]) (B.ls 7)).headD zeroE = ev := ⟨_, rfl⟩
       obtain ⟨qv, hqv⟩ : ∃ qv, (!(List.filter (allP [⟨129, #[.pointer (some ⟨ba, 0, none⟩)], fun e => decide (e.item = p)⟩]) (B.ls 7)).isEmpty) = qv := ⟨_, rfl⟩
       rw [hev, hqv]
       have HEV := Lib.hid hev
       have HQV := Lib.hid hqv
       clear HF1 hev hqv
       refine kk hK (At.cell HF.out (b := b0) (cs := B.cells.toArray) (t := 36) (i := 7) (by simp) rfl) (fun hHeld => ?_)
       clear hK K
       refine tk 7 ?_
       refine tk 8 ?_
       refine tk 9 ?_
       refine rd [11] ?_
       refine rc (fun K hK => ?_) ?_
       ·
        refine step_store_at (by rfl) (.tmp 6) (.tmp 16) (by rfl) (by rfl) bv ev (by rfl) (by rfl) (IE _).out HF.out HV.out (by simp [zeroE, Ent.cells]) ?_
        intro V7 hb7 he7 hk7
        have HST := Lib.hid (And.intro hb7 he7)
        have HK7 := Lib.hid hk7
        clear hb7 he7 hk7
        refine kk hK (cells_i (HK7.out b0 B.cells.toArray 36 (by simp) (by decide)) (i := 7) rfl) (fun hHeld => ?_)
        clear hK K
        refine tk 12 ?_
        refine dn ?_
        have HB4 := Lib.hid (HK7.out b4 #[.string ⟨#[]⟩, .string ⟨#[]⟩] 29 (by simp) (by decide))
        have x1 := HST.out.2.cell (i := 15) rfl
        have x2 := HST.out.2.cell (i := 16) rfl
        have y1 := cells_i (i := 0) HB4.out rfl
        have y2 := cells_i (i := 1) HB4.out rfl
        have f1 := cells_free HB4.out 0
        have f2 := cells_free HB4.out 1
        clear hHeld
        go_wp2
        have hq : qv = (B.ls 7).any fun e => decide (e.item = p) := by rw [← HQV.out, any_first]; congr 1; funext e; simp [allP]
        have he : ev = budgetE (B.ls 7) p := by rw [← HEV.out]; unfold budgetE; congr 2; funext e; simp [allP]
        rw [← hq, ← he]
        have hR := put2 HB4.out (.string ev.rn) (.string ev.rd)
        refine bodyPost_ret (results_celltmp rfl _ _ b4 [.string ev.rn, .string ev.rd] _ rfl (range_of hR) Tryz.underlying29 rfl (by kernel_rfl)) rfl ?_
        exact ⟨rfl, below_put2 HST.out.1 Hb4.out _ _⟩
       exact AllReadyH.nil
      exact AllReadyH.nil
     exact AllReadyH.nil
    refine rc (fun K hK => ?_) ?_
    ·
     go_simp
     obtain ⟨bv, V6, q1, q2, q3, HF1⟩ := HF.out.alloc (.cells zeroE.cells.toArray 33)
     have q2' : V6 = V6 := rfl
     simp only [zeroE, Ent.cells] at q2
     rw [q1, q2]
     have HF := Lib.hid HF1
     have HV := Lib.hid q3
     clear HF1 q1 q2 q2' q3
     refine kk hK (At.cell HF.out (b := b0) (cs := B.cells.toArray) (t := 36) (i := 7) (by simp) rfl) (fun hHeld => ?_)
     clear hK K
     refine rd [5] ?_
     refine rc (fun K hK => ?_) ?_
     ·
      go_simp
      (with_reducible refine (where_at (B.ad 7) (B.ls 7).length (B.cp 7) (some ⟨bc, 0, none⟩) 1 1 HF.out).mono ?_)
      rintro e1 V4 ⟨b1, b2, rfl, HF1⟩
      have HF := Lib.hid HF1
      clear HF1
      refine kk hK (At.cell HF.out (b := b0) (cs := B.cells.toArray) (t := 36) (i := 7) (by simp) rfl) (fun hHeld => ?_)
      clear hK K
      refine rd [6] ?_
      refine rc (fun K hK => ?_) ?_
      ·
       go_simp
       (with_reducible refine (first_at HF.out [⟨129, #[.pointer (some ⟨ba, 0, none⟩)], fun e => decide (e.item = p)⟩] (B.ls 7) (B.ad 7) (some ⟨bc, 0, none⟩) _ (B.cp 7) 1 1 b1 b2 rfl (Nat.le_trans (HB.out.cap 7 (by decide)).1 (HB.out.cap 7 (by decide)).2) rfl (by decide) (by simp) (by simp) (HB.out.at_ 7 (by decide)) bc rfl 45 (by simp [CndD.val]) ?hc).mono ?_)
       case hc => intro c hc; simp only [List.mem_cons, List.not_mem_nil, or_false] at hc; obtain rfl := hc; exact HF.out.about (by simp)
       rintro e1 V5 ⟨rfl, HF1⟩
       have HF := Lib.hid HF1
       unfold firstR
       obtain ⟨ev, hev⟩ : ∃ ev, (List.filter (allP [⟨129, #[.pointer (some ⟨ba, 0, none⟩)], fun e => decide (e.item = p)⟩]) (B.ls 7)).headD zeroE = ev := ⟨_, rfl⟩
       obtain ⟨qv, hqv⟩ : ∃ qv, (!(List.filter (allP [⟨129, #[.pointer (some ⟨ba, 0, none⟩)], fun e => decide (e.item = p)⟩]) (B.ls 7)).isEmpty) = qv := ⟨_, rfl⟩
       rw [hev, hqv]
       have HEV := Lib.hid hev
       have HQV := Lib.hid hqv
       clear HF1 hev hqv
       refine kk hK (At.cell HF.out (b := b0) (cs := B.cells.toArray) (t := 36) (i := 7) (by simp) rfl) (fun hHeld => ?_)
       clear hK K
       refine tk 7 ?_
       refine tk 8 ?_
       refine tk 9 ?_
       refine rd [11] ?_
       refine rc (fun K hK => ?_) ?_
       ·
        refine step_store_at (by rfl) (.tmp 6) (.tmp 16) (by rfl) (by rfl) bv ev (by rfl) (by rfl) (IE _).out HF.out HV.out (by simp [zeroE, Ent.cells]) ?_
        intro V7 hb7 he7 hk7
        have HST := Lib.hid (And.intro hb7 he7)
        have HK7 := Lib.hid hk7
        clear hb7 he7 hk7
        refine kk hK (cells_i (HK7.out b0 B.cells.toArray 36 (by simp) (by decide)) (i := 7) rfl) (fun hHeld => ?_)
        clear hK K
        refine tk 12 ?_
        refine dn ?_
        have HB4 := Lib.hid (HK7.out b4 #[.string ⟨#[]⟩, .string ⟨#[]⟩] 29 (by simp) (by decide))
        have x1 := HST.out.2.cell (i := 15) rfl
        have x2 := HST.out.2.cell (i := 16) rfl
        have y1 := cells_i (i := 0) HB4.out rfl
        have y2 := cells_i (i := 1) HB4.out rfl
        have f1 := cells_free HB4.out 0
        have f2 := cells_free HB4.out 1
        clear hHeld
        go_wp2
        have hq : qv = (B.ls 7).any fun e => decide (e.item = p) := by rw [← HQV.out, any_first]; congr 1; funext e; simp [allP]
        have he : ev = budgetE (B.ls 7) p := by rw [← HEV.out]; unfold budgetE; congr 2; funext e; simp [allP]
        rw [← hq, ← he]
        have hR := put2 HB4.out (.string ev.rn) (.string ev.rd)
        refine bodyPost_ret (results_celltmp rfl _ _ b4 [.string ev.rn, .string ev.rd] _ rfl (range_of hR) Tryz.underlying29 rfl (by kernel_rfl)) rfl ?_
        exact ⟨rfl, below_put2 HST.out.1 Hb4.out _ _⟩
       exact AllReadyH.nil
      exact AllReadyH.nil
     exact AllReadyH.nil
    exact AllReadyH.nil
   refine rc (fun K hK => ?_) ?_
   ·
    go_simp
    obtain ⟨bv, V6, q1, q2, q3, HF1⟩ := HF.out.alloc (.cells zeroE.cells.toArray 33)
    have q2' : V6 = V6 := rfl
    simp only [zeroE, Ent.cells] at q2
    rw [q1, q2]
    have HF := Lib.hid HF1
    have HV := Lib.hid q3
    clear HF1 q1 q2 q2' q3
    refine kk hK (At.cell HF.out (b := b0) (cs := B.cells.toArray) (t := 36) (i := 7) (by simp) rfl) (fun hHeld => ?_)
    clear hK K
    refine rd [4] ?_
    refine rc (fun K hK => ?_) ?_
    ·
     go_simp
     obtain ⟨bc, V3, q1, q2, -, HF1⟩ := HF.out.alloc (.cells #[.func (.func 129) #[] #[.pointer (some ⟨ba, 0, none⟩)]] 45)
     rw [q1, q2]
     have HF := Lib.hid HF1
     clear HF1 q1 q2
     refine kk hK (At.cell HF.out (b := b0) (cs := B.cells.toArray) (t := 36) (i := 7) (by simp) rfl) (fun hHeld => ?_)
     clear hK K
     refine rd [5] ?_
     refine rc (fun K hK => ?_) ?_
     ·
      go_simp
      (with_reducible refine (where_at (B.ad 7) (B.ls 7).length (B.cp 7) (some ⟨bc, 0, none⟩) 1 1 HF.out).mono ?_)
      rintro e1 V4 ⟨b1, b2, rfl, HF1⟩
      have HF := Lib.hid HF1
      clear HF1
      refine kk hK (At.cell HF.out (b := b0) (cs := B.cells.toArray) (t := 36) (i := 7) (by simp) rfl) (fun hHeld => ?_)
      clear hK K
      refine rd [6] ?_
      refine rc (fun K hK => ?_) ?_
      ·
       go_simp
       (with_reducible refine (first_at HF.out [⟨129, #[.pointer (some ⟨ba, 0, none⟩)], fun e => decide (e.item = p)⟩] (B.ls 7) (B.ad 7) (some ⟨bc, 0, none⟩) _ (B.cp 7) 1 1 b1 b2 rfl (Nat.le_trans (HB.out.cap 7 (by decide)).1 (HB.out.cap 7 (by decide)).2) rfl (by decide) (by simp) (by simp) (HB.out.at_ 7 (by decide)) bc rfl 45 (by simp [CndD.val]) ?hc).mono ?_)
       case hc => intro c hc; simp only [List.mem_cons, List.not_mem_nil, or_false] at hc; obtain rfl := hc; exact HF.out.about (by simp)
       rintro e1 V5 ⟨rfl, HF1⟩
       have HF := Lib.hid HF1
       unfold firstR
       obtain ⟨ev, hev⟩ : ∃ ev, (List.filter (allP [⟨129, #[.pointer (some ⟨ba, 0, none⟩)], fun e => decide (e.item = p)⟩]) (B.ls 7)).headD zeroE = ev := ⟨_, rfl⟩
       obtain ⟨qv, hqv⟩ : ∃ qv, (!(List.filter (allP [⟨129, #[.pointer (some ⟨ba, 0, none⟩)], fun e => decide (e.item = p)⟩]) (B.ls 7)).isEmpty) = qv := ⟨_, rfl⟩
       rw [hev, hqv]
       have HEV := Lib.hid hev
       have HQV := Lib.hid hqv
       clear HF1 hev hqv
       refine kk hK (At.cell HF.out (b := b0) (cs := B.cells.toArray) (t := 36) (i := 7) (by simp) rfl) (fun hHeld => ?_)
       clear hK K
       refine tk 7 ?_
       refine tk 8 ?_
       refine tk 9 ?_
       refine rd [11] ?_
       refine rc (fun K hK => ?_) ?_
       ·
        refine step_store_at (by rfl) (.tmp 6) (.tmp 16) (by rfl) (by rfl) bv ev (by rfl) (by rfl) (IE _).out HF.out HV.out (by simp [zeroE, Ent.cells]) ?_
        intro V7 hb7 he7 hk7
        have HST := Lib.hid (And.intro hb7 he7)
        have HK7 := Lib.hid hk7
        clear hb7 he7 hk7
        refine kk hK (cells_i (HK7.out b0 B.cells.toArray 36 (by simp) (by decide)) (i := 7) rfl) (fun hHeld => ?_)
        clear hK K
        refine tk 12 ?_
        refine dn ?_
        have HB4 := Lib.hid (HK7.out b4 #[.string ⟨#[]⟩, .string ⟨#[]⟩] 29 (by simp) (by decide))
        have x1 := HST.out.2.cell (i := 15) rfl
        have x2 := HST.out.2.cell (i := 16) rfl
        have y1 := cells_i (i := 0) HB4.out rfl
        have y2 := cells_i (i := 1) HB4.out rfl
        have f1 := cells_free HB4.out 0
        have f2 := cells_free HB4.out 1
        clear hHeld
        go_wp2
        have hq : qv = (B.ls 7).any fun e => decide (e.item = p) := by rw [← HQV.out, any_first]; congr 1; funext e; simp [allP]
        have he : ev = budgetE (B.ls 7) p := by rw [← HEV.out]; unfold budgetE; congr 2; funext e; simp [allP]
        rw [← hq, ← he]
        have hR := put2 HB4.out (.string ev.rn) (.string ev.rd)
        refine bodyPost_ret (results_celltmp rfl _ _ b4 [.string ev.rn, .string ev.rd] _ rfl (range_of hR) Tryz.underlying29 rfl (by kernel_rfl)) rfl ?_
        exact ⟨rfl, below_put2 HST.out.1 Hb4.out _ _⟩
       exact AllReadyH.nil
      exact AllReadyH.nil
     exact AllReadyH.nil
    exact AllReadyH.nil
   exact AllReadyH.nil
  refine rc (fun K hK => ?_) ?_
  ·
   go_simp
   obtain ⟨bv, V6, q1, q2, q3, HF1⟩ := HF.out.alloc (.cells zeroE.cells.toArray 33)
   have q2' : V6 = V6 := rfl
   simp only [zeroE, Ent.cells] at q2
   rw [q1, q2]
   have HF := Lib.hid HF1
   have HV := Lib.hid q3
   clear HF1 q1 q2 q2' q3
   refine kk hK (At.cell HF.out (b := b0) (cs := B.cells.toArray) (t := 36) (i := 7) (by simp) rfl) (fun hHeld => ?_)
   clear hK K
   refine rd [3] ?_
   refine rc (fun K hK => ?_) ?_
   ·
    go_simp
    (with_reducible refine (about_at (p) HF.out).mono ?_)
    rintro e1 V1 ⟨ba, rfl, HF1⟩
    have HF := Lib.hid HF1
    clear HF1
    refine kk hK (At.cell HF.out (b := b0) (cs := B.cells.toArray) (t := 36) (i := 7) (by simp) rfl) (fun hHeld => ?_)
    clear hK K
    refine rd [4] ?_
    refine rc (fun K hK => ?_) ?_
    ·
     go_simp
     obtain ⟨bc, V3, q1, q2, -, HF1⟩ := HF.out.alloc (.cells #[.func (.func 129) #[] #[.pointer (some ⟨ba, 0, none⟩)]] 45)
     rw [q1, q2]
     have HF := Lib.hid HF1
     clear HF1 q1 q2
     refine kk hK (At.cell HF.out (b := b0) (cs := B.cells.toArray) (t := 36) (i := 7) (by simp) rfl) (fun hHeld => ?_)
     clear hK K
     refine rd [5] ?_
     refine rc (fun K hK => ?_) ?_
     ·
      go_simp
      (with_reducible refine (where_at (B.ad 7) (B.ls 7).length (B.cp 7) (some ⟨bc, 0, none⟩) 1 1 HF.out).mono ?_)
      rintro e1 V4 ⟨b1, b2, rfl, HF1⟩
      have HF := Lib.hid HF1
      clear HF1
      refine kk hK (At.cell HF.out (b := b0) (cs := B.cells.toArray) (t := 36) (i := 7) (by simp) rfl) (fun hHeld => ?_)
      clear hK K
      refine rd [6] ?_
      refine rc (fun K hK => ?_) ?_
      ·
       go_simp
       (with_reducible refine (first_at HF.out [⟨129, #[.pointer (some ⟨ba, 0, none⟩)], fun e => decide (e.item = p)⟩] (B.ls 7) (B.ad 7) (some ⟨bc, 0, none⟩) _ (B.cp 7) 1 1 b1 b2 rfl (Nat.le_trans (HB.out.cap 7 (by decide)).1 (HB.out.cap 7 (by decide)).2) rfl (by decide) (by simp) (by simp) (HB.out.at_ 7 (by decide)) bc rfl 45 (by simp [CndD.val]) ?hc).mono ?_)
       case hc => intro c hc; simp only [List.mem_cons, List.not_mem_nil, or_false] at hc; obtain rfl := hc; exact HF.out.about (by simp)
       rintro e1 V5 ⟨rfl, HF1⟩
       have HF := Lib.hid HF1
       unfold firstR
       obtain ⟨ev, hev⟩ : ∃ ev, (List.filter (allP [⟨129, #[.pointer (some ⟨ba, 0, none⟩)], fun e => decide (e.item = p)⟩]) (B.ls 7)).headD zeroE = ev := ⟨_, rfl⟩
       obtain ⟨qv, hqv⟩ : ∃ qv, (!(List.filter (allP [⟨129, #[.pointer (some ⟨ba, 0, none⟩)], fun e => decide (e.item = p)⟩]) (B.ls 7)).isEmpty) = qv := ⟨_, rfl⟩
       rw [hev, hqv]
       have HEV := Lib.hid hev
       have HQV := Lib.hid hqv
       clear HF1 hev hqv
       refine kk hK (At.cell HF.out (b := b0) (cs := B.cells.toArray) (t := 36) (i := 7) (by simp) rfl) (fun hHeld => ?_)
       clear hK K
       refine tk 7 ?_
       refine tk 8 ?_
       refine tk 9 ?_
       refine rd [11] ?_
       refine rc (fun K hK => ?_) ?_
       ·
        refine step_store_at (by rfl) (.tmp 6) (.tmp 16) (by rfl) (by rfl) bv ev (by rfl) (by rfl) (IE _).out HF.out HV.out (by simp [zeroE, Ent.cells]) ?_
        intro V7 hb7 he7 hk7
        have HST := Lib.hid (And.intro hb7 he7)
        have HK7 := Lib.hid hk7
        clear hb7 he7 hk7
        refine kk hK (cells_i (HK7.out b0 B.cells.toArray 36 (by simp) (by decide)) (i := 7) rfl) (fun hHeld => ?_)
        clear hK K
        refine tk 12 ?_
        refine dn ?_
        have HB4 := Lib.hid (HK7.out b4 #[.string ⟨#[]⟩, .string ⟨#[]⟩] 29 (by simp) (by decide))
        have x1 := HST.out.2.cell (i := 15) rfl
        have x2 := HST.out.2.cell (i := 16) rfl
        have y1 := cells_i (i := 0) HB4.out rfl
        have y2 := cells_i (i := 1) HB4.out rfl
        have f1 := cells_free HB4.out 0
        have f2 := cells_free HB4.out 1
        clear hHeld
        go_wp2
        have hq : qv = (B.ls 7).any fun e => decide (e.item = p) := by rw [← HQV.out, any_first]; congr 1; funext e; simp [allP]
        have he : ev = budgetE (B.ls 7) p := by rw [← HEV.out]; unfold budgetE; congr 2; funext e; simp [allP]
        rw [← hq, ← he]
        have hR := put2 HB4.out (.string ev.rn) (.string ev.rd)
        refine bodyPost_ret (results_celltmp rfl _ _ b4 [.string ev.rn, .string ev.rd] _ rfl (range_of hR) Tryz.underlying29 rfl (by kernel_rfl)) rfl ?_
        exact ⟨rfl, below_put2 HST.out.1 Hb4.out _ _⟩
       exact AllReadyH.nil
      exact AllReadyH.nil
     exact AllReadyH.nil
    exact AllReadyH.nil
   exact AllReadyH.nil
  exact AllReadyH.nil
set_option maxRecDepth 100000 in
set_option maxHeartbeats 4000000 in
theorem skilled_walk (B : Bas) (n m t : Int) (w : World) (hB : BasAt w (Old w) B) : Calls Tryz.prog 37 #[B.val, .int .i64 n, .int .i64 m, .int .i64 t] w (ValP w ((B.ls 6).any fun e => (decide (e.frm ≤ t) && decide (t ≤ e.til)) && (decide (e.person = n) && decide (e.skill = m)))) := by
  have HB := Lib.hid hB
  have IE := fun e : Ent => Lib.hid (ientry (e := e))
  clear hB
  go_enter Tryz.func37, Tryz.ntmps37
  go_wp2
  have HF0 := Lib.hid (At.start w)
  obtain ⟨b0, w0, q1, q2, q3, hf, hs0⟩ := HF0.out.alloc2 (.cells B.cells.toArray 36)
  rw [q1, q2]
  have HF0 := Lib.hid hf
  have Hb0 := Lib.hid q3
  clear hf q1 q2 q3
  obtain ⟨b5, w1, q1, q2, q3, hf, hs1⟩ := HF0.out.alloc2 (.cells #[.int .i64 n] 3)
  rw [hs0] at q1
  rw [q1, q2]
  have HF0 := Lib.hid hf
  have Hb5 := Lib.hid q3
  clear hf q1 q2 q3 hs0
  obtain ⟨b6, w2, q1, q2, q3, hf, hs2⟩ := HF0.out.alloc2 (.cells #[.int .i64 m] 3)
  rw [hs1] at q1
  rw [q1, q2]
  have HF0 := Lib.hid hf
  have Hb6 := Lib.hid q3
  clear hf q1 q2 q3 hs1
  clear hs2
  have HF := Lib.hid HF0.out.drew
  clear HF0
  refine wp_region_noPanic ?_
  refine wp_region_held_drew (S := fun U => U.cell? ⟨b0, 6, none⟩ = some (.slice (B.ad 6) (B.ls 6).length (B.cp 6))) (by kernel_rfl) (At.cell HF.out (b := b0) (cs := B.cells.toArray) (t := 36) (i := 6) (by simp) rfl) (fun hHeld => ?_)
  obtain ⟨U0, hU0⟩ : ∃ U0, w2.drew = U0 := ⟨_, rfl⟩
  rw [hU0] at HF hHeld ⊢
  clear hU0
  refine tk 0 ?_
  refine tk 1 ?_
  refine tk 2 ?_
  refine tk 4 ?_
  refine rd [3, 11] ?_
  refine rc (fun K hK => ?_) ?_
  ·
   go_simp
   (with_reducible refine (holds_at (t) HF.out).mono ?_)
   rintro e1 V2 ⟨bh, rfl, HF1⟩
   have HF := Lib.hid HF1
   clear HF1
   refine kk hK (At.cell HF.out (b := b0) (cs := B.cells.toArray) (t := 36) (i := 6) (by simp) rfl) (fun hHeld => ?_)
   clear hK K
   refine rd [5, 11] ?_
   refine rc (fun K hK => ?_) ?_
   ·
    go_simp
    obtain ⟨bc, V3, q1, q2, -, HF1⟩ := HF.out.alloc (.cells #[.func (.func 130) #[] #[.pointer (some ⟨bh, 0, none⟩)], .func (.func 85) #[] #[.pointer (some ⟨b5, 0, none⟩), .pointer (some ⟨b6, 0, none⟩)]] 45)
    rw [q1, q2]
    have HF := Lib.hid HF1
    clear HF1 q1 q2
    refine kk hK (At.cell HF.out (b := b0) (cs := B.cells.toArray) (t := 36) (i := 6) (by simp) rfl) (fun hHeld => ?_)
    clear hK K
    refine rd [6, 11] ?_
    refine rc (fun K hK => ?_) ?_
    ·
     go_simp
     (with_reducible refine (where_at (B.ad 6) (B.ls 6).length (B.cp 6) (some ⟨bc, 0, none⟩) 2 2 HF.out).mono ?_)
     rintro e1 V4 ⟨b1, b2, rfl, HF1⟩
     have HF := Lib.hid HF1
     clear HF1
     refine kk hK (At.cell HF.out (b := b0) (cs := B.cells.toArray) (t := 36) (i := 6) (by simp) rfl) (fun hHeld => ?_)
     clear hK K
     refine rd [7, 11] ?_
     refine rc (fun K hK => ?_) ?_
     ·
      go_simp
      (with_reducible refine (first_at HF.out [⟨130, #[.pointer (some ⟨bh, 0, none⟩)], fun e => decide (e.frm ≤ t) && decide (t ≤ e.til)⟩, ⟨85, #[.pointer (some ⟨b5, 0, none⟩), .pointer (some ⟨b6, 0, none⟩)], fun e => decide (e.person = n) && decide (e.skill = m)⟩] (B.ls 6) (B.ad 6) (some ⟨bc, 0, none⟩) _ (B.cp 6) 2 2 b1 b2 rfl (Nat.le_trans (HB.out.cap 6 (by decide)).1 (HB.out.cap 6 (by decide)).2) rfl (by decide) (by simp) (by simp) (HB.out.at_ 6 (by decide)) bc rfl 45 (by simp [CndD.val]) ?hc).mono ?_)
      case hc => intro c hc; simp only [List.mem_cons, List.not_mem_nil, or_false] at hc; rcases hc with rfl | rfl; (exact HF.out.holds (by simp)); (exact HF.out.skilled (by simp) (by simp))
      rintro e1 V5 ⟨rfl, HF1⟩
      have HF := Lib.hid HF1
      unfold firstR
      obtain ⟨ev, hev⟩ : ∃ ev, (List.filter (allP [⟨130, #[.pointer (some ⟨bh, 0, none⟩)], fun e => decide (e.frm ≤ t) && decide (t ≤ e.til)⟩, ⟨85, #[.pointer (some ⟨b5, 0, none⟩), .pointer (some ⟨b6, 0, none⟩)], fun e => decide (e.person = n) && decide (e.skill = m)⟩]) (B.ls 6)).headD zeroE = ev := ⟨_, rfl⟩
      obtain ⟨qv, hqv⟩ : ∃ qv, (!(List.filter (allP [⟨130, #[.pointer (some ⟨bh, 0, none⟩)], fun e => decide (e.frm ≤ t) && decide (t ≤ e.til)⟩, ⟨85, #[.pointer (some ⟨b5, 0, none⟩), .pointer (some ⟨b6, 0, none⟩)], fun e => decide (e.person = n) && decide (e.skill = m)⟩]) (B.ls 6)).isEmpty) = qv := ⟨_, rfl⟩
      rw [hev, hqv]
      have HEV := Lib.hid hev
      have HQV := Lib.hid hqv
      clear HF1 hev hqv
      refine kk hK (At.cell HF.out (b := b0) (cs := B.cells.toArray) (t := 36) (i := 6) (by simp) rfl) (fun hHeld => ?_)
      clear hK K
      refine tk 8 ?_
      refine tk 9 ?_
      refine tk 10 ?_
      refine rd [11] ?_
      refine rc (fun K hK => ?_) ?_
      ·
       go_simp
       obtain ⟨bv, V6, q1, q2, q3, HF1⟩ := HF.out.alloc (.cells zeroE.cells.toArray 33)
       have q2' : V6 = V6 := rfl
       simp only [zeroE, Ent.cells] at q2
       rw [q1, q2]
       have HF := Lib.hid HF1
       have HV := Lib.hid q3
       clear HF1 q1 q2 q2' q3
       refine kk hK (At.cell HF.out (b := b0) (cs := B.cells.toArray) (t := 36) (i := 6) (by simp) rfl) (fun hHeld => ?_)
       clear hK K
       refine rd [12] ?_
       refine rc (fun K hK => ?_) ?_
       ·
        refine step_store_at (by rfl) (.tmp 9) (.tmp 20) (by rfl) (by rfl) bv ev (by rfl) (by rfl) (IE _).out HF.out HV.out (by simp [zeroE, Ent.cells]) ?_
        intro V7 hb7 he7 hk7
        have HST := Lib.hid (And.intro hb7 he7)
        have HK7 := Lib.hid hk7
        clear hb7 he7 hk7
        refine kk hK (cells_i (HK7.out b0 B.cells.toArray 36 (by simp) (by decide)) (i := 6) rfl) (fun hHeld => ?_)
        clear hK K
        refine tk 13 ?_
        refine dn ?_
        clear hHeld
        go_wp2
        go_ret
        have hq : qv = (B.ls 6).any fun e => (decide (e.frm ≤ t) && decide (t ≤ e.til)) && (decide (e.person = n) && decide (e.skill = m)) := by rw [← HQV.out, any_first]; congr 1; funext e; simp [allP]
        rw [← hq]
        exact ⟨rfl, HST.out.1⟩
       exact AllReadyH.nil
      exact AllReadyH.nil
     refine rc (fun K hK => ?_) ?_
     ·
      go_simp
      obtain ⟨bv, V6, q1, q2, q3, HF1⟩ := HF.out.alloc (.cells zeroE.cells.toArray 33)
      have q2' : V6 = V6 := rfl
      simp only [zeroE, Ent.cells] at q2
      rw [q1, q2]
      have HF := Lib.hid HF1
      have HV := Lib.hid q3
      clear HF1 q1 q2 q2' q3
      refine kk hK (At.cell HF.out (b := b0) (cs := B.cells.toArray) (t := 36) (i := 6) (by simp) rfl) (fun hHeld => ?_)
      clear hK K
      refine rd [7] ?_
      refine rc (fun K hK => ?_) ?_
      ·
       go_simp
       (with_reducible refine (first_at HF.out [⟨130, #[.pointer (some ⟨bh, 0, none⟩)], fun e => decide (e.frm ≤ t) && decide (t ≤ e.til)⟩, ⟨85, #[.pointer (some ⟨b5, 0, none⟩), .pointer (some ⟨b6, 0, none⟩)], fun e => decide (e.person = n) && decide (e.skill = m)⟩] (B.ls 6) (B.ad 6) (some ⟨bc, 0, none⟩) _ (B.cp 6) 2 2 b1 b2 rfl (Nat.le_trans (HB.out.cap 6 (by decide)).1 (HB.out.cap 6 (by decide)).2) rfl (by decide) (by simp) (by simp) (HB.out.at_ 6 (by decide)) bc rfl 45 (by simp [CndD.val]) ?hc).mono ?_)
       case hc => intro c hc; simp only [List.mem_cons, List.not_mem_nil, or_false] at hc; rcases hc with rfl | rfl; (exact HF.out.holds (by simp)); (exact HF.out.skilled (by simp) (by simp))
       rintro e1 V5 ⟨rfl, HF1⟩
       have HF := Lib.hid HF1
       unfold firstR
       obtain ⟨ev, hev⟩ : ∃ ev, (List.filter (allP [⟨130, #[.pointer (some ⟨bh, 0, none⟩)], fun e => decide (e.frm ≤ t) && decide (t ≤ e.til)⟩, ⟨85, #[.pointer (some ⟨b5, 0, none⟩), .pointer (some ⟨b6, 0, none⟩)], fun e => decide (e.person = n) && decide (e.skill = m)⟩]) (B.ls 6)).headD zeroE = ev := ⟨_, rfl⟩
       obtain ⟨qv, hqv⟩ : ∃ qv, (!(List.filter (allP [⟨130, #[.pointer (some ⟨bh, 0, none⟩)], fun e => decide (e.frm ≤ t) && decide (t ≤ e.til)⟩, ⟨85, #[.pointer (some ⟨b5, 0, none⟩), .pointer (some ⟨b6, 0, none⟩)], fun e => decide (e.person = n) && decide (e.skill = m)⟩]) (B.ls 6)).isEmpty) = qv := ⟨_, rfl⟩
       rw [hev, hqv]
       have HEV := Lib.hid hev
       have HQV := Lib.hid hqv
       clear HF1 hev hqv
       refine kk hK (At.cell HF.out (b := b0) (cs := B.cells.toArray) (t := 36) (i := 6) (by simp) rfl) (fun hHeld => ?_)
       clear hK K
       refine tk 8 ?_
       refine tk 9 ?_
       refine tk 10 ?_
       refine rd [12] ?_
       refine rc (fun K hK => ?_) ?_
       ·
        refine step_store_at (by rfl) (.tmp 9) (.tmp 20) (by rfl) (by rfl) bv ev (by rfl) (by rfl) (IE _).out HF.out HV.out (by simp [zeroE, Ent.cells]) ?_
        intro V7 hb7 he7 hk7
        have HST := Lib.hid (And.intro hb7 he7)
        have HK7 := Lib.hid hk7
        clear hb7 he7 hk7
        refine kk hK (cells_i (HK7.out b0 B.cells.toArray 36 (by simp) (by decide)) (i := 6) rfl) (fun hHeld => ?_)
        clear hK K
        refine tk 13 ?_
        refine dn ?_
        clear hHeld
        go_wp2
        go_ret
        have hq : qv = (B.ls 6).any fun e => (decide (e.frm ≤ t) && decide (t ≤ e.til)) && (decide (e.person = n) && decide (e.skill = m)) := by rw [← HQV.out, any_first]; congr 1; funext e; simp [allP]
        rw [← hq]
        exact ⟨rfl, HST.out.1⟩
       exact AllReadyH.nil
      exact AllReadyH.nil
     exact AllReadyH.nil
    refine rc (fun K hK => ?_) ?_
    ·
     go_simp
     obtain ⟨bv, V6, q1, q2, q3, HF1⟩ := HF.out.alloc (.cells zeroE.cells.toArray 33)
     have q2' : V6 = V6 := rfl
     simp only [zeroE, Ent.cells] at q2
     rw [q1, q2]
     have HF := Lib.hid HF1
     have HV := Lib.hid q3
     clear HF1 q1 q2 q2' q3
     refine kk hK (At.cell HF.out (b := b0) (cs := B.cells.toArray) (t := 36) (i := 6) (by simp) rfl) (fun hHeld => ?_)
     clear hK K
     refine rd [6] ?_
     refine rc (fun K hK => ?_) ?_
     ·
      go_simp
      (with_reducible refine (where_at (B.ad 6) (B.ls 6).length (B.cp 6) (some ⟨bc, 0, none⟩) 2 2 HF.out).mono ?_)
      rintro e1 V4 ⟨b1, b2, rfl, HF1⟩
      have HF := Lib.hid HF1
      clear HF1
      refine kk hK (At.cell HF.out (b := b0) (cs := B.cells.toArray) (t := 36) (i := 6) (by simp) rfl) (fun hHeld => ?_)
      clear hK K
      refine rd [7] ?_
      refine rc (fun K hK => ?_) ?_
      ·
       go_simp
       (with_reducible refine (first_at HF.out [⟨130, #[.pointer (some ⟨bh, 0, none⟩)], fun e => decide (e.frm ≤ t) && decide (t ≤ e.til)⟩, ⟨85, #[.pointer (some ⟨b5, 0, none⟩), .pointer (some ⟨b6, 0, none⟩)], fun e => decide (e.person = n) && decide (e.skill = m)⟩] (B.ls 6) (B.ad 6) (some ⟨bc, 0, none⟩) _ (B.cp 6) 2 2 b1 b2 rfl (Nat.le_trans (HB.out.cap 6 (by decide)).1 (HB.out.cap 6 (by decide)).2) rfl (by decide) (by simp) (by simp) (HB.out.at_ 6 (by decide)) bc rfl 45 (by simp [CndD.val]) ?hc).mono ?_)
       case hc => intro c hc; simp only [List.mem_cons, List.not_mem_nil, or_false] at hc; rcases hc with rfl | rfl; (exact HF.out.holds (by simp)); (exact HF.out.skilled (by simp) (by simp))
       rintro e1 V5 ⟨rfl, HF1⟩
       have HF := Lib.hid HF1
       unfold firstR
       obtain ⟨ev, hev⟩ : ∃ ev, (List.filter (allP [⟨130, #[.pointer (some ⟨bh, 0, none⟩)], fun e => decide (e.frm ≤ t) && decide (t ≤ e.til)⟩, ⟨85, #[.pointer (some ⟨b5, 0, none⟩), .pointer (some ⟨b6, 0, none⟩)], fun e => decide (e.person = n) && decide (e.skill = m)⟩]) (B.ls 6)).headD zeroE = ev := ⟨_, rfl⟩
       obtain ⟨qv, hqv⟩ : ∃ qv, (!(List.filter (allP [⟨130, #[.pointer (some ⟨bh, 0, none⟩)], fun e => decide (e.frm ≤ t) && decide (t ≤ e.til)⟩, ⟨85, #[.pointer (some ⟨b5, 0, none⟩), .pointer (some ⟨b6, 0, none⟩)], fun e => decide (e.person = n) && decide (e.skill = m)⟩]) (B.ls 6)).isEmpty) = qv := ⟨_, rfl⟩
       rw [hev, hqv]
       have HEV := Lib.hid hev
       have HQV := Lib.hid hqv
       clear HF1 hev hqv
       refine kk hK (At.cell HF.out (b := b0) (cs := B.cells.toArray) (t := 36) (i := 6) (by simp) rfl) (fun hHeld => ?_)
       clear hK K
       refine tk 8 ?_
       refine tk 9 ?_
       refine tk 10 ?_
       refine rd [12] ?_
       refine rc (fun K hK => ?_) ?_
       ·
        refine step_store_at (by rfl) (.tmp 9) (.tmp 20) (by rfl) (by rfl) bv ev (by rfl) (by rfl) (IE _).out HF.out HV.out (by simp [zeroE, Ent.cells]) ?_
        intro V7 hb7 he7 hk7
        have HST := Lib.hid (And.intro hb7 he7)
        have HK7 := Lib.hid hk7
        clear hb7 he7 hk7
        refine kk hK (cells_i (HK7.out b0 B.cells.toArray 36 (by simp) (by decide)) (i := 6) rfl) (fun hHeld => ?_)
        clear hK K
        refine tk 13 ?_
        refine dn ?_
        clear hHeld
        go_wp2
        go_ret
        have hq : qv = (B.ls 6).any fun e => (decide (e.frm ≤ t) && decide (t ≤ e.til)) && (decide (e.person = n) && decide (e.skill = m)) := by rw [← HQV.out, any_first]; congr 1; funext e; simp [allP]
        rw [← hq]
        exact ⟨rfl, HST.out.1⟩
       exact AllReadyH.nil
      exact AllReadyH.nil
     exact AllReadyH.nil
    exact AllReadyH.nil
   refine rc (fun K hK => ?_) ?_
   ·
    go_simp
    obtain ⟨bv, V6, q1, q2, q3, HF1⟩ := HF.out.alloc (.cells zeroE.cells.toArray 33)
    have q2' : V6 = V6 := rfl
    simp only [zeroE, Ent.cells] at q2
    rw [q1, q2]
    have HF := Lib.hid HF1
    have HV := Lib.hid q3
    clear HF1 q1 q2 q2' q3
    refine kk hK (At.cell HF.out (b := b0) (cs := B.cells.toArray) (t := 36) (i := 6) (by simp) rfl) (fun hHeld => ?_)
    clear hK K
    refine rd [5] ?_
    refine rc (fun K hK => ?_) ?_
    ·
     go_simp
     obtain ⟨bc, V3, q1, q2, -, HF1⟩ := HF.out.alloc (.cells #[.func (.func 130) #[] #[.pointer (some ⟨bh, 0, none⟩)], .func (.func 85) #[] #[.pointer (some ⟨b5, 0, none⟩), .pointer (some ⟨b6, 0, none⟩)]] 45)
     rw [q1, q2]
     have HF := Lib.hid HF1
     clear HF1 q1 q2
     refine kk hK (At.cell HF.out (b := b0) (cs := B.cells.toArray) (t := 36) (i := 6) (by simp) rfl) (fun hHeld => ?_)
     clear hK K
     refine rd [6] ?_
     refine rc (fun K hK => ?_) ?_
     ·
      go_simp
      (with_reducible refine (where_at (B.ad 6) (B.ls 6).length (B.cp 6) (some ⟨bc, 0, none⟩) 2 2 HF.out).mono ?_)
      rintro e1 V4 ⟨b1, b2, rfl, HF1⟩
      have HF := Lib.hid HF1
      clear HF1
      refine kk hK (At.cell HF.out (b := b0) (cs := B.cells.toArray) (t := 36) (i := 6) (by simp) rfl) (fun hHeld => ?_)
      clear hK K
      refine rd [7] ?_
      refine rc (fun K hK => ?_) ?_
      ·
       go_simp
       (with_reducible refine (first_at HF.out [⟨130, #[.pointer (some ⟨bh, 0, none⟩)], fun e => decide (e.frm ≤ t) && decide (t ≤ e.til)⟩, ⟨85, #[.pointer (some ⟨b5, 0, none⟩), .pointer (some ⟨b6, 0, none⟩)], fun e => decide (e.person = n) && decide (e.skill = m)⟩] (B.ls 6) (B.ad 6) (some ⟨bc, 0, none⟩) _ (B.cp 6) 2 2 b1 b2 rfl (Nat.le_trans (HB.out.cap 6 (by decide)).1 (HB.out.cap 6 (by decide)).2) rfl (by decide) (by simp) (by simp) (HB.out.at_ 6 (by decide)) bc rfl 45 (by simp [CndD.val]) ?hc).mono ?_)
       case hc => intro c hc; simp only [List.mem_cons, List.not_mem_nil, or_false] at hc; rcases hc with rfl | rfl; (exact HF.out.holds (by simp)); (exact HF.out.skilled (by simp) (by simp))
       rintro e1 V5 ⟨rfl, HF1⟩
       have HF := Lib.hid HF1
       unfold firstR
       obtain ⟨ev, hev⟩ : ∃ ev, (List.filter (allP [⟨130, #[.pointer (some ⟨bh, 0, none⟩)], fun e => decide (e.frm ≤ t) && decide (t ≤ e.til)⟩, ⟨85, #[.pointer (some ⟨b5, 0, none⟩), .pointer (some ⟨b6, 0, none⟩)], fun e => decide (e.person = n) && decide (e.skill = m)⟩]) (B.ls 6)).headD zeroE = ev := ⟨_, rfl⟩
       obtain ⟨qv, hqv⟩ : ∃ qv, (!(List.filter (allP [⟨130, #[.pointer (some ⟨bh, 0, none⟩)], fun e => decide (e.frm ≤ t) && decide (t ≤ e.til)⟩, ⟨85, #[.pointer (some ⟨b5, 0, none⟩), .pointer (some ⟨b6, 0, none⟩)], fun e => decide (e.person = n) && decide (e.skill = m)⟩]) (B.ls 6)).isEmpty) = qv := ⟨_, rfl⟩
       rw [hev, hqv]
       have HEV := Lib.hid hev
       have HQV := Lib.hid hqv
       clear HF1 hev hqv
       refine kk hK (At.cell HF.out (b := b0) (cs := B.cells.toArray) (t := 36) (i := 6) (by simp) rfl) (fun hHeld => ?_)
       clear hK K
       refine tk 8 ?_
       refine tk 9 ?_
       refine tk 10 ?_
       refine rd [12] ?_
       refine rc (fun K hK => ?_) ?_
       ·
        refine step_store_at (by rfl) (.tmp 9) (.tmp 20) (by rfl) (by rfl) bv ev (by rfl) (by rfl) (IE _).out HF.out HV.out (by simp [zeroE, Ent.cells]) ?_
        intro V7 hb7 he7 hk7
        have HST := Lib.hid (And.intro hb7 he7)
        have HK7 := Lib.hid hk7
        clear hb7 he7 hk7
        refine kk hK (cells_i (HK7.out b0 B.cells.toArray 36 (by simp) (by decide)) (i := 6) rfl) (fun hHeld => ?_)
        clear hK K
        refine tk 13 ?_
        refine dn ?_
        clear hHeld
        go_wp2
        go_ret
        have hq : qv = (B.ls 6).any fun e => (decide (e.frm ≤ t) && decide (t ≤ e.til)) && (decide (e.person = n) && decide (e.skill = m)) := by rw [← HQV.out, any_first]; congr 1; funext e; simp [allP]
        rw [← hq]
        exact ⟨rfl, HST.out.1⟩
       exact AllReadyH.nil
      exact AllReadyH.nil
     exact AllReadyH.nil
    exact AllReadyH.nil
   exact AllReadyH.nil
  refine rc (fun K hK => ?_) ?_
  ·
   go_simp
   obtain ⟨bv, V6, q1, q2, q3, HF1⟩ := HF.out.alloc (.cells zeroE.cells.toArray 33)
   have q2' : V6 = V6 := rfl
   simp only [zeroE, Ent.cells] at q2
   rw [q1, q2]
   have HF := Lib.hid HF1
   have HV := Lib.hid q3
   clear HF1 q1 q2 q2' q3
   refine kk hK (At.cell HF.out (b := b0) (cs := B.cells.toArray) (t := 36) (i := 6) (by simp) rfl) (fun hHeld => ?_)
   clear hK K
   refine rd [3] ?_
   refine rc (fun K hK => ?_) ?_
   ·
    go_simp
    (with_reducible refine (holds_at (t) HF.out).mono ?_)
    rintro e1 V2 ⟨bh, rfl, HF1⟩
    have HF := Lib.hid HF1
    clear HF1
    refine kk hK (At.cell HF.out (b := b0) (cs := B.cells.toArray) (t := 36) (i := 6) (by simp) rfl) (fun hHeld => ?_)
    clear hK K
    refine rd [5] ?_
    refine rc (fun K hK => ?_) ?_
    ·
     go_simp
     obtain ⟨bc, V3, q1, q2, -, HF1⟩ := HF.out.alloc (.cells #[.func (.func 130) #[] #[.pointer (some ⟨bh, 0, none⟩)], .func (.func 85) #[] #[.pointer (some ⟨b5, 0, none⟩), .pointer (some ⟨b6, 0, none⟩)]] 45)
     rw [q1, q2]
     have HF := Lib.hid HF1
     clear HF1 q1 q2
     refine kk hK (At.cell HF.out (b := b0) (cs := B.cells.toArray) (t := 36) (i := 6) (by simp) rfl) (fun hHeld => ?_)
     clear hK K
     refine rd [6] ?_
     refine rc (fun K hK => ?_) ?_
     ·
      go_simp
      (with_reducible refine (where_at (B.ad 6) (B.ls 6).length (B.cp 6) (some ⟨bc, 0, none⟩) 2 2 HF.out).mono ?_)
      rintro e1 V4 ⟨b1, b2, rfl, HF1⟩
      have HF := Lib.hid HF1
      clear HF1
      refine kk hK (At.cell HF.out (b := b0) (cs := B.cells.toArray) (t := 36) (i := 6) (by simp) rfl) (fun hHeld => ?_)
      clear hK K
      refine rd [7] ?_
      refine rc (fun K hK => ?_) ?_
      ·
       go_simp
       (with_reducible refine (first_at HF.out [⟨130, #[.pointer (some ⟨bh, 0, none⟩)], fun e => decide (e.frm ≤ t) && decide (t ≤ e.til)⟩, ⟨85, #[.pointer (some ⟨b5, 0, none⟩), .pointer (some ⟨b6, 0, none⟩)], fun e => decide (e.person = n) && decide (e.skill = m)⟩] (B.ls 6) (B.ad 6) (some ⟨bc, 0, none⟩) _ (B.cp 6) 2 2 b1 b2 rfl (Nat.le_trans (HB.out.cap 6 (by decide)).1 (HB.out.cap 6 (by decide)).2) rfl (by decide) (by simp) (by simp) (HB.out.at_ 6 (by decide)) bc rfl 45 (by simp [CndD.val]) ?hc).mono ?_)
       case hc => intro c hc; simp only [List.mem_cons, List.not_mem_nil, or_false] at hc; rcases hc with rfl | rfl; (exact HF.out.holds (by simp)); (exact HF.out.skilled (by simp) (by simp))
       rintro e1 V5 ⟨rfl, HF1⟩
       have HF := Lib.hid HF1
       unfold firstR
       obtain ⟨ev, hev⟩ : ∃ ev, (List.filter (allP [⟨130, #[.pointer (some ⟨bh, 0, none⟩)], fun e => decide (e.frm ≤ t) && decide (t ≤ e.til)⟩, ⟨85, #[.pointer (some ⟨b5, 0, none⟩), .pointer (some ⟨b6, 0, none⟩)], fun e => decide (e.person = n) && decide (e.skill = m)⟩]) (B.ls 6)).headD zeroE = ev := ⟨_, rfl⟩
       obtain ⟨qv, hqv⟩ : ∃ qv, (!(List.filter (allP [⟨130, #[.pointer (some ⟨bh, 0, none⟩)], fun e => decide (e.frm ≤ t) && decide (t ≤ e.til)⟩, ⟨85, #[.pointer (some ⟨b5, 0, none⟩), .pointer (some ⟨b6, 0, none⟩)], fun e => decide (e.person = n) && decide (e.skill = m)⟩]) (B.ls 6)).isEmpty) = qv := ⟨_, rfl⟩
       rw [hev, hqv]
       have HEV := Lib.hid hev
       have HQV := Lib.hid hqv
       clear HF1 hev hqv
       refine kk hK (At.cell HF.out (b := b0) (cs := B.cells.toArray) (t := 36) (i := 6) (by simp) rfl) (fun hHeld => ?_)
       clear hK K
       refine tk 8 ?_
       refine tk 9 ?_
       refine tk 10 ?_
       refine rd [12] ?_
       refine rc (fun K hK => ?_) ?_
       ·
        refine step_store_at (by rfl) (.tmp 9) (.tmp 20) (by rfl) (by rfl) bv ev (by rfl) (by rfl) (IE _).out HF.out HV.out (by simp [zeroE, Ent.cells]) ?_
        intro V7 hb7 he7 hk7
        have HST := Lib.hid (And.intro hb7 he7)
        have HK7 := Lib.hid hk7
        clear hb7 he7 hk7
        refine kk hK (cells_i (HK7.out b0 B.cells.toArray 36 (by simp) (by decide)) (i := 6) rfl) (fun hHeld => ?_)
        clear hK K
        refine tk 13 ?_
        refine dn ?_
        clear hHeld
        go_wp2
        go_ret
        have hq : qv = (B.ls 6).any fun e => (decide (e.frm ≤ t) && decide (t ≤ e.til)) && (decide (e.person = n) && decide (e.skill = m)) := by rw [← HQV.out, any_first]; congr 1; funext e; simp [allP]
        rw [← hq]
        exact ⟨rfl, HST.out.1⟩
       exact AllReadyH.nil
      exact AllReadyH.nil
     exact AllReadyH.nil
    exact AllReadyH.nil
   exact AllReadyH.nil
  exact AllReadyH.nil
end Go.Proofs.YteeifhlhpiimoaaGreatDoor
