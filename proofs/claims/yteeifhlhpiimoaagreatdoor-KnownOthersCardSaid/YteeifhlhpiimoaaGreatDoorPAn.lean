/-
  Contract of known.History, where fewer than 20 points are about the item. Conditions: the lists' bounds. Contracts of the law's small functions: pick, Root, n. Conditions: each contract's own. Contracts of the law's example and key. Conditions: each contract's own. Contracts of the law's key. Conditions: the base's. What is known of the law's example, plainly. Contracts of yardstickref19's SameInts and SameSuspicions. Conditions: the lists' bounds. What the law's sane asks, call by call. Conditions: the bases are the example's.
-/
import Derived.Test.YteeifhlhpiimoaaGreatDoorPAa
import Derived.Test.YteeifhlhpiimoaaGreatDoorPAm
import Derived.Laws.Tables
import Derived.Deep.CutRange
import Derived.Test.YteeifhlhpiimoaaGreatDoorPAl
import Derived.Great.FillDense
import Derived.Test.YteeifhlhpiimoaaGreatDoorPAk
import Derived.Test.YteeifhlhpiimoaaGreatDoorPAj
section
namespace Go.Proofs.YteeifhlhpiimoaaGreatDoor
open Go Go.RowKit Go.Shelf
attribute [local go_sem] Oper.semAt_some
theorem wpList_build {P : Program} {ops : Array Oper} {rest : List Oper} {o : Oper} {a : Act} {w : World} {Q : Exit → Act → World → Prop} (hgd : o.guard = none) (t : TypeId) (parts : Array (Nat × Operand)) (ho : o.op = .build t parts) (cells : Array Value)
 (hb : P.built t (parts.map fun (i, x) => (i, a.eval x)).toList = some cells) (h : wpList P ops Q rest (a.put o.dst (.agg cells)) w) : wpList P ops Q (o :: rest) a w :=
 wpList_plain hgd fun _ hK => by
  have := hK _ _ h
  refine wp_build t parts ho (by rw [hb]; rfl) ?_
  rw [hb]; exact this
structure Pt where
 tm : Int
 ln : ByteArray
 ld : ByteArray
 hn : ByteArray
 hd : ByteArray
def ptC (p : Pt) : List Value := [.int .i64 p.tm, .string p.ln, .string p.ld, .string p.hn, .string p.hd]
def ptOf (e : Ent) : Pt := ⟨e.frm, e.ln, e.ld, e.hn, e.hd⟩
theorem elemPt : Elem Tryz.prog 56 86 5 72 := Elem.mk' (z := .agg #[.int .i64 0, .string ⟨#[]⟩, .string ⟨#[]⟩, .string ⟨#[]⟩, .string ⟨#[]⟩]) Tryz.underlying56 (by kernel_rfl) rfl (by decide)
def aboutL (l : List Ent) (p : Int) : List Ent := l.filter fun e => decide (e.item = p)
theorem aboutL_eq (l : List Ent) (p : Int) (b : Nat) : l.filter (allP [⟨129, #[.pointer (some ⟨b, 0, none⟩)], fun e => decide (e.item = p)⟩]) = aboutL l p := by
 unfold aboutL; congr 1; funext e; simp [allP]
abbrev nilHist : Array Value := #[.string ⟨#[]⟩, .string ⟨#[]⟩, .slice none 0 0]
theorem one_hist (a b : ByteArray) (v : Value) (hv : v.oneCell' = true) : (#[Value.string a, .string b, v] : Array Value).all (·.oneCell') = true := by
 simp [Value.oneCell'] at hv ⊢
 exact hv
theorem put_hist {W : World} {r : Nat} {T : TypeId} {a0 a1 a2 : Value} (h : W.heap[r]? = some (.cells #[a0, a1, a2] T (0, 0))) (v : Value) : (W.setCell ⟨r, 2, none⟩ v).heap[r]? = some (.cells #[a0, a1, v] T (0, 0)) := by
 simp [World.setCell, Array.getElem?_modify, h]
theorem run_build_pt (w : World) (p : Pt) : (Instr.buildSlice 56 1 #[(0, .agg (ptC p).toArray)]).run Tryz.prog w = .ok (.slice (some ⟨w.heap.size, 0, none⟩) 1 1) (w.alloc (.cells (ptC p).toArray 86)) := by
 obtain ⟨i, h1, h2, h3, h4⟩ := info_parts (show (Tryz.prog.info? 86).map (fun i => (i.zero, i.size, i.bytes)) = some (some (.agg #[.int .i64 0, .string ⟨#[]⟩, .string ⟨#[]⟩, .string ⟨#[]⟩, .string ⟨#[]⟩]), 5, 72) by kernel_rfl)
 refine run_buildSlice w 56 86 1 _ (ptC p).toArray i _ Tryz.underlying56 h1 h2 (by rw [h3]; decide) (by rw [h3]; decide) ?_
 rw [h3]
 kernel_rfl
theorem wpList_build_pt {ops : Array Oper} {rest : List Oper} {o : Oper} {a : Act} {w : World} {Q : Exit → Act → World → Prop} (hgd : o.guard = none) (x : Operand) (ho : o.op = .buildSlice 56 1 #[(0, x)]) (p : Pt) (hx : a.eval x = .agg (ptC p).toArray)
 (hk : ∀ b V, w.heap.size = b → Below b w V → V.heap[b]? = some (.cells (ptC p).toArray 86 (0, 0)) → V.heap.size = b + 1 → wpList Tryz.prog ops Q rest (a.put o.dst (.slice (some ⟨b, 0, none⟩) 1 1)) V) : wpList Tryz.prog ops Q (o :: rest) a w := by
 refine wpList_plain hgd fun K hK => ?_
 have h := hK _ _ (hk _ _ rfl (below_new w (.cells (ptC p).toArray 86)) (World.alloc_heap_new w _) (by simp))
 unfold Oper.wp execOp
 have hr := run_build_pt w p
 obtain ⟨z, hz⟩ := oQ (Value.agg (ptC p).toArray)
 rw [hz] at hr hx
 simp only [ho, List.map_toArray, List.map_cons, List.map_nil, hx, Sem.run_bind, hr, Result.andThen_ok]
 exact h
def histPts (B : Bas) (p : Int) : List Pt := if (B.ls 1).any fun e => decide (e.item = p) then (histL (aboutL (B.ls 0) p)).map ptOf else []
def HistP (B : Bas) (p : Int) (w : World) (e : Ending) (w' : World) : Prop := ∃ v, e = .returned (.agg #[.string (budgetE (B.ls 1) p).rn, .string (budgetE (B.ls 1) p).rd, v]) ∧ OL w' w.heap.size 86 5 ptC v (histPts B p) ∧ Below w.heap.size w w'
set_option maxRecDepth 100000 in
set_option maxHeartbeats 8000000 in
theorem history_walk (B : Bas) (p : Int) (w : World) (hB : BasAt w (Old w) B) (hl : (B.ls 0).length ≤ 1000000) (h20 : (aboutL (B.ls 0) p).length < 20) : Calls Tryz.prog 27 #[B.val, .int .i64 p] w (HistP B p w) := by
 have HB := hZ hB
 have HL := hZ (And.intro hl h20)
 have IE := fun e : Ent => hZ (ientry (e := e))
 clear hB hl h20
 go_enter Tryz.func27, Tryz.ntmps27
 go_wp2
 have HF0 := hZ (At.start w)
 obtain ⟨b0, w0, q1, q2, q3, hf, hs0⟩ := HF0.out.alloc2 (.cells B.cells.toArray 36)
 rw [q1, q2]
 have HF0 := hZ hf
 have Hb0 := hZ q3
 clear hf q1 q2 q3
 obtain ⟨b4, w1, q1, q2, q3, hf, hs1⟩ := HF0.out.alloc2 (.cells #[.string ⟨#[]⟩, .string ⟨#[]⟩, .slice none 0 0] 58)
 rw [hs0] at q1
 rw [q1, q2]
 have HF0 := hZ hf
 have Hb4 := hZ q3
 clear hf q1 q2 q3 hs0
 clear hs1
 have HF := hZ HF0.out.drew
 clear HF0
 go_cut [5, 6] from 11 to 20 (fun v5 v6 U => ∃ (bv : Nat) (ev : Ent) (qv : Bool), v5 = .pointer (some ⟨bv, 0, none⟩) ∧ v6 = .bool qv ∧ Below w.heap.size w U ∧ EntAt U bv ev ∧ U.heap[b4]? = some (.cells nilHist 58 (0, 0)) ∧ U.heap[b0]? = some (.cells B.cells.toArray 36 (0, 0)) ∧ (qv = (B.ls 1).any fun e => decide (e.item = p)) ∧ ev = budgetE (B.ls 1) p)
 case first =>
  refine wp_region_noPanic ?_
  refine wp_region_held_drew (S := fun U => U.cell? ⟨b0, 1, none⟩ = some (.slice (B.ad 1) (B.ls 1).length (B.cp 1))) (by kernel_rfl) (At.cell HF.out (b := b0) (cs := B.cells.toArray) (t := 36) (i := 1) (by simp) rfl) (fun hHeld => ?_)
  obtain ⟨U0, hU0⟩ := oQ (w1.drew)
  rw [hU0] at HF hHeld ⊢
  clear hU0
  refine tk 0 ?_
  refine tk 1 ?_
  refine tk 2 ?_
  refine rd [3, 10] ?_
  refine rc (fun K hK => ?_) ?_
  ·
   go_simp
   (with_reducible refine (about_at (p) HF.out).mono ?_)
   rintro e1 V1 ⟨ba, rfl, HF1⟩
   have HF := hZ HF1
   clear HF1
   refine kk hK (At.cell HF.out (b := b0) (cs := B.cells.toArray) (t := 36) (i := 1) (by simp) rfl) (fun hHeld => ?_)
   clear hK K
   refine rd [4, 10] ?_
   refine rc (fun K hK => ?_) ?_
   ·
    go_simp
    obtain ⟨bc, V3, q1, q2, -, HF1⟩ := HF.out.alloc (.cells #[.func (.func 129) #[] #[.pointer (some ⟨ba, 0, none⟩)]] 45)
    rw [q1, q2]
    have HF := hZ HF1
    clear HF1 q1 q2
    refine kk hK (At.cell HF.out (b := b0) (cs := B.cells.toArray) (t := 36) (i := 1) (by simp) rfl) (fun hHeld => ?_)
    clear hK K
    refine rd [5, 10] ?_
    refine rc (fun K hK => ?_) ?_
    ·
     go_simp
     (with_reducible refine (where_at (B.ad 1) (B.ls 1).length (B.cp 1) (some ⟨bc, 0, none⟩) 1 1 HF.out).mono ?_)
     rintro e1 V4 ⟨b1, b2, rfl, HF1⟩
     have HF := hZ HF1
     clear HF1
     refine kk hK (At.cell HF.out (b := b0) (cs := B.cells.toArray) (t := 36) (i := 1) (by simp) rfl) (fun hHeld => ?_)
     clear hK K
     refine rd [6, 10] ?_
     refine rc (fun K hK => ?_) ?_
     ·
      go_simp
      (with_reducible refine (first_at HF.out [⟨129, #[.pointer (some ⟨ba, 0, none⟩)], fun e => decide (e.item = p)⟩] (B.ls 1) (B.ad 1) (some ⟨bc, 0, none⟩) _ (B.cp 1) 1 1 b1 b2 rfl (Nat.le_trans (HB.out.cap 1 (by decide)).1 (HB.out.cap 1 (by decide)).2) rfl (by decide) (by simp) (by simp) (HB.out.at_ 1 (by decide)) bc rfl 45 (by simp [CndD.val]) ?hc).mono ?_)
      case hc => intro c hc; simp only [List.mem_cons, List.not_mem_nil, or_false] at hc; obtain rfl := hc; exact HF.out.about (by simp)
      rintro e1 V5 ⟨rfl, HF1⟩
      have HF := hZ HF1
      unfold firstR
      obtain ⟨ev, hev⟩ := oQ ((List.filter (allP [⟨129, #[.pointer (some ⟨ba, 0, none⟩)], fun e => decide (e.item = p)⟩]) (B.ls 1)).headD zeroE)
      obtain ⟨qv, hqv⟩ := oQ ((!(List.filter (allP [⟨129, #[.pointer (some ⟨ba, 0, none⟩)], fun e => decide (e.item = p)⟩]) (B.ls 1)).isEmpty))
      rw [hev, hqv]
      have HEV := hZ hev
      have HQV := hZ hqv
      clear HF1 hev hqv
      refine kk hK (At.cell HF.out (b := b0) (cs := B.cells.toArray) (t := 36) (i := 1) (by simp) rfl) (fun hHeld => ?_)
      clear hK K
      refine tk 7 ?_
      refine tk 8 ?_
      refine tk 9 ?_
      refine rd [10] ?_
      refine rcE fun K hK => ?_
      go_simp
      obtain ⟨bv, V6, q1, q2, q3, HF1⟩ := HF.out.alloc (.cells zeroE.cells.toArray 33)
      have q2' : V6 = V6 := rfl
      simp only [zeroE, Ent.cells] at q2
      rw [q1, q2]
      have HF := hZ HF1
      have HV := hZ q3
      clear HF1 q1 q2 q2' q3
      refine kk hK (At.cell HF.out (b := b0) (cs := B.cells.toArray) (t := 36) (i := 1) (by simp) rfl) (fun hHeld => ?_)
      clear hK K
      refine rd [11] ?_
      refine rcE fun K hK => ?_
      refine step_store_at (by rfl) (.tmp 5) (.tmp 19) (by rfl) (by rfl) bv ev (by rfl) (by rfl) (IE _).out HF.out HV.out (by simp [zeroE, Ent.cells]) ?_
      intro V7 hb7 he7 hk7
      have HST := hZ (And.intro hb7 he7)
      have HK7 := hZ hk7
      clear hb7 he7 hk7
      refine kk hK (cells_i (HK7.out b0 B.cells.toArray 36 (by simp) (by decide)) (i := 1) rfl) (fun hHeld => ?_)
      clear hK K
      refine tk 12 ?_
      refine dn ?_
      have HB4 := hZ (HK7.out b4 #[.string ⟨#[]⟩, .string ⟨#[]⟩, .slice none 0 0] 58 (by simp) (by decide))
      have HB0 := hZ (HK7.out b0 B.cells.toArray 36 (by simp) (by decide))
      have HQ : Hid (qv = (B.ls 1).any fun e => decide (e.item = p)) := hZ (by rw [← HQV.out, any_first]; congr 1; funext e; simp [allP])
      have HE : Hid (ev = budgetE (B.ls 1) p) := hZ (by rw [← HEV.out]; unfold budgetE; congr 2; funext e; simp [allP])
      clear hHeld
      go_wp2
      go_meet
      case rel => exact ⟨bv, ev, qv, rfl, rfl, HST.out.1, HST.out.2, HB4.out, HB0.out, HQ.out, HE.out⟩
     refine rcE fun K hK => ?_
     go_simp
     obtain ⟨bv, V6, q1, q2, q3, HF1⟩ := HF.out.alloc (.cells zeroE.cells.toArray 33)
     have q2' : V6 = V6 := rfl
     simp only [zeroE, Ent.cells] at q2
     rw [q1, q2]
     have HF := hZ HF1
     have HV := hZ q3
     clear HF1 q1 q2 q2' q3
     refine kk hK (At.cell HF.out (b := b0) (cs := B.cells.toArray) (t := 36) (i := 1) (by simp) rfl) (fun hHeld => ?_)
     clear hK K
     refine rd [6] ?_
     refine rcE fun K hK => ?_
     go_simp
     (with_reducible refine (first_at HF.out [⟨129, #[.pointer (some ⟨ba, 0, none⟩)], fun e => decide (e.item = p)⟩] (B.ls 1) (B.ad 1) (some ⟨bc, 0, none⟩) _ (B.cp 1) 1 1 b1 b2 rfl (Nat.le_trans (HB.out.cap 1 (by decide)).1 (HB.out.cap 1 (by decide)).2) rfl (by decide) (by simp) (by simp) (HB.out.at_ 1 (by decide)) bc rfl 45 (by simp [CndD.val]) ?hc).mono ?_)
     case hc => intro c hc; simp only [List.mem_cons, List.not_mem_nil, or_false] at hc; obtain rfl := hc; exact HF.out.about (by simp)
     rintro e1 V5 ⟨rfl, HF1⟩
     have HF := hZ HF1
     unfold firstR
     obtain ⟨ev, hev⟩ := oQ ((List.filter (allP [⟨129, #[.pointer (some ⟨ba, 0, none⟩)], fun e => decide (e.item = p)⟩]) (B.ls 1)).headD zeroE)
     obtain ⟨qv, hqv⟩ := oQ ((!(List.filter (allP [⟨129, #[.pointer (some ⟨ba, 0, none⟩)], fun e => decide (e.item = p)⟩]) (B.ls 1)).isEmpty))
     rw [hev, hqv]
     have HEV := hZ hev
     have HQV := hZ hqv
     clear HF1 hev hqv
     refine kk hK (At.cell HF.out (b := b0) (cs := B.cells.toArray) (t := 36) (i := 1) (by simp) rfl) (fun hHeld => ?_)
     clear hK K
     refine tk 7 ?_
     refine tk 8 ?_
     refine tk 9 ?_
     refine rd [11] ?_
     refine rcE fun K hK => ?_
     refine step_store_at (by rfl) (.tmp 5) (.tmp 19) (by rfl) (by rfl) bv ev (by rfl) (by rfl) (IE _).out HF.out HV.out (by simp [zeroE, Ent.cells]) ?_
     intro V7 hb7 he7 hk7
     have HST := hZ (And.intro hb7 he7)
     have HK7 := hZ hk7
     clear hb7 he7 hk7
     refine kk hK (cells_i (HK7.out b0 B.cells.toArray 36 (by simp) (by decide)) (i := 1) rfl) (fun hHeld => ?_)
     clear hK K
     refine tk 12 ?_
     refine dn ?_
     have HB4 := hZ (HK7.out b4 #[.string ⟨#[]⟩, .string ⟨#[]⟩, .slice none 0 0] 58 (by simp) (by decide))
     have HB0 := hZ (HK7.out b0 B.cells.toArray 36 (by simp) (by decide))
     have HQ : Hid (qv = (B.ls 1).any fun e => decide (e.item = p)) := hZ (by rw [← HQV.out, any_first]; congr 1; funext e; simp [allP])
     have HE : Hid (ev = budgetE (B.ls 1) p) := hZ (by rw [← HEV.out]; unfold budgetE; congr 2; funext e; simp [allP])
     clear hHeld
     go_wp2
     go_meet
     case rel => exact ⟨bv, ev, qv, rfl, rfl, HST.out.1, HST.out.2, HB4.out, HB0.out, HQ.out, HE.out⟩
    refine rcE fun K hK => ?_
    go_simp
    obtain ⟨bv, V6, q1, q2, q3, HF1⟩ := HF.out.alloc (.cells zeroE.cells.toArray 33)
    have q2' : V6 = V6 := rfl
    simp only [zeroE, Ent.cells] at q2
    rw [q1, q2]
    have HF := hZ HF1
    have HV := hZ q3
    clear HF1 q1 q2 q2' q3
    refine kk hK (At.cell HF.out (b := b0) (cs := B.cells.toArray) (t := 36) (i := 1) (by simp) rfl) (fun hHeld => ?_)
    clear hK K
    refine rd [5] ?_
    refine rcE fun K hK => ?_
    go_simp
    (with_reducible refine (where_at (B.ad 1) (B.ls 1).length (B.cp 1) (some ⟨bc, 0, none⟩) 1 1 HF.out).mono ?_)
    rintro e1 V4 ⟨b1, b2, rfl, HF1⟩
    have HF := hZ HF1
    clear HF1
    refine kk hK (At.cell HF.out (b := b0) (cs := B.cells.toArray) (t := 36) (i := 1) (by simp) rfl) (fun hHeld => ?_)
    clear hK K
    refine rd [6] ?_
    refine rcE fun K hK => ?_
    go_simp
    (with_reducible refine (first_at HF.out [⟨129, #[.pointer (some ⟨ba, 0, none⟩)], fun e => decide (e.item = p)⟩] (B.ls 1) (B.ad 1) (some ⟨bc, 0, none⟩) _ (B.cp 1) 1 1 b1 b2 rfl (Nat.le_trans (HB.out.cap 1 (by decide)).1 (HB.out.cap 1 (by decide)).2) rfl (by decide) (by simp) (by simp) (HB.out.at_ 1 (by decide)) bc rfl 45 (by simp [CndD.val]) ?hc).mono ?_)
    case hc => intro c hc; simp only [List.mem_cons, List.not_mem_nil, or_false] at hc; obtain rfl := hc; exact HF.out.about (by simp)
    rintro e1 V5 ⟨rfl, HF1⟩
    have HF := hZ HF1
    unfold firstR
    obtain ⟨ev, hev⟩ := oQ ((List.filter (allP [⟨129, #[.pointer (some ⟨ba, 0, none⟩)], fun e => decide (e.item = p)⟩]) (B.ls 1)).headD zeroE)
    obtain ⟨qv, hqv⟩ := oQ ((!(List.filter (allP [⟨129, #[.pointer (some ⟨ba, 0, none⟩)], fun e => decide (e.item = p)⟩]) (B.ls 1)).isEmpty))
    rw [hev, hqv]
    have HEV := hZ hev
    have HQV := hZ hqv
    clear HF1 hev hqv
    refine kk hK (At.cell HF.out (b := b0) (cs := B.cells.toArray) (t := 36) (i := 1) (by simp) rfl) (fun hHeld => ?_)
    clear hK K
    refine tk 7 ?_
    refine tk 8 ?_
    refine tk 9 ?_
    refine rd [11] ?_
    refine rcE fun K hK => ?_
    refine step_store_at (by rfl) (.tmp 5) (.tmp 19) (by rfl) (by rfl) bv ev (by rfl) (by rfl) (IE _).out HF.out HV.out (by simp [zeroE, Ent.cells]) ?_
    intro V7 hb7 he7 hk7
    have HST := hZ (And.intro hb7 he7)
    have HK7 := hZ hk7
    clear hb7 he7 hk7
    refine kk hK (cells_i (HK7.out b0 B.cells.toArray 36 (by simp) (by decide)) (i := 1) rfl) (fun hHeld => ?_)
    clear hK K
    refine tk 12 ?_
    refine dn ?_
    have HB4 := hZ (HK7.out b4 #[.string ⟨#[]⟩, .string ⟨#[]⟩, .slice none 0 0] 58 (by simp) (by decide))
    have HB0 := hZ (HK7.out b0 B.cells.toArray 36 (by simp) (by decide))
    have HQ : Hid (qv = (B.ls 1).any fun e => decide (e.item = p)) := hZ (by rw [← HQV.out, any_first]; congr 1; funext e; simp [allP])
    have HE : Hid (ev = budgetE (B.ls 1) p) := hZ (by rw [← HEV.out]; unfold budgetE; congr 2; funext e; simp [allP])
    clear hHeld
    go_wp2
    go_meet
    case rel => exact ⟨bv, ev, qv, rfl, rfl, HST.out.1, HST.out.2, HB4.out, HB0.out, HQ.out, HE.out⟩
   refine rcE fun K hK => ?_
   go_simp
   obtain ⟨bv, V6, q1, q2, q3, HF1⟩ := HF.out.alloc (.cells zeroE.cells.toArray 33)
   have q2' : V6 = V6 := rfl
   simp only [zeroE, Ent.cells] at q2
   rw [q1, q2]
   have HF := hZ HF1
   have HV := hZ q3
   clear HF1 q1 q2 q2' q3
   refine kk hK (At.cell HF.out (b := b0) (cs := B.cells.toArray) (t := 36) (i := 1) (by simp) rfl) (fun hHeld => ?_)
   clear hK K
   refine rd [4] ?_
   refine rcE fun K hK => ?_
   go_simp
   obtain ⟨bc, V3, q1, q2, -, HF1⟩ := HF.out.alloc (.cells #[.func (.func 129) #[] #[.pointer (some ⟨ba, 0, none⟩)]] 45)
   rw [q1, q2]
   have HF := hZ HF1
   clear HF1 q1 q2
   refine kk hK (At.cell HF.out (b := b0) (cs := B.cells.toArray) (t := 36) (i := 1) (by simp) rfl) (fun hHeld => ?_)
   clear hK K
   refine rd [5] ?_
   refine rcE fun K hK => ?_
   go_simp
   (with_reducible refine (where_at (B.ad 1) (B.ls 1).length (B.cp 1) (some ⟨bc, 0, none⟩) 1 1 HF.out).mono ?_)
   rintro e1 V4 ⟨b1, b2, rfl, HF1⟩
   have HF := hZ HF1
   clear HF1
   refine kk hK (At.cell HF.out (b := b0) (cs := B.cells.toArray) (t := 36) (i := 1) (by simp) rfl) (fun hHeld => ?_)
   clear hK K
   refine rd [6] ?_
   refine rcE fun K hK => ?_
   go_simp
   (with_reducible refine (first_at HF.out [⟨129, #[.pointer (some ⟨ba, 0, none⟩)], fun e => decide (e.item = p)⟩] (B.ls 1) (B.ad 1) (some ⟨bc, 0, none⟩) _ (B.cp 1) 1 1 b1 b2 rfl (Nat.le_trans (HB.out.cap 1 (by decide)).1 (HB.out.cap 1 (by decide)).2) rfl (by decide) (by simp) (by simp) (HB.out.at_ 1 (by decide)) bc rfl 45 (by simp [CndD.val]) ?hc).mono ?_)
   case hc => intro c hc; simp only [List.mem_cons, List.not_mem_nil, or_false] at hc; obtain rfl := hc; exact HF.out.about (by simp)
   rintro e1 V5 ⟨rfl, HF1⟩
   have HF := hZ HF1
   unfold firstR
   obtain ⟨ev, hev⟩ := oQ ((List.filter (allP [⟨129, #[.pointer (some ⟨ba, 0, none⟩)], fun e => decide (e.item = p)⟩]) (B.ls 1)).headD zeroE)
   obtain ⟨qv, hqv⟩ := oQ ((!(List.filter (allP [⟨129, #[.pointer (some ⟨ba, 0, none⟩)], fun e => decide (e.item = p)⟩]) (B.ls 1)).isEmpty))
   rw [hev, hqv]
   have HEV := hZ hev
   have HQV := hZ hqv
   clear HF1 hev hqv
   refine kk hK (At.cell HF.out (b := b0) (cs := B.cells.toArray) (t := 36) (i := 1) (by simp) rfl) (fun hHeld => ?_)
   clear hK K
   refine tk 7 ?_
   refine tk 8 ?_
   refine tk 9 ?_
   refine rd [11] ?_
   refine rcE fun K hK => ?_
   refine step_store_at (by rfl) (.tmp 5) (.tmp 19) (by rfl) (by rfl) bv ev (by rfl) (by rfl) (IE _).out HF.out HV.out (by simp [zeroE, Ent.cells]) ?_
   intro V7 hb7 he7 hk7
   have HST := hZ (And.intro hb7 he7)
   have HK7 := hZ hk7
   clear hb7 he7 hk7
   refine kk hK (cells_i (HK7.out b0 B.cells.toArray 36 (by simp) (by decide)) (i := 1) rfl) (fun hHeld => ?_)
   clear hK K
   refine tk 12 ?_
   refine dn ?_
   have HB4 := hZ (HK7.out b4 #[.string ⟨#[]⟩, .string ⟨#[]⟩, .slice none 0 0] 58 (by simp) (by decide))
   have HB0 := hZ (HK7.out b0 B.cells.toArray 36 (by simp) (by decide))
   have HQ : Hid (qv = (B.ls 1).any fun e => decide (e.item = p)) := hZ (by rw [← HQV.out, any_first]; congr 1; funext e; simp [allP])
   have HE : Hid (ev = budgetE (B.ls 1) p) := hZ (by rw [← HEV.out]; unfold budgetE; congr 2; funext e; simp [allP])
   clear hHeld
   go_wp2
   go_meet
   case rel => exact ⟨bv, ev, qv, rfl, rfl, HST.out.1, HST.out.2, HB4.out, HB0.out, HQ.out, HE.out⟩
  refine rcE fun K hK => ?_
  go_simp
  obtain ⟨bv, V6, q1, q2, q3, HF1⟩ := HF.out.alloc (.cells zeroE.cells.toArray 33)
  have q2' : V6 = V6 := rfl
  simp only [zeroE, Ent.cells] at q2
  rw [q1, q2]
  have HF := hZ HF1
  have HV := hZ q3
  clear HF1 q1 q2 q2' q3
  refine kk hK (At.cell HF.out (b := b0) (cs := B.cells.toArray) (t := 36) (i := 1) (by simp) rfl) (fun hHeld => ?_)
  clear hK K
  refine rd [3] ?_
  refine rcE fun K hK => ?_
  go_simp
  (with_reducible refine (about_at (p) HF.out).mono ?_)
  rintro e1 V1 ⟨ba, rfl, HF1⟩
  have HF := hZ HF1
  clear HF1
  refine kk hK (At.cell HF.out (b := b0) (cs := B.cells.toArray) (t := 36) (i := 1) (by simp) rfl) (fun hHeld => ?_)
  clear hK K
  refine rd [4] ?_
  refine rcE fun K hK => ?_
  go_simp
  obtain ⟨bc, V3, q1, q2, -, HF1⟩ := HF.out.alloc (.cells #[.func (.func 129) #[] #[.pointer (some ⟨ba, 0, none⟩)]] 45)
  rw [q1, q2]
  have HF := hZ HF1
  clear HF1 q1 q2
  refine kk hK (At.cell HF.out (b := b0) (cs := B.cells.toArray) (t := 36) (i := 1) (by simp) rfl) (fun hHeld => ?_)
  clear hK K
  refine rd [5] ?_
  refine rcE fun K hK => ?_
  go_simp
  (with_reducible refine (where_at (B.ad 1) (B.ls 1).length (B.cp 1) (some ⟨bc, 0, none⟩) 1 1 HF.out).mono ?_)
  rintro e1 V4 ⟨b1, b2, rfl, HF1⟩
  have HF := hZ HF1
  clear HF1
  refine kk hK (At.cell HF.out (b := b0) (cs := B.cells.toArray) (t := 36) (i := 1) (by simp) rfl) (fun hHeld => ?_)
  clear hK K
  refine rd [6] ?_
  refine rcE fun K hK => ?_
  go_simp
  (with_reducible refine (first_at HF.out [⟨129, #[.pointer (some ⟨ba, 0, none⟩)], fun e => decide (e.item = p)⟩] (B.ls 1) (B.ad 1) (some ⟨bc, 0, none⟩) _ (B.cp 1) 1 1 b1 b2 rfl (Nat.le_trans (HB.out.cap 1 (by decide)).1 (HB.out.cap 1 (by decide)).2) rfl (by decide) (by simp) (by simp) (HB.out.at_ 1 (by decide)) bc rfl 45 (by simp [CndD.val]) ?hc).mono ?_)
  case hc => intro c hc; simp only [List.mem_cons, List.not_mem_nil, or_false] at hc; obtain rfl := hc; exact HF.out.about (by simp)
  rintro e1 V5 ⟨rfl, HF1⟩
  have HF := hZ HF1
  unfold firstR
  obtain ⟨ev, hev⟩ := oQ ((List.filter (allP [⟨129, #[.pointer (some ⟨ba, 0, none⟩)], fun e => decide (e.item = p)⟩]) (B.ls 1)).headD zeroE)
  obtain ⟨qv, hqv⟩ := oQ ((!(List.filter (allP [⟨129, #[.pointer (some ⟨ba, 0, none⟩)], fun e => decide (e.item = p)⟩]) (B.ls 1)).isEmpty))
  rw [hev, hqv]
  have HEV := hZ hev
  have HQV := hZ hqv
  clear HF1 hev hqv
  refine kk hK (At.cell HF.out (b := b0) (cs := B.cells.toArray) (t := 36) (i := 1) (by simp) rfl) (fun hHeld => ?_)
  clear hK K
  refine tk 7 ?_
  refine tk 8 ?_
  refine tk 9 ?_
  refine rd [11] ?_
  refine rcE fun K hK => ?_
  refine step_store_at (by rfl) (.tmp 5) (.tmp 19) (by rfl) (by rfl) bv ev (by rfl) (by rfl) (IE _).out HF.out HV.out (by simp [zeroE, Ent.cells]) ?_
  intro V7 hb7 he7 hk7
  have HST := hZ (And.intro hb7 he7)
  have HK7 := hZ hk7
  clear hb7 he7 hk7
  refine kk hK (cells_i (HK7.out b0 B.cells.toArray 36 (by simp) (by decide)) (i := 1) rfl) (fun hHeld => ?_)
  clear hK K
  refine tk 12 ?_
  refine dn ?_
  have HB4 := hZ (HK7.out b4 #[.string ⟨#[]⟩, .string ⟨#[]⟩, .slice none 0 0] 58 (by simp) (by decide))
  have HB0 := hZ (HK7.out b0 B.cells.toArray 36 (by simp) (by decide))
  have HQ : Hid (qv = (B.ls 1).any fun e => decide (e.item = p)) := hZ (by rw [← HQV.out, any_first]; congr 1; funext e; simp [allP])
  have HE : Hid (ev = budgetE (B.ls 1) p) := hZ (by rw [← HEV.out]; unfold budgetE; congr 2; funext e; simp [allP])
  clear hHeld
  go_wp2
  go_meet
  case rel => exact ⟨bv, ev, qv, rfl, rfl, HST.out.1, HST.out.2, HB4.out, HB0.out, HQ.out, HE.out⟩
 case rest =>
 obtain ⟨bv, ev, qv, rfl, rfl, hst1, hst2, hb4', hb0', hq', he'⟩ := hcut
 have HST := hZ (And.intro hst1 hst2)
 have HB4 := hZ hb4'
 have HB0 := hZ hb0'
 have HQ := hZ hq'
 have HE := hZ he'
 clear hst1 hst2 hb4' hb0' hq' he'
 cases qv
 · go_wp2_with (first
    | (refine wpList_build rfl 58 #[] rfl nilHist (by kernel_rfl) ?_)
    | ((with_reducible refine wpList_store_rowN rfl 58 (.tmp 4) (.tmp 23) rfl rfl b4 nilHist nilHist rfl ?hy ?hi HB4.out ?ho ?h1 ?_); (case hy => rfl); (case hi => kernel_rfl); (case ho => rfl); (case h1 => exact one_hist _ _ _ rfl); intro w9 hc9 ht9
       have HC9 := hZ hc9
       have HT9 := hZ ht9
       clear hc9 ht9)
    | fail)
   have hr9 : w9.rangeAt b4 0 nilHist.toList := fun k v hv => cells_i HC9.out (by simpa using hv)
   refine bodyPost_ret (results_cellN rfl _ _ b4 nilHist.toList _ rfl hr9 Tryz.underlying58 rfl (by kernel_rfl)) rfl ?_
   have hn : budgetE (B.ls 1) p = zeroE := by
    unfold budgetE
    have h1 := HQ.out
    have : (B.ls 1).filter (fun e => decide (e.item = p)) = [] := by
     rw [List.filter_eq_nil_iff]
     intro e he q
     rw [eq_comm, List.any_eq_false] at h1
     exact h1 e he q
    rw [this]; rfl
   refine ⟨.slice none 0 0, ?_, ?_, HT9.out.below HST.out.1 (Nat.le_refl _) (fun k hk => by have := Hb4.out; omega)⟩
   · rw [hn]; rfl
   · unfold histPts
     rw [← HQ.out, if_neg (by decide)]
     exact OL.nil
 · have hF : At w wc.drew [(b0, .cells B.cells.toArray 36 (0, 0)), (b4, .cells nilHist 58 (0, 0)), (bv, .cells ev.cells.toArray 33 (0, 0))] := ((((At.start w).below.trans HST.out.1 |> fun hb => (⟨hb, fun p h => by cases h⟩ : At w wc [])).cons HST.out.2).cons HB4.out |>.cons HB0.out).drew
   clear HF
   have HF := hZ hF
   clear hF
   go_wp2
   refine wp_region_noPanic ?_
   refine wp_region_held_drew (S := fun U => U.cell? ⟨b0, 0, none⟩ = some (.slice (B.ad 0) (B.ls 0).length (B.cp 0))) (by kernel_rfl) (At.cell HF.out (b := b0) (cs := B.cells.toArray) (t := 36) (i := 0) (by simp) rfl) (fun hHeld => ?_)
   obtain ⟨U0, hU0⟩ := oQ (wc.drew)
   rw [hU0] at HF hHeld ⊢
   clear hU0
   refine tk 0 ?_
   refine tk 1 ?_
   refine tk 2 ?_
   refine rd [3] ?_
   refine rcE fun K hK => ?_
   go_simp
   (with_reducible refine (about_at (p) HF.out).mono ?_)
   rintro e1 V1 ⟨ba, rfl, HF1⟩
   have HF := hZ HF1
   clear HF1
   refine kk hK (At.cell HF.out (b := b0) (cs := B.cells.toArray) (t := 36) (i := 0) (by simp) rfl) (fun hHeld => ?_)
   clear hK K
   refine rd [4] ?_
   refine rcE fun K hK => ?_
   go_simp
   obtain ⟨bc, V3, q1, q2, -, HF1⟩ := HF.out.alloc (.cells #[.func (.func 129) #[] #[.pointer (some ⟨ba, 0, none⟩)]] 45)
   rw [q1, q2]
   have HF := hZ HF1
   clear HF1 q1 q2
   refine kk hK (At.cell HF.out (b := b0) (cs := B.cells.toArray) (t := 36) (i := 0) (by simp) rfl) (fun hHeld => ?_)
   clear hK K
   refine rd [5] ?_
   refine rcE fun K hK => ?_
   go_simp
   (with_reducible refine (where_at (B.ad 0) (B.ls 0).length (B.cp 0) (some ⟨bc, 0, none⟩) 1 1 HF.out).mono ?_)
   rintro e1 V4 ⟨b1, b2, rfl, HF1⟩
   have HF := hZ HF1
   clear HF1
   refine kk hK (At.cell HF.out (b := b0) (cs := B.cells.toArray) (t := 36) (i := 0) (by simp) rfl) (fun hHeld => ?_)
   clear hK K
   refine rd [6] ?_
   refine rcE fun K hK => ?_
   go_simp
   (with_reducible refine (sortedStable_walk b1 b2 _ _ _ _ (iter_at HF.out [⟨129, #[.pointer (some ⟨ba, 0, none⟩)], fun e => decide (e.item = p)⟩] (B.ls 0) (B.ad 0) (some ⟨bc, 0, none⟩) (B.ls 0).length (B.cp 0) 1 1 b1 b2 rfl (Nat.le_trans (HB.out.cap 0 (by decide)).1 (HB.out.cap 0 (by decide)).2) rfl (by decide) (by simp) (by simp) (HB.out.at_ 0 (by decide)) bc rfl 45 (by simp [CndD.val]) ?hc) HL.out.1 ?hL).mono ?_)
   case hc => intro c hc; simp only [List.mem_cons, List.not_mem_nil, or_false] at hc; obtain rfl := hc; exact HF.out.about (by simp)
   case hL => rw [aboutL_eq]; exact HL.out.2
   rintro e1 V8 ⟨v8, rfl, ho8, hb8⟩
   rw [aboutL_eq] at ho8
   have HO8 := hZ (ho8.base HF.out.below.size)
   have HF1 := HF.out.step hb8
   have HF := hZ HF1
   clear HF1 ho8 hb8
   refine kk hK (At.cell HF.out (b := b0) (cs := B.cells.toArray) (t := 36) (i := 0) (by simp) rfl) (fun hHeld => ?_)
   clear hK K
   refine tk 7 ?_
   refine dn ?_
   obtain ⟨hs, hhs⟩ := oQ (histL (aboutL (B.ls 0) p))
   have hlen : hs.length < 20 := by rw [← hhs, (histL_spec _).1.length_eq]; exact HL.out.2
   rw [hhs] at HO8
   have HHS := hZ hhs
   obtain ⟨A8, c8, rfl, hle8, hmax8⟩ := HO8.out.slice
   obtain ⟨n8, hn8⟩ := oQ (hs.length)
   rw [hn8] at HO8 hlen hle8 ⊢
   have HN8 := hZ hn8
   have HBV : Hid (EntAt V8 bv ev) := hZ (HF.out.has (bv, .cells ev.cells.toArray 33 (0, 0)) (by simp))
   have HB48 : Hid (V8.heap[b4]? = some (.cells nilHist 58 (0, 0))) := hZ (HF.out.has (b4, .cells nilHist 58 (0, 0)) (by simp))
   have HBW : Hid (Below w.heap.size w V8) := hZ HF.out.below
   have x15 := HBV.out.cell (i := 15) rfl
   have x16 := HBV.out.cell (i := 16) rfl
   clear hhs hn8 hHeld HF HST HB4 HB0
   have w1' : IntKind.i64.wrap ((n8 : Int) - 64) = (n8 : Int) - 64 := by rw [IntKind.wrap_i64]; omega
   by_cases hc0 : c8 = 0
   · obtain rfl : n8 = 0 := by omega
     subst hc0
     have hnil : hs = [] := List.eq_nil_of_length_eq_zero HN8.out
     go_wp2_with (first
      | (refine wpList_build rfl 58 #[(0, .tmp 32)] rfl #[.string ev.rn, .string ev.rd, .slice none 0 0] (by kernel_rfl) ?_)
      | ((with_reducible refine wpList_store_rowN rfl 58 (.tmp 8) (.tmp 33) rfl rfl V8.heap.size #[.string ev.rn, .string ev.rd, .slice none 0 0] nilHist rfl ?hy ?hi (World.alloc_heap_new _ _) ?ho ?h1 ?_); (case hy => rfl); (case hi => kernel_rfl); (case ho => rfl); (case h1 => exact one_hist _ _ _ rfl); intro w9 hc9 ht9
         have hb9 : Below V8.heap.size V8 w9 := ht9.below (below_new V8 _) (Nat.le_refl _) (fun k hk => by omega)
         obtain ⟨b8, hb8⟩ := oQ (V8.heap.size)
         have HO9 := hZ (HO8.out.below hb9 (Nat.le_refl _))
         rw [hb8] at hc9 hb9 ⊢
         have HC9 := hZ hc9
         have HB9 := hZ hb9
         have HB8 := hZ hb8
         clear hc9 ht9 hb9 hb8)
      | fail)
     all_goals
      refine wp_loop_rounds 1 ?_
      rw [rounds_succ]
      obtain ⟨v, hv⟩ := oQ (Value.slice none 0 0)
      have HOP : Hid (OL w9 (b8 + 1) 86 5 ptC v (hs.map ptOf)) := hZ (by rw [← hv, hnil]; exact OL.nil)
      have HCC : Hid (w9.heap[b8]? = some (.cells #[.string ev.rn, .string ev.rd, v] 58 (0, 0))) := hZ (by rw [← hv]; exact HC9.out)
      have HBL : Hid (Below b8 V8 w9) := HB9
      clear hv hnil
      have hsl : v.oneCell' = true := by
       obtain ⟨A9, c9, e9, _, _⟩ := HOP.out.slice
       rw [e9]; rfl
      have HSL := hZ hsl
      have HB44 : Hid (w9.heap[b4]? = some (.cells nilHist 58 (0, 0))) := hZ ((HBL.out.block b4 (by have := HB8.out; have := (Array.getElem?_eq_some_iff.1 HB48.out).1; omega)).trans HB48.out)
      have HL8 : Hid (w9.rangeAt b8 0 [.string ev.rn, .string ev.rd, v]) := hZ (fun k u hv => cells_i HCC.out (by simpa using hv))
      clear hsl
      go_wp2_with (first
       | ((with_reducible refine wpList_load_mid rfl 58 (.tmp 8) rfl b8 0 ?hx [.string ev.rn, .string ev.rd, v] _ HL8.out Tryz.underlying58 rfl ?hi ?_); (case hx => rfl); (case hi => kernel_rfl))
       | ((with_reducible refine wpList_store_rowN rfl 58 (.tmp 4) (.tmp 56) rfl rfl b4 #[.string ev.rn, .string ev.rd, v] nilHist rfl ?hy ?hi HB44.out ?ho ?h1 ?_); (case hy => rfl); (case hi => kernel_rfl); (case ho => rfl); (case h1 => exact one_hist _ _ _ HSL.out); intro w10 hc10 ht10
          have HC10 := hZ hc10
          have HT10 := hZ ht10
          clear hc10 ht10)
       | fail)
      have hr10 : w10.rangeAt b4 0 [.string ev.rn, .string ev.rd, v] := fun k u hv => cells_i HC10.out (by simpa using hv)
      refine bodyPost_ret (results_cellN rfl _ _ b4 [.string ev.rn, .string ev.rd, v] _ rfl hr10 Tryz.underlying58 rfl (by kernel_rfl)) rfl ?_
      have hb48 := (Array.getElem?_eq_some_iff.1 HB48.out).1
      have hb8 := HB8.out
      have hbw := HBW.out.size
      have hb4w := Hb4.out
      refine ⟨v, ?_, ?_, ?_⟩
      · rw [← HE.out]
      · unfold histPts
        rw [← HQ.out, if_pos rfl, HHS.out]
        exact (HOP.out.keep fun g hg => HT10.out.block g (HOP.out.lt g hg).2 (fun e => by have := (HOP.out.lt g hg).1; omega)).base (by omega)
      · exact HT10.out.below (HBW.out.trans (HBL.out.mono (by omega))) (Nat.le_refl _) (fun k hk => by omega)
   · obtain ⟨g8, rfl⟩ : ∃ g8, A8 = some ⟨g8, 0, none⟩ := by
      rcases HO8.out.2 with ⟨e, _⟩ | ⟨g8, cap, cur, e, _⟩
      · injection e with _ _ e; exact absurd e hc0
      · injection e with e _ _; exact ⟨g8, e⟩
     have hmx : max 0 ((n8 : Int) - 64) = 0 := by omega
     go_wp2_with (first
      | (refine wpList_build rfl 58 #[(0, .tmp 32)] rfl #[.string ev.rn, .string ev.rd, .slice none 0 0] (by kernel_rfl) ?_)
      | ((with_reducible refine wpList_store_rowN rfl 58 (.tmp 8) (.tmp 33) rfl rfl V8.heap.size #[.string ev.rn, .string ev.rd, .slice none 0 0] nilHist rfl ?hy ?hi (World.alloc_heap_new _ _) ?ho ?h1 ?_); (case hy => rfl); (case hi => kernel_rfl); (case ho => rfl); (case h1 => exact one_hist _ _ _ rfl); intro w9 hc9 ht9
         have hb9 : Below V8.heap.size V8 w9 := ht9.below (below_new V8 _) (Nat.le_refl _) (fun k hk => by omega)
         obtain ⟨b8, hb8⟩ := oQ (V8.heap.size)
         have HO9 := hZ (HO8.out.below hb9 (Nat.le_refl _))
         rw [hb8] at hc9 hb9 ⊢
         have HC9 := hZ hc9
         have HB9 := hZ hb9
         have HB8 := hZ hb8
         clear hc9 ht9 hb9 hb8)
      | fail)
     clear x15 x16 w1' hmx
     have hg8 : g8 < b8 := by have := (HO8.out.lt g8 rfl).2; have := HB8.out; omega
     have HG8 := hZ hg8
     clear hg8
     go_loopw [41] (fun vi wr => ∃ (k : Nat) (v : Value), vi = .int .i64 (k : Int) ∧ k ≤ n8 ∧ wr.heap[b8]? = some (.cells #[.string ev.rn, .string ev.rd, v] 58 (0, 0)) ∧ OL wr (b8 + 1) 86 5 ptC v ((hs.take k).map ptOf) ∧ Below b8 V8 wr) (fun vi _ => match vi with | .int _ k => n8 - k.toNat | _ => 0)
     case atStart => exact ⟨0, _, rfl, by omega, HC9.out, OL.nil, HB9.out⟩
     case round =>
      obtain ⟨k, v, rfl, hk, hcc, hop, hbl⟩ := hrel
      have HCC := hZ hcc
      have HOP := hZ hop
      have HBL := hZ hbl
      clear hcc hop hbl
      by_cases hlt : k < n8
      · have z1 : (0 : Int) ≤ (k : Int) := by omega
        have z2 : (k : Int) < (n8 : Int) := by omega
        have w2' : IntKind.i64.wrap ((k : Int) + 1) = ((k + 1 : Nat) : Int) := by rw [IntKind.wrap_i64]; omega
        have d1 : decide (k < n8) = true := by simp [hlt]
        obtain ⟨e, he⟩ : ∃ e, hs[k]? = some e := ⟨_, List.getElem?_eq_getElem (by rw [HN8.out]; exact hlt)⟩
        have hrg : wr.rangeAt g8 (k * 18) e.cells := by
         have h1 := EAt.of_ol (Y := fun _ => True) (HO8.out.below (HBL.out.mono (by have := HB8.out; omega)) (Nat.le_refl _)) (fun _ _ => trivial)
         obtain ⟨b, hb, -, h2⟩ := h1 k e he
         injection hb with hb
         injection hb with hb _ _
         rw [hb]; exact h2
        have HRG := hZ hrg
        have hlk : ((hs.take k).map ptOf).length = k := by rw [List.length_map, List.length_take, HN8.out]; omega
        have HLK := hZ hlk
        have htk : (hs.take (k + 1)).map ptOf = (hs.take k).map ptOf ++ [ptOf e] := by rw [List.take_add_one, he]; simp
        have HTK := hZ htk
        obtain ⟨A9, c9, rfl, -, -⟩ := HOP.out.slice
        rw [hlk] at HOP HCC
        clear hrg he hlk htk
        go_wp2_with (first
         | ((with_reducible refine wpList_load_mid rfl 33 (.tmp 43) rfl g8 (k * 18) ?hx e.cells _ HRG.out Tryz.underlying33 rfl (IE e).out ?_); (case hx => rfl))
         | ((with_reducible refine store_new rfl (.tmp 10) (.tmp 44) rfl rfl e rfl rfl ?hi ?ho ?_); (case hi => exact (IE e).out); (case ho => rfl); intro w7 he7 hb7 hs7
            obtain ⟨be, hbe⟩ := oQ (wr.heap.size)
            rw [hbe] at he7 ⊢
            have HBE := hZ hbe
            have HB7 := hZ hb7
            have HCC7 := bAt hb7 HCC
            have HOP7 := hZ (HOP.out.below hb7 (Nat.le_refl _))
            have y0 := cells_i (i := 2) HCC7.out rfl
            have y5 := he7.cell (i := 5) rfl
            have y11 := he7.cell (i := 11) rfl
            have y12 := he7.cell (i := 12) rfl
            have y13 := he7.cell (i := 13) rfl
            have y14 := he7.cell (i := 14) rfl
            have HSZ7 : Hid (b8 < w7.heap.size) := hZ (Array.getElem?_eq_some_iff.1 HCC7.out).1
            clear hbe hb7 hs7 he7)
         | (refine wpList_build rfl 86 #[(0, .tmp 48), (1, .tmp 50)] rfl (ptC (ptOf e)).toArray (by kernel_rfl) ?_)
         | ((with_reducible refine wpList_build_pt rfl (.tmp 51) rfl (ptOf e) ?hx ?_); (case hx => rfl)
            intro bn V hbn hbl hnv hsv
            have HBNE := hZ hbn
            have HBN := hZ hbl
            have HNV := hZ hnv
            have HSV := hZ hsv
            clear hbn hbl hnv hsv)
         | (at_builtin; refine wpList_app rfl (.tmp 46) (.tmp 52) 56 rfl elemPt (.slice A9 k c9) ((hs.take k).map ptOf) k HLK.out rfl (HOP7.out.below (HBN.out.mono (by have := HBNE.out; omega)) (Nat.le_refl _)) (ptOf e) bn (ptC (ptOf e)).toArray rfl HNV.out rfl rfl (fun u hu => by simp [ptC] at hu; rcases hu with rfl | rfl | rfl | rfl | rfl <;> rfl) (by have := HLK.out; unfold maxLen; omega) (by have := HLK.out; omega) (by have := HSV.out; have := HBNE.out; have := HSZ7.out; omega) ?_
            intro g' cap' w1' ho1 hg1 hw1 hl1 hb1
            have HO1 := hZ ho1
            have hcc1 : w1'.heap[b8]? = some (.cells #[.string ev.rn, .string ev.rd, .slice A9 k c9] 58 (0, 0)) := (hb1.block b8 (by omega)).trans ((HBN.out.block b8 (by have := HBNE.out; have := HSZ7.out; omega)).trans HCC7.out)
            have HCC1 := hZ hcc1
            have HB1 := hZ hb1
            have HG1' := hZ hl1
            have HW1 := hZ hw1
            have c1 := cells_i (i := 2) hcc1 rfl
            have f1 := cells_free hcc1 2
            clear ho1 hg1 hw1 hl1 hb1 hcc1)
         | fail)
        have hb17 : Below b8 V8 (w1'.setCell ⟨b8, 2, none⟩ (.slice (some ⟨g', 0, none⟩) (k + 1) cap')) := by
         have h1 := HBL.out.trans ((HB7.out.mono (by have := HBE.out; have := (Array.getElem?_eq_some_iff.1 HCC.out).1; omega)).trans ((HBN.out.mono (by have := HBNE.out; have := HSZ7.out; omega)).trans (HB1.out.mono (by omega))))
         exact h1.setCell (p := ⟨b8, 2, none⟩) (Nat.le_refl _) _
        have ho17 : OL (w1'.setCell ⟨b8, 2, none⟩ (.slice (some ⟨g', 0, none⟩) (k + 1) cap')) (b8 + 1) 86 5 ptC (.slice (some ⟨g', 0, none⟩) (k + 1) cap') ((hs.take (k + 1)).map ptOf) := by
         rw [HTK.out]
         exact HO1.out.keep fun q hq => Below.heap_setCell _ _ _ _ (fun e => by have := (HO1.out.lt q hq).1; simp only at e; omega)
        have HFIN := hZ (And.intro (put_hist HCC1.out (.slice (some ⟨g', 0, none⟩) (k + 1) cap')) (And.intro ho17 hb17))
        clear hb17 ho17
        go_round
        case rel => exact ⟨k + 1, _, rfl, by omega, HFIN.out.1, HFIN.out.2.1, HFIN.out.2.2⟩
        case measure => simp; omega
      · have d1 : decide (k < n8) = false := by simp; omega
        obtain rfl : k = n8 := by omega
        rw [List.take_of_length_le (by rw [HN8.out]; omega)] at HOP
        have hsl : v.oneCell' = true := by
         obtain ⟨A9, c9, e9, _, _⟩ := HOP.out.slice
         rw [e9]; rfl
        have HSL := hZ hsl
        have HB44 : Hid (wr.heap[b4]? = some (.cells nilHist 58 (0, 0))) := hZ ((HBL.out.block b4 (by have := HB8.out; have := (Array.getElem?_eq_some_iff.1 HB48.out).1; omega)).trans HB48.out)
        have HL8 : Hid (wr.rangeAt b8 0 [.string ev.rn, .string ev.rd, v]) := hZ (fun k u hv => cells_i HCC.out (by simpa using hv))
        clear hsl
        go_wp2_with (first
         | ((with_reducible refine wpList_load_mid rfl 58 (.tmp 8) rfl b8 0 ?hx [.string ev.rn, .string ev.rd, v] _ HL8.out Tryz.underlying58 rfl ?hi ?_); (case hx => rfl); (case hi => kernel_rfl))
         | ((with_reducible refine wpList_store_rowN rfl 58 (.tmp 4) (.tmp 56) rfl rfl b4 #[.string ev.rn, .string ev.rd, v] nilHist rfl ?hy ?hi HB44.out ?ho ?h1 ?_); (case hy => rfl); (case hi => kernel_rfl); (case ho => rfl); (case h1 => exact one_hist _ _ _ HSL.out); intro w10 hc10 ht10
            have HC10 := hZ hc10
            have HT10 := hZ ht10
            clear hc10 ht10)
         | fail)
        have hr10 : w10.rangeAt b4 0 [.string ev.rn, .string ev.rd, v] := fun k u hv => cells_i HC10.out (by simpa using hv)
        refine bodyPost_ret (results_cellN rfl _ _ b4 [.string ev.rn, .string ev.rd, v] _ rfl hr10 Tryz.underlying58 rfl (by kernel_rfl)) rfl ?_
        have hb48 := (Array.getElem?_eq_some_iff.1 HB48.out).1
        have hb8 := HB8.out
        have hbw := HBW.out.size
        have hb4w := Hb4.out
        refine ⟨v, ?_, ?_, ?_⟩
        · rw [← HE.out]
        · unfold histPts
          rw [← HQ.out, if_pos rfl, HHS.out]
          exact (HOP.out.keep fun g hg => HT10.out.block g (HOP.out.lt g hg).2 (fun e => by have := (HOP.out.lt g hg).1; omega)).base (by omega)
        · exact HT10.out.below (HBW.out.trans (HBL.out.mono (by omega))) (Nat.le_refl _) (fun k hk => by omega)
def pickZ (x n : Int) : Int := Int.tmod (if x < 0 then -(x + 1) else x) n
theorem pickZ_range (x : Int) {n : Int} (h : 1 ≤ n) : 0 ≤ pickZ x n ∧ pickZ x n < n := by
 unfold pickZ
 split
 · exact ⟨Int.tmod_nonneg n (by omega), Int.tmod_lt_of_pos _ (by omega)⟩
 · exact ⟨Int.tmod_nonneg n (by omega), Int.tmod_lt_of_pos _ (by omega)⟩
theorem pickZ_nat (a b : Nat) : pickZ (a : Int) (b : Int) = ((a % b : Nat) : Int) := by
 unfold pickZ
 rw [if_neg (by omega)]
 exact (Int.ofNat_tmod a b).symm ▸ rfl
set_option maxHeartbeats 2000000 in
theorem pick19_walk (W : World) (x n : Int) (h1 : -9223372036854775808 ≤ x) (h2 : x ≤ 9223372036854775807) (hn : 1 ≤ n) (hn2 : n ≤ 9223372036854775807) :
 Calls Tryz.prog 13 #[.int .i64 x, .int .i64 n] W fun e W' => e = .returned (.int .i64 (pickZ x n)) ∧ W = W' := by
 have e0 : (n == 0) = false := by simp; omega
 unfold pickZ
 by_cases h : x < 0
 · have d1 : decide (x < 0) = true := by simp [h]
   rw [if_pos h]
   have w1 : IntKind.i64.wrap (x + 1) = x + 1 := by rw [IntKind.wrap_i64]; omega
   have w2 : IntKind.i64.wrap (-(x + 1)) = -(x + 1) := by rw [IntKind.wrap_i64]; omega
   have w3 : IntKind.i64.wrap (Int.tmod (-(x + 1)) n) = Int.tmod (-(x + 1)) n := by
    have q1 := Int.tmod_nonneg n (show 0 ≤ -(x + 1) by omega)
    have q2 := Int.tmod_lt_of_pos (-(x + 1)) (show 0 < n by omega)
    rw [IntKind.wrap_i64]; omega
   go_enter Tryz.func13, Tryz.ntmps13
   go_wp2_with fail
   go_ret
   rw [Int.neg_tmod]; exact ⟨rfl, rfl⟩
 · have d1 : decide (x < 0) = false := by simp; omega
   rw [if_neg h]
   have w3 : IntKind.i64.wrap (Int.tmod x n) = Int.tmod x n := by
    have q1 := Int.tmod_nonneg n (show 0 ≤ x by omega)
    have q2 := Int.tmod_lt_of_pos x (show 0 < n by omega)
    rw [IntKind.wrap_i64]; omega
   go_enter Tryz.func13, Tryz.ntmps13
   go_wp2_with fail
   go_ret
   rw [Int.tmod_eq_emod_of_nonneg (by omega)]; exact ⟨rfl, rfl⟩
set_option maxHeartbeats 2000000 in
theorem pick18_walk (W : World) (x n : Int) (h1 : -9223372036854775808 ≤ x) (h2 : x ≤ 9223372036854775807) (hn : 1 ≤ n) (hn2 : n ≤ 9223372036854775807) :
 Calls Tryz.prog 51 #[.int .i64 x, .int .i64 n] W fun e W' => e = .returned (.int .i64 (pickZ x n)) ∧ W = W' := by
 have e0 : (n == 0) = false := by simp; omega
 unfold pickZ
 by_cases h : x < 0
 · have d1 : decide (x < 0) = true := by simp [h]
   rw [if_pos h]
   have w1 : IntKind.i64.wrap (x + 1) = x + 1 := by rw [IntKind.wrap_i64]; omega
   have w2 : IntKind.i64.wrap (-(x + 1)) = -(x + 1) := by rw [IntKind.wrap_i64]; omega
   have w3 : IntKind.i64.wrap (Int.tmod (-(x + 1)) n) = Int.tmod (-(x + 1)) n := by
    have q1 := Int.tmod_nonneg n (show 0 ≤ -(x + 1) by omega)
    have q2 := Int.tmod_lt_of_pos (-(x + 1)) (show 0 < n by omega)
    rw [IntKind.wrap_i64]; omega
   go_enter Tryz.func51, Tryz.ntmps51
   go_wp2_with fail
   go_ret
   rw [Int.neg_tmod]; exact ⟨rfl, rfl⟩
 · have d1 : decide (x < 0) = false := by simp; omega
   rw [if_neg h]
   have w3 : IntKind.i64.wrap (Int.tmod x n) = Int.tmod x n := by
    have q1 := Int.tmod_nonneg n (show 0 ≤ x by omega)
    have q2 := Int.tmod_lt_of_pos x (show 0 < n by omega)
    rw [IntKind.wrap_i64]; omega
   go_enter Tryz.func51, Tryz.ntmps51
   go_wp2_with fail
   go_ret
   rw [Int.tmod_eq_emod_of_nonneg (by omega)]; exact ⟨rfl, rfl⟩
def zero32 : Array Value := (List.replicate 32 (Value.int .u8 0)).toArray
theorem mk32 (W : World) : (Instr.makeSlice 116 (.int .i64 32) (.int .i64 32)).run Tryz.prog W = .ok (.slice (some ⟨W.heap.size, 0, none⟩) 32 32) (W.alloc (.cells zero32 5)) := by kernel_rfl
theorem zero32_row : zero32.toList = (List.replicate 32 (0 : UInt8)).map bv := by
 unfold zero32; rw [List.map_replicate]; rfl
def letter (n i : Nat) : UInt8 := UInt8.ofNat (97 + (n + i) % 26)
def rootL (n : Nat) : List UInt8 := (List.range 32).map (letter n)
def rootB (n : Nat) : ByteArray := ⟨(rootL n).toArray⟩
def rootK (n k : Nat) : List UInt8 := (List.range k).map (letter n) ++ List.replicate (32 - k) 0
theorem rootK_len (n k : Nat) (h : k ≤ 32) : (rootK n k).length = 32 := by unfold rootK; simp; omega
theorem rootK_set (n k : Nat) (h : k < 32) : (rootK n k).set k (letter n k) = rootK n (k + 1) := by
 unfold rootK
 have h1 : ((List.range k).map (letter n)).length = k := by simp
 rw [List.set_append_right _ _ (by omega), h1, Nat.sub_self, List.range_succ, List.map_append, List.append_assoc]
 congr 1
 obtain ⟨m, hm⟩ : ∃ m, 32 - k = m + 1 := ⟨31 - k, by omega⟩
 rw [hm, show 32 - (k + 1) = m by omega, List.replicate_succ]
 rfl
set_option maxHeartbeats 2000000 in
theorem root_walk (n : Nat) (hn : n ≤ 1000000) (w : World) : Calls Tryz.prog 43 #[.int .i64 (n : Int)] w fun e w' => e = .returned (.string (rootB n)) ∧ Below w.heap.size w w' := by
 have hmk := mk32 w
 go_enter Tryz.func43, Tryz.ntmps43
 go_wp2
 have h0 : RAt (w.alloc (.cells zero32 5)) w.heap.size bv (rootK n 0) := RAt.alloc_new w _ _ (by rw [zero32_row]; rfl)
 obtain ⟨w1, hw1⟩ := oQ (w.alloc (.cells zero32 5))
 have hb1 : Below w.heap.size w w1 := by rw [← hw1]; exact below_new _ _
 rw [hw1] at h0 ⊢
 clear hw1 hmk
 go_loopw [4] (fun i wr => ∃ k : Nat, k ≤ 32 ∧ i = .int .i64 (k : Int) ∧ RAt wr w.heap.size bv (rootK n k) ∧ Below w.heap.size w wr) (fun i _ => match i with | .int _ k => 32 - k.toNat | _ => 0)
 case atStart => exact ⟨0, by omega, rfl, h0, hb1⟩
 case round =>
  obtain ⟨k, hk, rfl, hR, hB⟩ := hrel
  have HR := hZ hR
  have HB := hZ hB
  clear h0 hb1 hR hB
  by_cases hlt : k < 32
  · obtain ⟨j, hj⟩ := oQ (n + k)
    obtain ⟨m, hm⟩ := oQ (j % 26)
    obtain ⟨c, hc⟩ := oQ (97 + m)
    have hm26 : m < 26 := by omega
    have d1 : decide (k < 32) = true := by simp [hlt]
    have d2 : decide ((k : Int) < 32) = true := by simp; omega
    have z1 : (0 : Int) ≤ (k : Int) := by omega
    have z2 : (k : Int) < 32 := by omega
    have w1' : IntKind.i64.wrap ((n : Int) + (k : Int)) = (j : Int) := by rw [IntKind.wrap_i64]; omega
    have w2' : IntKind.i64.wrap ((k : Int) + 1) = ((k + 1 : Nat) : Int) := by rw [IntKind.wrap_i64]; omega
    have w3' : IntKind.i64.wrap (97 + (m : Int)) = (c : Int) := by rw [IntKind.wrap_i64]; omega
    have w4' : IntKind.u8.wrap (c : Int) = (c : Int) := by rw [IntKind.wrap_u8]; omega
    have hp : pickZ (j : Int) 26 = (m : Int) := by rw [← hm]; exact pickZ_nat j 26
    have hl := rootK_len n k hk
    have hcl := HR.out.get (i := k) (by omega)
    have hfz := HR.out.free k (by omega)
    obtain ⟨q, hq⟩ := oQ ((rootK n k)[k]'(by omega))
    rw [hq] at hcl
    have hset := HR.out.setv k (by omega) (letter n k) (.int .u8 (c : Int)) (by unfold letter bv; rw [hj, hm, hc, UInt8.toNat_ofNat']; congr 1; omega)
    rw [rootK_set n k hlt] at hset
    have HSET := hZ hset
    have HP := hZ hp
    clear hset hq hl hp
    go_wp2_with (first | (go_at_call 51; (with_reducible refine (pick18_walk _ _ _ (by omega) (by omega) (by omega) (by omega)).mono ?_); rintro e2 w2 ⟨rfl, rfl⟩; rw [HP.out]) | fail)
    go_round
    case rel => exact ⟨k + 1, by omega, rfl, HSET.out, HB.out.setCell (p := ⟨w.heap.size, k, none⟩) (Nat.le_refl _) _⟩
    case measure => simp; omega
  · have d1 : decide (k < 32) = false := by simp; omega
    obtain rfl : k = 32 := by omega
    have hcv := HR.out.convert (P := Tryz.prog) (cap := 32) (rootK_len n 32 (Nat.le_refl _)) 116 9 5 Tryz.underlying116 Tryz.underlying5 Tryz.underlying9
    have hr : rootK n 32 = rootL n := by unfold rootK rootL; simp
    rw [hr] at hcv
    go_wp2
    go_ret
    exact ⟨rfl, HB.out⟩
theorem n_walk (s : ByteArray) (w : World) : Calls Tryz.prog 50 #[.string s] w fun e w' => e = .returned (.agg #[.string s, .string ⟨#[49]⟩]) ∧ Below w.heap.size w w' := by
 go_enter Tryz.func50, Tryz.ntmps50
 go_wp2_with (first
  | (refine wpList_build rfl 29 #[(0, .tmp 3), (1, .const (.string ⟨#[49]⟩))] rfl #[.string s, .string ⟨#[49]⟩] (by kernel_rfl) ?_)
  | ((with_reducible refine wpList_store_rowN rfl 29 (.tmp 2) (.tmp 4) rfl rfl w.heap.size #[.string s, .string ⟨#[49]⟩] #[.string ⟨#[]⟩, .string ⟨#[]⟩] rfl ?hy ?hi (World.alloc_heap_new _ _) ?ho ?h1 ?_); (case hy => rfl); (case hi => kernel_rfl); (case ho => rfl); (case h1 => simp [Value.oneCell']); intro w9 hc9 ht9)
  | fail)
 have hr : w9.rangeAt w.heap.size 0 [.string s, .string ⟨#[49]⟩] := fun k u hv => cells_i hc9 (by simpa using hv)
 refine bodyPost_ret (results_cellN rfl _ _ w.heap.size [.string s, .string ⟨#[49]⟩] _ rfl hr Tryz.underlying29 rfl (by kernel_rfl)) rfl ?_
 exact ⟨rfl, ht9.below (below_new w _) (Nat.le_refl _) (fun k hk => by omega)⟩
theorem EAt.of_block {w : World} {b : Nat} {l : List Ent} {T : TypeId} (h : w.heap[b]? = some (.cells (l.flatMap Ent.cells).toArray T (0, 0))) : EAt w (Old w) (some ⟨b, 0, none⟩) l := fun i e he => by
 refine ⟨b, rfl, (Array.getElem?_eq_some_iff.1 h).1, fun j v hv => cells_i h ?_⟩
 have hj : j < 18 := (List.getElem?_eq_some_iff.1 hv).1
 have := flat_at (f := Ent.cells) (s := 18) (fun _ => rfl) l i e he j hj
 simpa using this.trans hv
theorem wpList_build_ents {ops : Array Oper} {rest : List Oper} {o : Oper} {a : Act} {w : World} {Q : Exit → Act → World → Prop} (hgd : o.guard = none) (n : Nat) (parts : Array (Nat × Operand)) (ho : o.op = .buildSlice 25 n parts) (hn : 0 < n ∧ n ≤ 1000) (l : List Ent)
 (hlen : l.length = n) (hparts : (parts.map fun (i, x) => (i, a.eval x)).toList = ((l.map Ent.val).zipIdx 0).map fun x => (x.2, x.1))
 (hk : ∀ b V, w.heap.size = b → Below b w V → EAt V (Old V) (some ⟨b, 0, none⟩) l → wpList Tryz.prog ops Q rest (a.put o.dst (.slice (some ⟨b, 0, none⟩) n n)) V) : wpList Tryz.prog ops Q (o :: rest) a w := by
 refine wpList_plain hgd fun K hK => ?_
 have h := hK _ _ (hk _ _ rfl (below_new w (.cells (l.flatMap Ent.cells).toArray 33)) (EAt.of_block (World.alloc_heap_new w _)))
 obtain ⟨i, h1, h2, h3, h4⟩ := info_parts (show (Tryz.prog.info? 33).map (fun i => (i.zero, i.size, i.bytes)) = some (some zeroE.val, 18, 200) by kernel_rfl)
 refine wp_buildSlice 25 33 n parts ho (l.flatMap Ent.cells).toArray i zeroE.val Tryz.underlying25 h1 h2 (by rw [h3]; omega) (by rw [h3]; omega) ?_ h
 rw [h3, hparts]
 have hc : ∀ v ∈ l.map Ent.val, v.cells.size = 18 := fun v hv => by
  obtain ⟨e, _, rfl⟩ := List.mem_map.1 hv
  rfl
 have := Great.fill_whole (s := 18) (by decide) (l.map Ent.val) ((Array.range (n * 18)).map (zeroE.val.cells[· % zeroE.val.cells.size]!)) hc (by simp [hlen])
 rw [this, List.flatMap_map]
 rfl
theorem root1_walk (w : World) : Calls Tryz.prog 43 #[.int .i64 1] w fun e w' => e = .returned (.string (rootB 1)) ∧ Below w.heap.size w w' := root_walk 1 (by omega) w
theorem root2_walk (w : World) : Calls Tryz.prog 43 #[.int .i64 2] w fun e w' => e = .returned (.string (rootB 2)) ∧ Below w.heap.size w w' := root_walk 2 (by omega) w
def ex1 : Ent := { zeroE with kind := 2, ver := 1, item := 2, rn := ⟨#[49]⟩, rd := ⟨#[49, 48]⟩ }
def ex2 : Ent := { zeroE with kind := 1, ver := 1, day := 10, id := 1, item := 2, lab := 1, frm := 10, ln := ⟨#[52]⟩, ld := ⟨#[49]⟩, hn := ⟨#[53]⟩, hd := ⟨#[49]⟩ }
def ex3 : Ent := { zeroE with kind := 1, ver := 1, day := 30, id := 2, item := 2, lab := 1, frm := 5, ln := ⟨#[51]⟩, ld := ⟨#[49]⟩, hn := ⟨#[52]⟩, hd := ⟨#[49]⟩ }
def ex4 : Ent := { zeroE with kind := 5, ver := 1, id := 1, lab := 3, til := 100, text := rootB 1 }
def ex5 : Ent := { zeroE with kind := 5, ver := 1, id := 2, lab := 3, frm := 50, til := 200, text := rootB 2 }
def ex6 : Ent := { zeroE with kind := 6, ver := 1, item := 2, frm := 60 }
def ex7 : Ent := { zeroE with kind := 9, ver := 1, id := 1, item := 2, person := 9 }
def ex8 : Ent := { zeroE with kind := 8, ver := 1, item := 2, rn := ⟨#[51]⟩, rd := ⟨#[49]⟩ }
def exL : List Ent := [ex1, ex2, ex3, ex4, ex5, ex6, ex7, ex8]
set_option maxRecDepth 100000 in
set_option maxHeartbeats 2000000 in
theorem example_walk (w : World) : Calls Tryz.prog 48 #[] w fun e w' => ∃ b, e = .returned (.slice (some ⟨b, 0, none⟩) 8 8) ∧ EAt w' (Old w') (some ⟨b, 0, none⟩) exL ∧ Below w.heap.size w w' := by
 have HB := hZ (Below.refl w.heap.size w)
 go_enter Tryz.func48, Tryz.ntmps48
 go_wp2_with (first
  | ((with_reducible refine wpList_build_ents rfl 8 #[(0, .tmp 2), (1, .tmp 6), (2, .tmp 10), (3, .tmp 12), (4, .tmp 14), (5, .tmp 15), (6, .tmp 16), (7, .tmp 18)] rfl ?hn exL ?hl ?hp ?_); (case hn => decide); (case hl => rfl); (case hp => kernel_rfl); intro b V hb hbl hat; have HAT := hZ hat; have HB := hZ (HB.out.trans (hbl.mono (by have := HB.out.size; omega))); clear hb hbl hat)
  | (refine wpList_build rfl 29 #[(0, .const (.string ⟨#[49]⟩)), (1, .const (.string ⟨#[49, 48]⟩))] rfl #[.string ⟨#[49]⟩, .string ⟨#[49, 48]⟩] (by kernel_rfl) ?_)
  | (refine wpList_build rfl 33 #[(0, .const (.int .i64 2)), (2, .const (.int .i64 1)), (8, .const (.int .i64 2)), (12, .tmp 1)] rfl ex1.cells.toArray (by kernel_rfl) ?_)
  | (go_at_call 50; (with_reducible refine (n_walk _ _).mono ?_); rintro e2 w2 ⟨rfl, hb2⟩; have HB := bTr HB hb2; clear hb2)
  | (go_at_call 43; (first | (with_reducible refine (root1_walk _).mono ?_) | (with_reducible refine (root2_walk _).mono ?_)); rintro e2 w2 ⟨rfl, hb2⟩; have HB := bTr HB hb2; clear hb2)
  | fail)
 go_ret
 exact ⟨b, rfl, HAT.out, HB.out⟩
theorem beq_bytes (s t : ByteArray) : (s.toList == t.toList) = decide (s = t) := by
 by_cases h : s = t
 · subst h; simp
 · have : s.toList ≠ t.toList := fun q => h (toList_inj q)
   simp [h, this]
def keyIs (B : Bas) (t : Int) (n : Nat) : Bool := (keyB B 3 t).2 && decide ((keyB B 3 t).1.text = rootB n)
theorem one_base (B : Bas) : B.cells.toArray.all (·.oneCell') = true := by simp [Bas.cells, Value.oneCell']
theorem box_row {P : Program} {ops : Array Oper} {rest : List Oper} {op : Oper} {a : Act} {w : World} {Q : Exit → Act → World → Prop} (hgd : op.guard = none) (T : TypeId) (x : Operand) (ho : op.op = .box T x) (cs : Array Value) (hx : a.eval x = .agg cs)
 (h : ∀ b w', w.heap.size = b → w'.heap[b]? = some (.cells cs T (0, 0)) → Below b w w' → w'.heap.size = b + 1 → wpList P ops Q rest (a.put op.dst (.pointer (some ⟨b, 0, none⟩))) w') : wpList P ops Q (op :: rest) a w :=
 wpList_plain hgd fun _ hK => by
  have h2 := hK _ _ (h _ (w.alloc (.cells cs T)) rfl (World.alloc_heap_new w _) (below_new w _) (by simp))
  unfold Oper.wp execOp
  simp only [ho, hx, Instr.box, Sem.run_bind, Sem.run_pure, newVar, newRow, Value.cells]
  simpa [go_sem] using h2
theorem ibase (B : Bas) : (Tryz.prog.info? 36).map (·.size) = some B.cells.length := by kernel_rfl
set_option maxHeartbeats 2000000 in
theorem keyIs_walk (B : Bas) (t : Int) (n : Nat) (hn : n ≤ 1000000) (w : World) (hB : BasAt w (Old w) B) : Calls Tryz.prog 49 #[B.val, .int .i64 t, .int .i64 n] w (ValP w (keyIs B t n)) := by
 have HB := hZ hB
 clear hB
 obtain ⟨q, hq⟩ := oQ ((keyB B 3 t).2)
 obtain ⟨s, hs⟩ := oQ ((keyB B 3 t).1.text)
 have hk : keyIs B t n = (q && decide (s = rootB n)) := by unfold keyIs; rw [hq, hs]
 have HKW : Hid (∀ W, Below w.heap.size w W → Calls Tryz.prog 23 #[B.val, .int .i64 3, .int .i64 t] W fun e w' => e = .returned (.tuple #[.string s, .bool q]) ∧ Below W.heap.size W w') := hZ (fun W hW => by
  have := knownKey_walk B 3 t W (HB.out.below hW)
  rw [hq, hs] at this
  exact this)
 rw [hk]
 clear hq hs hk
 go_enter Tryz.func49, Tryz.ntmps49
 cases q
 · go_wp2_with (first
    | ((with_reducible refine box_row rfl 36 (.tmp 0) rfl B.cells.toArray ?hx ?_); (case hx => rfl); intro b0 w1 hb0 hn1 hb1 hs1
       have HR : Hid (w1.rangeAt b0 0 B.cells) := hZ (range_of hn1)
       have HB1 : Hid (Below w.heap.size w w1) := hZ (hb1.mono (by omega))
       clear hb0 hn1 hb1 hs1)
    | ((with_reducible refine wpList_load_mid rfl 36 (.tmp 3) rfl b0 0 ?hx B.cells _ HR.out Tryz.underlying36 rfl ?hi ?_); (case hx => rfl); (case hi => exact ibase B))
    | (go_at_call 23; (with_reducible refine (HKW.out _ HB1.out).mono ?_); rintro e2 w2 ⟨rfl, hb2⟩; have HB2 := bTr HB1 hb2; clear hb2)
    | fail)
   go_ret
   exact ⟨rfl, HB2.out⟩
 · go_wp2_with (first
    | ((with_reducible refine box_row rfl 36 (.tmp 0) rfl B.cells.toArray ?hx ?_); (case hx => rfl); intro b0 w1 hb0 hn1 hb1 hs1
       have HR : Hid (w1.rangeAt b0 0 B.cells) := hZ (range_of hn1)
       have HB1 : Hid (Below w.heap.size w w1) := hZ (hb1.mono (by omega))
       clear hb0 hn1 hb1 hs1)
    | ((with_reducible refine wpList_load_mid rfl 36 (.tmp 3) rfl b0 0 ?hx B.cells _ HR.out Tryz.underlying36 rfl ?hi ?_); (case hx => rfl); (case hi => exact ibase B))
    | (go_at_call 23; (with_reducible refine (HKW.out _ HB1.out).mono ?_); rintro e2 w2 ⟨rfl, hb2⟩; have HB2 := bTr HB1 hb2; clear hb2)
    | (go_at_call 43; (with_reducible refine (root_walk n hn _).mono ?_); rintro e3 w3 ⟨rfl, hb3⟩; have HB3 := bTr HB2 hb3; clear hb3)
    | fail)
   go_ret
   refine ⟨?_, HB3.out⟩
   show Ending.returned (.bool (s.toList == (rootB n).toList)) = _
   rw [beq_bytes, Bool.true_and]
end Go.Proofs.YteeifhlhpiimoaaGreatDoor
end
section
namespace Go.Proofs.YteeifhlhpiimoaaGreatDoor
open Go Go.RowKit Go.Shelf
theorem eff30 : effD exL 30 = exL := by kernel_rfl
theorem eff10 : effD exL 10 = [ex1, ex2, ex4, ex5, ex6, ex7, ex8] := by kernel_rfl
theorem eff9 : effD exL 9 = [ex1, ex4, ex5, ex6, ex7, ex8] := by kernel_rfl
theorem k9_0 : knownL exL 9 0 = [] := by unfold knownL; rw [eff9]; kernel_rfl
theorem k9_1 : knownL exL 9 1 = [ex1] := by unfold knownL; rw [eff9]; kernel_rfl
theorem k10_0 : knownL exL 10 0 = [ex2] := by unfold knownL; rw [eff10]; kernel_rfl
theorem k10_1 : knownL exL 10 1 = [ex1] := by unfold knownL; rw [eff10]; kernel_rfl
theorem k30_0 : knownL exL 30 0 = [ex2, ex3] := by unfold knownL; rw [eff30]; kernel_rfl
theorem k30_1 : knownL exL 30 1 = [ex1] := by unfold knownL; rw [eff30]; kernel_rfl
theorem k30_4 : knownL exL 30 4 = [ex4, ex5] := by unfold knownL; rw [eff30]; kernel_rfl
theorem k30_5 : knownL exL 30 5 = [ex6] := by unfold knownL; rw [eff30]; kernel_rfl
theorem k30_7 : knownL exL 30 7 = [ex8] := by unfold knownL; rw [eff30]; kernel_rfl
theorem k30_8 : knownL exL 30 8 = [ex7] := by unfold knownL; rw [eff30]; kernel_rfl
theorem hl10 : histL (aboutL [ex2] 2) = [ex2] := by kernel_rfl
theorem hl30 : histL (aboutL [ex2, ex3] 2) = [ex3, ex2] := by kernel_rfl
theorem su8 : setI (([ex7].filter fun e => decide (e.item = 2)).map fun e => e.person) = [9] := by kernel_rfl
end Go.Proofs.YteeifhlhpiimoaaGreatDoor
end
section
namespace Go.Proofs.YteeifhlhpiimoaaGreatDoor
open Go Go.RowKit Go.Shelf Wr
attribute [local go_sem] Oper.semAt_some
def RowAt {α : Type} (w : World) (f : α → List Value) (k : Nat) (A : Option Addr) (l : List α) : Prop := ∀ (i : Nat) (e : α), l[i]? = some e → ∃ b, A = some ⟨b, 0, none⟩ ∧ b < w.heap.size ∧ w.rangeAt b (i * k) (f e)
theorem RowAt.below {α : Type} {w W : World} {f : α → List Value} {k : Nat} {A : Option Addr} {l : List α} (h : RowAt w f k A l) (hb : Below w.heap.size w W) : RowAt W f k A l := fun i e he => by
 obtain ⟨b, h1, h2, h3⟩ := h i e he
 exact ⟨b, h1, Nat.lt_of_lt_of_le h2 hb.size, fun j v hv => (hb.cell (p := ⟨b, i * k + j, none⟩) h2).trans (h3 j v hv)⟩
theorem RowAt.of_ol {α : Type} {w : World} {B n c k : Nat} {A : Option Addr} {l : List α} {T : TypeId} {f : α → List Value} (hf : ∀ x, (f x).length = k) (h : OL w B T k f (.slice A n c) l) : RowAt w f k A l := by
 intro i e he
 rcases h.2 with ⟨e1, h0⟩ | ⟨g, cap, cur, e1, hb, hc, h4, h5, h6, h7⟩
 · have : l = [] := List.eq_nil_of_length_eq_zero h0
   subst this; simp at he
 · injection e1 with e1 e2 _
   subst e1 e2
   refine ⟨g, rfl, (Array.getElem?_eq_some_iff.1 hc).1, fun j v hv => ?_⟩
   have hj : j < k := by rw [← hf e]; exact (List.getElem?_eq_some_iff.1 hv).1
   have hi : i < l.length := (List.getElem?_eq_some_iff.1 he).1
   have hlen : (l.flatMap f).length = l.length * k := flatMap_length hf
   have hlt : i * k + j < l.length * k := by
    have : (i + 1) * k ≤ l.length * k := Nat.mul_le_mul_right _ hi
    rw [Nat.add_mul] at this; omega
   rw [World.ownsRow.cellAt h (i * k + j) (by omega), flat_at (f := f) (s := k) hf l i e he j hj]; exact hv
theorem RowAt.of_block {α : Type} {w : World} {b k : Nat} {l : List α} {T : TypeId} {f : α → List Value} (hf : ∀ x, (f x).length = k) (h : w.heap[b]? = some (.cells (l.flatMap f).toArray T (0, 0))) : RowAt w f k (some ⟨b, 0, none⟩) l := fun i e he => by
 refine ⟨b, rfl, (Array.getElem?_eq_some_iff.1 h).1, fun j v hv => cells_i h ?_⟩
 have hj : j < k := by rw [← hf e]; exact (List.getElem?_eq_some_iff.1 hv).1
 have := flat_at (f := f) (s := k) hf l i e he j hj
 simpa using this.trans hv
def susEq (e f : Sus) : Bool := decide (e.item = f.item ∧ e.frm = f.frm ∧ e.til = f.til)
theorem susEq_iff (e f : Sus) : susEq e f = true ↔ e = f := by
 unfold susEq
 rw [decide_eq_true_eq]
 constructor
 · rintro ⟨h0, h1, h2⟩; cases e; cases f; simp only [Sus.mk.injEq]; exact ⟨h0, h1, h2⟩
 · rintro rfl; simp
instance susDec : DecidableEq Sus := fun e f => decidable_of_iff (susEq e f = true) (susEq_iff e f)
theorem guard_sus (x y : Operand) (cs ds : Array Value) (W : World) : (eqGuard .neq 75 x y (.agg cs) (.agg ds)).run Tryz.prog W = .ok () W := by kernel_rfl
set_option maxHeartbeats 2000000 in
theorem neq_sus (e f : Sus) (W : World) : (binOp .neq 75 (.agg (susC e).toArray) (.agg (susC f).toArray)).run Tryz.prog W = .ok (.bool (!susEq e f)) W := by
 obtain ⟨a0, a1, a2⟩ := e
 obtain ⟨b0, b1, b2⟩ := f
 unfold susC susEq
 simp only []
 go_simp
 by_cases h0 : a0 = b0
 case neg => simp [h0]
 rw [if_pos h0]
 by_cases h1 : a1 = b1
 case neg => simp [h1]
 rw [if_pos h1]
 by_cases h2 : a2 = b2
 case neg => simp [h2]
 simp [h0, h1, h2]
set_option maxRecDepth 100000 in
set_option maxHeartbeats 4000000 in
theorem sameInts_walk (l m : List Int) (A A2 : Option Addr) (n c n2 c2 : Nat) (hn : l.length = n) (hn2 : m.length = n2) (hm : n ≤ maxLen) (w : World) (hA : RowAt w (one iv) 1 A l) (hA2 : RowAt w (one iv) 1 A2 m) :
 Calls Tryz.prog 30 #[.slice A n c, .slice A2 n2 c2] w (ValP w (decide (l = m))) := by
 have hm' : n ≤ 9223372036854775807 := by unfold maxLen at hm; omega
 have HA := hZ hA
 have HA2 := hZ hA2
 have HN := hZ hn
 have HN2 := hZ hn2
 clear hA hA2 hm
 by_cases hnn : n = n2
 · subst hnn
   clear hn hn2
   have d0 : ((n : Int) != (n : Int)) = false := by simp
   go_enter Tryz.func30, Tryz.ntmps30
   go_wp2_with fail
   go_loopw [5] (fun v wr => ∃ i : Nat, v = .int .i64 (i : Int) ∧ i ≤ n ∧ Hid (l.take i = m.take i) ∧ Below w.heap.size w wr) (fun v _ => match v with | .int _ k => n - k.toNat | _ => 0)
   case atStart => exact ⟨0, rfl, Nat.zero_le _, hZ rfl, Below.refl _ _⟩
   case round =>
    obtain ⟨i, rfl, hi, HT, hB⟩ := hrel
    have HB := hZ hB
    clear hB
    by_cases hlt : i < n
    · obtain ⟨e, he⟩ : ∃ e, l[i]? = some e := ⟨_, List.getElem?_eq_getElem (by rw [HN.out]; exact hlt)⟩
      obtain ⟨f, hf⟩ : ∃ f, m[i]? = some f := ⟨_, List.getElem?_eq_getElem (by rw [HN2.out]; exact hlt)⟩
      obtain ⟨b, hAb, -, hrg⟩ := (HA.out.below HB.out) i e he
      obtain ⟨b', hAb', -, hrg'⟩ := (HA2.out.below HB.out) i f hf
      subst hAb hAb'
      have HE := hZ (And.intro he hf)
      have d1 : decide (i < n) = true := by simp [hlt]
      have z1 : (0 : Int) ≤ (i : Int) := by omega
      have z2 : (i : Int) < (n : Int) := by omega
      have w1 : IntKind.i64.wrap ((i : Int) + 1) = ((i + 1 : Nat) : Int) := by rw [IntKind.wrap_i64]; omega
      obtain ⟨q, hq⟩ := oQ ((e != f))
      have hS0 : wr.drew.cell? ⟨b, i, none⟩ = some (.int .i64 e) ∧ wr.drew.cell? ⟨b', i, none⟩ = some (.int .i64 f) := by
       have h1 := hrg 0 _ rfl
       have h2 := hrg' 0 _ rfl
       rw [Nat.mul_one, Nat.add_zero] at h1 h2
       exact ⟨h1, h2⟩
      clear he hf hrg hrg'
      go_wp2_with fail
      refine wp_region_noPanic ?_
      refine wp_region_held_drew (S := fun U => U.cell? ⟨b, i, none⟩ = some (.int .i64 e) ∧ U.cell? ⟨b', i, none⟩ = some (.int .i64 f)) (by kernel_rfl) hS0 (fun hHeld => ?_)
      refine tk 0 ?_
      refine tk 1 ?_
      refine tk 2 ?_
      refine tk 3 ?_
      refine tk 4 ?_
      refine tk 5 ?_
      refine tk 6 ?_
      refine tk 7 ?_
      refine tk 8 ?_
      refine dn ?_
      have HBd : Hid (Below w.heap.size w wr.drew) := hZ (Below.drew HB.out)
      clear hHeld hS0
      cases q
      · go_wp2
        have hef : e = f := by simpa using hq
        have ht : l.take (i + 1) = m.take (i + 1) := by rw [List.take_add_one, List.take_add_one, HT.out, HE.out.1, HE.out.2, hef]
        have HTT := hZ ht
        clear ht hef
        go_round
        case rel => exact ⟨i + 1, rfl, by omega, HTT, HBd.out⟩
        case measure => simp; omega
      · go_wp2
        go_ret
        have hne : l ≠ m := fun h => by
         have h1 := HE.out.1
         rw [h, HE.out.2] at h1
         have h2 : f = e := Option.some.inj h1
         rw [h2] at hq; simp at hq
        rw [decide_eq_false hne]
        exact ⟨rfl, HBd.out⟩
    · have d1 : decide (i < n) = false := by simp; omega
      obtain rfl : i = n := by omega
      have hlm : l = m := by
       have := HT.out
       rwa [List.take_of_length_le (by rw [HN.out]; omega), List.take_of_length_le (by rw [HN2.out]; omega)] at this
      have HLM := hZ hlm
      clear hlm
      go_wp2_with fail
      go_ret
      rw [decide_eq_true HLM.out]
      exact ⟨rfl, HB.out⟩
 · have d0 : ((n : Int) != (n2 : Int)) = true := by simp; omega
   have hlm : l ≠ m := fun h => hnn (by rw [← hn, ← hn2, h])
   rw [decide_eq_false hlm]
   clear hn hn2 hlm
   go_enter Tryz.func30, Tryz.ntmps30
   go_wp2
   go_ret
   exact ⟨rfl, Below.refl _ _⟩
set_option maxRecDepth 100000 in
set_option maxHeartbeats 4000000 in
theorem sameSus_walk (l m : List Sus) (A A2 : Option Addr) (n c n2 c2 : Nat) (hn : l.length = n) (hn2 : m.length = n2) (hm : n ≤ maxLen) (w : World) (hA : RowAt w susC 3 A l) (hA2 : RowAt w susC 3 A2 m) :
 Calls Tryz.prog 28 #[.slice A n c, .slice A2 n2 c2] w (ValP w (decide (l = m))) := by
 have hm' : n ≤ 9223372036854775807 := by unfold maxLen at hm; omega
 have HA := hZ hA
 have HA2 := hZ hA2
 have HN := hZ hn
 have HN2 := hZ hn2
 clear hA hA2 hm
 by_cases hnn : n = n2
 · subst hnn
   clear hn hn2
   have d0 : ((n : Int) != (n : Int)) = false := by simp
   go_enter Tryz.func28, Tryz.ntmps28
   go_wp2_with fail
   go_loopw [5] (fun v wr => ∃ i : Nat, v = .int .i64 (i : Int) ∧ i ≤ n ∧ Hid (l.take i = m.take i) ∧ Below w.heap.size w wr) (fun v _ => match v with | .int _ k => n - k.toNat | _ => 0)
   case atStart => exact ⟨0, rfl, Nat.zero_le _, hZ rfl, Below.refl _ _⟩
   case round =>
    obtain ⟨i, rfl, hi, HT, hB⟩ := hrel
    have HB := hZ hB
    clear hB
    by_cases hlt : i < n
    · obtain ⟨e, he⟩ : ∃ e, l[i]? = some e := ⟨_, List.getElem?_eq_getElem (by rw [HN.out]; exact hlt)⟩
      obtain ⟨f, hf⟩ : ∃ f, m[i]? = some f := ⟨_, List.getElem?_eq_getElem (by rw [HN2.out]; exact hlt)⟩
      obtain ⟨b, hAb, -, hrg⟩ := (HA.out.below HB.out) i e he
      obtain ⟨b', hAb', -, hrg'⟩ := (HA2.out.below HB.out) i f hf
      subst hAb hAb'
      have HE := hZ (And.intro he hf)
      have d1 : decide (i < n) = true := by simp [hlt]
      have z1 : (0 : Int) ≤ (i : Int) := by omega
      have z2 : (i : Int) < (n : Int) := by omega
      have w1 : IntKind.i64.wrap ((i : Int) + 1) = ((i + 1 : Nat) : Int) := by rw [IntKind.wrap_i64]; omega
      obtain ⟨q, hq⟩ := oQ ((!susEq e f))
      have HQ := hZ hq
      have HNE : Hid (∀ W, (binOp .neq 75 (.agg (susC e).toArray) (.agg (susC f).toArray)).run Tryz.prog W = .ok (.bool q) W) := hZ (fun W => by rw [← hq]; exact neq_sus e f W)
      have hS0 : World.rangeAt wr.drew b (i * 3) (susC e) ∧ World.rangeAt wr.drew b' (i * 3) (susC f) := ⟨hrg, hrg'⟩
      clear hq
      clear he hf hrg hrg'
      go_wp2_with fail
      refine wp_region_noPanic ?_
      refine wp_region_held_drew (S := fun U => World.rangeAt U b (i * 3) (susC e) ∧ World.rangeAt U b' (i * 3) (susC f)) (by kernel_rfl) hS0 (fun hHeld => ?_)
      refine tk 0 ?_
      refine tk 1 ?_
      refine tk 2 ?_
      refine tl 3 rfl (yieldsIf_load_mid (by rfl) 75 (.tmp 19) rfl b (i * 3) (by rfl) (susC e) _ (fun w hw => hw.1) Tryz.underlying75 rfl (by kernel_rfl)) ?_
      refine tk 4 ?_
      refine tk 5 ?_
      refine tk 6 ?_
      refine tl 7 rfl (yieldsIf_load_mid (by rfl) 75 (.tmp 23) rfl b' (i * 3) (by rfl) (susC f) _ (fun w hw => hw.2) Tryz.underlying75 rfl (by kernel_rfl)) ?_
      refine tl 8 rfl (yields_neq (by rfl) 75 75 (.tmp 20) (.tmp 24) (by rfl) (.agg (susC e).toArray) (.agg (susC f).toArray) (by rfl) (by rfl) q (fun w => guard_sus _ _ _ _ w) HNE.out) ?_
      refine dn ?_
      have HBd : Hid (Below w.heap.size w wr.drew) := hZ (Below.drew HB.out)
      clear hHeld hS0
      cases q
      · go_wp2
        have hef := (susEq_iff e f).1 (by simpa using HQ.out)
        have ht : l.take (i + 1) = m.take (i + 1) := by rw [List.take_add_one, List.take_add_one, HT.out, HE.out.1, HE.out.2, hef]
        have HTT := hZ ht
        clear ht hef
        go_round
        case rel => exact ⟨i + 1, rfl, by omega, HTT, HBd.out⟩
        case measure => simp; omega
      · go_wp2
        go_ret
        have hne : l ≠ m := fun h => by
         have h1 := HE.out.1
         rw [h, HE.out.2] at h1
         have h2 : f = e := Option.some.inj h1
         have h3 := HQ.out
         rw [h2, (susEq_iff e e).2 rfl] at h3; cases h3
        rw [decide_eq_false hne]
        exact ⟨rfl, HBd.out⟩
    · have d1 : decide (i < n) = false := by simp; omega
      obtain rfl : i = n := by omega
      have hlm : l = m := by
       have := HT.out
       rwa [List.take_of_length_le (by rw [HN.out]; omega), List.take_of_length_le (by rw [HN2.out]; omega)] at this
      have HLM := hZ hlm
      clear hlm
      go_wp2_with fail
      go_ret
      rw [decide_eq_true HLM.out]
      exact ⟨rfl, HB.out⟩
 · have d0 : ((n : Int) != (n2 : Int)) = true := by simp; omega
   have hlm : l ≠ m := fun h => hnn (by rw [← hn, ← hn2, h])
   rw [decide_eq_false hlm]
   clear hn hn2 hlm
   go_enter Tryz.func28, Tryz.ntmps28
   go_wp2
   go_ret
   exact ⟨rfl, Below.refl _ _⟩
structure St (w W : World) (L : List (Nat × Obj)) (Bs : List Bas) : Prop where
 at_ : At w W L
 bas : ∀ B ∈ Bs, BasAt W (Old W) B
 pow : Pow10 W
section
variable {w W W' : World} {L : List (Nat × Obj)} {Bs : List Bas}
theorem St.start (hp : Pow10 w) : St w w [] [] := ⟨At.start w, fun B h => absurd h (by simp), hp⟩
theorem St.step (h : St w W L Bs) (hb : Below W.heap.size W W') : St w W' L Bs := ⟨h.at_.step hb, fun B hB => (h.bas B hB).below hb, h.pow.below hb⟩
theorem St.drew (h : St w W L Bs) : St w W.drew L Bs := h.step (Below.drew (Below.refl _ _))
theorem St.add (h : St w W L Bs) {B : Bas} (hB : BasAt W (Old W) B) : St w W L (B :: Bs) := ⟨h.at_, fun C hC => by rcases List.mem_cons.1 hC with rfl | hC; exact hB; exact h.bas C hC, h.pow⟩
theorem St.put (h : St w W L Bs) {k : Nat} {o : Obj} (ho : W.heap[k]? = some o) : St w W ((k, o) :: L) Bs := ⟨h.at_.cons ho, h.bas, h.pow⟩
theorem St.row (h : St w W L Bs) {b : Nat} {cs : List Value} {t : TypeId} (hm : (b, .cells cs.toArray t (0, 0)) ∈ L) : W.rangeAt b 0 cs := range_of (h.at_.has _ hm)
end
theorem wpList_var {P : Program} {ops : Array Oper} {rest : List Oper} {o : Oper} {a : Act} {w V : World} {L : List (Nat × Obj)} {Bs : List Bas} {Q : Exit → Act → World → Prop} {old : Array Value} (hgd : o.guard = none) (T : TypeId) (x y : Operand) (ho : o.op = .store T x y) (hd : o.dst = none) (cs : Array Value)
 (hx : a.eval x = .pointer (some ⟨V.heap.size, 0, none⟩)) (hy : a.eval y = .agg cs) (hi : (P.info? T).map (·.size) = some cs.size) (hold : old.size = cs.size) (h1 : cs.all (·.oneCell') = true) (hSt : St w V L Bs)
 (hk : ∀ b V', V.heap.size = b → St w V' ((b, .cells cs T (0, 0)) :: L) Bs → wpList P ops Q rest a V') : wpList P ops Q (o :: rest) a (V.alloc (.cells old T)) := by
 refine wpList_store_rowN hgd T x y ho hd V.heap.size cs old hx hy hi (World.alloc_heap_new _ _) hold h1 fun V' h2 h3 => ?_
 exact hk _ V' rfl ((hSt.step (h3.below (below_new V _) (Nat.le_refl _) (fun k hk => by omega))).put h2)
theorem OL.first {α : Type} {w : World} {B k n : Nat} {T : TypeId} {f : α → List Value} {v x : Value} {l : List α} (h : OL w B T k f v l) (hn : l.length = n) (hl : 0 < n) (hk : 0 < k) (hx : (l.flatMap f)[0]? = some x) : ∃ g cap cur, v = .slice (some ⟨g, 0, none⟩) n cap ∧ w.heap[g]? = some (.cells cur T (0, 0)) ∧ cur[0]? = some x := by
 subst hn
 rcases h.2 with ⟨e1, h0⟩ | ⟨g, cap, cur, e1, hb, hc, h4, h5, h6, h7⟩
 · omega
 · refine ⟨g, cap, cur, e1, hc, ?_⟩
   have hm : 0 < l.length * k := Nat.mul_pos hl hk
   have h8 : (cur.toList.take (l.length * k))[0]? = some x := by rw [h7]; exact hx
   rw [List.getElem?_take, if_pos hm] at h8
   simpa using h8
theorem rootB_size (n : Nat) : (rootB n).size = 32 := by
 show (rootL n).toArray.size = 32
 simp [rootL]
theorem exW : ∀ e ∈ exL, e.Wire := by
 have h1 := rootB_size 1
 have h2 := rootB_size 2
 intro e he
 simp only [exL, List.mem_cons, List.not_mem_nil, or_false] at he
 rcases he with rfl | rfl | rfl | rfl | rfl | rfl | rfl | rfl
 · exact ⟨by decide, by decide, by decide, by decide, by decide, by decide, by decide⟩
 · exact ⟨by decide, by decide, by decide, by decide, by decide, by decide, by decide⟩
 · exact ⟨by decide, by decide, by decide, by decide, by decide, by decide, by decide⟩
 · exact ⟨by decide, by decide, by decide, by decide, by decide, by decide, by show (rootB 1).size ≤ 65536; omega⟩
 · exact ⟨by decide, by decide, by decide, by decide, by decide, by decide, by show (rootB 2).size ≤ 65536; omega⟩
 · exact ⟨by decide, by decide, by decide, by decide, by decide, by decide, by decide⟩
 · exact ⟨by decide, by decide, by decide, by decide, by decide, by decide, by decide⟩
 · exact ⟨by decide, by decide, by decide, by decide, by decide, by decide, by decide⟩
def ExB (B : Bas) (day : Int) : Prop := ∀ j, j < 9 → B.ls j = knownL exL day j
def HistIs (ps : List Pt) (w : World) (e : Ending) (w' : World) : Prop := ∃ v, e = .returned (.agg #[.string ⟨#[49]⟩, .string ⟨#[49, 48]⟩, v]) ∧ OL w' w.heap.size 86 5 ptC v ps ∧ Below w.heap.size w w'
theorem hist_of (B : Bas) (l0 : List Ent) (ps : List Pt) (h0 : B.ls 0 = l0) (h1 : B.ls 1 = [ex1]) (hl : l0.length ≤ 1000000) (h20 : (aboutL l0 2).length < 20) (hps : (histL (aboutL l0 2)).map ptOf = ps) (w : World) (hB : BasAt w (Old w) B) :
 Calls Tryz.prog 27 #[B.val, .int .i64 2] w (HistIs ps w) := by
 refine (history_walk B 2 w hB (by rw [h0]; exact hl) (by rw [h0]; exact h20)).mono fun e w' q => ?_
 obtain ⟨v, rfl, h2, h3⟩ := q
 refine ⟨v, ?_, ?_, h3⟩
 · rw [h1]; rfl
 · unfold histPts at h2
   rw [h0, h1, hps] at h2
   exact h2
section
variable {B : Bas} {w : World} (hB : BasAt w (Old w) B)
include hB
theorem hist9 (h : ExB B 9) : Calls Tryz.prog 27 #[B.val, .int .i64 2] w (HistIs [] w) :=
 hist_of B [] [] (by rw [h 0 (by decide), k9_0]) (by rw [h 1 (by decide), k9_1]) (by simp) (by simp [aboutL]) (by kernel_rfl) w hB
theorem hist10 (h : ExB B 10) : Calls Tryz.prog 27 #[B.val, .int .i64 2] w (HistIs [ptOf ex2] w) :=
 hist_of B [ex2] [ptOf ex2] (by rw [h 0 (by decide), k10_0]) (by rw [h 1 (by decide), k10_1]) (by simp) (by decide) (by rw [hl10]; rfl) w hB
theorem hist30 (h : ExB B 30) : Calls Tryz.prog 27 #[B.val, .int .i64 2] w (HistIs [ptOf ex3, ptOf ex2] w) :=
 hist_of B [ex2, ex3] [ptOf ex3, ptOf ex2] (by rw [h 0 (by decide), k30_0]) (by rw [h 1 (by decide), k30_1]) (by simp) (by decide) (by rw [hl30]; rfl) w hB
theorem key101 (h : ExB B 30) : Calls Tryz.prog 23 #[B.val, .int .i64 3, .int .i64 101] w fun e w' => e = .returned (.tuple #[.string ⟨#[]⟩, .bool false]) ∧ Below w.heap.size w w' := by
 have hk : keyB B 3 101 = (zeroE, false) := by unfold keyB; rw [h 4 (by decide), h 5 (by decide), k30_4, k30_5]; kernel_rfl
 have := knownKey_walk B 3 101 w hB
 rw [hk] at this
 exact this
theorem keyx (h : ExB B 30) (t : Int) (n : Nat) (hn : n ≤ 1000000) (hk : ((keyFold ([ex4, ex5].filter fun e => (decide (e.frm ≤ t) && decide (t ≤ e.til)) && (decide (e.lab = 3) && !(revoked [ex6] e.id t)))).2 && decide ((keyFold ([ex4, ex5].filter fun e => (decide (e.frm ≤ t) && decide (t ≤ e.til)) && (decide (e.lab = 3) && !(revoked [ex6] e.id t)))).1.text = rootB n)) = true) :
 Calls Tryz.prog 49 #[B.val, .int .i64 t, .int .i64 n] w (ValP w true) := by
 have := keyIs_walk B t n hn w hB
 have hi : keyIs B t n = true := by unfold keyIs keyB; rw [h 4 (by decide), h 5 (by decide), k30_4, k30_5]; exact hk
 rw [hi] at this
 exact this
theorem key49 (h : ExB B 30) : Calls Tryz.prog 49 #[B.val, .int .i64 49, .int .i64 1] w (ValP w true) := keyx hB h 49 1 (by decide) (by kernel_rfl)
theorem key50 (h : ExB B 30) : Calls Tryz.prog 49 #[B.val, .int .i64 50, .int .i64 2] w (ValP w true) := keyx hB h 50 2 (by decide) (by kernel_rfl)
theorem key59 (h : ExB B 30) : Calls Tryz.prog 49 #[B.val, .int .i64 59, .int .i64 2] w (ValP w true) := keyx hB h 59 2 (by decide) (by kernel_rfl)
theorem key60 (h : ExB B 30) : Calls Tryz.prog 49 #[B.val, .int .i64 60, .int .i64 1] w (ValP w true) := keyx hB h 60 1 (by decide) (by kernel_rfl)
theorem key100 (h : ExB B 30) : Calls Tryz.prog 49 #[B.val, .int .i64 100, .int .i64 1] w (ValP w true) := keyx hB h 100 1 (by decide) (by kernel_rfl)
theorem bud30 (h : ExB B 30) : Calls Tryz.prog 24 #[B.val, .int .i64 2] w fun e w' => e = .returned (.tuple #[.agg #[.string ⟨#[51]⟩, .string ⟨#[49]⟩], .bool true]) ∧ Below w.heap.size w w' := by
 have := budget_walk B 2 w hB
 rw [h 7 (by decide), k30_7] at this
 exact this
theorem cust30 (h : ExB B 30) : Calls Tryz.prog 31 #[B.val, .int .i64 2] w fun e w' => ∃ v, e = .returned v ∧ OL w' w.heap.size 3 1 (one iv) v [9] ∧ Below w.heap.size w w' := by
 have := customers_walk B 2 w hB (by rw [h 8 (by decide), k30_8]; decide)
 unfold customersB at this
 rw [h 8 (by decide), k30_8, su8] at this
 exact this
end
theorem same_self {B : Bas} {w : World} (hB : BasAt w (Old w) B) : Calls Tryz.prog 14 #[B.val, B.val] w (ValP w true) := by
 have := same_walk B B w hB hB
 rwa [(sameB_iff B B).2 (fun _ _ => rfl)] at this
theorem same_not {B C : Bas} {w : World} (hB : BasAt w (Old w) B) (hC : BasAt w (Old w) C) (h10 : ExB B 10) (h30 : ExB C 30) : Calls Tryz.prog 14 #[B.val, C.val] w (ValP w false) := by
 have := same_walk B C w hB hC
 have hn : sameB B C = false := by
  cases hs : sameB B C with
  | false => rfl
  | true =>
    have := (sameB_iff B C).1 hs 0 (by decide)
    rw [h10 0 (by decide), h30 0 (by decide), k10_0, k30_0] at this
    injection this with _ this
    cases this
 rwa [hn] at this
theorem OL.empty {α : Type} {w : World} {B k : Nat} {T : TypeId} {f : α → List Value} {v : Value} (h : OL w B T k f v ([] : List α)) : ∃ A c, v = .slice A 0 c := by
 obtain ⟨A, c, e, -, -⟩ := h.slice
 exact ⟨A, c, e⟩
theorem sameInts9 {w : World} {A A2 : Option Addr} {c c2 : Nat} (hA : RowAt w (one iv) 1 A [9]) (hA2 : RowAt w (one iv) 1 A2 [9]) : Calls Tryz.prog 30 #[.slice A 1 c, .slice A2 1 c2] w (ValP w true) :=
 sameInts_walk [9] [9] A A2 1 c 1 c2 rfl rfl (by decide) w hA hA2
theorem eql_rat (a b : ByteArray) (W : World) : (binOp .eql 29 (.agg #[.string a, .string b]) (.agg #[.string a, .string b])).run Tryz.prog W = .ok (.bool true) W := by
 go_simp
theorem guard_rat (x y : Operand) (cs ds : Array Value) (W : World) : (eqGuard .eql 29 x y (.agg cs) (.agg ds)).run Tryz.prog W = .ok () W := by kernel_rfl
end Go.Proofs.YteeifhlhpiimoaaGreatDoor
end
