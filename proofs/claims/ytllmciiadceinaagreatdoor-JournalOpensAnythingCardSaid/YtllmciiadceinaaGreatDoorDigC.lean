/-
  The contract of package digest's processing of a block. Conditions: the block has 64 bytes, the words are words, and the table's variable holds the table.
-/
import Derived.Test.YtllmciiadceinaaGreatDoorDigB
import Derived.OwnWalk
import Derived.Laws.IdiomCopy
import Derived.Test.YtllmciiadceinaaGreatDoorMemLaws
namespace Go.Proofs.YtllmciiadceinaaGreatDoor
open Go Go.RowKit

theorem eight {l : List Nat} (h : l.length = 8) : ∃ a b c d e f g i, l = [a, b, c, d, e, f, g, i] := by
  match l, h with
  | [a, b, c, d, e, f, g, i], _ => exact ⟨a, b, c, d, e, f, g, i, rfl⟩
theorem round_length (v : List Nat) (k w : Nat) : (round v k w).length = 8 := rfl
theorem rounds_length {ws v : List Nat} (h : v.length = 8) (k : Nat) : (rounds ws v k).length = 8 := by
  cases k with
  | zero => exact h
  | succ k => rfl
theorem round_lt {v : List Nat} {k w : Nat} (h : ∀ x ∈ v, x < 4294967296) : ∀ x ∈ round v k w, x < 4294967296 := by
  have hg : ∀ i, v.getD i 0 < 4294967296 := fun i => by
    rw [List.getD_eq_getElem?_getD]
    cases hi : v[i]? with
    | none => decide
    | some x => exact h x (List.mem_of_getElem? hi)
  intro x hx
  unfold round at hx
  simp only [List.mem_cons, List.not_mem_nil, or_false] at hx
  rcases hx with rfl | rfl | rfl | rfl | rfl | rfl | rfl | rfl
  · exact Nat.mod_lt _ (by decide)
  · exact hg 0
  · exact hg 1
  · exact hg 2
  · exact Nat.mod_lt _ (by decide)
  · exact hg 4
  · exact hg 5
  · exact hg 6
theorem rounds_lt {ws v : List Nat} (h : ∀ x ∈ v, x < 4294967296) (k : Nat) : ∀ x ∈ rounds ws v k, x < 4294967296 := by
  induction k with
  | zero => exact h
  | succ k ih => exact round_lt ih
/-- The table's variable holds the table. -/
def KAt (w : World) : Prop := w.rangeAt 3 0 (shaK.map wv)
theorem KAt.below {w w' : World} (h : KAt w) (hb : Below w.heap.size w w') : KAt w' := fun j v hv => by
  have := h j v hv
  exact (hb.cell (cell_lt this)).trans this

theorem KAt.but {w w' : World} {g : Nat} (h : KAt w) (hb : But g w w') (hg : g ≠ 3) : KAt w' := fun j v hv => by
  have := h j v hv
  exact (World.cell?_of_block (a := ⟨3, 0 + j, none⟩) (hb.block _ (cell_lt this) hg.symm)).trans this
theorem KAt.lt {w : World} (h : KAt w) : 3 < w.heap.size := cell_lt (h 0 (wv 1116352408) rfl)

/-- The first j words with what is added to them, the others as they were. -/
def sumTo (h v : List Nat) (j : Nat) : List Nat := (List.zipWith (fun x y => (x + y) % 4294967296) h v).take j ++ h.drop j
theorem sumTo_zero {h v : List Nat} : sumTo h v 0 = h := by simp [sumTo]
theorem sumTo_all {h v : List Nat} (hh : h.length = 8) (hv : v.length = 8) : sumTo h v 8 = List.zipWith (fun x y => (x + y) % 4294967296) h v := by
  unfold sumTo
  rw [List.take_of_length_le (by simp [hh, hv]), List.drop_of_length_le (by omega), List.append_nil]
theorem sumTo_set {h v : List Nat} {j : Nat} (hh : j < h.length) (hv : j < v.length) : (sumTo h v j)[j]? = some h[j] ∧ j < (sumTo h v j).length ∧ (sumTo h v j).set j ((h[j] + v[j]) % 4294967296) = sumTo h v (j + 1) := by
  have hz : j < (List.zipWith (fun x y => (x + y) % 4294967296) h v).length := by simp; omega
  have hl : ((List.zipWith (fun x y => (x + y) % 4294967296) h v).take j).length = j := by simp; omega
  unfold sumTo
  refine ⟨?_, by simp; omega, ?_⟩
  · rw [List.getElem?_append_right (by omega), hl, Nat.sub_self, List.getElem?_drop, List.getElem?_eq_getElem (by omega)]; rfl
  · rw [List.set_append_right _ _ (by omega), hl, Nat.sub_self, List.drop_eq_getElem_cons hh, List.set_cons_zero, List.take_succ_eq_append_getElem hz]
    simp
/-- How memory stands inside add. -/
structure St (w : World) (g gw gv : Nat) (h ws vs : List Nat) (wr : World) : Prop where
  v : RAt wr gv wv vs
  s : RAt wr gw wv ws
  h : RAt wr g wv h
  but : But g w wr
section
variable {w wr : World} {g gw gv : Nat} {h ws vs : List Nat}
theorem St.drewN (H : St w g gw gv h ws vs wr) (n : Nat) : St w g gw gv h ws vs (wr.drewN n) := ⟨H.v.drewN n, H.s.drewN n, H.h.drewN n, H.but.drewN n⟩
theorem St.drew (H : St w g gw gv h ws vs wr) : St w g gw gv h ws vs wr.drew := ⟨H.v.drew, H.s.drew, H.h.drew, H.but.drew⟩
theorem St.alloc (H : St w g gw gv h ws vs wr) (o : Obj) : St w g gw gv h ws vs (wr.alloc o) := ⟨H.v.alloc o, H.s.alloc o, H.h.alloc o, H.but.alloc o⟩
theorem St.set (H : St w g gw gv h ws vs wr) (hg : g < w.heap.size) (h1 : w.heap.size ≤ gw) (h2 : gw < gv) (i : Nat) (hi : i < vs.length) (x : Nat) : St w g gw gv h ws (vs.set i x) (wr.setCell ⟨gv, i, none⟩ (.int .u32 x)) :=
  ⟨H.v.setv i hi x _ rfl, H.s.other _ (by show gv ≠ gw; omega) _, H.h.other _ (by show gv ≠ g; omega) _, H.but.setCell (.inr (by show w.heap.size ≤ gv; omega)) _⟩
theorem St.shift {x0 x1 x2 x3 x4 x5 x6 x7 : Nat} (H : St w g gw gv h ws [x0, x1, x2, x3, x4, x5, x6, x7] wr) (hg : g < w.heap.size) (h1 : w.heap.size ≤ gw) (h2 : gw < gv) :
    ∃ wc, (Builtin.copy_ #[110, 110] 3 #[.slice (some ⟨gv, 1, none⟩) 7 7, .slice (some ⟨gv, 0, none⟩) 7 8]).run Tryz.prog wr = .ok (.int .i64 7) wc ∧ St w g gw gv h ws [x0, x0, x1, x2, x3, x4, x5, x6] wc := by
  refine ⟨_, run_copy_cells (P := Tryz.prog) wr 110 110 3 109 gv 1 7 7 ⟨gv, 0, none⟩ 7 8 [wv x0, wv x1, wv x2, wv x3, wv x4, wv x5, wv x6] Tryz.underlying110 (by kernel_rfl) rfl ?_ ?_ ?_ ?_, ?_⟩
  · intro j v hv
    have : ([x0, x1, x2, x3, x4, x5, x6, x7].map wv)[j]? = some v := by
      have hj : j < 7 := (List.getElem?_eq_some_iff.1 hv).1
      rw [show ([x0, x1, x2, x3, x4, x5, x6, x7].map wv) = [wv x0, wv x1, wv x2, wv x3, wv x4, wv x5, wv x6] ++ [wv x7] from rfl, List.getElem?_append_left (by simpa using hj)]
      exact hv
    have := H.v.range j v this
    rw [show (⟨gv, 0, none⟩ : Addr).add j = ⟨gv, 0 + j, none⟩ by simp [Addr.add]; omega]
    exact this
  · intro j hj
    have hj : j < 7 := hj
    have := H.v.get (i := 1 + j) (by simp; omega)
    rw [this]; rfl
  · intro j hj
    have hj : j < 7 := hj
    exact H.v.free (1 + j) (by simp; omega)
  · intro v hv
    simp only [List.mem_cons, List.not_mem_nil, or_false] at hv
    rcases hv with rfl | rfl | rfl | rfl | rfl | rfl | rfl <;> rfl
  · exact ((((((H.set hg h1 h2 1 (by simp) x0).set hg h1 h2 2 (by simp) x1).set hg h1 h2 3 (by simp) x2).set hg h1 h2 4 (by simp) x3).set hg h1 h2 5 (by simp) x4).set hg h1 h2 6 (by simp) x5).set hg h1 h2 7 (by simp) x6
end

set_option maxRecDepth 100000 in
set_option maxHeartbeats 4000000 in
theorem add_walk (g : Nat) (h : List Nat) (h8 : h.length = 8) (hlt : ∀ x ∈ h, x < 4294967296) (a : Addr) (b : List UInt8) (c : Nat) (hb : b.length = 64) (w : World) (hA : LAt w w.heap.size (some a) bv b) (hg : RAt w g wv h) (hK : KAt w) :
    Calls Tryz.prog 129 #[.pointer (some ⟨g, 0, none⟩), .slice (some a) 64 c] w fun e w' => e = .returned (.tuple #[]) ∧ RAt w' g wv (addB h b) ∧ But g w w' := by
  have HG := Lib.hid hg
  have HK := Lib.hid hK
  clear hg hK
  go_enter Tryz.func129, Tryz.ntmps129
  go_wp2_with fail
  refine (schedule_walk a b c hb w hA).mono ?_
  rintro e w1 ⟨rfl, hb1⟩
  have hBut := But.of_below (g := g) hb1
  have hG1 := HG.out.below hb1 HG.out.lt
  have hgs := HG.out.lt
  have hs1 := hb1.size
  have HK1' := HK.out.below hb1
  obtain ⟨ws, hws⟩ : ∃ ws, sched b 64 = ws := ⟨_, rfl⟩
  have hwl : ws.length = 64 := by rw [← hws]; exact sched_length b 64
  have hwlt : ∀ x ∈ ws, x < 4294967296 := by rw [← hws]; exact sched_lt b 64
  rw [hws]
  have hi8 : (Tryz.prog.info? 193).map (·.size) = some 8 := by kernel_rfl
  have hi64 : (Tryz.prog.info? 214).map (·.size) = some 64 := by kernel_rfl
  have hiK : (Tryz.prog.info? 214).map (·.size) = some (shaK.map wv).length := hi64
  have hkl := HK1'.lt
  obtain ⟨K, hKK⟩ : ∃ K, shaK.map wv = K := ⟨_, rfl⟩
  rw [hKK] at hiK
  have HKK := Lib.hid hKK
  have IK := Lib.hid hiK
  have I8 := Lib.hid hi8
  have I64 := Lib.hid hi64
  have HWS := Lib.hid hws
  have HB1 := Lib.hid hBut
  have HG1 := Lib.hid hG1
  have HK1 := Lib.hid HK1'
  have HLT := Lib.hid hlt
  have HWL := Lib.hid hwlt
  have H1C : ∀ x, (wv x).oneCell' = true := fun _ => rfl
  have H8 := Lib.hid h8
  have HL := Lib.hid hwl
  clear hiK hKK hi8 hi64 hws hb1 hBut hG1 HK1' hlt hwlt hA H1C h8 hwl
  go_wp2_with (first
    | ((with_reducible refine wpList_alloc_own (f := wv) (l := List.replicate 64 0) rfl 214 rfl _ Tryz.zeroValue214 ?hl ?_); (case hl => rfl); intro w2 hr2 hb2 hs2)
    | ((with_reducible refine wpList_alloc_own (f := wv) (l := List.replicate 8 0) rfl 193 rfl _ Tryz.zeroValue193 ?hl ?_); (case hl => rfl); intro w4 hr4 hb4 hs4)
    | ((with_reducible refine wpList_store_own (f := wv) (m := ws) rfl 214 (.tmp 4) (.tmp 14) rfl w1.heap.size ?hx hr2 ?hy 64 I64.out ?hn HL.out (fun _ => rfl) ?_); (case hx => rfl); (case hy => rfl); (case hn => rfl); intro w3 hr3 hb3 hs3)
    | ((with_reducible refine wpList_load_own (f := wv) (l := h) rfl 193 (.tmp 16) rfl g ?hx ?hr _ Tryz.underlying193 rfl 8 I8.out H8.out ?_); (case hx => rfl); (case hr => exact (HG1.out.below hb2 (by omega)).but hb3 (by omega)))
    | ((with_reducible refine wpList_store_own (f := wv) (m := h) rfl 193 (.tmp 5) (.tmp 17) rfl w3.heap.size ?hx hr4 ?hy 8 I8.out ?hn H8.out (fun _ => rfl) ?_); (case hx => rfl); (case hy => rfl); (case hn => rfl); intro w5 hr5 hb5 hs5)
    | ((with_reducible refine wpList_load_mid rfl 214 (.global 3) rfl 3 0 ?hx K _ ?hk Tryz.underlying214 rfl IK.out ?_); (case hx => rfl); (case hk => rw [← HKK.out]; exact (((((HK1.out.below hb2).but hb3 (by omega)).below hb4)).but hb5 (by omega)))))
  have hB5 : But g w w5 := (((HB1.out.trans_below hb2 hs1).trans_new hb3 hs1).trans_below hb4 (by omega)).trans_new hb5 (by omega)
  have hG5 : RAt w5 g wv h := (((HG1.out.below hb2 (by omega)).but hb3 (by omega)).below hb4 (by omega)).but hb5 (by omega)
  have hW5 : RAt w5 w1.heap.size wv ws := (hr3.below hb4 (by omega)).but hb5 (by omega)
  have n1 : w.heap.size ≤ w1.heap.size := hs1
  have n2 : w1.heap.size < w3.heap.size := by omega
  have hKget : ∀ j (hj : j < 64), K[j]? = some (.int .u32 ((shaK.getD j 0 : Nat) : Int)) := fun j hj => by
    rw [← HKK.out, List.getElem?_map, List.getD_eq_getElem?_getD, List.getElem?_eq_getElem (show j < shaK.length from hj)]; rfl
  have HKG := Lib.hid hKget
  have HB5 := Lib.hid hB5
  have HG5 := Lib.hid hG5
  have HW5 := Lib.hid hW5
  have HV5 := Lib.hid hr5
  obtain ⟨gw, hgw⟩ : ∃ gw, w1.heap.size = gw := ⟨_, rfl⟩
  rw [show w3.heap.size = w1.heap.size + 1 by omega] at HV5 n2
  rw [hgw] at HW5 HV5 n1 n2
  rw [hgw]
  obtain ⟨gv, hgv⟩ : ∃ gv, gw + 1 = gv := ⟨_, rfl⟩
  rw [hgv] at HV5 n2
  rw [hgv]
  clear hkl IK HB1 HG1 HK1 hr2 hb2 hs2 hr3 hb3 hs3 hr4 hb4 hs4 hb5 hs5 hr5 hB5 hG5 hW5 hKget hgw hgv hs1 HG HK I64
  go_loopw [6, 7, 8, 9, 10, 11, 19] (fun _ _ _ _ _ _ i wr => ∃ j : Nat, j ≤ 64 ∧ i = .int .i64 j ∧ RAt wr gv wv (rounds ws h j) ∧ RAt wr gw wv ws ∧ RAt wr g wv h ∧ But g w wr) (fun _ _ _ _ _ _ i _ => 64 - (intOf i).toNat)
  case atStart => exact ⟨0, by omega, rfl, HV5.out, HW5.out, HG5.out, HB5.out⟩
  case round =>
    obtain ⟨j, hj, rfl, hV, hW, hG, hB⟩ := hrel
    clear HV5 HW5 HG5 HB5
    have HV := Lib.hid hV
    have HW := Lib.hid hW
    have HG := Lib.hid hG
    have HB := Lib.hid hB
    clear hV hW hG hB
    by_cases hlt : j < 64
    · -- {{
      obtain ⟨x0, x1, x2, x3, x4, x5, x6, x7, hv⟩ := eight (rounds_length (ws := ws) H8.out j)
      have hvl := rounds_lt (ws := ws) HLT.out j
      rw [hv] at hvl
      have l0 := hvl x0 (by simp)
      have l1 := hvl x1 (by simp)
      have l2 := hvl x2 (by simp)
      have l3 := hvl x3 (by simp)
      have l4 := hvl x4 (by simp)
      have l5 := hvl x5 (by simp)
      have l6 := hvl x6 (by simp)
      have l7 := hvl x7 (by simp)
      have hV8 := HV.out
      rw [hv] at hV8
      have c0 : wr.cell? ⟨gv, 0, none⟩ = some (.int .u32 x0) := hV8.cell 0 x0 rfl
      have c1 : wr.cell? ⟨gv, 1, none⟩ = some (.int .u32 x1) := hV8.cell 1 x1 rfl
      have c2 : wr.cell? ⟨gv, 2, none⟩ = some (.int .u32 x2) := hV8.cell 2 x2 rfl
      have c3 : wr.cell? ⟨gv, 3, none⟩ = some (.int .u32 x3) := hV8.cell 3 x3 rfl
      have c4 : wr.cell? ⟨gv, 4, none⟩ = some (.int .u32 x4) := hV8.cell 4 x4 rfl
      have c5 : wr.cell? ⟨gv, 5, none⟩ = some (.int .u32 x5) := hV8.cell 5 x5 rfl
      have c6 : wr.cell? ⟨gv, 6, none⟩ = some (.int .u32 x6) := hV8.cell 6 x6 rfl
      have c7 : wr.cell? ⟨gv, 7, none⟩ = some (.int .u32 x7) := hV8.cell 7 x7 rfl
      have b0 : (0 : Int) ≤ (j : Int) := by omega
      have b1 : (j : Int) < 64 := by omega
      have hix := fun w => run_index_one (P := Tryz.prog) w 214 109 64 K.toArray .i64 j _ Tryz.underlying214 Tryz.isAgg109 Tryz.sizeOf109 hlt (by rw [List.getElem?_toArray]; exact HKG.out j hlt)
      obtain ⟨kj, hkj⟩ : ∃ kj, shaK.getD j 0 = kj := ⟨_, rfl⟩
      rw [hkj] at hix
      have cw : wr.cell? ⟨gw, j, none⟩ = some (.int .u32 ((ws[j]'(by have := HL.out; omega) : Nat) : Int)) := HW.out.get (by have := HL.out; omega)
      have lw := HWL.out _ (List.getElem_mem (h := show j < ws.length by have := HL.out; omega))
      have hwj : ws.getD j 0 = ws[j]'(by have := HL.out; omega) := by rw [List.getD_eq_getElem?_getD, List.getElem?_eq_getElem (by have := HL.out; omega)]; rfl
      obtain ⟨wj, hwj2⟩ : ∃ wj, ws[j]'(by have := HL.out; omega) = wj := ⟨_, rfl⟩
      rw [hwj2] at cw lw hwj
      clear hvl hwj2
      have lk : kj < 4294967296 := by rw [← hkj]; exact (show ∀ j, j < 64 → shaK.getD j 0 < 4294967296 by decide) j hlt
      have HS : Hid (St w g gw gv h ws [x0, x1, x2, x3, x4, x5, x6, x7] wr) := Lib.hid ⟨hV8, HW.out, HG.out, HB.out⟩
      have HH := Lib.hid hv
      clear HV HW HG HB hV8 hv
      go_wp2_with fail
      go_quiet (fail)
      go_wp2_with fail
      clear c0 c1 c2 c3 c4 c5 c6 c7 cw hix
      have HS := Lib.hid (HS.out.drewN nq)
      generalize wr.drewN nq = wz at HS ⊢
      have c5 : wz.cell? ⟨gv, 5, none⟩ = some (.int .u32 x5) := HS.out.v.cell 5 x5 rfl
      have c6 : wz.cell? ⟨gv, 6, none⟩ = some (.int .u32 x6) := HS.out.v.cell 6 x6 rfl
      have c7 : wz.cell? ⟨gv, 7, none⟩ = some (.int .u32 x7) := HS.out.v.cell 7 x7 rfl
      have cw : wz.cell? ⟨gw, j, none⟩ = some (.int .u32 wj) := by
        have := HS.out.s.cell j wj (by rw [← hwj, List.getD_eq_getElem?_getD, List.getElem?_eq_getElem (by have := HL.out; omega)]; rfl)
        exact this
      have e5 := World.new_ne wz _ c5
      have e6 := World.new_ne wz _ c6
      have e7 := World.new_ne wz _ c7
      have ew := World.new_ne wz _ cw
      have ml := mixL_lt l4 [6, 11, 25]
      change mix3 6 11 25 x4 < _ at ml
      obtain ⟨m, hm⟩ : ∃ x, mix3 6 11 25 x4 = x := ⟨_, rfl⟩
      rw [hm] at ml
      obtain ⟨s1, hs1⟩ : ∃ x, (x7 + m) % 4294967296 = x := ⟨_, rfl⟩
      have f1 : IntKind.u32.wrap ((x7 : Int) + (m : Int)) = (s1 : Int) := by rw [IntKind.wrap_u32]; omega
      have f2 := u32_and_nat x4 x5 l4 l5
      have n1l : x4 &&& x5 < 4294967296 := Nat.lt_of_le_of_lt Nat.and_le_left l4
      obtain ⟨n1', hn1⟩ : ∃ x, x4 &&& x5 = x := ⟨_, rfl⟩
      rw [hn1] at f2 n1l
      have f3 : bits .xor .u32 (if IntKind.u32.signed = true then -1 else IntKind.u32.max) (x4 : Int) = ((4294967295 - x4 : Nat) : Int) := u32_not x4 l4
      obtain ⟨cm, hcm⟩ : ∃ x, 4294967295 - x4 = x := ⟨_, rfl⟩
      rw [hcm] at f3
      have f4 := u32_and_nat cm x6 (by omega) l6
      have n2l : cm &&& x6 < 4294967296 := Nat.lt_of_le_of_lt Nat.and_le_right l6
      obtain ⟨n2', hn2⟩ : ∃ x, cm &&& x6 = x := ⟨_, rfl⟩
      rw [hn2] at f4 n2l
      have f5 := u32_xor_nat n1' n2' n1l n2l
      have n3l := Nat.xor_lt_two_pow (n := 32) n1l n2l
      obtain ⟨n3, hn3⟩ : ∃ x, n1' ^^^ n2' = x := ⟨_, rfl⟩
      rw [hn3] at f5 n3l
      obtain ⟨s2, hs2⟩ : ∃ x, (s1 + n3) % 4294967296 = x := ⟨_, rfl⟩
      have f6 : IntKind.u32.wrap ((s1 : Int) + (n3 : Int)) = (s2 : Int) := by rw [IntKind.wrap_u32]; omega
      obtain ⟨s3, hs3⟩ : ∃ x, (s2 + kj) % 4294967296 = x := ⟨_, rfl⟩
      have f7 : IntKind.u32.wrap ((s2 : Int) + (kj : Int)) = (s3 : Int) := by rw [IntKind.wrap_u32]; omega
      obtain ⟨t, ht⟩ : ∃ x, (s3 + wj) % 4294967296 = x := ⟨_, rfl⟩
      have f8 : IntKind.u32.wrap ((s3 : Int) + (wj : Int)) = (t : Int) := by rw [IntKind.wrap_u32]; omega
      have hT : roundT [x0, x1, x2, x3, x4, x5, x6, x7] kj wj = t := by
        show ((((x7 + mix3 6 11 25 x4) % 4294967296 + ((x4 &&& x5) ^^^ ((4294967295 - x4) &&& x6))) % 4294967296 + kj) % 4294967296 + wj) % 4294967296 = t
        rw [hm, hs1, hn1, hcm, hn2, hn3, hs2, hs3, ht]
      have HT := Lib.hid hT
      have HM := Lib.hid hm
      have tl : t < 4294967296 := by omega
      have HKJ := Lib.hid hkj
      have HWJ := Lib.hid hwj
      clear hT hm hs1 hn1 hcm hn2 hn3 hs2 hs3 ht ml n1l n2l n3l hkj hwj
      go_region_held3 (fun w' => w'.cell? ⟨gv, 5, none⟩ = some (.int .u32 x5) ∧ w'.cell? ⟨gv, 6, none⟩ = some (.int .u32 x6) ∧ w'.cell? ⟨gv, 7, none⟩ = some (.int .u32 x7) ∧ w'.cell? ⟨gw, j, none⟩ = some (.int .u32 wj)) (go_keep)
        (first | (go_at_call 145; refine (mixed3_walk x4 l4 _ 6 11 25 _ (by decide) (by decide) (by decide) _ ?_ ?_ ?_).mono ?_; (· go_simp); (· go_simp); (· go_simp); rw [HM.out]; rintro e w4 ⟨rfl, rfl⟩))
      have HS := Lib.hid (HS.out.alloc (.cells #[.int .i64 6, .int .i64 11, .int .i64 25] 3)).drew
      clear c5 c6 c7 cw e5 e6 e7 ew f1 f2 f3 f4 f5 f6 f7 f8 HM
      generalize (wz.alloc (.cells #[.int .i64 6, .int .i64 11, .int .i64 25] 3)).drew = wy at HS ⊢
      go_wp2_with fail
      have c1 : wy.cell? ⟨gv, 1, none⟩ = some (.int .u32 x1) := HS.out.v.cell 1 x1 rfl
      have c2 : wy.cell? ⟨gv, 2, none⟩ = some (.int .u32 x2) := HS.out.v.cell 2 x2 rfl
      have e1 := World.new_ne wy _ c1
      have e2 := World.new_ne wy _ c2
      have ml := mixL_lt l0 [2, 13, 22]
      change mix3 2 13 22 x0 < _ at ml
      obtain ⟨m, hm⟩ : ∃ x, mix3 2 13 22 x0 = x := ⟨_, rfl⟩
      rw [hm] at ml
      have f1 := u32_and_nat x0 x1 l0 l1
      have p1l : x0 &&& x1 < 4294967296 := Nat.lt_of_le_of_lt Nat.and_le_left l0
      obtain ⟨p1, hp1⟩ : ∃ x, x0 &&& x1 = x := ⟨_, rfl⟩
      rw [hp1] at f1 p1l
      have f2 := u32_and_nat x0 x2 l0 l2
      have p2l : x0 &&& x2 < 4294967296 := Nat.lt_of_le_of_lt Nat.and_le_left l0
      obtain ⟨p2, hp2⟩ : ∃ x, x0 &&& x2 = x := ⟨_, rfl⟩
      rw [hp2] at f2 p2l
      have f3 := u32_and_nat x1 x2 l1 l2
      have p3l : x1 &&& x2 < 4294967296 := Nat.lt_of_le_of_lt Nat.and_le_left l1
      obtain ⟨p3, hp3⟩ : ∃ x, x1 &&& x2 = x := ⟨_, rfl⟩
      rw [hp3] at f3 p3l
      have f4 := u32_xor_nat p1 p2 p1l p2l
      have q1l := Nat.xor_lt_two_pow (n := 32) p1l p2l
      obtain ⟨q1, hq1⟩ : ∃ x, p1 ^^^ p2 = x := ⟨_, rfl⟩
      rw [hq1] at f4 q1l
      have f5 := u32_xor_nat q1 p3 q1l p3l
      have q2l := Nat.xor_lt_two_pow (n := 32) q1l p3l
      obtain ⟨q2, hq2⟩ : ∃ x, q1 ^^^ p3 = x := ⟨_, rfl⟩
      rw [hq2] at f5 q2l
      obtain ⟨u, hu⟩ : ∃ x, (m + q2) % 4294967296 = x := ⟨_, rfl⟩
      have f6 : IntKind.u32.wrap ((m : Int) + (q2 : Int)) = (u : Int) := by rw [IntKind.wrap_u32]; omega
      have hU : roundU [x0, x1, x2, x3, x4, x5, x6, x7] = u := by
        show (mix3 2 13 22 x0 + ((x0 &&& x1) ^^^ (x0 &&& x2) ^^^ (x1 &&& x2))) % 4294967296 = u
        rw [hm, hp1, hp2, hp3, hq1, hq2, hu]
      have HU := Lib.hid hU
      have HM := Lib.hid hm
      have ul : u < 4294967296 := by omega
      clear hU hm hp1 hp2 hp3 hq1 hq2 hu ml p1l p2l p3l q1l q2l
      go_region_held3 (fun w' => w'.cell? ⟨gv, 1, none⟩ = some (.int .u32 x1) ∧ w'.cell? ⟨gv, 2, none⟩ = some (.int .u32 x2)) (go_keep)
        (first | (go_at_call 145; refine (mixed3_walk x0 l0 _ 2 13 22 _ (by decide) (by decide) (by decide) _ ?_ ?_ ?_).mono ?_; (· go_simp); (· go_simp); (· go_simp); rw [HM.out]; rintro e w4 ⟨rfl, rfl⟩))
      have HS := Lib.hid (HS.out.alloc (.cells #[.int .i64 2, .int .i64 13, .int .i64 22] 3)).drew
      clear c1 c2 e1 e2 f1 f2 f3 f4 f5 f6 HM
      generalize (wy.alloc (.cells #[.int .i64 2, .int .i64 13, .int .i64 22] 3)).drew = wx at HS ⊢
      go_wp2_with fail
      obtain ⟨wc, hcp, hS⟩ := HS.out.drew.shift hgs n1 n2
      have HS := Lib.hid hS
      clear hS
      go_region
      clear hcp
      obtain ⟨n0, hn0⟩ : ∃ x, (t + u) % 4294967296 = x := ⟨_, rfl⟩
      obtain ⟨n4, hn4⟩ : ∃ x, (x3 + t) % 4294967296 = x := ⟨_, rfl⟩
      have a1 : ((t : Int) + (u : Int)) % 4294967296 = (n0 : Int) := by omega
      have a2 : ((x3 : Int) + (t : Int)) % 4294967296 = (n4 : Int) := by omega
      have c0 : wc.cell? ⟨gv, 0, none⟩ = some (.int .u32 x0) := HS.out.v.cell 0 x0 rfl
      have c4 : wc.cell? ⟨gv, 4, none⟩ = some (.int .u32 x3) := HS.out.v.cell 4 x3 rfl
      have z0 : wc.frozen? ⟨gv, 0, none⟩ = false := HS.out.v.free 0 (by simp)
      have z4 : wc.frozen? ⟨gv, 4, none⟩ = false := HS.out.v.free 4 (by simp)
      have c4' : (wc.setCell ⟨gv, 0, none⟩ (.int .u32 n0)).cell? ⟨gv, 4, none⟩ = some (.int .u32 x3) := (HS.out.set hgs n1 n2 0 (by simp) n0).v.cell 4 x3 rfl
      have z4' : (wc.setCell ⟨gv, 0, none⟩ (.int .u32 n0)).frozen? ⟨gv, 4, none⟩ = false := (HS.out.set hgs n1 n2 0 (by simp) n0).v.free 4 (by simp)
      have HS := Lib.hid ((HS.out.set hgs n1 n2 0 (by simp) n0).set hgs n1 n2 4 (by simp) n4)
      have hR : rounds ws h (j + 1) = [n0, x0, x1, x2, n4, x4, x5, x6] := by
        show round (rounds ws h j) (shaK.getD j 0) (ws.getD j 0) = _
        rw [HH.out, HKJ.out, HWJ.out, ← hn0, ← hn4, ← HT.out, ← HU.out]
        rfl
      have HR := Lib.hid hR
      clear hR hn0 hn4
      go_wp2_with fail
      refine ⟨⟨j + 1, by omega, rfl, ?_, HS.out.s, HS.out.h, HS.out.but⟩, by simp [intOf]; omega⟩
      rw [HR.out]
      exact HS.out.v
      -- }}
    · obtain rfl : j = 64 := by omega
      have HSt : Hid (St w g gw gv h ws (rounds ws h 64) wr) := Lib.hid ⟨HV.out, HW.out, HG.out, HB.out⟩
      clear HV HW HG HB hlt
      go_wp2_with fail
      have hvl : (rounds ws h 64).length = 8 := rounds_length H8.out 64
      have hvlt := rounds_lt (ws := ws) HLT.out 64
      obtain ⟨v, hv⟩ : ∃ v, rounds ws h 64 = v := ⟨_, rfl⟩
      rw [hv] at HSt hvl hvlt
      have HVL := Lib.hid hvl
      have HVT := Lib.hid hvlt
      have HVV := Lib.hid hv
      clear hvl hvlt hv
      go_loopw [12, 82] (fun _ i wr => ∃ j : Nat, j ≤ 8 ∧ i = .int .i64 j ∧ RAt wr gv wv v ∧ RAt wr g wv (sumTo h v j) ∧ But g w wr) (fun _ i _ => 8 - (intOf i).toNat)
      case atStart => exact ⟨0, by omega, rfl, HSt.out.v, by rw [sumTo_zero]; exact HSt.out.h, HSt.out.but⟩
      case round =>
        clear HSt
        obtain ⟨j, hj, rfl, hV, hG, hB⟩ := hrel
        have HV := Lib.hid hV
        have HG := Lib.hid hG
        have HB := Lib.hid hB
        clear hV hG hB
        by_cases hlt : j < 8
        · have hjh : j < h.length := by have := H8.out; omega
          have hjv : j < v.length := by have := HVL.out; omega
          obtain ⟨s1, s2, s3⟩ := sumTo_set hjh hjv
          have lx := HLT.out _ (List.getElem_mem hjh)
          have ly := HVT.out _ (List.getElem_mem hjv)
          have cv : wr.cell? ⟨gv, j, none⟩ = some (.int .u32 ((v[j] : Nat) : Int)) := HV.out.get hjv
          have cg : wr.cell? ⟨g, j, none⟩ = some (.int .u32 ((h[j] : Nat) : Int)) := HG.out.cell j _ s1
          have fg : wr.frozen? ⟨g, j, none⟩ = false := HG.out.free j s2
          obtain ⟨z, hz⟩ : ∃ z, (h[j] + v[j]) % 4294967296 = z := ⟨_, rfl⟩
          rw [hz] at s3
          have hset := (HG.out.setv j s2 z (.int .u32 z) rfl)
          rw [s3] at hset
          have HSET := Lib.hid hset
          obtain ⟨x, hx⟩ : ∃ x, h[j] = x := ⟨_, rfl⟩
          obtain ⟨y, hy⟩ : ∃ y, v[j] = y := ⟨_, rfl⟩
          rw [hx] at cg hz lx
          rw [hy] at cv hz ly
          have a1 : IntKind.u32.wrap ((x : Int) + (y : Int)) = (z : Int) := by rw [IntKind.wrap_u32]; omega
          have a2 : ((x : Int) + (y : Int)) % 4294967296 = (z : Int) := by omega
          have b0 : (0 : Int) ≤ (j : Int) := by omega
          have b1 : (j : Int) < 8 := by omega
          have nb : gv ≠ g := by omega
          clear hset hx hy hz s1 s2 s3 lx ly hjh hjv
          go_wp2_with fail
          go_region
          go_wp2_with fail
          exact ⟨⟨j + 1, by omega, rfl, (HV.out.other ⟨g, j, none⟩ (by show g ≠ gv; exact nb.symm) _).drew, HSET.out.drew, (HB.out.setCell (p := ⟨g, j, none⟩) (.inl rfl) _).drew⟩, by simp [intOf]; omega⟩
        · obtain rfl : j = 8 := by omega
          have hG := HG.out
          rw [sumTo_all H8.out HVL.out] at hG
          have HA : Hid (RAt wr g wv (addB h b)) := Lib.hid (by unfold addB; rw [HWS.out, HVV.out]; exact hG)
          clear hG HG
          go_wp2_with fail
          go_end0
          exact ⟨rfl, HA.out, HB.out⟩

end Go.Proofs.YtllmciiadceinaaGreatDoor
