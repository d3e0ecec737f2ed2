/-
  The contract of the reference's Sum. Condition: the string has at most 1000000 bytes.
-/
import Derived.Test.YtjelniemoambaaaDoorRefB
namespace Go.Proofs.YtjelniemoambaaaDoor
open Go Go.RowKit Go.Shelf

theorem blocks_ok (p : List UInt8) (k : Nat) : (blocks shaH p k).length = 8 ∧ ∀ x ∈ blocks shaH p k, x < 4294967296 := by
  induction k with
  | zero => exact ⟨rfl, (show ∀ x ∈ shaH, x < 4294967296 by decide)⟩
  | succ k ih => exact ⟨addB_length ih.1, addB_lt _ _⟩
theorem fresh_bytes (wx : World) (l : List UInt8) (cs : Array Value) (t : TypeId) (h : cs.toList = l.map bv) : LAt (wx.alloc (.cells cs t)).drew (wx.alloc (.cells cs t)).drew.heap.size (some ⟨wx.heap.size, 0, none⟩) bv l :=
  (RAt.alloc_new wx cs t h).drew.sl (by show wx.heap.size < (wx.alloc (.cells cs t)).heap.size; rw [World.size_alloc]; exact Nat.lt_succ_self _)
theorem words_length (l : List Nat) : (l.flatMap word4).length = 4 * l.length := by
  induction l with
  | nil => rfl
  | cons x l ih => rw [List.flatMap_cons, List.length_append, ih, List.length_cons]; show 4 + _ = _; omega
theorem bv_ofNat (m : Nat) : bv (UInt8.ofNat m) = .int .u8 ((m % 256 : Nat) : Int) := by unfold bv; rw [UInt8.toNat_ofNat']
theorem pad_length (l : List UInt8) : (pad l).length % 64 = 0 ∧ (pad l).length ≤ l.length + 73 ∧ 0 < (pad l).length := by
  have hz := padZ_lt l.length
  have h : (pad l).length = l.length + 1 + padZ l.length + 8 := by unfold pad; simp; omega
  have hm : (l.length + 1 + padZ l.length) % 64 = 56 := by unfold padZ; omega
  omega

set_option maxRecDepth 100000 in
set_option maxHeartbeats 8000000 in
theorem refsum_walk (s : ByteArray) (hs : s.size ≤ 1000000) (w : World) :
    Calls Tryd.prog 33 #[.string s] w fun e w' => e = .returned (.string (shaS s.data.toList)) ∧ Below w.heap.size w w' := by
  go_enter Tryd.func33, Tryd.ntmps33
  go_wp2_with fail
  have hH0 : LAt (w.alloc (.cells (shaH.map wv).toArray 69)) (w.alloc (.cells (shaH.map wv).toArray 69)).heap.size (some ⟨w.heap.size, 0, none⟩) wv shaH := (RAt.alloc_new (l := shaH) w _ _ rfl).sl (by simp)
  have HH0 := Lib.hid hH0
  have HB0 := Lib.hid ((Below.refl w.heap.size w).alloc (Nat.le_refl _) (.cells (shaH.map wv).toArray 69))
  clear hH0
  refine (extended_walk s hs _).mono ?_
  rintro e w2 ⟨⟨g, cap, rfl, hp⟩, hb2⟩
  have hH2 := (HH0.out.below hb2).more hb2.size
  have hB2 := HB0.out.trans (hb2.mono HB0.out.size)
  obtain ⟨p1, p2, p3⟩ := pad_length s.data.toList
  have hsl : s.data.toList.length = s.size := by simp
  have hfin : shaS s.data.toList = ⟨(outB (blocks shaH (pad s.data.toList) ((pad s.data.toList).length / 64))).toArray⟩ := rfl
  obtain ⟨p, hpp⟩ : ∃ p, pad s.data.toList = p := ⟨_, rfl⟩
  rw [hpp] at hp p1 p2 p3 hfin ⊢
  obtain ⟨n, hn⟩ : ∃ n, p.length = n := ⟨_, rfl⟩
  rw [hn] at hp p1 p2 p3 hfin ⊢
  obtain ⟨nb, hnb⟩ : ∃ nb, n / 64 = nb := ⟨_, rfl⟩
  rw [hnb] at hfin
  have hn64 : n = 64 * nb := by omega
  have hn1 : n ≤ 2000000 := by omega
  obtain ⟨-, hc1, hc2⟩ := hp.len
  unfold maxLen at hc2
  have hpl := hp.lat
  have hgl := (hp.lt g rfl).2
  have HP := Lib.hid hpl
  have HN := Lib.hid hn
  have HN64 := Lib.hid hn64
  have HF := Lib.hid hfin
  have HH2 := Lib.hid hH2
  have HB2 := Lib.hid hB2
  have hgoal : ∀ e w', (e = Ending.returned (.string ⟨(outB (blocks shaH p nb)).toArray⟩) ∧ Below w.heap.size w w') → (e = .returned (.string (shaS s.data.toList)) ∧ Below w.heap.size w w') := fun e w' h => by rw [HF.out]; exact h
  clear hH2 hB2 hb2 HH0 HB0 hpp hn hnb hfin hp hpl hsl p1 p2 hn64
  go_wp2_with fail
  go_loopw [3, 5] (fun v3 i wr => ∃ k q gH cH : Nat, 64 * k = q ∧ q ≤ n ∧ i = .int .i64 q ∧ v3 = .slice (some ⟨gH, 0, none⟩) 8 cH ∧ LAt wr wr.heap.size (some ⟨gH, 0, none⟩) wv (blocks shaH p k) ∧ Below w2.heap.size w2 wr) (fun _ i _ => n - (intOf i).toNat)
  case atStart => exact ⟨0, 0, w.heap.size, 8, rfl, by omega, rfl, rfl, HH2.out, Below.refl _ _⟩
  case round =>
    obtain ⟨k, q, gH, cH, hq, hqn, rfl, rfl, hH, hB⟩ := hrel
    have HB := Lib.hid hB
    have hbs := hB.size
    obtain ⟨b8, blt⟩ := blocks_ok p k
    by_cases hlt : q < n
    · have hq64 : q + 64 ≤ n := by have := HN64.out; omega
      have hpW := HP.out.below hB
      have hA : LAt wr wr.heap.size (some ⟨g, q, none⟩) bv ((p.drop q).take 64) := by
        have := ((hpW.more hbs).drop q).take 64
        rw [show Option.map (·.add q) (some (⟨g, 0, none⟩ : Addr)) = some ⟨g, q, none⟩ by simp [Addr.add]; omega] at this
        exact this
      have hbl : ((p.drop q).take 64).length = 64 := by rw [List.length_take, List.length_drop, HN.out]; omega
      have hcall := fun c => block_walk (some ⟨gH, 0, none⟩) (blocks shaH p k) b8 blt cH (fun h => by cases h) ⟨g, q, none⟩ ((p.drop q).take 64) c hbl wr hH hA
      have hnext : addB (blocks shaH p k) ((p.drop q).take 64) = blocks shaH p (k + 1) := by rw [← hq]; rfl
      rw [hnext] at hcall
      obtain ⟨q2, hq2⟩ : ∃ q2, q + 64 = q2 := ⟨_, rfl⟩
      have e1 : (q : Int) + 64 = (q2 : Int) := by omega
      have e2 : IntKind.i64.wrap (q2 : Int) = (q2 : Int) := by rw [IntKind.wrap_i64]; omega
      have e3 : q2 - q = 64 := by omega
      have z1 : (0 : Int) ≤ (q : Int) := by omega
      have z2 : (q : Int) ≤ (q2 : Int) := by omega
      have z3 : (q2 : Int) ≤ (cap : Int) := by omega
      have z4 : ¬ cap = q := by omega
      have z5 : ¬ q = cap := by omega
      have z6 : (0 : Int) ≤ (q2 : Int) := by omega
      have z7 : q ≤ q2 := by omega
      have z8 : q2 ≤ cap := by omega
      have HC := Lib.hid hcall
      have HQ := Lib.hid (And.intro hq hq2)
      clear hcall hA hpW hH hB b8 blt hbl hnext hq hq2
      go_wp2_with fail
      refine (HC.out _).mono ?_
      rintro e w4 ⟨⟨g4, c4, rfl, h4⟩, hb4⟩
      have H4 := Lib.hid h4.lat
      have HB4 := Lib.hid (HB.out.trans (hb4.mono hbs))
      clear h4 hb4
      go_wp2_with fail
      exact ⟨⟨k + 1, q2, g4, c4, by have := HQ.out; omega, by omega, by go_num, rfl, H4.out, HB4.out⟩, by simp [intOf]; omega⟩
    · obtain rfl : q = n := by omega
      have hk : k = nb := by have := HN64.out; omega
      rw [hk] at hH b8 blt
      obtain ⟨V, hV⟩ : ∃ V, blocks shaH p nb = V := ⟨_, rfl⟩
      rw [hV] at hH b8 blt
      have HVV := Lib.hid hV
      have HG := Lib.hid hgoal
      have HV := Lib.hid hH
      have HV8 := Lib.hid b8
      have HVL := Lib.hid blt
      have HB5 := Lib.hid (HB2.out.trans (HB.out.mono HB2.out.size))
      clear hV hH b8 blt hB hk hq hlt hgoal
      go_wp2_with fail
      obtain ⟨wq, rfl⟩ : ∃ wq : World, wq = wr := ⟨_, rfl⟩
      go_loopw [6, 7] (fun v6 i wr => ∃ j : Nat, j ≤ 8 ∧ i = .int .i64 j ∧ ByteL wr wq.heap.size v6 ((V.take j).flatMap word4) ∧ Below wq.heap.size wq wr) (fun _ i _ => 8 - (intOf i).toNat)
      case atStart => exact ⟨0, by omega, rfl, OL.nil, Below.refl _ _⟩
      case round =>
        obtain ⟨j, hj, rfl, h6, hB⟩ := hrel
        by_cases hlt : j < 8
        · obtain ⟨aV, eV, -, cV⟩ := (HV.out.below hB).get (i := j) (by rw [HV8.out]; exact hlt)
          cases eV
          rw [show (⟨gH, 0, none⟩ : Addr).add j = ⟨gH, j, none⟩ by simp [Addr.add]; omega] at cV
          have lV := HVL.out _ (List.getElem_mem (h := show j < V.length by rw [HV8.out]; exact hlt))
          obtain ⟨x, hx⟩ : ∃ x, V[j]'(by rw [HV8.out]; exact hlt) = x := ⟨_, rfl⟩
          rw [hx] at cV lV
          unfold wv at cV
          have b0 : (0 : Int) ≤ (j : Int) := by omega
          have b1 : (j : Int) < 8 := by omega
          obtain ⟨y0, hy0⟩ : ∃ y, x / 16777216 % 256 = y := ⟨_, rfl⟩
          obtain ⟨y1, hy1⟩ : ∃ y, x / 65536 % 256 = y := ⟨_, rfl⟩
          obtain ⟨y2, hy2⟩ : ∃ y, x / 256 % 256 = y := ⟨_, rfl⟩
          obtain ⟨y3, hy3⟩ : ∃ y, x % 256 = y := ⟨_, rfl⟩
          have e0 : IntKind.u8.wrap ((x : Int) / 16777216) = (y0 : Int) := by rw [IntKind.wrap_u8]; omega
          have e1 : IntKind.u8.wrap ((x : Int) / 65536) = (y1 : Int) := by rw [IntKind.wrap_u8]; omega
          have e2 : IntKind.u8.wrap ((x : Int) / 256) = (y2 : Int) := by rw [IntKind.wrap_u8]; omega
          have e3 : IntKind.u8.wrap (x : Int) = (y3 : Int) := by rw [IntKind.wrap_u8]; omega
          have hw4 : #[Value.int .u8 (y0 : Int), .int .u8 (y1 : Int), .int .u8 (y2 : Int), .int .u8 (y3 : Int)].toList = (word4 x).map bv := by
            unfold word4
            rw [List.map_cons, List.map_cons, List.map_cons, List.map_cons, List.map_nil, bv_ofNat, bv_ofNat, bv_ofNat, bv_ofNat, hy0, hy1, hy2, hy3]
          have hzt : (V.take (j + 1)).flatMap word4 = (V.take j).flatMap word4 ++ word4 x := by
            rw [List.take_succ_eq_append_getElem (by rw [HV8.out]; exact hlt), hx, List.flatMap_append]; simp
          have hln : ((V.take j).flatMap word4).length = 4 * j := by rw [words_length, List.length_take, HV8.out]; omega
          obtain ⟨L, hL⟩ : ∃ L, (V.take j).flatMap word4 = L := ⟨_, rfl⟩
          rw [hL] at hln hzt h6
          have HW4 := Lib.hid hw4
          have HZT := Lib.hid hzt
          have HLN := Lib.hid hln
          have H6 := Lib.hid h6
          have HC6 := Lib.hid cV
          have HB := Lib.hid hB
          have hbs := hB.size
          have cg := cell_lt cV
          have HC5 := Lib.hid (show ∀ o, ((wr.alloc o).drew).cell? ⟨gH, j, none⟩ = some (.int .u32 x) from fun o => (World.cell?_alloc_lt wr o ⟨gH, j, none⟩ cg).trans cV)
          have HC7 := Lib.hid (show ∀ W', Below wq.heap.size wq W' → W'.cell? ⟨gH, j, none⟩ = some (.int .u32 x) from fun W' hb => by
            obtain ⟨a2, ha2, -, hc2⟩ := (HV.out.below hb).get (i := j) (by rw [HV8.out]; exact hlt)
            cases ha2
            rw [show (⟨gH, 0, none⟩ : Addr).add j = ⟨gH, j, none⟩ by simp [Addr.add]; omega, hx] at hc2
            exact hc2)
          clear hy0 hy1 hy2 hy3 hw4 hzt hln hL h6 cV hB hx cg
          go_wp2_with fail
          go_region_held3 (fun w' => w'.cell? ⟨gH, j, none⟩ = some (.int .u32 x)) (first | exact HC6.out | exact HC5.out _ | exact HC7.out _ ((HB.out.alloc hbs _).drew.trans hb2) | fail)
            (first
              | (refine step_cat (by rfl) (.tmp 28) (.tmp 52) 46 (by rfl) elemU8 (fun _ => rfl) _ L (by rfl) ((OL.alloc H6.out _).drew) (some ⟨wr.heap.size, 0, none⟩) (word4 x) 4 4 rfl (by rfl) (fun h => by cases h) ((fresh_bytes wr (word4 x) _ _ HW4.out).cat) (fun x _ u hu => by rw [List.mem_singleton.1 hu]; rfl) (by rw [HLN.out]; unfold maxLen; omega) (by rw [HLN.out]; omega) (by simp; omega) ?_; intro v5 w5 h5 hg5 hb2)
              | fail)
          have H7 := Lib.hid h5
          have HB7 := Lib.hid ((HB.out.alloc hbs (.cells #[.int .u8 (y0 : Int), .int .u8 (y1 : Int), .int .u8 (y2 : Int), .int .u8 (y3 : Int)] 5)).drew.trans hb2)
          clear h5 hg5 hb2 e0 e1 e2 e3
          go_wp2_with fail
          exact ⟨⟨j + 1, by omega, rfl, by rw [HZT.out]; exact H7.out, HB7.out⟩, by simp [intOf]; omega⟩
        · obtain rfl : j = 8 := by omega
          rw [List.take_of_length_le (by rw [HV8.out]; decide)] at h6
          have hol : (V.flatMap word4).length = 32 := by rw [words_length, HV8.out]
          obtain ⟨g6, c6, rfl, -⟩ := h6.form (by rw [hol]; decide)
          rw [hol] at h6 ⊢
          have hconv := (RAt.of_row (f := bv) (n := 32) (by have := h6; unfold ByteL OL at this; rw [flatMap_one, hol] at this; exact this)).convert (P := Tryd.prog) (cap := c6) hol 46 9 5 Tryd.underlying46 Tryd.underlying5 Tryd.underlying9
          have HB := Lib.hid hB
          clear h6 hol hlt hB
          go_wp2_with fail
          go_ret
          refine HG.out _ _ ⟨?_, HB5.out.trans (HB.out.mono HB5.out.size)⟩
          rw [HVV.out]; rfl

end Go.Proofs.YtjelniemoambaaaDoor
