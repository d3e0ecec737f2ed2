/-
  The contract of yardstickref18's Some. Conditions: rows of six integers of 64 bits in memory. What Some makes has short texts and a day from 0 to 29; the list that KnownOrder builds knows the same: plainly. No condition. KnownEffect, plainly: what is in effect, and how many entries are not prevailed over. No condition. Slices of elements of several cells that read as a list: opened; a slice of slices of strings. Conditions: an argument is what the row's first reading says. A slice of rows of six integers, opened as an argument. Condition: the argument is what the row's first reading says. Rows of entries that a call owns: one element stored, a list appended inside a drawn region. Conditions: each law's own. Bases in memory with one list put anew; known.Key with a revocation more, plainly. Conditions: each law's own.
-/
import Derived.Test.YteeifhlhpiimoaaGreatDoorPAa
import Derived.Test.YteeifhlhpiimoaaGreatDoorPAp
import Derived.Test.YteeifhlhpiimoaaGreatDoorPAk
import Derived.Test.YteeifhlhpiimoaaGreatDoorPAf
import Derived.Test.YteeifhlhpiimoaaGreatDoorPAi
import Derived.Sort.Walk0
import Derived.Deep.MidRow
import Derived.Test.YteeifhlhpiimoaaGreatDoorPAl
section
namespace Go.Proofs.YteeifhlhpiimoaaGreatDoor
open Go Go.RowKit Go.Shelf
attribute [local go_sem] Oper.semAt_some
def SixAt (w : World) (A : Option Addr) (l : List Six) : Prop := ∀ (i : Nat) (y : Six), l[i]? = some y → ∃ a, A = some a ∧ a.block < w.heap.size ∧ ∀ j v, y.cells[j]? = some v → w.cell? (a.add (i * 6 + j)) = some v
theorem SixAt.below {w W : World} {A : Option Addr} {l : List Six} (h : SixAt w A l) (hb : Below w.heap.size w W) : SixAt W A l := fun i y hy => by
 obtain ⟨a, h1, h2, h3⟩ := h i y hy
 exact ⟨a, h1, Nat.lt_of_lt_of_le h2 hb.size, fun j v hv => (hb.cell (p := a.add (i * 6 + j)) (by rw [addr_add_block]; exact h2)).trans (h3 j v hv)⟩
theorem wrap_of {x : Int} (h : I64 x) : IntKind.i64.wrap x = x := by obtain ⟨h1, h2⟩ := h; rw [IntKind.wrap_i64]; omega
theorem tdiv_I64 {x t d : Int} (h : I64 x) (hd : 2 ≤ d) (ht : Int.tdiv x d = t) : I64 t := by
 have h1 := Int.natAbs_tdiv x d
 have h2 : x.natAbs / d.natAbs ≤ x.natAbs / 2 := Nat.div_le_div_left (by omega) (by omega)
 obtain ⟨h3, h4⟩ := h
 rw [ht] at h1
 unfold I64
 have h5 : t.natAbs = x.natAbs / d.natAbs := h1
 omega
theorem pick_fact {x n k : Int} (h : I64 x) (hn : 1 ≤ n) (hn2 : n ≤ 9223372036854775807) (hk : pickZ x n = k) : Hid (∀ W, Calls Tryz.prog 51 #[.int .i64 x, .int .i64 n] W (fun e W' => e = .returned (.int .i64 k) ∧ W = W')) :=
 hZ fun W => by rw [← hk]; exact pick18_walk W x n h.1 h.2 hn hn2
set_option maxRecDepth 100000 in
set_option maxHeartbeats 4000000 in
theorem some_walk (l : List Six) (A : Option Addr) (n c : Nat) (hn : l.length = n) (hnm : n ≤ maxLen) (hok : ∀ y ∈ l, y.Ok) (w : World) (hA : SixAt w A l) :
 Calls Tryz.prog 12 #[.slice A n c] w fun e w' => ∃ v, e = .returned v ∧ OL w' w.heap.size 33 18 Ent.cells v ((l.take 30).map someE) ∧ Below w.heap.size w w' := by
 have HA := hZ hA
 have HOK := hZ hok
 have HN := hZ hn
 have HNM : Hid (n ≤ 9223372036854775807) := hZ (by unfold maxLen at hnm; omega)
 have IE := fun e : Ent => hZ (ientry (e := e))
 have IS := fun e : Ent => hZ (show (Tryz.prog.info? 33).map (·.size) = some e.cells.toArray.size from ientry (e := e))
 clear hA hok hn hnm
 go_enter Tryz.func12, Tryz.ntmps12
 go_wp2_with fail
 go_loopw [3, 4] (fun ov iv wr => ∃ (v3 : Value) (i : Nat), v3 = ov ∧ iv = .int .i64 (i : Int) ∧ i ≤ n ∧ i ≤ 30 ∧ Hid (OL wr w.heap.size 33 18 Ent.cells v3 ((l.take i).map someE)) ∧ Hid (Below w.heap.size w wr)) (fun _ i _ => 30 - (intOf i).toNat)
 case atStart => exact ⟨_, 0, rfl, rfl, Nat.zero_le _, Nat.zero_le _, hZ OL.nil, hZ (Below.refl _ _)⟩
 case round =>
  obtain ⟨v3, i, rfl, rfl, hi, hi30, HO, HB⟩ := hrel
  by_cases hlt : i < n ∧ i < 30
  · have HLT := hZ hlt
    obtain ⟨y, hy⟩ : ∃ y, l[i]? = some y := ⟨_, List.getElem?_eq_getElem (by rw [HN.out]; exact hlt.1)⟩
    have HYI := hZ hy
    have HYO := hZ (HOK.out y (List.mem_of_getElem? hy))
    obtain ⟨a, rfl, hab, hac⟩ := HA.out.below HB.out i y hy
    obtain ⟨q, hq⟩ := oQ (a.add (i * 6))
    have c0 : wr.cell? q = some (.int .i64 y.y0) := by have h := hac 0 _ rfl; rw [Nat.add_zero, hq] at h; exact h
    have c1 : wr.cell? ⟨q.block, q.off + 1, none⟩ = some (.int .i64 y.y1) := by have h := hac 1 _ rfl; rw [← addr_add_add, hq] at h; exact h
    have c2 : wr.cell? ⟨q.block, q.off + 2, none⟩ = some (.int .i64 y.y2) := by have h := hac 2 _ rfl; rw [← addr_add_add, hq] at h; exact h
    have c3 : wr.cell? ⟨q.block, q.off + 3, none⟩ = some (.int .i64 y.y3) := by have h := hac 3 _ rfl; rw [← addr_add_add, hq] at h; exact h
    have c4 : wr.cell? ⟨q.block, q.off + 4, none⟩ = some (.int .i64 y.y4) := by have h := hac 4 _ rfl; rw [← addr_add_add, hq] at h; exact h
    have c5 : wr.cell? ⟨q.block, q.off + 5, none⟩ = some (.int .i64 y.y5) := by have h := hac 5 _ rfl; rw [← addr_add_add, hq] at h; exact h
    have d1 : decide (i < n) = true := by simp [hlt.1]
    have d2 : decide ((i : Int) < 30) = true := by simp; omega
    have z1 : (0 : Int) ≤ (i : Int) := by omega
    have z2 : (i : Int) < (n : Int) := by omega
    obtain ⟨k0, hk0⟩ := oQ (pickZ y.y0 9)
    obtain ⟨t1, ht1⟩ := oQ (Int.tdiv y.y0 9)
    obtain ⟨k1, hk1⟩ := oQ (pickZ t1 3)
    obtain ⟨k2, hk2⟩ := oQ (pickZ y.y1 30)
    obtain ⟨t3, ht3⟩ := oQ (Int.tdiv y.y1 30)
    obtain ⟨k3, hk3⟩ := oQ (pickZ t3 7)
    obtain ⟨g, hg⟩ := oQ ((k3 == 0))
    have hI1 : I64 t1 := tdiv_I64 HYO.out.h0 (by omega) ht1
    have hI3 : I64 t3 := tdiv_I64 HYO.out.h1 (by omega) ht3
    have PK0 := pick_fact HYO.out.h0 (n := 9) (by omega) (by omega) hk0
    have PK1 := pick_fact hI1 (n := 3) (by omega) (by omega) hk1
    have PK2 := pick_fact HYO.out.h1 (n := 30) (by omega) (by omega) hk2
    have PK3 := pick_fact hI3 (n := 7) (by omega) (by omega) hk3
    have wt1 : IntKind.i64.wrap t1 = t1 := wrap_of hI1
    have wt3 : IntKind.i64.wrap t3 = t3 := wrap_of hI3
    have r0 := pickZ_range y.y0 (n := 9) (by omega)
    have r1 := pickZ_range t1 (n := 3) (by omega)
    rw [hk0] at r0
    rw [hk1] at r1
    obtain ⟨kd, hkd⟩ : ∃ kd : Nat, 1 + k0 = (kd : Int) := ⟨(1 + k0).toNat, by omega⟩
    obtain ⟨a1, ha1⟩ := oQ (1 + k1)
    have wa0 : IntKind.i64.wrap (kd : Int) = (kd : Int) := by rw [IntKind.wrap_i64]; omega
    have wa1 : IntKind.i64.wrap a1 = a1 := by rw [IntKind.wrap_i64]; omega
    have HKD : Hid (1 ≤ kd ∧ kd ≤ 9 ∧ kd = kindOf y) := hZ ⟨by omega, by omega, by unfold kindOf; rw [hk0]; omega⟩
    have HE0 : Hid (headE y = hdE kd a1 k2 g) := hZ (by unfold headE hdE; rw [hk0, ht1, hk1, hk2, ht3, hk3, hg, hkd, ha1])
    have HYC : Hid (y.cells = [.int .i64 y.y0, .int .i64 y.y1, .int .i64 y.y2, .int .i64 y.y3, .int .i64 y.y4, .int .i64 y.y5]) := hZ rfl
    obtain ⟨p, hp⟩ := oQ (wr.heap.size)
    obtain ⟨W0, hW0⟩ := oQ (wr.alloc (.cells #[.int .i64 y.y0, .int .i64 y.y1, .int .i64 y.y2, .int .i64 y.y3, .int .i64 y.y4, .int .i64 y.y5] 78))
    have hz : SmZ w p y v3 ((l.take i).map someE) W0.drew := by rw [← hW0, ← hp]; exact (SmZ.start HO.out HB.out).drew
    have HZ := hZ hz
    clear hy hac hz hI1 hI3 r0 r1 hk0 hk1 hk2 hk3
    go_wp2_with fail
    refine wp_region_noPanic ?_
    refine wp_region_held_drew (S := fun U => U.cell? ⟨p, 0, none⟩ = some (.int .i64 y.y0) ∧ U.cell? ⟨p, 1, none⟩ = some (.int .i64 y.y1)) (by kernel_rfl) ⟨HZ.out.ycell rfl, HZ.out.ycell rfl⟩ (fun hHeld => ?_)
    obtain ⟨U0, hU0⟩ := oQ (W0.drew)
    rw [hU0] at HZ hHeld ⊢
    clear hU0
    refine tk 0 ?_
    refine tk 1 ?_
    refine tk 4 ?_
    refine tk 5 ?_
    refine tk 6 ?_
    refine tk 9 ?_
    refine tk 10 ?_
    refine tk 12 ?_
    refine tk 13 ?_
    refine tk 14 ?_
    apply share2
    intro N0
    apply share2
    intro N1
    apply share2
    intro N2
    apply share2
    intro N3
    ·
     refine rd [2, 18] ?_
     refine rc (fun K hK => ?_) ?_
     ·
      go_simp
      refine (PK0.out U0).mono ?_
      rintro e2 W2 ⟨rfl, rfl⟩
      refine kk hK (⟨HZ.out.ycell rfl, HZ.out.ycell rfl⟩) (fun hHeld => ?_)
      clear hK K
      refine tk 3 ?_
      refine rd [7, 18] ?_
      refine rc (fun K hK => ?_) ?_
      ·
       go_simp
       refine (PK1.out U0).mono ?_
       rintro e2 W2 ⟨rfl, rfl⟩
       refine kk hK (⟨HZ.out.ycell rfl, HZ.out.ycell rfl⟩) (fun hHeld => ?_)
       clear hK K
       refine tk 8 ?_
       refine rd [11, 18] ?_
       refine rc (fun K hK => ?_) ?_
       ·
        go_simp
        refine (PK2.out U0).mono ?_
        rintro e2 W2 ⟨rfl, rfl⟩
        refine kk hK (⟨HZ.out.ycell rfl, HZ.out.ycell rfl⟩) (fun hHeld => ?_)
        clear hK K
        refine rd [15, 18] ?_
        refine rc (fun K hK => ?_) ?_
        ·
         go_simp
         refine (PK3.out U0).mono ?_
         rintro e2 W2 ⟨rfl, rfl⟩
         refine kk hK (⟨HZ.out.ycell rfl, HZ.out.ycell rfl⟩) (fun hHeld => ?_)
         clear hK K
         refine tk 16 ?_
         refine tk 17 ?_
         refine rd [18] ?_
         refine rcE fun K hK => ?_
         go_simp
         obtain ⟨b, V6, q1, q2, hz, he, hpb⟩ := HZ.out.alloc
         rw [q1, q2]
         have HZ := hZ hz
         have HE := hZ (And.intro he hpb)
         clear q1 q2 hz he hpb
         refine kk hK (⟨HZ.out.ycell rfl, HZ.out.ycell rfl⟩) (fun hHeld => ?_)
         clear hK K
         have HX := (And.intro HZ (And.intro HE hHeld))
         exact N0 V6 b HX
        refine rcE fun K hK => ?_
        go_simp
        obtain ⟨b, V6, q1, q2, hz, he, hpb⟩ := HZ.out.alloc
        rw [q1, q2]
        have HZ := hZ hz
        have HE := hZ (And.intro he hpb)
        clear q1 q2 hz he hpb
        refine kk hK (⟨HZ.out.ycell rfl, HZ.out.ycell rfl⟩) (fun hHeld => ?_)
        clear hK K
        have HX := (And.intro HZ (And.intro HE hHeld))
        exact N1 V6 b HX
       refine rcE fun K hK => ?_
       go_simp
       obtain ⟨b, V6, q1, q2, hz, he, hpb⟩ := HZ.out.alloc
       rw [q1, q2]
       have HZ := hZ hz
       have HE := hZ (And.intro he hpb)
       clear q1 q2 hz he hpb
       refine kk hK (⟨HZ.out.ycell rfl, HZ.out.ycell rfl⟩) (fun hHeld => ?_)
       clear hK K
       have HX := (And.intro HZ (And.intro HE hHeld))
       exact N2 V6 b HX
      refine rcE fun K hK => ?_
      go_simp
      obtain ⟨b, V6, q1, q2, hz, he, hpb⟩ := HZ.out.alloc
      rw [q1, q2]
      have HZ := hZ hz
      have HE := hZ (And.intro he hpb)
      clear q1 q2 hz he hpb
      refine kk hK (⟨HZ.out.ycell rfl, HZ.out.ycell rfl⟩) (fun hHeld => ?_)
      clear hK K
      have HX := (And.intro HZ (And.intro HE hHeld))
      exact N3 V6 b HX
     refine rcE fun K hK => ?_
     go_simp
     obtain ⟨b, V6, q1, q2, hz, he, hpb⟩ := HZ.out.alloc
     rw [q1, q2]
     have HZ := hZ hz
     have HE := hZ (And.intro he hpb)
     clear q1 q2 hz he hpb
     refine kk hK (⟨HZ.out.ycell rfl, HZ.out.ycell rfl⟩) (fun hHeld => ?_)
     clear hK K
     refine rd [2] ?_
     refine rcE fun K hK => ?_
     go_simp
     refine (PK0.out V6).mono ?_
     rintro e2 W2 ⟨rfl, rfl⟩
     refine kk hK (⟨HZ.out.ycell rfl, HZ.out.ycell rfl⟩) (fun hHeld => ?_)
     clear hK K
     refine tk 3 ?_
     exact N3 V6 b ⟨HZ, HE, hHeld⟩
    ·
     rintro XN3 b ⟨HZ, HE, hHeld⟩
     refine rd [7] ?_
     refine rcE fun K hK => ?_
     go_simp
     refine (PK1.out XN3).mono ?_
     rintro e2 W2 ⟨rfl, rfl⟩
     refine kk hK (⟨HZ.out.ycell rfl, HZ.out.ycell rfl⟩) (fun hHeld => ?_)
     clear hK K
     refine tk 8 ?_
     exact N2 XN3 b ⟨HZ, HE, hHeld⟩
    ·
     rintro XN2 b ⟨HZ, HE, hHeld⟩
     refine rd [11] ?_
     refine rcE fun K hK => ?_
     go_simp
     refine (PK2.out XN2).mono ?_
     rintro e2 W2 ⟨rfl, rfl⟩
     refine kk hK (⟨HZ.out.ycell rfl, HZ.out.ycell rfl⟩) (fun hHeld => ?_)
     clear hK K
     exact N1 XN2 b ⟨HZ, HE, hHeld⟩
    ·
     rintro XN1 b ⟨HZ, HE, hHeld⟩
     refine rd [15] ?_
     refine rcE fun K hK => ?_
     go_simp
     refine (PK3.out XN1).mono ?_
     rintro e2 W2 ⟨rfl, rfl⟩
     refine kk hK (⟨HZ.out.ycell rfl, HZ.out.ycell rfl⟩) (fun hHeld => ?_)
     clear hK K
     refine tk 16 ?_
     refine tk 17 ?_
     exact N0 XN1 b ⟨HZ, HE, hHeld⟩
    ·
     rintro XN0 b ⟨HZ, HE, hHeld⟩
     refine rd [19] ?_
     refine rcE fun K hK => ?_
     refine step_store_ent (by rfl) (.tmp 6) (.tmp 40) (by rfl) (by rfl) b (hdE kd a1 k2 g) (by rfl) (by rfl) (IS _).out HE.out.1 ?_
     have HZ2 := hZ (HZ.out.row HE.out.2 (hdE kd a1 k2 g))
     have HE2 := hZ (And.intro (set_ent (e := hdE kd a1 k2 g) HE.out.1).1 HE.out.2)
     obtain ⟨W7, hW7⟩ := oQ (XN0.setRow b (hdE kd a1 k2 g).cells.toArray)
     rw [hW7] at HZ2 HE2 ⊢
     clear hW7
     refine kk hK (⟨HZ2.out.ycell rfl, HZ2.out.ycell rfl⟩) (fun hHeld => ?_)
     clear hK K
     refine dn ?_
     clear hHeld
     have x0 := HE2.out.1.cell (i := 0) rfl
     have x0' : W7.cell? ⟨b, 0, none⟩ = some (.int .i64 (kd : Int)) := x0
     clear x0 PK0 PK1 PK2 PK3 wt1 wt3 wa0 wa1 ht1 ht3 hg hkd ha1 HZ HE hW0 hp
     go_wp2_with (first
      | (go_at_call 52; refine (fields_walk kd HKD.out.1 HKD.out.2.1 W7).mono ?_; rintro e2 W8 ⟨v7, rfl, hf, hff, hb⟩; have HI := hZ ((HZ2.out.step hb).full (HE2.out.1.below hb) HE2.out.2 hf (hff.base (cells_lt HE2.out.1))); obtain ⟨A7, c7, rfl, -⟩ := hf; clear hff hb)
      | fail)
     obtain ⟨fs, hfs⟩ := oQ (fieldsL kd)
     rw [hfs] at HI ⊢
     obtain ⟨m, hm⟩ := oQ (fs.length)
     have HM : Hid (fs.length = m ∧ m ≤ 5 ∧ ∀ f ∈ fs, f ≤ 9) := hZ ⟨hm, by rw [← hm, ← hfs]; exact fields_len kd, by rw [← hfs]; exact fields_le kd⟩
     rw [hm] at HI ⊢
     have HF0 : Hid (foldE y 0 (fs.drop 0) (hdE kd a1 k2 g) = someE y) := hZ (by unfold someE; rw [HE0.out, ← HKD.out.2.2, hfs]; rfl)
     clear hfs hm HZ2 HE2 x0'
     go_loopw [8] (fun kv wr => ∃ (k : Nat) (e : Ent), kv = .int .i64 (k : Int) ∧ k ≤ m ∧ Hid (foldE y k (fs.drop k) e = someE y) ∧ Hid (FrmOk e) ∧ Hid (SmI w p b y (.slice A7 m c7) fs v3 ((l.take i).map someE) e wr)) (fun kv _ => m - (intOf kv).toNat)
     case atStart => exact ⟨0, _, rfl, Nat.zero_le _, HF0, hZ ⟨Int.le_refl _, (show (0 : Int) ≤ 40 by decide)⟩, HI⟩
     case round =>
      clear HI HF0
      obtain ⟨k, e, rfl, hk, HFO, HFR, HI⟩ := hrel
      rcases Nat.lt_or_ge k m with hkm | hkm
      · have d3 : decide (k < m) = true := by simp [hkm]
        have hk2 : k < fs.length := by rw [HM.out.1]; exact hkm
        obtain ⟨A, cc, e9, q1, q2, q3, q4⟩ := HI.out.hf
        injection e9 with e91 e92 e93
        subst e91 e93
        obtain ⟨a7, rfl, ha7, hc7⟩ := q4.get hk2
        obtain ⟨f, hf⟩ := oQ (fs[k])
        rw [hf] at hc7
        unfold nv at hc7
        have HFK : Hid (fs[k]? = some f) := hZ (by rw [← hf]; exact List.getElem?_eq_getElem hk2)
        have hf9 := HM.out.2.2 f (List.mem_of_getElem? HFK.out)
        have y1 : (0 : Int) ≤ (k : Int) := by omega
        have y2 : (k : Int) < (m : Int) := by omega
        have wk : IntKind.i64.wrap ((k : Int) + 1) = ((k + 1 : Nat) : Int) := by have := HM.out.2.1; rw [IntKind.wrap_i64]; omega
        clear hf e92 q1 q2 q3 q4 hk2
        rcases (show f = 0 ∨ f = 1 ∨ f = 2 ∨ f = 3 ∨ f = 4 ∨ f = 5 ∨ f = 6 ∨ f = 7 ∨ f = 8 ∨ f = 9 by omega) with rfl | rfl | rfl | rfl | rfl | rfl | rfl | rfl | rfl | rfl
        all_goals clear hf9
        · obtain ⟨u, hu⟩ := oQ (pickZ y.y3 9)
          have PK := pick_fact HYO.out.h3 (n := 9) (by omega) (by omega) hu
          have ru := pickZ_range y.y3 (n := 9) (by omega)
          rw [hu] at ru
          obtain ⟨v, hv⟩ := oQ (1 + u)
          have wv : IntKind.i64.wrap v = v := by rw [IntKind.wrap_i64]; omega
          have c3 := HI.out.ycell (i := 3) rfl
          have x1 := HI.out.he.cell (i := 1) rfl
          have x2 := HI.out.free 1
          have HI2 := hZ (HI.out.set (e' := stepE y k 0 e) 1 (.int .i64 v) (by unfold stepE; rw [hu, hv]; rfl))
          clear ru hu
          go_wp2_with (first | (go_at_call 51; refine (PK.out _).mono ?_; rintro e2 W2 ⟨rfl, rfl⟩) | fail)
          go_round
          case rel => exact ⟨k + 1, _, rfl, by omega, hZ (by rw [← fold_drop HFK.out]; exact HFO.out), hZ (step_frm y k 0 HFR.out), HI2⟩
          case measure => simp [intOf]; omega
        · obtain ⟨u, hu⟩ := oQ (pickZ y.y4 40)
          have PK := pick_fact HYO.out.h4 (n := 40) (by omega) (by omega) hu
          have ru := pickZ_range y.y4 (n := 40) (by omega)
          rw [hu] at ru
          have c4 := HI.out.ycell (i := 4) rfl
          have x1 := HI.out.he.cell (i := 5) rfl
          have x2 := HI.out.free 5
          have HI2 := hZ (HI.out.set (e' := stepE y k 1 e) 5 (.int .i64 u) (by unfold stepE; rw [hu]; rfl))
          clear ru hu
          go_wp2_with (first | (go_at_call 51; refine (PK.out _).mono ?_; rintro e2 W2 ⟨rfl, rfl⟩) | fail)
          go_round
          case rel => exact ⟨k + 1, _, rfl, by omega, hZ (by rw [← fold_drop HFK.out]; exact HFO.out), hZ (step_frm y k 1 HFR.out), HI2⟩
          case measure => simp [intOf]; omega
        · obtain ⟨u, hu⟩ := oQ (pickZ y.y5 30)
          have PK := pick_fact HYO.out.h5 (n := 30) (by omega) (by omega) hu
          have ru := pickZ_range y.y5 (n := 30) (by omega)
          rw [hu] at ru
          obtain ⟨v, hv⟩ := oQ (e.frm + u)
          have wv : IntKind.i64.wrap v = v := by have := HFR.out.1; have := HFR.out.2; rw [IntKind.wrap_i64]; omega
          have HID := hZ HI.out.drew
          have x1 := HID.out.he.cell (i := 6) rfl
          have x2 := HID.out.free 6
          have HI2 := hZ (HID.out.set (e' := stepE y k 2 e) 6 (.int .i64 v) (by unfold stepE; rw [hu, hv]; rfl))
          clear ru hu
          go_wp2_with fail
          refine wp_region_noPanic ?_
          refine wp_region_held_drew (S := fun U => U.cell? ⟨b, 5, none⟩ = some (.int .i64 e.frm) ∧ U.cell? ⟨p, 5, none⟩ = some (.int .i64 y.y5)) (by kernel_rfl) ⟨HID.out.he.cell rfl, HID.out.ycell rfl⟩ (fun hHeld => ?_)
          refine tk 0 ?_
          refine tk 1 ?_
          refine tk 2 ?_
          refine tk 3 ?_
          refine rd [4] ?_
          refine rcE fun K hK => ?_
          go_simp
          refine (PK.out _).mono ?_
          rintro e2 W2 ⟨rfl, rfl⟩
          refine kk hK (hHeld) (fun hHeld => ?_)
          clear hK K
          refine tk 5 ?_
          refine tk 6 ?_
          refine rd [7] ?_
          refine rcE fun K hK => ?_
          go_simp
          refine kk hK (⟨HI2.out.he.cell rfl, HI2.out.ycell rfl⟩) (fun hHeld => ?_)
          clear hK K
          refine dn ?_
          clear hHeld
          go_wp2_with fail
          go_round
          case rel => exact ⟨k + 1, _, rfl, by omega, hZ (by rw [← fold_drop HFK.out]; exact HFO.out), hZ (step_frm y k 2 HFR.out), HI2⟩
          case measure => simp [intOf]; omega
        · obtain ⟨j, hj⟩ := oQ (2 * k)
          have hk4 : k ≤ 4 := by have := HM.out.2.1; omega
          have hIs := sh_I64 HYO.out.h2 hk4
          obtain ⟨sv, hsv⟩ := oQ (y.y2 / 2 ^ j)
          rw [hj, hsv] at hIs
          obtain ⟨u, hu⟩ := oQ (pickZ sv 4)
          have PK := pick_fact hIs (n := 4) (by omega) (by omega) hu
          have ru := pickZ_range sv (n := 4) (by omega)
          rw [hu] at ru
          obtain ⟨v, hv⟩ := oQ (1 + u)
          have wv : IntKind.i64.wrap v = v := by rw [IntKind.wrap_i64]; omega
          have wj : IntKind.i64.wrap (2 * (k : Int)) = (j : Int) := by rw [IntKind.wrap_i64]; omega
          have j0 : (0 : Int) ≤ (j : Int) := by omega
          have j1 : (j : Int) ≤ 64 := by omega
          have j2 : j ≤ 64 := by omega
          have HSE : Hid (stepE y k 3 e = setE e 3 v) := hZ (by show setE e 3 (1 + pickZ (shE y k) 4) = _; unfold shE; rw [hj, hsv, hu, hv])
          have PS : Hid (∀ W, Calls Tryz.prog 54 #[e.val, .int .i64 (3 : Int), .int .i64 v] W fun x w' => x = .returned (setE e 3 v).val ∧ Below W.heap.size W w') := hZ fun W => set_walk e 3 (by omega) v W
          have HID := hZ HI.out.drew
          clear ru hu hIs hj
          go_wp2_with fail
          refine wp_region_noPanic ?_
          refine wp_region_held_drew (S := fun U => U.cell? (a7.add k) = some (.int .i64 (3 : Int)) ∧ U.cell? ⟨p, 2, none⟩ = some (.int .i64 y.y2)) (by kernel_rfl) ⟨HID.out.fcell HFK.out, HID.out.ycell rfl⟩ (fun hHeld => ?_)
          obtain ⟨U0, hU0⟩ := oQ (wr.drew)
          rw [hU0] at HID hHeld ⊢
          clear hU0
          refine tk 1 ?_
          refine tk 2 ?_
          refine tk 3 ?_
          refine tk 4 ?_
          refine tk 5 ?_
          refine tk 6 ?_
          refine tk 7 ?_
          refine tk 8 ?_
          refine tk 9 ?_
          refine rd [0, 10] ?_
          refine rc (fun K hK => ?_) ?_
          ·
           refine step_yields (S := fun U => EntAt U b e) (yieldsIf_load_mid (by rfl) 33 (.tmp 6) rfl b 0 (by rfl) e.cells _ (fun w hw => range_of hw) Tryz.underlying33 rfl (IE _).out) (by rfl) HID.out.he ?_
           refine kk hK (hHeld) (fun hHeld => ?_)
           clear hK K
           refine rd [10] ?_
           refine rcE fun K hK => ?_
           go_simp
           refine (PK.out _).mono ?_
           rintro e2 W2 ⟨rfl, rfl⟩
           refine kk hK (hHeld) (fun hHeld => ?_)
           clear hK K
           refine tk 11 ?_
           refine rd [12] ?_
           refine rcE fun K hK => ?_
           go_simp
           refine (PS.out _).mono ?_
           rintro e2 W8 ⟨rfl, hb⟩
           have HI8 := hZ (HID.out.step hb)
           clear hb
           refine kk hK (⟨HI8.out.fcell HFK.out, HI8.out.ycell rfl⟩) (fun hHeld => ?_)
           clear hK K
           refine rd [13] ?_
           refine rcE fun K hK => ?_
           refine step_store_ent (by rfl) (.tmp 6) (.tmp 66) (by rfl) (by rfl) b (setE e 3 v) (by rfl) (by rfl) (IS _).out HI8.out.he ?_
           have HI9 := hZ (HI8.out.row (setE e 3 v))
           refine kk hK (⟨HI9.out.fcell HFK.out, HI9.out.ycell rfl⟩) (fun hHeld => ?_)
           clear hK K
           refine dn ?_
           have HI2 : Hid (SmI w p b y (.slice (some a7) m c7) fs v3 ((l.take i).map someE) (stepE y k 3 e) _) := hZ (by rw [HSE.out]; exact HI9.out)
           clear hHeld
           go_wp2_with fail
           go_round
           case rel => exact ⟨k + 1, _, rfl, by omega, hZ (by rw [← fold_drop HFK.out]; exact HFO.out), hZ (step_frm y k 3 HFR.out), HI2⟩
           case measure => simp [intOf]; omega
          refine rcE fun K hK => ?_
          go_simp
          refine (PK.out _).mono ?_
          rintro e2 W2 ⟨rfl, rfl⟩
          refine kk hK (hHeld) (fun hHeld => ?_)
          clear hK K
          refine tk 11 ?_
          refine rd [0] ?_
          refine rcE fun K hK => ?_
          refine step_yields (S := fun U => EntAt U b e) (yieldsIf_load_mid (by rfl) 33 (.tmp 6) rfl b 0 (by rfl) e.cells _ (fun w hw => range_of hw) Tryz.underlying33 rfl (IE _).out) (by rfl) HID.out.he ?_
          refine kk hK (hHeld) (fun hHeld => ?_)
          clear hK K
          refine rd [12] ?_
          refine rcE fun K hK => ?_
          go_simp
          refine (PS.out _).mono ?_
          rintro e2 W8 ⟨rfl, hb⟩
          have HI8 := hZ (HID.out.step hb)
          clear hb
          refine kk hK (⟨HI8.out.fcell HFK.out, HI8.out.ycell rfl⟩) (fun hHeld => ?_)
          clear hK K
          refine rd [13] ?_
          refine rcE fun K hK => ?_
          refine step_store_ent (by rfl) (.tmp 6) (.tmp 66) (by rfl) (by rfl) b (setE e 3 v) (by rfl) (by rfl) (IS _).out HI8.out.he ?_
          have HI9 := hZ (HI8.out.row (setE e 3 v))
          refine kk hK (⟨HI9.out.fcell HFK.out, HI9.out.ycell rfl⟩) (fun hHeld => ?_)
          clear hK K
          refine dn ?_
          have HI2 : Hid (SmI w p b y (.slice (some a7) m c7) fs v3 ((l.take i).map someE) (stepE y k 3 e) _) := hZ (by rw [HSE.out]; exact HI9.out)
          clear hHeld
          go_wp2_with fail
          go_round
          case rel => exact ⟨k + 1, _, rfl, by omega, hZ (by rw [← fold_drop HFK.out]; exact HFO.out), hZ (step_frm y k 3 HFR.out), HI2⟩
          case measure => simp [intOf]; omega
        · obtain ⟨j, hj⟩ := oQ (2 * k)
          have hk4 : k ≤ 4 := by have := HM.out.2.1; omega
          have hIs := sh_I64 HYO.out.h2 hk4
          obtain ⟨sv, hsv⟩ := oQ (y.y2 / 2 ^ j)
          rw [hj, hsv] at hIs
          obtain ⟨u, hu⟩ := oQ (pickZ sv 4)
          have PK := pick_fact hIs (n := 4) (by omega) (by omega) hu
          have ru := pickZ_range sv (n := 4) (by omega)
          rw [hu] at ru
          obtain ⟨v, hv⟩ := oQ (1 + u)
          have wv : IntKind.i64.wrap v = v := by rw [IntKind.wrap_i64]; omega
          have wj : IntKind.i64.wrap (2 * (k : Int)) = (j : Int) := by rw [IntKind.wrap_i64]; omega
          have j0 : (0 : Int) ≤ (j : Int) := by omega
          have j1 : (j : Int) ≤ 64 := by omega
          have j2 : j ≤ 64 := by omega
          have HSE : Hid (stepE y k 4 e = setE e 4 v) := hZ (by show setE e 4 (1 + pickZ (shE y k) 4) = _; unfold shE; rw [hj, hsv, hu, hv])
          have PS : Hid (∀ W, Calls Tryz.prog 54 #[e.val, .int .i64 (4 : Int), .int .i64 v] W fun x w' => x = .returned (setE e 4 v).val ∧ Below W.heap.size W w') := hZ fun W => set_walk e 4 (by omega) v W
          have HID := hZ HI.out.drew
          clear ru hu hIs hj
          go_wp2_with fail
          refine wp_region_noPanic ?_
          refine wp_region_held_drew (S := fun U => U.cell? (a7.add k) = some (.int .i64 (4 : Int)) ∧ U.cell? ⟨p, 2, none⟩ = some (.int .i64 y.y2)) (by kernel_rfl) ⟨HID.out.fcell HFK.out, HID.out.ycell rfl⟩ (fun hHeld => ?_)
          obtain ⟨U0, hU0⟩ := oQ (wr.drew)
          rw [hU0] at HID hHeld ⊢
          clear hU0
          refine tk 1 ?_
          refine tk 2 ?_
          refine tk 3 ?_
          refine tk 4 ?_
          refine tk 5 ?_
          refine tk 6 ?_
          refine tk 7 ?_
          refine tk 8 ?_
          refine tk 9 ?_
          refine rd [0, 10] ?_
          refine rc (fun K hK => ?_) ?_
          ·
           refine step_yields (S := fun U => EntAt U b e) (yieldsIf_load_mid (by rfl) 33 (.tmp 6) rfl b 0 (by rfl) e.cells _ (fun w hw => range_of hw) Tryz.underlying33 rfl (IE _).out) (by rfl) HID.out.he ?_
           refine kk hK (hHeld) (fun hHeld => ?_)
           clear hK K
           refine rd [10] ?_
           refine rcE fun K hK => ?_
           go_simp
           refine (PK.out _).mono ?_
           rintro e2 W2 ⟨rfl, rfl⟩
           refine kk hK (hHeld) (fun hHeld => ?_)
           clear hK K
           refine tk 11 ?_
           refine rd [12] ?_
           refine rcE fun K hK => ?_
           go_simp
           refine (PS.out _).mono ?_
           rintro e2 W8 ⟨rfl, hb⟩
           have HI8 := hZ (HID.out.step hb)
           clear hb
           refine kk hK (⟨HI8.out.fcell HFK.out, HI8.out.ycell rfl⟩) (fun hHeld => ?_)
           clear hK K
           refine rd [13] ?_
           refine rcE fun K hK => ?_
           refine step_store_ent (by rfl) (.tmp 6) (.tmp 66) (by rfl) (by rfl) b (setE e 4 v) (by rfl) (by rfl) (IS _).out HI8.out.he ?_
           have HI9 := hZ (HI8.out.row (setE e 4 v))
           refine kk hK (⟨HI9.out.fcell HFK.out, HI9.out.ycell rfl⟩) (fun hHeld => ?_)
           clear hK K
           refine dn ?_
           have HI2 : Hid (SmI w p b y (.slice (some a7) m c7) fs v3 ((l.take i).map someE) (stepE y k 4 e) _) := hZ (by rw [HSE.out]; exact HI9.out)
           clear hHeld
           go_wp2_with fail
           go_round
           case rel => exact ⟨k + 1, _, rfl, by omega, hZ (by rw [← fold_drop HFK.out]; exact HFO.out), hZ (step_frm y k 4 HFR.out), HI2⟩
           case measure => simp [intOf]; omega
          refine rcE fun K hK => ?_
          go_simp
          refine (PK.out _).mono ?_
          rintro e2 W2 ⟨rfl, rfl⟩
          refine kk hK (hHeld) (fun hHeld => ?_)
          clear hK K
          refine tk 11 ?_
          refine rd [0] ?_
          refine rcE fun K hK => ?_
          refine step_yields (S := fun U => EntAt U b e) (yieldsIf_load_mid (by rfl) 33 (.tmp 6) rfl b 0 (by rfl) e.cells _ (fun w hw => range_of hw) Tryz.underlying33 rfl (IE _).out) (by rfl) HID.out.he ?_
          refine kk hK (hHeld) (fun hHeld => ?_)
          clear hK K
          refine rd [12] ?_
          refine rcE fun K hK => ?_
          go_simp
          refine (PS.out _).mono ?_
          rintro e2 W8 ⟨rfl, hb⟩
          have HI8 := hZ (HID.out.step hb)
          clear hb
          refine kk hK (⟨HI8.out.fcell HFK.out, HI8.out.ycell rfl⟩) (fun hHeld => ?_)
          clear hK K
          refine rd [13] ?_
          refine rcE fun K hK => ?_
          refine step_store_ent (by rfl) (.tmp 6) (.tmp 66) (by rfl) (by rfl) b (setE e 4 v) (by rfl) (by rfl) (IS _).out HI8.out.he ?_
          have HI9 := hZ (HI8.out.row (setE e 4 v))
          refine kk hK (⟨HI9.out.fcell HFK.out, HI9.out.ycell rfl⟩) (fun hHeld => ?_)
          clear hK K
          refine dn ?_
          have HI2 : Hid (SmI w p b y (.slice (some a7) m c7) fs v3 ((l.take i).map someE) (stepE y k 4 e) _) := hZ (by rw [HSE.out]; exact HI9.out)
          clear hHeld
          go_wp2_with fail
          go_round
          case rel => exact ⟨k + 1, _, rfl, by omega, hZ (by rw [← fold_drop HFK.out]; exact HFO.out), hZ (step_frm y k 4 HFR.out), HI2⟩
          case measure => simp [intOf]; omega
        · obtain ⟨j, hj⟩ := oQ (2 * k)
          have hk4 : k ≤ 4 := by have := HM.out.2.1; omega
          have hIs := sh_I64 HYO.out.h2 hk4
          obtain ⟨sv, hsv⟩ := oQ (y.y2 / 2 ^ j)
          rw [hj, hsv] at hIs
          obtain ⟨u, hu⟩ := oQ (pickZ sv 4)
          have PK := pick_fact hIs (n := 4) (by omega) (by omega) hu
          have ru := pickZ_range sv (n := 4) (by omega)
          rw [hu] at ru
          obtain ⟨v, hv⟩ := oQ (1 + u)
          have wv : IntKind.i64.wrap v = v := by rw [IntKind.wrap_i64]; omega
          have wj : IntKind.i64.wrap (2 * (k : Int)) = (j : Int) := by rw [IntKind.wrap_i64]; omega
          have j0 : (0 : Int) ≤ (j : Int) := by omega
          have j1 : (j : Int) ≤ 64 := by omega
          have j2 : j ≤ 64 := by omega
          have HSE : Hid (stepE y k 5 e = setE e 5 v) := hZ (by show setE e 5 (1 + pickZ (shE y k) 4) = _; unfold shE; rw [hj, hsv, hu, hv])
          have PS : Hid (∀ W, Calls Tryz.prog 54 #[e.val, .int .i64 (5 : Int), .int .i64 v] W fun x w' => x = .returned (setE e 5 v).val ∧ Below W.heap.size W w') := hZ fun W => set_walk e 5 (by omega) v W
          have HID := hZ HI.out.drew
          clear ru hu hIs hj
          go_wp2_with fail
          refine wp_region_noPanic ?_
          refine wp_region_held_drew (S := fun U => U.cell? (a7.add k) = some (.int .i64 (5 : Int)) ∧ U.cell? ⟨p, 2, none⟩ = some (.int .i64 y.y2)) (by kernel_rfl) ⟨HID.out.fcell HFK.out, HID.out.ycell rfl⟩ (fun hHeld => ?_)
          obtain ⟨U0, hU0⟩ := oQ (wr.drew)
          rw [hU0] at HID hHeld ⊢
          clear hU0
          refine tk 1 ?_
          refine tk 2 ?_
          refine tk 3 ?_
          refine tk 4 ?_
          refine tk 5 ?_
          refine tk 6 ?_
          refine tk 7 ?_
          refine tk 8 ?_
          refine tk 9 ?_
          refine rd [0, 10] ?_
          refine rc (fun K hK => ?_) ?_
          ·
           refine step_yields (S := fun U => EntAt U b e) (yieldsIf_load_mid (by rfl) 33 (.tmp 6) rfl b 0 (by rfl) e.cells _ (fun w hw => range_of hw) Tryz.underlying33 rfl (IE _).out) (by rfl) HID.out.he ?_
           refine kk hK (hHeld) (fun hHeld => ?_)
           clear hK K
           refine rd [10] ?_
           refine rcE fun K hK => ?_
           go_simp
           refine (PK.out _).mono ?_
           rintro e2 W2 ⟨rfl, rfl⟩
           refine kk hK (hHeld) (fun hHeld => ?_)
           clear hK K
           refine tk 11 ?_
           refine rd [12] ?_
           refine rcE fun K hK => ?_
           go_simp
           refine (PS.out _).mono ?_
           rintro e2 W8 ⟨rfl, hb⟩
           have HI8 := hZ (HID.out.step hb)
           clear hb
           refine kk hK (⟨HI8.out.fcell HFK.out, HI8.out.ycell rfl⟩) (fun hHeld => ?_)
           clear hK K
           refine rd [13] ?_
           refine rcE fun K hK => ?_
           refine step_store_ent (by rfl) (.tmp 6) (.tmp 66) (by rfl) (by rfl) b (setE e 5 v) (by rfl) (by rfl) (IS _).out HI8.out.he ?_
           have HI9 := hZ (HI8.out.row (setE e 5 v))
           refine kk hK (⟨HI9.out.fcell HFK.out, HI9.out.ycell rfl⟩) (fun hHeld => ?_)
           clear hK K
           refine dn ?_
           have HI2 : Hid (SmI w p b y (.slice (some a7) m c7) fs v3 ((l.take i).map someE) (stepE y k 5 e) _) := hZ (by rw [HSE.out]; exact HI9.out)
           clear hHeld
           go_wp2_with fail
           go_round
           case rel => exact ⟨k + 1, _, rfl, by omega, hZ (by rw [← fold_drop HFK.out]; exact HFO.out), hZ (step_frm y k 5 HFR.out), HI2⟩
           case measure => simp [intOf]; omega
          refine rcE fun K hK => ?_
          go_simp
          refine (PK.out _).mono ?_
          rintro e2 W2 ⟨rfl, rfl⟩
          refine kk hK (hHeld) (fun hHeld => ?_)
          clear hK K
          refine tk 11 ?_
          refine rd [0] ?_
          refine rcE fun K hK => ?_
          refine step_yields (S := fun U => EntAt U b e) (yieldsIf_load_mid (by rfl) 33 (.tmp 6) rfl b 0 (by rfl) e.cells _ (fun w hw => range_of hw) Tryz.underlying33 rfl (IE _).out) (by rfl) HID.out.he ?_
          refine kk hK (hHeld) (fun hHeld => ?_)
          clear hK K
          refine rd [12] ?_
          refine rcE fun K hK => ?_
          go_simp
          refine (PS.out _).mono ?_
          rintro e2 W8 ⟨rfl, hb⟩
          have HI8 := hZ (HID.out.step hb)
          clear hb
          refine kk hK (⟨HI8.out.fcell HFK.out, HI8.out.ycell rfl⟩) (fun hHeld => ?_)
          clear hK K
          refine rd [13] ?_
          refine rcE fun K hK => ?_
          refine step_store_ent (by rfl) (.tmp 6) (.tmp 66) (by rfl) (by rfl) b (setE e 5 v) (by rfl) (by rfl) (IS _).out HI8.out.he ?_
          have HI9 := hZ (HI8.out.row (setE e 5 v))
          refine kk hK (⟨HI9.out.fcell HFK.out, HI9.out.ycell rfl⟩) (fun hHeld => ?_)
          clear hK K
          refine dn ?_
          have HI2 : Hid (SmI w p b y (.slice (some a7) m c7) fs v3 ((l.take i).map someE) (stepE y k 5 e) _) := hZ (by rw [HSE.out]; exact HI9.out)
          clear hHeld
          go_wp2_with fail
          go_round
          case rel => exact ⟨k + 1, _, rfl, by omega, hZ (by rw [← fold_drop HFK.out]; exact HFO.out), hZ (step_frm y k 5 HFR.out), HI2⟩
          case measure => simp [intOf]; omega
        · obtain ⟨j, hj⟩ := oQ (2 * k)
          have hk4 : k ≤ 4 := by have := HM.out.2.1; omega
          have hIs := sh_I64 HYO.out.h2 hk4
          obtain ⟨sv, hsv⟩ := oQ (y.y2 / 2 ^ j)
          rw [hj, hsv] at hIs
          obtain ⟨u, hu⟩ := oQ (pickZ sv 4)
          have PK := pick_fact hIs (n := 4) (by omega) (by omega) hu
          have ru := pickZ_range sv (n := 4) (by omega)
          rw [hu] at ru
          obtain ⟨v, hv⟩ := oQ (1 + u)
          have wv : IntKind.i64.wrap v = v := by rw [IntKind.wrap_i64]; omega
          have wj : IntKind.i64.wrap (2 * (k : Int)) = (j : Int) := by rw [IntKind.wrap_i64]; omega
          have j0 : (0 : Int) ≤ (j : Int) := by omega
          have j1 : (j : Int) ≤ 64 := by omega
          have j2 : j ≤ 64 := by omega
          have HSE : Hid (stepE y k 6 e = setE e 6 v) := hZ (by show setE e 6 (1 + pickZ (shE y k) 4) = _; unfold shE; rw [hj, hsv, hu, hv])
          have PS : Hid (∀ W, Calls Tryz.prog 54 #[e.val, .int .i64 (6 : Int), .int .i64 v] W fun x w' => x = .returned (setE e 6 v).val ∧ Below W.heap.size W w') := hZ fun W => set_walk e 6 (by omega) v W
          have HID := hZ HI.out.drew
          clear ru hu hIs hj
          go_wp2_with fail
          refine wp_region_noPanic ?_
          refine wp_region_held_drew (S := fun U => U.cell? (a7.add k) = some (.int .i64 (6 : Int)) ∧ U.cell? ⟨p, 2, none⟩ = some (.int .i64 y.y2)) (by kernel_rfl) ⟨HID.out.fcell HFK.out, HID.out.ycell rfl⟩ (fun hHeld => ?_)
          obtain ⟨U0, hU0⟩ := oQ (wr.drew)
          rw [hU0] at HID hHeld ⊢
          clear hU0
          refine tk 1 ?_
          refine tk 2 ?_
          refine tk 3 ?_
          refine tk 4 ?_
          refine tk 5 ?_
          refine tk 6 ?_
          refine tk 7 ?_
          refine tk 8 ?_
          refine tk 9 ?_
          refine rd [0, 10] ?_
          refine rc (fun K hK => ?_) ?_
          ·
           refine step_yields (S := fun U => EntAt U b e) (yieldsIf_load_mid (by rfl) 33 (.tmp 6) rfl b 0 (by rfl) e.cells _ (fun w hw => range_of hw) Tryz.underlying33 rfl (IE _).out) (by rfl) HID.out.he ?_
           refine kk hK (hHeld) (fun hHeld => ?_)
           clear hK K
           refine rd [10] ?_
           refine rcE fun K hK => ?_
           go_simp
           refine (PK.out _).mono ?_
           rintro e2 W2 ⟨rfl, rfl⟩
           refine kk hK (hHeld) (fun hHeld => ?_)
           clear hK K
           refine tk 11 ?_
           refine rd [12] ?_
           refine rcE fun K hK => ?_
           go_simp
           refine (PS.out _).mono ?_
           rintro e2 W8 ⟨rfl, hb⟩
           have HI8 := hZ (HID.out.step hb)
           clear hb
           refine kk hK (⟨HI8.out.fcell HFK.out, HI8.out.ycell rfl⟩) (fun hHeld => ?_)
           clear hK K
           refine rd [13] ?_
           refine rcE fun K hK => ?_
           refine step_store_ent (by rfl) (.tmp 6) (.tmp 66) (by rfl) (by rfl) b (setE e 6 v) (by rfl) (by rfl) (IS _).out HI8.out.he ?_
           have HI9 := hZ (HI8.out.row (setE e 6 v))
           refine kk hK (⟨HI9.out.fcell HFK.out, HI9.out.ycell rfl⟩) (fun hHeld => ?_)
           clear hK K
           refine dn ?_
           have HI2 : Hid (SmI w p b y (.slice (some a7) m c7) fs v3 ((l.take i).map someE) (stepE y k 6 e) _) := hZ (by rw [HSE.out]; exact HI9.out)
           clear hHeld
           go_wp2_with fail
           go_round
           case rel => exact ⟨k + 1, _, rfl, by omega, hZ (by rw [← fold_drop HFK.out]; exact HFO.out), hZ (step_frm y k 6 HFR.out), HI2⟩
           case measure => simp [intOf]; omega
          refine rcE fun K hK => ?_
          go_simp
          refine (PK.out _).mono ?_
          rintro e2 W2 ⟨rfl, rfl⟩
          refine kk hK (hHeld) (fun hHeld => ?_)
          clear hK K
          refine tk 11 ?_
          refine rd [0] ?_
          refine rcE fun K hK => ?_
          refine step_yields (S := fun U => EntAt U b e) (yieldsIf_load_mid (by rfl) 33 (.tmp 6) rfl b 0 (by rfl) e.cells _ (fun w hw => range_of hw) Tryz.underlying33 rfl (IE _).out) (by rfl) HID.out.he ?_
          refine kk hK (hHeld) (fun hHeld => ?_)
          clear hK K
          refine rd [12] ?_
          refine rcE fun K hK => ?_
          go_simp
          refine (PS.out _).mono ?_
          rintro e2 W8 ⟨rfl, hb⟩
          have HI8 := hZ (HID.out.step hb)
          clear hb
          refine kk hK (⟨HI8.out.fcell HFK.out, HI8.out.ycell rfl⟩) (fun hHeld => ?_)
          clear hK K
          refine rd [13] ?_
          refine rcE fun K hK => ?_
          refine step_store_ent (by rfl) (.tmp 6) (.tmp 66) (by rfl) (by rfl) b (setE e 6 v) (by rfl) (by rfl) (IS _).out HI8.out.he ?_
          have HI9 := hZ (HI8.out.row (setE e 6 v))
          refine kk hK (⟨HI9.out.fcell HFK.out, HI9.out.ycell rfl⟩) (fun hHeld => ?_)
          clear hK K
          refine dn ?_
          have HI2 : Hid (SmI w p b y (.slice (some a7) m c7) fs v3 ((l.take i).map someE) (stepE y k 6 e) _) := hZ (by rw [HSE.out]; exact HI9.out)
          clear hHeld
          go_wp2_with fail
          go_round
          case rel => exact ⟨k + 1, _, rfl, by omega, hZ (by rw [← fold_drop HFK.out]; exact HFO.out), hZ (step_frm y k 6 HFR.out), HI2⟩
          case measure => simp [intOf]; omega
        · obtain ⟨ka, hka⟩ := oQ (pickZ y.y2 41)
          have PA := pick_fact HYO.out.h2 (n := 41) (by omega) (by omega) hka
          have rka := pickZ_range y.y2 (n := 41) (by omega)
          rw [hka] at rka
          obtain ⟨tb, htb⟩ := oQ (Int.tdiv y.y2 41)
          have hIb : I64 tb := tdiv_I64 HYO.out.h2 (by omega) htb
          have wtb : IntKind.i64.wrap tb = tb := wrap_of hIb
          obtain ⟨kb, hkb⟩ := oQ (pickZ tb 4)
          have PB := pick_fact hIb (n := 4) (by omega) (by omega) hkb
          have rkb := pickZ_range tb (n := 4) (by omega)
          rw [hkb] at rkb
          obtain ⟨kc, hkc⟩ := oQ (pickZ y.y5 5)
          have PC := pick_fact HYO.out.h5 (n := 5) (by omega) (by omega) hkc
          have rkc := pickZ_range y.y5 (n := 5) (by omega)
          rw [hkc] at rkc
          obtain ⟨den, hden⟩ : ∃ d : Nat, 1 + kb = (d : Int) := ⟨(1 + kb).toNat, by omega⟩
          have wden : IntKind.i64.wrap (den : Int) = (den : Int) := by rw [IntKind.wrap_i64]; omega
          obtain ⟨la, hla⟩ := oQ (ka - 20)
          obtain ⟨ha, hha⟩ := oQ (la + kc)
          have wla : IntKind.i64.wrap la = la := by rw [IntKind.wrap_i64]; omega
          have wha : IntKind.i64.wrap ha = ha := by rw [IntKind.wrap_i64]; omega
          have PO : Hid (∀ W, Calls Tryz.prog 53 #[.int .i64 (la), .int .i64 (den : Int)] W (RtP (la) den W)) := hZ fun W => rof_walk (la) den (by omega) (by show _ < 1000000000000000000; omega) (by show _ < 1000000000000000000; omega) W
          unfold RtP at PO
          obtain ⟨s1, hs1⟩ := oQ (rnB (la) den)
          obtain ⟨s2, hs2⟩ := oQ (rdB (la) den)
          rw [hs1, hs2] at PO
          have PQ : Hid (∀ W, Calls Tryz.prog 53 #[.int .i64 (ha), .int .i64 (den : Int)] W (RtP (ha) den W)) := hZ fun W => rof_walk (ha) den (by omega) (by show _ < 1000000000000000000; omega) (by show _ < 1000000000000000000; omega) W
          unfold RtP at PQ
          obtain ⟨s3, hs3⟩ := oQ (rnB (ha) den)
          obtain ⟨s4, hs4⟩ := oQ (rdB (ha) den)
          rw [hs3, hs4] at PQ
          have HSE : Hid (stepE y k 7 e = { e with ln := s1, ld := s2, hn := s3, hd := s4 }) := hZ (by
           have e1 : loE y = la := by unfold loE; rw [hka]; exact hla
           have e2 : hiE y = ha := by unfold hiE; rw [hka, hkc, hla]; exact hha
           have e3 : denE y = den := by unfold denE; rw [htb, hkb, hden]; rfl
           show ({ e with ln := rnB (loE y) (denE y), ld := rdB (loE y) (denE y), hn := rnB (hiE y) (denE y), hd := rdB (hiE y) (denE y) } : Ent) = _
           rw [e1, e2, e3, hs1, hs2, hs3, hs4])
          have HID := hZ HI.out.drew
          clear rka rkb rkc hka hkb hkc hIb hs1 hs2 hs3 hs4
          go_wp2_with fail
          refine wp_region_noPanic ?_
          refine wp_region_held_drew (S := fun U => U.cell? ⟨p, 2, none⟩ = some (.int .i64 y.y2)) (by kernel_rfl) (HID.out.ycell rfl) (fun hHeld => ?_)
          refine tk 0 ?_
          refine tk 1 ?_
          refine tk 4 ?_
          refine tk 5 ?_
          refine tk 6 ?_
          refine rd [2] ?_
          refine rcE fun K hK => ?_
          go_simp
          refine (PA.out _).mono ?_
          rintro e2 W2 ⟨rfl, rfl⟩
          refine kk hK (hHeld) (fun hHeld => ?_)
          clear hK K
          refine tk 3 ?_
          refine rd [7] ?_
          refine rcE fun K hK => ?_
          go_simp
          refine (PB.out _).mono ?_
          rintro e2 W2 ⟨rfl, rfl⟩
          refine kk hK (hHeld) (fun hHeld => ?_)
          clear hK K
          refine tk 8 ?_
          refine rd [9] ?_
          refine rcE fun K hK => ?_
          go_simp
          refine (PO.out _).mono ?_
          rintro e2 W8 ⟨rfl, hb⟩
          have HI8 := hZ (HID.out.step hb)
          clear hb
          have x1 := HI8.out.he.cell (i := 11) rfl
          have x2 := HI8.out.he.cell (i := 12) rfl
          have x3 := HI8.out.free 11
          have x4 := HI8.out.free 12
          refine kk hK (HI8.out.ycell rfl) (fun hHeld => ?_)
          clear hK K
          refine tk 10 ?_
          refine tk 11 ?_
          refine tk 12 ?_
          refine tk 13 ?_
          refine tk 14 ?_
          refine rd [15] ?_
          refine rcE fun K hK => ?_
          go_simp
          have HI9 := hZ (HI8.out.set2 (e1 := { e with ln := s1 }) (e2 := { e with ln := s1, ld := s2 }) 11 (.string s1) (.string s2) rfl rfl)
          refine kk hK (HI9.out.ycell rfl) (fun hHeld => ?_)
          clear hK K
          refine dn ?_
          have HIE := hZ HI9.out.drew
          clear hHeld x1 x2 x3 x4
          go_wp2_with fail
          refine wp_region_noPanic ?_
          refine wp_region_held_drew (S := fun U => U.cell? ⟨p, 2, none⟩ = some (.int .i64 y.y2) ∧ U.cell? ⟨p, 5, none⟩ = some (.int .i64 y.y5)) (by kernel_rfl) ⟨HIE.out.ycell rfl, HIE.out.ycell rfl⟩ (fun hHeld => ?_)
          refine tk 0 ?_
          refine tk 1 ?_
          refine tk 4 ?_
          refine tk 5 ?_
          refine tk 8 ?_
          refine tk 9 ?_
          refine tk 10 ?_
          refine rd [2] ?_
          refine rcE fun K hK => ?_
          go_simp
          refine (PA.out _).mono ?_
          rintro e2 W2 ⟨rfl, rfl⟩
          refine kk hK (hHeld) (fun hHeld => ?_)
          clear hK K
          refine tk 3 ?_
          refine rd [6] ?_
          refine rcE fun K hK => ?_
          go_simp
          refine (PC.out _).mono ?_
          rintro e2 W2 ⟨rfl, rfl⟩
          refine kk hK (hHeld) (fun hHeld => ?_)
          clear hK K
          refine tk 7 ?_
          refine rd [11] ?_
          refine rcE fun K hK => ?_
          go_simp
          refine (PB.out _).mono ?_
          rintro e2 W2 ⟨rfl, rfl⟩
          refine kk hK (hHeld) (fun hHeld => ?_)
          clear hK K
          refine tk 12 ?_
          refine rd [13] ?_
          refine rcE fun K hK => ?_
          go_simp
          refine (PQ.out _).mono ?_
          rintro e2 W8 ⟨rfl, hb⟩
          have HIF := hZ (HIE.out.step hb)
          clear hb
          have x1 := HIF.out.he.cell (i := 13) rfl
          have x2 := HIF.out.he.cell (i := 14) rfl
          have x3 := HIF.out.free 13
          have x4 := HIF.out.free 14
          refine kk hK (⟨HIF.out.ycell rfl, HIF.out.ycell rfl⟩) (fun hHeld => ?_)
          clear hK K
          refine tk 14 ?_
          refine tk 15 ?_
          refine tk 16 ?_
          refine tk 17 ?_
          refine tk 18 ?_
          refine rd [19] ?_
          refine rcE fun K hK => ?_
          go_simp
          have HIG := hZ (HIF.out.set2 (e1 := { e with ln := s1, ld := s2, hn := s3 }) (e2 := { e with ln := s1, ld := s2, hn := s3, hd := s4 }) 13 (.string s3) (.string s4) rfl rfl)
          refine kk hK (⟨HIG.out.ycell rfl, HIG.out.ycell rfl⟩) (fun hHeld => ?_)
          clear hK K
          refine dn ?_
          have HI2 : Hid (SmI w p b y (.slice (some a7) m c7) fs v3 ((l.take i).map someE) (stepE y k 7 e) _) := hZ (by rw [HSE.out]; exact HIG.out)
          clear hHeld
          go_wp2_with fail
          go_round
          case rel => exact ⟨k + 1, _, rfl, by omega, hZ (by rw [← fold_drop HFK.out]; exact HFO.out), hZ (step_frm y k 7 HFR.out), HI2⟩
          case measure => simp [intOf]; omega
        · obtain ⟨ka, hka⟩ := oQ (pickZ y.y2 9)
          have PA := pick_fact HYO.out.h2 (n := 9) (by omega) (by omega) hka
          have rka := pickZ_range y.y2 (n := 9) (by omega)
          rw [hka] at rka
          obtain ⟨kb, hkb⟩ := oQ (pickZ y.y4 9)
          have PB := pick_fact HYO.out.h4 (n := 9) (by omega) (by omega) hkb
          have rkb := pickZ_range y.y4 (n := 9) (by omega)
          rw [hkb] at rkb
          obtain ⟨den, hden⟩ : ∃ d : Nat, 1 + kb = (d : Int) := ⟨(1 + kb).toNat, by omega⟩
          have wden : IntKind.i64.wrap (den : Int) = (den : Int) := by rw [IntKind.wrap_i64]; omega
          have PO : Hid (∀ W, Calls Tryz.prog 53 #[.int .i64 (ka), .int .i64 (den : Int)] W (RtP (ka) den W)) := hZ fun W => rof_walk (ka) den (by omega) (by show _ < 1000000000000000000; omega) (by show _ < 1000000000000000000; omega) W
          unfold RtP at PO
          obtain ⟨s1, hs1⟩ := oQ (rnB (ka) den)
          obtain ⟨s2, hs2⟩ := oQ (rdB (ka) den)
          rw [hs1, hs2] at PO
          have HSE : Hid (stepE y k 8 e = { e with rn := s1, rd := s2 }) := hZ (by
           have e3 : denR y = den := by unfold denR; rw [hkb, hden]; rfl
           show ({ e with rn := rnB (pickZ y.y2 9) (denR y), rd := rdB (pickZ y.y2 9) (denR y) } : Ent) = _
           rw [e3, hka, hs1, hs2])
          have HID := hZ HI.out.drew
          clear rka rkb hka hkb hs1 hs2
          go_wp2_with fail
          refine wp_region_noPanic ?_
          refine wp_region_held_drew (S := fun U => U.cell? ⟨p, 2, none⟩ = some (.int .i64 y.y2) ∧ U.cell? ⟨p, 4, none⟩ = some (.int .i64 y.y4)) (by kernel_rfl) ⟨HID.out.ycell rfl, HID.out.ycell rfl⟩ (fun hHeld => ?_)
          refine tk 0 ?_
          refine tk 1 ?_
          refine tk 3 ?_
          refine tk 4 ?_
          refine rd [2] ?_
          refine rcE fun K hK => ?_
          go_simp
          refine (PA.out _).mono ?_
          rintro e2 W2 ⟨rfl, rfl⟩
          refine kk hK (hHeld) (fun hHeld => ?_)
          clear hK K
          refine rd [5] ?_
          refine rcE fun K hK => ?_
          go_simp
          refine (PB.out _).mono ?_
          rintro e2 W2 ⟨rfl, rfl⟩
          refine kk hK (hHeld) (fun hHeld => ?_)
          clear hK K
          refine tk 6 ?_
          refine rd [7] ?_
          refine rcE fun K hK => ?_
          go_simp
          refine (PO.out _).mono ?_
          rintro e2 W8 ⟨rfl, hb⟩
          have HI8 := hZ (HID.out.step hb)
          clear hb
          have x1 := HI8.out.he.cell (i := 15) rfl
          have x2 := HI8.out.he.cell (i := 16) rfl
          have x3 := HI8.out.free 15
          have x4 := HI8.out.free 16
          refine kk hK (⟨HI8.out.ycell rfl, HI8.out.ycell rfl⟩) (fun hHeld => ?_)
          clear hK K
          refine tk 8 ?_
          refine tk 9 ?_
          refine tk 10 ?_
          refine tk 11 ?_
          refine rd [12] ?_
          refine rcE fun K hK => ?_
          go_simp
          have HI9 := hZ (HI8.out.set2 (e1 := { e with rn := s1 }) (e2 := { e with rn := s1, rd := s2 }) 15 (.string s1) (.string s2) rfl rfl)
          refine kk hK (⟨HI9.out.ycell rfl, HI9.out.ycell rfl⟩) (fun hHeld => ?_)
          clear hK K
          refine dn ?_
          have HI2 : Hid (SmI w p b y (.slice (some a7) m c7) fs v3 ((l.take i).map someE) (stepE y k 8 e) _) := hZ (by rw [HSE.out]; exact HI9.out)
          clear hHeld
          go_wp2_with fail
          go_round
          case rel => exact ⟨k + 1, _, rfl, by omega, hZ (by rw [← fold_drop HFK.out]; exact HFO.out), hZ (step_frm y k 8 HFR.out), HI2⟩
          case measure => simp [intOf]; omega
        · have PR := hZ (fun W => rootG_walk y.y2 W)
          have c2 := HI.out.ycell (i := 2) rfl
          obtain ⟨rt, hrt⟩ := oQ (rootG y.y2)
          rw [hrt] at PR
          have HRT := hZ hrt
          clear hrt
          go_wp2_with (first
           | (go_at_call 43; refine (PR.out _).mono ?_; rintro e2 W2 ⟨rfl, hb⟩; have HI1 := hZ (HI.out.step hb); clear hb; have x1 := HI1.out.he.cell (i := 17) rfl; have x2 := HI1.out.free 17; have HI2 := hZ (HI1.out.set (e' := stepE y k 9 e) 17 (.string rt) (by unfold stepE; rw [HRT.out]; rfl)))
           | fail)
          go_round
          case rel => exact ⟨k + 1, _, rfl, by omega, hZ (by rw [← fold_drop HFK.out]; exact HFO.out), hZ (step_frm y k 9 HFR.out), HI2⟩
          case measure => simp [intOf]; omega
      · obtain rfl : k = m := by omega
        have d3 : decide (k < k) = false := by simp
        have he : e = someE y := by have := HFO.out; rwa [List.drop_of_length_le (by rw [HM.out.1]; exact Nat.le_refl _)] at this
        subst he
        have HRG := hZ (range_of (cs := (someE y).cells) HI.out.he)
        have HLEN : Hid (((l.take i).map someE).length = i) := hZ (by rw [List.length_map, List.length_take, HN.out]; omega)
        have HBs := hZ HI.out.hB.size
        have hbb : w.heap.size ≤ wr.heap.size := HBs.out
        have w1 : IntKind.i64.wrap ((i : Int) + 1) = ((i + 1 : Nat) : Int) := by rw [IntKind.wrap_i64]; omega
        have HTK : Hid ((l.take i).map someE ++ [someE y] = (l.take (i + 1)).map someE) := hZ (by rw [List.take_add_one, HYI.out, List.map_append]; rfl)
        go_wp2_with (first
         | ((with_reducible refine wpList_load_mid rfl 33 (.tmp 6) rfl b 0 ?hx (someE y).cells _ HRG.out Tryz.underlying33 rfl (IE _).out ?_); (case hx => rfl))
         | ((with_reducible refine wpList_build_ent rfl (.tmp 146) rfl (someE y) ?hx ?_); (case hx => rfl); intro bn V9 hbn hV9; have HV9 := hZ (show V9.heap[bn]? = some (.cells (someE y).cells.toArray 33 (0, 0)) from by rw [← hV9, ← hbn]; exact World.alloc_heap_new _ _); have HBV := hZ (show Below wr.heap.size wr V9 from by rw [← hV9]; exact below_new _ _); clear hbn hV9)
         | (at_builtin; refine wpList_app rfl (.tmp 145) (.tmp 147) 25 rfl elemEnt _ ((l.take i).map someE) i HLEN.out rfl (HI.out.ho.below HBV.out (Nat.le_refl _)) (someE y) bn (someE y).cells.toArray rfl HV9.out rfl rfl (one_cells' _) (by have := HLEN.out; unfold maxLen; omega) (by have := HLEN.out; omega) (Nat.le_trans HBs.out HBV.out.size) ?_; intro g3 c3 w3 h3 _ _ _ hb3; have HO3 := hZ h3; have HB3 := hZ (HI.out.hB.trans ((HBV.out.mono HBs.out).trans hb3)); clear h3 hb3)
         | fail)
        go_roundw
        case rel => exact ⟨_, i + 1, rfl, by go_num, by have := HLT.out; omega, by have := HLT.out; omega, hZ (by have := HO3.out; rwa [HTK.out] at this), HB3⟩
        case measure => simp [intOf]; have := HLT.out; omega
  · have HEND : Hid (l.take i = l.take 30) := hZ (by
     rcases Nat.lt_or_ge i n with h | h
     · rw [show i = 30 by omega]
     · rw [List.take_of_length_le (by rw [HN.out]; exact h), List.take_of_length_le (by rw [HN.out]; omega)])
    by_cases h1 : i < n
    · have d1 : decide (i < n) = true := by simp [h1]
      obtain rfl : i = 30 := by omega
      have d2 : decide (((30 : Nat) : Int) < 30) = false := by decide
      go_wp2_with fail
      go_ret
      exact ⟨_, rfl, by rw [← List.map_take]; exact HO.out, HB.out⟩
    · have d1 : decide (i < n) = false := by simp; omega
      go_wp2_with fail
      go_ret
      exact ⟨_, rfl, by have := HO.out; rwa [HEND.out] at this, HB.out⟩
end Go.Proofs.YteeifhlhpiimoaaGreatDoor
end
section
namespace Go.Proofs.YteeifhlhpiimoaaGreatDoor
open Go Go.RowKit Go.Shelf Wr
theorem txt_size {neg : Bool} {n : Nat} (h : n < 1000000000000000000) : (txtB neg n).size ≤ 100 := by
 have h1 : (txtB neg n).size = (txtL neg n).length := rfl
 have h2 : (dg n).length ≤ 18 := dg_len_le h
 have h3 := decS_len_dg n
 rw [h1]
 unfold txtL
 split
 · simp
 · rw [List.length_append]
   have : (if neg = true then ([45] : List UInt8) else []).length ≤ 1 := by split <;> simp
   omega
theorem rn_size {x : Int} {y : Nat} (h : x.natAbs < 1000000000000000000) : (rnB x y).size ≤ 100 := txt_size (Nat.lt_of_le_of_lt (Nat.div_le_self _ _) h)
theorem rd_size {x : Int} {y : Nat} (h : y < 1000000000000000000) : (rdB x y).size ≤ 100 := txt_size (Nat.lt_of_le_of_lt (Nat.div_le_self _ _) h)
theorem root_size (n : Int) : (rootG n).size = 32 := by
 have : (rootG n).size = (rootGL n).length := rfl
 rw [this]; unfold rootGL; simp
structure Texts (e : Ent) : Prop where
 ln : e.ln.size ≤ 100
 ld : e.ld.size ≤ 100
 hn : e.hn.size ≤ 100
 hd : e.hd.size ≤ 100
 rn : e.rn.size ≤ 100
 rd : e.rd.size ≤ 100
 text : e.text.size ≤ 100
theorem Texts.wire {e : Ent} (h : Texts e) : e.Wire := ⟨by have := h.ln; omega, by have := h.ld; omega, by have := h.hn; omega, by have := h.hd; omega, by have := h.rn; omega, by have := h.rd; omega, by have := h.text; omega⟩
theorem texts_zero : Texts zeroE := ⟨by decide, by decide, by decide, by decide, by decide, by decide, by decide⟩
theorem texts_step (y : Six) (k f : Nat) {e : Ent} (h : Texts e) : Texts (stepE y k f e) := by
 have p41 := pickZ_range y.y2 (n := 41) (by omega)
 have p5 := pickZ_range y.y5 (n := 5) (by omega)
 have p9 := pickZ_range y.y2 (n := 9) (by omega)
 have p4 := pickZ_range (Int.tdiv y.y2 41) (n := 4) (by omega)
 have q9 := pickZ_range y.y4 (n := 9) (by omega)
 have hl : (loE y).natAbs < 1000000000000000000 := by unfold loE; omega
 have hh : (hiE y).natAbs < 1000000000000000000 := by unfold hiE; omega
 have hd : denE y < 1000000000000000000 := by unfold denE; omega
 have hr : denR y < 1000000000000000000 := by unfold denR; omega
 have hp : (pickZ y.y2 9).natAbs < 1000000000000000000 := by omega
 unfold stepE
 split
 · exact ⟨h.ln, h.ld, h.hn, h.hd, h.rn, h.rd, h.text⟩
 · exact ⟨h.ln, h.ld, h.hn, h.hd, h.rn, h.rd, h.text⟩
 · exact ⟨h.ln, h.ld, h.hn, h.hd, h.rn, h.rd, h.text⟩
 · exact ⟨rn_size hl, rd_size hd, rn_size hh, rd_size hd, h.rn, h.rd, h.text⟩
 · exact ⟨h.ln, h.ld, h.hn, h.hd, rn_size hp, rd_size hr, h.text⟩
 · exact ⟨h.ln, h.ld, h.hn, h.hd, h.rn, h.rd, by show (rootG y.y2).size ≤ 100; rw [root_size]; omega⟩
 · unfold setE; split <;> exact ⟨h.ln, h.ld, h.hn, h.hd, h.rn, h.rd, h.text⟩
theorem texts_fold (y : Six) : ∀ (fs : List Nat) (k : Nat) {e : Ent}, Texts e → Texts (foldE y k fs e)
 | [], _, _, h => h
 | f :: fs, k, _, h => texts_fold y fs (k + 1) (texts_step y k f h)
theorem some_texts (y : Six) : Texts (someE y) := texts_fold y _ 0 ⟨texts_zero.ln, texts_zero.ld, texts_zero.hn, texts_zero.hd, texts_zero.rn, texts_zero.rd, texts_zero.text⟩
end Go.Proofs.YteeifhlhpiimoaaGreatDoor
end
section
namespace Go.Proofs.YteeifhlhpiimoaaGreatDoor
open Go Go.RowKit Go.Shelf
def barsB (day : Int) (x : Ent) (i k : Nat) (z : Ent) : Bool := (decide (z.day ≤ day) && prevE z x) || (decide (k < i) && eqE z x)
def blockN (l : List Ent) (day : Int) (x : Ent) (i : Nat) : Nat → Bool
 | 0 => false
 | n + 1 => blockN l day x i n || (match l[n]? with | some z => barsB day x i n z | none => false)
def standB (l : List Ent) (day : Int) (x : Ent) (i : Nat) : Bool := (validE x && (decide (x.day ≤ day) && !x.gone)) && !(blockN l day x i l.length)
def stands (l : List Ent) (day : Int) : Nat → List Ent
 | 0 => []
 | n + 1 => stands l day n ++ (match l[n]? with | some x => if standB l day x n = true then [x] else [] | none => [])
end Go.Proofs.YteeifhlhpiimoaaGreatDoor
end
section
namespace Go.Proofs.YteeifhlhpiimoaaGreatDoor
open Go Go.RowKit Go.ChangeShapes Go.WideShapes Go.Deep
def CAt {α : Type} (w : World) (B : Nat) (A : Option Addr) (size : Nat) (f : α → List Value) (l : List α) : Prop :=
 ∀ i x, l[i]? = some x → ∃ a, A = some a ∧ a.block < B ∧ ∀ j v, (f x)[j]? = some v → w.cell? (a.add (i * size + j)) = some v
theorem CAt.below {α : Type} {w w' : World} {B : Nat} {A : Option Addr} {size : Nat} {f : α → List Value} {l : List α} (h : CAt w B A size f l) (hb : Below B w w') : CAt w' B A size f l := fun i x hx => by
 obtain ⟨a, e, hl, hc⟩ := h i x hx
 exact ⟨a, e, hl, fun j v hv => (hb.cell (by rw [addr_add_block]; exact hl)).trans (hc j v hv)⟩
theorem CAt.get {α : Type} {w : World} {B : Nat} {A : Option Addr} {size : Nat} {f : α → List Value} {l : List α} (h : CAt w B A size f l) {i : Nat} (hi : i < l.length) :
 ∃ a, A = some a ∧ a.block < B ∧ ∀ j v, (f l[i])[j]? = some v → w.cell? (a.add (i * size + j)) = some v := h i _ (List.getElem?_eq_getElem hi)
theorem list_choose {α : Type} {p : Nat → α → Prop} : ∀ n, (∀ i, i < n → ∃ y, p i y) → ∃ l : List α, l.length = n ∧ ∀ i y, l[i]? = some y → p i y
 | 0, _ => ⟨[], rfl, fun i y h => by simp at h⟩
 | n + 1, h => by
   obtain ⟨l, hl, hp⟩ := list_choose n (fun i hi => h i (by omega))
   obtain ⟨y, hy⟩ := h n (by omega)
   refine ⟨l ++ [y], by simp [hl], fun i z hz => ?_⟩
   rcases Nat.lt_or_ge i l.length with q | q
   · rw [List.getElem?_append_left q] at hz; exact hp i z hz
   · rw [List.getElem?_append_right q] at hz
     have : i - l.length = 0 := by
      rcases Nat.eq_zero_or_pos (i - l.length) with e | e
      · exact e
      · rw [List.getElem?_eq_none (by show 1 ≤ _; omega)] at hz; cases hz
     rw [this] at hz
     obtain rfl : y = z := by simpa using hz
     rw [show i = n by omega]; exact hy
section
variable {H : Type} {enc : TypeId × Value → H} {P : Program} {W : World} {base : Nat} {sp : Nat → Bool} {held : Bool} {b0 : Nat} {r : Reach}
theorem open_rowsAt {α : Type} (f : α → List Value) (ok : α → Prop) {t e : TypeId} {v : Value} {d : DataW H} {p : List MemPlace} (ht : P.underlying t = some (.slice e)) (size : Nat) (hc : P.cellsOf e = size) (hpos : 0 < size)
 (hop : ∀ n cs x, cs.length = size → DataW.trod enc P W base sp held n e cs = some x → ∃ y, cs = f y ∧ ok y)
 (hv : Value.okWide P W r b0 t v) (h : DataW.Trod enc P W base sp held t v d p) :
 ∃ (A : Option Addr) (l : List α) (cap : Nat), v = .slice A l.length cap ∧ l.length ≤ cap ∧ cap ≤ maxLen ∧ CAt W W.heap.size A size f l ∧ ∀ y ∈ l, ok y := by
 obtain ⟨fuel, hf⟩ := h
 have hcs := open_slice_value ht hv
 rcases open_slice ht hf with ⟨e1, _⟩ | ⟨a, len, cap, m, n, D, Pl, e1, _, hl, hm, hmm, _, hi⟩
 · rw [hcs] at e1
   injection e1 with e1
   exact ⟨none, [], 0, e1, Nat.le_refl _, by unfold maxLen; omega, fun i x hx => by simp at hx, fun s hs => by cases hs⟩
 · rw [hcs] at e1
   injection e1 with e1
   have hlm : len ≤ m := by rw [hmm]; split <;> omega
   obtain ⟨l, hll, hp⟩ := list_choose (p := fun i (y : α) => ok y ∧ ∀ j v, (f y)[j]? = some v → W.cell? (a.add (i * size + j)) = some v) len (fun i hil => by
    obtain ⟨cs, hcc, ht'⟩ := hi i (by omega)
    rw [hc] at hcc
    obtain ⟨_, h2, h3⟩ := World.cells?_some hcc
    obtain ⟨y, rfl, hok⟩ := hop n cs _ h2 ht'
    refine ⟨y, hok, fun j v hj => ?_⟩
    have hjl : j < size := by rw [← h2]; exact (List.getElem?_eq_some_iff.1 hj).1
    have := h3 j hjl
    rw [addr_add_add] at this
    rw [this, hj])
   refine ⟨some a, l, cap, by rw [hll]; exact e1, by omega, hm, fun i x hx => ?_, fun y hy => ?_⟩
   · have hq := hp i x hx
     refine ⟨a, rfl, ?_, hq.2⟩
     have hil : i < len := by rw [← hll]; exact (List.getElem?_eq_some_iff.1 hx).1
     obtain ⟨cs, hcc, _⟩ := hi i (by omega)
     rw [hc] at hcc
     obtain ⟨_, h2, h3⟩ := World.cells?_some hcc
     have := h3 0 hpos
     rw [List.getElem?_eq_getElem (by omega)] at this
     have := cell_lt this
     rwa [addr_add_block, addr_add_block] at this
   · obtain ⟨i, hil, rfl⟩ := List.getElem_of_mem hy
     exact (hp i _ (List.getElem?_eq_getElem hil)).1
end
structure GR where
 A : Option Addr
 l : List ByteArray
 c : Nat
def GR.cells (x : GR) : List Value := [.slice x.A x.l.length x.c]
def GR.ok (W : World) (x : GR) : Prop := x.l.length ≤ x.c ∧ x.c ≤ maxLen ∧ LAt W W.heap.size x.A .string x.l ∧ ∀ s ∈ x.l, s.size ≤ maxLen
set_option maxRecDepth 100000 in
theorem open_sixAt {H : Type} {enc : TypeId × Value → H} {W : World} {base : Nat} {sp : Nat → Bool} {held : Bool} {b0 : Nat} {r : Reach} {v : Value} {d : DataW H} {p : List MemPlace}
 (hv : Value.okWide Tryz.prog W r b0 22 v) (h : DataW.Trod enc Tryz.prog W base sp held 22 v d p) :
 ∃ (A : Option Addr) (l : List Six) (cap : Nat), v = .slice A l.length cap ∧ l.length ≤ maxLen ∧ SixAt W A l ∧ ∀ y ∈ l, y.Ok := by
 have key := open_rowsAt (e := 78) Six.cells Six.Ok Tryz.underlying22 6 (by kernel_rfl) (by decide) (fun n cs x hl ht => by
  obtain ⟨xs, m, _, _, _, hxl, hi⟩ := DataW.trod_array Tryz.underlying78 ht
  have hc : Tryz.prog.cellsOf 3 = 1 := by kernel_rfl
  match cs, hl with
  | [c0, c1, c2, c3, c4, c5], _ =>
    match xs, hxl with
    | [x0, x1, x2, x3, x4, x5], _ =>
      have h0 := hi 0 (by decide)
      have h1 := hi 1 (by decide)
      have h2 := hi 2 (by decide)
      have h3 := hi 3 (by decide)
      have h4 := hi 4 (by decide)
      have h5 := hi 5 (by decide)
      simp [hc] at h0 h1 h2 h3 h4 h5
      obtain ⟨z0, e0, _, w0⟩ := DataW.trod_int Tryz.underlying3 (x := x0) (cs := [c0]) h0
      obtain ⟨z1, e1, _, w1⟩ := DataW.trod_int Tryz.underlying3 (x := x1) (cs := [c1]) h1
      obtain ⟨z2, e2, _, w2⟩ := DataW.trod_int Tryz.underlying3 (x := x2) (cs := [c2]) h2
      obtain ⟨z3, e3, _, w3⟩ := DataW.trod_int Tryz.underlying3 (x := x3) (cs := [c3]) h3
      obtain ⟨z4, e4, _, w4⟩ := DataW.trod_int Tryz.underlying3 (x := x4) (cs := [c4]) h4
      obtain ⟨z5, e5, _, w5⟩ := DataW.trod_int Tryz.underlying3 (x := x5) (cs := [c5]) h5
      simp only [List.cons.injEq, and_true] at e0 e1 e2 e3 e4 e5
      subst e0 e1 e2 e3 e4 e5
      exact ⟨⟨z0, z1, z2, z3, z4, z5⟩, rfl, ⟨bounds_i64 w0, bounds_i64 w1, bounds_i64 w2, bounds_i64 w3, bounds_i64 w4, bounds_i64 w5⟩⟩) hv h
 obtain ⟨A, l, cap, h1, h2, h3, h4, h5⟩ := key
 exact ⟨A, l, cap, h1, by omega, h4, h5⟩
end Go.Proofs.YteeifhlhpiimoaaGreatDoor
end
section
namespace Go.Proofs.YteeifhlhpiimoaaGreatDoor
open Go Go.RowKit Go.Shelf
def setL : List Value → Nat → List Value → List Value
 | xs, _, [] => xs
 | xs, o, v :: vs => setL (xs.set o v) (o + 1) vs
theorem setL_get : ∀ (vs : List Value) (o : Nat) (xs : List Value) (k : Nat), o + vs.length ≤ xs.length → (setL xs o vs)[k]? = if o ≤ k ∧ k < o + vs.length then vs[k - o]? else xs[k]?
 | [], o, xs, k, _ => by rw [if_neg (by simp)]; rfl
 | v :: vs, o, xs, k, h => by
   simp only [List.length_cons] at h
   rw [setL, setL_get vs (o + 1) (xs.set o v) k (by simp; omega)]
   by_cases h1 : o + 1 ≤ k ∧ k < o + 1 + vs.length
   · rw [if_pos h1, if_pos (by simp only [List.length_cons]; omega), show k - o = (k - (o + 1)) + 1 by omega, List.getElem?_cons_succ]
   · rw [if_neg h1]
     by_cases h2 : k = o
     · subst h2
       rw [if_pos (by simp only [List.length_cons]; omega), Nat.sub_self, List.getElem?_set_self (by omega)]; rfl
     · rw [if_neg (by simp only [List.length_cons]; omega), List.getElem?_set_ne (by omega)]
theorem owns_setCells {B g n c : Nat} {T : TypeId} {s : Nat} : ∀ (vs : List Value) (o : Nat) (xs : List Value) (w : World), w.ownsRow B T s (.slice (some ⟨g, 0, none⟩) n c) n xs → (w.setCells g o vs).ownsRow B T s (.slice (some ⟨g, 0, none⟩) n c) n (setL xs o vs)
 | [], _, _, _, h => h
 | v :: vs, o, xs, w, h => by rw [World.setCells, setL]; exact owns_setCells vs (o + 1) _ _ (World.ownsRow.stored h o v).1
theorem OL.put {w : World} {B g n c i : Nat} {l : List Ent} (h : OL w B 33 18 Ent.cells (.slice (some ⟨g, 0, none⟩) n c) l) (hi : i < n) (e : Ent) :
 OL (w.setCells g (i * 18) e.cells) B 33 18 Ent.cells (.slice (some ⟨g, 0, none⟩) n c) (l.set i e) := by
 have hn := h.len.1
 subst hn
 have h1 := owns_setCells e.cells (i * 18) _ w h
 unfold OL
 rw [List.length_set]
 have hf : ∀ x : Ent, x.cells.length = 18 := fun _ => rfl
 have hlen : (l.flatMap Ent.cells).length = l.length * 18 := flatMap_length hf
 have hlen2 : ((l.set i e).flatMap Ent.cells).length = l.length * 18 := by rw [flatMap_length hf, List.length_set]
 have e1 : setL (l.flatMap Ent.cells) (i * 18) e.cells = (l.set i e).flatMap Ent.cells := by
  apply List.ext_getElem?
  intro k
  rw [setL_get _ _ _ _ (by rw [hf, hlen]; omega), hf]
  by_cases hk : k < l.length * 18
  · obtain ⟨q, r, hr, rfl⟩ : ∃ q r, r < 18 ∧ k = q * 18 + r := ⟨k / 18, k % 18, by omega, by omega⟩
    have hq : q < l.length := by omega
    by_cases hqi : q = i
    · subst hqi
      rw [if_pos (by omega), flat_at (f := Ent.cells) (s := 18) hf (l.set q e) q e (by rw [List.getElem?_set_self hq]) r hr]
      congr 1; omega
    · rw [if_neg (by omega), flat_at (f := Ent.cells) (s := 18) hf l q l[q] (List.getElem?_eq_getElem hq) r hr, flat_at (f := Ent.cells) (s := 18) hf (l.set i e) q l[q] (by rw [List.getElem?_set_ne (by omega)]; exact List.getElem?_eq_getElem hq) r hr]
  · rw [if_neg (by omega), List.getElem?_eq_none (by omega), List.getElem?_eq_none (by omega)]
 rw [← e1]
 exact h1
theorem OL.row {w : World} {B g n c i : Nat} {l : List Ent} {e : Ent} (h : OL w B 33 18 Ent.cells (.slice (some ⟨g, 0, none⟩) n c) l) (he : l[i]? = some e) : w.rangeAt g (i * 18) e.cells := by
 intro j v hv
 have hn := h.len.1
 subst hn
 have hf : ∀ x : Ent, x.cells.length = 18 := fun _ => rfl
 have hj : j < 18 := (List.getElem?_eq_some_iff.1 hv).1
 have hi : i < l.length := (List.getElem?_eq_some_iff.1 he).1
 have hlen : (l.flatMap Ent.cells).length = l.length * 18 := flatMap_length hf
 rw [World.ownsRow.cellAt h (i * 18 + j) (by omega), flat_at (f := Ent.cells) (s := 18) hf l i e he j hj]; exact hv
theorem OL.there {w : World} {B g n c i : Nat} {l : List Ent} (h : OL w B 33 18 Ent.cells (.slice (some ⟨g, 0, none⟩) n c) l) (hi : i < n) : w.there g (i * 18) 18 := by
 have hn := h.len.1
 subst hn
 obtain ⟨e, he⟩ : ∃ e, l[i]? = some e := ⟨_, List.getElem?_eq_getElem hi⟩
 intro j hj
 have h1 := h.row he
 obtain ⟨v, hv⟩ : ∃ v, e.cells[j]? = some v := ⟨_, List.getElem?_eq_getElem hj⟩
 exact ⟨by rw [h1 j v hv]; rfl, World.ownsRow.frozenAt h _⟩
theorem OL.cats {w : World} {B n c : Nat} {A : Option Addr} {m : List Ent} (h : OL w B 33 18 Ent.cells (.slice A n c) m) : ∀ j x, (m.flatMap Ent.cells)[j]? = some x → ∃ a, A = some a ∧ w.cell? (a.add j) = some x := by
 intro j x hx
 have hlen : (m.flatMap Ent.cells).length = m.length * 18 := flatMap_length (fun _ => rfl)
 have hj : j < m.length * 18 := by rw [← hlen]; exact (List.getElem?_eq_some_iff.1 hx).1
 have hn := h.len.1
 subst hn
 obtain ⟨g, cap, e1, -, -, -, -⟩ := h.form (by omega)
 injection e1 with e1 e2 e3
 subst e1 e3
 refine ⟨_, rfl, ?_⟩
 rw [show (⟨g, 0, none⟩ : Addr).add j = ⟨g, j, none⟩ from by simp [Addr.add]; omega, World.ownsRow.cellAt h j (by omega)]
 exact hx
theorem OL.cut {w : World} {B n c k : Nat} {A : Option Addr} {m : List Ent} (h : OL w B 33 18 Ent.cells (.slice A n c) m) : ∀ j x, ((m.take k).flatMap Ent.cells)[j]? = some x → ∃ a, A = some a ∧ w.cell? (a.add j) = some x := by
 intro j x hx
 rw [← flatMap_take (f := Ent.cells) (size := 18) (fun _ => rfl), List.getElem?_take] at hx
 split at hx
 · exact h.cats j x hx
 · cases hx
theorem takeL_len {E K : Type} [DecidableEq K] (ok : E → Bool) (key : E → K) (prev : E → E → Bool) (a : List E) (e : E) : (takeL ok key prev a e).length ≤ a.length + 1 := by
 unfold takeL
 split
 · split
   · simp
   · split <;> simp
 · omega
theorem effL_len {E K : Type} [DecidableEq K] (ok : E → Bool) (key : E → K) (prev : E → E → Bool) (l : List E) : (effL ok key prev l).length ≤ l.length := by
 have h : ∀ (b a : List E), (b.foldl (takeL ok key prev) a).length ≤ a.length + b.length := by
  intro b
  induction b with
  | nil => intro a; simp
  | cons e b ih => intro a; rw [List.foldl_cons]; have := ih (takeL ok key prev a e); have := takeL_len ok key prev a e; simp only [List.length_cons]; omega
 have := h l []
 unfold effL
 simpa using this
theorem known_len (l : List Ent) (d : Int) (j : Nat) : (knownL l d j).length ≤ l.length := by
 unfold knownL effD
 rw [(sortB_perm _).length_eq]
 exact Nat.le_trans (List.length_filter_le _ _) (Nat.le_trans (List.length_filter_le _ _) (effL_len _ _ _ l))
def Bas.put (B : Bas) (j : Nat) (l : List Ent) (A : Option Addr) (c : Nat) : Bas := ⟨upd B.ls j l, upd B.ad j A, upd B.cp j c⟩
theorem Bas.put2_cells (B : Bas) {j : Nat} (hj : j < 9) (l m : List Ent) (A A' : Option Addr) (c c' : Nat) : (B.put j l A c).cells.toArray.setIfInBounds j (.slice A' m.length c') = (B.put j m A' c').cells.toArray := by
 have h : j = 0 ∨ j = 1 ∨ j = 2 ∨ j = 3 ∨ j = 4 ∨ j = 5 ∨ j = 6 ∨ j = 7 ∨ j = 8 := by omega
 rcases h with rfl | rfl | rfl | rfl | rfl | rfl | rfl | rfl | rfl <;> rfl
theorem BasAt.put {W : World} {Y : Nat → Prop} {B : Bas} {j : Nat} {l : List Ent} {A : Option Addr} {c : Nat} (h : BasAt W Y B) (hl : EAt W Y A l) (hc : l.length ≤ c ∧ c ≤ maxLen) (hn : A = none → c = 0) : BasAt W Y (B.put j l A c) := by
 refine ⟨fun i hi => ?_, fun i hi => ?_, fun i hi => ?_⟩ <;> unfold Bas.put <;> simp only <;> by_cases hij : i = j
 · subst hij; rw [upd_same, upd_same]; exact hl
 · rw [upd_other _ _ hij, upd_other _ _ hij]; exact h.at_ i hi
 · subst hij; rw [upd_same, upd_same]; exact hc
 · rw [upd_other _ _ hij, upd_other _ _ hij]; exact h.cap i hi
 · subst hij; rw [upd_same, upd_same]; exact hn
 · rw [upd_other _ _ hij, upd_other _ _ hij]; exact h.none_ i hi
theorem BasAt.putO {W : World} {Y : Nat → Prop} {B : Bas} {j N n : Nat} {l : List Ent} {A : Option Addr} {c : Nat} (h : BasAt W Y B) (ho : OL W N 33 18 Ent.cells (.slice A n c) l) (hY : ∀ b, A = some ⟨b, 0, none⟩ → Y b) : BasAt W Y (B.put j l A c) := by
 have hn := ho.len
 exact h.put (EAt.of_ol ho hY) ⟨by omega, hn.2.2⟩ ho.nilcap
theorem EAt.cats {w : World} {Y : Nat → Prop} {A : Option Addr} {l : List Ent} (h : EAt w Y A l) : ∀ j x, (l.flatMap Ent.cells)[j]? = some x → ∃ a, A = some a ∧ w.cell? (a.add j) = some x := by
 intro j x hx
 have hf : ∀ x : Ent, x.cells.length = 18 := fun _ => rfl
 have hlen : (l.flatMap Ent.cells).length = l.length * 18 := flatMap_length hf
 have hj : j < l.length * 18 := by rw [← hlen]; exact (List.getElem?_eq_some_iff.1 hx).1
 obtain ⟨q, r, hr, rfl⟩ : ∃ q r, r < 18 ∧ j = q * 18 + r := ⟨j / 18, j % 18, by omega, by omega⟩
 have hq : q < l.length := by omega
 obtain ⟨b, hA, _, hrg⟩ := h q _ (List.getElem?_eq_getElem hq)
 refine ⟨_, hA, ?_⟩
 rw [show (⟨b, 0, none⟩ : Addr).add (q * 18 + r) = ⟨b, q * 18 + r, none⟩ from by simp [Addr.add]; omega]
 rw [flat_at (f := Ent.cells) (s := 18) hf l q _ (List.getElem?_eq_getElem hq) r hr] at hx
 exact hrg r x hx
theorem ibase9 : (Tryz.prog.info? 36).map (·.size) = some 9 := by kernel_rfl
theorem store_newB {ops : Array Oper} {rest : List Oper} {o : Oper} {a : Act} {V : World} {old : Array Value} {Q : Exit → Act → World → Prop} (hgd : o.guard = none) (x y : Operand) (ho : o.op = .store 36 x y) (hd : o.dst = none) (B : Bas)
 (hx : a.eval x = .pointer (some ⟨V.heap.size, 0, none⟩)) (hy : a.eval y = .agg B.cells.toArray) (hold : old.size = 9)
 (h : ∀ w', w'.heap[V.heap.size]? = some (.cells B.cells.toArray 36 (0, 0)) → Below V.heap.size V w' → wpList Tryz.prog ops Q rest a w') : wpList Tryz.prog ops Q (o :: rest) a (V.alloc (.cells old 36)) :=
 wpList_store_rowN hgd _ x y ho hd V.heap.size B.cells.toArray old hx hy ibase9 (World.alloc_heap_new V _) hold (by simp [Bas.cells, Value.oneCell']) fun w' hc ht => h w' hc (ht.below (below_new V _) (Nat.le_refl _) fun k hk => by omega)
end Go.Proofs.YteeifhlhpiimoaaGreatDoor
end
