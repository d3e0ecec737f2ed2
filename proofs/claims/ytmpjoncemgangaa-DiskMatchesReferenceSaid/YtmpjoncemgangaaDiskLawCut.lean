/-
  The law DiskCut answers true for all arguments. Conditions: the arguments are such as the row reads.
-/
import Derived.Test.YtmpjoncemgangaaDiskLawAll
namespace Go.Proofs.Ytmpjoncemgangaa
open Go Go.RowKit Go.Shelf Go.Sort

/-- A disk that loses its power after c writes, k of the calls made. -/
structure DS.Cutting (s : DS) (n c k : Nat) : Prop where
  off : s.off = decide (c ≤ k)
  left : s.left = c - k
  pend : s.pend.length = min k c
  vis : s.vis.length = n
  app : s.vis = applyP s.pend s.dur
theorem DS.Cutting.writeE {s : DS} {n c k : Nat} (h : s.Cutting n c k) {p : Nat} {x : ByteArray} (hf : p + x.size ≤ n) : s.writeE p x = if k < c then 0 else 251 := by
  unfold DS.writeE
  rw [h.off, h.vis, insB_fit hf]
  by_cases hk : k < c
  · rw [if_pos hk, if_neg (by simp; omega)]; rfl
  · rw [if_neg hk, if_pos (by simp; omega)]
theorem DS.Cutting.wr {s : DS} {n c k : Nat} (h : s.Cutting n c k) {p : Nat} {x : ByteArray} (hf : p + x.size ≤ n) (hk : k < c) : s.wr p x = ⟨decide (c ≤ k + 1), c - (k + 1), s.dur, patch s.vis p x.data.toList, s.pend ++ [(p, x)]⟩ := by
  unfold DS.wr
  rw [h.off, h.vis, insB_fit hf, if_neg (by simp; omega), if_pos rfl, Int.toNat_natCast]
  unfold DS.write DS.used
  dsimp only
  rw [h.left, if_neg (by omega), show c - k - 1 = c - (k + 1) by omega, show decide (c - (k + 1) = 0) = decide (c ≤ k + 1) by rw [decide_eq_decide]; omega]
theorem DS.Cutting.step {s : DS} {n c k : Nat} (h : s.Cutting n c k) {p : Nat} {x : ByteArray} (hf : p + x.size ≤ n) (hk : k < c) : (s.wr p x).Cutting n c (k + 1) := by
  rw [h.wr hf hk]
  refine ⟨rfl, rfl, by simp only [List.length_append, List.length_singleton, h.pend]; omega, ?_, by rw [applyP_snoc, ← h.app]⟩
  rw [patch_length (by rw [h.vis]; simpa using hf)]; exact h.vis
theorem DS.Cutting.stay {s : DS} {n c k : Nat} (h : s.Cutting n c k) {p : Nat} {x : ByteArray} (hk : ¬ k < c) : s.wr p x = s ∧ s.Cutting n c (k + 1) := by
  have ho : s.off = true := by rw [h.off]; simp; omega
  refine ⟨by unfold DS.wr; rw [ho, if_pos rfl], ?_, ?_, ?_, h.vis, h.app⟩
  · rw [ho]; simp; omega
  · rw [h.left]; omega
  · rw [h.pend]; omega
theorem Cutting.start (n c : Nat) : (DS.fresh n).cutE (c + 5 : Nat) = 0 ∧ ((DS.fresh n).cut (c + 5 : Nat)).cutE c = 0 ∧ (((DS.fresh n).cut (c + 5 : Nat)).cut c).Cutting n c 0 ∧ (((DS.fresh n).cut (c + 5 : Nat)).cut c).vis = List.replicate n 0 := by
  have e1 : (DS.fresh n).cut (c + 5 : Nat) = { DS.fresh n with off := false, left := c + 5 } := by
    unfold DS.cut
    rw [show (DS.fresh n).off = false from rfl, if_neg (by simp), if_neg (by omega), Int.toNat_natCast]
    simp
  have e2 : ((DS.fresh n).cut (c + 5 : Nat)).cut c = { DS.fresh n with off := decide (c = 0), left := c } := by
    rw [e1]; unfold DS.cut
    rw [if_neg (by simp), if_neg (by omega), Int.toNat_natCast]
  refine ⟨?_, ?_, ?_, by rw [e2]; rfl⟩
  · unfold DS.cutE
    rw [show (DS.fresh n).off = false from rfl, if_neg (by simp), if_neg (by omega)]
  · rw [e1]; unfold DS.cutE; rw [if_neg (by simp), if_neg (by omega)]
  · rw [e2]; exact ⟨by simp, rfl, by simp [DS.fresh], by simp [DS.fresh], rfl⟩
theorem OL.turns {α : Type} {w w' : World} {B : Nat} {e : TypeId} {size : Nat} {f : α → List Value} {v : Value} {l : List α} {Z : Nat → Prop} (h : OL w B e size f v l) (t : Turns Z w w') (hz : ∀ j, v.ownBlock = some j → ¬ Z j) : OL w' B e size f v l :=
  h.keep fun j hj => t.block j (h.lt j hj).2 (hz j hj)

set_option maxRecDepth 100000 in
set_option maxHeartbeats 16000000 in
theorem cutLaw_walk (W : World) (z y0 : Int) (A : Option Addr) (l : List WR) (cap : Nat) (h1 : -9223372036854775808 ≤ z) (h2 : z ≤ 9223372036854775807) (h3 : -9223372036854775808 ≤ y0) (h4 : y0 ≤ 9223372036854775807) (hA : CAt W W.heap.size A 3 WR.cells l) (hok : ∀ y ∈ l, y.ok) :
    Calls Try.prog 10 #[.int .i64 z, .int .i64 y0, .slice A l.length cap] W fun e W' => e = .returned (.bool true) ∧ Below W.heap.size W W' := by
  obtain ⟨q3, q4⟩ := pickZ_range y0 (n := 20) (by omega)
  have HPC := Lib.hid (pick_walk (x := y0) (n := 20) · h3 h4 (by omega) (by omega))
  obtain ⟨c, hc⟩ : ∃ c : Nat, pickZ y0 20 = c := ⟨(pickZ y0 20).toNat, by omega⟩
  rw [hc] at HPC q3 q4
  have hc20 : c < 20 := by omega
  have w5 : IntKind.i64.wrap ((c : Int) + 5) = ((c + 5 : Nat) : Int) := by rw [IntKind.wrap_i64]; omega
  clear hc q3 q4
  obtain ⟨q1, q2⟩ := pickZ_range z (n := 100) (by omega)
  have HP := Lib.hid (pick_walk (x := z) (n := 100) · h1 h2 (by omega) (by omega))
  obtain ⟨n, hn⟩ : ∃ n : Nat, 1 + pickZ z 100 = n := ⟨(1 + pickZ z 100).toNat, by omega⟩
  obtain ⟨q, hq⟩ : ∃ q, pickZ z 100 = q := ⟨_, rfl⟩
  rw [hq] at HP q1 q2 hn
  have w1 : IntKind.i64.wrap (1 + q) = (n : Int) := by rw [IntKind.wrap_i64]; omega
  have hn1 : 1 ≤ n := by omega
  have hn2 : n ≤ 100 := by omega
  have hmk := mkRow n (by omega)
  obtain ⟨C, hC⟩ : ∃ C, madeCells #[.int .u8 0] n = C := ⟨_, rfl⟩
  rw [hC] at hmk
  have HCL := Lib.hid (show C.toList = (List.replicate n (0 : UInt8)).map bv by rw [← hC]; exact made_bytes n)
  clear hC
  have HA := Lib.hid hA
  have HOK := Lib.hid hok
  clear hn hq hA hok
  go_enter Try.func10, Try.ntmps10
  go_wp2_with fail
  refine (sane_walk W).mono ?_
  rintro e W1 ⟨rfl, hb⟩
  have HB := Lib.hid hb
  clear hb
  go_wp2_with fail
  refine (HP.out W1).mono ?_
  rintro e W2 ⟨rfl, rfl⟩
  go_wp2_with fail
  refine (HPC.out W1).mono ?_
  rintro e W2 ⟨rfl, rfl⟩
  go_wp2_with fail
  refine (new_L (W0 := W) (Z := fun _ => False) (Turns.of_below HB.out) (fun _ e => e.elim) n hn1 (by omega)).mono ?_
  rintro e W2 ⟨⟨d, gd, gv, rfl, h⟩, -⟩
  have HL := Lib.hid h
  have HSZ0 := Lib.hid h.size
  clear h
  obtain ⟨e1, e2, e3, e4⟩ := Cutting.start n c
  obtain ⟨s0, hs0⟩ : ∃ s0, ((DS.fresh n).cut (c + 5 : Nat)).cut c = s0 := ⟨_, rfl⟩
  rw [hs0] at e3 e4
  have HE := Lib.hid (And.intro e1 (And.intro e2 hs0))
  have HC0 := Lib.hid (And.intro e3 e4)
  clear e1 e2 e3 e4 hs0
  go_wp2_with fail
  refine (cut_L HL.out (c + 5 : Nat)).mono ?_
  rw [HE.out.1]
  rintro e W3 ⟨rfl, hl, -⟩
  clear HL
  have HL := Lib.hid hl
  clear hl
  go_wp2_with fail
  refine (cut_L HL.out c).mono ?_
  rw [HE.out.2.1, HE.out.2.2]
  rintro e W4 ⟨rfl, h, -⟩
  clear HL
  have HL := Lib.hid ((h.mono (Z' := fun k => k = W4.heap.size) (fun k e hk => by omega)).quiet (Turns.alloc W4 (.cells C 5)))
  have HR := Lib.hid (RAt.alloc_new (f := bv) W4 C 5 HCL.out)
  have HSZ := Lib.hid h.size
  clear h
  go_wp2_with fail
  obtain ⟨gb, hgb⟩ : ∃ gb, W4.heap.size = gb := ⟨_, rfl⟩
  rw [hgb] at HL HR HSZ ⊢
  obtain ⟨W5, hW5⟩ : ∃ W5, W4.alloc (.cells C 5) = W5 := ⟨_, rfl⟩
  rw [hW5] at HL HR ⊢
  have HB5 : Hid (gb < W5.heap.size) := Lib.hid (by rw [← hW5, World.size_alloc]; omega)
  clear hgb hW5 hmk
  obtain ⟨B, hB⟩ : ∃ B, W5.heap.size = B := ⟨_, rfl⟩
  rw [hB] at HB5
  have HLB := Lib.hid (show B ≤ W5.heap.size by omega)
  clear hB
  go_loopw [11, 12, 13, 14] (fun u v _ _ wr => ∃ (k m : Nat) (s : DS) (oA : Option Addr) (oc : Nat), u = .slice oA m oc ∧ m = min k c ∧ k ≤ l.length ∧ k ≤ 40 ∧ v = .int .i64 (k : Int) ∧ Lives W (fun j => j = gb ∨ (Value.slice oA m oc).ownBlock = some j) wr d gd gv n s ∧ Hid (s.Cutting n c k) ∧ RAt wr gb bv s.vis ∧ OL wr B 3 1 (one iv) (.slice oA m oc) ((List.range m).map fun (i : Nat) => (i : Int)) ∧ B ≤ wr.heap.size) (fun _ v _ _ _ => 40 - (intOf v).toNat)
  case atStart => exact ⟨0, 0, s0, none, 0, rfl, by omega, by omega, by omega, rfl, HL.out.mono (fun j e _ => by rcases e with e | e; exact e; cases e), Lib.hid HC0.out.1, by rw [HC0.out.2]; exact HR.out, OL.nil, HLB.out⟩
  case round =>
    obtain ⟨k, m, s, oA, oc, rfl, hmk, hk1, hk2, rfl, hL, HC, hr, ho, hB2⟩ := hrel
    have HLk := Lib.hid hL
    have HLS := Lib.hid hL.size
    have HRk := Lib.hid hr
    have HO := Lib.hid ho
    have HB2 := Lib.hid hB2
    have HMK := Lib.hid hmk
    have hm20 : m < 20 := by omega
    clear hL hr HL HR ho hB2 hmk
    by_cases hlt : k < l.length ∧ k < 40
    · have d1 : decide ((k : Int) < (l.length : Int)) = true := by simp [hlt]
      have d2 : decide ((k : Int) < 40) = true := by simp; omega
      have hlt2 := hlt.2
      replace hlt := hlt.1
      obtain ⟨a, rfl, hab, hac⟩ := (HA.out.below HLk.out.below).get hlt
      obtain ⟨y, hy⟩ : ∃ y, l[k] = y := ⟨_, rfl⟩
      rw [hy] at hac
      have HY := Lib.hid (HOK.out y (by rw [← hy]; exact List.getElem_mem hlt))
      obtain ⟨yo, ys, yb⟩ := y
      have c0 := hac 0 _ rfl
      have c1 := hac 1 _ rfl
      have c2 := hac 2 _ rfl
      rw [Nat.add_zero] at c0
      rw [add_field a (k * 3) 0] at c1
      rw [add_field a (k * 3) 1] at c2
      rw [Nat.zero_add] at c1
      have y1 : (0 : Int) ≤ (k : Int) := by omega
      have y2 : (k : Int) < (l.length : Int) := by omega
      have w2 : IntKind.i64.wrap ((k : Int) + 1) = ((k + 1 : Nat) : Int) := by rw [IntKind.wrap_i64]; omega
      clear hac
      clear hy
      go_wp2_with fail
      obtain ⟨pr1, pr2⟩ := pickZ_range yo (n := ((n + 1 : Nat) : Int)) (by omega)
      obtain ⟨p, hp⟩ : ∃ p : Nat, pickZ yo ((n + 1 : Nat) : Int) = (p : Int) := ⟨(pickZ yo ((n + 1 : Nat) : Int)).toNat, by omega⟩
      have hys := HY.out.2.2
      unfold maxLen at hys
      refine (fits_walk wr yo ys yb n p HY.out.1 HY.out.2.1 (by dsimp only at hys; omega) (by omega) hp).mono ?_
      rw [hp] at pr1 pr2
      obtain ⟨x, hx⟩ : ∃ x, lcut ys (n - p) = x := ⟨_, rfl⟩
      rw [hx]
      have HFIT : Hid (p + x.size ≤ n) := Lib.hid (by have := lcut_size ys (n - p); rw [hx] at this; omega)
      have HXP := Lib.hid (And.intro hp hx)
      clear hp hx pr1 pr2 hys c0 c1 c2
      rintro e W4 ⟨rfl, hb4⟩
      have HL5 := Lib.hid (((HLk.out.quiet (Turns.of_below hb4)).mono (Z' := fun j => (j = gb ∨ (Value.slice oA m oc).ownBlock = some j) ∨ j = W4.heap.size) (fun j e hj => by rcases e with e | e; exact e; omega)).quiet (Turns.alloc W4 (.cells #[.int .i64 (p : Int), .string x, .bool yb] 53)))
      have HT5 := Lib.hid ((Turns.of_below (Z := fun _ => False) hb4).trans (Turns.alloc W4 (.cells #[.int .i64 (p : Int), .string x, .bool yb] 53)))
      have HWB := Lib.hid hb4.size
      go_wp2_with fail
      obtain ⟨w, hw⟩ : ∃ w, W4.heap.size = w := ⟨_, rfl⟩
      obtain ⟨W5, hW5⟩ : ∃ W5, W4.alloc (.cells #[.int .i64 (p : Int), .string x, .bool yb] 53) = W5 := ⟨_, rfl⟩
      have HC5 : Hid (RecAt W5 w p x yb) := Lib.hid (by
        rw [← hW5, ← hw]
        exact ⟨by rw [World.size_alloc]; omega, by simp, by simp, by simp⟩)
      rw [hw] at HL5 HWB ⊢
      rw [hW5] at HL5 HT5 ⊢
      have HR5 : Hid (RAt W5 gb bv s.vis) := Lib.hid (HRk.out.turns HT5.out (fun e => e))
      have HGW : Hid (gb < w) := Lib.hid (Nat.lt_of_lt_of_le HRk.out.lt HWB.out)
      clear HRk
      have HO5 := Lib.hid (HO.out.turns HT5.out (fun _ _ e => e))
      have HBW : Hid (B ≤ w) := Lib.hid (Nat.le_trans HB2.out HWB.out)
      clear hw hW5 hb4 HLk HT5 HO
      have d0 := HC5.out.c0
      have d1' := HC5.out.c1
      have d2' := HC5.out.c2
      go_wp2_with fail
      refine (write_L HL5.out (fun j e => by rcases e with (e | e) | e; (rw [e]; exact HR5.out.lt); exact (HO5.out.lt j e).2; (rw [e]; exact HC5.out.lt)) p x (by have := HFIT.out; omega) (by have := HC.out.pend; omega) (by rw [HC.out.left]; omega)).mono ?_
      rw [HC.out.writeE HFIT.out]
      rintro e W7 ⟨rfl, hl, ht⟩
      have HR7 := Lib.hid (HR5.out.turns ht (fun e => e (.inl (.inl rfl))))
      have HC7 := Lib.hid (HC5.out.turns ht (fun e => e (.inr rfl)))
      have HO7 := Lib.hid (HO5.out.turns ht (fun j e q => q (.inl (.inr e))))
      have HL7 := Lib.hid hl
      have HS7 : Hid (W5.heap.size ≤ W7.heap.size) := Lib.hid ht.size
      clear hl ht HL5 HR5 HC5 HO5 d0 d1' d2'
      have d0 := HC7.out.c0
      have d1' := HC7.out.c1
      by_cases hkc : k < c
      · rw [if_pos hkc]
        have d3 : decide ((k : Int) < (c : Int)) = true := by simp [hkc]
        have HMKK := Lib.hid (show m = k by have := HMK.out; omega)
        go_wp2_with fail
        refine (put_walk W7 gb n p s.vis x HR7.out HC.out.vis HFIT.out (by omega)).mono ?_
        rintro e W8 ⟨rfl, hr, ht⟩
        have HR8 := Lib.hid hr
        have HO8 := Lib.hid (HO7.out.turns ht (fun j e q => by have h1 := (HO7.out.lt j e).1; have h2 := HB5.out; omega))
        have HL8 := Lib.hid (HL7.out.keep (ht.mono (fun j e => .inl (.inl e))) (fun j e => by have h2 := HSZ.out; have h3 := HLS.out; have h4 := HWB.out; have h5 := HB5.out; rcases e with (e | e) | e; (rw [e]; omega); (have := (HO7.out.lt j e).1; omega); (rw [e]; omega)))
        have HB8 : Hid (B ≤ W8.heap.size) := Lib.hid (by have := ht.size; have := HS7.out; have := HC7.out.lt; have := HBW.out; omega)
        clear hr ht HL7 HR7 HO7 HC7 d0 d1'
        have ho := HO8.out
        have hB8 := HB8.out
        go_wp2_with (first
          | (at_builtin
             go_must (refine wpList_app rfl (.tmp 79) (.tmp 81) 37 rfl elemI _ ((List.range m).map fun (i : Nat) => (i : Int)) m (by simp) rfl (ho.alloc _) (k : Int) _ #[.int .i64 (k : Int)] rfl ?hc rfl rfl (by simp [one, iv, Value.oneCell']) (by rw [List.length_map, List.length_range]; unfold maxLen; omega) (by rw [List.length_map, List.length_range]; omega) (by simp; omega) ?_)
             (case hc => exact World.alloc_heap_new _ _)
             intro g3 c3 w3 h3 hg3 hg3' hg3l hb3
             have HA3 := Lib.hid (And.intro h3 (And.intro hg3 (And.intro hg3' (And.intro hg3l hb3))))
             clear hg3 hg3' h3 hb3 hg3l)
          | fail)
        have HST := HC.out.step HFIT.out hkc
        have hvis : (s.wr p x).vis = patch s.vis p x.data.toList := by rw [HC.out.wr HFIT.out hkc]
        refine ⟨⟨k + 1, m + 1, s.wr p x, some ⟨g3, 0, none⟩, c3, rfl, by have := HMK.out; omega, by omega, by omega, rfl, ?_, Lib.hid HST, ?_, ?_, ?_⟩, by simp [intOf]; omega⟩
        · have hq := (HL8.out.quiet (Turns.alloc W8 (.cells #[.int .i64 (k : Int)] 3))).mono (Z' := fun j => ((j = gb ∨ (Value.slice oA m oc).ownBlock = some j) ∨ j = w) ∨ j = g3) (fun j e hj => by
            rcases e with e | e
            · exact e
            · rcases HA3.out.2.2.1 with q | q
              · exact .inl (.inr (by rw [e]; exact q))
              · omega)
          refine (hq.keep (W' := w3) ?_ ?_).mono (fun j e _ => ?_)
          · have hg := HA3.out.2.1
            exact ⟨hg.os, hg.tape, hg.output, hg.size, fun j hj hz => hg.block j hj (fun e => hz (.inl (.inl (.inr e.symm))))⟩
          · intro j e
            have h2 := HSZ.out; have h3 := HLS.out; have h4 := HWB.out; have h5 := HB5.out
            rcases e with ((e | e) | e) | e
            · rw [e]; omega
            · have := (HO8.out.lt j e).1; omega
            · rw [e]; omega
            · have := (HA3.out.1.lt g3 rfl).1; omega
          · rcases e with e | e
            · exact .inl (.inl (.inl e))
            · exact .inr (by cases e; rfl)
        · rw [hvis]
          have hne : ∀ g, (Value.slice oA m oc).ownBlock = some g → ¬ g = gb := fun g e => by have h1 := (HO8.out.lt g e).1; have h2 := HB5.out; omega
          have ha := HR8.out.alloc (.cells #[.int .i64 (k : Int)] 3)
          exact ha.turns (Turns.of_grown HA3.out.2.1) (fun e => hne gb e rfl)
        · rw [List.range_succ, List.map_append, HMKK.out]
          have := HA3.out.1
          rw [HMKK.out] at this
          exact this
        · have h1 := HA3.out.2.1.size; have h2 := HB8.out; simp at h1; omega
      · rw [if_neg hkc]
        have d3 : decide ((k : Int) < (c : Int)) = false := by simp; omega
        go_wp2_with fail
        obtain ⟨e1, e2⟩ := HC.out.stay (p := p) (x := x) hkc
        rw [e1] at HL7
        exact ⟨⟨k + 1, m, s, oA, oc, rfl, by have := HMK.out; omega, by omega, by omega, rfl, HL7.out.mono (fun j e _ => .inl e), Lib.hid e2, HR7.out, HO7.out, by have := HS7.out; have := HC7.out.lt; have := HBW.out; omega⟩, by simp [intOf]; omega⟩
    · by_cases hl1 : k < l.length
      · have d1 : decide ((k : Int) < (l.length : Int)) = true := by simp [hl1]
        have d2 : decide ((k : Int) < 40) = false := by simp; omega
        have hkk : k = 40 := by omega
        clear hlt
        by_cases hmc : m < c
        · have d4 : decide ((m : Int) < (c : Int)) = true := by simp [hmc]
          have hchk : chkE s = 0 := by unfold chkE; rw [HC.out.off, if_neg (by have := HMK.out; simp; omega)]
          go_wp2_with fail
          refine (sync_L HLk.out).mono ?_
          rw [hchk]
          rintro e W5 ⟨rfl, hl, -⟩
          have HL5 := Lib.hid hl
          clear hl hchk
          go_wp2_with fail
          go_ret
          exact ⟨rfl, HL5.out.below⟩
        · have d4 : decide ((m : Int) < (c : Int)) = false := by simp; omega
          have hmc2 : m = c := by have := HMK.out; omega
          have hoff : s.off = true := by rw [HC.out.off]; have := HMK.out; simp; omega
          have HOF := Lib.hid hoff
          have HMC := Lib.hid hmc2
          clear hoff hmc2
          go_wp2_with fail
          refine (read_L HLk.out 0 0).mono ?_
          rw [show s.read 0 0 = (ByteArray.empty, 251) by unfold DS.read; rw [HOF.out, if_pos rfl]]
          rintro e W9 ⟨rfl, rfl⟩
          go_wp2_with fail
          refine (sync_L HLk.out).mono ?_
          rw [show chkE s = 251 by unfold chkE; rw [HOF.out]; rfl, show s.sync = s by unfold DS.sync; rw [HOF.out, if_pos rfl]]
          rintro e W5 ⟨rfl, hl, ht⟩
          have HL5 := Lib.hid hl
          have HR5 := Lib.hid (HRk.out.turns ht (fun e => e (.inl rfl)))
          have HO5 := Lib.hid (HO.out.turns ht (fun j e q => q (.inr e)))
          clear hl ht HLk HRk HO
          go_wp2_with fail
          refine (cut_L HL5.out 3).mono ?_
          rw [show s.cutE 3 = 251 by unfold DS.cutE; rw [HOF.out, if_pos rfl], show s.cut 3 = s by unfold DS.cut; rw [HOF.out, if_pos rfl]]
          rintro e W6 ⟨rfl, hl, ht⟩
          have HL6 := Lib.hid hl
          have HR6 := Lib.hid (HR5.out.turns ht (fun e => e (.inl rfl)))
          have HO6 := Lib.hid (HO5.out.turns ht (fun j e q => q (.inr e)))
          clear hl ht HL5 HR5 HO5
          go_wp2_with fail
          refine (pending_L HL6.out).mono ?_
          have hpl : s.pend.length = c := by rw [HC.out.pend, ← HMK.out, HMC.out]
          have HPL := Lib.hid hpl
          rw [hpl]
          rintro e W9 ⟨rfl, rfl⟩
          clear hpl
          go_wp2_with fail
          refine (size_L HL6.out).mono ?_
          rintro e W9 ⟨rfl, rfl⟩
          go_wp2_with fail
          refine (crash_L HL6.out oA ((List.range m).map fun (i : Nat) => (i : Int)) m oc (by simp) (by omega) HO6.out.lat (-1) (by rw [HPL.out]; omega)).mono ?_
          rw [show s.crash ((List.range m).map fun (i : Nat) => (i : Int)) (-1) = ⟨false, 0, s.vis, s.vis, []⟩ by rw [HMC.out, ← HPL.out]; exact crash_all s HC.out.app]
          rintro e W7 ⟨rfl, hl, ht⟩
          have HL7 := Lib.hid hl
          have HR7 := Lib.hid (HR6.out.turns ht (fun e => e (.inl rfl)))
          clear hl ht HL6 HR6 HO6
          have HC5 : Hid (DS.Calm ⟨false, 0, s.vis, s.vis, []⟩ n 0) := Lib.hid ⟨rfl, rfl, Nat.le_refl _, HL7.out.len.1⟩
          go_wp2_with fail
          refine (read_L HL7.out 0 n).mono ?_
          rw [HC5.out.read]
          rintro e W9 ⟨rfl, rfl⟩
          have hcv := HR7.out.convert (P := Try.prog) (cap := n) (show s.vis.length = n from HC.out.vis) 40 9 5 Try.underlying40 Try.underlying5 Try.underlying9
          obtain ⟨T, hT⟩ : ∃ T : ByteArray, ⟨s.vis.toArray⟩ = T := ⟨_, rfl⟩
          rw [hT] at hcv ⊢
          clear hT
          go_wp2_with fail
          have HF1 : Hid (0 + (⟨#[120]⟩ : ByteArray).size ≤ n) := Lib.hid (by show 0 + 1 ≤ n; omega)
          refine (write_L (HL7.out.mono (Z' := fun _ => False) (fun _ e _ => e.elim)) (fun _ e => e.elim) (0 : Nat) ⟨#[120]⟩ (by decide) (Nat.zero_le _) (Nat.zero_le _)).mono ?_
          rw [HC5.out.writeE HF1.out]
          rintro e W8 ⟨rfl, hl, -⟩
          have HL8 := Lib.hid hl
          clear hl hcv
          go_wp2_with fail
          refine (sync_L HL8.out).mono ?_
          rw [(HC5.out.step HF1.out).sync.1]
          rintro e W10 ⟨rfl, hl, -⟩
          have HL10 := Lib.hid hl
          clear hl
          go_wp2_with fail
          go_ret
          exact ⟨rfl, HL10.out.below⟩
      · have d1 : decide ((k : Int) < (l.length : Int)) = false := by simp; omega
        clear hlt
        by_cases hmc : m < c
        · have d4 : decide ((m : Int) < (c : Int)) = true := by simp [hmc]
          have hchk : chkE s = 0 := by unfold chkE; rw [HC.out.off, if_neg (by have := HMK.out; simp; omega)]
          go_wp2_with fail
          refine (sync_L HLk.out).mono ?_
          rw [hchk]
          rintro e W5 ⟨rfl, hl, -⟩
          have HL5 := Lib.hid hl
          clear hl hchk
          go_wp2_with fail
          go_ret
          exact ⟨rfl, HL5.out.below⟩
        · have d4 : decide ((m : Int) < (c : Int)) = false := by simp; omega
          have hmc2 : m = c := by have := HMK.out; omega
          have hoff : s.off = true := by rw [HC.out.off]; have := HMK.out; simp; omega
          have HOF := Lib.hid hoff
          have HMC := Lib.hid hmc2
          clear hoff hmc2
          go_wp2_with fail
          refine (read_L HLk.out 0 0).mono ?_
          rw [show s.read 0 0 = (ByteArray.empty, 251) by unfold DS.read; rw [HOF.out, if_pos rfl]]
          rintro e W9 ⟨rfl, rfl⟩
          go_wp2_with fail
          refine (sync_L HLk.out).mono ?_
          rw [show chkE s = 251 by unfold chkE; rw [HOF.out]; rfl, show s.sync = s by unfold DS.sync; rw [HOF.out, if_pos rfl]]
          rintro e W5 ⟨rfl, hl, ht⟩
          have HL5 := Lib.hid hl
          have HR5 := Lib.hid (HRk.out.turns ht (fun e => e (.inl rfl)))
          have HO5 := Lib.hid (HO.out.turns ht (fun j e q => q (.inr e)))
          clear hl ht HLk HRk HO
          go_wp2_with fail
          refine (cut_L HL5.out 3).mono ?_
          rw [show s.cutE 3 = 251 by unfold DS.cutE; rw [HOF.out, if_pos rfl], show s.cut 3 = s by unfold DS.cut; rw [HOF.out, if_pos rfl]]
          rintro e W6 ⟨rfl, hl, ht⟩
          have HL6 := Lib.hid hl
          have HR6 := Lib.hid (HR5.out.turns ht (fun e => e (.inl rfl)))
          have HO6 := Lib.hid (HO5.out.turns ht (fun j e q => q (.inr e)))
          clear hl ht HL5 HR5 HO5
          go_wp2_with fail
          refine (pending_L HL6.out).mono ?_
          have hpl : s.pend.length = c := by rw [HC.out.pend, ← HMK.out, HMC.out]
          have HPL := Lib.hid hpl
          rw [hpl]
          rintro e W9 ⟨rfl, rfl⟩
          clear hpl
          go_wp2_with fail
          refine (size_L HL6.out).mono ?_
          rintro e W9 ⟨rfl, rfl⟩
          go_wp2_with fail
          refine (crash_L HL6.out oA ((List.range m).map fun (i : Nat) => (i : Int)) m oc (by simp) (by omega) HO6.out.lat (-1) (by rw [HPL.out]; omega)).mono ?_
          rw [show s.crash ((List.range m).map fun (i : Nat) => (i : Int)) (-1) = ⟨false, 0, s.vis, s.vis, []⟩ by rw [HMC.out, ← HPL.out]; exact crash_all s HC.out.app]
          rintro e W7 ⟨rfl, hl, ht⟩
          have HL7 := Lib.hid hl
          have HR7 := Lib.hid (HR6.out.turns ht (fun e => e (.inl rfl)))
          clear hl ht HL6 HR6 HO6
          have HC5 : Hid (DS.Calm ⟨false, 0, s.vis, s.vis, []⟩ n 0) := Lib.hid ⟨rfl, rfl, Nat.le_refl _, HL7.out.len.1⟩
          go_wp2_with fail
          refine (read_L HL7.out 0 n).mono ?_
          rw [HC5.out.read]
          rintro e W9 ⟨rfl, rfl⟩
          have hcv := HR7.out.convert (P := Try.prog) (cap := n) (show s.vis.length = n from HC.out.vis) 40 9 5 Try.underlying40 Try.underlying5 Try.underlying9
          obtain ⟨T, hT⟩ : ∃ T : ByteArray, ⟨s.vis.toArray⟩ = T := ⟨_, rfl⟩
          rw [hT] at hcv ⊢
          clear hT
          go_wp2_with fail
          have HF1 : Hid (0 + (⟨#[120]⟩ : ByteArray).size ≤ n) := Lib.hid (by show 0 + 1 ≤ n; omega)
          refine (write_L (HL7.out.mono (Z' := fun _ => False) (fun _ e _ => e.elim)) (fun _ e => e.elim) (0 : Nat) ⟨#[120]⟩ (by decide) (Nat.zero_le _) (Nat.zero_le _)).mono ?_
          rw [HC5.out.writeE HF1.out]
          rintro e W8 ⟨rfl, hl, -⟩
          have HL8 := Lib.hid hl
          clear hl hcv
          go_wp2_with fail
          refine (sync_L HL8.out).mono ?_
          rw [(HC5.out.step HF1.out).sync.1]
          rintro e W10 ⟨rfl, hl, -⟩
          have HL10 := Lib.hid hl
          clear hl
          go_wp2_with fail
          go_ret
          exact ⟨rfl, HL10.out.below⟩

end Go.Proofs.Ytmpjoncemgangaa
