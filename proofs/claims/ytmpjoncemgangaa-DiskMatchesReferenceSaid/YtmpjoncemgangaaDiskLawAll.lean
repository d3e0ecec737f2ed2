/-
  The law DiskAllSurvive answers true for all arguments. Conditions: the arguments are such as the row reads.
-/
import Derived.Test.YtmpjoncemgangaaDiskLawSynced
namespace Go.Proofs.Ytmpjoncemgangaa
open Go Go.RowKit Go.Shelf Go.Sort

/-- Writes applied to a content, one after the other. -/
def applyP (pend : List (Nat × ByteArray)) (d : List UInt8) : List UInt8 := pend.foldl (fun d x => patch d x.1 x.2.data.toList) d
theorem applyP_snoc (pend : List (Nat × ByteArray)) (d : List UInt8) (p : Nat) (x : ByteArray) : applyP (pend ++ [(p, x)]) d = patch (applyP pend d) p x.data.toList := by unfold applyP; rw [List.foldl_append]; rfl
def stepO {α β : Type} (g : β → α → β) (d : β) : Option α → β
  | some x => g d x
  | none => d
theorem crashF_neg (pend : List (Nat × ByteArray)) {torn : Int} (ht : torn < 0) : ∀ (L : List Nat) (d : List UInt8), crashF pend torn L d = L.foldl (fun d i => stepO (fun d x => patch d x.1 x.2.data.toList) d pend[i]?) d
  | [], _ => rfl
  | i :: L, d => by
    rw [crashF, crashF_neg pend ht L, List.foldl_cons]
    congr 1
    have ht' : ¬ 0 ≤ torn := by omega
    cases pend[i]? with
    | none => rfl
    | some x => simp [tornS, ht', stepO]
theorem range_get {α : Type} (l : List α) : (List.range l.length).map (fun i => l[i]?) = l.map some := by
  apply List.ext_getElem?
  intro i
  rw [List.getElem?_map, List.getElem?_map]
  rcases Nat.lt_or_ge i l.length with hi | hi
  · rw [List.getElem?_range hi, List.getElem?_eq_getElem hi]; simp [List.getElem?_eq_getElem hi]
  · rw [List.getElem?_eq_none (by simpa using hi), List.getElem?_eq_none hi]; rfl
theorem foldl_range {α β : Type} (g : β → α → β) (l : List α) (d : β) : (List.range l.length).foldl (fun d i => stepO g d l[i]?) d = l.foldl g d := by
  have h1 : l.foldl g d = (l.map some).foldl (stepO g) d := by rw [List.foldl_map]; rfl
  rw [h1, ← range_get, List.foldl_map]
theorem ordS_all (m : Nat) : ordS ((List.range m).map fun (i : Nat) => (i : Int)) m = List.range m := by
  unfold ordS
  rw [List.filter_eq_self]
  intro i hi
  simp only [List.mem_map, decide_eq_true_eq]
  exact ⟨i, hi, rfl⟩
theorem crash_all (s : DS) (h : s.vis = applyP s.pend s.dur) : s.crash ((List.range s.pend.length).map fun (i : Nat) => (i : Int)) (-1) = ⟨false, 0, s.vis, s.vis, []⟩ := by
  unfold DS.crash
  rw [ordS_all, crashF_neg _ (by omega), foldl_range, h]
  rfl
theorem wr_apply {s : DS} {n k : Nat} (c : s.Calm n k) {p : Nat} {x : ByteArray} (h : p + x.size ≤ n) (ha : s.vis = applyP s.pend s.dur) : (s.wr p x).vis = applyP (s.wr p x).pend (s.wr p x).dur := by
  rw [c.wr h]; dsimp only; rw [applyP_snoc, ← ha]
theorem sync_apply {s : DS} {n k : Nat} (c : s.Calm n k) : s.sync.vis = applyP s.sync.pend s.sync.dur := by rw [c.sync.2.1]; rfl

set_option maxRecDepth 100000 in
set_option maxHeartbeats 8000000 in
theorem allSurvive_walk (W : World) (z : Int) (A : Option Addr) (l : List WR) (cap : Nat) (h1 : -9223372036854775808 ≤ z) (h2 : z ≤ 9223372036854775807) (hA : CAt W W.heap.size A 3 WR.cells l) (hok : ∀ y ∈ l, y.ok) :
    Calls Try.prog 9 #[.int .i64 z, .slice A l.length cap] W fun e W' => e = .returned (.bool true) ∧ Below W.heap.size W W' := by
  obtain ⟨q1, q2⟩ := pickZ_range z (n := 300) (by omega)
  have HP := Lib.hid (pick_walk (x := z) (n := 300) · h1 h2 (by omega) (by omega))
  obtain ⟨n, hn⟩ : ∃ n : Nat, 1 + pickZ z 300 = n := ⟨(1 + pickZ z 300).toNat, by omega⟩
  obtain ⟨q, hq⟩ : ∃ q, pickZ z 300 = q := ⟨_, rfl⟩
  rw [hq] at HP q1 q2 hn
  have w1 : IntKind.i64.wrap (1 + q) = (n : Int) := by rw [IntKind.wrap_i64]; omega
  have hn1 : 1 ≤ n := by omega
  have hn2 : n ≤ 300 := by omega
  have HA := Lib.hid hA
  have HOK := Lib.hid hok
  clear hn hq hA hok
  go_enter Try.func9, Try.ntmps9
  go_wp2_with fail
  refine (sane_walk W).mono ?_
  rintro e W1 ⟨rfl, hb⟩
  have HB := Lib.hid hb
  clear hb
  go_wp2_with fail
  refine (HP.out W1).mono ?_
  rintro e W2 ⟨rfl, rfl⟩
  go_wp2_with fail
  refine (new_L (W0 := W) (Z := fun _ => False) (Turns.of_below HB.out) (fun _ e => e.elim) n hn1 (by omega)).mono ?_
  rintro e W2 ⟨⟨d, gd, gv, rfl, h⟩, -⟩
  have HL := Lib.hid h
  have HSZ := Lib.hid h.size
  clear h
  go_wp2_with fail
  go_loopw [8, 9] (fun v _ wr => ∃ (k : Nat) (s : DS), k ≤ l.length ∧ k ≤ 60 ∧ v = .int .i64 (k : Int) ∧ Lives W (fun _ => False) wr d gd gv n s ∧ Hid (s.Calm n k ∧ s.vis = applyP s.pend s.dur)) (fun v _ _ => 60 - (intOf v).toNat)
  case atStart => exact ⟨0, DS.fresh n, by omega, by omega, rfl, HL.out, Lib.hid ⟨DS.Calm.fresh n, rfl⟩⟩
  case round =>
    obtain ⟨k, s, hk1, hk2, rfl, hL, HCC⟩ := hrel
    have HLk := Lib.hid hL
    have HLS := Lib.hid hL.size
    have HC := Lib.hid HCC.out.1
    clear hL HL
    by_cases hlt : k < l.length ∧ k < 60
    · have d1 : decide ((k : Int) < (l.length : Int)) = true := by simp [hlt]
      have d2 : decide ((k : Int) < 60) = true := by simp; omega
      have hlt2 := hlt.2
      replace hlt := hlt.1
      obtain ⟨a, rfl, hab, hac⟩ := (HA.out.below HLk.out.below).get hlt
      obtain ⟨y, hy⟩ : ∃ y, l[k] = y := ⟨_, rfl⟩
      rw [hy] at hac
      have HY := Lib.hid (HOK.out y (by rw [← hy]; exact List.getElem_mem hlt))
      obtain ⟨yo, ys, yb⟩ := y
      have c0 := hac 0 _ rfl
      have c1 := hac 1 _ rfl
      have c2 := hac 2 _ rfl
      rw [Nat.add_zero] at c0
      rw [add_field a (k * 3) 0] at c1
      rw [add_field a (k * 3) 1] at c2
      rw [Nat.zero_add] at c1
      have y1 : (0 : Int) ≤ (k : Int) := by omega
      have y2 : (k : Int) < (l.length : Int) := by omega
      have w2 : IntKind.i64.wrap ((k : Int) + 1) = ((k + 1 : Nat) : Int) := by rw [IntKind.wrap_i64]; omega
      clear hac
      clear hy
      go_wp2_with fail
      obtain ⟨pr1, pr2⟩ := pickZ_range yo (n := ((n + 1 : Nat) : Int)) (by omega)
      obtain ⟨p, hp⟩ : ∃ p : Nat, pickZ yo ((n + 1 : Nat) : Int) = (p : Int) := ⟨(pickZ yo ((n + 1 : Nat) : Int)).toNat, by omega⟩
      have hys := HY.out.2.2
      unfold maxLen at hys
      refine (fits_walk wr yo ys yb n p HY.out.1 HY.out.2.1 (by dsimp only at hys; omega) (by omega) hp).mono ?_
      rw [hp] at pr1 pr2
      obtain ⟨x, hx⟩ : ∃ x, lcut ys (n - p) = x := ⟨_, rfl⟩
      rw [hx]
      have HFIT : Hid (p + x.size ≤ n) := Lib.hid (by have := lcut_size ys (n - p); rw [hx] at this; omega)
      have HXP := Lib.hid (And.intro hp hx)
      clear hp hx pr1 pr2 hys c0 c1 c2
      rintro e W4 ⟨rfl, hb4⟩
      have HL5 := Lib.hid (((HLk.out.quiet (Turns.of_below hb4)).mono (Z' := fun j => (False) ∨ j = W4.heap.size) (fun j e hj => by rcases e with e | e; exact e; omega)).quiet (Turns.alloc W4 (.cells #[.int .i64 (p : Int), .string x, .bool yb] 53)))
      have HT5 := Lib.hid ((Turns.of_below (Z := fun _ => False) hb4).trans (Turns.alloc W4 (.cells #[.int .i64 (p : Int), .string x, .bool yb] 53)))
      have HWB := Lib.hid hb4.size
      go_wp2_with fail
      obtain ⟨w, hw⟩ : ∃ w, W4.heap.size = w := ⟨_, rfl⟩
      obtain ⟨W5, hW5⟩ : ∃ W5, W4.alloc (.cells #[.int .i64 (p : Int), .string x, .bool yb] 53) = W5 := ⟨_, rfl⟩
      have HC5 : Hid (RecAt W5 w p x yb) := Lib.hid (by
        rw [← hW5, ← hw]
        exact ⟨by rw [World.size_alloc]; omega, by simp, by simp, by simp⟩)
      rw [hw] at HL5 HWB ⊢
      rw [hW5] at HL5 HT5 ⊢
      clear hw hW5 hb4 HLk HT5
      have d0 := HC5.out.c0
      have d1' := HC5.out.c1
      have d2' := HC5.out.c2
      go_wp2_with fail
      refine (write_L HL5.out (fun j e => by rcases e with e | e; exact e.elim; rw [e]; exact HC5.out.lt) p x (by have := HFIT.out; omega) (by have := HC.out.pend; omega) (by rw [HC.out.left]; omega)).mono ?_
      rw [HC.out.writeE HFIT.out]
      rintro e W7 ⟨rfl, hl, ht⟩
      have HL7 := Lib.hid hl
      have HC7 := Lib.hid (HC5.out.turns ht (fun e => e (.inr rfl)))
      clear hl ht HL5  HC5
      clear d0 d1' d2'
      cases yb
      · have d2' := HC7.out.c2
        go_wp2_with fail
        exact ⟨⟨k + 1, s.wr p x, by omega, by omega, rfl, HL7.out.mono (fun j e _ => e.elim), Lib.hid ⟨HC.out.step HFIT.out, wr_apply HC.out HFIT.out HCC.out.2⟩⟩, by simp [intOf]; omega⟩
      · have d2' := HC7.out.c2
        go_wp2_with fail
        refine (sync_L HL7.out).mono ?_
        rw [(HC.out.step HFIT.out).sync.1]
        rintro e W8 ⟨rfl, hl, ht⟩
        have HL8 := Lib.hid hl
        have HC8 := Lib.hid (HC7.out.turns ht (fun e => e (.inr rfl)))
        clear hl ht HL7  HC7
        clear d2'
        go_wp2_with fail
        exact ⟨⟨k + 1, (s.wr p x).sync, by omega, by omega, rfl, HL8.out.mono (fun j e _ => e.elim), Lib.hid ⟨(HC.out.step HFIT.out).sync.2.2, sync_apply (HC.out.step HFIT.out)⟩⟩, by simp [intOf]; omega⟩
    · by_cases hl1 : k < l.length
      · have d1 : decide ((k : Int) < (l.length : Int)) = true := by simp [hl1]
        have d2 : decide ((k : Int) < 60) = false := by simp; omega
        go_wp2_with fail
        refine (read_L HLk.out 0 n).mono ?_
        rw [HC.out.read]
        rintro e W9 ⟨rfl, rfl⟩
        obtain ⟨S0, hS0⟩ : ∃ S0 : ByteArray, ⟨s.vis.toArray⟩ = S0 := ⟨_, rfl⟩
        have HS0 := Lib.hid hS0
        rw [hS0]
        clear hS0
        obtain ⟨B, hB⟩ : ∃ B, wr.heap.size = B := ⟨_, rfl⟩
        have HBB := Lib.hid hB
        have HLz := Lib.hid (HLk.out.mono (Z' := fun k => B ≤ k) (fun j e hj => by omega))
        have HZL : Hid (∀ k, B ≤ k → W.heap.size ≤ k) := Lib.hid (fun k hk => by have := HLS.out; omega)
        have HB0 : Hid (B ≤ wr.heap.size) := Lib.hid (by omega)
        obtain ⟨m, hm⟩ : ∃ m, s.pend.length = m := ⟨_, rfl⟩
        have HM := Lib.hid hm
        have hm60 : m ≤ 60 := by have := HC.out.pend; omega
        clear hB hm
        go_wp2_with fail
        go_loopw [12, 13] (fun u v wq => ∃ (j : Nat), j ≤ m ∧ v = .int .i64 (j : Int) ∧ Lives W (fun k => B ≤ k) wq d gd gv n s ∧ OL wq B 3 1 (one iv) u ((List.range j).map fun (i : Nat) => (i : Int)) ∧ B ≤ wq.heap.size) (fun _ v _ => m - (intOf v).toNat)
        case atStart => exact ⟨0, by omega, rfl, HLz.out, OL.nil, HB0.out⟩
        case round =>
          obtain ⟨j, hj, rfl, hL2, hO, hB2⟩ := hrel
          have HL2 := Lib.hid hL2
          have HO := Lib.hid hO
          clear hL2 hO
          go_wp2_with fail
          refine (pending_L HL2.out).mono ?_
          rw [HM.out]
          rintro e W9 ⟨rfl, rfl⟩
          by_cases hjm : j < m
          · have d3 : decide ((j : Int) < (m : Int)) = true := by simp [hjm]
            have w4 : IntKind.i64.wrap ((j : Int) + 1) = ((j + 1 : Nat) : Int) := by rw [IntKind.wrap_i64]; omega
            have ho := HO.out
            clear d1
            go_wp2_with (first
              | (at_builtin
                 go_must (refine wpList_app rfl (.tmp 75) (.tmp 77) 37 rfl elemI _ ((List.range j).map fun (i : Nat) => (i : Int)) j (by simp) rfl (ho.alloc _) (j : Int) _ #[.int .i64 (j : Int)] rfl ?hc rfl rfl (by simp [one, iv, Value.oneCell']) (by rw [List.length_map, List.length_range]; unfold maxLen; omega) (by rw [List.length_map, List.length_range]; omega) (by simp; omega) ?_)
                 (case hc => exact World.alloc_heap_new _ _)
                 intro g3 c3 w3 h3 hg3 hg3' hg3l hb3
                 have HA3 := Lib.hid (And.intro h3 hb3)
                 clear hg3 hg3' h3 hb3)
              | fail)
            refine ⟨⟨j + 1, by omega, rfl, ?_, ?_, ?_⟩, by simp [intOf]; omega⟩
            · refine HL2.out.keep ((Turns.alloc _ _).trans ⟨HA3.out.2.os, HA3.out.2.tape, HA3.out.2.output, HA3.out.2.size, fun k _ hz => HA3.out.2.block k (by omega)⟩) HZL.out
            · rw [List.range_succ, List.map_append]; exact HA3.out.1
            · have := HA3.out.2.size; simp at this; omega
          · obtain rfl : j = m := by omega
            have d3 : decide ((j : Int) < (j : Int)) = false := by simp
            clear d1
            obtain ⟨oA, oc, ho4, -, -⟩ := HO.out.slice
            rw [List.length_map, List.length_range] at ho4
            subst ho4
            go_wp2_with fail
            refine (crash_L HL2.out oA ((List.range j).map fun (i : Nat) => (i : Int)) j oc (by simp) (by omega) (HO.out.lat) (-1) (by have := HC.out.pend; omega)).mono ?_
            rw [show s.crash ((List.range j).map fun (i : Nat) => (i : Int)) (-1) = ⟨false, 0, s.vis, s.vis, []⟩ by rw [← HM.out]; exact crash_all s HCC.out.2]
            rintro e W5 ⟨rfl, hl, -⟩
            have HL5 := Lib.hid hl
            have HC5 : Hid (DS.Calm ⟨false, 0, s.vis, s.vis, []⟩ n 0) := Lib.hid ⟨rfl, rfl, Nat.le_refl _, hl.len.1⟩
            clear hl
            go_wp2_with fail
            refine (read_L HL5.out 0 n).mono ?_
            rw [HC5.out.read, HS0.out]
            rintro e W9 ⟨rfl, rfl⟩
            go_wp2_with fail
            refine (crash_L HL5.out none [] 0 0 rfl (by omega) LAt.nil 0 (Nat.zero_le _)).mono ?_
            rw [crash_none]
            rintro e W6 ⟨rfl, hl, -⟩
            have HL6 := Lib.hid hl
            clear hl
            go_wp2_with fail
            refine (read_L HL6.out 0 n).mono ?_
            rw [HC5.out.read, HS0.out]
            rintro e W9 ⟨rfl, rfl⟩
            go_wp2_with fail
            go_ret
            exact ⟨rfl, HL6.out.below⟩
      · have d1 : decide ((k : Int) < (l.length : Int)) = false := by simp; omega
        go_wp2_with fail
        refine (read_L HLk.out 0 n).mono ?_
        rw [HC.out.read]
        rintro e W9 ⟨rfl, rfl⟩
        obtain ⟨S0, hS0⟩ : ∃ S0 : ByteArray, ⟨s.vis.toArray⟩ = S0 := ⟨_, rfl⟩
        have HS0 := Lib.hid hS0
        rw [hS0]
        clear hS0
        obtain ⟨B, hB⟩ : ∃ B, wr.heap.size = B := ⟨_, rfl⟩
        have HBB := Lib.hid hB
        have HLz := Lib.hid (HLk.out.mono (Z' := fun k => B ≤ k) (fun j e hj => by omega))
        have HZL : Hid (∀ k, B ≤ k → W.heap.size ≤ k) := Lib.hid (fun k hk => by have := HLS.out; omega)
        have HB0 : Hid (B ≤ wr.heap.size) := Lib.hid (by omega)
        obtain ⟨m, hm⟩ : ∃ m, s.pend.length = m := ⟨_, rfl⟩
        have HM := Lib.hid hm
        have hm60 : m ≤ 60 := by have := HC.out.pend; omega
        clear hB hm
        go_wp2_with fail
        go_loopw [12, 13] (fun u v wq => ∃ (j : Nat), j ≤ m ∧ v = .int .i64 (j : Int) ∧ Lives W (fun k => B ≤ k) wq d gd gv n s ∧ OL wq B 3 1 (one iv) u ((List.range j).map fun (i : Nat) => (i : Int)) ∧ B ≤ wq.heap.size) (fun _ v _ => m - (intOf v).toNat)
        case atStart => exact ⟨0, by omega, rfl, HLz.out, OL.nil, HB0.out⟩
        case round =>
          obtain ⟨j, hj, rfl, hL2, hO, hB2⟩ := hrel
          have HL2 := Lib.hid hL2
          have HO := Lib.hid hO
          clear hL2 hO
          go_wp2_with fail
          refine (pending_L HL2.out).mono ?_
          rw [HM.out]
          rintro e W9 ⟨rfl, rfl⟩
          by_cases hjm : j < m
          · have d3 : decide ((j : Int) < (m : Int)) = true := by simp [hjm]
            have w4 : IntKind.i64.wrap ((j : Int) + 1) = ((j + 1 : Nat) : Int) := by rw [IntKind.wrap_i64]; omega
            have ho := HO.out
            clear d1
            go_wp2_with (first
              | (at_builtin
                 go_must (refine wpList_app rfl (.tmp 75) (.tmp 77) 37 rfl elemI _ ((List.range j).map fun (i : Nat) => (i : Int)) j (by simp) rfl (ho.alloc _) (j : Int) _ #[.int .i64 (j : Int)] rfl ?hc rfl rfl (by simp [one, iv, Value.oneCell']) (by rw [List.length_map, List.length_range]; unfold maxLen; omega) (by rw [List.length_map, List.length_range]; omega) (by simp; omega) ?_)
                 (case hc => exact World.alloc_heap_new _ _)
                 intro g3 c3 w3 h3 hg3 hg3' hg3l hb3
                 have HA3 := Lib.hid (And.intro h3 hb3)
                 clear hg3 hg3' h3 hb3)
              | fail)
            refine ⟨⟨j + 1, by omega, rfl, ?_, ?_, ?_⟩, by simp [intOf]; omega⟩
            · refine HL2.out.keep ((Turns.alloc _ _).trans ⟨HA3.out.2.os, HA3.out.2.tape, HA3.out.2.output, HA3.out.2.size, fun k _ hz => HA3.out.2.block k (by omega)⟩) HZL.out
            · rw [List.range_succ, List.map_append]; exact HA3.out.1
            · have := HA3.out.2.size; simp at this; omega
          · obtain rfl : j = m := by omega
            have d3 : decide ((j : Int) < (j : Int)) = false := by simp
            clear d1
            obtain ⟨oA, oc, ho4, -, -⟩ := HO.out.slice
            rw [List.length_map, List.length_range] at ho4
            subst ho4
            go_wp2_with fail
            refine (crash_L HL2.out oA ((List.range j).map fun (i : Nat) => (i : Int)) j oc (by simp) (by omega) (HO.out.lat) (-1) (by have := HC.out.pend; omega)).mono ?_
            rw [show s.crash ((List.range j).map fun (i : Nat) => (i : Int)) (-1) = ⟨false, 0, s.vis, s.vis, []⟩ by rw [← HM.out]; exact crash_all s HCC.out.2]
            rintro e W5 ⟨rfl, hl, -⟩
            have HL5 := Lib.hid hl
            have HC5 : Hid (DS.Calm ⟨false, 0, s.vis, s.vis, []⟩ n 0) := Lib.hid ⟨rfl, rfl, Nat.le_refl _, hl.len.1⟩
            clear hl
            go_wp2_with fail
            refine (read_L HL5.out 0 n).mono ?_
            rw [HC5.out.read, HS0.out]
            rintro e W9 ⟨rfl, rfl⟩
            go_wp2_with fail
            refine (crash_L HL5.out none [] 0 0 rfl (by omega) LAt.nil 0 (Nat.zero_le _)).mono ?_
            rw [crash_none]
            rintro e W6 ⟨rfl, hl, -⟩
            have HL6 := Lib.hid hl
            clear hl
            go_wp2_with fail
            refine (read_L HL6.out 0 n).mono ?_
            rw [HC5.out.read, HS0.out]
            rintro e W9 ⟨rfl, rfl⟩
            go_wp2_with fail
            go_ret
            exact ⟨rfl, HL6.out.below⟩

end Go.Proofs.Ytmpjoncemgangaa
