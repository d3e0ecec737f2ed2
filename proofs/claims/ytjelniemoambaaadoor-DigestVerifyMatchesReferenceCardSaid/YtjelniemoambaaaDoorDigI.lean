/-
  The contract of package digest's Root. Conditions: at most 1000 strings of at most 100000 bytes; the table's variable holds the table.
-/
import Derived.Test.YtjelniemoambaaaDoorDigH
namespace Go.Proofs.YtjelniemoambaaaDoor
open Go Go.RowKit Go.Shelf
attribute [local go_sem] Oper.semAt_some

theorem Tryd.infoStr : (Tryd.prog.info? 9).map (fun i => (i.zero, i.size, i.bytes)) = some (some (.string ⟨#[]⟩), 1, 16) := by kernel_rfl
theorem Tryd.infoInt : (Tryd.prog.info? 3).map (fun i => (i.zero, i.size, i.bytes)) = some (some (.int .i64 0), 1, 8) := by kernel_rfl
theorem Tryd.infoSide : (Tryd.prog.info? 58).map (fun i => (i.zero, i.size, i.bytes)) = some (some (.agg #[.string ⟨#[]⟩, .bool false]), 2, 24) := by kernel_rfl
theorem elemStr : Elem Tryd.prog 22 9 1 16 := Elem.mk' Tryd.underlying22 Tryd.infoStr rfl (by decide)
theorem elemInt : Elem Tryd.prog 49 3 1 8 := Elem.mk' Tryd.underlying49 Tryd.infoInt rfl (by decide)
theorem elemSide : Elem Tryd.prog 54 58 2 24 := Elem.mk' Tryd.underlying54 Tryd.infoSide rfl (by decide)
abbrev StrL (w : World) (B : Nat) (v : Value) (l : List ByteArray) : Prop := OL w B 9 1 (one .string) v l
abbrev IntL (w : World) (B : Nat) (v : Value) (l : List Nat) : Prop := OL w B 3 1 (one nv) v l

set_option maxRecDepth 100000 in
set_option maxHeartbeats 4000000 in
theorem root_walk (A : Option Addr) (l : List ByteArray) (cap : Nat) (hl : l.length ≤ 1000) (hs : ∀ s ∈ l, s.size ≤ 100000) (w : World) (hA : LAt w w.heap.size A .string l) (hK : KAt w) :
    Calls Tryd.prog 19 #[.slice A l.length cap] w fun e w' => e = .returned (.string (rootS l)) ∧ Below w.heap.size w w' := by
  have HS := Lib.hid hs
  have HA := Lib.hid hA
  have HK := Lib.hid hK
  clear hs hA hK
  refine (callsIn_wide (n := 3)).1 ?_
  refine callsIn_of_wp_marks Tryd.func19 rfl trivial ?_ rfl
  simp only [Tryd.ntmps19, List.size_toArray, List.length_cons, List.length_nil, Nat.reduceAdd, Nat.reduceSub, Array.replicate_succ, Array.replicate_zero, List.push_toArray, List.append_toArray, List.nil_append, List.cons_append]
  refine wpIn_wide.2 ?_
  go_wp2_with fail
  go_loopw [3, 4, 13] (fun v3 v4 i wr => ∃ (k : Nat) (ss : List (List ByteArray)), k ≤ l.length ∧ i = .int .i64 k ∧ Desc ss ∧ ss.flatten = l.take k ∧ StrL wr w.heap.size v3 (ss.map rootS) ∧ IntL wr w.heap.size v4 (ss.map List.length) ∧ Below w.heap.size w wr) (fun _ _ i _ => l.length - (intOf i).toNat)
  case atStart => exact ⟨0, [], by omega, rfl, Desc.nil, rfl, OL.nil, OL.nil, Below.refl _ _⟩
  case round =>
    obtain ⟨k, ss, hk, rfl, hd, hf, h3, h4, hB⟩ := hrel
    have HD := Lib.hid hd
    have HF := Lib.hid hf
    have HB := Lib.hid hB
    have HKW := Lib.hid (HK.out.below hB)
    have hAw := HA.out.below hB
    clear hd hf
    by_cases hlt : k < l.length
    · -- {{
      obtain ⟨a, rfl, hab, hac⟩ := hAw.get hlt
      have hsl := HS.out _ (List.getElem_mem hlt)
      have hssl : ss.length ≤ 1000 := by
        have h1 := desc_len HD.out
        rw [HF.out, List.length_take] at h1
        omega
      have hBs := hB.size
      have h3l : (ss.map rootS).length ≤ 1000 := by simpa using hssl
      have h4l : (ss.map List.length).length ≤ 1000 := by simpa using hssl
      clear hAw hB
      go_wp2_with (first
        | (go_at_call 29; refine (leaf_walk _ _ (by omega) HKW.out).mono ?_; rintro e w1 ⟨rfl, hb1⟩)
        | (at_builtin; refine wpList_app rfl (.tmp 17) (.tmp 20) 22 rfl elemStr _ _ ss.length (by simp) rfl ((h3.below hb1 (Nat.le_refl _)).alloc _) (leafS l[k]) w1.heap.size #[.string (leafS l[k])] rfl ?hc rfl rfl (by simp [one, Value.oneCell']) (by unfold maxLen; omega) (by omega) (by have := hb1.size; simp; omega) ?_; (case hc => exact World.alloc_heap_new _ _); intro g3 c3 w2 h3' hg3 hg3' hg3l hb2; have h4' := (((h4.below hb1 (Nat.le_refl _)).alloc (.cells #[.string (leafS l[k])] 9)).grown hg3 (fun g hg e => OL.apart h4 h3 (by decide) g hg e)); clear hg3 hg3')
        | (at_builtin; refine wpList_app rfl (.tmp 22) (.tmp 23) 49 rfl elemInt _ _ ss.length (by simp) rfl (h4'.alloc _) 1 w2.heap.size #[.int .i64 1] rfl ?hc rfl rfl (by simp [one, nv, Value.oneCell']) (by unfold maxLen; omega) (by omega) (by have := hb1.size; have := hb2.size; simp at this ⊢; omega) ?_; (case hc => exact World.alloc_heap_new _ _); intro g4 c4 w3 h4'' hg4 hg4' hg4l hb3; have h3'' := ((h3'.alloc (.cells #[.int .i64 1] 3)).grown hg4 (fun g hg e => OL.apart h3' h4' (by decide) g hg e)); clear hg4 hg4'))
      have hB3 : Below w.heap.size w w3 := (HB.out.trans (((hb1.mono hBs).alloc (by have := hb1.size; omega) _).trans (hb2.alloc (by have := hb1.size; have := hb2.size; simp at this; omega) _))).trans hb3
      have H3 := Lib.hid h3''
      have H4 := Lib.hid h4''
      have HB3 := Lib.hid hB3
      clear h3'' h4'' hB3 hb1 hb2 hb3 h3' h4' h3l h4l h3 h4 hg3l hg4l HB HKW hac
      obtain ⟨wo, rfl⟩ : ∃ wo : World, wo = wr := ⟨_, rfl⟩
      go_loopw [3, 4, 7] (fun v3 v4 v7 wr => ∃ (pre : List (List ByteArray)) (s : List ByteArray) (n g3 c3 g4 c4 : Nat), pre.length + 1 = n ∧ v3 = .slice (some ⟨g3, 0, none⟩) n c3 ∧ v4 = .slice (some ⟨g4, 0, none⟩) n c4 ∧ v7 = .int .i64 n ∧ DescL pre s ∧ (pre ++ [s]).flatten = l.take (k + 1) ∧ StrL wr w.heap.size (.slice (some ⟨g3, 0, none⟩) n c3) ((pre ++ [s]).map rootS) ∧ IntL wr w.heap.size (.slice (some ⟨g4, 0, none⟩) n c4) ((pre ++ [s]).map List.length) ∧ Below w.heap.size w wr) (fun _ _ v _ => (intOf v).toNat)
      case atStart =>
        refine ⟨ss, [l[k]], ss.length + 1, g3, c3, g4, c4, rfl, by simp, by simp, by simp, HD.out.leaf _, ?_, ?_, ?_, HB3.out⟩
        · rw [List.flatten_append, HF.out, List.take_succ_eq_append_getElem hlt]; rfl
        · rw [List.map_append]; exact H3.out
        · rw [List.map_append]; exact H4.out
      case round =>
        clear H3 H4 HB3 HD HF
        obtain ⟨pre, s, n, g3, c3, g4, c4, hn, rfl, rfl, rfl, hd, hf, h3, h4, hB⟩ := hrel
        have HD := Lib.hid hd
        have HF := Lib.hid hf
        have HB := Lib.hid hB
        have HKW := Lib.hid (HK.out.below hB)
        clear hd hf hB
        rcases nil_or_snoc pre with rfl | ⟨p2, q, rfl⟩
        · obtain rfl : n = 1 := hn.symm
          have H3 := Lib.hid h3
          have H4 := Lib.hid h4
          clear h3 h4 hn
          go_wp2_with fail
          go_quiet (fail)
          go_wp2_with fail
          refine ⟨⟨k + 1, [] ++ [s], by omega, rfl, HD.out.done (fun p hp => by simp at hp), HF.out, H3.out.drewN nq, H4.out.drewN nq, Below.drewN' HB.out nq⟩, ?_⟩
          simp [intOf]; omega
        · obtain ⟨m, hm⟩ : ∃ m, p2.length = m := ⟨_, rfl⟩
          obtain ⟨m1, hm1⟩ : ∃ m1, m + 1 = m1 := ⟨_, rfl⟩
          have hnm : n = m + 2 := by rw [← hn]; simp [hm]
          have x1 : ((p2 ++ [q] ++ [s]).map rootS)[m]? = some (rootS q) := by subst hm; simp
          have x2 : ((p2 ++ [q] ++ [s]).map rootS)[m1]? = some (rootS s) := by subst hm1; subst hm; simp
          have x3 : ((p2 ++ [q] ++ [s]).map List.length)[m]? = some q.length := by subst hm; simp
          have x4 : ((p2 ++ [q] ++ [s]).map List.length)[m1]? = some s.length := by subst hm1; subst hm; simp
          have d1 := h3.getq x1
          have d2 := h3.getq x2
          have d3 := h4.getq x3
          have d4 := h4.getq x4
          obtain ⟨-, n3, n3m⟩ := h3.len
          obtain ⟨-, n4, n4m⟩ := h4.len
          have hnk : n ≤ 2000 := by
            have h1 := desc_len HD.out.1
            have h2 := congrArg List.length HF.out
            rw [List.flatten_append, List.length_append, List.length_take] at h2
            omega
          have hsl2 : s.length ≤ 1000 := by
            have h2 := congrArg List.length HF.out
            rw [List.flatten_append, List.length_append, List.length_take] at h2
            simp at h2; omega
          have hbs := HB.out.size
          obtain ⟨a3, ha3⟩ : ∃ a, q.length = a := ⟨_, rfl⟩
          obtain ⟨b3, hb3⟩ : ∃ b, s.length = b := ⟨_, rfl⟩
          rw [ha3] at d3
          rw [hb3] at d4 hsl2
          have w1' : IntKind.i64.wrap ((n : Int) - 2) = (m : Int) := by rw [IntKind.wrap_i64]; omega
          have w2' : IntKind.i64.wrap ((n : Int) - 1) = (m1 : Int) := by rw [IntKind.wrap_i64]; omega
          have y1 : (0 : Int) ≤ (m : Int) := by omega
          have y2 : (m : Int) < (n : Int) := by omega
          have y3 : (0 : Int) ≤ (m1 : Int) := by omega
          have y4 : (m1 : Int) < (n : Int) := by omega
          have y5 : (1 : Int) < (n : Int) := by omega
          have H3 := Lib.hid h3
          have H4 := Lib.hid h4
          have HX := Lib.hid (And.intro hm (And.intro hm1 (And.intro hn (And.intro ha3 hb3))))
          clear h3 h4 hm hm1 hn x1 x2 x3 x4 ha3 hb3 hnm
          unfold nv at d3 d4
          by_cases he : a3 = b3
          · subst he
            go_wp2_with fail
            go_quiet (fail)
            go_wp2_with fail
            have H3 := Lib.hid (H3.out.drewN nq)
            have H4 := Lib.hid (H4.out.drewN nq)
            have HB := Lib.hid (Below.drewN' HB.out nq)
            have HKW := Lib.hid (show KAt (wr.drewN nq) from HKW.out)
            have d1 : (wr.drewN nq).cell? ⟨g3, m, none⟩ = some (.string (rootS q)) := d1
            have d2 : (wr.drewN nq).cell? ⟨g3, m1, none⟩ = some (.string (rootS s)) := d2
            have d4 : (wr.drewN nq).cell? ⟨g4, m1, none⟩ = some (.int .i64 a3) := d4
            have hbs : w.heap.size ≤ (wr.drewN nq).heap.size := hbs
            clear d3
            generalize wr.drewN nq = wz at H3 H4 HB HKW d1 d2 d4 hbs ⊢
            have T3 := H3.out.take (fun _ => rfl) m (by simp; have := HX.out.1; omega) (by simp)
            have T4 := H4.out.take (fun _ => rfl) m (by simp; have := HX.out.1; omega) (by simp)
            rw [show ((p2 ++ [q] ++ [s]).map rootS).take m = p2.map rootS by rw [← HX.out.1]; simp] at T3
            rw [show ((p2 ++ [q] ++ [s]).map List.length).take m = p2.map List.length by rw [← HX.out.1]; simp] at T4
            have HT3 := Lib.hid T3
            have HT4 := Lib.hid T4
            have L3 := Lib.hid (show (p2.map rootS).length = m by rw [List.length_map]; exact HX.out.1)
            have L4 := Lib.hid (show (p2.map List.length).length = m by rw [List.length_map]; exact HX.out.1)
            have M3 : (m : Int) ≤ (c3 : Int) := by omega
            have M4 : (m : Int) ≤ (c4 : Int) := by omega
            clear T3 T4
            refine wp_region_noPanic ?_
            go_region_law (first
              | (go_simp; go_at_call 32; refine (node_walk (rootS q) (rootS s) wz.drew (by rw [rootS_size, rootS_size]; decide) (show KAt wz.drew from HKW.out)).mono ?_; rintro e w4 ⟨rfl, hb4'⟩; have hb4 := (Below.refl wz.heap.size wz).drew.trans hb4'; have hz4 := hb4.size; clear hb4'; go_wp2_with fail)
              | (refine step_app (by rfl) (.tmp 47) (.tmp 59) 22 (by rfl) elemStr _ (p2.map rootS) m L3.out (by rfl) ((HT3.out.below hb4 (Nat.le_refl _)).alloc (.cells #[.string (nodeS (rootS q) (rootS s))] 9)) (nodeS (rootS q) (rootS s)) w4.heap.size #[.string (nodeS (rootS q) (rootS s))] (by rfl) ?_ (by rfl) (by rfl) (by simp [one, Value.oneCell']) (by rw [L3.out]; unfold maxLen; omega) (by rw [L3.out]; omega) (by simp; omega) ?_; (· exact World.alloc_heap_new _ _); intro g5 c5 w5 h5 hg5 hg5' hg5l hb5))
            all_goals
              refine NoPanic.normal ?_
              have h4a := (H4.out.below hb4 (Nat.le_refl _)).alloc (.cells #[.string (nodeS (rootS q) (rootS s))] 9)
              have h3a := (HT3.out.below hb4 (Nat.le_refl _)).alloc (.cells #[.string (nodeS (rootS q) (rootS s))] 9)
              have h4w := h4a.grown hg5 (fun g hg e => OL.apart h4a h3a (by decide) g hg e)
              have d4w : w5.cell? ⟨g4, m1, none⟩ = some (nv a3) := h4w.getq (by rw [← HX.out.2.1, ← HX.out.1, ← HX.out.2.2.2.2]; simp)
              have T4 := h4w.take (fun _ => rfl) m (by simp; have := HX.out.1; omega) (by simp)
              rw [show ((p2 ++ [q] ++ [s]).map List.length).take m = p2.map List.length by rw [← HX.out.1]; simp] at T4
              have HT4 := Lib.hid T4
              have H5 := Lib.hid h5
              have HB5 := Lib.hid ((HB.out.trans ((hb4.mono hbs).alloc (by omega) _)).trans hb5)
              have hz5 := hb5.size
              simp at hz5
              unfold nv at d4w
              obtain ⟨a6, ha6⟩ : ∃ a6 : Nat, 2 * a3 = a6 := ⟨_, rfl⟩
              have z1 : IntKind.i64.wrap (a6 : Int) = (a6 : Int) := by rw [IntKind.wrap_i64]; omega
              have z0 : 2 * (a3 : Int) = (a6 : Int) := by omega
              have HA6 := Lib.hid ha6
              clear T4 h4a h3a h4w hg5 hg5' hb4 hb5 h5 d1 d2 d4 ha6 hg5l
              go_wp2_with fail
              refine wp_region_noPanic ?_
              go_region_law (first
                | (refine step_app (by rfl) (.tmp 64) (.tmp 71) 49 (by rfl) elemInt _ (p2.map List.length) m L4.out (by rfl) ((HT4.out.alloc (.cells #[.int .i64 a6] 3)).drew) a6 w5.heap.size #[.int .i64 a6] (by rfl) ?_ (by rfl) (by rfl) (by simp [one, nv, Value.oneCell']) (by rw [L4.out]; unfold maxLen; omega) (by rw [L4.out]; omega) (by simp; omega) ?_; (· exact World.alloc_heap_new w5 _); intro g6 c6 w6 h6 hg6 hg6' hg6l hb6))
              refine NoPanic.normal ?_
              have h5a := (H5.out.alloc (.cells #[.int .i64 a6] 3)).drew
              have h4a := (HT4.out.alloc (.cells #[.int .i64 a6] 3)).drew
              have h5w := h5a.grown hg6 (fun g hg e => OL.apart h5a h4a (by decide) g hg e)
              have H5 := Lib.hid h5w
              have H6 := Lib.hid h6
              have HB6 := Lib.hid ((HB5.out.alloc (by omega) (.cells #[.int .i64 a6] 3)).drew.trans hb6)
              clear h5a h4a h5w hg6 hg6' hb6 h6 d4w z1 z0 hg6l
              go_wp2_with fail
              obtain ⟨hd, hr⟩ := DescL.merge HD.out (by rw [HX.out.2.2.2.1, HX.out.2.2.2.2])
              refine ⟨⟨p2, q ++ s, m + 1, g5, c5, g6, c6, by rw [HX.out.1], rfl, rfl, ?_, hd, ?_, ?_, ?_, HB6.out⟩, ?_⟩
              · show Value.int .i64 (m1 : Int) = _
                rw [← HX.out.2.1]
              · rw [← HF.out]; simp
              · rw [List.map_append]
                show OL _ _ _ _ _ _ (p2.map rootS ++ [rootS (q ++ s)])
                rw [hr]; exact H5.out
              · rw [List.map_append]
                show OL _ _ _ _ _ _ (p2.map List.length ++ [(q ++ s).length])
                rw [List.length_append, HX.out.2.2.2.1, HX.out.2.2.2.2, show a3 + a3 = a6 by have := HA6.out; omega]
                exact H6.out
              · simp [intOf]; omega
          · have y6 : ((a3 : Int) == (b3 : Int)) = false := by simp; omega
            go_wp2_with fail
            go_quiet (fail)
            go_wp2_with fail
            refine ⟨⟨k + 1, p2 ++ [q] ++ [s], by omega, rfl, HD.out.done (fun p hp => ?_), HF.out, H3.out.drewN nq, H4.out.drewN nq, Below.drewN' HB.out nq⟩, ?_⟩
            · simp at hp; subst hp; have := HX.out.2.2.2; omega
            · simp [intOf]; omega
      -- }}
    · obtain rfl : k = l.length := by omega
      have hf := HF.out
      rw [List.take_length] at hf
      have hBs := hB.size
      rcases nil_or_snoc ss with rfl | ⟨init, last, rfl⟩
      · obtain ⟨A3, c3, he, -, -⟩ := h3.slice
        have hl0 : l = [] := hf.symm
        have H0 := Lib.hid hl0
        subst he
        clear hf hl0 h3 h4 hAw
        have hz : ((([] : List (List ByteArray)).map rootS).length) = 0 := rfl
        go_wp2_with (go_at_call 30; refine (sum_walk ⟨#[]⟩ (by decide) _ HKW.out).mono ?_; rintro e w1 ⟨rfl, hb1⟩)
        refine ⟨_, results_tmp rfl _ _ _, ?_, HB.out.trans (hb1.mono hBs)⟩
        rw [H0.out]; rfl
      · obtain ⟨n, hn⟩ : ∃ n, init.length = n := ⟨_, rfl⟩
        have hl3 : ((init ++ [last]).map rootS).length = n + 1 := by simp [hn]
        obtain ⟨g3, c3, he, hg3, hg3l, hc3, hc3m⟩ := h3.form (by omega)
        rw [hl3] at he hc3
        subst he
        have hnk : n ≤ 1000 := by
          have h1 := desc_len HD.out
          rw [hf] at h1
          simp at h1; omega
        have d3 := h3.getq (i := n) (x := rootS last) (by subst hn; simp)
        have T3 := h3.take (fun _ => rfl) n (by omega) (by simp)
        rw [show ((init ++ [last]).map rootS).take n = init.map rootS by subst hn; simp] at T3
        have HT3 := Lib.hid T3
        have HF2 := Lib.hid hf
        have HN := Lib.hid hn
        have HL3 := Lib.hid hl3
        have y1 : (0 : Int) ≤ (n : Int) := by omega
        have y2 : (n : Int) < (n : Int) + 1 := by omega
        have y3 : IntKind.i64.wrap ((n : Int) + 1 - 1) = (n : Int) := by rw [IntKind.wrap_i64]; omega
        have y4 : (n : Int) ≤ (c3 : Int) := by omega
        have y5 : (n : Int) < ((n + 1 : Nat) : Int) := by omega
        clear hf h3 h4 hAw hB T3 hn hl3 HA
        go_wp2_with (go_at_call 44; refine (backS_any _ _ _ _).mono ?_; rintro e w1 ⟨rfl, rfl⟩)
        obtain ⟨w7, hw7⟩ : ∃ w7, (wr.alloc (.cells #[.string (rootS last)] 9)).alloc (.cells #[.slice (some ⟨g3, 0, none⟩) n c3] 22) = w7 := ⟨_, rfl⟩
        have hLN : (init.map rootS).length = n := by rw [List.length_map]; exact HN.out
        have x0 : Boxed w7 wr.heap.size 9 (.string (rootS last)) := by rw [← hw7]; exact (Boxed.new wr _ _).alloc _
        have x1 : Boxed w7 (wr.heap.size + 1) 22 (.slice (some ⟨g3, 0, none⟩) (init.map rootS).length c3) := by
          have := Boxed.new (wr.alloc (.cells #[.string (rootS last)] 9)) 22 (.slice (some ⟨g3, 0, none⟩) n c3)
          rw [World.size_alloc, hw7] at this; rw [hLN]; exact this
        have hbl : Below wr.heap.size wr w7 := by rw [← hw7]; exact ((Below.refl _ _).alloc (Nat.le_refl _) _).alloc (by simp) _
        have hs7 : w7.heap.size = wr.heap.size + 2 := by rw [← hw7]; simp
        have hB7 : Below w.heap.size w w7 := HB.out.trans (hbl.mono hBs)
        have hA7 : LAt w7 w7.heap.size (some ⟨g3, 0, none⟩) .string (init.map rootS) := (HT3.out.below hbl (Nat.le_refl _)).lat
        have hr2 : rootS l = init.foldr (fun s out => nodeS (rootS s) out) (rootS last) := by rw [desc_root HD.out, HF2.out]
        have HR2 := Lib.hid hr2
        have HLN := Lib.hid hLN
        rw [hw7]
        clear hw7 hbl hr2 hLN d3
        refine (wpIn_wide (n := 3)).1 ?_
        refine wp_rangeZ (gf := 60) (lb := #[.pointer (some ⟨wr.heap.size + 1, 0, none⟩)]) rfl (enters_of Tryd.func60 (by kernel_rfl) rfl)
          (backS_iter (some ⟨g3, 0, none⟩) (init.map rootS) c3 (wr.heap.size + 1) (by rw [HLN.out]; omega) w7 x1 hA7) (Below.refl _ _) (fun k hk => hk.elim) (fun _ => rfl) (fun h k => h.trans k)
          (fun W o => ⟨World.putObj_heap_other (by omega), fun a ha => by cases ha; exact World.putObj_heap_other (by show g3 ≠ _; omega)⟩)
          (fun pre W => Boxed W wr.heap.size 9 (.string (backF (init.map rootS) (rootS last) pre)) ∧ Below w.heap.size w W)
          (fun _ _ _ => False)
          (fun s A B h t => ⟨t.boxed h.1 (not_books (by omega)), t.below h.2 (Nat.le_refl _) (far_books (by omega))⟩)
          (fun _ _ _ _ h _ => h.elim)
          ⟨x0, hB7⟩ ?a1 ?assign ?body ?done ?stop
        case assign =>
          intro l x W K hK
          dsimp only [encB]
          gi_wp2
          exact hK
        case body =>
          rintro l0 pre x W hW ⟨hb, hB⟩ hlt2
          have hys := backF_size (L := init.map rootS) (rootS_size last) pre
          have hsn := backF_snoc (init.map rootS) (rootS last) pre x
          obtain ⟨y, hy⟩ : ∃ y, backF (init.map rootS) (rootS last) pre = y := ⟨_, rfl⟩
          rw [hy] at hb hys hsn
          have c0 := hb.cell
          have hKW := HK.out.below hB
          have HSN := Lib.hid hsn
          have HKV := Lib.hid hKW
          have HBB := Lib.hid hb
          have HB := Lib.hid hB
          clear hy hsn hKW hb hB x0 x1 hA7 hB7
          gi_wp2_with fail
          refine ⟨trivial, CallsIn.mono (F := Fence.wide) (n := 0) (callsIn_wide.2 (node_walk _ y W (by rw [rootS_size]; omega) HKV.out)) ?_⟩
          rintro e W2 ⟨rfl, hb2⟩
          have hbx : Boxed W2 wr.heap.size 9 (.string y) := (hb2.block _ (by omega)).trans HBB.out
          have c2 := hbx.cell
          have f2 := hbx.frozen
          have HBX := Lib.hid (hbx.set (.string (nodeS (rootS init[x.val]) y)))
          have hs2 := hb2.size
          have HBL := Lib.hid hb2
          clear hbx c0 hb2
          gi_wp2_with fail
          have hu : But wr.heap.size W (W2.setCell ⟨wr.heap.size, 0, none⟩ (.string (nodeS (rootS init[x.val]) y))) := (But.of_below (g := wr.heap.size) HBL.out).setCell (p := ⟨wr.heap.size, 0, none⟩) (.inl rfl) _
          refine ⟨⟨hu.size, fun j _ hj hj2 _ => (hu.block j (Array.getElem?_eq_some_iff.1 hj2).1 (by omega)).trans hj2⟩, ⟨hu.block _ (by omega) (by omega), fun a ha => by cases ha; exact hu.block _ (by show g3 < _; omega) (by show g3 ≠ _; omega)⟩, ?_, HB.out.trans (hu.below (by omega) (by have := HB.out.size; omega))⟩
          rw [HSN.out, List.getElem_map]
          exact HBX.out
        case done =>
          rintro xs W hS ⟨hb, hB⟩ hK
          have hfin : backF (init.map rootS) (rootS last) xs = rootS l := by rw [backF_all _ _ _ hS, HR2.out, List.foldr_map]
          rw [hfin] at hb
          have c0 := hb.cell
          have HB := Lib.hid hB
          have HKK := Lib.hid hK
          clear hfin hb hB hK hS x0 x1 hA7 hB7
          go_wp2_with fail
          refine ⟨by simp, .inl ⟨_, _, rfl, run_takeDeferred HKK.out, ?_⟩⟩
          refine ⟨_, results_tmp rfl _ _ _, ?_, ?_⟩
          · rfl
          · exact (Turns.putObj (Z := fun k => k = w7.heap.size) W _ _ rfl).below HB.out (Nat.le_refl _) (fun k hk => by omega)
        case stop =>
          rintro c pre W _ h _
          exact h.elim

theorem root_at (A : Option Addr) (l : List ByteArray) (n cap : Nat) (hn : l.length = n) (hl : n ≤ 1000) (hs : ∀ s ∈ l, s.size ≤ 100000) (w : World) (hA : LAt w w.heap.size A .string l) (hK : KAt w) :
    Calls Tryd.prog 19 #[.slice A n cap] w fun e w' => e = .returned (.string (rootS l)) ∧ Below w.heap.size w w' := by
  subst hn
  exact root_walk A l cap hl hs w hA hK

end Go.Proofs.YtjelniemoambaaaDoor
