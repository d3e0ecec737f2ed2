/-
  The reference's Visible, Sync, Read. Conditions: each contract's own.
-/
import Derived.Test.YtmpjoncemgangaaDiskV
namespace Go.Proofs.Ytmpjoncemgangaa
open Go Go.RowKit Go.Shelf Go.Sort

theorem elemB : Elem Try.prog 40 5 1 1 := Elem.mk' (z := .int .u8 0) Try.underlying40 (by kernel_rfl) rfl (by omega)
theorem OL.lit0 {B : Nat} (W : World) (hB : B ≤ W.heap.size) : OL (W.alloc (.cells #[] 5)) B 5 1 (one bv) (.slice (some ⟨W.heap.size, 0, none⟩) 0 0) [] :=
  ⟨rfl, .inr ⟨W.heap.size, 0, _, rfl, hB, World.alloc_heap_new W _, Nat.le_refl _, by unfold maxLen; omega, rfl, rfl⟩⟩
theorem RAt.cat {W : World} {g : Nat} {l : List UInt8} (h : RAt W g bv l) : ∀ j x, (l.flatMap (one bv))[j]? = some x → ∃ a, (some ⟨g, 0, none⟩ : Option Addr) = some a ∧ W.cell? (a.add j) = some x := by
  intro j x hx
  rw [flatMap_one, List.getElem?_map] at hx
  obtain ⟨y, hy, rfl⟩ := Option.map_eq_some_iff.1 hx
  exact ⟨_, rfl, by rw [show (⟨g, 0, none⟩ : Addr).add j = ⟨g, j, none⟩ by simp [Addr.add]; omega]; exact h.cell j y hy⟩
theorem applyP_take {pend : List (Nat × ByteArray)} {d : List UInt8} {k : Nat} (hk : k < pend.length) : applyP (pend.take (k + 1)) d = patch (applyP (pend.take k) d) pend[k].1 pend[k].2.data.toList := by
  rw [List.take_succ_eq_append_getElem hk]; exact applyP_snoc _ _ _ _

set_option maxRecDepth 100000 in
set_option maxHeartbeats 8000000 in
theorem visible_walk {W : World} {F : Nat → Prop} {d g c n : Nat} {vp : Value} {s : DS} (h : RefD W F d g c vp n s) (hn1 : 1 ≤ n) (hp : s.pend.length ≤ 1000000) :
    Calls Try.prog 34 #[.pointer (some ⟨d, 0, none⟩)] W fun e W' => ∃ q cq, e = .returned (.slice (some ⟨q, 0, none⟩) n cq) ∧ RAt W' q bv s.vis ∧ W.heap.size ≤ q ∧ n ≤ cq ∧ Below W.heap.size W W' := by
  have c0 : W.cell? ⟨d, 0, none⟩ = some (.slice (some ⟨g, 0, none⟩) n c) := h.cell 0
  obtain ⟨vA, vc, hvp, -, -⟩ := h.pp.slice
  subst hvp
  have H0 := Lib.hid h
  have hn := h.n64
  have hdl := h.lf d h.fd.1
  have c0' : (W.alloc (.cells #[] 5)).cell? ⟨d, 0, none⟩ = some (.slice (some ⟨g, 0, none⟩) n c) := (h.keep (Z := fun _ => False) (Turns.alloc W _) (fun _ _ q => q)).cell 0
  clear h
  go_enter Try.func34, Try.ntmps34
  go_wp2_with (first
    | (at_builtin
       go_must (refine wpList_cat rfl (.tmp 5) (.tmp 9) 40 rfl elemB (fun _ => rfl) _ ([] : List UInt8) rfl (OL.lit0 (B := W.heap.size) W (Nat.le_refl _)) (some ⟨g, 0, none⟩) s.dur n c H0.out.ld rfl (fun q => by cases q) (H0.out.rd.alloc _).cat (fun y _ u hu => by rw [List.mem_singleton.1 hu]; rfl) (by show 0 + n ≤ maxLen; unfold maxLen; omega) (by show (0 + n) * 1 ≤ _; omega) (by simp) ?_)
       intro v3 w3 h3 hg3 hb3
       obtain ⟨q, cq, hv3, hq1, hq2, hq3, -⟩ := h3.form (by rw [List.nil_append, H0.out.ld]; omega)
       rw [List.nil_append, H0.out.ld] at hv3
       rw [List.nil_append] at h3
       rw [List.nil_append, H0.out.ld] at hq3
       subst hv3
       have HQ := Lib.hid (And.intro h3 (And.intro hb3 (And.intro hq1 (And.intro hq2 hq3))))
       clear h3 hg3 hb3 hq1 hq2 hq3)
    | fail)
  have HRQ := Lib.hid (RAt.of_row (l := s.dur) (base := W.heap.size) (e := 5) (n := n) (cap := cq) (w := w3) (by
    have := HQ.out.1; unfold OL at this; rw [flatMap_one, H0.out.ld] at this; exact this))
  have HB3 := Lib.hid (((Below.refl W.heap.size W).alloc (Nat.le_refl _) (.cells #[] 5)).trans HQ.out.2.1)
  obtain ⟨m, hm⟩ : ∃ m, s.pend.length = m := ⟨_, rfl⟩
  have HM := Lib.hid hm
  have HPP := Lib.hid H0.out.pp
  rw [hm] at hp
  clear c0 c0'
  go_loopw [4] (fun v wr => ∃ k : Nat, k ≤ m ∧ v = .int .i64 (k : Int) ∧ RAt wr q bv (applyP (s.pend.take k) s.dur) ∧ Below W.heap.size W wr) (fun v _ => m - (intOf v).toNat)
  case atStart => exact ⟨0, by omega, rfl, HRQ.out, HB3.out⟩
  case round =>
    obtain ⟨k, hk, rfl, hr, hb⟩ := hrel
    have HR := Lib.hid hr
    have HB := Lib.hid hb
    have HD := Lib.hid (H0.out.keep (Turns.of_below (Z := fun _ => False) hb) (fun _ _ q => q))
    clear hr hb
    have c1 : wr.cell? ⟨d, 1, none⟩ = some (.slice vA m vc) := by rw [HD.out.cell 1, hm]; rfl
    by_cases hlt : k < m
    · have d1 : decide ((k : Int) < (m : Int)) = true := by simp [hlt]
      have hkl : k < s.pend.length := by rw [hm]; exact hlt
      obtain ⟨x, hx⟩ : ∃ x, s.pend[k]'hkl = x := ⟨_, rfl⟩
      have hxq : s.pend[k]? = some x := by rw [List.getElem?_eq_getElem hkl, hx]
      have hfit := HD.out.fit x (by rw [← hx]; exact List.getElem_mem hkl)
      have hat := applyP_take (d := s.dur) hkl
      rw [hx] at hat
      obtain ⟨o, bs⟩ := x
      have hpp := HD.out.pp
      obtain ⟨pg, c2, hpe, -, -, -, -⟩ := hpp.form (by omega)
      obtain rfl : vA = some ⟨pg, 0, none⟩ := by injection hpe
      obtain ⟨q1, q2⟩ := hpp.get2 hxq
      have hpl : (applyP (s.pend.take k) s.dur).length = n := by rw [applyP_length _ _ (fun y hy => by rw [H0.out.ld]; exact H0.out.fit y (List.mem_of_mem_take hy)), H0.out.ld]
      have hlp := hpp.lt pg rfl
      have HAT := Lib.hid hat
      dsimp only at hfit q1 q2
      have HON := Lib.hid (applyC_walk (wr.drewN 1) q n cq o _ bs (HR.out.drewN 1) hpl hfit hn)
      have y1 : (0 : Int) ≤ (k : Int) := by omega
      have y2 : (k : Int) < (m : Int) := by omega
      have w2 : IntKind.i64.wrap ((k : Int) + 1) = ((k + 1 : Nat) : Int) := by rw [IntKind.wrap_i64]; omega
      have HS0 : Hid (wr.cell? ⟨d, 1, none⟩ = some (.slice (some ⟨pg, 0, none⟩) m vc) ∧ wr.cell? ⟨pg, k * 2, none⟩ = some (.int .i64 (o : Int)) ∧ wr.cell? ⟨pg, k * 2 + 1, none⟩ = some (.string bs)) := Lib.hid ⟨c1, q1, q2⟩
      have HSN : Hid (∀ W2, Turns (fun j => j = q) (wr.drewN 1) W2 → W2.cell? ⟨d, 1, none⟩ = some (.slice (some ⟨pg, 0, none⟩) m vc) ∧ W2.cell? ⟨pg, k * 2, none⟩ = some (.int .i64 (o : Int)) ∧ W2.cell? ⟨pg, k * 2 + 1, none⟩ = some (.string bs)) := Lib.hid (fun W2 ht => by
        have hq0 := HQ.out.2.2.1
        have hdl2 := HD.out.lf d HD.out.fd.1
        have hpg := H0.out.lf pg (H0.out.fp pg rfl)
        have b1 := ht.block d hdl2 (fun e => by omega)
        have b2 := ht.block pg hlp.2 (fun e => by omega)
        exact ⟨(World.cell?_of_block (a := ⟨d, 1, none⟩) b1).trans c1, (World.cell?_of_block (a := ⟨pg, k * 2, none⟩) b2).trans q1, (World.cell?_of_block (a := ⟨pg, k * 2 + 1, none⟩) b2).trans q2⟩)
      clear hkl hx hxq hfit hat hpp hpe hpl hlp
      go_wp2_with fail
      go_region_held3 (fun w' => w'.cell? ⟨d, 1, none⟩ = some (.slice (some ⟨pg, 0, none⟩) m vc) ∧ w'.cell? ⟨pg, k * 2, none⟩ = some (.int .i64 (o : Int)) ∧ w'.cell? ⟨pg, k * 2 + 1, none⟩ = some (.string bs)) (first | exact HS0.out | exact HSN.out _ (by assumption) | fail)
        (first | (go_at_call 44; refine HON.out.mono ?_; rintro e W2 ⟨rfl, hr2, ht2⟩) | fail)
      all_goals go_wp2_with fail
      all_goals exact ⟨⟨k + 1, by omega, rfl, by rw [HAT.out]; exact hr2, ht2.below (Below.drewN' HB.out 1) (Nat.le_refl _) (fun j e => by rw [e]; exact HQ.out.2.2.1)⟩, by simp [intOf]; omega⟩
    · obtain rfl : m = k := by omega
      have d1 : decide ((m : Int) < (m : Int)) = false := by simp
      clear hlt hk
      go_wp2_with fail
      go_ret
      refine ⟨q, cq, rfl, ?_, HQ.out.2.2.1, HQ.out.2.2.2.2, HB.out⟩
      have := HR.out
      rw [← HM.out, List.take_length, ← H0.out.app] at this
      exact this

/-- The reference has other durable bytes and an empty log. -/
theorem RefD.fresh {W W1 : World} {F : Nat → Prop} {d g c n : Nat} {vp : Value} {s : DS} (h : RefD W F d g c vp n s) (t : Turns (fun _ => False) W W1) (q cq : Nat) (m : List UInt8) (hr : RAt W1 q bv m) (hm : m.length = n) (hq : W.heap.size ≤ q) :
    RefD ((W1.setCell ⟨d, 0, none⟩ (.slice (some ⟨q, 0, none⟩) n cq)).setCell ⟨d, 1, none⟩ (.slice none 0 0)) (fun k => F k ∨ k = q) d q cq (.slice none 0 0) n { s with dur := m, vis := m, pend := [] } ∧
      Turns F W ((W1.setCell ⟨d, 0, none⟩ (.slice (some ⟨q, 0, none⟩) n cq)).setCell ⟨d, 1, none⟩ (.slice none 0 0)) := by
  obtain ⟨f1, f2⟩ := h.fd
  have l1 := h.lf d f1
  have hne : d ≠ q := by omega
  have t1 : Turns (fun k => k = d) W1 (W1.setCell ⟨d, 0, none⟩ (.slice (some ⟨q, 0, none⟩) n cq)) := Turns.setCell W1 _ _ rfl
  have t2 : Turns (fun k => k = d) (W1.setCell ⟨d, 0, none⟩ (.slice (some ⟨q, 0, none⟩) n cq)) ((W1.setCell ⟨d, 0, none⟩ (.slice (some ⟨q, 0, none⟩) n cq)).setCell ⟨d, 1, none⟩ (.slice none 0 0)) := Turns.setCell _ _ _ rfl
  have hT : Turns F W _ := (t.mono (fun _ (e : False) => e.elim)).trans ((t1.trans t2).mono (fun k (e : k = d) => by rw [e]; exact f1))
  have bd := (t.block d l1 (fun e => e)).trans h.hd
  refine ⟨⟨?_, (hr.other ⟨d, 0, none⟩ hne _).other ⟨d, 1, none⟩ hne _, hm, OL.nil, fun x hx => absurd hx (by simp), hne, fun k hk => (by cases hk), ⟨.inl f1, .inr rfl⟩, fun k hk => (by cases hk), fun k hk => ?_, h.n64, rfl⟩, hT⟩
  · simp only [World.setCell, Array.getElem?_modify, bd]
    simp
  · rcases hk with hk | hk
    · exact Nat.lt_of_lt_of_le (h.lf k hk) hT.size
    · rw [hk]; exact Nat.lt_of_lt_of_le hr.lt (t1.trans t2).size

set_option maxRecDepth 100000 in
set_option maxHeartbeats 8000000 in
theorem refsyncD_walk {W : World} {F : Nat → Prop} {d g c n : Nat} {vp : Value} {s : DS} (h : RefD W F d g c vp n s) (hn1 : 1 ≤ n) (hp : s.pend.length ≤ 1000000) :
    Calls Try.prog 31 #[.pointer (some ⟨d, 0, none⟩)] W fun e W' => e = .returned (.int .i64 (chkE s)) ∧ (∃ F' g' c' vp', RefD W' F' d g' c' vp' n s.sync ∧ ∀ k, F' k → F k ∨ W.heap.size ≤ k) ∧ Turns F W W' := by
  have c2 : W.cell? ⟨d, 2, none⟩ = some (.bool s.off) := h.cell 2
  have H0 := Lib.hid h
  have HV := Lib.hid (visible_walk h hn1 hp)
  have HLV := Lib.hid h.lv
  unfold DS.sync chkE
  clear h
  obtain ⟨b, hb⟩ : ∃ b, s.off = b := ⟨_, rfl⟩
  have HBO := Lib.hid hb
  rw [hb] at c2 ⊢
  clear hb
  cases b
  · simp only [Bool.false_eq_true, if_false]
    go_enter Try.func31, Try.ntmps31
    go_wp2_with fail
    refine HV.out.mono ?_
    rintro e W1 ⟨q, cq, rfl, hr, hq, hcq, hb⟩
    have t : Turns (fun _ => False) W W1 := Turns.of_below hb
    have hd1 := H0.out.keep t (fun _ _ e => e)
    have a0 : W1.cell? ⟨d, 0, none⟩ = some (.slice (some ⟨g, 0, none⟩) n c) := hd1.cell 0
    have a1 : W1.cell? ⟨d, 1, none⟩ = some vp := hd1.cell 1
    have b0 := hd1.free 0
    have b1 := hd1.free 1
    have hf := H0.out.fresh t q cq s.vis hr HLV.out hq
    rw [HBO.out] at hf
    have HF := Lib.hid hf
    have HQ := Lib.hid hq
    clear t hd1 hr hq hcq hb hf
    go_wp2_with fail
    go_ret
    refine ⟨rfl, ⟨_, _, _, _, HF.out.1, fun k hk => ?_⟩, HF.out.2⟩
    rcases hk with hk | hk
    · exact .inl hk
    · exact .inr (by rw [hk]; exact HQ.out)
  · rw [if_pos rfl, if_pos rfl]
    go_enter Try.func31, Try.ntmps31
    go_wp2_with fail
    go_ret
    exact ⟨rfl, ⟨F, g, c, vp, H0.out, fun k hk => .inl hk⟩, Turns.refl _ _⟩

set_option maxRecDepth 100000 in
set_option maxHeartbeats 8000000 in
theorem refreadD_walk {W : World} {F : Nat → Prop} {d g c n : Nat} {vp : Value} {s : DS} (h : RefD W F d g c vp n s) (hn1 : 1 ≤ n) (hp : s.pend.length ≤ 1000000) (off m : Int) :
    Calls Try.prog 20 #[.pointer (some ⟨d, 0, none⟩), .int .i64 off, .int .i64 m] W fun e W' => e = .returned (.tuple #[.string (s.read off m).1, .int .i64 (s.read off m).2]) ∧ Below W.heap.size W W' := by
  have c0 : W.cell? ⟨d, 0, none⟩ = some (.slice (some ⟨g, 0, none⟩) n c) := h.cell 0
  have c2 : W.cell? ⟨d, 2, none⟩ = some (.bool s.off) := h.cell 2
  have HV := Lib.hid (visible_walk h hn1 hp)
  have HLV := Lib.hid h.lv
  have hn := h.n64
  unfold DS.read
  rw [h.lv]
  clear h
  obtain ⟨b, hb⟩ : ∃ b, s.off = b := ⟨_, rfl⟩
  rw [hb] at c2 ⊢
  clear hb
  cases b
  · simp only [Bool.false_eq_true, if_false]
    by_cases b1 : off < 0
    · have e1 : decide (off < 0) = true := by simp [b1]
      rw [if_neg (by unfold insB; simp; omega)]
      go_enter Try.func20, Try.ntmps20
      go_wp2_with fail
      go_ret2
      exact ⟨rfl, Below.refl _ _⟩
    · obtain ⟨o, rfl⟩ : ∃ o : Nat, off = o := ⟨off.toNat, by omega⟩
      have e1 : decide ((o : Int) < 0) = false := by simp
      by_cases b2 : m < 0
      · have e2 : decide (m < 0) = true := by simp [b2]
        rw [if_neg (by unfold insB; simp; omega)]
        go_enter Try.func20, Try.ntmps20
        go_wp2_with fail
        go_ret2
        exact ⟨rfl, Below.refl _ _⟩
      · obtain ⟨k, rfl⟩ : ∃ k : Nat, m = k := ⟨m.toNat, by omega⟩
        have e2 : decide ((k : Int) < 0) = false := by simp
        by_cases b3 : n < o
        · have e3 : decide (n < o) = true := by simp [b3]
          rw [if_neg (by unfold insB; simp; omega)]
          go_enter Try.func20, Try.ntmps20
          go_wp2_with fail
          go_ret2
          exact ⟨rfl, Below.refl _ _⟩
        · have e3 : decide (n < o) = false := by simp; omega
          have w1 : IntKind.i64.wrap ((n : Int) - (o : Int)) = ((n - o : Nat) : Int) := by rw [IntKind.wrap_i64]; omega
          by_cases b4 : n - o < k
          · have e4 : decide (n - o < k) = true := by simp [b4]
            rw [if_neg (by unfold insB; simp; omega)]
            go_enter Try.func20, Try.ntmps20
            go_wp2_with fail
            go_ret2
            exact ⟨rfl, Below.refl _ _⟩
          · have e4 : decide (n - o < k) = false := by simp; omega
            rw [if_pos (insB_fit (by omega)), Int.toNat_natCast, Int.toNat_natCast]
            have w3 : IntKind.i64.wrap ((o : Int) + (k : Int)) = ((o + k : Nat) : Int) := by rw [IntKind.wrap_i64]; omega
            obtain ⟨L, hL⟩ : ∃ L, (s.vis.drop o).take k = L := ⟨_, rfl⟩
            have hLl : L.length = k := by rw [← hL, List.length_take, List.length_drop, HLV.out]; omega
            rw [hL]
            have HL := Lib.hid hL
            clear hL
            go_enter Try.func20, Try.ntmps20
            go_wp2_with fail
            refine HV.out.mono ?_
            rintro e W1 ⟨q, cq, rfl, hr, hq, hcq, hb⟩
            have HB := Lib.hid hb
            have z1 : (0 : Int) ≤ (o : Int) := by omega
            have z2 : (o : Int) ≤ ((o + k : Nat) : Int) := by omega
            have z3 : ((o + k : Nat) : Int) ≤ (cq : Int) := by omega
            have HRR := Lib.hid hr
            clear hr hb
            by_cases hoc : o = cq
            · have hk0 : k = 0 := by omega
              subst hk0
              obtain rfl : L = [] := List.length_eq_zero_iff.1 hLl
              subst hoc
              have hcv : (Go.convert 40 9 (.slice (some ⟨q, 0, none⟩) (0 : Nat) (0 : Nat))).run Try.prog W1 = .ok (.string ⟨([] : List UInt8).toArray⟩) W1 :=
                run_convert_bytes_back W1 _ _ _ ⟨q, 0, none⟩ 0 [] Try.underlying40 Try.underlying5 Try.underlying9 (fun j hj => absurd hj (by simp))
              go_wp2_with fail
              go_ret2
              exact ⟨rfl, HB.out⟩
            · have hcv : (Go.convert 40 9 (.slice (some ⟨q, o, none⟩) k (cq - o))).run Try.prog W1 = .ok (.string ⟨L.toArray⟩) W1 := by
                have := run_convert_bytes_back W1 40 9 5 ⟨q, o, none⟩ (cq - o) L Try.underlying40 Try.underlying5 Try.underlying9 (fun j hj => by
                  have h1 := HRR.out.cell (o + j) L[j] (by
                    have : L[j]? = some L[j] := List.getElem?_eq_getElem hj
                    rw [← this, ← HL.out, List.getElem?_take_of_lt (by omega), List.getElem?_drop])
                  rw [show (⟨q, o, none⟩ : Addr).add j = ⟨q, o + j, none⟩ by simp [Addr.add]]
                  exact h1)
                rw [hLl] at this
                exact this
              have z4 : ¬ cq = o := fun e => hoc e.symm
              clear hLl
              go_wp2_with fail
              go_ret2
              exact ⟨rfl, HB.out⟩
  · rw [if_pos rfl]
    go_enter Try.func20, Try.ntmps20
    go_wp2_with fail
    go_ret2
    exact ⟨rfl, Below.refl _ _⟩

end Go.Proofs.Ytmpjoncemgangaa
