/-
  The reference's disk in memory, told by the same record; its New, Cut, Write. Conditions: each contract's own.
-/
import Derived.Test.YtmpjoncemgangaaDiskLawTwins
namespace Go.Proofs.Ytmpjoncemgangaa
open Go Go.RowKit Go.Shelf Go.Sort

set_option maxHeartbeats 2000000 in
theorem applyC_walk (W : World) (g n c off : Nat) (l : List UInt8) (s : ByteArray) (hr : RAt W g bv l) (hl : l.length = n) (hfit : off + s.size ≤ n) (hn : n ≤ 4194304) :
    Calls Try.prog 44 #[.slice (some ⟨g, 0, none⟩) n c, .int .i64 off, .string s] W fun e W' => e = .returned (.tuple #[]) ∧ RAt W' g bv (patch l off s.data.toList) ∧ Turns (fun k => k = g) W W' := by
  have HR := Lib.hid hr
  clear hr
  go_enter Try.func44, Try.ntmps44
  go_wp2_with fail
  go_loopw [6] (fun v wr => ∃ k : Nat, k ≤ s.size ∧ v = .int .i64 k ∧ RAt wr g bv (patch l off (s.data.toList.take k)) ∧ Turns (fun k => k = g) W wr) (fun v _ => s.size - (intOf v).toNat)
  case atStart => exact ⟨0, by omega, rfl, by rw [List.take_zero, patch_nil]; exact HR.out, Turns.refl _ _⟩
  case round =>
    obtain ⟨k, hk, rfl, hrk, htk⟩ := hrel
    have hsl : s.data.toList.length = s.size := by simp
    have hpl : (patch l off (s.data.toList.take k)).length = n := by rw [patch_length (by rw [List.length_take]; omega)]; exact hl
    have HT := Lib.hid htk
    by_cases hlt : k < s.size
    · have d1 : decide ((k : Int) < (s.size : Int)) = true := by simp [hlt]
      obtain ⟨p, hp⟩ : ∃ p, off + k = p := ⟨_, rfl⟩
      have w1 : IntKind.i64.wrap ((off : Int) + (k : Int)) = (p : Int) := by rw [IntKind.wrap_i64]; omega
      have w2 : IntKind.i64.wrap ((k : Int) + 1) = ((k + 1 : Nat) : Int) := by rw [IntKind.wrap_i64]; omega
      have y1 : (0 : Int) ≤ (p : Int) := by omega
      have y2 : (p : Int) < (n : Int) := by omega
      have y3 : (0 : Int) ≤ (k : Int) := by omega
      have y4 : (k : Int) < (s.size : Int) := by omega
      obtain ⟨u, c1⟩ : ∃ u, wr.cell? ⟨g, p, none⟩ = some u := ⟨_, hrk.get (i := p) (by omega)⟩
      have f1 := hrk.free p (by omega)
      have HN : Hid (RAt (wr.setCell ⟨g, p, none⟩ (bv (s.data.toList[k]'(by omega)))) g bv (patch l off (s.data.toList.take (k + 1)))) := Lib.hid (by
        have := hrk.setv p (by omega) (s.data.toList[k]'(by omega)) _ rfl
        rw [← patch_snoc (by omega) (by omega), hp]
        exact this)
      obtain ⟨y, hy⟩ : ∃ y, s.data.toList[k]'(by omega) = y := ⟨_, rfl⟩
      rw [hy] at HN
      have HY := Lib.hid (show s.data.toList[k]? = some y by rw [List.getElem?_eq_getElem (by omega), hy])
      have HW := Lib.hid (And.intro (show k + 1 ≤ s.size from hlt) hp)
      clear hy hrk hpl hsl htk hk hl hfit hp
      go_wp2_with fail
      have hyk : s[k] = y := by
        have := HY.out
        rw [List.getElem?_eq_getElem (by simpa using hlt)] at this
        exact Option.some.inj this
      refine ⟨⟨k + 1, HW.out.1, rfl, ?_, HT.out.trans (Turns.setCell wr ⟨g, p, none⟩ _ rfl)⟩, by simp [intOf]; omega⟩
      rw [hyk]
      exact HN.out
    · obtain rfl : k = s.size := by omega
      have d1 : decide ((s.size : Int) < (s.size : Int)) = false := by simp
      have HN := Lib.hid hrk
      have hta : s.data.toList.take s.size = s.data.toList := List.take_of_length_le (by omega)
      clear hrk hpl hsl htk
      go_wp2_with fail
      go_end0
      have := HN.out
      rw [hta] at this
      exact ⟨rfl, this, HT.out⟩

/-- The reference's disk at block d: its durable bytes at g (a slice with room for c), its log vp; what is visible is the log applied to them. -/
structure RefD (W : World) (F : Nat → Prop) (d g c : Nat) (vp : Value) (n : Nat) (s : DS) : Prop where
  hd : W.heap[d]? = some (.cells #[.slice (some ⟨g, 0, none⟩) n c, vp, .bool s.off, .int .i64 (s.left : Int)] 43 (0, 0))
  rd : RAt W g bv s.dur
  ld : s.dur.length = n
  pp : OL W 0 80 2 wf vp s.pend
  fit : ∀ x ∈ s.pend, x.1 + x.2.size ≤ n
  ne : d ≠ g
  np : ∀ q, vp.ownBlock = some q → q ≠ d ∧ q ≠ g
  fd : F d ∧ F g
  fp : ∀ q, vp.ownBlock = some q → F q
  lf : ∀ k, F k → k < W.heap.size
  n64 : n ≤ 4194304
  app : s.vis = applyP s.pend s.dur
theorem applyP_length : ∀ (pend : List (Nat × ByteArray)) (d : List UInt8), (∀ x ∈ pend, x.1 + x.2.size ≤ d.length) → (applyP pend d).length = d.length
  | [], _, _ => rfl
  | x :: pend, d, h => by
    have hx := h x (List.mem_cons_self ..)
    have hp : (patch d x.1 x.2.data.toList).length = d.length := patch_length (by simpa using hx)
    show (applyP pend (patch d x.1 x.2.data.toList)).length = d.length
    rw [applyP_length pend _ (fun y hy => by rw [hp]; exact h y (List.mem_cons_of_mem _ hy)), hp]

section
variable {W W' : World} {F : Nat → Prop} {d g c n : Nat} {vp : Value} {s : DS}
theorem RefD.lv (h : RefD W F d g c vp n s) : s.vis.length = n := by rw [h.app, applyP_length _ _ (by rw [h.ld]; exact h.fit), h.ld]
theorem RefD.cell (h : RefD W F d g c vp n s) (i : Nat) : W.cell? ⟨d, i, none⟩ = (#[.slice (some ⟨g, 0, none⟩) n c, vp, .bool s.off, .int .i64 (s.left : Int)] : Array Value)[i]? := by
  simp [World.cell?, h.hd]
theorem RefD.free (h : RefD W F d g c vp n s) (i : Nat) : W.frozen? ⟨d, i, none⟩ = false := by simp [World.frozen?, h.hd]
theorem RefD.keep {Z : Nat → Prop} (h : RefD W F d g c vp n s) (t : Turns Z W W') (hz : ∀ k, F k → ¬ Z k) : RefD W' F d g c vp n s := by
  obtain ⟨f1, f2⟩ := h.fd
  refine ⟨(t.block d (h.lf d f1) (hz d f1)).trans h.hd, h.rd.turns t (hz g f2), h.ld, ?_, h.fit, h.ne, h.np, h.fd, h.fp, fun k hk => Nat.lt_of_lt_of_le (h.lf k hk) t.size, h.n64, h.app⟩
  exact h.pp.keep fun q hq => t.block q (h.pp.lt q hq).2 (hz q (h.fp q hq))
theorem RefD.drewN (h : RefD W F d g c vp n s) (k : Nat) : RefD (W.drewN k) F d g c vp n s := h.keep (Z := fun _ => False) ⟨rfl, rfl, rfl, Nat.le_refl _, fun _ _ _ => rfl⟩ (fun _ _ h => h)
/-- A cell of the reference's own block is written (not the slice of its bytes). -/
theorem RefD.put (h : RefD W F d g c vp n s) (i : Nat) (v : Value) (s' : DS) (vp' : Value)
    (hs : (#[.slice (some ⟨g, 0, none⟩) n c, vp, .bool s.off, .int .i64 (s.left : Int)] : Array Value).setIfInBounds i v = #[.slice (some ⟨g, 0, none⟩) n c, vp', .bool s'.off, .int .i64 (s'.left : Int)])
    (h1 : s'.dur = s.dur) (hfit : ∀ x ∈ s'.pend, x.1 + x.2.size ≤ n) (hpp : OL W 0 80 2 wf vp' s'.pend) (hnp : ∀ q, vp'.ownBlock = some q → q ≠ d ∧ q ≠ g) (hfp : ∀ q, vp'.ownBlock = some q → F q) (happ : s'.vis = applyP s'.pend s'.dur) :
    RefD (W.setCell ⟨d, i, none⟩ v) F d g c vp' n s' ∧ Turns F W (W.setCell ⟨d, i, none⟩ v) := by
  have ht : Turns (fun k => k = d) W (W.setCell ⟨d, i, none⟩ v) := Turns.setCell W _ v rfl
  refine ⟨⟨?_, ?_, by rw [h1]; exact h.ld, ?_, hfit, h.ne, hnp, h.fd, hfp, fun k hk => Nat.lt_of_lt_of_le (h.lf k hk) ht.size, h.n64, happ⟩, ht.mono (fun k hk => by rw [hk]; exact h.fd.1)⟩
  · have := h.hd
    simp only [World.setCell, Array.getElem?_modify, this]
    simp [hs]
  · rw [h1]; exact h.rd.other ⟨d, i, none⟩ h.ne v
  · exact hpp.keep fun q hq => ht.block q (hpp.lt q hq).2 (hnp q hq).1
end
theorem refnewD_walk {W : World} (n : Nat) (h1 : 1 ≤ n) (hn : n ≤ 4194304) :
    Calls Try.prog 18 #[.int .i64 n] W fun e W' => (∃ d g c F vp, e = .returned (.tuple #[.pointer (some ⟨d, 0, none⟩), .int .i64 0]) ∧ RefD W' F d g c vp n (DS.fresh n) ∧ ∀ k, F k → W.heap.size ≤ k) ∧ Turns (fun _ => False) W W' := by
  refine (refnew_walk n h1 hn).mono ?_
  rintro e W1 ⟨⟨d, g, F, vp, rfl, h, hF⟩, ht⟩
  exact ⟨⟨d, g, n, F, vp, rfl, ⟨h.hd, h.rd, h.ld, h.pp, h.fit, h.ne, h.np, h.fd, h.fp, h.lf, h.n64, rfl⟩, hF⟩, ht⟩
set_option maxRecDepth 20000 in
set_option maxHeartbeats 2000000 in
theorem refcutD_walk {W : World} {F : Nat → Prop} {d g c n : Nat} {vp : Value} {s : DS} (h : RefD W F d g c vp n s) (k : Int) :
    Calls Try.prog 32 #[.pointer (some ⟨d, 0, none⟩), .int .i64 k] W fun e W' => e = .returned (.int .i64 (s.cutE k)) ∧ RefD W' F d g c vp n (s.cut k) ∧ Turns F W W' := by
  have c2 : W.cell? ⟨d, 2, none⟩ = some (.bool s.off) := h.cell 2
  have c3 : W.cell? ⟨d, 3, none⟩ = some (.int .i64 (s.left : Int)) := h.cell 3
  have f2 := h.free 2
  have f3 := h.free 3
  have H0 := Lib.hid h
  unfold DS.cutE DS.cut
  obtain ⟨b, hb⟩ : ∃ b, s.off = b := ⟨_, rfl⟩
  rw [hb] at c2 ⊢
  clear h hb
  cases b
  · by_cases hk : k < 0
    · have d1 : decide (k < 0) = true := by simp [hk]
      simp only [Bool.false_eq_true, if_false]
      rw [if_pos hk, if_pos hk]
      go_enter Try.func32, Try.ntmps32
      go_wp2_with fail
      go_ret
      exact ⟨rfl, H0.out, Turns.refl _ _⟩
    · simp only [Bool.false_eq_true, if_false]
      rw [if_neg hk, if_neg hk]
      obtain ⟨m, rfl⟩ : ∃ m : Nat, k = m := ⟨k.toNat, by omega⟩
      rw [show ((m : Int)).toNat = m by omega]
      have hbe : ((m : Int) == 0) = decide (m = 0) := by rw [Bool.eq_iff_iff]; simp
      have h1 := H0.out.put 3 (.int .i64 (m : Int)) { s with left := m } vp rfl rfl H0.out.fit H0.out.pp H0.out.np H0.out.fp H0.out.app
      have h2 := h1.1.put 2 (.bool ((m : Int) == 0)) { s with left := m, off := decide (m = 0) } vp (by rw [hbe]; rfl) rfl H0.out.fit h1.1.pp H0.out.np H0.out.fp H0.out.app
      have H2 := Lib.hid h2.1
      have HT := Lib.hid (h1.2.trans h2.2)
      clear h1 h2 hbe
      go_enter Try.func32, Try.ntmps32
      go_wp2_with fail
      go_ret
      exact ⟨rfl, H2.out, HT.out⟩
  · rw [if_pos rfl, if_pos rfl]
    go_enter Try.func32, Try.ntmps32
    go_wp2_with fail
    go_ret
    exact ⟨rfl, H0.out, Turns.refl _ _⟩

theorem elemC : Elem Try.prog 41 80 2 24 := Elem.mk' (z := .agg #[.int .i64 0, .string ByteArray.empty]) Try.underlying41 (by kernel_rfl) rfl (by omega)
/-- One more change in the log. -/
theorem RefD.grow {W W5 : World} {F : Nat → Prop} {d g c n : Nat} {vp : Value} {s : DS} (h : RefD W F d g c vp n s) (hg : W.grownBy W5 vp.ownBlock) (q m cc : Nat) (o : Nat) (x : ByteArray) (h5 : OL W5 0 80 2 wf (.slice (some ⟨q, 0, none⟩) m cc) (s.pend ++ [(o, x)]))
    (hfit : o + x.size ≤ n) (hg' : vp.ownBlock = some q ∨ q = W.heap.size) (hgl : q < W5.heap.size) :
    RefD (W5.setCell ⟨d, 1, none⟩ (.slice (some ⟨q, 0, none⟩) m cc)) (fun k => F k ∨ (W.heap.size ≤ k ∧ k < W5.heap.size)) d g c (.slice (some ⟨q, 0, none⟩) m cc) n { s with pend := s.pend ++ [(o, x)], vis := patch s.vis o x.data.toList } ∧ Turns F W (W5.setCell ⟨d, 1, none⟩ (.slice (some ⟨q, 0, none⟩) m cc)) := by
  obtain ⟨f1, f2⟩ := h.fd
  have l1 := h.lf d f1
  have l2 := h.lf g f2
  have ht5 : Turns F W W5 := ⟨hg.os, hg.tape, hg.output, hg.size, fun k hk hf => grown_cell hg hk (fun q' e e' => hf (e' ▸ h.fp q' e))⟩
  have hgne : q ≠ d ∧ q ≠ g := by
    rcases hg' with e | e
    · exact h.np q e
    · subst e; exact ⟨by omega, by omega⟩
  have bd := grown_cell hg l1 (fun q' e => (h.np q' e).1)
  have bg := grown_cell hg l2 (fun q' e => (h.np q' e).2)
  have hz5 := ht5.size
  have hm : RefD W5 (fun k => F k ∨ (W.heap.size ≤ k ∧ k < W5.heap.size)) d g c vp n s ∨ True := .inr trivial
  have hput : Turns (fun k => k = d) W5 (W5.setCell ⟨d, 1, none⟩ (.slice (some ⟨q, 0, none⟩) m cc)) := Turns.setCell W5 _ _ rfl
  have hT := ht5.trans (hput.mono (fun k hk => by rw [hk]; exact f1))
  clear hm
  refine ⟨⟨?_, ?_, h.ld, h5.keep fun k hk => ?_, ?_, h.ne, fun k hk => ?_, ⟨.inl f1, .inl f2⟩, fun k hk => ?_, fun k hk => ?_, h.n64, ?_⟩, hT⟩
  · have h1 : W5.heap[d]? = _ := bd.trans h.hd
    simp only [World.setCell, Array.getElem?_modify, h1]
    simp
  · refine RAt.other (b := g) ?_ ⟨d, 1, none⟩ h.ne _
    exact ⟨by omega, fun i x hx => (World.cell?_of_block (a := ⟨g, i, none⟩) bg).trans (h.rd.cell i x hx), fun i hi => (World.frozen?_of_block (a := ⟨g, i, none⟩) bg).trans (h.rd.free i hi)⟩
  · cases hk; exact hput.block q hgl hgne.1
  · intro y hy
    rcases List.mem_append.1 hy with hy | hy
    · exact h.fit y hy
    · rw [List.mem_singleton.1 hy]; exact hfit
  · cases hk; exact hgne
  · cases hk
    rcases hg' with e | e
    · exact .inl (h.fp q e)
    · exact .inr ⟨Nat.le_of_eq e.symm, hgl⟩
  · rcases hk with hk | hk
    · exact Nat.lt_of_lt_of_le (h.lf k hk) hT.size
    · exact Nat.lt_of_lt_of_le hk.2 hput.size
  · show patch s.vis o x.data.toList = applyP (s.pend ++ [(o, x)]) s.dur
    rw [applyP_snoc, ← h.app]

set_option maxRecDepth 100000 in
set_option maxHeartbeats 8000000 in
theorem refwriteD_walk {W : World} {F : Nat → Prop} {d g c n : Nat} {vp : Value} {s : DS} (h : RefD W F d g c vp n s) (off : Int) (x : ByteArray) (hx : x.size ≤ 4194304) (hp : s.pend.length ≤ 1000000) (hleft : s.left ≤ 9223372036854775807) :
    Calls Try.prog 30 #[.pointer (some ⟨d, 0, none⟩), .int .i64 off, .string x] W fun e W' => e = .returned (.int .i64 (s.writeE off x)) ∧ (∃ F' vp', RefD W' F' d g c vp' n (s.wr off x) ∧ ∀ k, F' k → F k ∨ W.heap.size ≤ k) ∧ Turns F W W' := by
  have c0 : W.cell? ⟨d, 0, none⟩ = some (.slice (some ⟨g, 0, none⟩) n c) := h.cell 0
  have c1 : W.cell? ⟨d, 1, none⟩ = some vp := h.cell 1
  have c2 : W.cell? ⟨d, 2, none⟩ = some (.bool s.off) := h.cell 2
  have H0 := Lib.hid h
  have hn := h.n64
  have HLV := Lib.hid h.lv
  unfold DS.writeE DS.wr
  rw [h.lv]
  clear h
  obtain ⟨b, hb⟩ : ∃ b, s.off = b := ⟨_, rfl⟩
  have HBO := Lib.hid hb
  rw [hb] at c2 ⊢
  clear hb
  cases b
  · simp only [Bool.false_eq_true, if_false]
    by_cases hin : insB n off x.size = true
    · have hi := hin
      unfold insB at hi
      simp only [Bool.and_eq_true, decide_eq_true_eq] at hi
      obtain ⟨⟨⟨x1, x2⟩, x3⟩, x4⟩ := hi
      rw [hin, if_pos rfl, if_pos rfl]
      obtain ⟨o, rfl⟩ : ∃ o : Nat, off = o := ⟨off.toNat, by omega⟩
      rw [Int.toNat_natCast]
      have d1 : decide ((o : Int) < 0) = false := by simp
      have d2 : decide (n < o) = false := by simp; omega
      have w1 : IntKind.i64.wrap ((n : Int) - (o : Int)) = ((n - o : Nat) : Int) := by rw [IntKind.wrap_i64]; omega
      have d3 : decide (n - o < x.size) = false := by simp; omega
      have d4 : ¬ n < o := by omega
      have d5 : ¬ n - o < x.size := by omega
      have HFIT := Lib.hid (show o + x.size ≤ n by omega)
      have HL := Lib.hid hleft
      have HPL := Lib.hid hp
      clear hin x1 x2 x3 x4 hleft hp hx
      obtain ⟨vA, vc, hvp, -, -⟩ := H0.out.pp.slice
      have HO := Lib.hid H0.out.pp
      have HNP := Lib.hid H0.out.np
      have HDL := Lib.hid (H0.out.lf d H0.out.fd.1)
      have HA1 := Lib.hid (H0.out.keep (Z := fun _ => False) (Turns.alloc W (.cells #[.int .i64 (o : Int), .string x] 80)) (fun _ _ q => q))
      obtain ⟨LL, hLL⟩ : ∃ LL, s.left = LL := ⟨_, rfl⟩
      have HVC : Hid (∀ i, W.cell? ⟨d, i, none⟩ = (#[.slice (some ⟨g, 0, none⟩) n c, .slice vA s.pend.length vc, .bool false, .int .i64 (LL : Int)] : Array Value)[i]?) := Lib.hid (fun i => by have := H0.out.cell i; rw [hvp, HBO.out, hLL] at this; exact this)
      have HVF := Lib.hid H0.out.free
      have HLB : Hid (LL ≤ 9223372036854775807) := Lib.hid (by rw [← hLL]; exact HL.out)
      have HLL := Lib.hid hLL
      clear hLL
      subst hvp
      by_cases hl0 : LL = 0
      · have g1 : decide (0 < LL) = false := by rw [hl0]; rfl
        have g2 : decide ((0 : Int) < (LL : Int)) = false := by rw [hl0]; rfl
        have HL0 := Lib.hid hl0
        clear hl0
        go_enter Try.func30, Try.ntmps30
        go_wp2_with (first
          | (at_builtin
             go_must (refine wpList_app rfl (.tmp 38) (.tmp 42) 41 rfl elemC _ s.pend s.pend.length rfl rfl (HO.out.alloc _) (o, x) W.heap.size #[.int .i64 (o : Int), .string x] rfl ?hc rfl rfl (fun u hu => by simp [wf] at hu; rcases hu with rfl | rfl <;> rfl) (by have := HPL.out; unfold maxLen; omega) (by have := HPL.out; omega) (Nat.zero_le _) ?_)
             (case hc => exact World.alloc_heap_new _ _)
             intro g5 c5 W5 h5 hg5 hg5' hg5l hb5
             have hbd := grown_cell hg5 (k := d) (by rw [World.size_alloc]; have := HDL.out; omega) (fun q e => (HNP.out q e).1)
             have hbd2 := hbd.trans (Below.heap_alloc W (.cells #[.int .i64 (o : Int), .string x] 80) d HDL.out)
             have a1 : W5.cell? ⟨d, 1, none⟩ = some (.slice vA s.pend.length vc) := (World.cell?_of_block (a := ⟨d, 1, none⟩) hbd2).trans (HVC.out 1)
             have a2 : W5.cell? ⟨d, 2, none⟩ = some (.bool false) := (World.cell?_of_block (a := ⟨d, 2, none⟩) hbd2).trans (HVC.out 2)
             have a3 : W5.cell? ⟨d, 3, none⟩ = some (.int .i64 (LL : Int)) := (World.cell?_of_block (a := ⟨d, 3, none⟩) hbd2).trans (HVC.out 3)
             have b1 : W5.frozen? ⟨d, 1, none⟩ = false := (World.frozen?_of_block (a := ⟨d, 1, none⟩) hbd2).trans (HVF.out 1)
             have b2 : W5.frozen? ⟨d, 2, none⟩ = false := (World.frozen?_of_block (a := ⟨d, 2, none⟩) hbd2).trans (HVF.out 2)
             have b3 : W5.frozen? ⟨d, 3, none⟩ = false := (World.frozen?_of_block (a := ⟨d, 3, none⟩) hbd2).trans (HVF.out 3)
             have HG := Lib.hid (HA1.out.grow hg5 g5 _ c5 o x h5 HFIT.out hg5' hg5l)
             have HSZ : Hid (W.heap.size ≤ (W.alloc (.cells #[.int .i64 (o : Int), .string x] 80)).heap.size) := Lib.hid (by rw [World.size_alloc]; omega)
             clear hbd hbd2 h5 hg5 hg5' hg5l hb5)
          | fail)
        go_ret
        refine ⟨rfl, ⟨?F1, ?v1, ?x10, ?x20⟩, (Turns.alloc W _).trans HG.out.2⟩
        case x10 =>
          unfold DS.write DS.used
          dsimp only
          rw [if_pos (by rw [HLL.out, HL0.out])]
          exact HG.out.1
        case x20 =>
          intro k hk
          rcases hk with hk | hk
          · exact .inl hk
          · exact .inr (Nat.le_trans HSZ.out hk.1)
      · by_cases hm0 : LL - 1 = 0
        · replace hm0 : ∀ m, LL = m + 1 → m = 0 := fun m e => by omega
          obtain ⟨m, hm⟩ : ∃ m, LL = m + 1 := ⟨LL - 1, by omega⟩
          replace hm0 := hm0 m hm
          have g1 : decide (0 < LL) = true := by simp; omega
          have g2 : decide ((0 : Int) < (LL : Int)) = true := by simp; omega
          have g3 : IntKind.i64.wrap ((LL : Int) - 1) = (m : Int) := by have := HLB.out; rw [IntKind.wrap_i64]; omega
          have g6 : (0 : Int) < (LL : Int) := by omega
          have g7 : 0 < LL := by omega
          have g4 : ((m : Int) == 0) = true := by simp [hm0]
          have hm0' : m = 0 := hm0
          have HM0 := Lib.hid hm0'
          clear hm0 hm0'
          have HM := Lib.hid hm
          clear hm hl0
          go_enter Try.func30, Try.ntmps30
          go_wp2_with (first
            | (at_builtin
               go_must (refine wpList_app rfl (.tmp 38) (.tmp 42) 41 rfl elemC _ s.pend s.pend.length rfl rfl (HO.out.alloc _) (o, x) W.heap.size #[.int .i64 (o : Int), .string x] rfl ?hc rfl rfl (fun u hu => by simp [wf] at hu; rcases hu with rfl | rfl <;> rfl) (by have := HPL.out; unfold maxLen; omega) (by have := HPL.out; omega) (Nat.zero_le _) ?_)
               (case hc => exact World.alloc_heap_new _ _)
               intro g5 c5 W5 h5 hg5 hg5' hg5l hb5
               have hbd := grown_cell hg5 (k := d) (by rw [World.size_alloc]; have := HDL.out; omega) (fun q e => (HNP.out q e).1)
               have hbd2 := hbd.trans (Below.heap_alloc W (.cells #[.int .i64 (o : Int), .string x] 80) d HDL.out)
               have a1 : W5.cell? ⟨d, 1, none⟩ = some (.slice vA s.pend.length vc) := (World.cell?_of_block (a := ⟨d, 1, none⟩) hbd2).trans (HVC.out 1)
               have a2 : W5.cell? ⟨d, 2, none⟩ = some (.bool false) := (World.cell?_of_block (a := ⟨d, 2, none⟩) hbd2).trans (HVC.out 2)
               have a3 : W5.cell? ⟨d, 3, none⟩ = some (.int .i64 (LL : Int)) := (World.cell?_of_block (a := ⟨d, 3, none⟩) hbd2).trans (HVC.out 3)
               have b1 : W5.frozen? ⟨d, 1, none⟩ = false := (World.frozen?_of_block (a := ⟨d, 1, none⟩) hbd2).trans (HVF.out 1)
               have b2 : W5.frozen? ⟨d, 2, none⟩ = false := (World.frozen?_of_block (a := ⟨d, 2, none⟩) hbd2).trans (HVF.out 2)
               have b3 : W5.frozen? ⟨d, 3, none⟩ = false := (World.frozen?_of_block (a := ⟨d, 3, none⟩) hbd2).trans (HVF.out 3)
               have HG := Lib.hid (HA1.out.grow hg5 g5 _ c5 o x h5 HFIT.out hg5' hg5l)
               have HSZ : Hid (W.heap.size ≤ (W.alloc (.cells #[.int .i64 (o : Int), .string x] 80)).heap.size) := Lib.hid (by rw [World.size_alloc]; omega)
               clear hbd hbd2 h5 hg5 hg5' hg5l hb5)
            | fail)
          go_ret
          have hg := HG.out.1
          have h3 := hg.put 3 (.int .i64 (m : Int)) { s with pend := s.pend ++ [(o, x)], vis := patch s.vis o x.data.toList, left := m } _ rfl rfl hg.fit hg.pp hg.np hg.fp hg.app
          have h4 := h3.1.put 2 (.bool true) { s with pend := s.pend ++ [(o, x)], vis := patch s.vis o x.data.toList, left := m, off := true } _ rfl rfl hg.fit h3.1.pp hg.np hg.fp hg.app
          refine ⟨rfl, ⟨?F3, ?v3, ?x12, ?x22⟩, ((Turns.alloc W _).trans HG.out.2).then (h3.2.trans h4.2) (fun k hk => by
              rcases hk with hk | hk
              · exact .inl hk
              · exact .inr (Nat.le_trans HSZ.out hk.1))⟩
          case x12 =>
            unfold DS.write DS.used
            dsimp only
            rw [if_neg (by rw [HLL.out, HM.out]; omega)]
            have := h4.1
            rw [show s.left - 1 = m by rw [HLL.out, HM.out]; omega, show decide (m = 0) = true by simp [HM0.out]]
            exact this
          case x22 =>
            intro k hk
            rcases hk with hk | hk
            · exact .inl hk
            · exact .inr (Nat.le_trans HSZ.out hk.1)
        · replace hm0 : ∀ m, LL = m + 1 → m ≠ 0 := fun m e => by omega
          obtain ⟨m, hm⟩ : ∃ m, LL = m + 1 := ⟨LL - 1, by omega⟩
          replace hm0 := hm0 m hm
          have g1 : decide (0 < LL) = true := by simp; omega
          have g2 : decide ((0 : Int) < (LL : Int)) = true := by simp; omega
          have g3 : IntKind.i64.wrap ((LL : Int) - 1) = (m : Int) := by have := HLB.out; rw [IntKind.wrap_i64]; omega
          have g6 : (0 : Int) < (LL : Int) := by omega
          have g7 : 0 < LL := by omega
          have g4 : ((m : Int) == 0) = false := by simp; omega
          have hm0' : m ≠ 0 := hm0
          have HM0 := Lib.hid hm0'
          clear hm0 hm0'
          have HM := Lib.hid hm
          clear hm hl0
          go_enter Try.func30, Try.ntmps30
          go_wp2_with (first
            | (at_builtin
               go_must (refine wpList_app rfl (.tmp 38) (.tmp 42) 41 rfl elemC _ s.pend s.pend.length rfl rfl (HO.out.alloc _) (o, x) W.heap.size #[.int .i64 (o : Int), .string x] rfl ?hc rfl rfl (fun u hu => by simp [wf] at hu; rcases hu with rfl | rfl <;> rfl) (by have := HPL.out; unfold maxLen; omega) (by have := HPL.out; omega) (Nat.zero_le _) ?_)
               (case hc => exact World.alloc_heap_new _ _)
               intro g5 c5 W5 h5 hg5 hg5' hg5l hb5
               have hbd := grown_cell hg5 (k := d) (by rw [World.size_alloc]; have := HDL.out; omega) (fun q e => (HNP.out q e).1)
               have hbd2 := hbd.trans (Below.heap_alloc W (.cells #[.int .i64 (o : Int), .string x] 80) d HDL.out)
               have a1 : W5.cell? ⟨d, 1, none⟩ = some (.slice vA s.pend.length vc) := (World.cell?_of_block (a := ⟨d, 1, none⟩) hbd2).trans (HVC.out 1)
               have a2 : W5.cell? ⟨d, 2, none⟩ = some (.bool false) := (World.cell?_of_block (a := ⟨d, 2, none⟩) hbd2).trans (HVC.out 2)
               have a3 : W5.cell? ⟨d, 3, none⟩ = some (.int .i64 (LL : Int)) := (World.cell?_of_block (a := ⟨d, 3, none⟩) hbd2).trans (HVC.out 3)
               have b1 : W5.frozen? ⟨d, 1, none⟩ = false := (World.frozen?_of_block (a := ⟨d, 1, none⟩) hbd2).trans (HVF.out 1)
               have b2 : W5.frozen? ⟨d, 2, none⟩ = false := (World.frozen?_of_block (a := ⟨d, 2, none⟩) hbd2).trans (HVF.out 2)
               have b3 : W5.frozen? ⟨d, 3, none⟩ = false := (World.frozen?_of_block (a := ⟨d, 3, none⟩) hbd2).trans (HVF.out 3)
               have HG := Lib.hid (HA1.out.grow hg5 g5 _ c5 o x h5 HFIT.out hg5' hg5l)
               have HSZ : Hid (W.heap.size ≤ (W.alloc (.cells #[.int .i64 (o : Int), .string x] 80)).heap.size) := Lib.hid (by rw [World.size_alloc]; omega)
               clear hbd hbd2 h5 hg5 hg5' hg5l hb5)
            | fail)
          go_ret
          have hg := HG.out.1
          have h3 := hg.put 3 (.int .i64 (m : Int)) { s with pend := s.pend ++ [(o, x)], vis := patch s.vis o x.data.toList, left := m } _ rfl rfl hg.fit hg.pp hg.np hg.fp hg.app
          refine ⟨rfl, ⟨?F2, ?v2, ?x11, ?x21⟩, ((Turns.alloc W _).trans HG.out.2).then h3.2 (fun k hk => by
              rcases hk with hk | hk
              · exact .inl hk
              · exact .inr (Nat.le_trans HSZ.out hk.1))⟩
          case x11 =>
            unfold DS.write DS.used
            dsimp only
            rw [if_neg (by rw [HLL.out, HM.out]; omega)]
            have := h3.1
            rw [show s.left - 1 = m by rw [HLL.out, HM.out]; omega, show decide (m = 0) = s.off by rw [HBO.out]; simp [HM0.out]]
            exact this
          case x21 =>
            intro k hk
            rcases hk with hk | hk
            · exact .inl hk
            · exact .inr (Nat.le_trans HSZ.out hk.1)
    · rw [if_neg hin, if_neg hin]
      by_cases b1 : off < 0
      · have e1 : decide (off < 0) = true := by simp [b1]
        clear hin
        go_enter Try.func30, Try.ntmps30
        go_wp2_with fail
        go_ret
        exact ⟨rfl, ⟨F, _, H0.out, fun k hk => .inl hk⟩, Turns.refl _ _⟩
      · obtain ⟨o, rfl⟩ : ∃ o : Nat, off = o := ⟨off.toNat, by omega⟩
        have e1 : decide ((o : Int) < 0) = false := by simp
        by_cases b2 : n < o
        · have e2 : decide (n < o) = true := by simp [b2]
          clear hin b1
          go_enter Try.func30, Try.ntmps30
          go_wp2_with fail
          go_ret
          exact ⟨rfl, ⟨F, _, H0.out, fun k hk => .inl hk⟩, Turns.refl _ _⟩
        · have b3 : n - o < x.size := by
            rcases Nat.lt_or_ge (n - o) x.size with q | q
            · exact q
            · exfalso; apply hin; exact insB_fit (by omega)
          have w1 : IntKind.i64.wrap ((n : Int) - (o : Int)) = ((n - o : Nat) : Int) := by rw [IntKind.wrap_i64]; omega
          have e2 : decide (n < o) = false := by simp; omega
          have e3 : decide (n - o < x.size) = true := by simp [b3]
          clear hin b1
          go_enter Try.func30, Try.ntmps30
          go_wp2_with fail
          go_ret
          exact ⟨rfl, ⟨F, _, H0.out, fun k hk => .inl hk⟩, Turns.refl _ _⟩
  · rw [if_pos rfl, if_pos rfl]
    go_enter Try.func30, Try.ntmps30
    go_wp2_with fail
    go_ret
    exact ⟨rfl, ⟨F, _, H0.out, fun k hk => .inl hk⟩, Turns.refl _ _⟩

end Go.Proofs.Ytmpjoncemgangaa
