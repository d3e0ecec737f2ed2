/-
  The reference's Crash. Conditions: each contract's own.
-/
import Derived.Test.YtmpjoncemgangaaDiskW
namespace Go.Proofs.Ytmpjoncemgangaa
open Go Go.RowKit Go.Shelf Go.Sort

/-- The survivors' writes, as a list. -/
def selP (pend : List (Nat × ByteArray)) (ord : List Nat) : List (Nat × ByteArray) := ord.filterMap fun i => pend[i]?
/-- They are applied, the last one torn. -/
def crashL (torn : Int) : List (Nat × ByteArray) → List UInt8 → List UInt8
  | [], d => d
  | x :: r, d => crashL torn r (patch d x.1 (if r = [] then tornS torn x.2 else x.2).data.toList)
theorem selP_nil {pend : List (Nat × ByteArray)} {ord : List Nat} (h : ∀ i ∈ ord, i < pend.length) : selP pend ord = [] ↔ ord = [] := by
  cases ord with
  | nil => simp [selP]
  | cons i r =>
    have hi := h i (List.mem_cons_self ..)
    unfold selP
    rw [List.filterMap_cons, List.getElem?_eq_getElem hi]
    simp
theorem crashF_L {pend : List (Nat × ByteArray)} {torn : Int} : ∀ {ord : List Nat} {d : List UInt8}, (∀ i ∈ ord, i < pend.length) → crashF pend torn ord d = crashL torn (selP pend ord) d
  | [], _, _ => rfl
  | i :: r, d, h => by
    have hi := h i (List.mem_cons_self ..)
    have hr : ∀ j ∈ r, j < pend.length := fun j hj => h j (List.mem_cons_of_mem _ hj)
    rw [crashF, crashF_L hr]
    have e : selP pend (i :: r) = pend[i] :: selP pend r := by unfold selP; rw [List.filterMap_cons, List.getElem?_eq_getElem hi]
    rw [e, crashL, List.getElem?_eq_getElem hi]
    dsimp only
    by_cases c : r = []
    · rw [if_pos c, if_pos ((selP_nil hr).2 c)]
    · rw [if_neg c, if_neg (fun q => c ((selP_nil hr).1 q))]
theorem ordS_lt {keep : List Int} {m : Nat} : ∀ i ∈ ordS keep m, i < m := fun i hi => by unfold ordS at hi; have := (List.mem_filter.1 hi).1; simpa using this
theorem ordS_succ (keep : List Int) (k : Nat) : ordS keep (k + 1) = ordS keep k ++ (if decide ((k : Int) ∈ keep) = true then [k] else []) := by
  unfold ordS
  rw [List.range_succ, List.filter_append]
  congr 1
  cases h : decide ((k : Int) ∈ keep) <;> simp [h]
theorem selP_succ {pend : List (Nat × ByteArray)} {keep : List Int} {k : Nat} {x : Nat × ByteArray} (hx : pend[k]? = some x) : selP pend (ordS keep (k + 1)) = selP pend (ordS keep k) ++ (if decide ((k : Int) ∈ keep) = true then [x] else []) := by
  rw [ordS_succ]
  unfold selP
  rw [List.filterMap_append]
  congr 1
  split
  · rw [List.filterMap_cons, hx]; rfl
  · rfl
theorem selP_length (pend : List (Nat × ByteArray)) (keep : List Int) (k : Nat) : (selP pend (ordS keep k)).length ≤ k := by
  have h1 : (selP pend (ordS keep k)).length ≤ (ordS keep k).length := List.length_filterMap_le _ _
  have h2 : (ordS keep k).length ≤ k := by unfold ordS; exact Nat.le_trans (List.length_filter_le _ _) (by simp)
  omega
theorem selP_mem {pend : List (Nat × ByteArray)} {ord : List Nat} {x : Nat × ByteArray} (h : x ∈ selP pend ord) : x ∈ pend := by
  unfold selP at h
  obtain ⟨i, _, hi⟩ := List.mem_filterMap.1 h
  exact List.mem_of_getElem? hi
theorem crashL_step {torn : Int} {l : List (Nat × ByteArray)} {k m o : Nat} {bs : ByteArray} {dk X : List UInt8} (hm : l.length = m) (h : crashL torn (l.drop k) dk = X) (hx : l[k]? = some (o, bs)) :
    crashL torn (l.drop (k + 1)) (patch dk o (if k + 1 = m then tornS torn bs else bs).data.toList) = X := by
  obtain ⟨hk, e⟩ := List.getElem?_eq_some_iff.1 hx
  rw [List.drop_eq_getElem_cons hk, e, crashL] at h
  rw [← h]
  by_cases c : k + 1 = m
  · rw [if_pos c, if_pos (List.drop_eq_nil_iff.2 (by omega))]
  · rw [if_neg c, if_neg (fun q => by have := List.drop_eq_nil_iff.1 q; omega)]

/-- The durable bytes are written. -/
theorem RefD.wrote {W W' : World} {F : Nat → Prop} {d g c n : Nat} {vp : Value} {s : DS} (h : RefD W F d g c vp n s) (m : List UInt8) (hm : m.length = n) (hr : RAt W' g bv m) (t : Turns (fun k => k = g) W W') : RefD W' F d g c vp n { s with dur := m, vis := applyP s.pend m } :=
  ⟨(t.block d (h.lf d h.fd.1) h.ne).trans h.hd, hr, hm, h.pp.keep fun q hq => t.block q (h.pp.lt q hq).2 (h.np q hq).2, h.fit, h.ne, h.np, h.fd, h.fp, fun k hk => Nat.lt_of_lt_of_le (h.lf k hk) t.size, h.n64, rfl⟩

set_option maxRecDepth 100000 in
set_option maxHeartbeats 16000000 in
theorem refcrashD_walk {W : World} {F : Nat → Prop} {d g c n : Nat} {vp : Value} {s : DS} (h : RefD W F d g c vp n s) (A : Option Addr) (keep : List Int) (kn cap : Nat) (hkn : keep.length = kn) (hk : kn ≤ 1000000) (hA : LAt W W.heap.size A iv keep) (torn : Int) (hp : s.pend.length ≤ 1000000) :
    Calls Try.prog 33 #[.pointer (some ⟨d, 0, none⟩), .slice A kn cap, .int .i64 torn] W fun e W' => e = .returned (.tuple #[]) ∧ (∃ vp', RefD W' F d g c vp' n (s.crash keep torn)) ∧ Turns F W W' := by
  obtain ⟨vA, vc, hvp, -, -⟩ := h.pp.slice
  subst hvp
  have H0 := Lib.hid h
  obtain ⟨M, hM⟩ : ∃ M, s.pend.length = M := ⟨_, rfl⟩
  have HM := Lib.hid hM
  have HKN := Lib.hid hkn
  have HA := Lib.hid hA
  rw [hM] at hp
  clear h hkn hA
  go_enter Try.func33, Try.ntmps33
  go_wp2_with fail
  go_loopw [6, 7] (fun u v wr => ∃ (k m : Nat) (oA : Option Addr) (oc : Nat), k ≤ M ∧ v = .int .i64 (k : Int) ∧ u = .slice oA m oc ∧ m ≤ k ∧ OL wr W.heap.size 80 2 wf (.slice oA m oc) (selP s.pend (ordS keep k)) ∧ Below W.heap.size W wr) (fun _ v _ => M - (intOf v).toNat)
  case atStart => exact ⟨0, 0, none, 0, by omega, rfl, rfl, by omega, OL.nil, Below.refl _ _⟩
  case round =>
    obtain ⟨k, m, oA, oc, hkM, rfl, rfl, hmk, ho, hb⟩ := hrel
    have HO := Lib.hid ho
    have HB := Lib.hid hb
    have HD := Lib.hid (H0.out.keep (Turns.of_below (Z := fun _ => False) hb) (fun _ _ q => q))
    have HLEN := Lib.hid ho.len.1
    clear ho hb
    have c1 : wr.cell? ⟨d, 1, none⟩ = some (.slice vA M vc) := by rw [HD.out.cell 1, hM]; rfl
    by_cases hlt : k < M
    · have d1 : decide ((k : Int) < (M : Int)) = true := by simp [hlt]
      have hkl : k < s.pend.length := by rw [hM]; exact hlt
      obtain ⟨x, hx⟩ : ∃ x, s.pend[k]'hkl = x := ⟨_, rfl⟩
      have hxq : s.pend[k]? = some x := by rw [List.getElem?_eq_getElem hkl, hx]
      obtain ⟨o, bs⟩ := x
      have hpp := HD.out.pp
      obtain ⟨pg, c2, hpe, -, -, -, -⟩ := hpp.form (by omega)
      obtain rfl : vA = some ⟨pg, 0, none⟩ := by injection hpe
      obtain ⟨q1, q2⟩ := hpp.get2 hxq
      dsimp only at q1 q2
      have HSEL := Lib.hid (selP_succ (keep := keep) hxq)
      have y1 : (0 : Int) ≤ (k : Int) := by omega
      have y2 : (k : Int) < (M : Int) := by omega
      have w2 : IntKind.i64.wrap ((k : Int) + 1) = ((k + 1 : Nat) : Int) := by rw [IntKind.wrap_i64]; omega
      have HH := Lib.hid (has_walk wr A keep kn cap (k : Int) HKN.out (by omega) ((HA.out.below HB.out).more HB.out.size))
      obtain ⟨kb, hkb⟩ : ∃ kb, decide ((k : Int) ∈ keep) = kb := ⟨_, rfl⟩
      rw [hkb] at HH HSEL
      clear hkl hx hxq hpp hpe hkb
      cases kb
      · go_wp2_with (first | (go_at_call 43; refine HH.out.mono ?_; rintro e W2 ⟨rfl, rfl⟩) | fail)
        exact ⟨⟨k + 1, m, oA, oc, by omega, rfl, rfl, by omega, by rw [HSEL.out, if_neg (by simp), List.append_nil]; exact HO.out, HB.out⟩, by simp [intOf]; omega⟩
      · have ho := HO.out
        have hbs := HB.out.size
        go_wp2_with (first
          | (go_at_call 43; refine HH.out.mono ?_; rintro e W2 ⟨rfl, rfl⟩)
          | (at_builtin
             go_must (refine wpList_app rfl (.tmp 22) (.tmp 30) 41 rfl elemC _ (selP s.pend (ordS keep k)) m HLEN.out.symm rfl (ho.alloc _) (o, bs) _ #[.int .i64 (o : Int), .string bs] rfl ?hc rfl rfl (fun u hu => by simp [wf] at hu; rcases hu with rfl | rfl <;> rfl) (by have := HLEN.out; unfold maxLen; omega) (by have := HLEN.out; omega) (by simp; omega) ?_)
             (case hc => exact World.alloc_heap_new _ _)
             intro g5 c5 W5 h5 hg5 hg5' hg5l hb5
             have HQ := Lib.hid (And.intro h5 hb5)
             clear h5 hg5 hg5' hg5l hb5)
          | fail)
        exact ⟨⟨k + 1, m + 1, some ⟨g5, 0, none⟩, c5, by omega, rfl, rfl, by omega, by rw [HSEL.out, if_pos trivial]; exact HQ.out.1, (HB.out.alloc HB.out.size _).trans (HQ.out.2.mono (Nat.le_refl _))⟩, by simp [intOf]; omega⟩
    · obtain rfl : M = k := by omega
      have d1 : decide ((M : Int) < (M : Int)) = false := by simp
      clear hlt hkM
      have hwr : RefD wr F d g c (.slice vA s.pend.length vc) n { s with dur := s.dur, vis := applyP s.pend s.dur } := by rw [← H0.out.app]; exact HD.out
      have HWR := Lib.hid hwr
      have HTR := Lib.hid (Turns.of_below (Z := F) HB.out)
      obtain ⟨L, hL⟩ : ∃ L, selP s.pend (ordS keep M) = L := ⟨_, rfl⟩
      rw [hL] at HO HLEN
      have HLM : Hid (∀ y ∈ L, y ∈ s.pend) := Lib.hid (fun y hy => by rw [← hL] at hy; exact selP_mem hy)
      have HLL := Lib.hid hL
      clear hwr hL
      go_wp2_with fail
      clear c1 d1
      obtain ⟨wo, rfl⟩ : ∃ wo : World, wo = wr := ⟨_, rfl⟩
      go_loopw [8, 9] (fun v _ wq => ∃ (j : Nat) (dk : List UInt8), j ≤ m ∧ v = .int .i64 (j : Int) ∧ RefD wq F d g c (.slice vA s.pend.length vc) n { s with dur := dk, vis := applyP s.pend dk } ∧ OL wq W.heap.size 80 2 wf (.slice oA m oc) L ∧ Hid (crashL torn (L.drop j) dk = crashL torn L s.dur) ∧ Turns F W wq) (fun v _ _ => m - (intOf v).toNat)
      case atStart => exact ⟨0, s.dur, by omega, rfl, HWR.out, HO.out, Lib.hid rfl, HTR.out⟩
      case round =>
        obtain ⟨j, dk, hjm, rfl, hD, ho, HF, ht⟩ := hrel
        have HDq := Lib.hid hD
        have HOq := Lib.hid ho
        have HTq := Lib.hid ht
        clear hD ho ht HWR HTR HO
        by_cases hlt : j < m
        · have d1 : decide ((j : Int) < (m : Int)) = true := by simp [hlt]
          have hjl : j < L.length := by rw [← HLEN.out]; exact hlt
          obtain ⟨x, hx⟩ : ∃ x, L[j]'hjl = x := ⟨_, rfl⟩
          have hxq : L[j]? = some x := by rw [List.getElem?_eq_getElem hjl, hx]
          have hfit := H0.out.fit x (HLM.out x (by rw [← hx]; exact List.getElem_mem hjl))
          obtain ⟨o, bs⟩ := x
          obtain ⟨lg, c2, hpe, hlb, hll, -, -⟩ := HOq.out.form (by omega)
          obtain rfl : oA = some ⟨lg, 0, none⟩ := by injection hpe
          obtain ⟨q1, q2⟩ := HOq.out.get2 hxq
          dsimp only at hfit q1 q2
          have c0 : wr.cell? ⟨d, 0, none⟩ = some (.slice (some ⟨g, 0, none⟩) n c) := HDq.out.cell 0
          have HFIT := Lib.hid hfit
          have HXQ := Lib.hid hxq
          have hst := crashL_step HLEN.out.symm HF.out hxq
          obtain ⟨q, hq⟩ : ∃ q, m = q + 1 := ⟨m - 1, by omega⟩
          have y1 : (0 : Int) ≤ (j : Int) := by omega
          have y2 : (j : Int) < (m : Int) := by omega
          have w2 : IntKind.i64.wrap ((j : Int) + 1) = ((j + 1 : Nat) : Int) := by rw [IntKind.wrap_i64]; omega
          have w3 : IntKind.i64.wrap ((m : Int) - 1) = (q : Int) := by rw [IntKind.wrap_i64]; omega
          obtain ⟨y, hy⟩ : ∃ y, (if j + 1 = m then tornS torn bs else bs) = y := ⟨_, rfl⟩
          have hys : y.size ≤ bs.size := by rw [← hy]; split; exact tornS_le _ _; exact Nat.le_refl _
          have hcase : (j ≠ q ∧ y = bs) ∨ (j = q ∧ torn < 0 ∧ y = bs) ∨ (j = q ∧ 0 ≤ torn ∧ torn < bs.size ∧ y = bs.extract 0 torn.toNat) ∨ (j = q ∧ (bs.size : Int) ≤ torn ∧ y = bs) := by
            by_cases c1 : j + 1 = m
            · rw [if_pos c1] at hy
              unfold tornS at hy
              by_cases c2 : 0 ≤ torn
              · rw [if_pos c2] at hy
                by_cases c3 : torn < bs.size
                · rw [Nat.min_eq_left (by omega)] at hy
                  exact .inr (.inr (.inl ⟨by omega, c2, c3, hy.symm⟩))
                · rw [Nat.min_eq_right (by omega)] at hy
                  exact .inr (.inr (.inr ⟨by omega, by omega, by rw [← hy]; simp⟩))
              · rw [if_neg c2] at hy
                exact .inr (.inl ⟨by omega, by omega, hy.symm⟩)
            · rw [if_neg c1] at hy
              exact .inl ⟨by omega, hy.symm⟩
          rw [hy] at hst
          have HST := Lib.hid hst
          have HYS := Lib.hid hys
          have HON := Lib.hid (applyC_walk (wr.drewN 1) g n c o dk y (HDq.out.rd.drewN 1) HDq.out.ld (by omega) HDq.out.n64)
          have HS0 : Hid (wr.cell? ⟨d, 0, none⟩ = some (.slice (some ⟨g, 0, none⟩) n c) ∧ wr.cell? ⟨lg, j * 2, none⟩ = some (.int .i64 (o : Int))) := Lib.hid ⟨c0, q1⟩
          have HSN : Hid (∀ W2, Turns (fun i => i = g) (wr.drewN 1) W2 → W2.cell? ⟨d, 0, none⟩ = some (.slice (some ⟨g, 0, none⟩) n c) ∧ W2.cell? ⟨lg, j * 2, none⟩ = some (.int .i64 (o : Int))) := Lib.hid (fun W2 ht => by
            have hg := H0.out.lf g H0.out.fd.2
            have b1 := ht.block d (HDq.out.lf d HDq.out.fd.1) HDq.out.ne
            have b2 := ht.block lg hll (fun e => by omega)
            exact ⟨(World.cell?_of_block (a := ⟨d, 0, none⟩) b1).trans c0, (World.cell?_of_block (a := ⟨lg, j * 2, none⟩) b2).trans q1⟩)
          clear hjl hx hxq hfit hpe hy hys hst hq
          rcases hcase with ⟨e1, e2⟩ | ⟨e1, e2, e3⟩ | ⟨e1, e2, e3, e4⟩ | ⟨e1, e2, e3⟩
          · have b1 : ((j : Int) == (q : Int)) = false := by simp; omega
            subst e2
            clear e1
            go_wp2_with fail
            go_region_held3 (fun w' => w'.cell? ⟨d, 0, none⟩ = some (.slice (some ⟨g, 0, none⟩) n c) ∧ w'.cell? ⟨lg, j * 2, none⟩ = some (.int .i64 (o : Int))) (first | exact HS0.out | exact HSN.out _ (by assumption) | fail) (first | (go_at_call 44; refine HON.out.mono ?_; rintro e W2 ⟨rfl, hr2, ht2⟩) | fail)
            all_goals go_wp2_with fail
            all_goals exact ⟨⟨j + 1, _, by omega, rfl, (HDq.out.drewN 1).wrote _ (by rw [patch_length (by have h1 : dk.length = n := HDq.out.ld; have h2 := HFIT.out; have h3 := HYS.out; simp at h3 ⊢; omega)]; exact HDq.out.ld) hr2 ht2, (HOq.out.drewN 1).turns ht2 (fun i e q => by have h1 := (HOq.out.lt i e).1; have h2 := H0.out.lf g H0.out.fd.2; omega), HST, HTq.out.trans ((Turns.drew (Z := F) _).trans (ht2.mono (fun i e => by rw [e]; exact H0.out.fd.2)))⟩, by simp [intOf]; omega⟩
          · have b1 : ((j : Int) == (q : Int)) = true := by simp; omega
            have b2 : decide (0 ≤ torn) = false := by simp; omega
            subst e3
            clear e1
            go_wp2_with fail
            go_region_held3 (fun w' => w'.cell? ⟨d, 0, none⟩ = some (.slice (some ⟨g, 0, none⟩) n c) ∧ w'.cell? ⟨lg, j * 2, none⟩ = some (.int .i64 (o : Int))) (first | exact HS0.out | exact HSN.out _ (by assumption) | fail) (first | (go_at_call 44; refine HON.out.mono ?_; rintro e W2 ⟨rfl, hr2, ht2⟩) | fail)
            all_goals go_wp2_with fail
            all_goals exact ⟨⟨j + 1, _, by omega, rfl, (HDq.out.drewN 1).wrote _ (by rw [patch_length (by have h1 : dk.length = n := HDq.out.ld; have h2 := HFIT.out; have h3 := HYS.out; simp at h3 ⊢; omega)]; exact HDq.out.ld) hr2 ht2, (HOq.out.drewN 1).turns ht2 (fun i e q => by have h1 := (HOq.out.lt i e).1; have h2 := H0.out.lf g H0.out.fd.2; omega), HST, HTq.out.trans ((Turns.drew (Z := F) _).trans (ht2.mono (fun i e => by rw [e]; exact H0.out.fd.2)))⟩, by simp [intOf]; omega⟩
          · have b1 : ((j : Int) == (q : Int)) = true := by simp; omega
            obtain ⟨tn, rfl⟩ : ∃ tn : Nat, torn = tn := ⟨torn.toNat, by omega⟩
            have b2 : decide (0 ≤ (tn : Int)) = true := by simp
            have b3 : decide ((tn : Int) < (bs.size : Int)) = true := by simp; omega
            have b4 : decide (tn < bs.size) = true := by simp; omega
            have b5 : tn < bs.size := by omega
            have y5 : (0 : Int) ≤ (tn : Int) := by omega
            have y6 : (tn : Int) ≤ (bs.size : Int) := by omega
            rw [show ((tn : Int)).toNat = tn by omega] at e4
            subst e4
            clear e1
            go_wp2_with fail
            go_region_held3 (fun w' => w'.cell? ⟨d, 0, none⟩ = some (.slice (some ⟨g, 0, none⟩) n c) ∧ w'.cell? ⟨lg, j * 2, none⟩ = some (.int .i64 (o : Int))) (first | exact HS0.out | exact HSN.out _ (by assumption) | fail) (first | (go_at_call 44; refine HON.out.mono ?_; rintro e W2 ⟨rfl, hr2, ht2⟩) | fail)
            all_goals go_wp2_with fail
            all_goals exact ⟨⟨j + 1, _, by omega, rfl, (HDq.out.drewN 1).wrote _ (by rw [patch_length (by have h1 : dk.length = n := HDq.out.ld; have h2 := HFIT.out; have h3 := HYS.out; simp at h3 ⊢; omega)]; exact HDq.out.ld) hr2 ht2, (HOq.out.drewN 1).turns ht2 (fun i e q => by have h1 := (HOq.out.lt i e).1; have h2 := H0.out.lf g H0.out.fd.2; omega), HST, HTq.out.trans ((Turns.drew (Z := F) _).trans (ht2.mono (fun i e => by rw [e]; exact H0.out.fd.2)))⟩, by simp [intOf]; omega⟩
          · have b1 : ((j : Int) == (q : Int)) = true := by simp; omega
            obtain ⟨tn, rfl⟩ : ∃ tn : Nat, torn = tn := ⟨torn.toNat, by omega⟩
            have b2 : decide (0 ≤ (tn : Int)) = true := by simp
            have b3 : decide ((tn : Int) < (bs.size : Int)) = false := by simp; omega
            have b4 : decide (tn < bs.size) = false := by simp; omega
            have b5 : ¬ tn < bs.size := by omega
            subst e3
            clear e1
            go_wp2_with fail
            go_region_held3 (fun w' => w'.cell? ⟨d, 0, none⟩ = some (.slice (some ⟨g, 0, none⟩) n c) ∧ w'.cell? ⟨lg, j * 2, none⟩ = some (.int .i64 (o : Int))) (first | exact HS0.out | exact HSN.out _ (by assumption) | fail) (first | (go_at_call 44; refine HON.out.mono ?_; rintro e W2 ⟨rfl, hr2, ht2⟩) | fail)
            all_goals go_wp2_with fail
            all_goals exact ⟨⟨j + 1, _, by omega, rfl, (HDq.out.drewN 1).wrote _ (by rw [patch_length (by have h1 : dk.length = n := HDq.out.ld; have h2 := HFIT.out; have h3 := HYS.out; simp at h3 ⊢; omega)]; exact HDq.out.ld) hr2 ht2, (HOq.out.drewN 1).turns ht2 (fun i e q => by have h1 := (HOq.out.lt i e).1; have h2 := H0.out.lf g H0.out.fd.2; omega), HST, HTq.out.trans ((Turns.drew (Z := F) _).trans (ht2.mono (fun i e => by rw [e]; exact H0.out.fd.2)))⟩, by simp [intOf]; omega⟩
        · obtain rfl : m = j := by omega
          have d1 : decide ((m : Int) < (m : Int)) = false := by simp
          have hfin := HF.out
          rw [List.drop_of_length_le (by rw [← HLEN.out]; exact Nat.le_refl _), crashL] at hfin
          have hX : crashF s.pend torn (ordS keep s.pend.length) s.dur = dk := by
            rw [crashF_L ordS_lt, HM.out, HLL.out, hfin]
          have HX := Lib.hid hX
          clear hfin hX hlt hjm
          have a1 : wr.cell? ⟨d, 1, none⟩ = some (.slice vA s.pend.length vc) := HDq.out.cell 1
          have a2 : wr.cell? ⟨d, 2, none⟩ = some (.bool s.off) := HDq.out.cell 2
          have a3 : wr.cell? ⟨d, 3, none⟩ = some (.int .i64 (s.left : Int)) := HDq.out.cell 3
          have f1 := HDq.out.free 1
          have f2 := HDq.out.free 2
          have f3 := HDq.out.free 3
          have h1 := HDq.out.put 1 (.slice none 0 0) { off := s.off, left := s.left, dur := dk, vis := dk, pend := [] } (.slice none 0 0) rfl rfl (fun x hx => absurd hx (by simp)) OL.nil (fun q e => by cases e) (fun q e => by cases e) rfl
          have h2 := h1.1.put 2 (.bool false) { off := false, left := s.left, dur := dk, vis := dk, pend := [] } (.slice none 0 0) rfl rfl h1.1.fit OL.nil (fun q e => by cases e) (fun q e => by cases e) rfl
          have h3 := h2.1.put 3 (.int .i64 0) { off := false, left := 0, dur := dk, vis := dk, pend := [] } (.slice none 0 0) rfl rfl h1.1.fit OL.nil (fun q e => by cases e) (fun q e => by cases e) rfl
          have H3 := Lib.hid h3.1
          have HT3 := Lib.hid (HTq.out.trans ((h1.2.trans h2.2).trans h3.2))
          clear h1 h2 h3
          go_wp2_with fail
          go_end0
          refine ⟨rfl, ⟨.slice none 0 0, ?_⟩, HT3.out⟩
          unfold DS.crash
          rw [HX.out]
          exact H3.out

end Go.Proofs.Ytmpjoncemgangaa
