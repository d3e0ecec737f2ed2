/-
  JournalReopens returns true. Conditions: the package's variables hold what they hold.
-/
import Derived.Test.YtllmciiadceinaaDoorJourN
import Derived.Test.YtllmciiadceinaaDoorCAt
namespace Go.Proofs.YtllmciiadceinaaDoor
open Go Go.RowKit Go.Shelf Wr

/-- A group that is appended to a clean disk that is not cut leaves such a disk. -/
theorem clean_step {n : Nat} {s : DS} {t : TS} {L : List ByteArray} (hc : Clean n s t) (hg : Good n t) (hl : s.left = 0) (hs : longB L = false) :
    ∃ s' t' E, appE n s t false L = E ∧ appD n s t false L = s' ∧ appT n s t false L = t' ∧ appB n s t false L = false ∧ Clean n s' t' ∧ Good n t' ∧ s'.left = 0 := by
  by_cases hf : t.size + (outL t L).length ≤ n
  · rcases clean_append hc hg hs hf with ⟨h1, h2, h3, h4, h5, -, h7⟩ | ⟨-, -, -, -, h5⟩
    · exact ⟨_, _, _, h1, rfl, h4, h5, h2, h3, by omega⟩
    · omega
  · obtain ⟨h1, h2, h3, h4⟩ := app_full (s := s) hs (by omega : n < t.size + (outL t L).length)
    exact ⟨_, _, _, h1, h2, h3, h4, hc, hg, hl⟩
theorem cut1 {n : Nat} {s : DS} {t : TS} (hc : Clean n s t) (k : Nat) (hk : 0 < k) : Clean n (s.cut (k : Int)) t ∧ (s.cut (k : Int)).left = k ∧ (s.cut (k : Int)).pend = [] := by
  have e : s.cut (k : Int) = { s with off := false, left := k } := by
    unfold DS.cut
    rw [hc.off, if_neg (by decide), if_neg (by omega)]
    simp
    omega
  rw [e]
  exact ⟨⟨rfl, hc.pend, hc.dur, hc.vis⟩, rfl, hc.pend⟩
theorem recs_le {n : Nat} {t : TS} (h : Good n t) : t.recs.length ≤ n := by
  have h1 := (storeL_le zero32 t.recs h.ok).2
  have h2 := h.size
  have h3 := h.fit
  omega

set_option maxRecDepth 100000 in
set_option maxHeartbeats 16000000 in
theorem reopens_law (W : World) (a : Addr) (hK : KAt W) (hE : ErrAt W a) (N : Int) (hN1 : -9223372036854775808 ≤ N) (hN2 : N ≤ 9223372036854775807) (A : Option Addr) (l : List GR) (c : Nat) (hl : l.length ≤ 9223372036854775807) (hA : CAt W W.heap.size A 1 GR.cells l) (hok : ∀ y ∈ l, y.ok W) :
    Calls Tryd.prog 4 #[.int .i64 N, .slice A l.length c] W fun e W' => e = .returned (.bool true) ∧ Below W.heap.size W W' := by
  have HK := Lib.hid hK
  have HE := Lib.hid hE
  have HA := Lib.hid hA
  have HOK := Lib.hid hok
  have HSZ := Lib.hid (jsize_walk · N hN1 hN2)
  have hnr := sizeN_range N
  obtain ⟨n, hn⟩ : ∃ n, sizeN N = n := ⟨_, rfl⟩
  rw [hn] at HSZ hnr
  have HSN := Lib.hid (sane_walk W a hK hE)
  obtain ⟨Z, hZd⟩ : ∃ Z : Nat → Prop, Z = fun _ => False := ⟨_, rfl⟩
  have HZ : Hid (∀ k, ¬ Z k) := Lib.hid (by rw [hZd]; exact fun _ e => e)
  clear hK hE hA hn hok hZd
  go_enter Tryd.func4, Tryd.ntmps4
  go_wp2_with fail
  refine HSN.out.mono ?_
  rintro e W1 ⟨rfl, hb1⟩
  have hu1 : Turns (fun _ => False) W W1 := Turns.of_below hb1
  have HU1 := Lib.hid hu1
  clear hb1 hu1
  go_wp2_with (first | (go_at_call 7; refine (HSZ.out _).mono ?_; rintro e w1 ⟨rfl, rfl⟩) | fail)
  refine (new_D (W0 := W) (Z := Z) HU1.out (fun k e => (HZ.out k e).elim) n hnr.1 (by omega)).mono ?_
  rintro e W2 ⟨⟨d, rfl, h⟩, -⟩
  have HD := Lib.hid h
  clear h
  go_wp2_with fail
  refine (open_D HD.out (fun k e => (HZ.out k e).elim) a HK.out HE.out (by rw [show (DS.fresh n).pend = [] from rfl]; decide) (by rw [show (DS.fresh n).left = 0 from rfl]; decide)).mono ?_
  obtain ⟨he, ho⟩ := sane_open n
  rintro e W3 ⟨hr, -⟩
  unfold OpenD at hr
  rw [he, ho, (fresh_clean n).load Good.zero] at hr
  rcases hr with ⟨-, j, t, rfl, ht, hj⟩ | ⟨hn, -⟩
  case inr => exact absurd rfl hn
  cases ht
  have HJ := Lib.hid hj
  have HC := Lib.hid (And.intro (fresh_clean n) (And.intro (Good.zero (n := n)) (show (DS.fresh n).left = 0 from rfl)))
  clear hj he ho HD
  go_wp2_with fail
  go_loopw [10] (fun v10 wr => ∃ (k : Nat) (s : DS) (t : TS), k ≤ l.length ∧ k ≤ 8 ∧ v10 = .int .i64 k ∧ Hid (JL W Z wr n d s j t false) ∧ Hid (Clean n s t ∧ Good n t ∧ s.left = 0)) (fun v _ => l.length - (intOf v).toNat)
  case atStart => exact ⟨0, _, _, by omega, by omega, rfl, HJ, HC⟩
  case round =>
    obtain ⟨k, s, t, hk, hk8, rfl, hJ, hC⟩ := hrel
    clear HJ HC
    by_cases hlt : k < l.length
    · by_cases hlt2 : k < 8
      · have d1 : decide ((k : Int) < (l.length : Int)) = true := by simp [hlt]
        obtain ⟨p, rfl, hpb, hpc⟩ := HA.out.get hlt
        have hyo := HOK.out _ (List.getElem_mem hlt)
        obtain ⟨y, hy⟩ : ∃ y, l[k] = y := ⟨_, rfl⟩
        rw [hy] at hpc hyo
        obtain ⟨yA, yl, yc⟩ := y
        obtain ⟨o1, o2, o3, o4⟩ := hyo
        dsimp only at o1 o2 o3 o4
        unfold maxLen at o2
        have hcell : wr.cell? (p.add k) = some (.slice yA yl.length yc) := by
          rw [hJ.out.below.cell (p := p.add k) (by rw [addr_add_block]; exact hpb)]
          have := hpc 0 (.slice yA yl.length yc) rfl
          rw [Nat.mul_one, Nat.add_zero] at this
          exact this
        have HF := Lib.hid (few_walk yA yl yc (by omega) wr ((o3.below hJ.out.below).more hJ.out.below.size))
        obtain ⟨s', t', E, f1, f2, f3, f4, f5, f6, f7⟩ := clean_step (L := fewS yl) hC.out.1 hC.out.2.1 hC.out.2.2 (fewS_short yl)
        have HF5 := Lib.hid (And.intro f5 (And.intro f6 f7))
        have hfl := fewS_length yl
        obtain ⟨L, hL⟩ : ∃ L, fewS yl = L := ⟨_, rfl⟩
        rw [hL] at HF f1 f2 f3 f4 hfl
        have hpe := hC.out.1.pend
        have hle := hC.out.2.2
        have HAP : Hid (∀ w5 A5 c5, OLs w5 wr.heap.size (.slice A5 L.length c5) L → Below wr.heap.size wr w5 → Calls Tryd.prog 11 #[.pointer (some ⟨j, 0, none⟩), .slice A5 L.length c5] w5 fun e W' => e = .returned (.int .i64 E) ∧ JL W Z W' n d s' j t' false) := Lib.hid (fun w5 A5 c5 h5 hb5 => by
          have := append_J (hJ.out.quiet (Turns.of_below hb5)) (fun k e => (HZ.out k e).elim) A5 L L.length c5 rfl h5.lat (by omega) HK.out (by rw [hpe]; decide) (by rw [hle]; decide) hC.out.2.1
          rw [f1, f2, f3, f4] at this
          exact this.mono fun e W' q => ⟨q.1, q.2.1⟩)
        have z1 : (0 : Int) ≤ (k : Int) := by omega
        have z2 : (k : Int) < (l.length : Int) := by omega
        clear f1 f2 f3 f4 f5 f6 f7 hpe hle hL hy hpc o1 o2 o3 o4 hpb
        go_wp2_with (first | (go_at_call 9; refine HF.out.mono ?_; rintro e w5 ⟨⟨v5, rfl, ho5⟩, hb5⟩; obtain ⟨A5, c5, rfl, -, -⟩ := ho5.slice) | (go_at_call 11; refine (HAP.out _ _ _ ho5 hb5).mono ?_; rintro e w6 ⟨rfl, hj6⟩) | fail)
        exact ⟨⟨k + 1, s', t', by omega, by omega, by go_num, Lib.hid hj6, HF5⟩, by simp only [intOf]; omega⟩
      · have d2 : decide ((k : Int) < 8) = false := by simp; omega
        have d1 : decide ((k : Int) < (l.length : Int)) = true := by simp [hlt]
        clear hlt2
        obtain ⟨h1, h2, h3⟩ := cut1 hC.out.1 1 (by omega)
        rw [show ((1 : Nat) : Int) = 1 from rfl] at h1 h2 h3
        obtain ⟨o1, o2⟩ := h1.open hC.out.2.1
        have HC2 := Lib.hid (And.intro h1 (And.intro h2 (And.intro h3 (And.intro o1 o2))))
        clear h1 h2 h3 o1 o2
        go_wp2_with fail
        refine (cut_J hJ.out 1).mono ?_
        rintro e W5 ⟨rfl, hj5, -⟩
        have HJ5 := Lib.hid hj5
        obtain ⟨s5, hs5⟩ : ∃ s5, s.cut 1 = s5 := ⟨_, rfl⟩
        rw [hs5] at HC2 HJ5
        clear hj5 hs5
        go_wp2_with fail
        have q2 := HC2.out.2.1
        have q3 := HC2.out.2.2.1
        refine (open_J HJ5.out (fun k e => (HZ.out k e).elim) a HK.out HE.out (by rw [q3]; decide) (by rw [q2]; decide)).mono ?_
        rintro e W6 ⟨hr, hold, -⟩
        unfold OpenD at hr
        rw [HC2.out.2.2.2.1, HC2.out.2.2.2.2, HC2.out.1.load hC.out.2.1] at hr
        rcases hr with ⟨-, j6, t6, rfl, ht6, hj6⟩ | ⟨hn, -⟩
        case inr => exact absurd rfl hn
        cases ht6
        have HJ6 := Lib.hid hj6
        have HO6 := Lib.hid hold
        have hrl := recs_le hC.out.2.1
        have HRL := Lib.hid hrl
        have hfit := hC.out.2.1.fit
        clear hj6 hold HJ5 q2 q3
        go_wp2_with fail
        refine (records_O HO6.out (by omega)).mono ?_
        rintro e W7 ⟨⟨v7, rfl, ho7⟩, hb7⟩
        obtain ⟨A7, c7, rfl, -, -⟩ := ho7.slice
        have HL7 := Lib.hid ho7
        have HJ7 := Lib.hid (HJ6.out.quiet (Turns.of_below hb7))
        have HO7 := Lib.hid (HO6.out.quiet (Turns.of_below hb7))
        clear ho7 hb7 HJ6 HO6
        go_wp2_with fail
        refine (records_O HJ7.out.old (by omega)).mono ?_
        rintro e W8 ⟨⟨v8, rfl, ho8⟩, hb8⟩
        obtain ⟨A8, c8, rfl, -, -⟩ := ho8.slice
        have hl7 := (HL7.out.below hb8 (Nat.le_refl _)).lat
        have HSM := Lib.hid (same_walk A7 A8 t.recs t.recs t.recs.length t.recs.length c7 c8 rfl rfl (by omega) W8 hl7 ho8.lat)
        rw [show decide (t.recs = t.recs) = true by simp] at HSM
        have HJ8 := Lib.hid (HJ7.out.quiet (Turns.of_below hb8))
        have HO8 := Lib.hid (HO7.out.quiet (Turns.of_below hb8))
        clear ho8 hb8 HJ7 HO7 hl7
        go_wp2_with fail
        refine HSM.out.mono ?_
        rintro e W9 ⟨rfl, hb9⟩
        have HJ9 := Lib.hid (HJ8.out.quiet (Turns.of_below hb9))
        have HO9 := Lib.hid (HO8.out.quiet (Turns.of_below hb9))
        clear hb9 HJ8 HO8 HSM
        go_wp2_with fail
        refine (room_O HJ9.out.dl HO9.out hfit).mono ?_
        rintro e W10 ⟨rfl, k10, rfl⟩
        have HJ10 := Lib.hid (HJ9.out.quiet (Turns.drewN W9 k10))
        clear HJ9 HO9
        go_wp2_with fail
        refine (room_J HJ10.out hfit).mono ?_
        rintro e W11 ⟨rfl, hj11, -⟩
        have HJ11 := Lib.hid hj11
        have HPN := Lib.hid (pending_D hj11.dl)
        rw [HC2.out.2.2.1] at HPN
        rw [show ((([] : List (Nat × ByteArray)).length : Nat) : Int) = 0 from rfl] at HPN
        have HCT := Lib.hid (content_D hj11.dl)
        have hrd : (s5.read 0 n).1.size = n := by
          have hv : s5.vis.length = n := by rw [HC2.out.1.vis]; exact cont_length hC.out.2.1
          unfold DS.read
          rw [HC2.out.1.off, if_neg (by decide), hv, if_pos (by have := insB_yes (m := n) (k := 0) (x := n) (by omega); exact this)]
          dsimp only
          rw [ba_mk_size, List.length_take, List.length_drop, hv]
          omega
        obtain ⟨X, hX⟩ : ∃ X, (s5.read 0 n).1 = X := ⟨_, rfl⟩
        rw [hX] at HCT hrd
        obtain ⟨rm, hrm⟩ : ∃ rm, n - t.size = rm := ⟨_, rfl⟩
        rw [hrm]
        clear hX hrm hj11 HJ10
        go_wp2_with (first | (go_at_call 17; refine HPN.out.mono ?_; rintro e w12 ⟨rfl, rfl⟩) | (go_at_call 18; refine HCT.out.mono ?_; rintro e w13 ⟨rfl, rfl⟩) | (go_at_call 7; refine (HSZ.out _).mono ?_; rintro e w14 ⟨rfl, rfl⟩) | fail)
        go_ret
        exact ⟨rfl, HJ11.out.below⟩
    · have d1 : decide ((k : Int) < (l.length : Int)) = false := by simp; omega
      obtain rfl : k = l.length := by omega
      clear hlt hk8
      obtain ⟨h1, h2, h3⟩ := cut1 hC.out.1 1 (by omega)
      rw [show ((1 : Nat) : Int) = 1 from rfl] at h1 h2 h3
      obtain ⟨o1, o2⟩ := h1.open hC.out.2.1
      have HC2 := Lib.hid (And.intro h1 (And.intro h2 (And.intro h3 (And.intro o1 o2))))
      clear h1 h2 h3 o1 o2
      go_wp2_with fail
      refine (cut_J hJ.out 1).mono ?_
      rintro e W5 ⟨rfl, hj5, -⟩
      have HJ5 := Lib.hid hj5
      obtain ⟨s5, hs5⟩ : ∃ s5, s.cut 1 = s5 := ⟨_, rfl⟩
      rw [hs5] at HC2 HJ5
      clear hj5 hs5
      go_wp2_with fail
      have q2 := HC2.out.2.1
      have q3 := HC2.out.2.2.1
      refine (open_J HJ5.out (fun k e => (HZ.out k e).elim) a HK.out HE.out (by rw [q3]; decide) (by rw [q2]; decide)).mono ?_
      rintro e W6 ⟨hr, hold, -⟩
      unfold OpenD at hr
      rw [HC2.out.2.2.2.1, HC2.out.2.2.2.2, HC2.out.1.load hC.out.2.1] at hr
      rcases hr with ⟨-, j6, t6, rfl, ht6, hj6⟩ | ⟨hn, -⟩
      case inr => exact absurd rfl hn
      cases ht6
      have HJ6 := Lib.hid hj6
      have HO6 := Lib.hid hold
      have hrl := recs_le hC.out.2.1
      have HRL := Lib.hid hrl
      have hfit := hC.out.2.1.fit
      clear hj6 hold HJ5 q2 q3
      go_wp2_with fail
      refine (records_O HO6.out (by omega)).mono ?_
      rintro e W7 ⟨⟨v7, rfl, ho7⟩, hb7⟩
      obtain ⟨A7, c7, rfl, -, -⟩ := ho7.slice
      have HL7 := Lib.hid ho7
      have HJ7 := Lib.hid (HJ6.out.quiet (Turns.of_below hb7))
      have HO7 := Lib.hid (HO6.out.quiet (Turns.of_below hb7))
      clear ho7 hb7 HJ6 HO6
      go_wp2_with fail
      refine (records_O HJ7.out.old (by omega)).mono ?_
      rintro e W8 ⟨⟨v8, rfl, ho8⟩, hb8⟩
      obtain ⟨A8, c8, rfl, -, -⟩ := ho8.slice
      have hl7 := (HL7.out.below hb8 (Nat.le_refl _)).lat
      have HSM := Lib.hid (same_walk A7 A8 t.recs t.recs t.recs.length t.recs.length c7 c8 rfl rfl (by omega) W8 hl7 ho8.lat)
      rw [show decide (t.recs = t.recs) = true by simp] at HSM
      have HJ8 := Lib.hid (HJ7.out.quiet (Turns.of_below hb8))
      have HO8 := Lib.hid (HO7.out.quiet (Turns.of_below hb8))
      clear ho8 hb8 HJ7 HO7 hl7
      go_wp2_with fail
      refine HSM.out.mono ?_
      rintro e W9 ⟨rfl, hb9⟩
      have HJ9 := Lib.hid (HJ8.out.quiet (Turns.of_below hb9))
      have HO9 := Lib.hid (HO8.out.quiet (Turns.of_below hb9))
      clear hb9 HJ8 HO8 HSM
      go_wp2_with fail
      refine (room_O HJ9.out.dl HO9.out hfit).mono ?_
      rintro e W10 ⟨rfl, k10, rfl⟩
      have HJ10 := Lib.hid (HJ9.out.quiet (Turns.drewN W9 k10))
      clear HJ9 HO9
      go_wp2_with fail
      refine (room_J HJ10.out hfit).mono ?_
      rintro e W11 ⟨rfl, hj11, -⟩
      have HJ11 := Lib.hid hj11
      have HPN := Lib.hid (pending_D hj11.dl)
      rw [HC2.out.2.2.1] at HPN
      rw [show ((([] : List (Nat × ByteArray)).length : Nat) : Int) = 0 from rfl] at HPN
      have HCT := Lib.hid (content_D hj11.dl)
      have hrd : (s5.read 0 n).1.size = n := by
        have hv : s5.vis.length = n := by rw [HC2.out.1.vis]; exact cont_length hC.out.2.1
        unfold DS.read
        rw [HC2.out.1.off, if_neg (by decide), hv, if_pos (by have := insB_yes (m := n) (k := 0) (x := n) (by omega); exact this)]
        dsimp only
        rw [ba_mk_size, List.length_take, List.length_drop, hv]
        omega
      obtain ⟨X, hX⟩ : ∃ X, (s5.read 0 n).1 = X := ⟨_, rfl⟩
      rw [hX] at HCT hrd
      obtain ⟨rm, hrm⟩ : ∃ rm, n - t.size = rm := ⟨_, rfl⟩
      rw [hrm]
      clear hX hrm hj11 HJ10
      go_wp2_with (first | (go_at_call 17; refine HPN.out.mono ?_; rintro e w12 ⟨rfl, rfl⟩) | (go_at_call 18; refine HCT.out.mono ?_; rintro e w13 ⟨rfl, rfl⟩) | (go_at_call 7; refine (HSZ.out _).mono ?_; rintro e w14 ⟨rfl, rfl⟩) | fail)
      go_ret
      exact ⟨rfl, HJ11.out.below⟩
end Go.Proofs.YtllmciiadceinaaDoor
