/-
  The journal laws' sane answers true and turns nothing that lay before; plain laws of a disk that is not cut. Conditions: the package's variables hold what they hold.
-/
import Derived.Test.YtllmciiadceinaaGreatDoorJourK
namespace Go.Proofs.YtllmciiadceinaaGreatDoor
open Go Go.RowKit Go.Shelf Wr

theorem fresh_clean (n : Nat) : Clean n (DS.fresh n) TS.zero := by
  have : cont n TS.zero = List.replicate n 0 := by unfold cont TS.zero; simp [storeL]
  exact ⟨rfl, rfl, by rw [this]; rfl, by rw [this]; rfl⟩
theorem Clean.load {n : Nat} {s : DS} {t : TS} (h : Clean n s t) (hg : Good n t) : loadW s.vis TS.zero = some t := by rw [h.vis]; exact cont_load hg
theorem Clean.open {n : Nat} {s : DS} {t : TS} (h : Clean n s t) (hg : Good n t) : openE s = 0 ∧ openD s = s := by
  have hz : allZ (s.vis.drop t.size) = true := by
    rw [h.vis]
    unfold cont
    rw [hg.size, List.drop_left]
    exact allZ_rep _
  unfold openE openD
  rw [h.load hg]
  dsimp only
  rw [hz, h.off]
  exact ⟨rfl, rfl⟩
theorem app_full {n : Nat} {s : DS} {t : TS} {L : List ByteArray} (hs : longB L = false) (hf : n < t.size + (outL t L).length) : appE n s t false L = 261 ∧ appD n s t false L = s ∧ appT n s t false L = t ∧ appB n s t false L = false := by
  have hk : appK n t false L = .full := by unfold appK; rw [hs, if_neg (by decide), if_pos hf]
  unfold appE appD appT appB
  rw [hk]
  exact ⟨rfl, rfl, rfl, rfl⟩
theorem app_none {n : Nat} {s : DS} {t : TS} (hf : t.size ≤ n) : appE n s t false [] = 0 ∧ appD n s t false [] = s ∧ appT n s t false [] = t ∧ appB n s t false [] = false := by
  have hk : appK n t false [] = .none := by unfold appK; rw [if_neg (by decide), if_neg (by simp [outL, storeL]; omega), if_pos rfl]
  unfold appE appD appT appB
  rw [hk]
  exact ⟨rfl, rfl, rfl, rfl⟩
theorem app_broken {n : Nat} {s : DS} {t : TS} {b : Bool} {L : List ByteArray} (h : (b || longB L) = true) : appE n s t b L = 260 ∧ appD n s t b L = s ∧ appT n s t b L = t ∧ appB n s t b L = b := by
  have hk : appK n t b L = .broken := by unfold appK; rw [if_pos h]
  unfold appE appD appT appB
  rw [hk]
  exact ⟨rfl, rfl, rfl, rfl⟩
theorem app_group {n : Nat} {s : DS} {t : TS} {L : List ByteArray} (hs : longB L = false) (hf : t.size + (outL t L).length ≤ n) (hL : L ≠ []) :
    appE n s t false L = chkE (s.grp t.size (outL t L)) ∧ appD n s t false L = (s.grp t.size (outL t L)).sync ∧ appT n s t false L = (if (s.grp t.size (outL t L)).off then t else t.adds L) ∧ appB n s t false L = (s.grp t.size (outL t L)).off := by
  have hk : appK n t false L = .group := by unfold appK; rw [hs, if_neg (by decide), if_neg (by omega), if_neg hL]
  unfold appE appD appT appB
  rw [hk]
  exact ⟨rfl, rfl, rfl, rfl⟩
theorem short_ok {L : List ByteArray} (h : longB L = false) : ∀ r ∈ L, r.size ≤ 65536 := fun r hr => by
  unfold longB at h
  rw [List.any_eq_false] at h
  have := h r hr
  simpa using this
/-- A group is appended to a clean disk. -/
theorem clean_append {n : Nat} {s : DS} {t : TS} {L : List ByteArray} (hc : Clean n s t) (hg : Good n t) (hs : longB L = false) (hf : t.size + (outL t L).length ≤ n) :
    (appE n s t false L = 0 ∧ Clean n (appD n s t false L) (t.adds L) ∧ Good n (t.adds L) ∧ appT n s t false L = t.adds L ∧ appB n s t false L = false ∧ (s.left ≠ 1 ∧ s.left ≠ 2 ∨ L = []) ∧ (appD n s t false L).left ≤ s.left) ∨
    (appE n s t false L = 251 ∧ Half n (appD n s t false L) t L ∧ appT n s t false L = t ∧ appB n s t false L = true ∧ (s.left = 1 ∨ s.left = 2)) := by
  by_cases hL : L = []
  · subst hL
    obtain ⟨h1, h2, h3, h4⟩ := app_none (s := s) hg.fit
    left
    rw [h2, h3, h4]
    exact ⟨h1, hc, hg, rfl, rfl, .inr rfl, Nat.le_refl _⟩
  · obtain ⟨h1, h2, h3, h4⟩ := app_group (s := s) hs hf hL
    rcases grp_law hc hg hL (short_ok hs) hf with ⟨ho, hcl, hle, hll⟩ | ⟨ho, hh, hl⟩
    · left
      rw [h1, h2, h3, h4, ho]
      refine ⟨by unfold chkE; rw [ho]; rfl, hcl, hg.adds (short_ok hs) hf, rfl, rfl, .inl hle, by rw [hll]; omega⟩
    · right
      rw [h1, h2, h3, h4, ho]
      exact ⟨by unfold chkE; rw [ho]; rfl, hh, rfl, rfl, hl⟩

def sa1 : ByteArray := ⟨#[97, 98]⟩
def sa2 : ByteArray := ⟨#[]⟩
theorem rec_len (h r : ByteArray) : (recL h r).length = 33 + (putI (r.size : Int)).length + r.size := by rw [recL_length, putL_length]; omega
theorem out_one (t : TS) (r : ByteArray) : (outL t [r]).length = 33 + (putI (r.size : Int)).length + r.size := by unfold outL; rw [storeL, storeL, List.append_nil, rec_len]
theorem sz_ab : (outL TS.zero [sa1, sa2]).length = 70 := by
  unfold outL
  rw [storeL, storeL, storeL, List.append_nil, List.length_append, rec_len, rec_len]
  kernel_rfl
theorem zeros_size (k : Nat) : (zerosB k).size = k := by unfold zerosB; rw [ba_mk_size, List.length_replicate]
theorem sz_96 (t : TS) : (outL t [zerosB 96]).length = 131 := by rw [out_one, zeros_size]; kernel_rfl
theorem sz_95 (t : TS) : (outL t [zerosB 95]).length = 130 := by rw [out_one, zeros_size]; kernel_rfl
theorem zeros_short (k : Nat) (h : k ≤ 65536) : longB [zerosB k] = false := by unfold longB; simp [zeros_size]; omega
theorem mkZ (k : Nat) (W : World) : RAt (W.alloc (.cells (madeCells #[.int .u8 0] k) 5)) W.heap.size bv (List.replicate k (0 : UInt8)) := RAt.alloc_new W _ _ (made_bytes k)
theorem cvZ (k : Nat) (W : World) : (Go.convert 39 9 (.slice (some ⟨W.heap.size, 0, none⟩) k k)).run Tryz.prog (W.alloc (.cells (madeCells #[.int .u8 0] k) 5)) = .ok (.string (zerosB k)) (W.alloc (.cells (madeCells #[.int .u8 0] k) 5)) :=
  (mkZ k W).convert (P := Tryz.prog) (cap := k) (by simp) 39 9 5 Tryz.underlying39 Tryz.underlying5 Tryz.underlying9
/-- A literal of strings. -/
theorem lit_lat (W : World) (cs : Array Value) (l : List ByteArray) (h : cs.toList = l.map .string) : LAt (W.alloc (.cells cs 9)) (W.alloc (.cells cs 9)).heap.size (some ⟨W.heap.size, 0, none⟩) .string l := by
  have := RAt.alloc_new (f := Value.string) (l := l) W cs 9 h
  exact this.sl (by rw [World.size_alloc]; omega)

theorem lit_at (W : World) (b : Nat) (hb : W.heap.size = b) (cs : Array Value) (l : List ByteArray) (h : cs.toList = l.map .string) : LAt (W.alloc (.cells cs 9)) (W.alloc (.cells cs 9)).heap.size (some ⟨b, 0, none⟩) .string l := by
  subst hb; exact lit_lat W cs l h

/-- How sane's disk goes. -/
theorem sane_open (n : Nat) : openE (DS.fresh n) = 0 ∧ openD (DS.fresh n) = DS.fresh n := (fresh_clean n).open Good.zero
/-- A disk that holds a list of records and is not cut. -/
structure Holds (n : Nat) (s : DS) (t : TS) (recs : List ByteArray) (k : Nat) : Prop where
  clean : Clean n s t
  good : Good n t
  left : s.left = 0
  recs : t.recs = recs
  size : t.size = k
theorem Holds.app {n : Nat} {s : DS} {t : TS} {recs L : List ByteArray} {k m : Nat} (h : Holds n s t recs k) (hs : longB L = false) (hm : (outL t L).length = m) (hf : k + m ≤ n) :
    appE n s t false L = 0 ∧ ∃ s' t', appD n s t false L = s' ∧ appT n s t false L = t' ∧ appB n s t false L = false ∧ Holds n s' t' (recs ++ L) (k + m) := by
  have hf' : t.size + (outL t L).length ≤ n := by rw [h.size, hm]; exact hf
  rcases clean_append h.clean h.good hs hf' with ⟨h1, h2, h3, h4, h5, -, h7⟩ | ⟨-, -, -, -, h5⟩
  · refine ⟨h1, _, _, rfl, h4, h5, h2, h3, ?_, ?_, ?_⟩
    · have := h.left; omega
    · rw [adds_recs, h.recs]
    · rw [adds_size, h.size, ← hm]; rfl
  · have := h.left; omega
theorem Holds.fresh (n : Nat) : Holds n (DS.fresh n) TS.zero [] 0 := ⟨fresh_clean n, Good.zero, rfl, rfl, rfl⟩
theorem sane_bad {n : Nat} {s : DS} {t : TS} {recs : List ByteArray} {k : Nat} (h : Holds n s t recs k) (hn : 1 ≤ n) : openE (s.wr 0 ⟨#[2]⟩) = 262 ∧ (s.wr 0 ⟨#[2]⟩).pend.length ≤ 1 ∧ (s.wr 0 ⟨#[2]⟩).left = 0 := by
  have hv : s.vis.length = n := by rw [h.clean.vis]; exact cont_length h.good
  have e : s.wr 0 ⟨#[2]⟩ = { s with pend := s.pend ++ [(0, ⟨#[2]⟩)], vis := 2 :: s.vis.drop 1 } := by
    have := wr_in (s := s) (k := 0) (x := ⟨#[2]⟩) h.clean.off (by rw [hv]; exact hn)
    rw [show ((0 : Nat) : Int) = 0 from rfl] at this
    rw [this]
    unfold DS.write
    rw [show patch s.vis 0 (⟨#[2]⟩ : ByteArray).data.toList = 2 :: s.vis.drop 1 from by rw [patch_zero]; rfl]
    exact used0 h.left
  rw [e]
  refine ⟨?_, by simp [h.clean.pend], h.left⟩
  unfold openE
  dsimp only
  rw [h.clean.off, loadW_bad (by decide) (by decide)]
  rfl

set_option maxRecDepth 100000 in
set_option maxHeartbeats 16000000 in
theorem sane_walk (W : World) (a : Addr) (hK : KAt W) (hE : ErrAt W a) : Calls Tryz.prog 8 #[] W fun e W' => e = .returned (.bool true) ∧ Below W.heap.size W W' := by
  have HK := Lib.hid hK
  have HE := Lib.hid hE
  clear hK hE
  have hz : ∀ k, (fun _ : Nat => False) k → k < W.heap.size := fun _ e => e.elim
  have hmk1 := mkRow 96 (by omega)
  have hmk2 := mkRow 95 (by omega)
  simp only [Int.cast_ofNat_Int] at hmk1 hmk2
  go_enter Tryz.func8, Tryz.ntmps8
  go_wp2_with fail
  refine (new_D (W0 := W) (Z := fun _ => False) (Turns.refl _ _) hz 200 (by omega) (by omega)).mono ?_
  rintro e W1 ⟨⟨d, rfl, h⟩, -⟩
  have HD := Lib.hid h
  clear h
  go_wp2_with fail
  refine (open_D HD.out (fun _ e => e.elim) a HK.out HE.out (by decide) (by decide)).mono ?_
  obtain ⟨he, ho⟩ := sane_open 200
  rintro e W2 ⟨hr, -⟩
  unfold OpenD at hr
  rw [he, ho, (fresh_clean 200).load Good.zero] at hr
  rcases hr with ⟨-, j, t, rfl, ht, hj⟩ | ⟨hn, -⟩
  case inr => exact absurd rfl hn
  cases ht
  have HJ := Lib.hid hj
  clear hj he ho HD
  go_wp2_with fail
  refine (records_O HJ.out.old (by simp [TS.zero])).mono ?_
  rintro e W3 ⟨⟨v3, rfl, ho3⟩, hb3⟩
  obtain ⟨A3, c3, rfl, -, -⟩ := ho3.slice
  have HJ3 := Lib.hid (HJ.out.quiet (Turns.of_below hb3))
  clear ho3 hb3 HJ
  simp only [show TS.zero.recs.length = 0 from rfl]
  go_wp2_with fail
  refine (room_J HJ3.out (by simp [TS.zero])).mono ?_
  rintro e W4 ⟨rfl, hj4, -⟩
  have HJ4 := Lib.hid hj4
  simp only [show ((200 - TS.zero.size : Nat) : Int) = 200 from rfl]
  clear hj4 HJ3
  go_wp2_with fail
  have HH0 := Holds.fresh 200
  obtain ⟨hE1, s1, t1, hD1, hT1, hB1, HH1⟩ := HH0.app (L := [sa1, sa2]) (by decide) sz_ab (by omega)
  have hl1 := lit_lat W4 #[.string ⟨#[97, 98]⟩, .string ⟨#[]⟩] [sa1, sa2] rfl
  refine (append_J (HJ4.out.quiet (Turns.alloc W4 (.cells #[.string ⟨#[97, 98]⟩, .string ⟨#[]⟩] 9))) (fun _ e => e.elim) (some ⟨W4.heap.size, 0, none⟩) [sa1, sa2] 2 2 rfl hl1 (by omega) HK.out (by decide) (by decide) HH0.good).mono ?_
  rw [hE1, hD1, hT1, hB1]
  rintro e W5 ⟨rfl, hj5, -⟩
  have HJ5 := Lib.hid hj5
  have HX1 := Lib.hid HH1
  clear hj5 HJ4 hE1 hD1 hT1 hB1 HH0 HH1 hl1
  have cv1 := cvZ 96 W5
  go_wp2_with fail
  have hl2 := lit_at (W5.alloc (.cells (madeCells #[.int .u8 0] 96) 5)) (W5.heap.size + 1) (World.size_alloc ..) #[.string (zerosB 96)] [zerosB 96] rfl
  have hu5 : Turns (fun _ => False) W5 ((W5.alloc (.cells (madeCells #[.int .u8 0] 96) 5)).alloc (.cells #[.string (zerosB 96)] 9)) := (Turns.alloc W5 _).trans (Turns.alloc _ _)
  obtain ⟨hE2, hD2, hT2, hB2⟩ := app_full (n := 200) (s := s1) (t := t1) (L := [zerosB 96]) (zeros_short 96 (by omega)) (by rw [sz_96, HX1.out.size]; omega)
  have q1 := HX1.out.left
  have q2 := HX1.out.clean.pend
  refine (append_J (HJ5.out.quiet hu5) (fun _ e => e.elim) (some ⟨W5.heap.size + 1, 0, none⟩) [zerosB 96] 1 1 rfl hl2 (by omega) HK.out (by rw [q2]; decide) (by rw [q1]; decide) HX1.out.good).mono ?_
  rw [hE2, hD2, hT2, hB2]
  rintro e W6 ⟨rfl, hj6, -⟩
  have HJ6 := Lib.hid hj6
  clear hj6 HJ5 hE2 hD2 hT2 hB2 hl2 hu5 cv1 hmk1 q1 q2
  go_wp2_with fail
  have hsz1 : t1.size ≤ 200 := by rw [HX1.out.size]; omega
  have hrm : ((200 - t1.size : Nat) : Int) = 130 := by rw [HX1.out.size]; rfl
  refine (room_J HJ6.out hsz1).mono ?_
  rw [hrm]
  rintro e W7 ⟨rfl, hj7, -⟩
  have HJ7 := Lib.hid hj7
  clear hj7 HJ6 hrm hsz1
  have cv2 := cvZ 95 W7
  go_wp2_with fail
  have hl3 := lit_at (W7.alloc (.cells (madeCells #[.int .u8 0] 95) 5)) (W7.heap.size + 1) (World.size_alloc ..) #[.string (zerosB 95)] [zerosB 95] rfl
  have hu7 : Turns (fun _ => False) W7 ((W7.alloc (.cells (madeCells #[.int .u8 0] 95) 5)).alloc (.cells #[.string (zerosB 95)] 9)) := (Turns.alloc W7 _).trans (Turns.alloc _ _)
  obtain ⟨hE3, s3, t3, hD3, hT3, hB3, HH3⟩ := HX1.out.app (L := [zerosB 95]) (zeros_short 95 (by omega)) (sz_95 t1) (by omega)
  have q1 := HX1.out.left
  have q2 := HX1.out.clean.pend
  refine (append_J (HJ7.out.quiet hu7) (fun _ e => e.elim) (some ⟨W7.heap.size + 1, 0, none⟩) [zerosB 95] 1 1 rfl hl3 (by omega) HK.out (by rw [q2]; decide) (by rw [q1]; decide) HX1.out.good).mono ?_
  rw [hE3, hD3, hT3, hB3]
  rintro e W8 ⟨rfl, hj8, -⟩
  have HJ8 := Lib.hid hj8
  have HX3 := Lib.hid HH3
  clear hj8 HJ7 hE3 hD3 hT3 hB3 hl3 hu7 cv2 hmk2 q1 q2 HX1 HH3
  go_wp2_with fail
  have q1 := HX3.out.left
  have q2 := HX3.out.clean.pend
  obtain ⟨he4, ho4⟩ := HX3.out.clean.open HX3.out.good
  refine (open_J2 HJ8.out (fun _ e => e.elim) a HK.out HE.out (by rw [q2]; decide) (by rw [q1]; decide)).mono ?_
  rintro e W9 ⟨G0, hG0, hGl0, hr, -⟩
  unfold OpenD at hr
  rw [he4, ho4, HX3.out.clean.load HX3.out.good] at hr
  rcases hr with ⟨-, k, t4, rfl, ht4, hj9⟩ | ⟨hn, -⟩
  case inr => exact absurd rfl hn
  cases ht4
  have HJ9 := Lib.hid hj9
  have HG0 := Lib.hid hG0
  have HGL0 := Lib.hid hGl0
  clear hj9 HJ8 he4 ho4 hG0 hGl0 q1 q2
  go_wp2_with fail
  obtain ⟨hb1, hb2, hb3⟩ := sane_bad HX3.out (by omega)
  have q1 := HX3.out.left
  have q2 := HX3.out.clean.pend
  have hZ9 : ∀ k, (False ∨ G0 k) → k < W9.heap.size := fun k hk => by
    rcases hk with hk | hk
    · exact hk.elim
    · obtain ⟨rv, -, -, -, hl⟩ := HG0.out; exact hl k hk
  refine (write_J HJ9.out hZ9 0 ⟨#[2]⟩ (by decide) (by rw [q2]; decide) (by rw [q1]; decide)).mono ?_
  rintro e W10 ⟨rfl, hj10, ht10⟩
  have HJ10 := Lib.hid hj10
  have HG10 := Lib.hid (HG0.out.keep ht10 (fun k hk e => e (.inr hk)))
  obtain ⟨s5, hs5⟩ : ∃ s5, s3.wr 0 ⟨#[2]⟩ = s5 := ⟨_, rfl⟩
  rw [hs5] at HJ10 hb1 hb2 hb3
  have HB1 := Lib.hid hb1
  have hZ10 : ∀ k, (False ∨ G0 k) → k < W10.heap.size := fun k hk => Nat.lt_of_lt_of_le (hZ9 k hk) ht10.size
  have HZ10 := Lib.hid hZ10
  have HB23 := Lib.hid (And.intro hb2 hb3)
  clear hj10 HJ9 HG0 hs5 hb1 hb2 hb3 q1 q2 ht10 hZ9 hZ10
  go_wp2_with fail
  have q1 := HB23.out.1
  have q2 := HB23.out.2
  refine (open_J2 HJ10.out HZ10.out a HK.out HE.out (by omega) (by omega)).mono ?_
  rintro e W11 ⟨G1, hG1, hGl1, hr, ht11⟩
  unfold OpenD at hr
  rw [HB1.out] at hr
  rcases hr with ⟨hn, -⟩ | ⟨-, rfl, hd11⟩
  · exact absurd hn (by decide)
  have HD11 := Lib.hid hd11
  have HG11 := Lib.hid (HG10.out.keep ht11 (fun k hk e => e (.inl (.inr hk))))
  have HG1 := Lib.hid hG1
  have HGL1 := Lib.hid hGl1
  clear hd11 hG1 hGl1 ht11 HG10 HJ10 q1 q2
  go_wp2_with fail
  refine (opennil_walk W11).mono ?_
  rintro e W12 ⟨rfl, rfl⟩
  go_wp2_with fail
  have hsz3 : t3.size ≤ 200 := by rw [HX3.out.size]; omega
  have hrm : ((200 - t3.size : Nat) : Int) = 0 := by rw [HX3.out.size]; rfl
  have ho11 : JOld W W11 j d t3 false := ⟨G0, HG11.out, fun k hk => (HGL0.out k hk).1⟩
  have hk11 : JOld W W11 k d t3 false := ⟨G1, HG1.out, fun k hk => (HGL1.out k hk).1⟩
  refine (room_O HD11.out ho11 hsz3).mono ?_
  rw [hrm]
  rintro e W13 ⟨rfl, k13, rfl⟩
  have HO13 := Lib.hid (hk11.quiet (Turns.drewN W11 k13))
  have HB13 := Lib.hid (HD11.out.quiet (Turns.drewN W11 k13)).below
  clear hrm ho11 hk11 hsz3 HG11 HG1 HGL0 HGL1
  generalize W11.drewN k13 = W13 at HO13 HB13 ⊢
  have hrl : t3.recs.length = 3 := by rw [HX3.out.recs]; rfl
  have HRL := Lib.hid hrl
  go_wp2_with fail
  refine (records_O HO13.out (by omega)).mono ?_
  rintro e W14 ⟨⟨v14, rfl, ho14⟩, hb14⟩
  obtain ⟨A14, c14, rfl, -, -⟩ := ho14.slice
  rw [HRL.out]
  have HO14 := Lib.hid (HO13.out.quiet (Turns.of_below hb14))
  have HB14 := Lib.hid (HB13.out.trans (hb14.mono HB13.out.size))
  clear ho14 hb14 HO13 HB13
  go_wp2_with fail
  refine (records_O HO14.out (by omega)).mono ?_
  rintro e W15 ⟨⟨v15, rfl, ho15⟩, hb15⟩
  obtain ⟨g15, c15, rfl, -, -, -, -⟩ := ho15.form (by rw [HRL.out]; omega)
  have hc15 : W15.cell? ⟨g15, 0, none⟩ = some (.string ⟨#[97, 98]⟩) := by
    have := ho15.getq (i := 0) (x := ⟨#[97, 98]⟩) (by rw [HX3.out.recs]; rfl)
    exact this
  rw [HRL.out]
  have HB15 := Lib.hid (HB14.out.trans (hb15.mono HB14.out.size))
  clear ho15 hb15 HO14 HB14 hrl
  go_wp2_with fail
  go_ret
  exact ⟨rfl, HB15.out⟩
end Go.Proofs.YtllmciiadceinaaGreatDoor
