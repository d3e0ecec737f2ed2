/-
  JournalRoom returns true. Conditions: the package's variables hold what they hold.
-/
import Derived.Test.YtllmciiadceinaaDoorJourN
import Derived.Test.YtllmciiadceinaaDoorWireRp
namespace Go.Proofs.YtllmciiadceinaaDoor
open Go Go.RowKit Go.Shelf Wr

theorem LAt.cat {α : Type} {w : World} {B : Nat} {A : Option Addr} {f : α → Value} {l : List α} (h : LAt w B A f l) : ∀ j x, (l.flatMap (one f))[j]? = some x → ∃ a, A = some a ∧ w.cell? (a.add j) = some x := fun j x hx => by
  rw [flatMap_one, List.getElem?_map] at hx
  obtain ⟨y, hy, rfl⟩ := Option.map_eq_some_iff.1 hx
  obtain ⟨a, ha, _, hac⟩ := h j y hy
  exact ⟨a, ha, hac⟩
theorem OL.lit0 {α : Type} {B : Nat} {e : TypeId} {f : α → Value} (W : World) (hB : B ≤ W.heap.size) : OL (W.alloc (.cells #[] e)) B e 1 (one f) (.slice (some ⟨W.heap.size, 0, none⟩) 0 0) ([] : List α) :=
  World.ownsRow_lit (base := B) (e := e) (size := 1) W #[] 0 hB (by unfold maxLen; omega) rfl
/-- The blocks that a call has laid are kept apart. -/
theorem DL.reserve {W0 W W' : World} {Z : Nat → Prop} {n d : Nat} {s : DS} (h : DL W0 Z W n d s) (u : Below W.heap.size W W') : DL W0 (fun k => Z k ∨ (W.heap.size ≤ k ∧ k < W'.heap.size)) W' n d s :=
  (h.mono (fun k hk hlt => by rcases hk with hk | hk; exact hk; omega)).quiet (Turns.of_below u)
theorem JL.reserve {W0 W W' : World} {Z : Nat → Prop} {n d j : Nat} {s : DS} {t : TS} {brk : Bool} (h : JL W0 Z W n d s j t brk) (u : Below W.heap.size W W') : JL W0 (fun k => Z k ∨ (W.heap.size ≤ k ∧ k < W'.heap.size)) W' n d s j t brk :=
  (h.mono (fun k hk hlt => by rcases hk with hk | hk; exact hk; omega)).quiet (Turns.of_below u)
theorem reserve_lt {W W' : World} {Z : Nat → Prop} (hZ : ∀ k, Z k → k < W.heap.size) (hs : W.heap.size ≤ W'.heap.size) : ∀ k, (Z k ∨ (W.heap.size ≤ k ∧ k < W'.heap.size)) → k < W'.heap.size := fun k hk => by
  rcases hk with hk | hk
  · have := hZ k hk; omega
  · exact hk.2

theorem store_step (h : ByteArray) (L : List ByteArray) (k : Nat) (hk : k < L.length) : (storeL h (L.take (k + 1))).length = (storeL h (L.take k)).length + 33 + (putL L[k]).length := by
  rw [List.take_succ_eq_append_getElem hk, storeL_append, List.length_append, storeL, storeL, List.append_nil, recL_length]
  omega
/-- What the first group leaves. -/
theorem room_cases (n : Nat) (L : List ByteArray) (hs : longB L = false) : ∃ s1 t1, appE n (DS.fresh n) TS.zero false L = (if (outL TS.zero L).length ≤ n then 0 else 261) ∧ appD n (DS.fresh n) TS.zero false L = s1 ∧ appT n (DS.fresh n) TS.zero false L = t1 ∧ appB n (DS.fresh n) TS.zero false L = false ∧
    Clean n s1 t1 ∧ Good n t1 ∧ s1.left = 0 ∧ t1.size = (if (outL TS.zero L).length ≤ n then (outL TS.zero L).length else 0) ∧ t1.recs.length ≤ L.length := by
  by_cases hf : (outL TS.zero L).length ≤ n
  · rw [if_pos hf, if_pos hf]
    rcases clean_append (fresh_clean n) Good.zero hs (by rw [show TS.zero.size = 0 from rfl]; omega) with ⟨h1, h2, h3, h4, h5, -, h7⟩ | ⟨-, -, -, -, h5⟩
    · refine ⟨_, _, h1, rfl, h4, h5, h2, h3, ?_, ?_, ?_⟩
      · have : (DS.fresh n).left = 0 := rfl
        omega
      · rw [adds_size]; show 0 + _ = _; unfold outL; omega
      · rw [adds_recs]; show ([] ++ L).length ≤ _; simp
    · have : (DS.fresh n).left = 0 := rfl
      omega
  · rw [if_neg hf, if_neg hf]
    obtain ⟨h1, h2, h3, h4⟩ := app_full (n := n) (s := DS.fresh n) (t := TS.zero) (L := L) hs (by rw [show TS.zero.size = 0 from rfl]; omega)
    exact ⟨_, _, h1, h2, h3, h4, fresh_clean n, Good.zero, rfl, rfl, by show 0 ≤ _; omega⟩
theorem grp_off {s : DS} (ho : s.off = true) (k : Nat) (out : List UInt8) : s.grp k out = s := by
  unfold DS.grp; rw [wr_off ho, sync_off ho, wr_off ho]
theorem app_off {n : Nat} {s : DS} {t : TS} {L : List ByteArray} (ho : s.off = true) (hs : longB L = false) (hf : t.size + (outL t L).length ≤ n) (hL : L ≠ []) :
    appE n s t false L = 251 ∧ appD n s t false L = s ∧ appT n s t false L = t ∧ appB n s t false L = true := by
  obtain ⟨h1, h2, h3, h4⟩ := app_group (s := s) hs hf hL
  rw [h1, h2, h3, h4, grp_off ho, ho, sync_off ho]
  exact ⟨by unfold chkE; rw [ho]; rfl, rfl, rfl, rfl⟩
theorem cut0 {s : DS} (ho : s.off = false) : (s.cut 0).off = true ∧ (s.cut 0).left = 0 ∧ (s.cut 0).pend = s.pend := by
  unfold DS.cut
  rw [ho]
  exact ⟨rfl, rfl, rfl⟩
theorem sz_x (t : TS) : (outL t [⟨#[120]⟩]).length = 35 := by rw [out_one]; kernel_rfl

theorem heap_at {W : World} {b : Nat} (hb : W.heap.size = b) (o : Obj) : (W.alloc o).heap[b]? = some o := by subst hb; exact World.alloc_heap_new W o

set_option maxRecDepth 100000 in
set_option maxHeartbeats 16000000 in
theorem room_law (W : World) (a : Addr) (hK : KAt W) (hE : ErrAt W a) (N : Int) (hN1 : -9223372036854775808 ≤ N) (hN2 : N ≤ 9223372036854775807) (A : Option Addr) (l : List ByteArray) (c : Nat) (hl : l.length ≤ 9223372036854775807) (hA : LAt W W.heap.size A .string l) (more : Int) (hm1 : -9223372036854775808 ≤ more) (hm2 : more ≤ 9223372036854775807) :
    Calls Tryd.prog 3 #[.int .i64 N, .slice A l.length c, .int .i64 more] W fun e W' => e = .returned (.bool true) ∧ Below W.heap.size W W' := by
  have HK := Lib.hid hK
  have HE := Lib.hid hE
  have HA := Lib.hid hA
  have HSZ := Lib.hid (jsize_walk · N hN1 hN2)
  have HPK := Lib.hid (pick_walk (x := more) (n := 100) · hm1 hm2 (by omega) (by omega))
  have hpr := pickZ_range more (n := 100) (by omega)
  obtain ⟨pm, hpm⟩ : ∃ pm : Nat, pickZ more 100 = (pm : Int) := ⟨(pickZ more 100).toNat, by omega⟩
  rw [hpm] at HPK hpr
  have hnr := sizeN_range N
  obtain ⟨n, hn⟩ : ∃ n, sizeN N = n := ⟨_, rfl⟩
  rw [hn] at HSZ hnr
  have HSN := Lib.hid (sane_walk W a hK hE)
  clear hK hE hA hpm hn
  go_enter Tryd.func3, Tryd.ntmps3
  go_wp2_with fail
  refine HSN.out.mono ?_
  rintro e W1 ⟨rfl, hb1⟩
  have hu1 : Turns (fun _ => False) W W1 := Turns.of_below hb1
  have HU1 := Lib.hid hu1
  clear hb1 hu1
  go_wp2_with (first | (go_at_call 7; refine (HSZ.out _).mono ?_; rintro e w1 ⟨rfl, rfl⟩) | fail)
  refine (new_D (W0 := W) (Z := fun _ => False) HU1.out (fun _ e => e.elim) n hnr.1 (by omega)).mono ?_
  rintro e W2 ⟨⟨d, rfl, h⟩, -⟩
  have HD := Lib.hid h
  clear h
  go_wp2_with fail
  refine (open_D HD.out (fun _ e => e.elim) a HK.out HE.out (by rw [show (DS.fresh n).pend = [] from rfl]; decide) (by rw [show (DS.fresh n).left = 0 from rfl]; decide)).mono ?_
  obtain ⟨he, ho⟩ := sane_open n
  rintro e W3 ⟨hr, -⟩
  unfold OpenD at hr
  rw [he, ho, (fresh_clean n).load Good.zero] at hr
  rcases hr with ⟨-, j, t, rfl, ht, hj⟩ | ⟨hn, -⟩
  case inr => exact absurd rfl hn
  cases ht
  have HJ := Lib.hid hj
  clear hj he ho HD
  go_wp2_with fail
  have hA3 := HA.out.below HJ.out.below
  refine (few_walk A l c hl W3 (hA3.more HJ.out.below.size)).mono ?_
  rintro e W4 ⟨⟨v4, rfl, ho4⟩, hb4⟩
  obtain ⟨A4, c4, rfl, hlc4, -⟩ := ho4.slice
  have hfl := fewS_length l
  have hfs := fewS_size l
  have hsh := fewS_short l
  obtain ⟨L, hL⟩ : ∃ L, fewS l = L := ⟨_, rfl⟩
  obtain ⟨m, hm⟩ : ∃ m, (fewS l).length = m := ⟨_, rfl⟩
  rw [hm] at hfl hlc4 ho4 ⊢
  rw [hL] at ho4 hfs hsh hm
  have HO4 := Lib.hid ho4
  obtain ⟨Z4, hZ4⟩ : ∃ Z4 : Nat → Prop, Z4 = fun k => False ∨ (W3.heap.size ≤ k ∧ k < W4.heap.size) := ⟨_, rfl⟩
  have HJ4 : Hid (JL W Z4 W4 n d (DS.fresh n) j TS.zero false) := Lib.hid (by rw [hZ4]; exact HJ.out.reserve hb4)
  have HZ4 : Hid (∀ k, Z4 k → k < W4.heap.size) := Lib.hid (by rw [hZ4]; exact reserve_lt (Z := fun _ => False) (fun _ e => e.elim) hb4.size)
  have HZO : Hid (∀ g, (Value.slice A4 m c4).ownBlock = some g → Z4 g) := Lib.hid (by rw [hZ4]; exact fun g hg => .inr (HO4.out.lt g hg))
  have hB34 := hb4.size
  clear hZ4
  have HM := Lib.hid hm
  have HCN : Hid (A4 = none → c4 = 0) := Lib.hid (fun e => by
    rcases HO4.out.2 with ⟨he, -⟩ | ⟨g, cap, cur, he, -⟩
    · injection he
    · injection he with e1 _ _; rw [e] at e1; cases e1)
  have HFS := Lib.hid hfs
  have HSH := Lib.hid hsh
  clear ho4 hb4 HJ hL hm hfs hsh hA3
  go_wp2_with fail
  go_loopw [12, 13] (fun v12 v13 wr => ∃ k : Nat, k ≤ m ∧ v13 = .int .i64 k ∧ v12 = .int .i64 (((storeL zero32 (L.take k)).length : Nat) : Int) ∧ Hid (JL W Z4 wr n d (DS.fresh n) j TS.zero false) ∧ Hid (OLs wr W3.heap.size (.slice A4 m c4) L) ∧ Hid (W4.heap.size ≤ wr.heap.size)) (fun _ v _ => m - (intOf v).toNat)
  case atStart => exact ⟨0, Nat.zero_le _, rfl, rfl, HJ4, HO4, Lib.hid (Nat.le_refl _)⟩
  case round =>
    obtain ⟨k, hk, rfl, rfl, hJ, hO, hS⟩ := hrel
    have hle := (storeL_le zero32 (L.take k) (fun r hr => short_ok HSH.out r (List.mem_of_mem_take hr))).1
    rw [List.length_take] at hle
    by_cases hlt : k < m
    · have d1 : decide ((k : Int) < (m : Int)) = true := by simp [hlt]
      have hkl : k < L.length := by rw [HM.out]; exact hlt
      obtain ⟨p, rfl, -, hac⟩ := hO.out.lat.get hkl
      have hst := store_step zero32 L k hkl
      have hxs := HFS.out _ (List.getElem_mem hkl)
      obtain ⟨x, hx⟩ : ∃ x, L[k] = x := ⟨_, rfl⟩
      rw [hx] at hac hst hxs
      have HP := Lib.hid (fun w => Wr.refPutString_yes x (by omega) w)
      obtain ⟨P, hP⟩ : ∃ P : ByteArray, (⟨(putI (x.size : Int)).toArray⟩ : ByteArray) ++ x = P := ⟨_, rfl⟩
      have hPs : P.size = (putL x).length := by rw [← hP, ba_size_append, ba_mk_size, putL_length]
      have hpl : (putL x).length ≤ 200 := by rw [putL_length]; have := putI_len9 (n := x.size) (by omega); omega
      rw [hP] at HP
      obtain ⟨q, hq⟩ : ∃ q, (storeL zero32 (L.take k)).length = q := ⟨_, rfl⟩
      obtain ⟨pl, hpl2⟩ : ∃ pl, (putL x).length = pl := ⟨_, rfl⟩
      rw [hq] at hst hle ⊢
      rw [hpl2] at hst hPs hpl
      have HST := Lib.hid hst
      have w1 : IntKind.i64.wrap ((q : Int) + 33) = ((q + 33 : Nat) : Int) := by rw [IntKind.wrap_i64]; omega
      have w2 : IntKind.i64.wrap (((q + 33 : Nat) : Int) + (pl : Int)) = ((q + 33 + pl : Nat) : Int) := by rw [IntKind.wrap_i64]; omega
      have z1 : (0 : Int) ≤ (k : Int) := by omega
      have z2 : (k : Int) < (m : Int) := by omega
      clear hst hx hP hq hpl2 hkl hxs
      go_wp2_with (first | (go_at_call 10; refine (HP.out _).mono ?_; rintro e w5 ⟨rfl, hb5⟩) | fail)
      have hu5 : Turns (fun _ => False) wr w5 := Turns.of_below hb5
      exact ⟨⟨k + 1, by omega, by go_num, by rw [HST.out]; exact congrArg (Value.int .i64) (by omega), Lib.hid (hJ.out.quiet hu5), Lib.hid (hO.out.below hb5 (Nat.le_refl _)), Lib.hid (Nat.le_trans hS.out hb5.size)⟩, by simp only [intOf]; omega⟩
    · have d1 : decide ((k : Int) < (m : Int)) = false := by simp; omega
      obtain rfl : k = m := by omega
      have htl : L.take k = L := List.take_of_length_le (by rw [HM.out]; exact Nat.le_refl _)
      rw [htl] at hle ⊢
      obtain ⟨M, hM⟩ : ∃ M, (storeL zero32 L).length = M := ⟨_, rfl⟩
      rw [hM] at hle ⊢
      obtain ⟨s1, t1, e1, e2, e3, e4, e5, e6, e7, e8, e9⟩ := room_cases n L HSH.out
      rw [show (outL TS.zero L).length = M from hM] at e1 e8
      have HZr : Hid (∀ k, Z4 k → k < wr.heap.size) := Lib.hid (fun k hk => Nat.lt_of_lt_of_le (HZ4.out k hk) hS.out)
      have HAPP := Lib.hid (append_J hJ.out HZr.out A4 L k c4 HM.out hO.out.lat (by omega) HK.out (by rw [show (DS.fresh n).pend = [] from rfl]; decide) (by rw [show (DS.fresh n).left = 0 from rfl]; decide) Good.zero)
      rw [e1, e2, e3, e4] at HAPP
      have HC1 := Lib.hid (And.intro e5 (And.intro e6 e7))
      have HT8 := Lib.hid e8
      have HT9 := Lib.hid e9
      clear e1 e2 e3 e4 e5 e6 e7 e8 e9 htl
      go_wp2_with fail
      refine HAPP.out.mono ?_
      rintro e W5 ⟨rfl, hj5, ht5⟩
      have HJ5 := Lib.hid hj5
      have HO5 := Lib.hid (hO.out.keep (w' := W5) fun g hg => ht5.block g (hO.out.lt g hg).2 (fun e => e (HZO.out g hg)))
      have HS5 := Lib.hid ht5.size
      clear hj5 ht5 HAPP
      have hrl : t1.recs.length ≤ 6 := by have := HT9.out; rw [HM.out] at this; omega
      have HRL := Lib.hid hrl
      have htn : t1.size ≤ n := by rw [HT8.out]; split <;> omega
      have HTN := Lib.hid htn
      have HRM := Lib.hid (fun w (h : JL W Z4 w n d s1 j t1 false) => room_J h htn)
      obtain ⟨rm, hrm⟩ : ∃ rm, n - t1.size = rm := ⟨_, rfl⟩
      rw [hrm] at HRM
      have HRMM := Lib.hid hrm
      have hrm2 : rm = if M ≤ n then n - M else n := by rw [← hrm, HT8.out]; split <;> omega
      clear hrl htn hrm
      have hgo : ∃ b : Bool, decide (M ≤ n) = b := ⟨_, rfl⟩
      by_cases hf : M ≤ n
      · rw [if_pos hf] at hrm2 ⊢
        have d2 : decide ((M : Int) ≤ (n : Int)) = true := by simp; omega
        have d2n : decide (M ≤ n) = true := by simp; omega
        have w1 : IntKind.i64.wrap ((n : Int) - (M : Int)) = (rm : Int) := by rw [IntKind.wrap_i64]; omega
        clear hf hrm2
        go_wp2_with (first | (go_at_call 7; refine (HSZ.out _).mono ?_; rintro e w1 ⟨rfl, rfl⟩) | (go_at_call 12; refine (HRM.out _ HJ5.out).mono ?_; rintro e W6 ⟨rfl, hj6, hb6⟩) | fail)
        have HJ6 := Lib.hid hj6
        have HO6 : Hid (OLs W6 W3.heap.size (.slice A4 k c4) L) := Lib.hid (HO5.out.below hb6 (Nat.le_refl _))
        have hZ6 : ∀ q, Z4 q → q < W6.heap.size := fun q hq => Nat.lt_of_lt_of_le (HZr.out q hq) (Nat.le_trans HS5.out hb6.size)
        have HZ6 := Lib.hid hZ6
        clear hj6 hb6 hZ6
        go_wp2_with fail
        have hrl := HRL.out
        refine (records_O HJ6.out.old (by omega)).mono ?_
        rintro e W7 ⟨⟨v7, rfl, ho7⟩, hb7⟩
        obtain ⟨A7, c7, rfl, -, -⟩ := ho7.slice
        obtain ⟨Z7, hZ7⟩ : ∃ Z7 : Nat → Prop, Z7 = fun q => Z4 q ∨ (W6.heap.size ≤ q ∧ q < W7.heap.size) := ⟨_, rfl⟩
        have HJ7 : Hid (JL W Z7 W7 n d s1 j t1 false) := Lib.hid (by rw [hZ7]; exact HJ6.out.reserve hb7)
        have HZ7 : Hid (∀ q, Z7 q → q < W7.heap.size) := Lib.hid (by rw [hZ7]; exact reserve_lt HZ6.out hb7.size)
        have HZO7 : Hid (∀ g, (Value.slice A4 k c4).ownBlock = some g → Z7 g) := Lib.hid (by rw [hZ7]; exact fun g hg => .inl (HZO.out g hg))
        have HZW7 : Hid (∀ g, (Value.slice A7 t1.recs.length c7).ownBlock = some g → Z7 g) := Lib.hid (by rw [hZ7]; exact fun g hg => .inr (ho7.lt g hg))
        have HO7 : Hid (OLs W7 W3.heap.size (.slice A4 k c4) L) := Lib.hid (HO6.out.below hb7 (Nat.le_refl _))
        have HW7 := Lib.hid ho7
        have HS7 := Lib.hid hb7.size
        clear ho7 hb7 hZ7 hrl HJ6 HZ6
        have hmk := mkRow (65537 + pm) (by omega)
        have hmk' : ∀ w, (Instr.makeSlice 38 (.int .i64 (65537 + (pm : Int))) (.int .i64 (65537 + (pm : Int)))).run Tryd.prog w = .ok (.slice (some ⟨w.heap.size, 0, none⟩) (65537 + pm) (65537 + pm)) (w.alloc (.cells (madeCells #[.int .u8 0] (65537 + pm)) 5)) := fun w => by have := hmk w; rw [show ((65537 + pm : Nat) : Int) = 65537 + (pm : Int) by omega] at this; exact this
        have hlat := HO7.out.lat
        have hcn := HCN.out
        have tok1 : True := trivial
        go_wp2_with (first | (at_builtin; have _t := tok1; go_must (refine wpList_cat rfl (.tmp 106) (.tmp 107) 22 rfl elemStr (fun _ => rfl) (.slice (some ⟨W7.heap.size, 0, none⟩) 0 0) [] rfl (OL.lit0 (B := W7.heap.size) W7 (Nat.le_refl _)) A4 L k c4 HM.out rfl hcn (LAt.cat (hlat.below ((Below.refl _ W7).alloc (Nat.le_refl _) _))) (fun x _ u hu => by rw [List.mem_singleton.1 hu]; rfl) (by unfold maxLen; simp; omega) (by simp; omega) (by simp) ?_); intro v8 W8 ho8 hg8 hb8; have cv := cvZ (65537 + pm) W8; have HO8 := Lib.hid ho8; have HB8 := Lib.hid hb8; clear ho8 hg8 hb8 _t tok1) | (go_at_call 14; refine (HPK.out _).mono ?_; rintro e w1 ⟨rfl, rfl⟩) | (at_builtin; go_must (refine wpList_app rfl (.tmp 108) (.tmp 114) 22 rfl elemStr _ L k HM.out rfl ((HO8.out.alloc _).alloc _) (zerosB (65537 + pm)) (W8.heap.size + 1) #[.string (zerosB (65537 + pm))] rfl (heap_at (World.size_alloc ..) _) rfl rfl (by simp [one, Value.oneCell']) (by unfold maxLen; rw [HM.out]; omega) (by rw [HM.out]; omega) (by have := HB8.out.size; simp at this ⊢; omega) ?_); intro g9 c9 W9 ho9 hg9 hg9' hgl9 hb9) | fail)
        have hb79 : Below W7.heap.size W7 W9 := (((((Below.refl _ W7).alloc (Nat.le_refl _) _).trans HB8.out).alloc (by have := HB8.out.size; simp at this; omega) _).alloc (by have := HB8.out.size; simp at this ⊢; omega) _).trans hb9
        have hlg : longB (L ++ [zerosB (65537 + pm)]) = true := by unfold longB; rw [List.any_append]; simp [zeros_size]; omega
        obtain ⟨f1, f2, f3, f4⟩ := app_broken (n := n) (s := s1) (t := t1) (b := false) (L := L ++ [zerosB (65537 + pm)]) (by rw [hlg]; rfl)
        have hlo1 := HC1.out.2.2
        have hpe1 := HC1.out.1.pend
        have hZ9 : ∀ q, Z7 q → q < W9.heap.size := fun q hq => Nat.lt_of_lt_of_le (HZ7.out q hq) hb79.size
        have HA10 := Lib.hid (append_J (HJ7.out.quiet (Turns.of_below hb79)) hZ9 (some ⟨g9, 0, none⟩) (L ++ [zerosB (65537 + pm)]) (k + 1) c9 (by rw [List.length_append, HM.out]; rfl) ho9.lat (by omega) HK.out (by rw [hpe1]; decide) (by rw [hlo1]; decide) HC1.out.2.1)
        rw [f1, f2, f3, f4] at HA10
        have hw9 : OLs W9 W6.heap.size (.slice A7 t1.recs.length c7) t1.recs := HW7.out.below hb79 (Nat.le_refl _)
        have HW9 := Lib.hid hw9
        have HZ9 := Lib.hid hZ9
        clear f1 f2 f3 f4 hlg hb79 hw9 hZ9 ho9 hg9 hg9' hgl9 hb9 HO8 HB8 cv hmk hmk' hlat hcn hlo1 hpe1 HJ7 HO7 HW7
        refine HA10.out.mono ?_
        rintro e W10 ⟨rfl, hj10, ht10⟩
        have HJ10 := Lib.hid hj10
        have HW10 := Lib.hid (HW9.out.keep (w' := W10) fun g hg => ht10.block g (HW9.out.lt g hg).2 (fun e => e (HZW7.out g hg)))
        have HZ10 : Hid (∀ q, Z7 q → q < W10.heap.size) := Lib.hid (fun q hq => Nat.lt_of_lt_of_le (HZ9.out q hq) ht10.size)
        clear hj10 ht10 HA10 HW9 HZ9
        obtain ⟨f1, f2, f3, f4⟩ := app_none (n := n) (s := s1) (t := t1) HTN.out
        have hlo1 := HC1.out.2.2
        have hpe1 := HC1.out.1.pend
        have HA11 := Lib.hid (append_J HJ10.out HZ10.out none [] 0 0 rfl LAt.nil (by omega) HK.out (by rw [hpe1]; decide) (by rw [hlo1]; decide) HC1.out.2.1)
        rw [f1, f2, f3, f4] at HA11
        clear f1 f2 f3 f4 hlo1 hpe1
        go_wp2_with fail
        refine HA11.out.mono ?_
        rintro e W11 ⟨rfl, hj11, ht11⟩
        have HJ11 := Lib.hid hj11
        have HW11 := Lib.hid (HW10.out.keep (w' := W11) fun g hg => ht11.block g (HW10.out.lt g hg).2 (fun e => e (HZW7.out g hg)))
        have HZ11 : Hid (∀ q, Z7 q → q < W11.heap.size) := Lib.hid (fun q hq => Nat.lt_of_lt_of_le (HZ10.out q hq) ht11.size)
        clear hj11 ht11 HA11 HW10 HZ10 HJ10
        go_wp2_with fail
        refine (cut_J HJ11.out 0).mono ?_
        rintro e W12 ⟨rfl, hj12, ht12⟩
        have HJ12 := Lib.hid hj12
        have HW12 := Lib.hid (HW11.out.keep (w' := W12) fun g hg => ht12.block g (HW11.out.lt g hg).2 (fun e => e (HZW7.out g hg)))
        have HZ12 : Hid (∀ q, Z7 q → q < W12.heap.size) := Lib.hid (fun q hq => Nat.lt_of_lt_of_le (HZ11.out q hq) ht12.size)
        obtain ⟨ho12, hl12, hp12⟩ := cut0 HC1.out.1.off
        rw [HC1.out.1.pend] at hp12
        have hp12' : (s1.cut 0).pend.length ≤ 800000 := by rw [hp12]; decide
        clear hj12 ht12 HW11 HZ11 HJ11
        go_wp2_with fail
        by_cases hsm : rm < 35
        · obtain ⟨f1, f2, f3, f4⟩ := app_full (n := n) (s := s1.cut 0) (t := t1) (L := [⟨#[120]⟩]) (by decide) (by rw [sz_x]; have := HRMM.out; have := HTN.out; omega)
          obtain ⟨g1, g2, g3, g4⟩ := app_none (n := n) (s := s1.cut 0) (t := t1) HTN.out
          have e35 : decide ((rm : Int) < 35) = true := by simp; omega
          have e35n : decide (rm < 35) = true := by simp; omega
          have hl13 := lit_lat W12 #[.string ⟨#[120]⟩] [⟨#[120]⟩] rfl
          have HA13 := Lib.hid (append_J (HJ12.out.quiet (Turns.alloc W12 (.cells #[.string ⟨#[120]⟩] 9))) (fun q hq => by rw [World.size_alloc]; exact Nat.lt_succ_of_lt (HZ12.out q hq)) (some ⟨W12.heap.size, 0, none⟩) [⟨#[120]⟩] 1 1 rfl hl13 (by omega) HK.out (by omega) (by omega) HC1.out.2.1)
          rw [f1, f2, f3, f4] at HA13
          have HO12a := Lib.hid (HW12.out.alloc (.cells #[.string ⟨#[120]⟩] 9))
          have HG := Lib.hid (And.intro g1 (And.intro g2 (And.intro g3 g4)))
          have hl12' : (s1.cut 0).left ≤ 9223372036854775807 := by omega
          clear f1 f2 f3 f4 g1 g2 g3 g4 hl13 ho12 hl12 hp12 hsm
          refine HA13.out.mono ?_
          rintro e W13 ⟨rfl, hj13, ht13⟩
          have HJ13 := Lib.hid hj13
          have HW13 := Lib.hid (HO12a.out.keep (w' := W13) fun g hg => ht13.block g (HO12a.out.lt g hg).2 (fun e => e (HZW7.out g hg)))
          have HZ13 : Hid (∀ q, Z7 q → q < W13.heap.size) := Lib.hid (fun q hq => Nat.lt_of_lt_of_le (HZ12.out q hq) (Nat.le_trans (by rw [World.size_alloc]; omega) ht13.size))
          clear hj13 ht13 HA13 HO12a HJ12 HW12
          go_wp2_with fail
          refine (room_J HJ13.out HTN.out).mono ?_
          rw [HRMM.out]
          rintro e W14 ⟨rfl, hj14, hb14⟩
          have HJ14 := Lib.hid hj14
          have HW14 := Lib.hid (HW13.out.below hb14 (Nat.le_refl _))
          have HZ14 : Hid (∀ q, Z7 q → q < W14.heap.size) := Lib.hid (fun q hq => Nat.lt_of_lt_of_le (HZ13.out q hq) hb14.size)
          have HA15 := Lib.hid (append_J hj14 HZ14.out none [] 0 0 rfl LAt.nil (by omega) HK.out hp12' hl12' HC1.out.2.1)
          rw [HG.out.1, HG.out.2.1, HG.out.2.2.1, HG.out.2.2.2] at HA15
          clear hj14 hb14 HJ13 HW13 HZ13 hp12' hl12'
          go_wp2_with fail
          refine HA15.out.mono ?_
          rintro e W15 ⟨rfl, hj15, ht15⟩
          have HJ15 := Lib.hid hj15
          have HW15 := Lib.hid (HW14.out.keep (w' := W15) fun g hg => ht15.block g (HW14.out.lt g hg).2 (fun e => e (HZW7.out g hg)))
          clear hj15 ht15 HA15 HJ14 HW14 HZ14
          go_wp2_with fail
          refine (records_O HJ15.out.old (by have := HRL.out; omega)).mono ?_
          rintro e W16 ⟨⟨v16, rfl, ho16⟩, hb16⟩
          obtain ⟨A16, c16, rfl, -, -⟩ := ho16.slice
          have hw16 : OLs W16 W6.heap.size (.slice A7 t1.recs.length c7) t1.recs := HW15.out.below hb16 (Nat.le_refl _)
          have HB16 := Lib.hid (HJ15.out.quiet (Turns.of_below hb16)).below
          have HSM := Lib.hid (same_walk A16 A7 t1.recs t1.recs t1.recs.length t1.recs.length c16 c7 rfl rfl (by have := HRL.out; omega) W16 ho16.lat hw16.lat)
          rw [show decide (t1.recs = t1.recs) = true by simp] at HSM
          clear ho16 hb16 hw16
          go_wp2_with (first | (go_at_call 16; refine HSM.out.mono ?_; rintro e W17 ⟨rfl, hb17⟩; have HB17 := Lib.hid (HB16.out.trans (hb17.mono HB16.out.size)); clear hb17) | (go_at_call 11; refine (appendnil_walk _ _ _ _).mono ?_; rintro e W18 ⟨rfl, rfl⟩) | (go_at_call 13; refine (recordsnil_walk _).mono ?_; rintro e W19 ⟨rfl, rfl⟩) | (go_at_call 12; refine (roomnil_walk _).mono ?_; rintro e W20 ⟨rfl, rfl⟩) | fail)
          go_ret
          exact ⟨rfl, HB17.out⟩
        · obtain ⟨f1, f2, f3, f4⟩ := app_off (n := n) (s := s1.cut 0) (t := t1) (L := [⟨#[120]⟩]) ho12 (by decide) (by rw [sz_x]; have := HRMM.out; have := HTN.out; omega) (by simp)
          obtain ⟨g1, g2, g3, g4⟩ := app_broken (n := n) (s := s1.cut 0) (t := t1) (b := true) (L := []) (by simp)
          have e35 : decide ((rm : Int) < 35) = false := by simp; omega
          have e35n : decide (rm < 35) = false := by simp; omega
          have hl13 := lit_lat W12 #[.string ⟨#[120]⟩] [⟨#[120]⟩] rfl
          have HA13 := Lib.hid (append_J (HJ12.out.quiet (Turns.alloc W12 (.cells #[.string ⟨#[120]⟩] 9))) (fun q hq => by rw [World.size_alloc]; exact Nat.lt_succ_of_lt (HZ12.out q hq)) (some ⟨W12.heap.size, 0, none⟩) [⟨#[120]⟩] 1 1 rfl hl13 (by omega) HK.out (by omega) (by omega) HC1.out.2.1)
          rw [f1, f2, f3, f4] at HA13
          have HO12a := Lib.hid (HW12.out.alloc (.cells #[.string ⟨#[120]⟩] 9))
          have HG := Lib.hid (And.intro g1 (And.intro g2 (And.intro g3 g4)))
          have hl12' : (s1.cut 0).left ≤ 9223372036854775807 := by omega
          clear f1 f2 f3 f4 g1 g2 g3 g4 hl13 ho12 hl12 hp12 hsm
          refine HA13.out.mono ?_
          rintro e W13 ⟨rfl, hj13, ht13⟩
          have HJ13 := Lib.hid hj13
          have HW13 := Lib.hid (HO12a.out.keep (w' := W13) fun g hg => ht13.block g (HO12a.out.lt g hg).2 (fun e => e (HZW7.out g hg)))
          have HZ13 : Hid (∀ q, Z7 q → q < W13.heap.size) := Lib.hid (fun q hq => Nat.lt_of_lt_of_le (HZ12.out q hq) (Nat.le_trans (by rw [World.size_alloc]; omega) ht13.size))
          clear hj13 ht13 HA13 HO12a HJ12 HW12
          go_wp2_with fail
          refine (room_J HJ13.out HTN.out).mono ?_
          rw [HRMM.out]
          rintro e W14 ⟨rfl, hj14, hb14⟩
          have HJ14 := Lib.hid hj14
          have HW14 := Lib.hid (HW13.out.below hb14 (Nat.le_refl _))
          have HZ14 : Hid (∀ q, Z7 q → q < W14.heap.size) := Lib.hid (fun q hq => Nat.lt_of_lt_of_le (HZ13.out q hq) hb14.size)
          have HA15 := Lib.hid (append_J hj14 HZ14.out none [] 0 0 rfl LAt.nil (by omega) HK.out hp12' hl12' HC1.out.2.1)
          rw [HG.out.1, HG.out.2.1, HG.out.2.2.1, HG.out.2.2.2] at HA15
          clear hj14 hb14 HJ13 HW13 HZ13 hp12' hl12'
          go_wp2_with fail
          refine HA15.out.mono ?_
          rintro e W15 ⟨rfl, hj15, ht15⟩
          have HJ15 := Lib.hid hj15
          have HW15 := Lib.hid (HW14.out.keep (w' := W15) fun g hg => ht15.block g (HW14.out.lt g hg).2 (fun e => e (HZW7.out g hg)))
          clear hj15 ht15 HA15 HJ14 HW14 HZ14
          go_wp2_with fail
          refine (records_O HJ15.out.old (by have := HRL.out; omega)).mono ?_
          rintro e W16 ⟨⟨v16, rfl, ho16⟩, hb16⟩
          obtain ⟨A16, c16, rfl, -, -⟩ := ho16.slice
          have hw16 : OLs W16 W6.heap.size (.slice A7 t1.recs.length c7) t1.recs := HW15.out.below hb16 (Nat.le_refl _)
          have HB16 := Lib.hid (HJ15.out.quiet (Turns.of_below hb16)).below
          have HSM := Lib.hid (same_walk A16 A7 t1.recs t1.recs t1.recs.length t1.recs.length c16 c7 rfl rfl (by have := HRL.out; omega) W16 ho16.lat hw16.lat)
          rw [show decide (t1.recs = t1.recs) = true by simp] at HSM
          clear ho16 hb16 hw16
          go_wp2_with (first | (go_at_call 16; refine HSM.out.mono ?_; rintro e W17 ⟨rfl, hb17⟩; have HB17 := Lib.hid (HB16.out.trans (hb17.mono HB16.out.size)); clear hb17) | (go_at_call 11; refine (appendnil_walk _ _ _ _).mono ?_; rintro e W18 ⟨rfl, rfl⟩) | (go_at_call 13; refine (recordsnil_walk _).mono ?_; rintro e W19 ⟨rfl, rfl⟩) | (go_at_call 12; refine (roomnil_walk _).mono ?_; rintro e W20 ⟨rfl, rfl⟩) | fail)
          go_ret
          exact ⟨rfl, HB17.out⟩
      · rw [if_neg hf] at hrm2 ⊢
        have d2 : decide ((M : Int) ≤ (n : Int)) = false := by simp; omega
        have d2n : decide (M ≤ n) = false := by simp; omega
        obtain rfl : n = rm := hrm2.symm
        clear hf
        go_wp2_with (first | (go_at_call 7; refine (HSZ.out _).mono ?_; rintro e w1 ⟨rfl, rfl⟩) | (go_at_call 12; refine (HRM.out _ HJ5.out).mono ?_; rintro e W6 ⟨rfl, hj6, hb6⟩) | fail)
        have HJ6 := Lib.hid hj6
        have HO6 : Hid (OLs W6 W3.heap.size (.slice A4 k c4) L) := Lib.hid (HO5.out.below hb6 (Nat.le_refl _))
        have hZ6 : ∀ q, Z4 q → q < W6.heap.size := fun q hq => Nat.lt_of_lt_of_le (HZr.out q hq) (Nat.le_trans HS5.out hb6.size)
        have HZ6 := Lib.hid hZ6
        clear hj6 hb6 hZ6
        go_wp2_with fail
        have hrl := HRL.out
        refine (records_O HJ6.out.old (by omega)).mono ?_
        rintro e W7 ⟨⟨v7, rfl, ho7⟩, hb7⟩
        obtain ⟨A7, c7, rfl, -, -⟩ := ho7.slice
        obtain ⟨Z7, hZ7⟩ : ∃ Z7 : Nat → Prop, Z7 = fun q => Z4 q ∨ (W6.heap.size ≤ q ∧ q < W7.heap.size) := ⟨_, rfl⟩
        have HJ7 : Hid (JL W Z7 W7 n d s1 j t1 false) := Lib.hid (by rw [hZ7]; exact HJ6.out.reserve hb7)
        have HZ7 : Hid (∀ q, Z7 q → q < W7.heap.size) := Lib.hid (by rw [hZ7]; exact reserve_lt HZ6.out hb7.size)
        have HZO7 : Hid (∀ g, (Value.slice A4 k c4).ownBlock = some g → Z7 g) := Lib.hid (by rw [hZ7]; exact fun g hg => .inl (HZO.out g hg))
        have HZW7 : Hid (∀ g, (Value.slice A7 t1.recs.length c7).ownBlock = some g → Z7 g) := Lib.hid (by rw [hZ7]; exact fun g hg => .inr (ho7.lt g hg))
        have HO7 : Hid (OLs W7 W3.heap.size (.slice A4 k c4) L) := Lib.hid (HO6.out.below hb7 (Nat.le_refl _))
        have HW7 := Lib.hid ho7
        have HS7 := Lib.hid hb7.size
        clear ho7 hb7 hZ7 hrl HJ6 HZ6
        have hmk := mkRow (65537 + pm) (by omega)
        have hmk' : ∀ w, (Instr.makeSlice 38 (.int .i64 (65537 + (pm : Int))) (.int .i64 (65537 + (pm : Int)))).run Tryd.prog w = .ok (.slice (some ⟨w.heap.size, 0, none⟩) (65537 + pm) (65537 + pm)) (w.alloc (.cells (madeCells #[.int .u8 0] (65537 + pm)) 5)) := fun w => by have := hmk w; rw [show ((65537 + pm : Nat) : Int) = 65537 + (pm : Int) by omega] at this; exact this
        have hlat := HO7.out.lat
        have hcn := HCN.out
        have tok1 : True := trivial
        go_wp2_with (first | (at_builtin; have _t := tok1; go_must (refine wpList_cat rfl (.tmp 106) (.tmp 107) 22 rfl elemStr (fun _ => rfl) (.slice (some ⟨W7.heap.size, 0, none⟩) 0 0) [] rfl (OL.lit0 (B := W7.heap.size) W7 (Nat.le_refl _)) A4 L k c4 HM.out rfl hcn (LAt.cat (hlat.below ((Below.refl _ W7).alloc (Nat.le_refl _) _))) (fun x _ u hu => by rw [List.mem_singleton.1 hu]; rfl) (by unfold maxLen; simp; omega) (by simp; omega) (by simp) ?_); intro v8 W8 ho8 hg8 hb8; have cv := cvZ (65537 + pm) W8; have HO8 := Lib.hid ho8; have HB8 := Lib.hid hb8; clear ho8 hg8 hb8 _t tok1) | (go_at_call 14; refine (HPK.out _).mono ?_; rintro e w1 ⟨rfl, rfl⟩) | (at_builtin; go_must (refine wpList_app rfl (.tmp 108) (.tmp 114) 22 rfl elemStr _ L k HM.out rfl ((HO8.out.alloc _).alloc _) (zerosB (65537 + pm)) (W8.heap.size + 1) #[.string (zerosB (65537 + pm))] rfl (heap_at (World.size_alloc ..) _) rfl rfl (by simp [one, Value.oneCell']) (by unfold maxLen; rw [HM.out]; omega) (by rw [HM.out]; omega) (by have := HB8.out.size; simp at this ⊢; omega) ?_); intro g9 c9 W9 ho9 hg9 hg9' hgl9 hb9) | fail)
        have hb79 : Below W7.heap.size W7 W9 := (((((Below.refl _ W7).alloc (Nat.le_refl _) _).trans HB8.out).alloc (by have := HB8.out.size; simp at this; omega) _).alloc (by have := HB8.out.size; simp at this ⊢; omega) _).trans hb9
        have hlg : longB (L ++ [zerosB (65537 + pm)]) = true := by unfold longB; rw [List.any_append]; simp [zeros_size]; omega
        obtain ⟨f1, f2, f3, f4⟩ := app_broken (n := n) (s := s1) (t := t1) (b := false) (L := L ++ [zerosB (65537 + pm)]) (by rw [hlg]; rfl)
        have hlo1 := HC1.out.2.2
        have hpe1 := HC1.out.1.pend
        have hZ9 : ∀ q, Z7 q → q < W9.heap.size := fun q hq => Nat.lt_of_lt_of_le (HZ7.out q hq) hb79.size
        have HA10 := Lib.hid (append_J (HJ7.out.quiet (Turns.of_below hb79)) hZ9 (some ⟨g9, 0, none⟩) (L ++ [zerosB (65537 + pm)]) (k + 1) c9 (by rw [List.length_append, HM.out]; rfl) ho9.lat (by omega) HK.out (by rw [hpe1]; decide) (by rw [hlo1]; decide) HC1.out.2.1)
        rw [f1, f2, f3, f4] at HA10
        have hw9 : OLs W9 W6.heap.size (.slice A7 t1.recs.length c7) t1.recs := HW7.out.below hb79 (Nat.le_refl _)
        have HW9 := Lib.hid hw9
        have HZ9 := Lib.hid hZ9
        clear f1 f2 f3 f4 hlg hb79 hw9 hZ9 ho9 hg9 hg9' hgl9 hb9 HO8 HB8 cv hmk hmk' hlat hcn hlo1 hpe1 HJ7 HO7 HW7
        refine HA10.out.mono ?_
        rintro e W10 ⟨rfl, hj10, ht10⟩
        have HJ10 := Lib.hid hj10
        have HW10 := Lib.hid (HW9.out.keep (w' := W10) fun g hg => ht10.block g (HW9.out.lt g hg).2 (fun e => e (HZW7.out g hg)))
        have HZ10 : Hid (∀ q, Z7 q → q < W10.heap.size) := Lib.hid (fun q hq => Nat.lt_of_lt_of_le (HZ9.out q hq) ht10.size)
        clear hj10 ht10 HA10 HW9 HZ9
        obtain ⟨f1, f2, f3, f4⟩ := app_none (n := n) (s := s1) (t := t1) HTN.out
        have hlo1 := HC1.out.2.2
        have hpe1 := HC1.out.1.pend
        have HA11 := Lib.hid (append_J HJ10.out HZ10.out none [] 0 0 rfl LAt.nil (by omega) HK.out (by rw [hpe1]; decide) (by rw [hlo1]; decide) HC1.out.2.1)
        rw [f1, f2, f3, f4] at HA11
        clear f1 f2 f3 f4 hlo1 hpe1
        go_wp2_with fail
        refine HA11.out.mono ?_
        rintro e W11 ⟨rfl, hj11, ht11⟩
        have HJ11 := Lib.hid hj11
        have HW11 := Lib.hid (HW10.out.keep (w' := W11) fun g hg => ht11.block g (HW10.out.lt g hg).2 (fun e => e (HZW7.out g hg)))
        have HZ11 : Hid (∀ q, Z7 q → q < W11.heap.size) := Lib.hid (fun q hq => Nat.lt_of_lt_of_le (HZ10.out q hq) ht11.size)
        clear hj11 ht11 HA11 HW10 HZ10 HJ10
        go_wp2_with fail
        refine (cut_J HJ11.out 0).mono ?_
        rintro e W12 ⟨rfl, hj12, ht12⟩
        have HJ12 := Lib.hid hj12
        have HW12 := Lib.hid (HW11.out.keep (w' := W12) fun g hg => ht12.block g (HW11.out.lt g hg).2 (fun e => e (HZW7.out g hg)))
        have HZ12 : Hid (∀ q, Z7 q → q < W12.heap.size) := Lib.hid (fun q hq => Nat.lt_of_lt_of_le (HZ11.out q hq) ht12.size)
        obtain ⟨ho12, hl12, hp12⟩ := cut0 HC1.out.1.off
        rw [HC1.out.1.pend] at hp12
        have hp12' : (s1.cut 0).pend.length ≤ 800000 := by rw [hp12]; decide
        clear hj12 ht12 HW11 HZ11 HJ11
        go_wp2_with fail
        by_cases hsm : n < 35
        · obtain ⟨f1, f2, f3, f4⟩ := app_full (n := n) (s := s1.cut 0) (t := t1) (L := [⟨#[120]⟩]) (by decide) (by rw [sz_x]; have := HRMM.out; have := HTN.out; omega)
          obtain ⟨g1, g2, g3, g4⟩ := app_none (n := n) (s := s1.cut 0) (t := t1) HTN.out
          have e35 : decide ((n : Int) < 35) = true := by simp; omega
          have e35n : decide (n < 35) = true := by simp; omega
          have hl13 := lit_lat W12 #[.string ⟨#[120]⟩] [⟨#[120]⟩] rfl
          have HA13 := Lib.hid (append_J (HJ12.out.quiet (Turns.alloc W12 (.cells #[.string ⟨#[120]⟩] 9))) (fun q hq => by rw [World.size_alloc]; exact Nat.lt_succ_of_lt (HZ12.out q hq)) (some ⟨W12.heap.size, 0, none⟩) [⟨#[120]⟩] 1 1 rfl hl13 (by omega) HK.out (by omega) (by omega) HC1.out.2.1)
          rw [f1, f2, f3, f4] at HA13
          have HO12a := Lib.hid (HW12.out.alloc (.cells #[.string ⟨#[120]⟩] 9))
          have HG := Lib.hid (And.intro g1 (And.intro g2 (And.intro g3 g4)))
          have hl12' : (s1.cut 0).left ≤ 9223372036854775807 := by omega
          clear f1 f2 f3 f4 g1 g2 g3 g4 hl13 ho12 hl12 hp12 hsm
          refine HA13.out.mono ?_
          rintro e W13 ⟨rfl, hj13, ht13⟩
          have HJ13 := Lib.hid hj13
          have HW13 := Lib.hid (HO12a.out.keep (w' := W13) fun g hg => ht13.block g (HO12a.out.lt g hg).2 (fun e => e (HZW7.out g hg)))
          have HZ13 : Hid (∀ q, Z7 q → q < W13.heap.size) := Lib.hid (fun q hq => Nat.lt_of_lt_of_le (HZ12.out q hq) (Nat.le_trans (by rw [World.size_alloc]; omega) ht13.size))
          clear hj13 ht13 HA13 HO12a HJ12 HW12
          go_wp2_with fail
          refine (room_J HJ13.out HTN.out).mono ?_
          rw [HRMM.out]
          rintro e W14 ⟨rfl, hj14, hb14⟩
          have HJ14 := Lib.hid hj14
          have HW14 := Lib.hid (HW13.out.below hb14 (Nat.le_refl _))
          have HZ14 : Hid (∀ q, Z7 q → q < W14.heap.size) := Lib.hid (fun q hq => Nat.lt_of_lt_of_le (HZ13.out q hq) hb14.size)
          have HA15 := Lib.hid (append_J hj14 HZ14.out none [] 0 0 rfl LAt.nil (by omega) HK.out hp12' hl12' HC1.out.2.1)
          rw [HG.out.1, HG.out.2.1, HG.out.2.2.1, HG.out.2.2.2] at HA15
          clear hj14 hb14 HJ13 HW13 HZ13 hp12' hl12'
          go_wp2_with fail
          refine HA15.out.mono ?_
          rintro e W15 ⟨rfl, hj15, ht15⟩
          have HJ15 := Lib.hid hj15
          have HW15 := Lib.hid (HW14.out.keep (w' := W15) fun g hg => ht15.block g (HW14.out.lt g hg).2 (fun e => e (HZW7.out g hg)))
          clear hj15 ht15 HA15 HJ14 HW14 HZ14
          go_wp2_with fail
          refine (records_O HJ15.out.old (by have := HRL.out; omega)).mono ?_
          rintro e W16 ⟨⟨v16, rfl, ho16⟩, hb16⟩
          obtain ⟨A16, c16, rfl, -, -⟩ := ho16.slice
          have hw16 : OLs W16 W6.heap.size (.slice A7 t1.recs.length c7) t1.recs := HW15.out.below hb16 (Nat.le_refl _)
          have HB16 := Lib.hid (HJ15.out.quiet (Turns.of_below hb16)).below
          have HSM := Lib.hid (same_walk A16 A7 t1.recs t1.recs t1.recs.length t1.recs.length c16 c7 rfl rfl (by have := HRL.out; omega) W16 ho16.lat hw16.lat)
          rw [show decide (t1.recs = t1.recs) = true by simp] at HSM
          clear ho16 hb16 hw16
          go_wp2_with (first | (go_at_call 16; refine HSM.out.mono ?_; rintro e W17 ⟨rfl, hb17⟩; have HB17 := Lib.hid (HB16.out.trans (hb17.mono HB16.out.size)); clear hb17) | (go_at_call 11; refine (appendnil_walk _ _ _ _).mono ?_; rintro e W18 ⟨rfl, rfl⟩) | (go_at_call 13; refine (recordsnil_walk _).mono ?_; rintro e W19 ⟨rfl, rfl⟩) | (go_at_call 12; refine (roomnil_walk _).mono ?_; rintro e W20 ⟨rfl, rfl⟩) | fail)
          go_ret
          exact ⟨rfl, HB17.out⟩
        · obtain ⟨f1, f2, f3, f4⟩ := app_off (n := n) (s := s1.cut 0) (t := t1) (L := [⟨#[120]⟩]) ho12 (by decide) (by rw [sz_x]; have := HRMM.out; have := HTN.out; omega) (by simp)
          obtain ⟨g1, g2, g3, g4⟩ := app_broken (n := n) (s := s1.cut 0) (t := t1) (b := true) (L := []) (by simp)
          have e35 : decide ((n : Int) < 35) = false := by simp; omega
          have e35n : decide (n < 35) = false := by simp; omega
          have hl13 := lit_lat W12 #[.string ⟨#[120]⟩] [⟨#[120]⟩] rfl
          have HA13 := Lib.hid (append_J (HJ12.out.quiet (Turns.alloc W12 (.cells #[.string ⟨#[120]⟩] 9))) (fun q hq => by rw [World.size_alloc]; exact Nat.lt_succ_of_lt (HZ12.out q hq)) (some ⟨W12.heap.size, 0, none⟩) [⟨#[120]⟩] 1 1 rfl hl13 (by omega) HK.out (by omega) (by omega) HC1.out.2.1)
          rw [f1, f2, f3, f4] at HA13
          have HO12a := Lib.hid (HW12.out.alloc (.cells #[.string ⟨#[120]⟩] 9))
          have HG := Lib.hid (And.intro g1 (And.intro g2 (And.intro g3 g4)))
          have hl12' : (s1.cut 0).left ≤ 9223372036854775807 := by omega
          clear f1 f2 f3 f4 g1 g2 g3 g4 hl13 ho12 hl12 hp12 hsm
          refine HA13.out.mono ?_
          rintro e W13 ⟨rfl, hj13, ht13⟩
          have HJ13 := Lib.hid hj13
          have HW13 := Lib.hid (HO12a.out.keep (w' := W13) fun g hg => ht13.block g (HO12a.out.lt g hg).2 (fun e => e (HZW7.out g hg)))
          have HZ13 : Hid (∀ q, Z7 q → q < W13.heap.size) := Lib.hid (fun q hq => Nat.lt_of_lt_of_le (HZ12.out q hq) (Nat.le_trans (by rw [World.size_alloc]; omega) ht13.size))
          clear hj13 ht13 HA13 HO12a HJ12 HW12
          go_wp2_with fail
          refine (room_J HJ13.out HTN.out).mono ?_
          rw [HRMM.out]
          rintro e W14 ⟨rfl, hj14, hb14⟩
          have HJ14 := Lib.hid hj14
          have HW14 := Lib.hid (HW13.out.below hb14 (Nat.le_refl _))
          have HZ14 : Hid (∀ q, Z7 q → q < W14.heap.size) := Lib.hid (fun q hq => Nat.lt_of_lt_of_le (HZ13.out q hq) hb14.size)
          have HA15 := Lib.hid (append_J hj14 HZ14.out none [] 0 0 rfl LAt.nil (by omega) HK.out hp12' hl12' HC1.out.2.1)
          rw [HG.out.1, HG.out.2.1, HG.out.2.2.1, HG.out.2.2.2] at HA15
          clear hj14 hb14 HJ13 HW13 HZ13 hp12' hl12'
          go_wp2_with fail
          refine HA15.out.mono ?_
          rintro e W15 ⟨rfl, hj15, ht15⟩
          have HJ15 := Lib.hid hj15
          have HW15 := Lib.hid (HW14.out.keep (w' := W15) fun g hg => ht15.block g (HW14.out.lt g hg).2 (fun e => e (HZW7.out g hg)))
          clear hj15 ht15 HA15 HJ14 HW14 HZ14
          go_wp2_with fail
          refine (records_O HJ15.out.old (by have := HRL.out; omega)).mono ?_
          rintro e W16 ⟨⟨v16, rfl, ho16⟩, hb16⟩
          obtain ⟨A16, c16, rfl, -, -⟩ := ho16.slice
          have hw16 : OLs W16 W6.heap.size (.slice A7 t1.recs.length c7) t1.recs := HW15.out.below hb16 (Nat.le_refl _)
          have HB16 := Lib.hid (HJ15.out.quiet (Turns.of_below hb16)).below
          have HSM := Lib.hid (same_walk A16 A7 t1.recs t1.recs t1.recs.length t1.recs.length c16 c7 rfl rfl (by have := HRL.out; omega) W16 ho16.lat hw16.lat)
          rw [show decide (t1.recs = t1.recs) = true by simp] at HSM
          clear ho16 hb16 hw16
          go_wp2_with (first | (go_at_call 16; refine HSM.out.mono ?_; rintro e W17 ⟨rfl, hb17⟩; have HB17 := Lib.hid (HB16.out.trans (hb17.mono HB16.out.size)); clear hb17) | (go_at_call 11; refine (appendnil_walk _ _ _ _).mono ?_; rintro e W18 ⟨rfl, rfl⟩) | (go_at_call 13; refine (recordsnil_walk _).mono ?_; rintro e W19 ⟨rfl, rfl⟩) | (go_at_call 12; refine (roomnil_walk _).mono ?_; rintro e W20 ⟨rfl, rfl⟩) | fail)
          go_ret
          exact ⟨rfl, HB17.out⟩
end Go.Proofs.YtllmciiadceinaaDoor
