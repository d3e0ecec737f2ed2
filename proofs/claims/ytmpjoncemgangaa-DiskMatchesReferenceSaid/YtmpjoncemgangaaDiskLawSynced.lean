/-
  The law DiskSynced answers true for all arguments. Conditions: the arguments are such as the row reads.
-/
import Derived.Test.YtmpjoncemgangaaDiskLawBack
namespace Go.Proofs.Ytmpjoncemgangaa
open Go Go.RowKit Go.Shelf Go.Sort

theorem Lives.len {W0 W : World} {Z : Nat → Prop} {d gd gv n : Nat} {s : DS} (h : Lives W0 Z W d gd gv n s) : s.dur.length = n ∧ s.vis.length = n ∧ (∀ x ∈ s.pend, x.1 + x.2.size ≤ n) := by
  obtain ⟨F, vp, h1, -, -⟩ := h
  exact ⟨h1.ld, h1.lv, h1.fit⟩
theorem crash_none (s : DS) (torn : Int) : s.crash [] torn = ⟨false, 0, s.dur, s.dur, []⟩ := by
  unfold DS.crash
  have : ordS [] s.pend.length = [] := by unfold ordS; simp
  rw [this]; rfl
theorem sync_dur {s : DS} {n k : Nat} (c : s.Calm n k) : s.sync.dur = s.vis ∧ s.sync.vis = s.vis := by rw [c.sync.2.1]; exact ⟨rfl, rfl⟩
theorem wr_dur {s : DS} {n k : Nat} (c : s.Calm n k) {p : Nat} {x : ByteArray} (h : p + x.size ≤ n) : (s.wr p x).dur = s.dur ∧ (s.wr p x).vis = patch s.vis p x.data.toList := by rw [c.wr h]; exact ⟨rfl, rfl⟩

set_option maxRecDepth 100000 in
set_option maxHeartbeats 8000000 in
theorem synced_walk (W : World) (z : Int) (A : Option Addr) (l : List WR) (cap : Nat) (torn : Int) (h1 : -9223372036854775808 ≤ z) (h2 : z ≤ 9223372036854775807) (hA : CAt W W.heap.size A 3 WR.cells l) (hok : ∀ y ∈ l, y.ok) :
    Calls Try.prog 7 #[.int .i64 z, .slice A l.length cap, .int .i64 torn] W fun e W' => e = .returned (.bool true) ∧ Below W.heap.size W W' := by
  obtain ⟨q1, q2⟩ := pickZ_range z (n := 300) (by omega)
  have HP := Lib.hid (pick_walk (x := z) (n := 300) · h1 h2 (by omega) (by omega))
  obtain ⟨n, hn⟩ : ∃ n : Nat, 1 + pickZ z 300 = n := ⟨(1 + pickZ z 300).toNat, by omega⟩
  obtain ⟨q, hq⟩ : ∃ q, pickZ z 300 = q := ⟨_, rfl⟩
  rw [hq] at HP q1 q2 hn
  have w1 : IntKind.i64.wrap (1 + q) = (n : Int) := by rw [IntKind.wrap_i64]; omega
  have hn1 : 1 ≤ n := by omega
  have hn2 : n ≤ 300 := by omega
  have hmk := mkRow n (by omega)
  obtain ⟨C, hC⟩ : ∃ C, madeCells #[.int .u8 0] n = C := ⟨_, rfl⟩
  rw [hC] at hmk
  have HCL := Lib.hid (show C.toList = (List.replicate n (0 : UInt8)).map bv by rw [← hC]; exact made_bytes n)
  clear hC
  have HA := Lib.hid hA
  have HOK := Lib.hid hok
  clear hn hq hA hok
  go_enter Try.func7, Try.ntmps7
  go_wp2_with fail
  refine (sane_walk W).mono ?_
  rintro e W1 ⟨rfl, hb⟩
  have HB := Lib.hid hb
  clear hb
  go_wp2_with fail
  refine (HP.out W1).mono ?_
  rintro e W2 ⟨rfl, rfl⟩
  go_wp2_with fail
  refine (new_L (W0 := W) (Z := fun _ => False) (Turns.of_below HB.out) (fun _ e => e.elim) n hn1 (by omega)).mono ?_
  rintro e W2 ⟨⟨d, gd, gv, rfl, h⟩, -⟩
  have HL := Lib.hid ((h.mono (Z' := fun k => k = W2.heap.size) (fun k e hk => by omega)).quiet (Turns.alloc W2 (.cells C 5)))
  have HR := Lib.hid (RAt.alloc_new (f := bv) W2 C 5 HCL.out)
  have HSZ := Lib.hid h.size
  clear h
  have hcv := HR.out.convert (P := Try.prog) (cap := n) (show (List.replicate n (0 : UInt8)).length = n by simp) 40 9 5 Try.underlying40 Try.underlying5 Try.underlying9
  go_wp2_with fail
  obtain ⟨gb, hgb⟩ : ∃ gb, W2.heap.size = gb := ⟨_, rfl⟩
  rw [hgb] at HL HR HSZ ⊢
  obtain ⟨W3, hW3⟩ : ∃ W3, W2.alloc (.cells C 5) = W3 := ⟨_, rfl⟩
  rw [hW3] at HL HR ⊢
  clear hgb hW3 hmk
  clear hcv
  go_loopw [11, 12, 13] (fun u v _ wr => ∃ (k : Nat) (s : DS), k ≤ l.length ∧ k ≤ 60 ∧ v = .int .i64 (k : Int) ∧ u = .string ⟨s.dur.toArray⟩ ∧ Lives W (fun j => j = gb) wr d gd gv n s ∧ Hid (s.Calm n k) ∧ RAt wr gb bv s.vis) (fun _ v _ _ => 60 - (intOf v).toNat)
  case atStart => exact ⟨0, DS.fresh n, by omega, by omega, rfl, rfl, HL.out, Lib.hid (DS.Calm.fresh n), HR.out⟩
  case round =>
    obtain ⟨k, s, hk1, hk2, rfl, rfl, hL, HC, hr⟩ := hrel
    have HLk := Lib.hid hL
    have HLS := Lib.hid hL.size
    have HRk := Lib.hid hr
    obtain ⟨S0, hS0⟩ : ∃ S0 : ByteArray, ⟨s.dur.toArray⟩ = S0 := ⟨_, rfl⟩
    have HS0 := Lib.hid hS0
    rw [hS0]
    clear hL hr HL HR hS0
    by_cases hlt : k < l.length ∧ k < 60
    · have d1 : decide ((k : Int) < (l.length : Int)) = true := by simp [hlt]
      have d2 : decide ((k : Int) < 60) = true := by simp; omega
      have hlt2 := hlt.2
      replace hlt := hlt.1
      obtain ⟨a, rfl, hab, hac⟩ := (HA.out.below HLk.out.below).get hlt
      obtain ⟨y, hy⟩ : ∃ y, l[k] = y := ⟨_, rfl⟩
      rw [hy] at hac
      have HY := Lib.hid (HOK.out y (by rw [← hy]; exact List.getElem_mem hlt))
      obtain ⟨yo, ys, yb⟩ := y
      have c0 := hac 0 _ rfl
      have c1 := hac 1 _ rfl
      have c2 := hac 2 _ rfl
      rw [Nat.add_zero] at c0
      rw [add_field a (k * 3) 0] at c1
      rw [add_field a (k * 3) 1] at c2
      rw [Nat.zero_add] at c1
      have y1 : (0 : Int) ≤ (k : Int) := by omega
      have y2 : (k : Int) < (l.length : Int) := by omega
      have w2 : IntKind.i64.wrap ((k : Int) + 1) = ((k + 1 : Nat) : Int) := by rw [IntKind.wrap_i64]; omega
      clear hac
      clear hy
      go_wp2_with fail
      obtain ⟨pr1, pr2⟩ := pickZ_range yo (n := ((n + 1 : Nat) : Int)) (by omega)
      obtain ⟨p, hp⟩ : ∃ p : Nat, pickZ yo ((n + 1 : Nat) : Int) = (p : Int) := ⟨(pickZ yo ((n + 1 : Nat) : Int)).toNat, by omega⟩
      have hys := HY.out.2.2
      unfold maxLen at hys
      refine (fits_walk wr yo ys yb n p HY.out.1 HY.out.2.1 (by dsimp only at hys; omega) (by omega) hp).mono ?_
      rw [hp] at pr1 pr2
      obtain ⟨x, hx⟩ : ∃ x, lcut ys (n - p) = x := ⟨_, rfl⟩
      rw [hx]
      have HFIT : Hid (p + x.size ≤ n) := Lib.hid (by have := lcut_size ys (n - p); rw [hx] at this; omega)
      have HXP := Lib.hid (And.intro hp hx)
      clear hp hx pr1 pr2 hys c0 c1 c2
      rintro e W4 ⟨rfl, hb4⟩
      have HL5 := Lib.hid (((HLk.out.quiet (Turns.of_below hb4)).mono (Z' := fun j => (j = gb) ∨ j = W4.heap.size) (fun j e hj => by rcases e with e | e; exact e; omega)).quiet (Turns.alloc W4 (.cells #[.int .i64 (p : Int), .string x, .bool yb] 53)))
      have HT5 := Lib.hid ((Turns.of_below (Z := fun _ => False) hb4).trans (Turns.alloc W4 (.cells #[.int .i64 (p : Int), .string x, .bool yb] 53)))
      have HWB := Lib.hid hb4.size
      go_wp2_with fail
      obtain ⟨w, hw⟩ : ∃ w, W4.heap.size = w := ⟨_, rfl⟩
      obtain ⟨W5, hW5⟩ : ∃ W5, W4.alloc (.cells #[.int .i64 (p : Int), .string x, .bool yb] 53) = W5 := ⟨_, rfl⟩
      have HC5 : Hid (RecAt W5 w p x yb) := Lib.hid (by
        rw [← hW5, ← hw]
        exact ⟨by rw [World.size_alloc]; omega, by simp, by simp, by simp⟩)
      rw [hw] at HL5 HWB ⊢
      rw [hW5] at HL5 HT5 ⊢
      have HR5 : Hid (RAt W5 gb bv s.vis) := Lib.hid (HRk.out.turns HT5.out (fun e => e))
      have HGW : Hid (gb < w) := Lib.hid (Nat.lt_of_lt_of_le HRk.out.lt HWB.out)
      clear HRk
      clear hw hW5 hb4 HLk HT5
      refine (put_walk W5 gb n p s.vis x HR5.out HC.out.vis HFIT.out (by omega)).mono ?_
      rintro e W6 ⟨rfl, hr, ht⟩
      have HR6 := Lib.hid hr
      have HL6 := Lib.hid (HL5.out.keep (ht.mono (fun j e => .inl e)) (fun j e => by have h1 := HWB.out; have h2 := HSZ.out; have h3 := HLS.out; rcases e with e | e <;> (rw [e]; omega)))
      have HC6 := Lib.hid (HC5.out.turns ht (fun e => by have := HGW.out; omega))
      clear hr ht HL5 HR5 HC5
      have d0 := HC6.out.c0
      have d1' := HC6.out.c1
      have d2' := HC6.out.c2
      go_wp2_with fail
      refine (write_L HL6.out (fun j e => by rcases e with e | e <;> rw [e] <;> first | exact HC6.out.lt | exact HR6.out.lt) p x (by have := HFIT.out; omega) (by have := HC.out.pend; omega) (by rw [HC.out.left]; omega)).mono ?_
      rw [HC.out.writeE HFIT.out]
      rintro e W7 ⟨rfl, hl, ht⟩
      have HL7 := Lib.hid hl
      have HR7 := Lib.hid (HR6.out.turns ht (fun e => e (.inl rfl)))
      have HC7 := Lib.hid (HC6.out.turns ht (fun e => e (.inr rfl)))
      clear hl ht HL6 HR6 HC6
      clear d0 d1' d2'
      cases yb
      · have d2' := HC7.out.c2
        obtain ⟨s', hs'⟩ : ∃ s', s.wr p x = s' := ⟨_, rfl⟩
        have HCs : Hid (s'.Calm n (k + 1)) := Lib.hid (by rw [← hs']; exact HC.out.step HFIT.out)
        have HDU : Hid (S0 = ⟨s'.dur.toArray⟩) := Lib.hid (by rw [← hs', (wr_dur HC.out HFIT.out).1]; exact HS0.out.symm)
        have hvis : s'.vis = patch s.vis p x.data.toList := by rw [← hs', HC.out.wr HFIT.out]
        rw [hs'] at HL7
        rw [← hvis] at HR7
        clear hs' hvis
        go_wp2_with fail
        exact ⟨⟨k + 1, s', by omega, by omega, rfl, by rw [HDU.out], HL7.out.mono (fun j e _ => .inl e), HCs, HR7.out⟩, by simp [intOf]; omega⟩
      · have d2' := HC7.out.c2
        go_wp2_with fail
        refine (sync_L HL7.out).mono ?_
        rw [(HC.out.step HFIT.out).sync.1]
        rintro e W8 ⟨rfl, hl, ht⟩
        have HL8 := Lib.hid hl
        have HR8 := Lib.hid (HR7.out.turns ht (fun e => e (.inl rfl)))
        have HC8 := Lib.hid (HC7.out.turns ht (fun e => e (.inr rfl)))
        clear hl ht HL7 HR7 HC7
        clear d2'
        have d2' := HC8.out.c2
        obtain ⟨s', hs'⟩ : ∃ s', (s.wr p x).sync = s' := ⟨_, rfl⟩
        have HCs : Hid (s'.Calm n (k + 1)) := Lib.hid (by rw [← hs']; exact (HC.out.step HFIT.out).sync.2.2)
        have hvis : s'.vis = patch s.vis p x.data.toList := by rw [← hs', (HC.out.step HFIT.out).sync.2.1, HC.out.wr HFIT.out]
        have HDU : Hid (s'.vis = s'.dur) := Lib.hid (by rw [← hs', (sync_dur (HC.out.step HFIT.out)).1, (sync_dur (HC.out.step HFIT.out)).2])
        rw [hs'] at HL8
        rw [← hvis] at HR8
        have hcv := HR8.out.convert (P := Try.prog) (cap := n) HCs.out.vis 40 9 5 Try.underlying40 Try.underlying5 Try.underlying9
        obtain ⟨T, hT⟩ : ∃ T : ByteArray, ⟨s'.vis.toArray⟩ = T := ⟨_, rfl⟩
        rw [hT] at hcv
        have HT := Lib.hid hT
        clear hs' hvis hT
        go_wp2_with fail
        exact ⟨⟨k + 1, s', by omega, by omega, rfl, by rw [← HDU.out, HT.out], HL8.out.mono (fun j e _ => .inl e), HCs, HR8.out⟩, by simp [intOf]; omega⟩
    · by_cases hl1 : k < l.length
      · have d1 : decide ((k : Int) < (l.length : Int)) = true := by simp [hl1]
        have d2 : decide ((k : Int) < 60) = false := by simp; omega
        go_wp2_with fail
        refine (crash_L HLk.out none [] 0 0 rfl (by omega) LAt.nil torn (by have := HC.out.pend; omega)).mono ?_
        rw [crash_none]
        rintro e W5 ⟨rfl, hl, -⟩
        have HL5 := Lib.hid hl
        clear hl
        go_wp2_with fail
        have HC5 : Hid (DS.Calm ⟨false, 0, s.dur, s.dur, []⟩ n 0) := Lib.hid ⟨rfl, rfl, Nat.le_refl _, HL5.out.len.1⟩
        refine (read_L HL5.out 0 n).mono ?_
        rw [HC5.out.read, HS0.out]
        rintro e W9 ⟨rfl, rfl⟩
        go_wp2_with fail
        refine (pending_L HL5.out).mono ?_
        rw [show (((⟨false, 0, s.dur, s.dur, []⟩ : DS).pend.length : Nat) : Int) = 0 from rfl]
        rintro e W9 ⟨rfl, rfl⟩
        go_wp2_with fail
        go_ret
        exact ⟨rfl, HL5.out.below⟩
      · have d1 : decide ((k : Int) < (l.length : Int)) = false := by simp; omega
        go_wp2_with fail
        refine (crash_L HLk.out none [] 0 0 rfl (by omega) LAt.nil torn (by have := HC.out.pend; omega)).mono ?_
        rw [crash_none]
        rintro e W5 ⟨rfl, hl, -⟩
        have HL5 := Lib.hid hl
        clear hl
        go_wp2_with fail
        have HC5 : Hid (DS.Calm ⟨false, 0, s.dur, s.dur, []⟩ n 0) := Lib.hid ⟨rfl, rfl, Nat.le_refl _, HL5.out.len.1⟩
        refine (read_L HL5.out 0 n).mono ?_
        rw [HC5.out.read, HS0.out]
        rintro e W9 ⟨rfl, rfl⟩
        go_wp2_with fail
        refine (pending_L HL5.out).mono ?_
        rw [show (((⟨false, 0, s.dur, s.dur, []⟩ : DS).pend.length : Nat) : Int) = 0 from rfl]
        rintro e W9 ⟨rfl, rfl⟩
        go_wp2_with fail
        go_ret
        exact ⟨rfl, HL5.out.below⟩

end Go.Proofs.Ytmpjoncemgangaa
