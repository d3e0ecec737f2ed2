/-
  Contract of package disk's Crash. Conditions: each contract's own.
-/
import Derived.Test.YtllmciiadceinaaGreatDoorDiskQ
namespace Go.Proofs.YtllmciiadceinaaGreatDoor
open Go Go.RowKit Go.Shelf Go.Sort

/-- The bytes of a pending write that survive, the last one torn. -/
def tornS (torn : Int) (x : ByteArray) : ByteArray := if 0 ≤ torn then x.extract 0 (min torn.toNat x.size) else x
/-- The survivors' writes, one after the other. -/
def crashF (pend : List (Nat × ByteArray)) (torn : Int) : List Nat → List UInt8 → List UInt8
  | [], d => d
  | i :: r, d => crashF pend torn r (match pend[i]? with
      | some x => patch d x.1 (if r = [] then tornS torn x.2 else x.2).data.toList
      | none => d)
/-- What Crash leaves. -/
def DS.crash (s : DS) (keep : List Int) (torn : Int) : DS :=
  { off := false, left := 0, dur := crashF s.pend torn (ordS keep s.pend.length) s.dur, vis := crashF s.pend torn (ordS keep s.pend.length) s.dur, pend := [] }
theorem tornS_le (torn : Int) (x : ByteArray) : (tornS torn x).size ≤ x.size := by
  unfold tornS; split
  · rw [ByteArray.size_extract]; omega
  · exact Nat.le_refl _

/-- The durable bytes are written by a call. -/
theorem DAt.wroteDur {W W' : World} {F : Nat → Prop} {d gd gv n : Nat} {vp : Value} {s : DS} (h : DAt W F d gd gv vp n s) (m : List UInt8) (hm : m.length = n) (hr : RAt W' gd bv m) (ht : Turns (fun k => k = gd) W W') : DAt W' F d gd gv vp n { s with dur := m } := by
  obtain ⟨n1, n2, n3⟩ := h.ne
  obtain ⟨f1, f2, f3⟩ := h.fd
  have bgv := ht.block gv (h.lf gv f3) (fun e => n3 e.symm)
  refine ⟨(ht.block d (h.lf d f1) n1).trans h.hd, hr, ?_, hm, h.lv, ?_, h.fit, h.ne, h.np, h.fd, h.fp, fun k hk => Nat.lt_of_lt_of_le (h.lf k hk) ht.size, h.n64⟩
  · exact ⟨Nat.lt_of_lt_of_le h.rv.lt ht.size, fun i x hx => (World.cell?_of_block (a := ⟨gv, i, none⟩) bgv).trans (h.rv.cell i x hx), fun i hi => (World.frozen?_of_block (a := ⟨gv, i, none⟩) bgv).trans (h.rv.free i hi)⟩
  · exact h.pp.keep fun g hg => ht.block g (h.pp.lt g hg).2 (h.np g hg).2.1

theorem wf_get : ∀ (l : List (Nat × ByteArray)) (i : Nat) (x : Nat × ByteArray), l[i]? = some x → (l.flatMap wf)[i * 2]? = some (.int .i64 (x.1 : Int)) ∧ (l.flatMap wf)[i * 2 + 1]? = some (.string x.2)
  | y :: l, 0, x, h => by
    obtain rfl : y = x := by simpa using h
    exact ⟨rfl, rfl⟩
  | y :: l, i + 1, x, h => by
    have := wf_get l i x (by simpa using h)
    rw [List.flatMap_cons, show (i + 1) * 2 = i * 2 + 1 + 1 by omega]
    exact this
theorem OL.get2 {w : World} {B g n cap : Nat} {e : TypeId} {l : List (Nat × ByteArray)} (h : OL w B e 2 wf (.slice (some ⟨g, 0, none⟩) n cap) l) {i : Nat} {x : Nat × ByteArray} (hi : l[i]? = some x) :
    w.cell? ⟨g, i * 2, none⟩ = some (.int .i64 (x.1 : Int)) ∧ w.cell? ⟨g, i * 2 + 1, none⟩ = some (.string x.2) := by
  have hil : i < l.length := (List.getElem?_eq_some_iff.1 hi).1
  obtain rfl := h.len.1
  obtain ⟨h1, h2⟩ := wf_get l i x hi
  exact ⟨(World.ownsRow.cellAt h (i * 2) (by omega)).trans h1, (World.ownsRow.cellAt h (i * 2 + 1) (by omega)).trans h2⟩

theorem crash_step {pend : List (Nat × ByteArray)} {torn : Int} {ord : List Nat} {k m i o : Nat} {bs : ByteArray} {dk X : List UInt8} (hm : ord.length = m) (h : crashF pend torn (ord.drop k) dk = X) (hi : ord[k]? = some i) (hx : pend[i]? = some (o, bs)) :
    crashF pend torn (ord.drop (k + 1)) (patch dk o (if k + 1 = m then tornS torn bs else bs).data.toList) = X := by
  obtain ⟨hk, e⟩ := List.getElem?_eq_some_iff.1 hi
  rw [List.drop_eq_getElem_cons hk, e] at h
  rw [crashF, hx] at h
  rw [← h]
  dsimp only
  by_cases c : k + 1 = m
  · rw [if_pos c, if_pos (List.drop_eq_nil_iff.2 (by omega))]
  · rw [if_neg c, if_neg (fun q => by have := List.drop_eq_nil_iff.1 q; omega)]

set_option maxHeartbeats 2000000 in
theorem crashnil_walk (W : World) (A : Option Addr) (n c : Nat) (torn : Int) :
    Calls Tryz.prog 30 #[.pointer none, .slice A n c, .int .i64 torn] W fun e W' => e = .returned (.int .i64 1) ∧ Below W.heap.size W W' := by
  go_enter Tryz.func30, Tryz.ntmps30
  go_wp2_with fail
  go_ret
  exact ⟨rfl, (Below.refl _ _).alloc (Nat.le_refl _) _⟩

set_option maxRecDepth 100000 in
set_option maxHeartbeats 4000000 in
theorem crash_walk {W : World} {F : Nat → Prop} {d gd gv n : Nat} {vp : Value} {s : DS} (h : DAt W F d gd gv vp n s) (A : Option Addr) (keep : List Int) (kn cap : Nat) (hkn : keep.length = kn) (hk : kn ≤ 1000000) (hA : LAt W W.heap.size A iv keep) (torn : Int)
    (hp : s.pend.length ≤ 1000000) :
    Calls Tryz.prog 30 #[.pointer (some ⟨d, 0, none⟩), .slice A kn cap, .int .i64 torn] W fun e W' => e = .returned (.int .i64 0) ∧ (∃ vp', DAt W' F d gd gv vp' n (s.crash keep torn)) ∧ Turns F W W' := by
  obtain ⟨W1, hW1⟩ : ∃ W1, (W.alloc (.cells #[.pointer (some ⟨d, 0, none⟩)] 27)).alloc (.cells #[.slice A kn cap] 56) = W1 := ⟨_, rfl⟩
  have hb1 : Below W.heap.size W W1 := by rw [← hW1]; exact ((Below.refl _ _).alloc (Nat.le_refl _) _).alloc (by simp) _
  have hs1 : W1.heap.size = W.heap.size + 2 := by rw [← hW1]; simp
  have x0 : Boxed W1 W.heap.size 27 (.pointer (some ⟨d, 0, none⟩)) := by rw [← hW1]; exact (Boxed.new W _ _).alloc _
  have x1 : Boxed W1 (W.heap.size + 1) 56 (.slice A kn cap) := by
    have := Boxed.new (W.alloc (.cells #[.pointer (some ⟨d, 0, none⟩)] 27)) 56 (.slice A kn cap)
    rw [World.size_alloc, hW1] at this; exact this
  have HS := Lib.hid (sorted_walk A keep kn cap (W.heap.size + 1) hkn hk W1 x1 ((hA.below hb1).more (by omega)))
  have HD1 := Lib.hid (h.keep (Turns.of_below (Z := fun _ => False) hb1) (fun _ _ q => q))
  have HT1 := Lib.hid (Turns.of_below (Z := F) hb1)
  have HX0 := Lib.hid x0
  have HW1 := Lib.hid hW1
  have HLF := Lib.hid h.lf
  have HFD := Lib.hid h.fd
  clear h hA hb1 x0 x1 hW1
  go_enter Tryz.func30, Tryz.ntmps30
  go_wp2_with (first | (go_at_call 62; refine (values_any _ _ _ _).mono ?_; rintro e W2 ⟨rfl, rfl⟩) | (go_at_call 61; (rw [HW1.out]); refine HS.out.mono ?_; rintro e W2 ⟨v, rfl, ho, hb⟩; have HO := Lib.hid ho; have HB := Lib.hid hb; clear ho hb) | (go_at_call 60; refine (compact_walk HO.out (by simp; omega)).mono ?_; rintro e W3 ⟨v3, rfl, hr3⟩; have HR3 := Lib.hid hr3; clear hr3) | fail)
  obtain ⟨pA, pc, hvp, -, -⟩ := HD1.out.pp.slice
  have HVP := Lib.hid hvp
  have t12 : Turns F W1 W2 := Turns.of_below HB.out
  have hown : ∀ j, v.ownBlock = some j → W1.heap.size ≤ j := fun j e => (HO.out.lt j e).1
  have hnf : ∀ j, F j → ¬ v.ownBlock = some j := fun j hf e => by have := HLF.out j hf; have := hown j e; omega
  have HD3 := Lib.hid ((HD1.out.keep (Turns.of_below (Z := fun _ => False) HB.out) (fun _ _ q => q)).keep HR3.out.turns hnf)
  have x2 : Boxed W2 W.heap.size 27 (.pointer (some ⟨d, 0, none⟩)) := (HB.out.block _ (by omega)).trans HX0.out
  have hbs := HB.out.size
  have x3 : Boxed W3 W.heap.size 27 (.pointer (some ⟨d, 0, none⟩)) := (HR3.out.turns.block _ (by omega) (fun e => by have := hown _ e; omega)).trans x2
  have hb3 := HR3.out.turns.size
  have hd1 := HLF.out d HFD.out.1
  have hcl : (Lib.compact (keep.mergeSort fun x y => decide (x ≤ y))).length ≤ 1000000 := Nat.le_trans (Lib.compact_length_le _) (by simp; omega)
  have c4 : W3.cell? ⟨d, 4, none⟩ = some (.slice pA s.pend.length pc) := by rw [HD3.out.cell 4, HVP.out]; rfl
  refine (delete_walk HR3.out.ol hcl W.heap.size d s.pend.length pc pA ⟨by omega, by omega⟩ ⟨fun e => ?e1, fun e => ?e2⟩ x3.cell c4).mono ?_
  case e1 => rw [HR3.out.own] at e; have := hown _ e; omega
  case e2 => rw [HR3.out.own] at e; have := hown _ e; omega
  rintro e W4 ⟨v4, rfl, hr4⟩
  rw [order_eq] at hr4
  have hnf3 : ∀ j, F j → ¬ v3.ownBlock = some j := fun j hf e => hnf j hf (HR3.out.own ▸ e)
  have HD4 := Lib.hid (HD3.out.keep hr4.turns hnf3)
  have x4 : Boxed W4 W.heap.size 27 (.pointer (some ⟨d, 0, none⟩)) := (hr4.turns.block _ (by omega) (fun e => by rw [HR3.out.own] at e; have := hown _ e; omega)).trans x3
  have HX4 := Lib.hid x4
  have HT4 := Lib.hid ((HT1.out.trans t12).then ((HR3.out.turns.trans (hr4.turns.mono fun j e => HR3.out.own ▸ e))) (fun k e => .inr (by have := hown k e; omega)))
  have HO4 := Lib.hid hr4.ol
  have HV4 := Lib.hid (show ∀ j, v4.ownBlock = some j → W1.heap.size ≤ j from fun j e => hown j (by rw [← HR3.out.own, ← hr4.own]; exact e))
  have hs4 : W1.heap.size ≤ W4.heap.size := Nat.le_trans hbs (Nat.le_trans hb3 hr4.turns.size)
  obtain ⟨ord, hord⟩ : ∃ ord, ordS keep s.pend.length = ord := ⟨_, rfl⟩
  obtain ⟨m, hm⟩ : ∃ m, ord.length = m := ⟨_, rfl⟩
  rw [hord] at HO4
  have HM : Hid (m ≤ 1000000) := Lib.hid (by rw [← hm, ← hord]; exact Nat.le_trans (List.length_filter_le _ _) (by simpa using hp))
  have HOL : Hid (∀ i ∈ ord, i < s.pend.length) := Lib.hid (fun i hi => by rw [← hord] at hi; have := (List.mem_filter.1 hi).1; simpa using this)
  have HORD := Lib.hid hord
  have HMM := Lib.hid hm
  obtain ⟨oA, oc, ho4, -, -⟩ := HO4.out.slice
  rw [List.length_map, hm] at ho4
  subst ho4
  clear t12 hown hnf x2 x3 x4 c4 hnf3 hr4 hord hm HR3 HO HB HS HD3 hcl hvp hd1
  have HVP2 := Lib.hid (show vp = _ from HVP.out)
  have HS1 := Lib.hid hs1
  have HS4 := Lib.hid hs4
  clear hkn hk hp hs1 hbs hb3 hs4
  go_wp2_with fail
  go_loopw [8, 9, 10, 22] (fun _ _ _ v wr => ∃ (k : Nat) (dk : List UInt8), k ≤ m ∧ v = .int .i64 (k : Int) ∧ DAt wr F d gd gv vp n { s with dur := dk } ∧ Boxed wr W.heap.size 27 (.pointer (some ⟨d, 0, none⟩)) ∧ OL wr W1.heap.size 3 1 (one iv) (.slice oA m oc) (ord.map fun (i : Nat) => (i : Int)) ∧
    Hid (crashF s.pend torn (ord.drop k) dk = crashF s.pend torn ord s.dur) ∧ Turns F W wr) (fun _ _ _ v _ => m - (intOf v).toNat)
  case atStart => exact ⟨0, s.dur, by omega, rfl, HD4.out, HX4.out, HO4.out, Lib.hid rfl, HT4.out⟩
  case round =>
    obtain ⟨k, dk, hkm, rfl, hD, hx, hol, HF, ht⟩ := hrel
    have HX := Lib.hid hx
    have HOLw := Lib.hid hol
    have HT := Lib.hid ht
    have HD := Lib.hid hD
    have cb := hx.cell
    have fb := hx.frozen
    clear hx hol ht hD
    by_cases hlt : k < m
    · have d1 : decide ((k : Int) < (m : Int)) = true := by simp [hlt]
      have hkl : k < ord.length := by rw [HMM.out]; exact hlt
      obtain ⟨i, hi⟩ : ∃ i, ord[k]'hkl = i := ⟨_, rfl⟩
      have hil : i < s.pend.length := by rw [← hi]; exact HOL.out _ (List.getElem_mem hkl)
      obtain ⟨x, hxi⟩ : ∃ x, s.pend[i]'hil = x := ⟨_, rfl⟩
      have hxq : s.pend[i]? = some x := by rw [List.getElem?_eq_getElem hil, hxi]
      obtain ⟨o, bs⟩ := x
      obtain ⟨g, c', he, -, -, -, -⟩ := HOLw.out.form (by rw [List.length_map, HMM.out]; omega)
      obtain rfl : oA = some ⟨g, 0, none⟩ := by injection he
      have cg : wr.cell? ⟨g, k, none⟩ = some (.int .i64 (i : Int)) := by
        have := HOLw.out.getq (i := k) (x := ((i : Nat) : Int)) (by rw [List.getElem?_map, List.getElem?_eq_getElem hkl, hi]; rfl)
        exact this
      have hpp := HD.out.pp
      rw [HVP.out] at hpp
      obtain ⟨pg, c2, hpe, -, -, -, -⟩ := hpp.form (show 0 < s.pend.length by omega)
      obtain rfl : pA = some ⟨pg, 0, none⟩ := by injection hpe
      obtain ⟨q1, q2⟩ := hpp.get2 hxq
      have c4 : wr.cell? ⟨d, 4, none⟩ = some (.slice (some ⟨pg, 0, none⟩) s.pend.length pc) := by rw [HD.out.cell 4, HVP.out]; rfl
      have c2' : wr.cell? ⟨d, 2, none⟩ = some (.slice (some ⟨gd, 0, none⟩) n n) := HD.out.cell 2
      have HFIT : Hid (o + bs.size ≤ n) := Lib.hid (HD.out.fit (o, bs) (by show (o, bs) ∈ s.pend; rw [← hxi]; exact List.getElem_mem hil))
      have y1 : (0 : Int) ≤ (k : Int) := by omega
      have y2 : (k : Int) < (m : Int) := by omega
      have y3 : (0 : Int) ≤ (i : Int) := by omega
      have y4 : (i : Int) < (s.pend.length : Int) := by omega
      have w2 : IntKind.i64.wrap ((k : Int) + 1) = ((k + 1 : Nat) : Int) := by have := HM.out; rw [IntKind.wrap_i64]; omega
      have HI := Lib.hid (show ord[k]? = some i by rw [List.getElem?_eq_getElem hkl, hi])
      dsimp only at q1 q2
      have HXQ := Lib.hid hxq
      clear hi hkl hxi hxq he hpe hpp hil
      have htorn := crash_step HMM.out HF.out HI.out HXQ.out
      obtain ⟨q, hq⟩ : ∃ q, m = q + 1 := ⟨m - 1, by omega⟩
      have w3 : IntKind.i64.wrap ((m : Int) - 1) = (q : Int) := by have := HM.out; rw [IntKind.wrap_i64]; omega
      obtain ⟨y, hy⟩ : ∃ y, (if k + 1 = m then tornS torn bs else bs) = y := ⟨_, rfl⟩
      have hys : y.size ≤ bs.size := by rw [← hy]; split; exact tornS_le _ _; exact Nat.le_refl _
      have hcase : (k ≠ q ∧ y = bs) ∨ (k = q ∧ torn < 0 ∧ y = bs) ∨ (k = q ∧ 0 ≤ torn ∧ torn < bs.size ∧ y = bs.extract 0 torn.toNat) ∨ (k = q ∧ (bs.size : Int) ≤ torn ∧ y = bs) := by
        by_cases c1 : k + 1 = m
        · rw [if_pos c1] at hy
          unfold tornS at hy
          by_cases c2 : 0 ≤ torn
          · rw [if_pos c2] at hy
            by_cases c3 : torn < bs.size
            · rw [Nat.min_eq_left (by omega)] at hy
              exact .inr (.inr (.inl ⟨by omega, c2, c3, hy.symm⟩))
            · rw [Nat.min_eq_right (by omega)] at hy
              exact .inr (.inr (.inr ⟨by omega, by omega, by rw [← hy]; simp⟩))
          · rw [if_neg c2] at hy
            exact .inr (.inl ⟨by omega, by omega, hy.symm⟩)
        · rw [if_neg c1] at hy
          exact .inl ⟨by omega, hy.symm⟩
      rw [hy] at htorn
      have HTORN := Lib.hid htorn
      have hw1 : DAt (wr.alloc (.cells #[.int .i64 (o : Int), .string y] 92)).drew F d gd gv vp n { s with dur := dk } := HD.out.keep ((Turns.alloc (Z := fun _ => False) _ _).trans (Turns.drew _)) (fun _ _ q => q)
      have hxa : Boxed (wr.alloc (.cells #[.int .i64 (o : Int), .string y] 92)).drew W.heap.size 27 (.pointer (some ⟨d, 0, none⟩)) := ((Turns.alloc (Z := fun _ => False) wr _).trans (Turns.drew _)).boxed HX.out (fun q => q)
      have HW1d := Lib.hid hw1
      have HXA := Lib.hid hxa
      have HON := Lib.hid (onto_walk gd n o dk y _ hw1.rd hw1.ld (by have := HFIT.out; omega) hw1.n64)
      have HOA : Hid (OL (wr.alloc (.cells #[.int .i64 (o : Int), .string y] 92)).drew W1.heap.size 3 1 (one iv) (.slice (some ⟨g, 0, none⟩) m oc) (ord.map fun (i : Nat) => (i : Int))) := Lib.hid (HOLw.out.alloc _).drew
      have HTA := Lib.hid (HT.out.trans ((Turns.alloc (Z := F) wr (.cells #[.int .i64 (o : Int), .string y] 92)).trans (Turns.drew _)))
      have HNE : Hid (W.heap.size ≠ gd ∧ g ≠ gd ∧ W.heap.size ≠ d ∧ wr.heap.size ≠ gd ∧ wr.heap.size ≠ d ∧ wr.heap.size ≠ W.heap.size) := Lib.hid (by
        have h1 := HLF.out gd HFD.out.2.1
        have h2 := HLF.out d HFD.out.1
        have h3 := HV4.out g rfl
        have h4 := HS1.out
        have h5 := HT.out.size
        have h6 := (HX.out).lt
        exact ⟨by omega, by omega, by omega, by omega, by omega, by omega⟩)
      have HQ := Lib.hid hq
      have HYS := Lib.hid hys
      have HS2 : Hid (∀ W2, Turns (fun k => k = gd) (wr.alloc (.cells #[.int .i64 (o : Int), .string y] 92)).drew W2 → W2.cell? ⟨W.heap.size, 0, none⟩ = some (.pointer (some ⟨d, 0, none⟩)) ∧ W2.cell? ⟨d, 2, none⟩ = some (.slice (some ⟨gd, 0, none⟩) n n) ∧ W2.cell? ⟨wr.heap.size, 0, none⟩ = some (.int .i64 (o : Int)) ∧ W2.cell? ⟨wr.heap.size, 1, none⟩ = some (.string y)) := Lib.hid (fun W2 ht => by
        obtain ⟨n1, n2, n3, n4, n5, n6⟩ := HNE.out
        have hsz : wr.heap.size < (wr.alloc (.cells #[.int .i64 (o : Int), .string y] 92)).drew.heap.size := by show _ < (wr.alloc _).heap.size; rw [World.size_alloc]; omega
        exact ⟨(ht.boxed HXA.out n1).cell, (ht.cell (p := ⟨d, 2, none⟩) (HW1d.out.lf d HW1d.out.fd.1) HW1d.out.ne.1).trans (HW1d.out.cell 2), (ht.cell (p := ⟨wr.heap.size, 0, none⟩) hsz n4).trans (by simp), (ht.cell (p := ⟨wr.heap.size, 1, none⟩) hsz n4).trans (by simp)⟩)
      clear hy htorn hys hw1 hxa hq
      rcases hcase with ⟨e1, e2⟩ | ⟨e1, e2, e3⟩ | ⟨e1, e2, e3, e4⟩ | ⟨e1, e2, e3⟩
      · have b1 : ((k : Int) == (q : Int)) = false := by simp; omega
        subst e2
        clear e1
        go_wp2_with fail
        go_region_held3 (fun w' => w'.cell? ⟨W.heap.size, 0, none⟩ = some (.pointer (some ⟨d, 0, none⟩)) ∧ w'.cell? ⟨d, 2, none⟩ = some (.slice (some ⟨gd, 0, none⟩) n n) ∧ w'.cell? ⟨wr.heap.size, 0, none⟩ = some (.int .i64 (o : Int)) ∧ w'.cell? ⟨wr.heap.size, 1, none⟩ = some (.string y)) (first | exact HS2.out _ (Turns.refl _ _) | exact HS2.out _ ‹Turns (fun k => k = gd) _ _› | fail) (first | (go_at_call 48; refine HON.out.mono ?_; rintro e W2 ⟨rfl, hR2, hT2⟩) | fail)
        all_goals go_wp2_with fail
        all_goals exact ⟨⟨k + 1, _, hlt, rfl, HW1d.out.wroteDur _ (by rw [patch_length (by have h1 : dk.length = n := HW1d.out.ld; have h2 := HFIT.out; have h3 := HYS.out; simp at h3 ⊢; omega)]; exact HW1d.out.ld) hR2 hT2, hT2.boxed HXA.out HNE.out.1, HOA.out.keep (fun j hj => hT2.block j (HOA.out.lt j hj).2 (by cases hj; exact HNE.out.2.1)), HTORN, HTA.out.trans (hT2.mono (fun j e => by rw [e]; exact HFD.out.2.1))⟩, by simp [intOf]; omega⟩
      · have b1 : ((k : Int) == (q : Int)) = true := by simp; omega
        have b2 : decide (0 ≤ torn) = false := by simp; omega
        subst e3
        clear e1
        go_wp2_with fail
        go_region_held3 (fun w' => w'.cell? ⟨W.heap.size, 0, none⟩ = some (.pointer (some ⟨d, 0, none⟩)) ∧ w'.cell? ⟨d, 2, none⟩ = some (.slice (some ⟨gd, 0, none⟩) n n) ∧ w'.cell? ⟨wr.heap.size, 0, none⟩ = some (.int .i64 (o : Int)) ∧ w'.cell? ⟨wr.heap.size, 1, none⟩ = some (.string y)) (first | exact HS2.out _ (Turns.refl _ _) | exact HS2.out _ ‹Turns (fun k => k = gd) _ _› | fail) (first | (go_at_call 48; refine HON.out.mono ?_; rintro e W2 ⟨rfl, hR2, hT2⟩) | fail)
        all_goals go_wp2_with fail
        all_goals exact ⟨⟨k + 1, _, hlt, rfl, HW1d.out.wroteDur _ (by rw [patch_length (by have h1 : dk.length = n := HW1d.out.ld; have h2 := HFIT.out; have h3 := HYS.out; simp at h3 ⊢; omega)]; exact HW1d.out.ld) hR2 hT2, hT2.boxed HXA.out HNE.out.1, HOA.out.keep (fun j hj => hT2.block j (HOA.out.lt j hj).2 (by cases hj; exact HNE.out.2.1)), HTORN, HTA.out.trans (hT2.mono (fun j e => by rw [e]; exact HFD.out.2.1))⟩, by simp [intOf]; omega⟩
      · have b1 : ((k : Int) == (q : Int)) = true := by simp; omega
        obtain ⟨tn, rfl⟩ : ∃ tn : Nat, torn = tn := ⟨torn.toNat, by omega⟩
        have b2 : decide (0 ≤ (tn : Int)) = true := by simp
        have b3 : min (tn : Int) (bs.size : Int) = (tn : Int) := by omega
        have y5 : (0 : Int) ≤ (tn : Int) := by omega
        have y6 : (tn : Int) ≤ (bs.size : Int) := by omega
        rw [show ((tn : Int)).toNat = tn by omega] at e4
        subst e4
        clear e1
        go_wp2_with fail
        go_region_held3 (fun w' => w'.cell? ⟨W.heap.size, 0, none⟩ = some (.pointer (some ⟨d, 0, none⟩)) ∧ w'.cell? ⟨d, 2, none⟩ = some (.slice (some ⟨gd, 0, none⟩) n n) ∧ w'.cell? ⟨wr.heap.size, 0, none⟩ = some (.int .i64 (o : Int)) ∧ w'.cell? ⟨wr.heap.size, 1, none⟩ = some (.string (bs.extract 0 tn))) (first | exact HS2.out _ (Turns.refl _ _) | exact HS2.out _ ‹Turns (fun k => k = gd) _ _› | fail) (first | (go_at_call 48; refine HON.out.mono ?_; rintro e W2 ⟨rfl, hR2, hT2⟩) | fail)
        all_goals go_wp2_with fail
        all_goals exact ⟨⟨k + 1, _, hlt, rfl, HW1d.out.wroteDur _ (by rw [patch_length (by have h1 : dk.length = n := HW1d.out.ld; have h2 := HFIT.out; have h3 := HYS.out; simp at h3 ⊢; omega)]; exact HW1d.out.ld) hR2 hT2, hT2.boxed HXA.out HNE.out.1, HOA.out.keep (fun j hj => hT2.block j (HOA.out.lt j hj).2 (by cases hj; exact HNE.out.2.1)), HTORN, HTA.out.trans (hT2.mono (fun j e => by rw [e]; exact HFD.out.2.1))⟩, by simp [intOf]; omega⟩
      · have b1 : ((k : Int) == (q : Int)) = true := by simp; omega
        obtain ⟨tn, rfl⟩ : ∃ tn : Nat, torn = tn := ⟨torn.toNat, by omega⟩
        have b2 : decide (0 ≤ (tn : Int)) = true := by simp
        have b3 : min (tn : Int) (bs.size : Int) = (bs.size : Int) := by omega
        have b4 : bs.extract 0 bs.size = bs := by simp
        have y5 : (0 : Int) ≤ (bs.size : Int) := by omega
        subst e3
        clear e1
        go_wp2_with fail
        go_region_held3 (fun w' => w'.cell? ⟨W.heap.size, 0, none⟩ = some (.pointer (some ⟨d, 0, none⟩)) ∧ w'.cell? ⟨d, 2, none⟩ = some (.slice (some ⟨gd, 0, none⟩) n n) ∧ w'.cell? ⟨wr.heap.size, 0, none⟩ = some (.int .i64 (o : Int)) ∧ w'.cell? ⟨wr.heap.size, 1, none⟩ = some (.string y)) (first | exact HS2.out _ (Turns.refl _ _) | exact HS2.out _ ‹Turns (fun k => k = gd) _ _› | fail) (first | (go_at_call 48; refine HON.out.mono ?_; rintro e W2 ⟨rfl, hR2, hT2⟩) | fail)
        all_goals go_wp2_with fail
        all_goals exact ⟨⟨k + 1, _, hlt, rfl, HW1d.out.wroteDur _ (by rw [patch_length (by have h1 : dk.length = n := HW1d.out.ld; have h2 := HFIT.out; have h3 := HYS.out; simp at h3 ⊢; omega)]; exact HW1d.out.ld) hR2 hT2, hT2.boxed HXA.out HNE.out.1, HOA.out.keep (fun j hj => hT2.block j (HOA.out.lt j hj).2 (by cases hj; exact HNE.out.2.1)), HTORN, HTA.out.trans (hT2.mono (fun j e => by rw [e]; exact HFD.out.2.1))⟩, by simp [intOf]; omega⟩
    · obtain rfl : k = m := by omega
      have d1 : decide ((k : Int) < (k : Int)) = false := by simp
      have hfin := HF.out
      rw [List.drop_of_length_le (by rw [HMM.out]; exact Nat.le_refl _), crashF] at hfin
      have HFIN := Lib.hid hfin
      have HST := Lib.hid (settle_crash (HD.out.drewN 1))
      have c1' : wr.cell? ⟨d, 1, none⟩ = some (.int .i64 (s.left : Int)) := HD.out.cell 1
      have c2' : wr.cell? ⟨d, 2, none⟩ = some (.slice (some ⟨gd, 0, none⟩) n n) := HD.out.cell 2
      have c3' : wr.cell? ⟨d, 3, none⟩ = some (.slice (some ⟨gv, 0, none⟩) n n) := HD.out.cell 3
      have HS0 : Hid (wr.drew.cell? ⟨W.heap.size, 0, none⟩ = some (.pointer (some ⟨d, 0, none⟩)) ∧ wr.drew.cell? ⟨d, 2, none⟩ = some (.slice (some ⟨gd, 0, none⟩) n n) ∧ wr.drew.cell? ⟨d, 3, none⟩ = some (.slice (some ⟨gv, 0, none⟩) n n)) := Lib.hid ⟨cb, c2', c3'⟩
      have HS2 : Hid (∀ W2 vp', DAt W2 F d gd gv vp' n { off := s.off, left := s.left, dur := dk, vis := dk, pend := [] } → Turns F (wr.drewN 1) W2 → W2.cell? ⟨W.heap.size, 0, none⟩ = some (.pointer (some ⟨d, 0, none⟩)) ∧ W2.cell? ⟨d, 2, none⟩ = some (.slice (some ⟨gd, 0, none⟩) n n) ∧ W2.cell? ⟨d, 3, none⟩ = some (.slice (some ⟨gv, 0, none⟩) n n)) := Lib.hid (fun W2 vp' h2 ht => by
        have hx : Boxed (wr.drewN 1) W.heap.size 27 (.pointer (some ⟨d, 0, none⟩)) := HX.out
        exact ⟨(ht.boxed hx (fun e => by have := HLF.out _ e; omega)).cell, h2.cell 2, h2.cell 3⟩)
      clear hfin
      go_wp2_with fail
      go_region_held3 (fun w' => w'.cell? ⟨W.heap.size, 0, none⟩ = some (.pointer (some ⟨d, 0, none⟩)) ∧ w'.cell? ⟨d, 2, none⟩ = some (.slice (some ⟨gd, 0, none⟩) n n) ∧ w'.cell? ⟨d, 3, none⟩ = some (.slice (some ⟨gv, 0, none⟩) n n)) (first | exact HS0.out | (obtain ⟨_, hq⟩ := ‹∃ vp', DAt _ _ _ _ _ vp' _ _›; exact HS2.out _ _ hq ‹Turns F _ _›) | fail)
        (first | (go_at_call 65; refine HST.out.mono ?_; rintro e W2 ⟨rfl, hD, hT⟩) | fail)
      obtain ⟨vp2, hD2⟩ := hD
      have h1 := hD2.put 0 (.bool false) { off := false, left := s.left, dur := dk, vis := dk, pend := [] } vp2 rfl rfl rfl hD2.fit hD2.pp hD2.np hD2.fp
      have h2 := h1.1.put 1 (.int .i64 0) { off := false, left := 0, dur := dk, vis := dk, pend := [] } vp2 rfl rfl rfl hD2.fit h1.1.pp hD2.np hD2.fp
      have H2 := Lib.hid h2.1
      have HT2 := Lib.hid ((HT.out.trans ((Turns.drew (Z := F) wr).trans hT)).trans (h1.2.trans h2.2))
      have e0 : W2.cell? ⟨d, 0, none⟩ = some (.bool s.off) := hD2.cell 0
      have e1 : W2.cell? ⟨d, 1, none⟩ = some (.int .i64 (s.left : Int)) := hD2.cell 1
      have e2 := hD2.free 0
      have e3 := hD2.free 1
      clear h1 h2 hD2 hT cb fb c1' c2' c3'
      go_wp2_with fail
      go_ret
      refine ⟨rfl, ⟨vp2, ?_⟩, HT2.out⟩
      unfold DS.crash
      rw [HORD.out, ← HFIN.out]
      exact H2.out

end Go.Proofs.YtllmciiadceinaaGreatDoor
