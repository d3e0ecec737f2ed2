/-
  Contract of package disk's Write. Conditions: each contract's own. Printed by tools/gendisk.py.
-/
import Derived.Test.YtllmciiadceinaaGreatDoorDiskF
namespace Go.Proofs.YtllmciiadceinaaGreatDoor
open Go Go.RowKit

theorem elemW : Elem Tryz.prog 93 92 2 24 := Elem.mk' (z := .agg #[.int .i64 0, .string ByteArray.empty]) Tryz.underlying93 (by kernel_rfl) rfl (by omega)

/-- A pending write's row, behind an append: what the disk's own block and a block apart hold. -/
theorem grown_cell {W W' : World} {vp : Value} {k : Nat} (hg : W.grownBy W' vp.ownBlock) (hk : k < W.heap.size) (hne : ∀ g, vp.ownBlock = some g → g ≠ k) : W'.heap[k]? = W.heap[k]? := by
  refine hg.block k hk ?_
  intro e
  exact hne k e.symm rfl

/-- One more pending write. -/
theorem DAt.grow {W W5 : World} {F : Nat → Prop} {d gd gv n : Nat} {vp : Value} {s : DS} (h : DAt W F d gd gv vp n s) (hg : W.grownBy W5 vp.ownBlock) (g m c : Nat) (l : List (Nat × ByteArray)) (h5 : OL W5 0 92 2 wf (.slice (some ⟨g, 0, none⟩) m c) l)
    (hfit : ∀ x ∈ l, x.1 + x.2.size ≤ n) (hg' : vp.ownBlock = some g ∨ g = W.heap.size) (hgl : g < W5.heap.size) :
    DAt (W5.setCell ⟨d, 4, none⟩ (.slice (some ⟨g, 0, none⟩) m c)) (fun k => F k ∨ (W.heap.size ≤ k ∧ k < W5.heap.size)) d gd gv (.slice (some ⟨g, 0, none⟩) m c) n { s with pend := l } ∧ Turns F W (W5.setCell ⟨d, 4, none⟩ (.slice (some ⟨g, 0, none⟩) m c)) := by
  obtain ⟨n1, n2, n3⟩ := h.ne
  obtain ⟨f1, f2, f3⟩ := h.fd
  have l1 := h.lf d f1
  have l2 := h.lf gd f2
  have l3 := h.lf gv f3
  have hput : Turns (fun k => k = d) W5 (W5.setCell ⟨d, 4, none⟩ (.slice (some ⟨g, 0, none⟩) m c)) := Turns.setCell W5 _ _ rfl
  have ht5 : Turns F W W5 := ⟨hg.os, hg.tape, hg.output, hg.size, fun k hk hf => grown_cell hg hk (fun g q => fun e => hf (e ▸ h.fp g q))⟩
  have hT := ht5.trans (hput.mono (fun k hk => by rw [hk]; exact f1))
  have hgne : g ≠ d ∧ g ≠ gd ∧ g ≠ gv := by
    rcases hg' with q | q
    · exact h.np g q
    · subst q; exact ⟨by omega, by omega, by omega⟩
  have bd := grown_cell hg l1 (fun g q => (h.np g q).1)
  have bgd := grown_cell hg l2 (fun g q => (h.np g q).2.1)
  have bgv := grown_cell hg l3 (fun g q => (h.np g q).2.2)
  have hz5 := ht5.size
  refine ⟨⟨?_, ?_, ?_, h.ld, h.lv, h5.keep fun q hq => ?_, hfit, h.ne, fun q hq => ?_, ⟨.inl f1, .inl f2, .inl f3⟩, fun q hq => ?_, fun k hk => ?_, h.n64⟩, hT⟩
  · have h1 : W5.heap[d]? = _ := bd.trans h.hd
    simp only [World.setCell, Array.getElem?_modify, h1]
    simp
  · refine RAt.other (b := gd) ?_ ⟨d, 4, none⟩ n1 _
    exact ⟨by omega, fun i x hx => (World.cell?_of_block (a := ⟨gd, i, none⟩) bgd).trans (h.rd.cell i x hx), fun i hi => (World.frozen?_of_block (a := ⟨gd, i, none⟩) bgd).trans (h.rd.free i hi)⟩
  · refine RAt.other (b := gv) ?_ ⟨d, 4, none⟩ n2 _
    exact ⟨by omega, fun i x hx => (World.cell?_of_block (a := ⟨gv, i, none⟩) bgv).trans (h.rv.cell i x hx), fun i hi => (World.frozen?_of_block (a := ⟨gv, i, none⟩) bgv).trans (h.rv.free i hi)⟩
  · cases hq; exact hput.block g hgl hgne.1
  · cases hq; exact hgne
  · cases hq
    rcases hg' with q | q
    · exact .inl (h.fp g q)
    · exact .inr ⟨Nat.le_of_eq q.symm, hgl⟩
  · rcases hk with hk | hk
    · exact Nat.lt_of_lt_of_le (h.lf k hk) hT.size
    · exact Nat.lt_of_lt_of_le hk.2 hput.size

theorem Turns.then {F F' : Nat → Prop} {W W1 W2 : World} (h1 : Turns F W W1) (h2 : Turns F' W1 W2) (hF : ∀ k, F' k → F k ∨ W.heap.size ≤ k) : Turns F W W2 :=
  ⟨h2.os.trans h1.os, h2.tape.trans h1.tape, h2.output.trans h1.output, Nat.le_trans h1.size h2.size, fun k hk hf => (h2.block k (Nat.lt_of_lt_of_le hk h1.size) (fun q => by rcases hF k q with q | q; exact hf q; omega)).trans (h1.block k hk hf)⟩
/-- The visible bytes are written by a call. -/
theorem DAt.wrote {W W' : World} {F : Nat → Prop} {d gd gv n : Nat} {vp : Value} {s : DS} (h : DAt W F d gd gv vp n s) (m : List UInt8) (hm : m.length = n) (hr : RAt W' gv bv m) (ht : Turns (fun k => k = gv) W W') : DAt W' F d gd gv vp n { s with vis := m } := by
  obtain ⟨n1, n2, n3⟩ := h.ne
  obtain ⟨f1, f2, f3⟩ := h.fd
  have bgd := ht.block gd (h.lf gd f2) n3
  refine ⟨(ht.block d (h.lf d f1) n2).trans h.hd, ?_, hr, h.ld, hm, ?_, h.fit, h.ne, h.np, h.fd, h.fp, fun k hk => Nat.lt_of_lt_of_le (h.lf k hk) ht.size, h.n64⟩
  · exact ⟨Nat.lt_of_lt_of_le h.rd.lt ht.size, fun i x hx => (World.cell?_of_block (a := ⟨gd, i, none⟩) bgd).trans (h.rd.cell i x hx), fun i hi => (World.frozen?_of_block (a := ⟨gd, i, none⟩) bgd).trans (h.rd.free i hi)⟩
  · exact h.pp.keep fun g hg => ht.block g (h.pp.lt g hg).2 (h.np g hg).2.2
/-- What Write leaves of a disk that has its power, where the bytes fit. -/
def DS.write (s : DS) (o : Nat) (x : ByteArray) : DS := ({ s with pend := s.pend ++ [(o, x)], vis := patch s.vis o x.data.toList } : DS).used

set_option maxRecDepth 100000 in
set_option maxHeartbeats 4000000 in
theorem write_walk {W : World} {F : Nat → Prop} {d gd gv n : Nat} {vp : Value} {s : DS} (h : DAt W F d gd gv vp n s) (o : Nat) (x : ByteArray) (_hx : x.size ≤ 4194304) (hp : s.pend.length ≤ 1000000) (hoff : s.off = false) (hin : insB n o x.size = true) (hleft : s.left ≤ 9223372036854775807) :
    Calls Tryz.prog 13 #[.pointer (some ⟨d, 0, none⟩), .int .i64 o, .string x] W fun e W' => e = .returned (.int .i64 0) ∧ (∃ F' vp', DAt W' F' d gd gv vp' n (s.write o x) ∧ ∀ k, F' k → F k ∨ W.heap.size ≤ k) ∧ Turns F W W' := by
  have HL := Lib.hid hleft
  have HC := Lib.hid (check_walk h)
  have HI := Lib.hid (inside_walk h o x.size)
  rw [hin] at HI
  have HE := Lib.hid (show chkE s = 0 by unfold chkE; rw [hoff]; rfl)
  rw [HE.out] at HC
  obtain ⟨A, c, rfl, hc, hm⟩ := h.pp.slice
  have HM := Lib.hid (show s.pend.length + 1 ≤ maxLen ∧ (s.pend.length + 1) * 24 ≤ 140737488355328 from ⟨by unfold maxLen; omega, by omega⟩)
  have HX := Lib.hid hin
  have H0 := Lib.hid h
  have c4 : W.cell? ⟨d, 4, none⟩ = some (.slice A s.pend.length c) := h.cell 4
  have hdl : d < W.heap.size := h.lf d h.fd.1
  have HA := Lib.hid (h.keep (Z := fun _ => False) ((Turns.alloc W (.cells #[.int .i64 (o : Int), .string x] 92)).trans (Turns.drew _)) (fun _ _ q => q))
  clear h hin hoff hc hm hleft
  go_enter Tryz.func13, Tryz.ntmps13
  go_wp2_with (first | (go_at_call 46; refine HC.out.mono ?_; rintro e W2 ⟨rfl, rfl⟩) | (go_at_call 47; refine HI.out.mono ?_; rintro e W2 ⟨rfl, rfl⟩))
  have hS0 : ((W.alloc (.cells #[.int .i64 (o : Int), .string x] 92)).drew).cell? ⟨W.heap.size, 0, none⟩ = some (.int .i64 (o : Int)) ∧ ((W.alloc (.cells #[.int .i64 (o : Int), .string x] 92)).drew).cell? ⟨W.heap.size, 1, none⟩ = some (.string x) := by simp
  refine wp_region_noPanic ?_
  refine wp_region_held_drew (S := fun w' => w'.cell? ⟨W.heap.size, 0, none⟩ = some (.int .i64 (o : Int)) ∧ w'.cell? ⟨W.heap.size, 1, none⟩ = some (.string x)) (by kernel_rfl) hS0 (fun hHeld => ?_)
  have HT1 : Hid (Turns (fun _ => False) W ((W.alloc (.cells #[.int .i64 (o : Int), .string x] 92)).drew)) := Lib.hid ((Turns.alloc W _).trans (Turns.drew _))
  have HZ : Hid (((W.alloc (.cells #[.int .i64 (o : Int), .string x] 92)).drew).heap.size = W.heap.size + 1) := Lib.hid (by show (W.alloc _).heap.size = _; rw [World.size_alloc])
  generalize (W.alloc (.cells #[.int .i64 (o : Int), .string x] 92)).drew = W1 at hS0 hHeld HT1 HZ HA ⊢
  obtain ⟨hs, hhs⟩ : ∃ hs, W.heap.size = hs := ⟨_, rfl⟩
  have HHS := Lib.hid hhs
  rw [hhs] at hS0 hHeld HZ ⊢
  have c4a : W1.cell? ⟨d, 4, none⟩ = some (.slice A s.pend.length c) := HA.out.cell 4
  have c4b : (W1.alloc (.cells #[.int .i64 (o : Int), .string x] 92)).cell? ⟨d, 4, none⟩ = some (.slice A s.pend.length c) := (HA.out.keep (Z := fun _ => False) (Turns.alloc W1 _) (fun _ _ q => q)).cell 4
  have HL6 : Hid ((W1.alloc (.cells #[.int .i64 (o : Int), .string x] 92)).cell? ⟨hs, 0, none⟩ = some (.int .i64 (o : Int)) ∧ (W1.alloc (.cells #[.int .i64 (o : Int), .string x] 92)).cell? ⟨hs, 1, none⟩ = some (.string x)) := Lib.hid (by
    have hb := (Turns.alloc (Z := fun _ => False) W1 (.cells #[.int .i64 (o : Int), .string x] 92)).block hs (by rw [HZ.out]; omega) (fun q => q)
    exact ⟨(World.cell?_of_block (a := ⟨hs, 0, none⟩) hb).trans hS0.1, (World.cell?_of_block (a := ⟨hs, 1, none⟩) hb).trans hS0.2⟩)
  have HO : Hid (OL (W1.alloc (.cells #[.int .i64 (o : Int), .string x] 92)) 0 92 2 wf (.slice A s.pend.length c) s.pend) := Lib.hid (HA.out.pp.alloc _)
  have HNE : Hid (∀ g, (Value.slice A s.pend.length c).ownBlock = some g → g ≠ d ∧ g ≠ hs) := Lib.hid (fun g hg => ⟨(HA.out.np g hg).1, by have := H0.out.lf g (H0.out.fp g hg); rw [HHS.out] at this; omega⟩)
  have HSZ : Hid ((W1.alloc (.cells #[.int .i64 (o : Int), .string x] 92)).heap.size = hs + 2) := Lib.hid (by rw [World.size_alloc, HZ.out])
  have HL7 : Hid (∀ W5, (W1.alloc (.cells #[.int .i64 (o : Int), .string x] 92)).grownBy W5 (Value.slice A s.pend.length c).ownBlock → W5.cell? ⟨hs, 0, none⟩ = some (.int .i64 (o : Int)) ∧ W5.cell? ⟨hs, 1, none⟩ = some (.string x)) := Lib.hid (fun W5 hg => by
    have hb := grown_cell hg (k := hs) (by rw [HSZ.out]; omega) (fun g q => (HNE.out g q).2)
    exact ⟨(World.cell?_of_block (a := ⟨hs, 0, none⟩) hb).trans HL6.out.1, (World.cell?_of_block (a := ⟨hs, 1, none⟩) hb).trans HL6.out.2⟩)
  have HE5 : Hid (∀ W5, (W1.alloc (.cells #[.int .i64 (o : Int), .string x] 92)).grownBy W5 (Value.slice A s.pend.length c).ownBlock → W5.cell? ⟨d, 4, none⟩ = some (.slice A s.pend.length c) ∧ W5.frozen? ⟨d, 4, none⟩ = false) := Lib.hid (fun W5 hg => by
    have hb := grown_cell hg (k := d) (by rw [HSZ.out]; rw [HHS.out] at hdl; omega) (fun g q => (HNE.out g q).1)
    exact ⟨(World.cell?_of_block (a := ⟨d, 4, none⟩) hb).trans c4b, (World.frozen?_of_block (a := ⟨d, 4, none⟩) hb).trans ((HA.out.keep (Z := fun _ => False) (Turns.alloc W1 _) (fun _ _ q => q)).free 4)⟩)
  have HL10 : Hid (∀ W5, (W1.alloc (.cells #[.int .i64 (o : Int), .string x] 92)).grownBy W5 (Value.slice A s.pend.length c).ownBlock → ∀ v, (W5.setCell ⟨d, 4, none⟩ v).cell? ⟨hs, 0, none⟩ = some (.int .i64 (o : Int)) ∧ (W5.setCell ⟨d, 4, none⟩ v).cell? ⟨hs, 1, none⟩ = some (.string x)) := Lib.hid (fun W5 hg v => by
    have h7 := HL7.out W5 hg
    rw [HHS.out] at hdl
    rw [World.cell?_setCell_other _ _ _ _ (fun q => by injection q; omega), World.cell?_setCell_other _ _ _ _ (fun q => by injection q; omega)]
    exact h7)
  clear c4 hdl hhs
  refine wpAnyH_take (i := 0) (oi := { dst := some 23, op := Op.move (Operand.tmp 0), type := 27, pos := "disk.go:74", after := #[], guard := none }) (v := ?_) rfl (by kernel_rfl) (by kernel_rfl) (by kernel_rfl) (fun _ _ _ h => h) (Or.inl ⟨by rfl, ?_⟩) (by assumption) ?_
  rotate_left
  · intro w hSw; (try dsimp only at hSw); go_simp <;> with_reducible rfl
  try simp only [Act.put, List.setIfInBounds_toArray, List.set_cons_zero, List.set_cons_succ]
  refine wpAnyH_take (i := 1) (oi := { dst := some 24, op := Op.move (Operand.tmp 0), type := 27, pos := "disk.go:74", after := #[], guard := none }) (v := ?_) rfl (by kernel_rfl) (by kernel_rfl) (by kernel_rfl) (fun _ _ _ h => h) (Or.inl ⟨by rfl, ?_⟩) (by assumption) ?_
  rotate_left
  · intro w hSw; (try dsimp only at hSw); go_simp <;> with_reducible rfl
  try simp only [Act.put, List.setIfInBounds_toArray, List.set_cons_zero, List.set_cons_succ]
  refine wpAnyH_take (i := 2) (oi := { dst := some 25, op := Op.nilCheck (Operand.tmp 24), type := 0, pos := "disk.go:74", after := #[{ on := 1, ground := Ground.data }], guard := none }) (v := ?_) rfl (by kernel_rfl) (by kernel_rfl) (by kernel_rfl) (fun _ _ _ h => h) (Or.inl ⟨by rfl, ?_⟩) (by assumption) ?_
  rotate_left
  · intro w hSw; (try dsimp only at hSw); go_simp <;> with_reducible rfl
  try simp only [Act.put, List.setIfInBounds_toArray, List.set_cons_zero, List.set_cons_succ]
  refine wpAnyH_take (i := 3) (oi := { dst := some 26, op := Op.fieldAddr 97 (Operand.tmp 25) 3, type := 0, pos := "disk.go:74", after := #[{ on := 2, ground := Ground.data }], guard := none }) (v := ?_) rfl (by kernel_rfl) (by kernel_rfl) (by kernel_rfl) (fun _ _ _ h => h) (Or.inl ⟨by rfl, ?_⟩) (by assumption) ?_
  rotate_left
  · intro w hSw; (try dsimp only at hSw); go_simp <;> with_reducible rfl
  try simp only [Act.put, List.setIfInBounds_toArray, List.set_cons_zero, List.set_cons_succ]
  refine wpAnyH_take (i := 5) (oi := { dst := some 28, op := Op.load 92 (Operand.tmp 8), type := 92, pos := "disk.go:74", after := #[], guard := none }) (v := ?_) rfl (by kernel_rfl) (by kernel_rfl) (by kernel_rfl) (fun _ _ _ h => h) (Or.inl ⟨by rfl, ?_⟩) (by assumption) ?_
  rotate_left
  · intro w hSw; (try dsimp only at hSw); go_simp <;> with_reducible rfl
  try simp only [Act.put, List.setIfInBounds_toArray, List.set_cons_zero, List.set_cons_succ]
  refine wpAnyH_ready (rs := [4, 6]) (by kernel_rfl) (by simp) ?_
  refine AllReadyH.cons (o := { dst := some 27, op := Op.load 93 (Operand.tmp 26), type := 93, pos := "disk.go:74", after := #[{ on := 3, ground := Ground.data }], guard := none }) rfl (fun K hK => ?_) ?_
  · go_simp
    refine hK.out _ _ (by assumption) (fun hHeld => ?_)
    clear hK K
    try simp only [Act.put, List.setIfInBounds_toArray, List.set_cons_zero, List.set_cons_succ]
    refine wpAnyH_ready (rs := [6]) (by kernel_rfl) (by simp) ?_
    refine AllReadyH.cons (o := { dst := some 29, op := Op.buildSlice 93 1 #[(0, Operand.tmp 28)], type := 93, pos := "disk.go:74", after := #[{ on := 5, ground := Ground.data }], guard := none }) rfl (fun K hK => ?_) ?_
    · go_simp
      refine hK.out _ _ (HL6.out) (fun hHeld => ?_)
      clear hK K
      try simp only [Act.put, List.setIfInBounds_toArray, List.set_cons_zero, List.set_cons_succ]
      refine wpAnyH_ready (rs := [7]) (by kernel_rfl) (by simp) ?_
      refine AllReadyH.cons (o := { dst := some 30, op := Op.call { callee := Callee.builtin Builtin.append, args := #[Operand.tmp 27, Operand.tmp 29], argTypes := #[93, 93] }, type := 93, pos := "disk.go:74", after := #[{ on := 4, ground := Ground.data }, { on := 6, ground := Ground.data }], guard := none }) rfl (fun K hK => ?_) ?_
      · (refine step_app (by rfl) (.tmp 27) (.tmp 29) 93 (by rfl) elemW _ s.pend _ rfl (by rfl) HO.out (o, x) W1.heap.size #[.int .i64 (o : Int), .string x] (by rfl) (World.alloc_heap_new W1 _) rfl rfl (fun u hu => by simp [wf] at hu; rcases hu with rfl | rfl <;> rfl) HM.out.1 HM.out.2 (Nat.zero_le _) ?_)
        intro g5 c5 W5 h5 hg5 hg5' hg5l hb5
        skip
        refine hK.out _ _ (by exact HL7.out _ hg5) (fun hHeld => ?_)
        clear hK K
        try simp only [Act.put, List.setIfInBounds_toArray, List.set_cons_zero, List.set_cons_succ]
        refine wpAnyH_take (i := 8) (oi := { dst := some 31, op := Op.nilCheck (Operand.tmp 23), type := 0, pos := "disk.go:74", after := #[{ on := 0, ground := Ground.data }, { on := 0, ground := Ground.phase }, { on := 1, ground := Ground.phase }, { on := 2, ground := Ground.phase }, { on := 3, ground := Ground.phase }, { on := 4, ground := Ground.phase }, { on := 5, ground := Ground.phase }, { on := 6, ground := Ground.phase }, { on := 7, ground := Ground.phase }], guard := none }) (v := ?_) rfl (by kernel_rfl) (by kernel_rfl) (by kernel_rfl) (fun _ _ _ h => h) (Or.inl ⟨by rfl, ?_⟩) (by assumption) ?_
        rotate_left
        · intro w hSw; (try dsimp only at hSw); go_simp <;> with_reducible rfl
        try simp only [Act.put, List.setIfInBounds_toArray, List.set_cons_zero, List.set_cons_succ]
        refine wpAnyH_take (i := 9) (oi := { dst := some 32, op := Op.fieldAddr 97 (Operand.tmp 31) 3, type := 0, pos := "disk.go:74", after := #[{ on := 8, ground := Ground.data }, { on := 0, ground := Ground.phase }, { on := 1, ground := Ground.phase }, { on := 2, ground := Ground.phase }, { on := 3, ground := Ground.phase }, { on := 4, ground := Ground.phase }, { on := 5, ground := Ground.phase }, { on := 6, ground := Ground.phase }, { on := 7, ground := Ground.phase }], guard := none }) (v := ?_) rfl (by kernel_rfl) (by kernel_rfl) (by kernel_rfl) (fun _ _ _ h => h) (Or.inl ⟨by rfl, ?_⟩) (by assumption) ?_
        rotate_left
        · intro w hSw; (try dsimp only at hSw); go_simp <;> with_reducible rfl
        try simp only [Act.put, List.setIfInBounds_toArray, List.set_cons_zero, List.set_cons_succ]
        refine wpAnyH_ready (rs := [10]) (by kernel_rfl) (by simp) ?_
        refine AllReadyH.cons (o := { dst := none, op := Op.store 93 (Operand.tmp 32) (Operand.tmp 30), type := 0, pos := "disk.go:74", after := #[{ on := 9, ground := Ground.data }, { on := 7, ground := Ground.data }, { on := 7, ground := Ground.chain }, { on := 0, ground := Ground.phase }, { on := 1, ground := Ground.phase }, { on := 2, ground := Ground.phase }, { on := 3, ground := Ground.phase }, { on := 4, ground := Ground.phase }, { on := 5, ground := Ground.phase }, { on := 6, ground := Ground.phase }, { on := 7, ground := Ground.phase }], guard := none }) rfl (fun K hK => ?_) ?_
        · obtain ⟨e5, f5⟩ := HE5.out _ hg5
          go_simp
          refine hK.out _ _ (by exact HL10.out _ hg5 _) (fun hHeld => ?_)
          clear hK K
          try simp only [Act.put, List.setIfInBounds_toArray, List.set_cons_zero, List.set_cons_succ]
          refine wpAnyH_done (by kernel_rfl) ?_ _
          refine NoPanic.normal ?_
          have hin := HX.out
          unfold insB at hin
          simp only [Bool.and_eq_true, decide_eq_true_eq] at hin
          obtain ⟨⟨⟨x1, x2⟩, x3⟩, x4⟩ := hin
          have hG := DAt.grow (HA.out.keep (Z := fun _ => False) (Turns.alloc W1 (.cells #[.int .i64 (o : Int), .string x] 92)) (fun _ _ q => q)) hg5 g5 _ c5 _ h5 (fun y hy => by rcases List.mem_append.1 hy with hy | hy; exact H0.out.fit y hy; (rw [List.mem_singleton.1 hy]; show o + x.size ≤ n; omega)) hg5' hg5l
          have hF : ∀ k, (fun k => F k ∨ ((W1.alloc (.cells #[.int .i64 (o : Int), .string x] 92)).heap.size ≤ k ∧ k < W5.heap.size)) k → F k ∨ W.heap.size ≤ k := fun k hk => by rcases hk with hk | hk; exact .inl hk; (have := HSZ.out; have := HHS.out; exact .inr (by omega))
          have HF := Lib.hid hF
          have HT6 := Lib.hid (((HT1.out.mono (fun k q => q.elim)).trans (Turns.alloc W1 (.cells #[.int .i64 (o : Int), .string x] 92))).trans hG.2)
          have HG := Lib.hid hG.1
          have HS6 : Hid (hs < (W5.setCell ⟨d, 4, none⟩ (.slice (some ⟨g5, 0, none⟩) (s.pend.length + 1) c5)).heap.size) := Lib.hid (by have q1 := hg5.size; have q2 := HSZ.out; have q3 := (Turns.setCell W5 ⟨d, 4, none⟩ (.slice (some ⟨g5, 0, none⟩) (s.pend.length + 1) c5) rfl).size; omega)
          have HFT := Lib.hid (show o + x.size ≤ n by omega)
          clear hG hF h5 hg5 hg5' hg5l hb5 e5 f5 x1 x2 x3 x4 c4a c4b
          generalize (fun k => F k ∨ ((W1.alloc (.cells #[.int .i64 (o : Int), .string x] 92)).heap.size ≤ k ∧ k < W5.heap.size)) = F6 at HG HF
          generalize W5.setCell ⟨d, 4, none⟩ (.slice (some ⟨g5, 0, none⟩) (s.pend.length + 1) c5) = W6 at hHeld HG HT6 HS6 ⊢
          have c3 : W6.cell? ⟨d, 3, none⟩ = some (.slice (some ⟨gv, 0, none⟩) n n) := HG.out.cell 3
          have HON := Lib.hid (onto_walk gv n o s.vis x (W6.drewN 1) (HG.out.rv.drewN 1) HG.out.lv HFT.out HG.out.n64)
          have HC7 : Hid (∀ W7, Turns (fun k => k = gv) (W6.drewN 1) W7 → W7.cell? ⟨hs, 0, none⟩ = some (.int .i64 (o : Int)) ∧ W7.cell? ⟨hs, 1, none⟩ = some (.string x) ∧ W7.cell? ⟨d, 3, none⟩ = some (.slice (some ⟨gv, 0, none⟩) n n)) := Lib.hid (fun W7 t => by
            have b1 := t.block hs HS6.out (by have := H0.out.lf gv H0.out.fd.2.2; have := HHS.out; omega)
            have b2 := t.block d (HG.out.lf d HG.out.fd.1) HG.out.ne.2.1
            exact ⟨(World.cell?_of_block (a := ⟨hs, 0, none⟩) b1).trans hHeld.1, (World.cell?_of_block (a := ⟨hs, 1, none⟩) b1).trans hHeld.2, (World.cell?_of_block (a := ⟨d, 3, none⟩) b2).trans c3⟩)
          obtain ⟨l0, l1⟩ := hHeld
          clear hS0 HL6 HL7 HE5 HL10 HO HNE HSZ
          go_wp2_with fail
          go_region_held3 (fun w' => w'.cell? ⟨hs, 0, none⟩ = some (.int .i64 (o : Int)) ∧ w'.cell? ⟨hs, 1, none⟩ = some (.string x) ∧ w'.cell? ⟨d, 3, none⟩ = some (.slice (some ⟨gv, 0, none⟩) n n)) (first | exact ⟨l0, l1, c3⟩ | exact HC7.out _ (by assumption) | fail)
            (first | (go_at_call 48; refine HON.out.mono ?_; rintro e W7 ⟨rfl, hr7, ht7⟩) | fail)
          have hpl : (patch s.vis o x.data.toList).length = n := by
            have q1 : s.vis.length = n := H0.out.lv
            have q2 : x.data.toList.length = x.size := by simp
            have q3 := HFT.out
            rw [patch_length (by omega)]; exact q1
          have h7 := (HG.out.drewN 1).wrote _ hpl hr7 ht7
          have HU := Lib.hid (used_walk h7 HL.out)
          have HTT := Lib.hid ((HT6.out.trans (Turns.drew W6)).then (ht7.mono (fun k q => by rw [q]; exact HG.out.fd.2.2)) HF.out)
          clear h7 hr7 ht7
          go_wp2_with (first | (go_at_call 49; refine HU.out.mono ?_; rintro e W8 ⟨rfl, h8, ht8⟩) | fail)
          go_ret
          exact ⟨rfl, ⟨F6, _, h8, HF.out⟩, HTT.out.then ht8 HF.out⟩
        exact AllReadyH.nil
      exact AllReadyH.nil
    exact AllReadyH.nil
  refine AllReadyH.cons (o := { dst := some 29, op := Op.buildSlice 93 1 #[(0, Operand.tmp 28)], type := 93, pos := "disk.go:74", after := #[{ on := 5, ground := Ground.data }], guard := none }) rfl (fun K hK => ?_) ?_
  · go_simp
    refine hK.out _ _ (HL6.out) (fun hHeld => ?_)
    clear hK K
    try simp only [Act.put, List.setIfInBounds_toArray, List.set_cons_zero, List.set_cons_succ]
    refine wpAnyH_ready (rs := [4]) (by kernel_rfl) (by simp) ?_
    refine AllReadyH.cons (o := { dst := some 27, op := Op.load 93 (Operand.tmp 26), type := 93, pos := "disk.go:74", after := #[{ on := 3, ground := Ground.data }], guard := none }) rfl (fun K hK => ?_) ?_
    · go_simp
      refine hK.out _ _ (HL6.out) (fun hHeld => ?_)
      clear hK K
      try simp only [Act.put, List.setIfInBounds_toArray, List.set_cons_zero, List.set_cons_succ]
      refine wpAnyH_ready (rs := [7]) (by kernel_rfl) (by simp) ?_
      refine AllReadyH.cons (o := { dst := some 30, op := Op.call { callee := Callee.builtin Builtin.append, args := #[Operand.tmp 27, Operand.tmp 29], argTypes := #[93, 93] }, type := 93, pos := "disk.go:74", after := #[{ on := 4, ground := Ground.data }, { on := 6, ground := Ground.data }], guard := none }) rfl (fun K hK => ?_) ?_
      · (refine step_app (by rfl) (.tmp 27) (.tmp 29) 93 (by rfl) elemW _ s.pend _ rfl (by rfl) HO.out (o, x) W1.heap.size #[.int .i64 (o : Int), .string x] (by rfl) (World.alloc_heap_new W1 _) rfl rfl (fun u hu => by simp [wf] at hu; rcases hu with rfl | rfl <;> rfl) HM.out.1 HM.out.2 (Nat.zero_le _) ?_)
        intro g5 c5 W5 h5 hg5 hg5' hg5l hb5
        skip
        refine hK.out _ _ (by exact HL7.out _ hg5) (fun hHeld => ?_)
        clear hK K
        try simp only [Act.put, List.setIfInBounds_toArray, List.set_cons_zero, List.set_cons_succ]
        refine wpAnyH_take (i := 8) (oi := { dst := some 31, op := Op.nilCheck (Operand.tmp 23), type := 0, pos := "disk.go:74", after := #[{ on := 0, ground := Ground.data }, { on := 0, ground := Ground.phase }, { on := 1, ground := Ground.phase }, { on := 2, ground := Ground.phase }, { on := 3, ground := Ground.phase }, { on := 4, ground := Ground.phase }, { on := 5, ground := Ground.phase }, { on := 6, ground := Ground.phase }, { on := 7, ground := Ground.phase }], guard := none }) (v := ?_) rfl (by kernel_rfl) (by kernel_rfl) (by kernel_rfl) (fun _ _ _ h => h) (Or.inl ⟨by rfl, ?_⟩) (by assumption) ?_
        rotate_left
        · intro w hSw; (try dsimp only at hSw); go_simp <;> with_reducible rfl
        try simp only [Act.put, List.setIfInBounds_toArray, List.set_cons_zero, List.set_cons_succ]
        refine wpAnyH_take (i := 9) (oi := { dst := some 32, op := Op.fieldAddr 97 (Operand.tmp 31) 3, type := 0, pos := "disk.go:74", after := #[{ on := 8, ground := Ground.data }, { on := 0, ground := Ground.phase }, { on := 1, ground := Ground.phase }, { on := 2, ground := Ground.phase }, { on := 3, ground := Ground.phase }, { on := 4, ground := Ground.phase }, { on := 5, ground := Ground.phase }, { on := 6, ground := Ground.phase }, { on := 7, ground := Ground.phase }], guard := none }) (v := ?_) rfl (by kernel_rfl) (by kernel_rfl) (by kernel_rfl) (fun _ _ _ h => h) (Or.inl ⟨by rfl, ?_⟩) (by assumption) ?_
        rotate_left
        · intro w hSw; (try dsimp only at hSw); go_simp <;> with_reducible rfl
        try simp only [Act.put, List.setIfInBounds_toArray, List.set_cons_zero, List.set_cons_succ]
        refine wpAnyH_ready (rs := [10]) (by kernel_rfl) (by simp) ?_
        refine AllReadyH.cons (o := { dst := none, op := Op.store 93 (Operand.tmp 32) (Operand.tmp 30), type := 0, pos := "disk.go:74", after := #[{ on := 9, ground := Ground.data }, { on := 7, ground := Ground.data }, { on := 7, ground := Ground.chain }, { on := 0, ground := Ground.phase }, { on := 1, ground := Ground.phase }, { on := 2, ground := Ground.phase }, { on := 3, ground := Ground.phase }, { on := 4, ground := Ground.phase }, { on := 5, ground := Ground.phase }, { on := 6, ground := Ground.phase }, { on := 7, ground := Ground.phase }], guard := none }) rfl (fun K hK => ?_) ?_
        · obtain ⟨e5, f5⟩ := HE5.out _ hg5
          go_simp
          refine hK.out _ _ (by exact HL10.out _ hg5 _) (fun hHeld => ?_)
          clear hK K
          try simp only [Act.put, List.setIfInBounds_toArray, List.set_cons_zero, List.set_cons_succ]
          refine wpAnyH_done (by kernel_rfl) ?_ _
          refine NoPanic.normal ?_
          have hin := HX.out
          unfold insB at hin
          simp only [Bool.and_eq_true, decide_eq_true_eq] at hin
          obtain ⟨⟨⟨x1, x2⟩, x3⟩, x4⟩ := hin
          have hG := DAt.grow (HA.out.keep (Z := fun _ => False) (Turns.alloc W1 (.cells #[.int .i64 (o : Int), .string x] 92)) (fun _ _ q => q)) hg5 g5 _ c5 _ h5 (fun y hy => by rcases List.mem_append.1 hy with hy | hy; exact H0.out.fit y hy; (rw [List.mem_singleton.1 hy]; show o + x.size ≤ n; omega)) hg5' hg5l
          have hF : ∀ k, (fun k => F k ∨ ((W1.alloc (.cells #[.int .i64 (o : Int), .string x] 92)).heap.size ≤ k ∧ k < W5.heap.size)) k → F k ∨ W.heap.size ≤ k := fun k hk => by rcases hk with hk | hk; exact .inl hk; (have := HSZ.out; have := HHS.out; exact .inr (by omega))
          have HF := Lib.hid hF
          have HT6 := Lib.hid (((HT1.out.mono (fun k q => q.elim)).trans (Turns.alloc W1 (.cells #[.int .i64 (o : Int), .string x] 92))).trans hG.2)
          have HG := Lib.hid hG.1
          have HS6 : Hid (hs < (W5.setCell ⟨d, 4, none⟩ (.slice (some ⟨g5, 0, none⟩) (s.pend.length + 1) c5)).heap.size) := Lib.hid (by have q1 := hg5.size; have q2 := HSZ.out; have q3 := (Turns.setCell W5 ⟨d, 4, none⟩ (.slice (some ⟨g5, 0, none⟩) (s.pend.length + 1) c5) rfl).size; omega)
          have HFT := Lib.hid (show o + x.size ≤ n by omega)
          clear hG hF h5 hg5 hg5' hg5l hb5 e5 f5 x1 x2 x3 x4 c4a c4b
          generalize (fun k => F k ∨ ((W1.alloc (.cells #[.int .i64 (o : Int), .string x] 92)).heap.size ≤ k ∧ k < W5.heap.size)) = F6 at HG HF
          generalize W5.setCell ⟨d, 4, none⟩ (.slice (some ⟨g5, 0, none⟩) (s.pend.length + 1) c5) = W6 at hHeld HG HT6 HS6 ⊢
          have c3 : W6.cell? ⟨d, 3, none⟩ = some (.slice (some ⟨gv, 0, none⟩) n n) := HG.out.cell 3
          have HON := Lib.hid (onto_walk gv n o s.vis x (W6.drewN 1) (HG.out.rv.drewN 1) HG.out.lv HFT.out HG.out.n64)
          have HC7 : Hid (∀ W7, Turns (fun k => k = gv) (W6.drewN 1) W7 → W7.cell? ⟨hs, 0, none⟩ = some (.int .i64 (o : Int)) ∧ W7.cell? ⟨hs, 1, none⟩ = some (.string x) ∧ W7.cell? ⟨d, 3, none⟩ = some (.slice (some ⟨gv, 0, none⟩) n n)) := Lib.hid (fun W7 t => by
            have b1 := t.block hs HS6.out (by have := H0.out.lf gv H0.out.fd.2.2; have := HHS.out; omega)
            have b2 := t.block d (HG.out.lf d HG.out.fd.1) HG.out.ne.2.1
            exact ⟨(World.cell?_of_block (a := ⟨hs, 0, none⟩) b1).trans hHeld.1, (World.cell?_of_block (a := ⟨hs, 1, none⟩) b1).trans hHeld.2, (World.cell?_of_block (a := ⟨d, 3, none⟩) b2).trans c3⟩)
          obtain ⟨l0, l1⟩ := hHeld
          clear hS0 HL6 HL7 HE5 HL10 HO HNE HSZ
          go_wp2_with fail
          go_region_held3 (fun w' => w'.cell? ⟨hs, 0, none⟩ = some (.int .i64 (o : Int)) ∧ w'.cell? ⟨hs, 1, none⟩ = some (.string x) ∧ w'.cell? ⟨d, 3, none⟩ = some (.slice (some ⟨gv, 0, none⟩) n n)) (first | exact ⟨l0, l1, c3⟩ | exact HC7.out _ (by assumption) | fail)
            (first | (go_at_call 48; refine HON.out.mono ?_; rintro e W7 ⟨rfl, hr7, ht7⟩) | fail)
          have hpl : (patch s.vis o x.data.toList).length = n := by
            have q1 : s.vis.length = n := H0.out.lv
            have q2 : x.data.toList.length = x.size := by simp
            have q3 := HFT.out
            rw [patch_length (by omega)]; exact q1
          have h7 := (HG.out.drewN 1).wrote _ hpl hr7 ht7
          have HU := Lib.hid (used_walk h7 HL.out)
          have HTT := Lib.hid ((HT6.out.trans (Turns.drew W6)).then (ht7.mono (fun k q => by rw [q]; exact HG.out.fd.2.2)) HF.out)
          clear h7 hr7 ht7
          go_wp2_with (first | (go_at_call 49; refine HU.out.mono ?_; rintro e W8 ⟨rfl, h8, ht8⟩) | fail)
          go_ret
          exact ⟨rfl, ⟨F6, _, h8, HF.out⟩, HTT.out.then ht8 HF.out⟩
        exact AllReadyH.nil
      exact AllReadyH.nil
    exact AllReadyH.nil
  exact AllReadyH.nil

end Go.Proofs.YtllmciiadceinaaGreatDoor
