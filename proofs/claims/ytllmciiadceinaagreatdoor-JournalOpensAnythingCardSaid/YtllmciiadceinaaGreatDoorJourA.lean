/-
  The contracts of package journal: check, (*tape).add. Conditions: the variable holds an error, the record is short.
-/
import Derived.Test.YtllmciiadceinaaGreatDoorJourP
import Derived.Test.YtllmciiadceinaaGreatDoorWireB
import Derived.Test.YtllmciiadceinaaGreatDoorDiskI
namespace Go.Proofs.YtllmciiadceinaaGreatDoor
open Go Go.RowKit Go.Shelf Wr

theorem Tryz.infoStr : (Tryz.prog.info? 9).map (fun i => (i.zero, i.size, i.bytes)) = some (some (.string ⟨#[]⟩), 1, 16) := by kernel_rfl
theorem elemStr : Elem Tryz.prog 22 9 1 16 := Elem.mk' Tryz.underlying22 Tryz.infoStr rfl (by decide)

/-- What the package's variable holds. -/
def errV (a : Addr) : Value := .iface 222 (.pointer (some a))
def ErrAt (W : World) (a : Addr) : Prop := W.cell? ⟨0, 0, none⟩ = some (errV a)

set_option maxHeartbeats 1000000 in
theorem check_yes (W : World) : Calls Tryz.prog 100 #[.bool true] W fun e W' => e = .returned (.tuple #[]) ∧ W = W' := by
  go_enter Tryz.func100, Tryz.ntmps100
  go_wp2_with fail
  go_end0
  exact ⟨rfl, rfl⟩
set_option maxHeartbeats 1000000 in
theorem check_no (W : World) (a : Addr) (h : ErrAt W a) : Calls Tryz.prog 100 #[.bool false] W fun e W' => e = .panicked [{ v := errV a, recovered := false }] ∧ W = W' := by
  unfold ErrAt errV at h
  unfold errV
  go_enter Tryz.func100, Tryz.ntmps100
  go_wp2_with fail
  exact ⟨rfl, rfl, rfl⟩

/-- A tape at block b, its records at rv, which lie at base B or behind it. -/
structure TapeAt (W : World) (b : Nat) (rv : Value) (B : Nat) (t : TS) (xs : List Value) : Prop where
  c0 : W.cell? ⟨b, 0, none⟩ = some rv
  c1 : W.cell? ⟨b, 1, none⟩ = some (.string t.head)
  c2 : W.cell? ⟨b, 2, none⟩ = some (.int .i64 (t.size : Int))
  fr : ∀ i, W.frozen? ⟨b, i, none⟩ = false
  own : OL W B 9 1 (one .string) rv t.recs
  ne : ∀ g, rv.ownBlock = some g → g ≠ b
  ex : ∀ (i : Nat) v, xs[i]? = some v → W.cell? ⟨b, 3 + i, none⟩ = some v
  nby : ∀ cs fz, W.heap[b]? ≠ some (.cells cs 5 fz)
/-- A store leaves a block's type. -/
theorem setCell_kind {W : World} {p : Addr} {v : Value} {k : Nat} {cs : Array Value} {ty : TypeId} {fz : Nat × Nat} (h : (W.setCell p v).heap[k]? = some (.cells cs ty fz)) : ∃ cs', W.heap[k]? = some (.cells cs' ty fz) := by
  unfold World.setCell at h
  simp only [Array.getElem?_modify] at h
  split at h
  · cases ho : W.heap[k]? with
    | none => rw [ho] at h; cases h
    | some o =>
      rw [ho] at h
      cases o <;> simp at h <;> simp [h]
  · exact ⟨cs, h⟩
section
variable {W W' : World} {b B : Nat} {rv : Value} {t : TS} {xs : List Value}
theorem TapeAt.lt (h : TapeAt W b rv B t xs) : b < W.heap.size := cell_lt h.c0
theorem TapeAt.keep {Z : Nat → Prop} (h : TapeAt W b rv B t xs) (u : Turns Z W W') (hb : ¬ Z b) (hz : ∀ g, rv.ownBlock = some g → ¬ Z g) : TapeAt W' b rv B t xs :=
  ⟨(u.cell (p := ⟨b, 0, none⟩) h.lt hb).trans h.c0, (u.cell (p := ⟨b, 1, none⟩) h.lt hb).trans h.c1, (u.cell (p := ⟨b, 2, none⟩) h.lt hb).trans h.c2,
   fun i => (u.frozen (p := ⟨b, i, none⟩) h.lt hb).trans (h.fr i), h.own.keep fun g hg => u.block g (h.own.lt g hg).2 (hz g hg), h.ne, fun i v hv => (u.cell (p := ⟨b, 3 + i, none⟩) h.lt hb).trans (h.ex i v hv), fun cs fz q => h.nby cs fz ((u.block b h.lt hb).symm.trans q)⟩
end
theorem grown_block {W W' : World} {vp : Value} {k : Nat} (hg : W.grownBy W' vp.ownBlock) (hk : k < W.heap.size) (hne : ∀ g, vp.ownBlock = some g → g ≠ k) : W'.heap[k]? = W.heap[k]? := grown_cell hg hk hne
/-- The tape's cells 0 and 2 are written; cell 1. -/
theorem TapeAt.set1 {W : World} {b B : Nat} {rv : Value} {t : TS} {xs : List Value} (h : TapeAt W b rv B t xs) (x : ByteArray) : TapeAt (W.setCell ⟨b, 1, none⟩ (.string x)) b rv B { t with head := x } xs :=
  ⟨by rw [World.cell?_setCell_other _ _ _ _ (fun q => by injection q; omega)]; exact h.c0, World.cell?_setCell_same _ _ _ (by rw [h.c1]),
   by rw [World.cell?_setCell_other _ _ _ _ (fun q => by injection q; omega)]; exact h.c2, fun i => by rw [World.frozen?_setCell]; exact h.fr i,
   h.own.keep fun g hg => (Turns.setCell (Z := fun k => k = b) W ⟨b, 1, none⟩ _ rfl).block g (h.own.lt g hg).2 (h.ne g hg), h.ne, fun i v hv => by rw [World.cell?_setCell_other _ _ _ _ (fun q => by injection q; omega)]; exact h.ex i v hv, fun cs fz q => by obtain ⟨cs', q'⟩ := setCell_kind q; exact h.nby cs' fz q'⟩
theorem TapeAt.set2 {W : World} {b B : Nat} {rv : Value} {t : TS} {xs : List Value} (h : TapeAt W b rv B t xs) (x : Nat) : TapeAt (W.setCell ⟨b, 2, none⟩ (.int .i64 (x : Int))) b rv B { t with size := x } xs :=
  ⟨by rw [World.cell?_setCell_other _ _ _ _ (fun q => by injection q; omega)]; exact h.c0, by rw [World.cell?_setCell_other _ _ _ _ (fun q => by injection q; omega)]; exact h.c1,
   World.cell?_setCell_same _ _ _ (by rw [h.c2]), fun i => by rw [World.frozen?_setCell]; exact h.fr i,
   h.own.keep fun g hg => (Turns.setCell (Z := fun k => k = b) W ⟨b, 2, none⟩ _ rfl).block g (h.own.lt g hg).2 (h.ne g hg), h.ne, fun i v hv => by rw [World.cell?_setCell_other _ _ _ _ (fun q => by injection q; omega)]; exact h.ex i v hv, fun cs fz q => by obtain ⟨cs', q'⟩ := setCell_kind q; exact h.nby cs' fz q'⟩
theorem TapeAt.grow {W W5 : World} {b B : Nat} {rv : Value} {t : TS} {xs : List Value} (h : TapeAt W b rv B t xs) (hg : W.grownBy W5 rv.ownBlock) (g m c : Nat) (l : List ByteArray) (h5 : OL W5 B 9 1 (one .string) (.slice (some ⟨g, 0, none⟩) m c) l)
    (hg' : rv.ownBlock = some g ∨ g = W.heap.size) :
    (W5.cell? ⟨b, 0, none⟩ = some rv ∧ W5.frozen? ⟨b, 0, none⟩ = false) ∧ TapeAt (W5.setCell ⟨b, 0, none⟩ (.slice (some ⟨g, 0, none⟩) m c)) b (.slice (some ⟨g, 0, none⟩) m c) B { t with recs := l } xs ∧ Turns (fun k => k = b ∨ rv.ownBlock = some k) W (W5.setCell ⟨b, 0, none⟩ (.slice (some ⟨g, 0, none⟩) m c)) := by
  have hb := grown_cell hg h.lt (fun g' q => h.ne g' q)
  have e0 := (World.cell?_of_block (a := ⟨b, 0, none⟩) hb).trans h.c0
  have e1 := (World.cell?_of_block (a := ⟨b, 1, none⟩) hb).trans h.c1
  have e2 := (World.cell?_of_block (a := ⟨b, 2, none⟩) hb).trans h.c2
  have ef : ∀ i, W5.frozen? ⟨b, i, none⟩ = false := fun i => (World.frozen?_of_block (a := ⟨b, i, none⟩) hb).trans (h.fr i)
  have hne : g ≠ b := by
    rcases hg' with q | q
    · exact h.ne g q
    · have := h.lt; omega
  have hput : Turns (fun k => k = b) W5 (W5.setCell ⟨b, 0, none⟩ (.slice (some ⟨g, 0, none⟩) m c)) := Turns.setCell W5 _ _ rfl
  have ht5 : Turns (fun k => k = b ∨ rv.ownBlock = some k) W W5 := ⟨hg.os, hg.tape, hg.output, hg.size, fun k hk hf => grown_cell hg hk (fun g' q => fun e => hf (Or.inr (e ▸ q)))⟩
  refine ⟨⟨e0, ef 0⟩, ⟨World.cell?_setCell_same _ _ _ (by rw [e0]), ?_, ?_, fun i => by rw [World.frozen?_setCell]; exact ef i, ?_, ?_, fun i v hv => by rw [World.cell?_setCell_other _ _ _ _ (fun q => by injection q; omega)]; exact (World.cell?_of_block (a := ⟨b, 3 + i, none⟩) hb).trans (h.ex i v hv), fun cs fz q => by obtain ⟨cs', q'⟩ := setCell_kind q; exact h.nby cs' fz (hb.symm.trans q')⟩, ht5.trans (hput.mono fun k q => Or.inl q)⟩
  · rw [World.cell?_setCell_other _ _ _ _ (fun q => by injection q; omega)]; exact e1
  · rw [World.cell?_setCell_other _ _ _ _ (fun q => by injection q; omega)]; exact e2
  · exact h5.keep fun g' hg' => hput.block g' (h5.lt g' hg').2 (by cases hg'; exact hne)
  · intro g' q
    cases q
    exact hne

/-- The one byte that a record begins with. -/
theorem one_conv (W : World) : (Go.convert 39 9 (.slice (some ⟨W.heap.size, 0, none⟩) 1 1)).run Tryz.prog (W.alloc (.cells #[.int .u8 1] 5)) = .ok (.string ⟨#[1]⟩) (W.alloc (.cells #[.int .u8 1] 5)) :=
  (RAt.alloc_new (l := [1]) (f := bv) W #[.int .u8 1] 5 rfl).convert (P := Tryz.prog) (cap := 1) rfl 39 9 5 Tryz.underlying39 Tryz.underlying5 Tryz.underlying9
theorem one_conv' (W : World) : (Go.convert 39 9 (.slice (some ⟨W.heap.size, 0, none⟩) 1 1)).run Tryz.prog (W.alloc (.cells #[.int .u8 1] 5)).drew = .ok (.string ⟨#[1]⟩) (W.alloc (.cells #[.int .u8 1] 5)).drew :=
  (RAt.alloc_new (l := [1]) (f := bv) W #[.int .u8 1] 5 rfl).drew.convert (P := Tryz.prog) (cap := 1) rfl 39 9 5 Tryz.underlying39 Tryz.underlying5 Tryz.underlying9

set_option maxRecDepth 100000 in
set_option maxHeartbeats 4000000 in
theorem jadd_walk {W : World} {B b : Nat} {rv : Value} {t : TS} {xs : List Value} (h : TapeAt W b rv B t xs) (hB : B ≤ W.heap.size) (r : ByteArray) (hr : r.size ≤ 65536) (hh : t.head.size = 32) (hK : KAt W) (hl : t.recs.length ≤ 1000000) (hsz : t.size ≤ 1000000000000) :
    Calls Tryz.prog 38 #[.pointer (some ⟨b, 0, none⟩), .string r] W fun e W' => e = .returned (.string ⟨(recL t.head r).toArray⟩) ∧ (∃ rv', TapeAt W' b rv' B (t.add r) xs ∧ ∀ g, rv'.ownBlock = some g → rv.ownBlock = some g ∨ W.heap.size ≤ g) ∧ Turns (fun k => k = b ∨ rv.ownBlock = some k) W W' := by
  have HT := Lib.hid h
  have hlt := h.lt
  have c1 := h.c1
  have HCH := Lib.hid (chain_walk t.head r W (by omega) hK)
  have HP := Lib.hid (fun w => Wr.putString_yes r hr w)
  clear h hK
  go_enter Tryz.func38, Tryz.ntmps38
  go_wp2_with (first
    | (go_at_call 70; refine HCH.out.mono ?_; rintro e W1 ⟨rfl, hb1⟩
       have hT1 := HT.out.keep (Turns.of_below (Z := fun _ => False) hb1) (fun q => q) (fun _ _ q => q)
       have hsz1 := hb1.size
       have d0 := hT1.c0
       have d1 := hT1.c1
       have f1 := hT1.fr 1
       have HT1 := Lib.hid hT1
       clear hT1)
    | (at_builtin
       have hT2 := (HT1.out.set1 (chainS t.head r)).keep (Turns.alloc (Z := fun _ => False) _ (.cells #[.string r] 9)) (fun q => q) (fun _ _ q => q)
       have hu2 := ((Turns.of_below (Z := fun k => k = b ∨ rv.ownBlock = some k) hb1).trans (Turns.setCell W1 ⟨b, 1, none⟩ (.string (chainS t.head r)) (Or.inl rfl))).trans (Turns.alloc _ (.cells #[.string r] 9))
       go_must (refine wpList_app rfl (.tmp 21) (.tmp 23) 22 rfl elemStr _ t.recs t.recs.length rfl rfl hT2.own r _ #[.string r] rfl ?hc rfl rfl (by simp [one, Value.oneCell']) (by unfold maxLen; omega) (by omega) (by have := hu2.size; omega) ?_)
       (case hc => have hnew := World.alloc_heap_new (W1.setCell ⟨b, 1, none⟩ (.string (chainS t.head r))) (.cells #[.string r] 9); rw [World.size_setCell] at hnew; exact hnew)
       intro g3 c3 w3 h3 hg3 hg3' hg3l hb3
       obtain ⟨⟨e0, ef⟩, hT4, hu4⟩ := hT2.grow hg3 g3 _ c3 _ h3 hg3'
       have HT4 := Lib.hid hT4
       have HU4 := Lib.hid (hu2.trans hu4)
       have HG4 := Lib.hid (show rv.ownBlock = some g3 ∨ W.heap.size ≤ g3 by rcases hg3' with q | q; exact Or.inl q; exact Or.inr (by rw [q]; exact hu2.size))
       clear hT4 hu4 hT2 hu2 h3 hg3 hg3' hb3
       ))
  generalize w3.setCell ⟨b, 0, none⟩ (.slice (some ⟨g3, 0, none⟩) (t.recs.length + 1) c3) = W4 at HT4 HU4 ⊢
  refine (HP.out W4).mono ?_
  rintro e W5 ⟨rfl, hb5⟩
  have hT5 := HT4.out.keep (Turns.of_below (Z := fun _ => False) hb5) (fun q => q) (fun _ _ q => q)
  have HU5 := Lib.hid (HU4.out.trans (Turns.of_below hb5))
  have d1' := hT5.c1
  have d2' := hT5.c2
  have f2' := hT5.fr 2
  have HT5 := Lib.hid hT5
  clear HT4 HU4 hb5 hT5 HT1 hb1 d0 d1 f1 e0 ef HT HCH HP hg3l c1 hsz1
  obtain ⟨hd, hhd⟩ : ∃ x, chainS t.head r = x := ⟨_, rfl⟩
  obtain ⟨ps, hps⟩ : ∃ x : ByteArray, (⟨(putI (r.size : Int)).toArray⟩ : ByteArray) ++ r = x := ⟨_, rfl⟩
  rw [hhd] at d1'
  rw [hps]
  have HE := Lib.hid (And.intro hhd hps)
  clear hhd hps
  have hds : hd.size = 32 := by rw [← HE.out.1]; exact chainS_size _ _
  have hpss : ps.size ≤ 65600 := by rw [← HE.out.2, ba_size_append, ba_mk_size]; have := (putI_len9 hr).1; omega
  have a1 := fun w => strAdd (P := Tryz.prog) (⟨#[1]⟩ : ByteArray) ps (by show 1 + ps.size ≤ _; omega) w
  have a2 := fun w => strAdd (P := Tryz.prog) ((⟨#[1]⟩ : ByteArray) ++ ps) hd (by rw [ba_size_append]; show 1 + ps.size + hd.size ≤ _; omega) w
  have cv := one_conv W5
  have cv' := one_conv' W5
  have hS0 : W5.drew.cell? ⟨b, 1, none⟩ = some (.string hd) := d1'
  go_wp2_with fail
  refine wp_region_noPanic ?_
  refine wp_region_held_drew (S := fun w' => w'.cell? ⟨b, 1, none⟩ = some (.string hd)) (by kernel_rfl) hS0 (fun hHeld => ?_)
  refine wpAnyH_take (i := 2) (oi := { dst := some 34, op := Op.move (Operand.tmp 5), type := 9, pos := "journal.go:30", after := #[], guard := none }) (v := ?_) rfl (by kernel_rfl) (by kernel_rfl) (by kernel_rfl) (fun _ _ _ h => h) (Or.inl ⟨by rfl, ?_⟩) (by assumption) ?_
  rotate_left
  · intro w hSw; (try dsimp only at hSw); go_simp <;> with_reducible rfl
  try simp only [Act.put, List.setIfInBounds_toArray, List.set_cons_zero, List.set_cons_succ]
  refine wpAnyH_take (i := 4) (oi := { dst := some 36, op := Op.move (Operand.tmp 0), type := 124, pos := "journal.go:30", after := #[], guard := none }) (v := ?_) rfl (by kernel_rfl) (by kernel_rfl) (by kernel_rfl) (fun _ _ _ h => h) (Or.inl ⟨by rfl, ?_⟩) (by assumption) ?_
  rotate_left
  · intro w hSw; (try dsimp only at hSw); go_simp <;> with_reducible rfl
  try simp only [Act.put, List.setIfInBounds_toArray, List.set_cons_zero, List.set_cons_succ]
  refine wpAnyH_take (i := 5) (oi := { dst := some 37, op := Op.nilCheck (Operand.tmp 36), type := 0, pos := "journal.go:30", after := #[{ on := 4, ground := Ground.data }], guard := none }) (v := ?_) rfl (by kernel_rfl) (by kernel_rfl) (by kernel_rfl) (fun _ _ _ h => h) (Or.inl ⟨by rfl, ?_⟩) (by assumption) ?_
  rotate_left
  · intro w hSw; (try dsimp only at hSw); go_simp <;> with_reducible rfl
  try simp only [Act.put, List.setIfInBounds_toArray, List.set_cons_zero, List.set_cons_succ]
  refine wpAnyH_take (i := 6) (oi := { dst := some 38, op := Op.fieldAddr 72 (Operand.tmp 37) 1, type := 0, pos := "journal.go:30", after := #[{ on := 5, ground := Ground.data }], guard := none }) (v := ?_) rfl (by kernel_rfl) (by kernel_rfl) (by kernel_rfl) (fun _ _ _ h => h) (Or.inl ⟨by rfl, ?_⟩) (by assumption) ?_
  rotate_left
  · intro w hSw; (try dsimp only at hSw); go_simp <;> with_reducible rfl
  try simp only [Act.put, List.setIfInBounds_toArray, List.set_cons_zero, List.set_cons_succ]
  refine wpAnyH_take (i := 7) (oi := { dst := some 39, op := Op.load 9 (Operand.tmp 38), type := 9, pos := "journal.go:30", after := #[{ on := 6, ground := Ground.data }], guard := none }) (v := ?_) rfl (by kernel_rfl) (by kernel_rfl) (by kernel_rfl) (fun _ _ _ h => h) (Or.inl ⟨by rfl, ?_⟩) (by assumption) ?_
  rotate_left
  · intro w hSw; (try dsimp only at hSw); go_simp <;> with_reducible rfl
  try simp only [Act.put, List.setIfInBounds_toArray, List.set_cons_zero, List.set_cons_succ]
  refine wpAnyH_ready (rs := [0]) (by kernel_rfl) (by simp) ?_
  refine AllReadyH.cons (o := { dst := some 32, op := Op.buildSlice 39 1 #[(0, Operand.const (Value.int IntKind.u8 1))], type := 39, pos := "journal.go:30", after := #[], guard := none }) rfl (fun K hK => ?_) ?_
  · go_simp
    refine hK.out _ _ (by go_keep) (fun hHeld => ?_)
    clear hK K
    try simp only [Act.put, List.setIfInBounds_toArray, List.set_cons_zero, List.set_cons_succ]
    refine wpAnyH_ready (rs := [1]) (by kernel_rfl) (by simp) ?_
    refine AllReadyH.cons (o := { dst := some 33, op := Op.convert 39 9 (Operand.tmp 32), type := 9, pos := "journal.go:30", after := #[{ on := 0, ground := Ground.data }], guard := none }) rfl (fun K hK => ?_) ?_
    · go_simp
      refine hK.out _ _ (by assumption) (fun hHeld => ?_)
      clear hK K
      try simp only [Act.put, List.setIfInBounds_toArray, List.set_cons_zero, List.set_cons_succ]
      refine wpAnyH_take (i := 3) (oi := { dst := some 35, op := Op.binOp BinOp.add 9 (Operand.tmp 33) (Operand.tmp 34) 9, type := 9, pos := "journal.go:30", after := #[{ on := 1, ground := Ground.data }, { on := 2, ground := Ground.data }], guard := none }) (v := ?_) rfl (by kernel_rfl) (by kernel_rfl) (by kernel_rfl) (fun _ _ _ h => h) (Or.inl ⟨by rfl, ?_⟩) (by assumption) ?_
      rotate_left
      · intro w hSw; (try dsimp only at hSw); go_simp <;> with_reducible rfl
      try simp only [Act.put, List.setIfInBounds_toArray, List.set_cons_zero, List.set_cons_succ]
      refine wpAnyH_take (i := 8) (oi := { dst := some 40, op := Op.binOp BinOp.add 9 (Operand.tmp 35) (Operand.tmp 39) 9, type := 9, pos := "journal.go:30", after := #[{ on := 3, ground := Ground.data }, { on := 7, ground := Ground.data }], guard := none }) (v := ?_) rfl (by kernel_rfl) (by kernel_rfl) (by kernel_rfl) (fun _ _ _ h => h) (Or.inl ⟨by rfl, ?_⟩) (by assumption) ?_
      rotate_left
      · intro w hSw; (try dsimp only at hSw); go_simp <;> with_reducible rfl
      try simp only [Act.put, List.setIfInBounds_toArray, List.set_cons_zero, List.set_cons_succ]
      refine wpAnyH_take (i := 9) (oi := { dst := some 7, op := Op.assign (Operand.tmp 40), type := 9, pos := "journal.go:30", after := #[{ on := 8, ground := Ground.data }, { on := 0, ground := Ground.phase }, { on := 1, ground := Ground.phase }, { on := 2, ground := Ground.phase }, { on := 3, ground := Ground.phase }, { on := 4, ground := Ground.phase }, { on := 5, ground := Ground.phase }, { on := 6, ground := Ground.phase }, { on := 7, ground := Ground.phase }, { on := 8, ground := Ground.phase }], guard := none }) (v := ?_) rfl (by kernel_rfl) (by kernel_rfl) (by kernel_rfl) (fun _ _ _ h => h) (Or.inl ⟨by rfl, ?_⟩) (by assumption) ?_
      rotate_left
      · intro w hSw; (try dsimp only at hSw); go_simp <;> with_reducible rfl
      try simp only [Act.put, List.setIfInBounds_toArray, List.set_cons_zero, List.set_cons_succ]
      refine wpAnyH_done (by kernel_rfl) ?_ _
      refine NoPanic.normal ?_
      have hT6 := (HT5.out.keep (Turns.alloc (Z := fun _ => False) W5 (.cells #[.int .u8 1] 5)) (fun q => q) (fun _ _ q => q)).keep (Turns.drew (Z := fun _ => False) _) (fun q => q) (fun _ _ q => q)
      have HU6 := Lib.hid ((HU5.out.trans (Turns.alloc W5 (.cells #[.int .u8 1] 5))).trans (Turns.drew _))
      have hrec : (⟨#[1]⟩ : ByteArray) ++ ps ++ hd = ⟨(recL t.head r).toArray⟩ := by
        rw [← HE.out.1, ← HE.out.2]
        apply ba_ext
        rw [ba_append, ba_append, ba_append]
        unfold recL putL
        simp
      have hlen : ((⟨#[1]⟩ : ByteArray) ++ ps ++ hd).size = (recL t.head r).length := by rw [hrec]; exact ba_mk_size _
      obtain ⟨out, hout⟩ : ∃ x : ByteArray, (⟨#[1]⟩ : ByteArray) ++ ps ++ hd = x := ⟨_, rfl⟩
      obtain ⟨m, hm⟩ : ∃ x : Nat, out.size = x := ⟨_, rfl⟩
      rw [hout] at hlen hrec ⊢
      have hmb : m ≤ 70000 := by rw [← hm, ← hout, ba_size_append, ba_size_append]; show 1 + ps.size + hd.size ≤ _; omega
      rw [hm] at hlen
      have w1 : IntKind.i64.wrap ((t.size : Int) + (m : Int)) = ((t.size + m : Nat) : Int) := by rw [IntKind.wrap_i64]; omega
      generalize (W5.alloc (.cells #[.int .u8 1] 5)).drew = W6 at hT6 HU6 ⊢
      have HR := Lib.hid (And.intro hrec hlen)
      have x2 := hT6.c2
      have y2 := hT6.fr 2
      have HT6 := Lib.hid hT6
      clear hT6 HT5 HU5 hrec hlen hout cv cv' a1 a2 hS0 d1' d2' f2' HE
      go_wp2_with fail
      go_ret
      have hfin := HT6.out.set2 (t.size + m)
      refine ⟨congrArg (fun x => Ending.returned (.string x)) HR.out.1, ⟨.slice (some ⟨g3, 0, none⟩) (t.recs.length + 1) c3, ?_, ?_⟩, HU6.out.trans (Turns.setCell W6 _ _ (Or.inl rfl))⟩
      · have hadd : t.add r = ⟨t.recs ++ [r], chainS t.head r, t.size + m⟩ := by unfold TS.add; rw [HR.out.2]
        rw [hadd]
        exact hfin
      · intro g q
        cases q
        exact HG4.out
    exact AllReadyH.nil
  exact AllReadyH.nil
end Go.Proofs.YtllmciiadceinaaGreatDoor
