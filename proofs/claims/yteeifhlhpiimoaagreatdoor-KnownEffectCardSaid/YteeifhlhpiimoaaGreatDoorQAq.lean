/-
  Contracts of the law's example and key. Conditions: each contract's own. Contracts of the law's key. Conditions: the base's. What is known of the law's example, plainly. Contracts of yardstickref19's SameInts and SameSuspicions. Conditions: the lists' bounds. What the law's sane asks, call by call. Conditions: the bases are the example's. Contract of the law's sane: it answers true. Condition: the table of powers stands.
-/
import Derived.Test.YteeifhlhpiimoaaGreatDoorQAo
import Derived.Test.YteeifhlhpiimoaaGreatDoorQAn
import Derived.Great.FillDense
import Derived.Test.YteeifhlhpiimoaaGreatDoorQAm
import Derived.Test.YteeifhlhpiimoaaGreatDoorQAk
import Derived.Test.YteeifhlhpiimoaaGreatDoorQAa
import Derived.Test.YteeifhlhpiimoaaGreatDoorQAj
section
namespace Go.Proofs.YteeifhlhpiimoaaGreatDoor
open Go Go.RowKit Go.Shelf
attribute [local go_sem] Oper.semAt_some
theorem EAt.of_block {w : World} {b : Nat} {l : List Ent} {T : TypeId} (h : w.heap[b]? = some (.cells (l.flatMap Ent.cells).toArray T (0, 0))) : EAt w (Old w) (some ⟨b, 0, none⟩) l := fun i e he => by
  refine ⟨b, rfl, (Array.getElem?_eq_some_iff.1 h).1, fun j v hv => cells_i h ?_⟩
  have hj : j < 18 := (List.getElem?_eq_some_iff.1 hv).1
  have := flat_at (f := Ent.cells) (s := 18) (fun _ => rfl) l i e he j hj
  simpa using this.trans hv
theorem wpList_build_ents {ops : Array Oper} {rest : List Oper} {o : Oper} {a : Act} {w : World} {Q : Exit → Act → World → Prop} (hgd : o.guard = none) (n : Nat) (parts : Array (Nat × Operand)) (ho : o.op = .buildSlice 25 n parts) (hn : 0 < n ∧ n ≤ 1000) (l : List Ent)
    (hlen : l.length = n) (hparts : (parts.map fun (i, x) => (i, a.eval x)).toList = ((l.map Ent.val).zipIdx 0).map fun x => (x.2, x.1))
    (hk : ∀ b V, w.heap.size = b → Below b w V → EAt V (Old V) (some ⟨b, 0, none⟩) l → wpList Tryz.prog ops Q rest (a.put o.dst (.slice (some ⟨b, 0, none⟩) n n)) V) : wpList Tryz.prog ops Q (o :: rest) a w := by
  refine wpList_plain hgd fun K hK => ?_
  have h := hK _ _ (hk _ _ rfl (below_new w (.cells (l.flatMap Ent.cells).toArray 33)) (EAt.of_block (World.alloc_heap_new w _)))
  obtain ⟨i, h1, h2, h3, h4⟩ := info_parts (show (Tryz.prog.info? 33).map (fun i => (i.zero, i.size, i.bytes)) = some (some zeroE.val, 18, 200) by kernel_rfl)
  refine wp_buildSlice 25 33 n parts ho (l.flatMap Ent.cells).toArray i zeroE.val Tryz.underlying25 h1 h2 (by rw [h3]; omega) (by rw [h3]; omega) ?_ h
  rw [h3, hparts]
  have hc : ∀ v ∈ l.map Ent.val, v.cells.size = 18 := fun v hv => by
    obtain ⟨e, _, rfl⟩ := List.mem_map.1 hv
    rfl
  have := Great.fill_whole (s := 18) (by decide) (l.map Ent.val) ((Array.range (n * 18)).map (zeroE.val.cells[· % zeroE.val.cells.size]!)) hc (by simp [hlen])
  rw [this, List.flatMap_map]
  rfl
theorem root1_walk (w : World) : Calls Tryz.prog 43 #[.int .i64 1] w fun e w' => e = .returned (.string (rootB 1)) ∧ Below w.heap.size w w' := root_walk 1 (by omega) w
theorem root2_walk (w : World) : Calls Tryz.prog 43 #[.int .i64 2] w fun e w' => e = .returned (.string (rootB 2)) ∧ Below w.heap.size w w' := root_walk 2 (by omega) w
def ex1 : Ent := { zeroE with kind := 2, ver := 1, item := 2, rn := ⟨#[49]⟩, rd := ⟨#[49, 48]⟩ }
def ex2 : Ent := { zeroE with kind := 1, ver := 1, day := 10, id := 1, item := 2, lab := 1, frm := 10, ln := ⟨#[52]⟩, ld := ⟨#[49]⟩, hn := ⟨#[53]⟩, hd := ⟨#[49]⟩ }
def ex3 : Ent := { zeroE with kind := 1, ver := 1, day := 30, id := 2, item := 2, lab := 1, frm := 5, ln := ⟨#[51]⟩, ld := ⟨#[49]⟩, hn := ⟨#[52]⟩, hd := ⟨#[49]⟩ }
def ex4 : Ent := { zeroE with kind := 5, ver := 1, id := 1, lab := 3, til := 100, text := rootB 1 }
def ex5 : Ent := { zeroE with kind := 5, ver := 1, id := 2, lab := 3, frm := 50, til := 200, text := rootB 2 }
def ex6 : Ent := { zeroE with kind := 6, ver := 1, item := 2, frm := 60 }
def ex7 : Ent := { zeroE with kind := 9, ver := 1, id := 1, item := 2, person := 9 }
def ex8 : Ent := { zeroE with kind := 8, ver := 1, item := 2, rn := ⟨#[51]⟩, rd := ⟨#[49]⟩ }
def exL : List Ent := [ex1, ex2, ex3, ex4, ex5, ex6, ex7, ex8]
set_option maxRecDepth 100000 in
set_option maxHeartbeats 2000000 in
theorem example_walk (w : World) : Calls Tryz.prog 48 #[] w fun e w' => ∃ b, e = .returned (.slice (some ⟨b, 0, none⟩) 8 8) ∧ EAt w' (Old w') (some ⟨b, 0, none⟩) exL ∧ Below w.heap.size w w' := by
  have HB := Lib.hid (Below.refl w.heap.size w)
  go_enter Tryz.func48, Tryz.ntmps48
  go_wp2_with (first
    | ((with_reducible refine wpList_build_ents rfl 8 #[(0, .tmp 2), (1, .tmp 6), (2, .tmp 10), (3, .tmp 12), (4, .tmp 14), (5, .tmp 15), (6, .tmp 16), (7, .tmp 18)] rfl ?hn exL ?hl ?hp ?_); (case hn => decide); (case hl => rfl); (case hp => kernel_rfl); intro b V hb hbl hat; have HAT := Lib.hid hat; have HB := Lib.hid (HB.out.trans (hbl.mono (by have := HB.out.size; omega))); clear hb hbl hat)
    | (refine wpList_build rfl 29 #[(0, .const (.string ⟨#[49]⟩)), (1, .const (.string ⟨#[49, 48]⟩))] rfl #[.string ⟨#[49]⟩, .string ⟨#[49, 48]⟩] (by kernel_rfl) ?_)
    | (refine wpList_build rfl 33 #[(0, .const (.int .i64 2)), (2, .const (.int .i64 1)), (8, .const (.int .i64 2)), (12, .tmp 1)] rfl ex1.cells.toArray (by kernel_rfl) ?_)
    | (go_at_call 50; (with_reducible refine (n_walk _ _).mono ?_); rintro e2 w2 ⟨rfl, hb2⟩; have HB := Lib.hid (HB.out.trans (hb2.mono HB.out.size)); clear hb2)
    | (go_at_call 43; (first | (with_reducible refine (root1_walk _).mono ?_) | (with_reducible refine (root2_walk _).mono ?_)); rintro e2 w2 ⟨rfl, hb2⟩; have HB := Lib.hid (HB.out.trans (hb2.mono HB.out.size)); clear hb2)
    | fail)
  go_ret
  exact ⟨b, rfl, HAT.out, HB.out⟩
end Go.Proofs.YteeifhlhpiimoaaGreatDoor
end
section
namespace Go.Proofs.YteeifhlhpiimoaaGreatDoor
open Go Go.RowKit Go.Shelf
attribute [local go_sem] Oper.semAt_some
theorem beq_bytes (s t : ByteArray) : (s.toList == t.toList) = decide (s = t) := by
  by_cases h : s = t
  · subst h; simp
  · have : s.toList ≠ t.toList := fun q => h (toList_inj q)
    simp [h, this]
def keyIs (B : Bas) (t : Int) (n : Nat) : Bool := (keyB B 3 t).2 && decide ((keyB B 3 t).1.text = rootB n)
theorem one_base (B : Bas) : B.cells.toArray.all (·.oneCell') = true := by simp [Bas.cells, Value.oneCell']
theorem box_row {P : Program} {ops : Array Oper} {rest : List Oper} {op : Oper} {a : Act} {w : World} {Q : Exit → Act → World → Prop} (hgd : op.guard = none) (T : TypeId) (x : Operand) (ho : op.op = .box T x) (cs : Array Value) (hx : a.eval x = .agg cs)
    (h : ∀ b w', w.heap.size = b → w'.heap[b]? = some (.cells cs T (0, 0)) → Below b w w' → w'.heap.size = b + 1 → wpList P ops Q rest (a.put op.dst (.pointer (some ⟨b, 0, none⟩))) w') : wpList P ops Q (op :: rest) a w :=
  wpList_plain hgd fun _ hK => by
    have h2 := hK _ _ (h _ (w.alloc (.cells cs T)) rfl (World.alloc_heap_new w _) (below_new w _) (by simp))
    unfold Oper.wp execOp
    simp only [ho, hx, Instr.box, Sem.run_bind, Sem.run_pure, newVar, newRow, Value.cells]
    simpa [go_sem] using h2
theorem ibase (B : Bas) : (Tryz.prog.info? 36).map (·.size) = some B.cells.length := by kernel_rfl
set_option maxHeartbeats 2000000 in
theorem keyIs_walk (B : Bas) (t : Int) (n : Nat) (hn : n ≤ 1000000) (w : World) (hB : BasAt w (Old w) B) : Calls Tryz.prog 49 #[B.val, .int .i64 t, .int .i64 n] w (ValP w (keyIs B t n)) := by
  have HB := Lib.hid hB
  clear hB
  obtain ⟨q, hq⟩ : ∃ q, (keyB B 3 t).2 = q := ⟨_, rfl⟩
  obtain ⟨s, hs⟩ : ∃ s, (keyB B 3 t).1.text = s := ⟨_, rfl⟩
  have hk : keyIs B t n = (q && decide (s = rootB n)) := by unfold keyIs; rw [hq, hs]
  have HKW : Hid (∀ W, Below w.heap.size w W → Calls Tryz.prog 23 #[B.val, .int .i64 3, .int .i64 t] W fun e w' => e = .returned (.tuple #[.string s, .bool q]) ∧ Below W.heap.size W w') := Lib.hid (fun W hW => by
    have := knownKey_walk B 3 t W (HB.out.below hW)
    rw [hq, hs] at this
    exact this)
  rw [hk]
  clear hq hs hk
  go_enter Tryz.func49, Tryz.ntmps49
  cases q
  · go_wp2_with (first
      | ((with_reducible refine box_row rfl 36 (.tmp 0) rfl B.cells.toArray ?hx ?_); (case hx => rfl); intro b0 w1 hb0 hn1 hb1 hs1
         have HR : Hid (w1.rangeAt b0 0 B.cells) := Lib.hid (range_of hn1)
         have HB1 : Hid (Below w.heap.size w w1) := Lib.hid (hb1.mono (by omega))
         clear hb0 hn1 hb1 hs1)
      | ((with_reducible refine wpList_load_mid rfl 36 (.tmp 3) rfl b0 0 ?hx B.cells _ HR.out Tryz.underlying36 rfl ?hi ?_); (case hx => rfl); (case hi => exact ibase B))
      | (go_at_call 23; (with_reducible refine (HKW.out _ HB1.out).mono ?_); rintro e2 w2 ⟨rfl, hb2⟩; have HB2 := Lib.hid (HB1.out.trans (hb2.mono HB1.out.size)); clear hb2)
      | fail)
    go_ret
    exact ⟨rfl, HB2.out⟩
  · go_wp2_with (first
      | ((with_reducible refine box_row rfl 36 (.tmp 0) rfl B.cells.toArray ?hx ?_); (case hx => rfl); intro b0 w1 hb0 hn1 hb1 hs1
         have HR : Hid (w1.rangeAt b0 0 B.cells) := Lib.hid (range_of hn1)
         have HB1 : Hid (Below w.heap.size w w1) := Lib.hid (hb1.mono (by omega))
         clear hb0 hn1 hb1 hs1)
      | ((with_reducible refine wpList_load_mid rfl 36 (.tmp 3) rfl b0 0 ?hx B.cells _ HR.out Tryz.underlying36 rfl ?hi ?_); (case hx => rfl); (case hi => exact ibase B))
      | (go_at_call 23; (with_reducible refine (HKW.out _ HB1.out).mono ?_); rintro e2 w2 ⟨rfl, hb2⟩; have HB2 := Lib.hid (HB1.out.trans (hb2.mono HB1.out.size)); clear hb2)
      | (go_at_call 43; (with_reducible refine (root_walk n hn _).mono ?_); rintro e3 w3 ⟨rfl, hb3⟩; have HB3 := Lib.hid (HB2.out.trans (hb3.mono HB2.out.size)); clear hb3)
      | fail)
    go_ret
    refine ⟨?_, HB3.out⟩
    show Ending.returned (.bool (s.toList == (rootB n).toList)) = _
    rw [beq_bytes, Bool.true_and]
end Go.Proofs.YteeifhlhpiimoaaGreatDoor
end
section
namespace Go.Proofs.YteeifhlhpiimoaaGreatDoor
open Go Go.RowKit Go.Shelf
theorem eff30 : effD exL 30 = exL := by kernel_rfl
theorem eff10 : effD exL 10 = [ex1, ex2, ex4, ex5, ex6, ex7, ex8] := by kernel_rfl
theorem eff9 : effD exL 9 = [ex1, ex4, ex5, ex6, ex7, ex8] := by kernel_rfl
theorem k9_0 : knownL exL 9 0 = [] := by unfold knownL; rw [eff9]; kernel_rfl
theorem k9_1 : knownL exL 9 1 = [ex1] := by unfold knownL; rw [eff9]; kernel_rfl
theorem k10_0 : knownL exL 10 0 = [ex2] := by unfold knownL; rw [eff10]; kernel_rfl
theorem k10_1 : knownL exL 10 1 = [ex1] := by unfold knownL; rw [eff10]; kernel_rfl
theorem k30_0 : knownL exL 30 0 = [ex2, ex3] := by unfold knownL; rw [eff30]; kernel_rfl
theorem k30_1 : knownL exL 30 1 = [ex1] := by unfold knownL; rw [eff30]; kernel_rfl
theorem k30_4 : knownL exL 30 4 = [ex4, ex5] := by unfold knownL; rw [eff30]; kernel_rfl
theorem k30_5 : knownL exL 30 5 = [ex6] := by unfold knownL; rw [eff30]; kernel_rfl
theorem k30_7 : knownL exL 30 7 = [ex8] := by unfold knownL; rw [eff30]; kernel_rfl
theorem k30_8 : knownL exL 30 8 = [ex7] := by unfold knownL; rw [eff30]; kernel_rfl
theorem hl10 : histL (aboutL [ex2] 2) = [ex2] := by kernel_rfl
theorem hl30 : histL (aboutL [ex2, ex3] 2) = [ex3, ex2] := by kernel_rfl
theorem su8 : setI (([ex7].filter fun e => decide (e.item = 2)).map fun e => e.person) = [9] := by kernel_rfl
end Go.Proofs.YteeifhlhpiimoaaGreatDoor
end
section
namespace Go.Proofs.YteeifhlhpiimoaaGreatDoor
open Go Go.RowKit Go.Shelf Wr
attribute [local go_sem] Oper.semAt_some
def RowAt {α : Type} (w : World) (f : α → List Value) (k : Nat) (A : Option Addr) (l : List α) : Prop := ∀ (i : Nat) (e : α), l[i]? = some e → ∃ b, A = some ⟨b, 0, none⟩ ∧ b < w.heap.size ∧ w.rangeAt b (i * k) (f e)
theorem RowAt.below {α : Type} {w W : World} {f : α → List Value} {k : Nat} {A : Option Addr} {l : List α} (h : RowAt w f k A l) (hb : Below w.heap.size w W) : RowAt W f k A l := fun i e he => by
  obtain ⟨b, h1, h2, h3⟩ := h i e he
  exact ⟨b, h1, Nat.lt_of_lt_of_le h2 hb.size, fun j v hv => (hb.cell (p := ⟨b, i * k + j, none⟩) h2).trans (h3 j v hv)⟩
theorem RowAt.of_ol {α : Type} {w : World} {B n c k : Nat} {A : Option Addr} {l : List α} {T : TypeId} {f : α → List Value} (hf : ∀ x, (f x).length = k) (h : OL w B T k f (.slice A n c) l) : RowAt w f k A l := by
  intro i e he
  rcases h.2 with ⟨e1, h0⟩ | ⟨g, cap, cur, e1, hb, hc, h4, h5, h6, h7⟩
  · have : l = [] := List.eq_nil_of_length_eq_zero h0
    subst this; simp at he
  · injection e1 with e1 e2 _
    subst e1 e2
    refine ⟨g, rfl, (Array.getElem?_eq_some_iff.1 hc).1, fun j v hv => ?_⟩
    have hj : j < k := by rw [← hf e]; exact (List.getElem?_eq_some_iff.1 hv).1
    have hi : i < l.length := (List.getElem?_eq_some_iff.1 he).1
    have hlen : (l.flatMap f).length = l.length * k := flatMap_length hf
    have hlt : i * k + j < l.length * k := by
      have : (i + 1) * k ≤ l.length * k := Nat.mul_le_mul_right _ hi
      rw [Nat.add_mul] at this; omega
    rw [World.ownsRow.cellAt h (i * k + j) (by omega), flat_at (f := f) (s := k) hf l i e he j hj]; exact hv
theorem RowAt.of_block {α : Type} {w : World} {b k : Nat} {l : List α} {T : TypeId} {f : α → List Value} (hf : ∀ x, (f x).length = k) (h : w.heap[b]? = some (.cells (l.flatMap f).toArray T (0, 0))) : RowAt w f k (some ⟨b, 0, none⟩) l := fun i e he => by
  refine ⟨b, rfl, (Array.getElem?_eq_some_iff.1 h).1, fun j v hv => cells_i h ?_⟩
  have hj : j < k := by rw [← hf e]; exact (List.getElem?_eq_some_iff.1 hv).1
  have := flat_at (f := f) (s := k) hf l i e he j hj
  simpa using this.trans hv
def susEq (e f : Sus) : Bool := decide (e.item = f.item ∧ e.frm = f.frm ∧ e.til = f.til)
theorem susEq_iff (e f : Sus) : susEq e f = true ↔ e = f := by
  unfold susEq
  rw [decide_eq_true_eq]
  constructor
  · rintro ⟨h0, h1, h2⟩; cases e; cases f; simp only [Sus.mk.injEq]; exact ⟨h0, h1, h2⟩
  · rintro rfl; simp
instance susDec : DecidableEq Sus := fun e f => decidable_of_iff (susEq e f = true) (susEq_iff e f)
set_option maxRecDepth 100000 in
set_option maxHeartbeats 4000000 in
theorem sameInts_walk (l m : List Int) (A A2 : Option Addr) (n c n2 c2 : Nat) (hn : l.length = n) (hn2 : m.length = n2) (hm : n ≤ maxLen) (w : World) (hA : RowAt w (one iv) 1 A l) (hA2 : RowAt w (one iv) 1 A2 m) :
    Calls Tryz.prog 30 #[.slice A n c, .slice A2 n2 c2] w (ValP w (decide (l = m))) := by
  have hm' : n ≤ 9223372036854775807 := by unfold maxLen at hm; omega
  have HA := Lib.hid hA
  have HA2 := Lib.hid hA2
  have HN := Lib.hid hn
  have HN2 := Lib.hid hn2
  clear hA hA2 hm
  by_cases hnn : n = n2
  · subst hnn
    clear hn hn2
    have d0 : ((n : Int) != (n : Int)) = false := by simp
    go_enter Tryz.func30, Tryz.ntmps30
    go_wp2_with fail
    go_loopw [5] (fun v wr => ∃ i : Nat, v = .int .i64 (i : Int) ∧ i ≤ n ∧ Hid (l.take i = m.take i) ∧ Below w.heap.size w wr) (fun v _ => match v with | .int _ k => n - k.toNat | _ => 0)
    case atStart => exact ⟨0, rfl, Nat.zero_le _, Lib.hid rfl, Below.refl _ _⟩
    case round =>
      obtain ⟨i, rfl, hi, HT, hB⟩ := hrel
      have HB := Lib.hid hB
      clear hB
      by_cases hlt : i < n
      · obtain ⟨e, he⟩ : ∃ e, l[i]? = some e := ⟨_, List.getElem?_eq_getElem (by rw [HN.out]; exact hlt)⟩
        obtain ⟨f, hf⟩ : ∃ f, m[i]? = some f := ⟨_, List.getElem?_eq_getElem (by rw [HN2.out]; exact hlt)⟩
        obtain ⟨b, hAb, -, hrg⟩ := (HA.out.below HB.out) i e he
        obtain ⟨b', hAb', -, hrg'⟩ := (HA2.out.below HB.out) i f hf
        subst hAb hAb'
        have HE := Lib.hid (And.intro he hf)
        have d1 : decide (i < n) = true := by simp [hlt]
        have z1 : (0 : Int) ≤ (i : Int) := by omega
        have z2 : (i : Int) < (n : Int) := by omega
        have w1 : IntKind.i64.wrap ((i : Int) + 1) = ((i + 1 : Nat) : Int) := by rw [IntKind.wrap_i64]; omega
        obtain ⟨q, hq⟩ : ∃ q, (e != f) = q := ⟨_, rfl⟩
        have hS0 : wr.drew.cell? ⟨b, i, none⟩ = some (.int .i64 e) ∧ wr.drew.cell? ⟨b', i, none⟩ = some (.int .i64 f) := by
          have h1 := hrg 0 _ rfl
          have h2 := hrg' 0 _ rfl
          rw [Nat.mul_one, Nat.add_zero] at h1 h2
          exact ⟨h1, h2⟩
        clear he hf hrg hrg'
        go_wp2_with fail
        refine wp_region_noPanic ?_
        refine wp_region_held_drew (S := fun U => U.cell? ⟨b, i, none⟩ = some (.int .i64 e) ∧ U.cell? ⟨b', i, none⟩ = some (.int .i64 f)) (by kernel_rfl) hS0 (fun hHeld => ?_)
        refine tk 0 ?_
        refine tk 1 ?_
        refine tk 2 ?_
        refine tk 3 ?_
        refine tk 4 ?_
        refine tk 5 ?_
        refine tk 6 ?_
        refine tk 7 ?_
        refine tk 8 ?_
        refine dn ?_
        have HBd : Hid (Below w.heap.size w wr.drew) := Lib.hid (Below.drew HB.out)
        clear hHeld hS0
        cases q
        · go_wp2
          have hef : e = f := by simpa using hq
          have ht : l.take (i + 1) = m.take (i + 1) := by rw [List.take_add_one, List.take_add_one, HT.out, HE.out.1, HE.out.2, hef]
          have HTT := Lib.hid ht
          clear ht hef
          go_round
          case rel => exact ⟨i + 1, rfl, by omega, HTT, HBd.out⟩
          case measure => simp; omega
        · go_wp2
          go_ret
          have hne : l ≠ m := fun h => by
            have h1 := HE.out.1
            rw [h, HE.out.2] at h1
            have h2 : f = e := Option.some.inj h1
            rw [h2] at hq; simp at hq
          rw [decide_eq_false hne]
          exact ⟨rfl, HBd.out⟩
      · have d1 : decide (i < n) = false := by simp; omega
        obtain rfl : i = n := by omega
        have hlm : l = m := by
          have := HT.out
          rwa [List.take_of_length_le (by rw [HN.out]; omega), List.take_of_length_le (by rw [HN2.out]; omega)] at this
        have HLM := Lib.hid hlm
        clear hlm
        go_wp2_with fail
        go_ret
        rw [decide_eq_true HLM.out]
        exact ⟨rfl, HB.out⟩
  · have d0 : ((n : Int) != (n2 : Int)) = true := by simp; omega
    have hlm : l ≠ m := fun h => hnn (by rw [← hn, ← hn2, h])
    rw [decide_eq_false hlm]
    clear hn hn2 hlm
    go_enter Tryz.func30, Tryz.ntmps30
    go_wp2
    go_ret
    exact ⟨rfl, Below.refl _ _⟩
end Go.Proofs.YteeifhlhpiimoaaGreatDoor
end
section
namespace Go.Proofs.YteeifhlhpiimoaaGreatDoor
open Go Go.RowKit Go.Shelf Wr
attribute [local go_sem] Oper.semAt_some
structure St (w W : World) (L : List (Nat × Obj)) (Bs : List Bas) : Prop where
  at_ : At w W L
  bas : ∀ B ∈ Bs, BasAt W (Old W) B
  pow : Pow10 W
section
variable {w W W' : World} {L : List (Nat × Obj)} {Bs : List Bas}
theorem St.start (hp : Pow10 w) : St w w [] [] := ⟨At.start w, fun B h => absurd h (by simp), hp⟩
theorem St.step (h : St w W L Bs) (hb : Below W.heap.size W W') : St w W' L Bs := ⟨h.at_.step hb, fun B hB => (h.bas B hB).below hb, h.pow.below hb⟩
theorem St.drew (h : St w W L Bs) : St w W.drew L Bs := h.step (Below.drew (Below.refl _ _))
theorem St.add (h : St w W L Bs) {B : Bas} (hB : BasAt W (Old W) B) : St w W L (B :: Bs) := ⟨h.at_, fun C hC => by rcases List.mem_cons.1 hC with rfl | hC; exact hB; exact h.bas C hC, h.pow⟩
theorem St.put (h : St w W L Bs) {k : Nat} {o : Obj} (ho : W.heap[k]? = some o) : St w W ((k, o) :: L) Bs := ⟨h.at_.cons ho, h.bas, h.pow⟩
theorem St.row (h : St w W L Bs) {b : Nat} {cs : List Value} {t : TypeId} (hm : (b, .cells cs.toArray t (0, 0)) ∈ L) : W.rangeAt b 0 cs := range_of (h.at_.has _ hm)
end
theorem wpList_var {P : Program} {ops : Array Oper} {rest : List Oper} {o : Oper} {a : Act} {w V : World} {L : List (Nat × Obj)} {Bs : List Bas} {Q : Exit → Act → World → Prop} {old : Array Value} (hgd : o.guard = none) (T : TypeId) (x y : Operand) (ho : o.op = .store T x y) (hd : o.dst = none) (cs : Array Value)
    (hx : a.eval x = .pointer (some ⟨V.heap.size, 0, none⟩)) (hy : a.eval y = .agg cs) (hi : (P.info? T).map (·.size) = some cs.size) (hold : old.size = cs.size) (h1 : cs.all (·.oneCell') = true) (hSt : St w V L Bs)
    (hk : ∀ b V', V.heap.size = b → St w V' ((b, .cells cs T (0, 0)) :: L) Bs → wpList P ops Q rest a V') : wpList P ops Q (o :: rest) a (V.alloc (.cells old T)) := by
  refine wpList_store_rowN hgd T x y ho hd V.heap.size cs old hx hy hi (World.alloc_heap_new _ _) hold h1 fun V' h2 h3 => ?_
  exact hk _ V' rfl ((hSt.step (h3.below (below_new V _) (Nat.le_refl _) (fun k hk => by omega))).put h2)
theorem OL.first {α : Type} {w : World} {B k n : Nat} {T : TypeId} {f : α → List Value} {v x : Value} {l : List α} (h : OL w B T k f v l) (hn : l.length = n) (hl : 0 < n) (hk : 0 < k) (hx : (l.flatMap f)[0]? = some x) : ∃ g cap cur, v = .slice (some ⟨g, 0, none⟩) n cap ∧ w.heap[g]? = some (.cells cur T (0, 0)) ∧ cur[0]? = some x := by
  subst hn
  rcases h.2 with ⟨e1, h0⟩ | ⟨g, cap, cur, e1, hb, hc, h4, h5, h6, h7⟩
  · omega
  · refine ⟨g, cap, cur, e1, hc, ?_⟩
    have hm : 0 < l.length * k := Nat.mul_pos hl hk
    have h8 : (cur.toList.take (l.length * k))[0]? = some x := by rw [h7]; exact hx
    rw [List.getElem?_take, if_pos hm] at h8
    simpa using h8
theorem rootB_size (n : Nat) : (rootB n).size = 32 := by
  show (rootL n).toArray.size = 32
  simp [rootL]
theorem exW : ∀ e ∈ exL, e.Wire := by
  have h1 := rootB_size 1
  have h2 := rootB_size 2
  intro e he
  simp only [exL, List.mem_cons, List.not_mem_nil, or_false] at he
  rcases he with rfl | rfl | rfl | rfl | rfl | rfl | rfl | rfl
  · exact ⟨by decide, by decide, by decide, by decide, by decide, by decide, by decide⟩
  · exact ⟨by decide, by decide, by decide, by decide, by decide, by decide, by decide⟩
  · exact ⟨by decide, by decide, by decide, by decide, by decide, by decide, by decide⟩
  · exact ⟨by decide, by decide, by decide, by decide, by decide, by decide, by show (rootB 1).size ≤ 65536; omega⟩
  · exact ⟨by decide, by decide, by decide, by decide, by decide, by decide, by show (rootB 2).size ≤ 65536; omega⟩
  · exact ⟨by decide, by decide, by decide, by decide, by decide, by decide, by decide⟩
  · exact ⟨by decide, by decide, by decide, by decide, by decide, by decide, by decide⟩
  · exact ⟨by decide, by decide, by decide, by decide, by decide, by decide, by decide⟩
def ExB (B : Bas) (day : Int) : Prop := ∀ j, j < 9 → B.ls j = knownL exL day j
def HistIs (ps : List Pt) (w : World) (e : Ending) (w' : World) : Prop := ∃ v, e = .returned (.agg #[.string ⟨#[49]⟩, .string ⟨#[49, 48]⟩, v]) ∧ OL w' w.heap.size 86 5 ptC v ps ∧ Below w.heap.size w w'
theorem hist_of (B : Bas) (l0 : List Ent) (ps : List Pt) (h0 : B.ls 0 = l0) (h1 : B.ls 1 = [ex1]) (hl : l0.length ≤ 1000000) (h20 : (aboutL l0 2).length < 20) (hps : (histL (aboutL l0 2)).map ptOf = ps) (w : World) (hB : BasAt w (Old w) B) :
    Calls Tryz.prog 27 #[B.val, .int .i64 2] w (HistIs ps w) := by
  refine (history_walk B 2 w hB (by rw [h0]; exact hl) (by rw [h0]; exact h20)).mono fun e w' q => ?_
  obtain ⟨v, rfl, h2, h3⟩ := q
  refine ⟨v, ?_, ?_, h3⟩
  · rw [h1]; rfl
  · unfold histPts at h2
    rw [h0, h1, hps] at h2
    exact h2
section
variable {B : Bas} {w : World} (hB : BasAt w (Old w) B)
include hB
theorem hist9 (h : ExB B 9) : Calls Tryz.prog 27 #[B.val, .int .i64 2] w (HistIs [] w) :=
  hist_of B [] [] (by rw [h 0 (by decide), k9_0]) (by rw [h 1 (by decide), k9_1]) (by simp) (by simp [aboutL]) (by kernel_rfl) w hB
theorem hist10 (h : ExB B 10) : Calls Tryz.prog 27 #[B.val, .int .i64 2] w (HistIs [ptOf ex2] w) :=
  hist_of B [ex2] [ptOf ex2] (by rw [h 0 (by decide), k10_0]) (by rw [h 1 (by decide), k10_1]) (by simp) (by decide) (by rw [hl10]; rfl) w hB
theorem hist30 (h : ExB B 30) : Calls Tryz.prog 27 #[B.val, .int .i64 2] w (HistIs [ptOf ex3, ptOf ex2] w) :=
  hist_of B [ex2, ex3] [ptOf ex3, ptOf ex2] (by rw [h 0 (by decide), k30_0]) (by rw [h 1 (by decide), k30_1]) (by simp) (by decide) (by rw [hl30]; rfl) w hB
theorem key101 (h : ExB B 30) : Calls Tryz.prog 23 #[B.val, .int .i64 3, .int .i64 101] w fun e w' => e = .returned (.tuple #[.string ⟨#[]⟩, .bool false]) ∧ Below w.heap.size w w' := by
  have hk : keyB B 3 101 = (zeroE, false) := by unfold keyB; rw [h 4 (by decide), h 5 (by decide), k30_4, k30_5]; kernel_rfl
  have := knownKey_walk B 3 101 w hB
  rw [hk] at this
  exact this
theorem keyx (h : ExB B 30) (t : Int) (n : Nat) (hn : n ≤ 1000000) (hk : ((keyFold ([ex4, ex5].filter fun e => (decide (e.frm ≤ t) && decide (t ≤ e.til)) && (decide (e.lab = 3) && !(revoked [ex6] e.id t)))).2 && decide ((keyFold ([ex4, ex5].filter fun e => (decide (e.frm ≤ t) && decide (t ≤ e.til)) && (decide (e.lab = 3) && !(revoked [ex6] e.id t)))).1.text = rootB n)) = true) :
    Calls Tryz.prog 49 #[B.val, .int .i64 t, .int .i64 n] w (ValP w true) := by
  have := keyIs_walk B t n hn w hB
  have hi : keyIs B t n = true := by unfold keyIs keyB; rw [h 4 (by decide), h 5 (by decide), k30_4, k30_5]; exact hk
  rw [hi] at this
  exact this
theorem key49 (h : ExB B 30) : Calls Tryz.prog 49 #[B.val, .int .i64 49, .int .i64 1] w (ValP w true) := keyx hB h 49 1 (by decide) (by kernel_rfl)
theorem key50 (h : ExB B 30) : Calls Tryz.prog 49 #[B.val, .int .i64 50, .int .i64 2] w (ValP w true) := keyx hB h 50 2 (by decide) (by kernel_rfl)
theorem key59 (h : ExB B 30) : Calls Tryz.prog 49 #[B.val, .int .i64 59, .int .i64 2] w (ValP w true) := keyx hB h 59 2 (by decide) (by kernel_rfl)
theorem key60 (h : ExB B 30) : Calls Tryz.prog 49 #[B.val, .int .i64 60, .int .i64 1] w (ValP w true) := keyx hB h 60 1 (by decide) (by kernel_rfl)
theorem key100 (h : ExB B 30) : Calls Tryz.prog 49 #[B.val, .int .i64 100, .int .i64 1] w (ValP w true) := keyx hB h 100 1 (by decide) (by kernel_rfl)
theorem bud30 (h : ExB B 30) : Calls Tryz.prog 24 #[B.val, .int .i64 2] w fun e w' => e = .returned (.tuple #[.agg #[.string ⟨#[51]⟩, .string ⟨#[49]⟩], .bool true]) ∧ Below w.heap.size w w' := by
  have := budget_walk B 2 w hB
  rw [h 7 (by decide), k30_7] at this
  exact this
theorem cust30 (h : ExB B 30) : Calls Tryz.prog 31 #[B.val, .int .i64 2] w fun e w' => ∃ v, e = .returned v ∧ OL w' w.heap.size 3 1 (one iv) v [9] ∧ Below w.heap.size w w' := by
  have := customers_walk B 2 w hB (by rw [h 8 (by decide), k30_8]; decide)
  unfold customersB at this
  rw [h 8 (by decide), k30_8, su8] at this
  exact this
end
theorem same_self {B : Bas} {w : World} (hB : BasAt w (Old w) B) : Calls Tryz.prog 14 #[B.val, B.val] w (ValP w true) := by
  have := same_walk B B w hB hB
  rwa [(sameB_iff B B).2 (fun _ _ => rfl)] at this
theorem same_not {B C : Bas} {w : World} (hB : BasAt w (Old w) B) (hC : BasAt w (Old w) C) (h10 : ExB B 10) (h30 : ExB C 30) : Calls Tryz.prog 14 #[B.val, C.val] w (ValP w false) := by
  have := same_walk B C w hB hC
  have hn : sameB B C = false := by
    cases hs : sameB B C with
    | false => rfl
    | true =>
      have := (sameB_iff B C).1 hs 0 (by decide)
      rw [h10 0 (by decide), h30 0 (by decide), k10_0, k30_0] at this
      injection this with _ this
      cases this
  rwa [hn] at this
theorem OL.empty {α : Type} {w : World} {B k : Nat} {T : TypeId} {f : α → List Value} {v : Value} (h : OL w B T k f v ([] : List α)) : ∃ A c, v = .slice A 0 c := by
  obtain ⟨A, c, e, -, -⟩ := h.slice
  exact ⟨A, c, e⟩
theorem sameInts9 {w : World} {A A2 : Option Addr} {c c2 : Nat} (hA : RowAt w (one iv) 1 A [9]) (hA2 : RowAt w (one iv) 1 A2 [9]) : Calls Tryz.prog 30 #[.slice A 1 c, .slice A2 1 c2] w (ValP w true) :=
  sameInts_walk [9] [9] A A2 1 c 1 c2 rfl rfl (by decide) w hA hA2
theorem eql_rat (a b : ByteArray) (W : World) : (binOp .eql 29 (.agg #[.string a, .string b]) (.agg #[.string a, .string b])).run Tryz.prog W = .ok (.bool true) W := by
  go_simp
theorem guard_rat (x y : Operand) (cs ds : Array Value) (W : World) : (eqGuard .eql 29 x y (.agg cs) (.agg ds)).run Tryz.prog W = .ok () W := by kernel_rfl
end Go.Proofs.YteeifhlhpiimoaaGreatDoor
end
section
namespace Go.Proofs.YteeifhlhpiimoaaGreatDoor
open Go Go.RowKit Go.Shelf Wr
attribute [local go_sem] Oper.semAt_some
set_option maxRecDepth 100000 in
set_option maxHeartbeats 8000000 in
theorem sane_walk (w : World) (hp : Pow10 w) : Calls Tryz.prog 11 #[] w (ValP w true) := by
  have HF := Lib.hid (St.start hp)
  clear hp
  go_enter Tryz.func11, Tryz.ntmps11
  go_wp2_with (first
    | (go_at_call 48; (with_reducible refine (example_walk _).mono ?_); rintro e2 w2 ⟨bx, rfl, hat, hb⟩; have HF1 := HF.out.step hb; have HF := Lib.hid HF1; have HX := Lib.hid hat; clear hb HF1 hat)
    | (go_at_call 15; (with_reducible refine (knownOf_walk exL 10 (some ⟨bx, 0, none⟩) 8 8 rfl (by decide) _ HX.out exW HF.out.pow).mono ?_); rintro e2 w2 ⟨B10, rfl, hB, hI, hb⟩; have HF1 := (HF.out.step hb).add hB; have HF := Lib.hid HF1; have HI10 : Hid (ExB B10 10) := Lib.hid hI; clear hb hB HF1 hI)
    | (go_at_call 15; (with_reducible refine (knownOf_walk exL 30 (some ⟨bx, 0, none⟩) 8 8 rfl (by decide) _ HX.out exW HF.out.pow).mono ?_); rintro e2 w2 ⟨B30, rfl, hB, hI, hb⟩; have HF1 := (HF.out.step hb).add hB; have HF := Lib.hid HF1; have HI30 : Hid (ExB B30 30) := Lib.hid hI; clear hb hB HF1 hI)
    | (go_at_call 15; (with_reducible refine (knownOf_walk exL 9 (some ⟨bx, 0, none⟩) 8 8 rfl (by decide) _ HX.out exW HF.out.pow).mono ?_); rintro e2 w2 ⟨B9, rfl, hB, hI, hb⟩; have HF1 := (HF.out.step hb).add hB; have HF := Lib.hid HF1; have HI9 : Hid (ExB B9 9) := Lib.hid hI; clear hb hB HF1 hI)
    | ((with_reducible refine wpList_var rfl 36 (.tmp 1) (.tmp 12) rfl rfl (B10.cells.toArray) ?hx ?hy ?hi ?ho ?h1 HF.out ?_); (case hx => rfl); (case hy => rfl); (case hi => exact ibase B10); (case ho => rfl); (case h1 => exact one_base _); intro b1 V hb hst; rw [hb]; have HF := Lib.hid hst; clear hb hst)
    | ((with_reducible refine wpList_var rfl 36 (.tmp 2) (.tmp 14) rfl rfl (B30.cells.toArray) ?hx ?hy ?hi ?ho ?h1 HF.out ?_); (case hx => rfl); (case hy => rfl); (case hi => exact ibase B30); (case ho => rfl); (case h1 => exact one_base _); intro b2 V hb hst; rw [hb]; have HF := Lib.hid hst; clear hb hst)
    | ((with_reducible refine wpList_load_midw ?hw 36 (.tmp 1) rfl b1 0 ?hx B10.cells _ (HF.out.row (b := b1) (cs := B10.cells) (t := 36) (by simp)) Tryz.underlying36 rfl (ibase B10) ?_); (case hw => rfl); (case hx => rfl))
    | ((with_reducible refine wpList_load_midw ?hw 36 (.tmp 2) rfl b2 0 ?hx B30.cells _ (HF.out.row (b := b2) (cs := B30.cells) (t := 36) (by simp)) Tryz.underlying36 rfl (ibase B30) ?_); (case hw => rfl); (case hx => rfl))
    | (go_at_call 27; (with_reducible refine (hist9 (HF.out.bas B9 (by simp)) HI9.out).mono ?_); rintro e2 w2 ⟨v9, rfl, ho, hb⟩; obtain ⟨A9, c9, rfl⟩ := OL.empty ho; have HF1 := HF.out.step hb; have HF := Lib.hid HF1; clear hb HF1 ho)
    | (go_at_call 27; (with_reducible refine (hist10 (HF.out.bas B10 (by simp)) HI10.out).mono ?_); rintro e2 w2 ⟨v9, rfl, ho, hb⟩; obtain ⟨g4, c4, cur4, rfl, hg, hc⟩ := OL.first (n := 1) ho rfl (by decide) (by decide) (x := .int .i64 10) rfl; have HF1 := (HF.out.step hb).put hg; have HF := Lib.hid HF1; have HC4 := Lib.hid hc; clear hb HF1 ho hg hc)
    | (go_at_call 27; (with_reducible refine (hist30 (HF.out.bas B30 (by simp)) HI30.out).mono ?_); rintro e2 w2 ⟨v9, rfl, ho, hb⟩; obtain ⟨g5, c5, cur5, rfl, hg, hc⟩ := OL.first (n := 2) ho rfl (by decide) (by decide) (x := .int .i64 5) rfl; have HF1 := (HF.out.step hb).put hg; have HF := Lib.hid HF1; have HC5 := Lib.hid hc; clear hb HF1 ho hg hc)
    | ((with_reducible refine wpList_var rfl 58 (.tmp 3) (.tmp 17) rfl rfl (#[.string ⟨#[49]⟩, .string ⟨#[49, 48]⟩, .slice A9 0 c9]) ?hx ?hy ?hi ?ho ?h1 HF.out ?_); (case hx => rfl); (case hy => rfl); (case hi => kernel_rfl); (case ho => rfl); (case h1 => exact one_hist _ _ _ rfl); intro b3 V hb hst; rw [hb]; have HF := Lib.hid hst; clear hb hst)
    | ((with_reducible refine wpList_var rfl 58 (.tmp 4) (.tmp 19) rfl rfl (#[.string ⟨#[49]⟩, .string ⟨#[49, 48]⟩, .slice (some ⟨g4, 0, none⟩) 1 c4]) ?hx ?hy ?hi ?ho ?h1 HF.out ?_); (case hx => rfl); (case hy => rfl); (case hi => kernel_rfl); (case ho => rfl); (case h1 => exact one_hist _ _ _ rfl); intro b4 V hb hst; rw [hb]; have HF := Lib.hid hst; clear hb hst)
    | ((with_reducible refine wpList_var rfl 58 (.tmp 5) (.tmp 21) rfl rfl (#[.string ⟨#[49]⟩, .string ⟨#[49, 48]⟩, .slice (some ⟨g5, 0, none⟩) 2 c5]) ?hx ?hy ?hi ?ho ?h1 HF.out ?_); (case hx => rfl); (case hy => rfl); (case hi => kernel_rfl); (case ho => rfl); (case h1 => exact one_hist _ _ _ rfl); intro b5 V hb hst; rw [hb]; have HF := Lib.hid hst; clear hb hst)
    | (go_at_call 23; (with_reducible refine (key101 (HF.out.bas B30 (by simp)) HI30.out).mono ?_); rintro e2 w2 ⟨rfl, hb⟩; have HF1 := HF.out.step hb; have HF := Lib.hid HF1; clear hb HF1)
    | (go_at_call 24; (with_reducible refine (bud30 (HF.out.bas B30 (by simp)) HI30.out).mono ?_); rintro e2 w2 ⟨rfl, hb⟩; have HF1 := HF.out.step hb; have HF := Lib.hid HF1; clear hb HF1)
    | ((with_reducible refine wpList_var rfl 29 (.tmp 8) (.tmp 30) rfl rfl (#[.string ⟨#[51]⟩, .string ⟨#[49]⟩]) ?hx ?hy ?hi ?ho ?h1 HF.out ?_); (case hx => rfl); (case hy => rfl); (case hi => kernel_rfl); (case ho => rfl); (case h1 => simp [Value.oneCell']); intro b8 V hb hst; rw [hb]; have HF := Lib.hid hst; clear hb hst)
    | (go_at_call 49; (with_reducible refine (key49 (HF.out.bas B30 (by simp)) HI30.out).mono ?_); rintro e2 w2 ⟨rfl, hb⟩; have HF1 := HF.out.step hb; have HF := Lib.hid HF1; clear hb HF1)
    | (go_at_call 49; (with_reducible refine (key50 (HF.out.bas B30 (by simp)) HI30.out).mono ?_); rintro e2 w2 ⟨rfl, hb⟩; have HF1 := HF.out.step hb; have HF := Lib.hid HF1; clear hb HF1)
    | (go_at_call 49; (with_reducible refine (key59 (HF.out.bas B30 (by simp)) HI30.out).mono ?_); rintro e2 w2 ⟨rfl, hb⟩; have HF1 := HF.out.step hb; have HF := Lib.hid HF1; clear hb HF1)
    | (go_at_call 49; (with_reducible refine (key60 (HF.out.bas B30 (by simp)) HI30.out).mono ?_); rintro e2 w2 ⟨rfl, hb⟩; have HF1 := HF.out.step hb; have HF := Lib.hid HF1; clear hb HF1)
    | (go_at_call 49; (with_reducible refine (key100 (HF.out.bas B30 (by simp)) HI30.out).mono ?_); rintro e2 wK ⟨rfl, hb⟩; have HF1 := HF.out.step hb; have HF := Lib.hid HF1; clear hb HF1
       have x4 := HF.out.at_.cell (b := b4) (cs := #[.string ⟨#[49]⟩, .string ⟨#[49, 48]⟩, .slice (some ⟨g4, 0, none⟩) 1 c4]) (t := 58) (by simp) (i := 2) rfl
       have x5 := HF.out.at_.cell (b := b5) (cs := #[.string ⟨#[49]⟩, .string ⟨#[49, 48]⟩, .slice (some ⟨g5, 0, none⟩) 2 c5]) (t := 58) (by simp) (i := 2) rfl)
    | fail)
  clear x4 x5
  obtain ⟨L, hst, mb1, mb2, mb3, mb4, mb5, mb8, mg4, mg5⟩ : ∃ L, St w wK L [B9, B30, B10] ∧ (b1, .cells (B10.cells.toArray : Array Value) 36 (0, 0)) ∈ L ∧ (b2, .cells (B30.cells.toArray : Array Value) 36 (0, 0)) ∈ L ∧ (b3, .cells (#[.string ⟨#[49]⟩, .string ⟨#[49, 48]⟩, .slice A9 0 c9] : Array Value) 58 (0, 0)) ∈ L ∧ (b4, .cells (#[.string ⟨#[49]⟩, .string ⟨#[49, 48]⟩, .slice (some ⟨g4, 0, none⟩) 1 c4] : Array Value) 58 (0, 0)) ∈ L ∧ (b5, .cells (#[.string ⟨#[49]⟩, .string ⟨#[49, 48]⟩, .slice (some ⟨g5, 0, none⟩) 2 c5] : Array Value) 58 (0, 0)) ∈ L ∧ (b8, .cells (#[.string ⟨#[51]⟩, .string ⟨#[49]⟩] : Array Value) 29 (0, 0)) ∈ L ∧ (g4, .cells (cur4 : Array Value) 86 (0, 0)) ∈ L ∧ (g5, .cells (cur5 : Array Value) 86 (0, 0)) ∈ L := ⟨_, HF.out, by simp, by simp, by simp, by simp, by simp, by simp, by simp, by simp⟩
  have HMK : Hid (∀ U, St w U L [B9, B30, B10] → St w U L [B9, B30, B10] ∧ U.cell? ⟨b3, 2, none⟩ = some (.slice A9 0 c9) ∧ U.cell? ⟨b4, 2, none⟩ = some (.slice (some ⟨g4, 0, none⟩) 1 c4) ∧ U.cell? ⟨g4, 0, none⟩ = some (.int .i64 10) ∧ U.cell? ⟨b5, 2, none⟩ = some (.slice (some ⟨g5, 0, none⟩) 2 c5) ∧ U.cell? ⟨g5, 0, none⟩ = some (.int .i64 5)) := Lib.hid (fun U h => ⟨h, h.at_.cell mb3 (i := 2) rfl, h.at_.cell mb4 (i := 2) rfl, h.at_.cell mg4 (i := 0) HC4.out, h.at_.cell mb5 (i := 2) rfl, h.at_.cell mg5 (i := 0) HC5.out⟩)
  have HM := Lib.hid (And.intro mb1 (And.intro mb2 (And.intro mb3 mb8)))
  have hS0 := HMK.out _ hst.drew
  clear HF hst mb1 mb2 mb3 mb4 mb5 mb8 mg4 mg5
  refine wp_region_noPanic ?_
  refine wp_region_held_drew (S := fun U => St w U L [B9, B30, B10] ∧ U.cell? ⟨b3, 2, none⟩ = some (.slice A9 0 c9) ∧ U.cell? ⟨b4, 2, none⟩ = some (.slice (some ⟨g4, 0, none⟩) 1 c4) ∧ U.cell? ⟨g4, 0, none⟩ = some (.int .i64 10) ∧ U.cell? ⟨b5, 2, none⟩ = some (.slice (some ⟨g5, 0, none⟩) 2 c5) ∧ U.cell? ⟨g5, 0, none⟩ = some (.int .i64 5)) (by kernel_rfl) hS0 (fun hHeld => ?_)
  obtain ⟨U0, hU0⟩ : ∃ U0, wK.drew = U0 := ⟨_, rfl⟩
  rw [hU0] at hHeld ⊢
  clear hU0 hS0
  refine tk 0 ?_
  refine tk 1 ?_
  refine tk 2 ?_
  refine tk 3 ?_
  refine tk 4 ?_
  refine tk 5 ?_
  refine tl 6 rfl (yieldsIf_load_mid (by rfl) 29 (.tmp 69) rfl b3 0 (by rfl) [.string ⟨#[49]⟩, .string ⟨#[49, 48]⟩] _ (fun w hw => fun k u hu => (hw.1.row (cs := [.string ⟨#[49]⟩, .string ⟨#[49, 48]⟩, .slice A9 0 c9]) HM.out.2.2.1) k u (by rcases k with _ | _ | k <;> first | (simp at hu; done) | simpa using hu)) Tryz.underlying29 rfl (by kernel_rfl)) ?_
  refine tk 7 ?_
  refine tl 8 rfl (yields_eql (by rfl) 29 29 (.tmp 70) (.tmp 71) (by rfl) (.agg #[.string ⟨#[49]⟩, .string ⟨#[49, 48]⟩]) (.agg #[.string ⟨#[49]⟩, .string ⟨#[49, 48]⟩]) (by rfl) (by rfl) true (fun w => guard_rat _ _ _ _ w) (fun w => eql_rat _ _ w)) ?_
  refine tk 9 ?_
  refine tk 10 ?_
  refine tk 11 ?_
  refine tk 12 ?_
  refine tk 13 ?_
  refine tk 14 ?_
  refine tk 15 ?_
  refine tk 16 ?_
  refine tk 17 ?_
  refine tk 18 ?_
  refine tk 19 ?_
  refine tk 20 ?_
  refine tk 21 ?_
  refine tk 22 ?_
  refine tk 23 ?_
  refine tk 24 ?_
  refine tk 25 ?_
  refine tk 26 ?_
  refine tk 27 ?_
  refine tk 28 ?_
  refine tk 29 ?_
  refine tl 30 rfl (yieldsIf_load_mid (by rfl) 36 (.tmp 1) rfl b1 0 (by rfl) B10.cells _ (fun w hw => hw.1.row HM.out.1) Tryz.underlying36 rfl (ibase B10)) ?_
  refine tl 31 rfl (yieldsIf_load_mid (by rfl) 36 (.tmp 1) rfl b1 0 (by rfl) B10.cells _ (fun w hw => hw.1.row HM.out.1) Tryz.underlying36 rfl (ibase B10)) ?_
  refine rd [32] ?_
  refine rc (fun K hK => ?_) ?_
  ·
   go_simp
   (with_reducible refine (same_self (hHeld.1.bas B10 (by simp))).mono ?_)
   rintro e5 U5 ⟨rfl, hb5⟩
   have HH := Lib.hid (hHeld.1.step hb5)
   clear hb5
   refine kk hK (HMK.out _ HH.out) (fun hHeld => ?_)
   clear hK K
   refine tk 33 ?_
   refine tk 34 ?_
   refine tl 35 rfl (yieldsIf_load_mid (by rfl) 36 (.tmp 1) rfl b1 0 (by rfl) B10.cells _ (fun w hw => hw.1.row HM.out.1) Tryz.underlying36 rfl (ibase B10)) ?_
   refine tl 36 rfl (yieldsIf_load_mid (by rfl) 36 (.tmp 2) rfl b2 0 (by rfl) B30.cells _ (fun w hw => hw.1.row HM.out.2.1) Tryz.underlying36 rfl (ibase B30)) ?_
   refine rd [37] ?_
   refine rc (fun K hK => ?_) ?_
   ·
    go_simp
    (with_reducible refine (same_not (hHeld.1.bas B10 (by simp)) (hHeld.1.bas B30 (by simp)) HI10.out HI30.out).mono ?_)
    rintro e5 U5 ⟨rfl, hb5⟩
    have HH := Lib.hid (hHeld.1.step hb5)
    clear hb5
    refine kk hK (HMK.out _ HH.out) (fun hHeld => ?_)
    clear hK K
    refine tk 38 ?_
    refine tk 39 ?_
    refine tk 40 ?_
    refine tk 41 ?_
    refine tk 42 ?_
    refine tk 43 ?_
    refine tl 44 rfl (yieldsIf_load_mid (by rfl) 29 (.tmp 8) rfl b8 0 (by rfl) [.string ⟨#[51]⟩, .string ⟨#[49]⟩] _ (fun w hw => hw.1.row HM.out.2.2.2) Tryz.underlying29 rfl (by kernel_rfl)) ?_
    refine rd [45] ?_
    refine rc (fun K hK => ?_) ?_
    ·
     go_simp
     (with_reducible refine (n_walk _ _).mono ?_)
     rintro e5 U5 ⟨rfl, hb5⟩
     have HH := Lib.hid (hHeld.1.step hb5)
     clear hb5
     refine kk hK (HMK.out _ HH.out) (fun hHeld => ?_)
     clear hK K
     refine tl 46 rfl (yields_eql (by rfl) 29 29 (.tmp 108) (.tmp 109) (by rfl) (.agg #[.string ⟨#[51]⟩, .string ⟨#[49]⟩]) (.agg #[.string ⟨#[51]⟩, .string ⟨#[49]⟩]) (by rfl) (by rfl) true (fun w => guard_rat _ _ _ _ w) (fun w => eql_rat _ _ w)) ?_
     refine tk 47 ?_
     refine tk 48 ?_
     refine tl 49 rfl (yieldsIf_load_mid (by rfl) 36 (.tmp 2) rfl b2 0 (by rfl) B30.cells _ (fun w hw => hw.1.row HM.out.2.1) Tryz.underlying36 rfl (ibase B30)) ?_
     refine rd [50, 51] ?_
     refine rc (fun K hK => ?_) ?_
     ·
      go_simp
      (with_reducible refine (cust30 (hHeld.1.bas B30 (by simp)) HI30.out).mono ?_)
      rintro e7 U7 ⟨v7, rfl, ho7, hb7⟩
      obtain ⟨A7, c7, hv7, -, -⟩ := ho7.slice
      have hv7' : v7 = .slice A7 1 c7 := hv7
      subst hv7'
      have HR7 : Hid (RowAt U7 (one iv) 1 A7 [9]) := Lib.hid (RowAt.of_ol (fun _ => rfl) ho7)
      have HH := Lib.hid (hHeld.1.step hb7)
      clear ho7 hv7 hb7
      refine kk hK (HMK.out _ HH.out) (fun hHeld => ?_)
      clear hK K
      refine rd [51] ?_
      refine rc (fun K hK => ?_) ?_
      ·
       go_simp
       have hbl9 := below_new U7 (.cells #[.int .i64 9] 3)
       have hn9 := World.alloc_heap_new U7 (.cells #[.int .i64 9] 3)
       obtain ⟨b9, hb9⟩ : ∃ b9, U7.heap.size = b9 := ⟨_, rfl⟩
       obtain ⟨V9, hV9⟩ : ∃ V9, U7.alloc (.cells #[.int .i64 9] 3) = V9 := ⟨_, rfl⟩
       have HH := Lib.hid (hHeld.1.step hbl9)
       have HR7 : Hid (RowAt V9 (one iv) 1 A7 [9]) := Lib.hid (by rw [← hV9]; exact HR7.out.below hbl9)
       rw [hV9] at hn9 HH ⊢
       rw [hb9] at hn9 ⊢
       have HR9 : Hid (RowAt V9 (one iv) 1 (some ⟨b9, 0, none⟩) [9]) := Lib.hid (RowAt.of_block (fun _ => rfl) hn9)
       clear hbl9 hn9 hb9 hV9
       refine kk hK (HMK.out _ HH.out) (fun hHeld => ?_)
       clear hK K
       refine rd [52] ?_
       refine rc (fun K hK => ?_) ?_
       ·
        go_simp
        (with_reducible refine (sameInts9 HR7.out HR9.out).mono ?_)
        rintro e8 U8 ⟨rfl, hb8⟩
        have HH := Lib.hid (hHeld.1.step hb8)
        clear hb8
        refine kk hK (HMK.out _ HH.out) (fun hHeld => ?_)
        clear hK K
        refine tk 53 ?_
        refine tk 54 ?_
        refine dn ?_
        clear hHeld
        go_wp2
        go_ret
        exact ⟨rfl, HH.out.at_.below⟩
       exact AllReadyH.nil
      exact AllReadyH.nil
     refine rc (fun K hK => ?_) ?_
     ·
      go_simp
      have hbl9 := below_new U5 (.cells #[.int .i64 9] 3)
      have hn9 := World.alloc_heap_new U5 (.cells #[.int .i64 9] 3)
      obtain ⟨b9, hb9⟩ : ∃ b9, U5.heap.size = b9 := ⟨_, rfl⟩
      obtain ⟨V9, hV9⟩ : ∃ V9, U5.alloc (.cells #[.int .i64 9] 3) = V9 := ⟨_, rfl⟩
      have HH := Lib.hid (hHeld.1.step hbl9)
      rw [hV9] at hn9 HH ⊢
      rw [hb9] at hn9 ⊢
      have HR9 : Hid (RowAt V9 (one iv) 1 (some ⟨b9, 0, none⟩) [9]) := Lib.hid (RowAt.of_block (fun _ => rfl) hn9)
      clear hbl9 hn9 hb9 hV9
      refine kk hK (HMK.out _ HH.out) (fun hHeld => ?_)
      clear hK K
      refine rd [50] ?_
      refine rc (fun K hK => ?_) ?_
      ·
       go_simp
       (with_reducible refine (cust30 (hHeld.1.bas B30 (by simp)) HI30.out).mono ?_)
       rintro e7 U7 ⟨v7, rfl, ho7, hb7⟩
       obtain ⟨A7, c7, hv7, -, -⟩ := ho7.slice
       have hv7' : v7 = .slice A7 1 c7 := hv7
       subst hv7'
       have HR7 : Hid (RowAt U7 (one iv) 1 A7 [9]) := Lib.hid (RowAt.of_ol (fun _ => rfl) ho7)
       have HH := Lib.hid (hHeld.1.step hb7)
       have HR9 := Lib.hid (HR9.out.below hb7)
       clear ho7 hv7 hb7
       refine kk hK (HMK.out _ HH.out) (fun hHeld => ?_)
       clear hK K
       refine rd [52] ?_
       refine rc (fun K hK => ?_) ?_
       ·
        go_simp
        (with_reducible refine (sameInts9 HR7.out HR9.out).mono ?_)
        rintro e8 U8 ⟨rfl, hb8⟩
        have HH := Lib.hid (hHeld.1.step hb8)
        clear hb8
        refine kk hK (HMK.out _ HH.out) (fun hHeld => ?_)
        clear hK K
        refine tk 53 ?_
        refine tk 54 ?_
        refine dn ?_
        clear hHeld
        go_wp2
        go_ret
        exact ⟨rfl, HH.out.at_.below⟩
       exact AllReadyH.nil
      exact AllReadyH.nil
     exact AllReadyH.nil
    exact AllReadyH.nil
   exact AllReadyH.nil
  exact AllReadyH.nil
end Go.Proofs.YteeifhlhpiimoaaGreatDoor
end
