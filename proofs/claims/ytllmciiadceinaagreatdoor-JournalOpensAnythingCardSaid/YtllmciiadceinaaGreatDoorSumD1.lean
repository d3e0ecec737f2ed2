/-
  The plain laws of a crash while a group is appended to a journal. No condition. Slices of elements of several cells that read as a list: opened; a slice of slices of strings. Conditions: an argument is what the row's first reading says. Crash on a law's disk; what a disk holds for a crash; list laws of the journal's laws. Conditions: each contract's own. Contracts of the reference implementation of package wire. Condition: the string is shorter than 2^62 bytes. Contracts of the reference's rotated, constants, extended. Conditions: bounds. The contract of the reference's block. Conditions: the words are words, the block has 64 bytes. The contract of the reference's Sum. Condition: the string has at most 1000000 bytes. The contract of the reference's Chain. Conditions: bounds.
-/
import Derived.Test.YtllmciiadceinaaGreatDoorJourL
import Derived.Test.YtllmciiadceinaaGreatDoorDiskR
import Derived.Test.YtllmciiadceinaaGreatDoorSlAt
import Derived.Test.YtllmciiadceinaaGreatDoorJourN
import Derived.Test.YtllmciiadceinaaGreatDoorWireB
import Derived.Test.YtllmciiadceinaaGreatDoorWireLaw
import Derived.Lib.Strings
import Derived.Test.YtllmciiadceinaaGreatDoorOwn2
section
namespace Go.Proofs.YtllmciiadceinaaGreatDoor
open Go Wr

theorem crash_none {s : DS} (h : s.pend = []) (keep : List Int) (torn : Int) : (s.crash keep torn).dur = s.dur := by
  unfold DS.crash; dsimp only; rw [h]; rfl
theorem crash_one {s : DS} {o : Nat} {x : ByteArray} (h : s.pend = [(o, x)]) (keep : List Int) (torn : Int) : (s.crash keep torn).dur = s.dur ∨ ∃ k, (s.crash keep torn).dur = patch s.dur o (x.data.toList.take k) := by
  unfold DS.crash; dsimp only; rw [h]
  have : ordS keep 1 = if decide ((0 : Int) ∈ keep) = true then [0] else [] := by
    unfold ordS
    rw [show List.range 1 = [0] from rfl, List.filter_cons]
    rfl
  rw [show ([(o, x)] : List (Nat × ByteArray)).length = 1 from rfl, this]
  split
  · right
    rw [crashF, crashF]
    dsimp only [List.getElem?_cons_zero]
    rw [if_pos rfl]
    unfold tornS
    split
    · exact ⟨min torn.toNat x.size, by rw [Lib.extract_data]; simp⟩
    · exact ⟨x.data.toList.length, by rw [List.take_length]⟩
  · left; rfl
theorem crash_rest (s : DS) (keep : List Int) (torn : Int) : (s.crash keep torn).off = false ∧ (s.crash keep torn).left = 0 ∧ (s.crash keep torn).pend = [] ∧ (s.crash keep torn).vis = (s.crash keep torn).dur := ⟨rfl, rfl, rfl, rfl⟩
theorem half_crash {n : Nat} {s : DS} {t : TS} {L : List ByteArray} (hh : Half n s t L) (hg : Good n t) (keep : List Int) (torn : Int) :
    (s.crash keep torn).vis.length = n ∧ (loadW (s.crash keep torn).vis TS.zero = some t ∨ loadW (s.crash keep torn).vis TS.zero = some (t.adds L)) := by
  have hl1 := out_shape (t := t) hh.ne
  have hl0 : 0 < (outL t L).length := by rw [hl1]; simp
  have hf := hh.fit
  rw [(crash_rest s keep torn).2.2.2]
  rcases hh.st with ⟨h1, h2⟩ | ⟨h1, h2⟩
  · rcases crash_one h1 keep torn with h | ⟨k, h⟩
    · rw [h, h2]; exact ⟨cont_length hg, .inl (cont_load hg)⟩
    · rw [h, h2, cont_tail hg (by omega)]
      refine ⟨?_, .inl (load_of hg (by simp))⟩
      simp only [List.length_append, List.length_cons, List.length_take, List.length_drop, List.length_replicate]
      rw [← hg.size]
      omega
  · rcases crash_one h1 keep torn with h | ⟨k, h⟩
    · rw [h, h2]; exact ⟨mid_length hg hh.ne hf, .inl (mid_load hg)⟩
    · rw [h, h2]
      cases k with
      | zero => rw [List.take_zero, patch_nil]; exact ⟨mid_length hg hh.ne hf, .inl (mid_load hg)⟩
      | succ k =>
        have e : ((⟨((outL t L).take 1).toArray⟩ : ByteArray).data.toList.take (k + 1)) = (outL t L).take 1 := by
          rw [ba_mk, List.take_take]; congr 1; omega
        rw [e, mid_cont hg hh.ne hf]
        exact ⟨cont_length (hg.adds hh.ok hf), .inr (cont_load (hg.adds hh.ok hf))⟩
theorem clean_crash {n : Nat} {s : DS} {t : TS} (hc : Clean n s t) (hg : Good n t) (keep : List Int) (torn : Int) :
    (s.crash keep torn).vis.length = n ∧ loadW (s.crash keep torn).vis TS.zero = some t := by
  rw [(crash_rest s keep torn).2.2.2, crash_none hc.pend, hc.dur]
  exact ⟨cont_length hg, cont_load hg⟩

end Go.Proofs.YtllmciiadceinaaGreatDoor
end
section
namespace Go.Proofs.YtllmciiadceinaaGreatDoor
open Go Go.RowKit Go.ChangeShapes Go.WideShapes Go.Deep

/-- The slice at A shows the list l, an element x as the cells f x, below block B. -/
def CAt {α : Type} (w : World) (B : Nat) (A : Option Addr) (size : Nat) (f : α → List Value) (l : List α) : Prop :=
  ∀ i x, l[i]? = some x → ∃ a, A = some a ∧ a.block < B ∧ ∀ j v, (f x)[j]? = some v → w.cell? (a.add (i * size + j)) = some v
theorem CAt.below {α : Type} {w w' : World} {B : Nat} {A : Option Addr} {size : Nat} {f : α → List Value} {l : List α} (h : CAt w B A size f l) (hb : Below B w w') : CAt w' B A size f l := fun i x hx => by
  obtain ⟨a, e, hl, hc⟩ := h i x hx
  exact ⟨a, e, hl, fun j v hv => (hb.cell (by rw [addr_add_block]; exact hl)).trans (hc j v hv)⟩
theorem CAt.get {α : Type} {w : World} {B : Nat} {A : Option Addr} {size : Nat} {f : α → List Value} {l : List α} (h : CAt w B A size f l) {i : Nat} (hi : i < l.length) :
    ∃ a, A = some a ∧ a.block < B ∧ ∀ j v, (f l[i])[j]? = some v → w.cell? (a.add (i * size + j)) = some v := h i _ (List.getElem?_eq_getElem hi)
theorem list_choose {α : Type} {p : Nat → α → Prop} : ∀ n, (∀ i, i < n → ∃ y, p i y) → ∃ l : List α, l.length = n ∧ ∀ i y, l[i]? = some y → p i y
  | 0, _ => ⟨[], rfl, fun i y h => by simp at h⟩
  | n + 1, h => by
    obtain ⟨l, hl, hp⟩ := list_choose n (fun i hi => h i (by omega))
    obtain ⟨y, hy⟩ := h n (by omega)
    refine ⟨l ++ [y], by simp [hl], fun i z hz => ?_⟩
    rcases Nat.lt_or_ge i l.length with q | q
    · rw [List.getElem?_append_left q] at hz; exact hp i z hz
    · rw [List.getElem?_append_right q] at hz
      have : i - l.length = 0 := by
        rcases Nat.eq_zero_or_pos (i - l.length) with e | e
        · exact e
        · rw [List.getElem?_eq_none (by show 1 ≤ _; omega)] at hz; cases hz
      rw [this] at hz
      obtain rfl : y = z := by simpa using hz
      rw [show i = n by omega]; exact hy
section
variable {H : Type} {enc : TypeId × Value → H} {P : Program} {W : World} {base : Nat} {sp : Nat → Bool} {held : Bool} {b0 : Nat} {r : Reach}
theorem open_rowsAt {α : Type} (f : α → List Value) (ok : α → Prop) {t e : TypeId} {v : Value} {d : DataW H} {p : List MemPlace} (ht : P.underlying t = some (.slice e)) (size : Nat) (hc : P.cellsOf e = size) (hpos : 0 < size)
    (hop : ∀ n cs x, cs.length = size → DataW.trod enc P W base sp held n e cs = some x → ∃ y, cs = f y ∧ ok y)
    (hv : Value.okWide P W r b0 t v) (h : DataW.Trod enc P W base sp held t v d p) :
    ∃ (A : Option Addr) (l : List α) (cap : Nat), v = .slice A l.length cap ∧ l.length ≤ cap ∧ cap ≤ maxLen ∧ CAt W W.heap.size A size f l ∧ ∀ y ∈ l, ok y := by
  obtain ⟨fuel, hf⟩ := h
  have hcs := open_slice_value ht hv
  rcases open_slice ht hf with ⟨e1, _⟩ | ⟨a, len, cap, m, n, D, Pl, e1, _, hl, hm, hmm, _, hi⟩
  · rw [hcs] at e1
    injection e1 with e1
    exact ⟨none, [], 0, e1, Nat.le_refl _, by unfold maxLen; omega, fun i x hx => by simp at hx, fun s hs => by cases hs⟩
  · rw [hcs] at e1
    injection e1 with e1
    have hlm : len ≤ m := by rw [hmm]; split <;> omega
    obtain ⟨l, hll, hp⟩ := list_choose (p := fun i (y : α) => ok y ∧ ∀ j v, (f y)[j]? = some v → W.cell? (a.add (i * size + j)) = some v) len (fun i hil => by
      obtain ⟨cs, hcc, ht'⟩ := hi i (by omega)
      rw [hc] at hcc
      obtain ⟨_, h2, h3⟩ := World.cells?_some hcc
      obtain ⟨y, rfl, hok⟩ := hop n cs _ h2 ht'
      refine ⟨y, hok, fun j v hj => ?_⟩
      have hjl : j < size := by rw [← h2]; exact (List.getElem?_eq_some_iff.1 hj).1
      have := h3 j hjl
      rw [addr_add_add] at this
      rw [this, hj])
    refine ⟨some a, l, cap, by rw [hll]; exact e1, by omega, hm, fun i x hx => ?_, fun y hy => ?_⟩
    · have hq := hp i x hx
      refine ⟨a, rfl, ?_, hq.2⟩
      have hil : i < len := by rw [← hll]; exact (List.getElem?_eq_some_iff.1 hx).1
      obtain ⟨cs, hcc, _⟩ := hi i (by omega)
      rw [hc] at hcc
      obtain ⟨_, h2, h3⟩ := World.cells?_some hcc
      have := h3 0 hpos
      rw [List.getElem?_eq_getElem (by omega)] at this
      have := cell_lt this
      rwa [addr_add_block, addr_add_block] at this
    · obtain ⟨i, hil, rfl⟩ := List.getElem_of_mem hy
      exact (hp i _ (List.getElem?_eq_getElem hil)).1
end


/-- A slice of strings that came in. -/
structure GR where
  A : Option Addr
  l : List ByteArray
  c : Nat
def GR.cells (x : GR) : List Value := [.slice x.A x.l.length x.c]
def GR.ok (W : World) (x : GR) : Prop := x.l.length ≤ x.c ∧ x.c ≤ maxLen ∧ LAt W W.heap.size x.A .string x.l ∧ ∀ s ∈ x.l, s.size ≤ maxLen
theorem open_groupsAt {H : Type} {enc : TypeId × Value → H} {P : Program} {W : World} {base : Nat} {sp : Nat → Bool} {held : Bool} {b0 : Nat} {r : Reach} {t e q : TypeId} {v : Value} {d : DataW H} {p : List MemPlace}
    (ht : P.underlying t = some (.slice e)) (he : P.underlying e = some (.slice q)) (hq : P.underlying q = some .string) (ce : P.cellsOf e = 1) (cq : P.cellsOf q = 1)
    (hv : Value.okWide P W r b0 t v) (h : DataW.Trod enc P W base sp held t v d p) :
    ∃ (A : Option Addr) (l : List GR) (cap : Nat), v = .slice A l.length cap ∧ l.length ≤ cap ∧ cap ≤ maxLen ∧ CAt W W.heap.size A 1 GR.cells l ∧ ∀ y ∈ l, y.ok W :=
  open_rowsAt GR.cells (GR.ok W) ht 1 ce (by omega) (fun n cs x hl hx => by
    rcases Deep.open_strs he hq cq hx with ⟨e1, _⟩ | ⟨a, len, cap, m, Sx, e1, _, hl, hm, hmm, _, hx⟩
    · exact ⟨⟨none, [], 0⟩, e1, Nat.le_refl _, by show 0 ≤ maxLen; unfold maxLen; omega, LAt.nil, fun s hs => by cases hs⟩
    · have hlm : len ≤ m := by rw [hmm]; split <;> omega
      refine ⟨⟨some a, (List.range len).map Sx, cap⟩, by rw [e1]; simp [GR.cells], by simpa using hl, hm, fun i x hi => ?_, fun s hs => ?_⟩
      · dsimp only at hi
        rw [List.getElem?_map] at hi
        have hi2 : i < len := by
          rcases Nat.lt_or_ge i len with q | q
          · exact q
          · rw [List.getElem?_eq_none (by simpa using q)] at hi; cases hi
        rw [List.getElem?_range hi2] at hi
        cases hi
        have := (hx i (by omega)).1
        exact ⟨a, rfl, by have := cell_lt this; rwa [addr_add_block] at this, this⟩
      · obtain ⟨i, hi, rfl⟩ := List.mem_map.1 hs
        exact (hx i (by have := List.mem_range.1 hi; omega)).2) hv h
end Go.Proofs.YtllmciiadceinaaGreatDoor
end
section
namespace Go.Proofs.YtllmciiadceinaaGreatDoor
open Go Go.RowKit Go.Shelf Wr

theorem LAt.cat {α : Type} {w : World} {B : Nat} {A : Option Addr} {f : α → Value} {l : List α} (h : LAt w B A f l) : ∀ j x, (l.flatMap (one f))[j]? = some x → ∃ a, A = some a ∧ w.cell? (a.add j) = some x := fun j x hx => by
  rw [flatMap_one, List.getElem?_map] at hx
  obtain ⟨y, hy, rfl⟩ := Option.map_eq_some_iff.1 hx
  obtain ⟨a, ha, _, hac⟩ := h j y hy
  exact ⟨a, ha, hac⟩
theorem OL.lit0 {α : Type} {B : Nat} {e : TypeId} {f : α → Value} (W : World) (hB : B ≤ W.heap.size) : OL (W.alloc (.cells #[] e)) B e 1 (one f) (.slice (some ⟨W.heap.size, 0, none⟩) 0 0) ([] : List α) :=
  World.ownsRow_lit (base := B) (e := e) (size := 1) W #[] 0 hB (by unfold maxLen; omega) rfl
theorem step_cat {P : Program} {α : Type} {w : World} {B : Nat} {e : TypeId} {size bytes : Nat} {f : α → List Value} {ops : Array Oper} {o : Oper} {a : Act} {K : Act → World → Prop} {Q : Exit → Act → World → Prop} {D : Prop} (hgd : o.guard = none) (s x : Operand) (t : TypeId)
    (ho : o.op = .call { callee := .builtin .append, args := #[s, x], argTypes := #[t, t] }) (E : Elem P t e size bytes) (hf : ∀ x, (f x).length = size) (v : Value) (l : List α) (hs : a.eval s = v) (h : OL w B e size f v l) (A : Option Addr) (m : List α) (k c : Nat) (hk : m.length = k) (hx : a.eval x = .slice A k c) (hc0 : A = none → c = 0)
    (hA : ∀ j x, (m.flatMap f)[j]? = some x → ∃ a, A = some a ∧ w.cell? (a.add j) = some x) (hone : ∀ x ∈ m, ∀ u ∈ f x, u.oneCell' = true) (h63 : l.length + k ≤ maxLen) (hby : (l.length + k) * bytes ≤ 140737488355328) (hB : B ≤ w.heap.size)
    (hk' : ∀ v' w', OL w' B e size f v' (l ++ m) → w.grownBy w' v.ownBlock → Below B w w' → K (a.put o.dst v') w') :
    if Region.wanted o (yielded ops a.tmps) = true then Oper.wp P o a w K Q else D := by
  have hw : Region.wanted o (yielded ops a.tmps) = true := by simp [Region.wanted, hgd]
  rw [if_pos hw]
  obtain ⟨v', w', r1, r2, r3, r4⟩ := h.run_cat (P := P) E o.type hf A m k c hk hc0 hA hone h63 hby hB
  unfold Oper.wp execOp
  simp only [ho, resolve, invoke, builtin, Sem.run_bind, Sem.run_pure, Result.andThen_ok, List.map_toArray, List.map_cons, List.map_nil, hs, hx, r1]
  exact hk' v' w' r2 r3 r4
theorem OL.nilcap {w : World} {B : Nat} {e : TypeId} {α : Type} {f : α → List Value} {A : Option Addr} {k c : Nat} {l : List α} {sz : Nat} (h : OL w B e sz f (.slice A k c) l) : A = none → c = 0 := fun e => by
  rcases h.2 with ⟨he, -⟩ | ⟨g, cap, cur, he, -⟩
  · injection he
  · injection he with e1 _ _; rw [e] at e1; cases e1
/-- The blocks that a call has laid are kept apart. -/
theorem DL.reserve {W0 W W' : World} {Z : Nat → Prop} {n d : Nat} {s : DS} (h : DL W0 Z W n d s) (u : Below W.heap.size W W') : DL W0 (fun k => Z k ∨ (W.heap.size ≤ k ∧ k < W'.heap.size)) W' n d s :=
  (h.mono (fun k hk hlt => by rcases hk with hk | hk; exact hk; omega)).quiet (Turns.of_below u)
theorem JL.reserve {W0 W W' : World} {Z : Nat → Prop} {n d j : Nat} {s : DS} {t : TS} {brk : Bool} (h : JL W0 Z W n d s j t brk) (u : Below W.heap.size W W') : JL W0 (fun k => Z k ∨ (W.heap.size ≤ k ∧ k < W'.heap.size)) W' n d s j t brk :=
  (h.mono (fun k hk hlt => by rcases hk with hk | hk; exact hk; omega)).quiet (Turns.of_below u)
theorem reserve_lt {W W' : World} {Z : Nat → Prop} (hZ : ∀ k, Z k → k < W.heap.size) (hs : W.heap.size ≤ W'.heap.size) : ∀ k, (Z k ∨ (W.heap.size ≤ k ∧ k < W'.heap.size)) → k < W'.heap.size := fun k hk => by
  rcases hk with hk | hk
  · have := hZ k hk; omega
  · exact hk.2
theorem crash_D {W0 W : World} {Z : Nat → Prop} {n d : Nat} {s : DS} (h : DL W0 Z W n d s) (A : Option Addr) (keep : List Int) (kn cap : Nat) (hkn : keep.length = kn) (hk : kn ≤ 1000000) (hA : LAt W W.heap.size A iv keep) (torn : Int) (hp : s.pend.length ≤ 1000000) :
    Calls Tryz.prog 30 #[.pointer (some ⟨d, 0, none⟩), .slice A kn cap, .int .i64 torn] W fun e W' => e = .returned (.int .i64 0) ∧ DL W0 Z W' n d (s.crash keep torn) ∧ Turns (fun k => ¬ Z k) W W' := by
  obtain ⟨gd, gv, F, vp, h1, h2, h3⟩ := h
  refine (crash_walk h1 A keep kn cap hkn hk hA torn hp).mono ?_
  rintro e W1 ⟨rfl, ⟨vp', hd⟩, ht⟩
  exact ⟨rfl, ⟨gd, gv, F, vp', hd, h2, h3.then ht (fun k hk => .inr (h2 k hk).1)⟩, ht.mono fun k hk => (h2 k hk).2⟩

/-- Whatever survives a crash, the disk holds the one list or the other. -/
def Sv (n : Nat) (s : DS) (was want : List ByteArray) : Prop := ∀ keep torn, (s.crash keep torn).vis.length = n ∧ ∃ t, loadW (s.crash keep torn).vis TS.zero = some t ∧ (t.recs = was ∨ t.recs = want)
theorem Sv.clean {n : Nat} {s : DS} {t : TS} (hc : Clean n s t) (hg : Good n t) : Sv n s t.recs t.recs := fun keep torn => by
  obtain ⟨h1, h2⟩ := clean_crash hc hg keep torn
  exact ⟨h1, t, h2, .inl rfl⟩
theorem Sv.half {n : Nat} {s : DS} {t : TS} {L : List ByteArray} (hh : Half n s t L) (hg : Good n t) : Sv n s t.recs (t.recs ++ L) := fun keep torn => by
  obtain ⟨h1, h2⟩ := half_crash hh hg keep torn
  refine ⟨h1, ?_⟩
  rcases h2 with h2 | h2
  · exact ⟨t, h2, .inl rfl⟩
  · exact ⟨t.adds L, h2, .inr (adds_recs t L)⟩
theorem recs_le {n : Nat} {t : TS} (h : Good n t) : t.recs.length ≤ n := by
  have h1 := (storeL_le zero32 t.recs h.ok).2
  have h2 := h.size
  have h3 := h.fit
  omega
theorem cut1 {n : Nat} {s : DS} {t : TS} (hc : Clean n s t) (k : Nat) (hk : 0 < k) : Clean n (s.cut (k : Int)) t ∧ (s.cut (k : Int)).left = k ∧ (s.cut (k : Int)).pend = [] := by
  have e : s.cut (k : Int) = { s with off := false, left := k } := by
    unfold DS.cut
    rw [hc.off, if_neg (by decide), if_neg (by omega)]
    simp
    omega
  rw [e]
  exact ⟨⟨rfl, hc.pend, hc.dur, hc.vis⟩, rfl, hc.pend⟩
/-- Open behind a crash. -/
theorem open_after {n : Nat} {s : DS} {was want : List ByteArray} (h : Sv n s was want) (keep : List Int) (torn : Int) :
    ∃ t, openE (s.crash keep torn) = 0 ∧ loadW (s.crash keep torn).vis TS.zero = some t ∧ Clean n (openD (s.crash keep torn)) t ∧ Good n t ∧ (openD (s.crash keep torn)).left = 0 ∧ (t.recs = was ∨ t.recs = want) := by
  obtain ⟨h1, t, h2, h3⟩ := h keep torn
  obtain ⟨r1, r2, r3, r4⟩ := crash_rest s keep torn
  obtain ⟨o1, o2, o3, o4⟩ := open_law r1 r3 r4 r2 h1 h2
  exact ⟨t, o1, h2, o2, o3, o4, h3⟩
end Go.Proofs.YtllmciiadceinaaGreatDoor
end
section
namespace Go.Proofs.YtllmciiadceinaaGreatDoor.Wr
open Go Go.RowKit

set_option maxHeartbeats 1000000 in
theorem refZig (n : Int) (h1 : -4611686018427387903 ≤ n) (h2 : n ≤ 4611686018427387903) (w : World) :
    Calls Tryz.prog 86 #[.int .i64 n] w fun e w' => e = .returned (.int .u64 (zig n : Int)) ∧ w = w' := by
  by_cases h : n < 0
  · have hz : (zig n : Int) = -n * 2 - 1 := by unfold zig; rw [if_neg (by omega)]; omega
    have HZ := Lib.hid hz
    clear hz
    go_enter Tryz.func86, Tryz.ntmps86
    go_wp2_with fail
    go_ret
    exact ⟨by rw [HZ.out]; try rfl, rfl⟩
  · have hz : (zig n : Int) = n * 2 := by unfold zig; rw [if_pos (by omega)]; omega
    have HZ := Lib.hid hz
    clear hz
    go_enter Tryz.func86, Tryz.ntmps86
    go_wp2_with fail
    go_ret
    exact ⟨by rw [HZ.out]; try rfl, rfl⟩

set_option maxRecDepth 100000 in
set_option maxHeartbeats 4000000 in
theorem refPutInt_yes (n : Int) (h1 : -4611686018427387903 ≤ n) (h2 : n ≤ 4611686018427387903) (w : World) :
    Calls Tryz.prog 56 #[.int .i64 n] w fun e w' => e = .returned (.tuple #[.string ⟨(putI n).toArray⟩, .int .i64 0]) ∧ Below w.heap.size w w' := by
  have hzl := zig_lt h1 h2
  have hput : putI n = leb (zig n) := rfl
  rw [hput]
  have HR := Lib.hid (fun W => refZig n h1 h2 W)
  obtain ⟨z, hz⟩ : ∃ z, zig n = z := ⟨_, rfl⟩
  rw [hz] at hzl HR ⊢
  have hd1 : decide (n < -4611686018427387903) = false := by simp; omega
  have hd2 : decide (4611686018427387903 < n) = false := by simp; omega
  clear hz hput
  obtain ⟨i0, hi, hz0, hz1, hz2⟩ := info_parts Tryz.info5
  go_enter Tryz.func56, Tryz.ntmps56
  go_wp2_with (go_at_call 86; refine (HR.out _).mono ?_; rintro e w1 ⟨rfl, rfl⟩)
  go_loopw [4, 5] (fun zv v wr => ∃ (pre : List UInt8) (f c : Nat), zv = .int .u64 c ∧ c < 128 ^ (f + 1) ∧ pre.length + f = 9 ∧ c ≤ z ∧ leb z = pre ++ lebF f c ∧ wr.ownsRow w.heap.size 5 1 v pre.length (pre.map bv) ∧ Below w.heap.size w wr) (fun zv _ _ => (intOf zv).toNat)
  case atStart => exact ⟨[], 9, z, rfl, Nat.lt_of_lt_of_le hzl (by decide), rfl, Nat.le_refl _, rfl, World.ownsRow_nil _ _ _ _, Below.refl _ _⟩
  case round =>
    obtain ⟨pre, f, c, rfl, hc, hpf, hcz, hl, hrow, hB⟩ := hrel
    have hbs := hB.size
    have Hc := Lib.hid hc
    have Hl := Lib.hid hl
    clear hc hl
    by_cases hlt : c < 128
    · have h3 : decide (128 ≤ (c : Int)) = false := by simp; omega
      go_wp2_with (at_builtin; refine wpList_append_own _ rfl _ _ 39 rfl w.heap.size 5 i0 (.int .u8 0) 1 1 Tryz.underlying39 hi hz0 hz1 hz2 rfl (by decide) _ _ _ rfl (hrow.alloc _) ⟨wr.heap.size, 0, none⟩ 1 1 [_] rfl rfl (cell_one_new _ _ _) (by simp [Value.oneCell']) (by unfold maxLen; omega) (by omega) (by simp; omega) ?_; intro v' w1 hown' hgrow _)
      have eb : (UInt8.ofNat c).toNat = c := by simp; omega
      have hown2 : w1.ownsRow w.heap.size 5 1 v' (pre ++ [UInt8.ofNat c]).length ((pre ++ [UInt8.ofNat c]).map bv) := by
        simpa [bv, eb] using hown'
      have hconv := convert_own (P := Tryz.prog) 39 9 Tryz.underlying39 Tryz.underlying5 Tryz.underlying9 hown2
      have hall : leb z = pre ++ [UInt8.ofNat c] := by rw [Hl.out, lebF_last hlt]
      have HA := Lib.hid hall
      have hB1 : Below w.heap.size w w1 := (hB.alloc hbs _).grown hgrow (by simp; omega) (fun k e => (hrow.lt k e).1)
      clear hown' hown2 hall hgrow eb hrow
      rw [hconv]
      go_wp2_with fail
      go_ret2
      exact ⟨by rw [HA.out]; try rfl, hB1⟩
    · have h3 : decide (128 ≤ (c : Int)) = true := by simp; omega
      go_wp2_with (at_builtin; refine wpList_append_own _ rfl _ _ 39 rfl w.heap.size 5 i0 (.int .u8 0) 1 1 Tryz.underlying39 hi hz0 hz1 hz2 rfl (by decide) _ _ _ rfl (hrow.alloc _) ⟨wr.heap.size, 0, none⟩ 1 1 [_] rfl rfl (cell_one_new _ _ _) (by simp [Value.oneCell']) (by unfold maxLen; omega) (by omega) (by simp; omega) ?_; intro v' w1 hown' hgrow _)
      have hB1 : Below w.heap.size w w1 := (hB.alloc hbs _).grown hgrow (by simp; omega) (fun k e => (hrow.lt k e).1)
      obtain ⟨g, rfl, e, hg⟩ := lebF_more (by omega) Hc.out
      have eb : ((UInt8.ofNat (c % 128 + 128)).toNat : Int) = (c : Int) % 128 + 128 := by simp; omega
      go_roundw
      case rel => exact ⟨pre ++ [UInt8.ofNat (c % 128 + 128)], g, c / 128, by go_num, hg, by simp; omega, by omega, by rw [Hl.out, e]; simp, by rw [List.map_append, List.length_append]; simp only [List.map_cons, List.map_nil, bv, eb, List.length_cons, List.length_nil]; exact hown', hB1⟩
      case measure => simp [intOf]; omega

set_option maxHeartbeats 1000000 in
theorem refPutInt_no (n : Int) (h : n < -4611686018427387903 ∨ 4611686018427387903 < n) (w : World) :
    Calls Tryz.prog 56 #[.int .i64 n] w fun e w' => e = .returned (.tuple #[.string ⟨#[]⟩, .int .i64 10]) ∧ w = w' := by
  rcases h with h | h
  · go_enter Tryz.func56, Tryz.ntmps56
    go_wp2_with fail
    go_ret2
    exact ⟨rfl, rfl⟩
  · have h' : decide (n < -4611686018427387903) = false := by simp; omega
    go_enter Tryz.func56, Tryz.ntmps56
    go_wp2_with fail
    go_ret2
    exact ⟨rfl, rfl⟩

set_option maxHeartbeats 1000000 in
theorem refPutString_yes (s : ByteArray) (h : s.size ≤ 65536) (w : World) :
    Calls Tryz.prog 73 #[.string s] w fun e w' => e = .returned (.tuple #[.string (⟨(putI s.size).toArray⟩ ++ s), .int .i64 0]) ∧ Below w.heap.size w w' := by
  have hl := putI_length s.size
  go_enter Tryz.func73, Tryz.ntmps73
  go_wp2_with (go_at_call 56; refine (refPutInt_yes _ (by omega) (by omega) _).mono ?_; rintro e w1 ⟨rfl, hb1⟩)
  go_ret2
  exact ⟨rfl, hb1⟩

theorem refInt_round {z b k : Nat} (hz : z < 128 ^ k) (hk : k < 9) (hb : b < 128) :
    IntKind.u64.wrap ((b : Int) * 2 ^ (7 * k)) = ((b * 128 ^ k : Nat) : Int) ∧ (z : Int) + ((b * 128 ^ k : Nat) : Int) = ((z + b * 128 ^ k : Nat) : Int) ∧ z + b * 128 ^ k < 128 ^ (k + 1) ∧ z + b * 128 ^ k < 9223372036854775808 :=
  have h := int_round hz hk hb
  ⟨h.1, by omega, h.2.2⟩

/-- What Int answers at its last group, by the reference's own test. -/
theorem refInt_eq {s : ByteArray} {k at' y b : Nat} {N : Int} (hu : unzig y = N)
    (hend : decI (s.data.toList.drop at') = if b = 0 ∧ 0 < k then none else if y = 9223372036854775807 then none else some (y, k + 1))
    (hread : leb y = (s.data.toList.drop at').take (k + 1) ↔ ¬ (b = 0 ∧ 0 < k)) (hy : y < 9223372036854775807) :
    ((!putI N == (s.extract at' (at' + k + 1)).toList) = true → intR s at' = .tuple #[.int .i64 0, .int .i64 0, .int .i64 10]) ∧
    ((!putI N == (s.extract at' (at' + k + 1)).toList) = false → intR s at' = .tuple #[.int .i64 N, .int .i64 ((at' : Int) + k + 1), .int .i64 0]) := by
  have e1 : putI N = leb y := by rw [← hu, putI, zig_unzig]
  have e2 : (s.extract at' (at' + k + 1)).toList = (s.data.toList.drop at').take (k + 1) := by rw [Lib.extract_toList, show at' + k + 1 - at' = k + 1 by omega]
  rw [e1, e2]
  constructor
  · intro h
    have hn : ¬ leb y = (s.data.toList.drop at').take (k + 1) := by simpa using h
    have : b = 0 ∧ 0 < k := Classical.byContradiction fun e => hn (hread.2 e)
    unfold intR; rw [hend, if_pos this]
  · intro h
    have hn : leb y = (s.data.toList.drop at').take (k + 1) := by simpa using h
    unfold intR; rw [hend, if_neg (hread.1 hn), if_neg (by omega)]
    simp [hu, Int.add_assoc]
theorem refInt_low {s : ByteArray} {k at' y b : Nat}
    (hend : decI (s.data.toList.drop at') = if b = 0 ∧ 0 < k then none else if y = 9223372036854775807 then none else some (y, k + 1)) (hy : y = 9223372036854775807) :
    intR s at' = .tuple #[.int .i64 0, .int .i64 0, .int .i64 10] := by
  unfold intR; rw [hend, if_pos hy, ite_self]

set_option maxRecDepth 100000 in
set_option maxHeartbeats 8000000 in
theorem refInt_walk (s : ByteArray) (at' : Nat) (hat : at' ≤ s.size) (hs : s.size < 4611686018427387904) (w : World) :
    Calls Tryz.prog 97 #[.string s, .int .i64 at'] w fun e w' => e = .returned (intR s at') ∧ Below w.heap.size w w' := by
  have hd1 : decide (s.size < at') = false := by simp; omega
  have hd2 : decide ((at' : Int) < 0) = false := by simp
  go_enter Tryz.func97, Tryz.ntmps97
  go_wp2_with fail
  go_loopw [7, 8] (fun zv i wr => ∃ k z : Nat, k ≤ 9 ∧ i = .int .i64 k ∧ zv = .int .u64 z ∧ ScanTo (s.data.toList.drop at') k z ∧ ReadTo (s.data.toList.drop at') k z ∧ wr = w) (fun _ i _ => 9 - (intOf i).toNat)
  case atStart => exact ⟨0, 0, by omega, rfl, rfl, scanTo_0 _, readTo_0 _, rfl⟩
  case round =>
    obtain ⟨k, z, hk, rfl, rfl, hsc, hrd, rfl⟩ := hrel
    have Hz := Lib.hid hrd.1
    by_cases hk9 : k < 9
    · by_cases hin : at' + k < s.size
      · have hlb : (s.data.toList.drop at')[k]? = some s[at' + k] := by
          rw [List.getElem?_drop]; exact (List.getElem?_eq_getElem (by simpa using hin)).trans rfl
        obtain ⟨b, hbe⟩ : ∃ b, s[at' + k].toNat = b := ⟨_, rfl⟩
        have hb256 : b < 256 := by rw [← hbe]; exact UInt8.toNat_lt _
        by_cases hb : b < 128
        · have hmod : (b : Int) % 128 = b := by omega
          obtain ⟨f1, f2, f3, f4⟩ := refInt_round Hz.out hk9 hb
          have hend := scanTo_end hsc hk9 hlb (by omega)
          have hread := readTo_end hrd hk9 hlb (by omega)
          rw [hbe] at hend hread
          obtain ⟨p, hp⟩ : ∃ p, b * 128 ^ k = p := ⟨_, rfl⟩
          obtain ⟨y, hy⟩ : ∃ y, z + p = y := ⟨_, rfl⟩
          rw [hp] at f1 f2 f3 f4 hend hread
          rw [hy] at f2 f3 f4 hend hread
          have hzy : z ≤ y := by omega
          have hpy : p ≤ y := by omega
          have h128 : decide (128 ≤ (b : Int)) = false := by simp; omega
          by_cases hpar : y % 2 = 1
          · have g1 : ((y : Int) % 2 == 1) = true := by simp; omega
            obtain ⟨m, hm⟩ : ∃ m, y / 2 = m := ⟨_, rfl⟩
            have g2 : (y : Int) / 2 = m := by omega
            have hmb : m < 4611686018427387904 := by omega
            obtain ⟨N, hN⟩ : ∃ N : Int, -(m : Int) - 1 = N := ⟨_, rfl⟩
            have hu : unzig y = N := by unfold unzig; rw [if_neg (by omega), hm]; exact hN
            by_cases hlow : N < -4611686018427387903
            · have hint := refInt_low hend (show y = 9223372036854775807 by omega)
              have Hint := Lib.hid hint
              clear hint hend hread hp hy f3 hsc hrd hu hm
              go_wp2_with (go_at_call 56; refine (refPutInt_no _ (.inl hlow) _).mono ?_; rintro e w1 ⟨rfl, rfl⟩)
              go_ret3
              exact ⟨by rw [Hint.out]; try rfl, Below.refl _ _⟩
            · obtain ⟨i1, i2⟩ := refInt_eq hu hend hread (by omega)
              have I1 := Lib.hid i1
              have I2 := Lib.hid i2
              clear i1 i2 hend hread hp hy f3 hsc hrd hu hm
              go_wp2_with (go_at_call 56; refine (refPutInt_yes N (by omega) (by omega) _).mono ?_; rintro e w1 ⟨rfl, hb1⟩)
              · go_ret3
                exact ⟨by rw [I1.out (by assumption)]; try rfl, hb1⟩
              · go_ret3
                exact ⟨by rw [I2.out (by assumption)]; try rfl, hb1⟩
          · have g1 : ((y : Int) % 2 == 1) = false := by simp; omega
            obtain ⟨m, hm⟩ : ∃ m, y / 2 = m := ⟨_, rfl⟩
            have g2 : (y : Int) / 2 = m := by omega
            have hmb : m < 4611686018427387904 := by omega
            have hu : unzig y = (m : Int) := by unfold unzig; rw [if_pos (by omega), hm]
            obtain ⟨i1, i2⟩ := refInt_eq hu hend hread (by omega)
            have I1 := Lib.hid i1
            have I2 := Lib.hid i2
            clear i1 i2 hend hread hp hy f3 hsc hrd hu hm
            go_wp2_with (go_at_call 56; refine (refPutInt_yes (m : Int) (by omega) (by omega) _).mono ?_; rintro e w1 ⟨rfl, hb1⟩)
            · go_ret3
              exact ⟨by rw [I1.out (by assumption)]; try rfl, hb1⟩
            · go_ret3
              exact ⟨by rw [I2.out (by assumption)]; try rfl, hb1⟩
        · have hmore := scanTo_more hsc hk9 hlb (by omega)
          have hrdm := readTo_more hrd hlb (by omega)
          obtain ⟨q, hq⟩ : ∃ q, b - 128 = q := ⟨_, rfl⟩
          rw [hbe, hq] at hmore hrdm
          have hmod : (b : Int) % 128 = (q : Int) := by omega
          obtain ⟨f1, f2, f3, f4⟩ := refInt_round Hz.out hk9 (show q < 128 by omega)
          have hq8 : q < 128 := by omega
          have h128 : decide (128 ≤ (b : Int)) = true := by simp; omega
          obtain ⟨p, hp⟩ : ∃ p, q * 128 ^ k = p := ⟨_, rfl⟩
          obtain ⟨y, hy⟩ : ∃ y, z + p = y := ⟨_, rfl⟩
          rw [hp] at f1 f2 f3 f4 hmore hrdm
          rw [hy] at f2 f3 f4 hmore hrdm
          have hzy : z ≤ y := by omega
          have hpy : p ≤ y := by omega
          clear hq hp hy f3 hsc hrd
          go_wp2_with fail
          go_roundw
          case rel => exact ⟨k + 1, y, by omega, by go_num, rfl, hmore, hrdm, by trivial⟩
          case measure => simp [intOf]; omega
      · have hint : intR s at' = .tuple #[.int .i64 0, .int .i64 0, .int .i64 10] := by
          unfold intR; rw [scanTo_short hsc (by simp; omega)]
        have Hint := Lib.hid hint
        have hin' : (s.size : Int) ≤ (at' : Int) + k := by omega
        clear hint hin
        go_wp2_with fail
        go_ret3
        exact ⟨by rw [Hint.out]; try rfl, Below.refl _ _⟩
    · obtain rfl : k = 9 := by omega
      have hint : intR s at' = .tuple #[.int .i64 0, .int .i64 0, .int .i64 10] := by
        unfold intR; rw [scanTo_nine hsc]
      have Hint := Lib.hid hint
      clear hint
      go_wp2_with fail
      go_ret3
      exact ⟨by rw [Hint.out]; try rfl, Below.refl _ _⟩

set_option maxHeartbeats 1000000 in
theorem refInt_arg (s : ByteArray) (k : Int) (h : k < 0 ∨ (s.size : Int) < k) (w : World) :
    Calls Tryz.prog 97 #[.string s, .int .i64 k] w fun e w' => e = .returned (.tuple #[.int .i64 0, .int .i64 0, .int .i64 2]) ∧ w = w' := by
  rcases h with h | h
  · go_enter Tryz.func97, Tryz.ntmps97
    go_wp2_with fail
    go_ret3
    exact ⟨rfl, rfl⟩
  · have h' : decide (k < 0) = false := by simp; omega
    go_enter Tryz.func97, Tryz.ntmps97
    go_wp2_with fail
    go_ret3
    exact ⟨rfl, rfl⟩

set_option maxHeartbeats 1000000 in
theorem refString_arg (s : ByteArray) (k : Int) (h : k < 0 ∨ (s.size : Int) < k) (w : World) :
    Calls Tryz.prog 75 #[.string s, .int .i64 k] w fun e w' => e = .returned (.tuple #[.string ⟨#[]⟩, .int .i64 0, .int .i64 2]) ∧ w = w' := by
  go_enter Tryz.func75, Tryz.ntmps75
  go_wp2_with (go_at_call 97; refine (refInt_arg _ _ h _).mono ?_; rintro e w1 ⟨rfl, rfl⟩)
  go_ret3
  exact ⟨rfl, rfl⟩

set_option maxRecDepth 100000 in
set_option maxHeartbeats 4000000 in
theorem refString_walk (s : ByteArray) (k : Nat) (hk : k ≤ s.size) (hs : s.size < 4611686018427387904) (w : World) :
    Calls Tryz.prog 75 #[.string s, .int .i64 k] w fun e w' => e = .returned (strR s k) ∧ Below w.heap.size w w' := by
  cases hd : decI (s.data.toList.drop k) with
  | none =>
    have hi : intR s k = .tuple #[.int .i64 0, .int .i64 0, .int .i64 10] := by unfold intR; rw [hd]
    have hr : strR s k = .tuple #[.string ⟨#[]⟩, .int .i64 0, .int .i64 10] := by unfold strR; rw [hd]
    rw [hr]
    have H := refInt_walk s k hk hs
    rw [hi] at H
    have HH := Lib.hid H
    clear H hi hr hd
    go_enter Tryz.func75, Tryz.ntmps75
    go_wp2_with (go_at_call 97; refine (HH.out _).mono ?_; rintro e w1 ⟨rfl, hb1⟩)
    go_ret3
    exact ⟨rfl, hb1⟩
  | some zc =>
    obtain ⟨z, c⟩ := zc
    obtain ⟨b1, b2, b3, b4⟩ := decI_bd hd
    obtain ⟨b5, b6⟩ := unzig_bd b4
    simp only [maxI] at b5 b6
    have b7 : k + c ≤ s.size := by simp at b3; omega
    have hi : intR s k = .tuple #[.int .i64 (unzig z), .int .i64 ((k : Int) + c), .int .i64 0] := by unfold intR; rw [hd]
    have H := refInt_walk s k hk hs
    rw [hi] at H
    obtain ⟨n, hn⟩ : ∃ n, unzig z = n := ⟨_, rfl⟩
    have hr : strR s k = if 0 ≤ n ∧ n ≤ 65536 ∧ k + c + n.toNat ≤ s.size then .tuple #[.string (s.extract (k + c) (k + c + n.toNat)), .int .i64 ((k + c + n.toNat : Nat) : Int), .int .i64 0] else .tuple #[.string ⟨#[]⟩, .int .i64 0, .int .i64 10] := by unfold strR; rw [hd]; simp only [hn]
    rw [hr]
    rw [hn] at H b5 b6
    have HH := Lib.hid H
    clear H hi hr hd hn b3
    by_cases h1 : n < 0
    · rw [if_neg (by omega)]
      go_enter Tryz.func75, Tryz.ntmps75
      go_wp2_with (go_at_call 97; refine (HH.out _).mono ?_; rintro e w1 ⟨rfl, hb1⟩)
      go_ret3
      exact ⟨rfl, hb1⟩
    · have h1' : decide (n < 0) = false := by simpa using h1
      by_cases h2 : 65536 < n
      · rw [if_neg (by omega)]
        go_enter Tryz.func75, Tryz.ntmps75
        go_wp2_with (go_at_call 97; refine (HH.out _).mono ?_; rintro e w1 ⟨rfl, hb1⟩)
        go_ret3
        exact ⟨rfl, hb1⟩
      · have h2' : decide (65536 < n) = false := by simpa using h2
        by_cases h3 : (s.size : Int) - (k + c) < n
        · rw [if_neg (by omega)]
          go_enter Tryz.func75, Tryz.ntmps75
          go_wp2_with (go_at_call 97; refine (HH.out _).mono ?_; rintro e w1 ⟨rfl, hb1⟩)
          go_ret3
          exact ⟨rfl, hb1⟩
        · rw [if_pos (by omega)]
          obtain ⟨m, rfl⟩ := Int.eq_ofNat_of_zero_le (show 0 ≤ n by omega)
          rw [Int.toNat_natCast]
          go_enter Tryz.func75, Tryz.ntmps75
          go_wp2_with (go_at_call 97; refine (HH.out _).mono ?_; rintro e w1 ⟨rfl, hb1⟩)
          go_ret3
          refine ⟨?_, hb1⟩
          show Ending.returned (.tuple #[.string _, .int .i64 ((k : Int) + c + m), .int .i64 0]) = _
          rw [show ((k : Int) + c + m) = ((k + c + m : Nat) : Int) by omega]

end Go.Proofs.YtllmciiadceinaaGreatDoor.Wr
end
section
namespace Go.Proofs.YtllmciiadceinaaGreatDoor
open Go Go.RowKit Go.Shelf

theorem elemU8 : Elem Tryz.prog 39 5 1 1 := Elem.mk' Tryz.underlying39 Tryz.infoU8 rfl (by decide)
theorem Tryz.infoU32 : (Tryz.prog.info? 109).map (fun i => (i.zero, i.size, i.bytes)) = some (some (.int .u32 0), 1, 4) := by kernel_rfl
theorem elemU32 : Elem Tryz.prog 110 109 1 4 := Elem.mk' Tryz.underlying110 Tryz.infoU32 rfl (by decide)

set_option maxHeartbeats 2000000 in
theorem rotated_walk (x n : Nat) (hx : x < 4294967296) (h0 : 0 < n) (h1 : n < 32) (w : World) :
    Calls Tryz.prog 87 #[.int .u32 x, .int .i64 n] w fun e w' => e = .returned (.int .u32 (rotr n x : Nat)) ∧ ∃ k, w' = w.drewN k := by
  obtain ⟨m, hm⟩ : ∃ m, 32 - n = m := ⟨_, rfl⟩
  have m0 : 0 < m := by omega
  have m1 : m < 32 := by omega
  have e1 : IntKind.i64.wrap (32 - (n : Int)) = (m : Int) := by rw [IntKind.wrap_i64]; omega
  have e2 : (32 : Int) - (n : Int) = (m : Int) := by omega
  have z1 : (0 : Int) ≤ (n : Int) := by omega
  have z2 : (0 : Int) ≤ (m : Int) := by omega
  have z3 : (n : Int) < 32 := by omega
  have z4 : (m : Int) < 32 := by omega
  go_enter Tryz.func87, Tryz.ntmps87
  go_wp2_with fail
  go_quiet (fail)
  go_wp2_with fail
  have hf : bits .or .u32 ((x : Int) / 2 ^ n) ((x : Int) * 2 ^ m % 4294967296) = ((rotr n x : Nat) : Int) := by
    have a1 : (x : Int) * 2 ^ m % 4294967296 = ((x * 2 ^ m % 4294967296 : Nat) : Int) := by rw [Int.natCast_emod, Int.natCast_mul, Int.natCast_pow]; rfl
    have a2 : (x : Int) / 2 ^ n = ((x / 2 ^ n : Nat) : Int) := by push_cast; rfl
    rw [a1, a2]
    refine (u32_or_nat _ _ (div_pow_lt hx) (Nat.mod_lt _ (by decide))).trans ?_
    rw [← hm]; rfl
  go_ret
  exact ⟨congrArg (fun v => Ending.returned (.int .u32 v)) hf, nq, rfl⟩

set_option maxRecDepth 100000 in
theorem constants_walk (w : World) :
    Calls Tryz.prog 88 #[] w fun e w' => e = .returned (.slice (some ⟨w.heap.size, 0, none⟩) 64 64) ∧ RAt w' w.heap.size wv shaK ∧ Below w.heap.size w w' := by
  go_enter Tryz.func88, Tryz.ntmps88
  go_wp2_with fail
  go_ret
  exact ⟨rfl, RAt.alloc_new w _ _ rfl, (Below.refl _ _).alloc (Nat.le_refl _) _⟩

abbrev ByteL (w : World) (B : Nat) (v : Value) (l : List UInt8) : Prop := OL w B 5 1 (one bv) v l
abbrev WordL (w : World) (B : Nat) (v : Value) (l : List Nat) : Prop := OL w B 109 1 (one wv) v l

theorem take_byte (s : ByteArray) (k : Nat) (h : k < s.size) : s.data.toList.take (k + 1) = s.data.toList.take k ++ [s[k]] := by
  rw [List.take_succ_eq_append_getElem (by simpa using h)]; rfl

set_option maxRecDepth 100000 in
set_option maxHeartbeats 4000000 in
theorem extended_walk (s : ByteArray) (hs : s.size ≤ 1000000) (w : World) :
    Calls Tryz.prog 58 #[.string s] w fun e w' => (∃ g cap, e = .returned (.slice (some ⟨g, 0, none⟩) (pad s.data.toList).length cap) ∧ ByteL w' w.heap.size (.slice (some ⟨g, 0, none⟩) (pad s.data.toList).length cap) (pad s.data.toList)) ∧ Below w.heap.size w w' := by
  go_enter Tryz.func58, Tryz.ntmps58
  go_wp2_with fail
  go_loopw [3, 4] (fun b i wr => ∃ k : Nat, k ≤ s.size ∧ i = .int .i64 k ∧ ByteL wr w.heap.size b (s.data.toList.take k) ∧ Below w.heap.size w wr) (fun _ i _ => s.size - (intOf i).toNat)
  case atStart => exact ⟨0, by omega, rfl, OL.nil, Below.refl _ _⟩
  case round =>
    obtain ⟨k, hk, rfl, hb, hB⟩ := hrel
    have hbs := hB.size
    have HB := Lib.hid hB
    have hlk : (s.data.toList.take k).length = k := by rw [List.length_take]; simp; omega
    have HLK := Lib.hid hlk
    clear hB hlk
    by_cases hlt : k < s.size
    · have HT := Lib.hid (take_byte s k hlt)
      go_wp2_with (at_builtin; refine wpList_app rfl (.tmp 12) (.tmp 16) 39 rfl elemU8 _ _ k HLK.out rfl (hb.alloc _) s[k] wr.heap.size #[.int .u8 (s[k].toNat : Int)] rfl ?hc rfl rfl (by simp [one, bv, Value.oneCell']) (by rw [HLK.out]; unfold maxLen; omega) (by rw [HLK.out]; omega) (by simp; omega) ?_; (case hc => exact World.alloc_heap_new _ _); intro g3 c3 w2 h3 hg3 hg3' hg3l hb2)
      exact ⟨⟨k + 1, by omega, rfl, by rw [HT.out]; exact h3, (HB.out.alloc hbs _).trans hb2⟩, by simp [intOf]; omega⟩
    · obtain rfl : k = s.size := by omega
      rw [List.take_of_length_le (by simp)] at hb HLK
      obtain ⟨l, hl⟩ : ∃ l, s.data.toList = l := ⟨_, rfl⟩
      obtain ⟨n, hn⟩ : ∃ n, s.size = n := ⟨_, rfl⟩
      rw [hl] at hb HLK ⊢
      have hpz := padZ_lt n
      have hpm : (n + 1 + padZ n) % 64 = 56 := by unfold padZ; omega
      have hpn : ∀ j, j < padZ n → (n + 1 + j) % 64 ≠ 56 := fun j hj => by unfold padZ at hj; omega
      have HPM := Lib.hid hpm
      have HPN := Lib.hid hpn
      have HN := Lib.hid hn
      have HLL := Lib.hid hl
      rw [hn] at HLK ⊢
      have hn1 : n ≤ 1000000 := by omega
      have d0 : decide (n < s.size) = false := by simp; omega
      clear hpm hpn hl hlt hk
      rw [hn] at hs
      clear hn
      go_wp2_with (at_builtin; refine wpList_app rfl (.tmp 18) (.tmp 19) 39 rfl elemU8 _ l n HLK.out rfl (hb.alloc _) 128 wr.heap.size #[.int .u8 128] rfl ?hc rfl rfl (by simp [one, bv, Value.oneCell']) (by rw [HLK.out]; unfold maxLen; omega) (by rw [HLK.out]; omega) (by simp; omega) ?_; (case hc => exact World.alloc_heap_new _ _); intro g3 c3 w2 h3 hg3 hg3' hg3l hb2)
      have hB4 := Lib.hid ((HB.out.alloc hbs (.cells #[.int .u8 128] 5)).trans hb2)
      have H4 := Lib.hid h3
      clear hb h3 hg3 hg3' hg3l hb2 HB d0 hbs
      go_loopw [3] (fun b wr => ∃ (j g cap : Nat), j ≤ padZ n ∧ b = .slice (some ⟨g, 0, none⟩) (n + 1 + j) cap ∧ ByteL wr w.heap.size (.slice (some ⟨g, 0, none⟩) (n + 1 + j) cap) (l ++ [128] ++ List.replicate j 0) ∧ Below w.heap.size w wr) (fun b _ => padZ n - ((match b with | .slice _ k _ => k | _ => 0) - (n + 1)))
      case atStart => exact ⟨0, g3, c3, by omega, rfl, by rw [List.replicate_zero, List.append_nil]; exact H4.out, hB4.out⟩
      case round =>
        clear H4 hB4
        obtain ⟨j, g, cap, hj, rfl, hr, hB⟩ := hrel
        have hln : (l ++ [128] ++ List.replicate j 0).length = n + 1 + j := by have := HLK.out; simp; omega
        have HLN := Lib.hid hln
        have hbs := hB.size
        have HB := Lib.hid hB
        clear hln hB
        by_cases hlt : j < padZ n
        · have d1 : (((n : Int) + 1 + (j : Int)) % 64 != 56) = true := by have := HPN.out j hlt; simp; omega
          go_wp2_with (at_builtin; refine wpList_app rfl (.tmp 25) (.tmp 26) 39 rfl elemU8 _ (l ++ [128] ++ List.replicate j 0) (n + 1 + j) HLN.out rfl (hr.alloc _) 0 wr.heap.size #[.int .u8 0] rfl ?hc rfl rfl (by simp [one, bv, Value.oneCell']) (by rw [HLN.out]; unfold maxLen; omega) (by rw [HLN.out]; omega) (by simp; omega) ?_; (case hc => exact World.alloc_heap_new _ _); intro g5 cap5 w5 hr5 hu5 hu5' hu5l hb5)
          refine ⟨⟨j + 1, g5, cap5, by omega, rfl, ?_, (HB.out.alloc hbs _).trans hb5⟩, by simp; omega⟩
          rw [List.replicate_succ', ← List.append_assoc]; exact hr5
        · obtain rfl : j = padZ n := by omega
          have d1 : (((n : Int) + 1 + (padZ n : Int)) % 64 != 56) = false := by have := HPM.out; simp; omega
          clear d1 hj
          obtain ⟨m, hm⟩ : ∃ m, l ++ [128] ++ List.replicate (padZ n) 0 = m := ⟨_, rfl⟩
          obtain ⟨q, hq⟩ : ∃ q, n + 1 + padZ n = q := ⟨_, rfl⟩
          have hqi : (n : Int) + 1 + (padZ n : Int) = (q : Int) := by omega
          rw [hm] at hr HLN
          rw [hq] at hr HLN
          have d2 : ((q : Int) % 64 != 56) = false := by have := HPM.out; simp; omega
          have HM := Lib.hid hm
          have HR0 := Lib.hid hr
          have hq2 : q < n + 1 + 64 := by omega
          have HQ := Lib.hid hq
          rw [hq]
          clear hqi hm hr hq HPN hpz
          go_wp2_with fail
          clear d2
          obtain ⟨wq, rfl⟩ : ∃ wq : World, wq = wr := ⟨_, rfl⟩
          go_loopw [3, 5] (fun b i wr => ∃ (k g cap : Nat), k ≤ 8 ∧ i = .int .i64 (7 - (k : Int)) ∧ b = .slice (some ⟨g, 0, none⟩) (q + k) cap ∧ ByteL wr w.heap.size (.slice (some ⟨g, 0, none⟩) (q + k) cap) (m ++ (List.range k).map fun i => UInt8.ofNat (8 * n / 2 ^ (8 * (7 - i)))) ∧ Below w.heap.size w wr) (fun _ i _ => (intOf i + 1).toNat)
          case atStart => exact ⟨0, g, cap, by omega, rfl, rfl, by simpa using HR0.out, HB.out⟩
          case round =>
            clear HR0 HB hbs
            obtain ⟨k, g, cap, hk, rfl, rfl, hr, hB⟩ := hrel
            have hln : (m ++ (List.range k).map fun i => UInt8.ofNat (8 * n / 2 ^ (8 * (7 - i)))).length = q + k := by have := HLN.out; simp; omega
            have HL2 := Lib.hid hln
            have hbs := hB.size
            have HB := Lib.hid hB
            clear hB hln
            by_cases hlt : k < 8
            · obtain ⟨z, hzz⟩ : ∃ z : Nat, 7 - k = z := ⟨_, rfl⟩
              have hzi : (7 : Int) - (k : Int) = (z : Int) := by omega
              obtain ⟨s8, hs8⟩ : ∃ s, 8 * z = s := ⟨_, rfl⟩
              obtain ⟨t, ht⟩ : ∃ t, 8 * n = t := ⟨_, rfl⟩
              have e1 : 8 * (z : Int) = (s8 : Int) := by omega
              have e2 : 8 * (s.size : Int) = (t : Int) := by have := HN.out; omega
              have s8l : s8 < 64 := by omega
              have tl : t < 9000000 := by omega
              have e4 : (s.size : Int) < 2000000 := by have := HN.out; omega
              obtain ⟨y, hy⟩ : ∃ y, t / 2 ^ s8 % 256 = y := ⟨_, rfl⟩
              have e3 : (t : Int) / 2 ^ s8 % 256 = (y : Int) := by rw [← hy]; push_cast; rfl
              have hyu : bv (UInt8.ofNat (8 * n / 2 ^ (8 * (7 - k)))) = .int .u8 (y : Int) := by unfold bv; rw [UInt8.toNat_ofNat', ← hy, ht, hzz, hs8]
              have HYU := Lib.hid hyu
              rw [hzi]
              have HZI := Lib.hid hzi
              clear hzz hs8 ht hy hyu hzi
              go_wp2_with (at_builtin; refine wpList_app rfl (.tmp 32) (.tmp 40) 39 rfl elemU8 _ (m ++ (List.range k).map fun i => UInt8.ofNat (8 * n / 2 ^ (8 * (7 - i)))) (q + k) HL2.out rfl (hr.alloc _) (UInt8.ofNat (8 * n / 2 ^ (8 * (7 - k)))) wr.heap.size #[.int .u8 (y : Int)] rfl ?hc ?hd rfl (by simp [one, bv, Value.oneCell']) (by rw [HL2.out]; unfold maxLen; omega) (by rw [HL2.out]; omega) (by simp; omega) ?_; (case hc => exact World.alloc_heap_new _ _); (case hd => rw [one, HYU.out]); intro g5 cap5 w5 hr5 hu5 hu5' hu5l hb5)
              have hzi := HZI.out
              refine ⟨⟨k + 1, g5, cap5, by omega, by congr 1; omega, rfl, ?_, (HB.out.alloc hbs _).trans hb5⟩, by simp [intOf] <;> omega⟩
              rw [List.range_succ, List.map_append, ← List.append_assoc]; exact hr5
            · obtain rfl : k = 8 := by omega
              have hp : m ++ (List.range 8).map (fun i => UInt8.ofNat (8 * n / 2 ^ (8 * (7 - i)))) = pad l := by rw [← HM.out, ← HLK.out]; rfl
              rw [hp] at hr HL2
              have HR := Lib.hid hr
              clear hp hr
              go_wp2_with fail
              go_ret
              refine ⟨⟨g, cap, ?_, ?_⟩, HB.out⟩
              · rw [HLL.out, HL2.out]; rfl
              · rw [HLL.out, HL2.out]; exact HR.out

end Go.Proofs.YtllmciiadceinaaGreatDoor
end
section
namespace Go.Proofs.YtllmciiadceinaaGreatDoor
open Go Go.RowKit Go.Shelf

theorem fresh_lat (wx : World) (l : List Nat) (cs : Array Value) (t : TypeId) (h : cs.toList = l.map wv) : LAt (wx.alloc (.cells cs t)).drew (wx.alloc (.cells cs t)).drew.heap.size (some ⟨wx.heap.size, 0, none⟩) wv l :=
  (RAt.alloc_new wx cs t h).drew.sl (by show wx.heap.size < (wx.alloc (.cells cs t)).heap.size; rw [World.size_alloc]; exact Nat.lt_succ_self _)
theorem rotated_lit (x n r : Nat) (z : Int) (hz : (n : Int) = z) (hr : rotr n x = r) (hx : x < 4294967296) (h0 : 0 < n) (h1 : n < 32) (W : World) :
    Calls Tryz.prog 87 #[.int .u32 x, .int .i64 z] W fun e w' => e = .returned (.int .u32 r) ∧ ∃ k, w' = W.drewN k := by
  rw [← hz, ← hr]; exact rotated_walk x n hx h0 h1 W
theorem WordL.cell {w : World} {B g n c : Nat} {l : List Nat} (h : WordL w B (.slice (some ⟨g, 0, none⟩) n c) l) {i : Nat} (hi : i < l.length) {x : Nat} (hx : l[i] = x) : w.cell? ⟨g, i, none⟩ = some (.int .u32 x) := by
  rw [← hx]; exact OL.get (φ := wv) h hi
theorem WordL.alloc {w : World} {B : Nat} {v : Value} {l : List Nat} (h : WordL w B v l) (o : Obj) : WordL (w.alloc o) B v l := OL.alloc h o

set_option maxRecDepth 100000 in
set_option maxHeartbeats 8000000 in
theorem block_walk (A0 : Option Addr) (H : List Nat) (h8 : H.length = 8) (hlt : ∀ x ∈ H, x < 4294967296) (c0 : Nat) (hc0 : A0 = none → c0 = 0) (a : Addr) (b : List UInt8) (c : Nat) (hb : b.length = 64) (w : World) (hA0 : LAt w w.heap.size A0 wv H) (hA : LAt w w.heap.size (some a) bv b) :
    Calls Tryz.prog 59 #[.slice A0 8 c0, .slice (some a) 64 c] w fun e w' => (∃ g cap, e = .returned (.slice (some ⟨g, 0, none⟩) 8 cap) ∧ WordL w' w.heap.size (.slice (some ⟨g, 0, none⟩) 8 cap) (addB H b)) ∧ Below w.heap.size w w' := by
  have H8 := Lib.hid h8
  have HLT := Lib.hid hlt
  have HA0 := Lib.hid hA0
  clear h8 hlt hA0
  go_enter Tryz.func59, Tryz.ntmps59
  go_wp2_with fail
  go_loopw [5, 6] (fun v5 i wr => ∃ k : Nat, k ≤ 16 ∧ i = .int .i64 k ∧ WordL wr w.heap.size v5 (sched b k) ∧ Below w.heap.size w wr) (fun _ i _ => 16 - (intOf i).toNat)
  case atStart => exact ⟨0, by omega, rfl, OL.nil, Below.refl _ _⟩
  case round =>
    obtain ⟨k, hk, rfl, h5, hW⟩ := hrel
    have HW := Lib.hid hW
    have hbs := hW.size
    clear hW
    by_cases hlt : k < 16
    · -- {{
      have hA' := hA.below HW.out
      obtain ⟨q0, hq0⟩ : ∃ q, 4 * k = q := ⟨_, rfl⟩
      obtain ⟨q1, hq1⟩ : ∃ q, 4 * k + 1 = q := ⟨_, rfl⟩
      obtain ⟨q2, hq2⟩ : ∃ q, 4 * k + 2 = q := ⟨_, rfl⟩
      obtain ⟨q3, hq3⟩ : ∃ q, 4 * k + 3 = q := ⟨_, rfl⟩
      obtain ⟨a0, e0, hab, h0⟩ := hA'.get (i := q0) (by omega)
      obtain ⟨a1, e1, _, h1⟩ := hA'.get (i := q1) (by omega)
      obtain ⟨a2, e2, _, h2⟩ := hA'.get (i := q2) (by omega)
      obtain ⟨a3, e3, _, h3⟩ := hA'.get (i := q3) (by omega)
      cases e0; cases e1; cases e2; cases e3
      unfold bv at h0 h1 h2 h3
      have g0 : IntKind.i64.wrap (4 * (k : Int)) = (q0 : Int) := by rw [IntKind.wrap_i64]; omega
      have g1 : IntKind.i64.wrap ((q0 : Int) + 1) = (q1 : Int) := by rw [IntKind.wrap_i64]; omega
      have g2 : IntKind.i64.wrap ((q0 : Int) + 2) = (q2 : Int) := by rw [IntKind.wrap_i64]; omega
      have g3 : IntKind.i64.wrap ((q0 : Int) + 3) = (q3 : Int) := by rw [IntKind.wrap_i64]; omega
      have b0 : (0 : Int) ≤ (q0 : Int) := by omega
      have b1 : (q0 : Int) < 64 := by omega
      have b2 : (q1 : Int) < 64 := by omega
      have b3 : (q2 : Int) < 64 := by omega
      have b4 : (q3 : Int) < 64 := by omega
      have b5 : (0 : Int) ≤ (q1 : Int) := by omega
      have b6 : (0 : Int) ≤ (q2 : Int) := by omega
      have b7 : (0 : Int) ≤ (q3 : Int) := by omega
      have b8 : (0 : Int) ≤ (k : Int) := by omega
      have hbe : be32 b k = b[q0].toNat * 16777216 ||| b[q1].toNat * 65536 ||| b[q2].toNat * 256 ||| b[q3].toNat := by
        have e : ∀ i (h : i < b.length), b.getD i 0 = b[i] := fun i h => by rw [List.getD_eq_getElem?_getD, List.getElem?_eq_getElem h]; rfl
        unfold be32
        rw [hq1, hq2, hq3, hq0, e q0 (by omega), e q1 (by omega), e q2 (by omega), e q3 (by omega)]
      obtain ⟨x0, hx0⟩ : ∃ x, b[q0].toNat = x := ⟨_, rfl⟩
      obtain ⟨x1, hx1⟩ : ∃ x, b[q1].toNat = x := ⟨_, rfl⟩
      obtain ⟨x2, hx2⟩ : ∃ x, b[q2].toNat = x := ⟨_, rfl⟩
      obtain ⟨x3, hx3⟩ : ∃ x, b[q3].toNat = x := ⟨_, rfl⟩
      have y0 : x0 < 256 := hx0 ▸ UInt8.toNat_lt _
      have y1 : x1 < 256 := hx1 ▸ UInt8.toNat_lt _
      have y2 : x2 < 256 := hx2 ▸ UInt8.toNat_lt _
      have y3 : x3 < 256 := hx3 ▸ UInt8.toNat_lt _
      rw [hx0] at h0 hbe
      rw [hx1] at h1 hbe
      rw [hx2] at h2 hbe
      rw [hx3] at h3 hbe
      have hsl := sched_length b k
      have t0 : IntKind.u32.wrap (x0 : Int) = (x0 : Int) := by rw [IntKind.wrap_u32]; omega
      have t1 : IntKind.u32.wrap (x1 : Int) = (x1 : Int) := by rw [IntKind.wrap_u32]; omega
      have t2 : IntKind.u32.wrap (x2 : Int) = (x2 : Int) := by rw [IntKind.wrap_u32]; omega
      have t3 : IntKind.u32.wrap (x3 : Int) = (x3 : Int) := by rw [IntKind.wrap_u32]; omega
      obtain ⟨z0, hz0⟩ : ∃ z, x0 * 16777216 = z := ⟨_, rfl⟩
      obtain ⟨z1, hz1⟩ : ∃ z, x1 * 65536 = z := ⟨_, rfl⟩
      obtain ⟨z2, hz2⟩ : ∃ z, x2 * 256 = z := ⟨_, rfl⟩
      have p0 : IntKind.u32.wrap ((x0 : Int) * 16777216) = (z0 : Int) := by rw [IntKind.wrap_u32]; omega
      have p1 : IntKind.u32.wrap ((x1 : Int) * 65536) = (z1 : Int) := by rw [IntKind.wrap_u32]; omega
      have p2 : IntKind.u32.wrap ((x2 : Int) * 256) = (z2 : Int) := by rw [IntKind.wrap_u32]; omega
      rw [hz0, hz1, hz2] at hbe
      have z0l : z0 < 4294967296 := by omega
      have z1l : z1 < 4294967296 := by omega
      have z2l : z2 < 4294967296 := by omega
      have r1 := u32_or_nat z0 z1 z0l z1l
      have r1l := Nat.or_lt_two_pow (n := 32) z0l z1l
      have r2 := u32_or_nat (z0 ||| z1) z2 r1l z2l
      have r2l := Nat.or_lt_two_pow (n := 32) r1l z2l
      have r3 := u32_or_nat (z0 ||| z1 ||| z2) x3 r2l (by omega)
      rw [← hbe] at r3
      obtain ⟨o2, ho2⟩ : ∃ o, z0 ||| z1 ||| z2 = o := ⟨_, rfl⟩
      rw [ho2] at r2 r3
      obtain ⟨o1, ho1⟩ : ∃ o, z0 ||| z1 = o := ⟨_, rfl⟩
      rw [ho1] at r1 r2
      obtain ⟨o3, ho3⟩ : ∃ o, be32 b k = o := ⟨_, rfl⟩
      rw [ho3] at r3 hbe
      have HE := Lib.hid ho3
      have HSL := Lib.hid hsl
      have HAA := Lib.hid hA
      have H5 := Lib.hid h5
      have HC := Lib.hid (show ∀ W, Below w.heap.size w W → Below w.heap.size w W ∧ W.cell? (a.add q0) = some (.int .u8 x0) ∧ W.cell? (a.add q1) = some (.int .u8 x1) ∧ W.cell? (a.add q2) = some (.int .u8 x2) ∧ W.cell? (a.add q3) = some (.int .u8 x3) from fun W hw => by
        have hh := hA.below hw
        have hc : ∀ q (hq : q < b.length) x, b[q].toNat = x → W.cell? (a.add q) = some (.int .u8 x) := fun q hq x hx => by
          obtain ⟨a', ha', -, hc⟩ := hh.get hq
          cases ha'; rw [hc, ← hx]; rfl
        exact ⟨hw, hc q0 (by omega) _ hx0, hc q1 (by omega) _ hx1, hc q2 (by omega) _ hx2, hc q3 (by omega) _ hx3⟩)
      clear hz0 hz1 hz2 z0l z1l z2l r1l r2l ho1 ho2 ho3 h0 h1 h2 h3
      clear hA hA' hsl hq0 hq1 hq2 hq3 hx0 hx1 hx2 hx3 hbe h5
      go_wp2_with fail
      go_region_held3 (fun w' => Below w.heap.size w w' ∧ w'.cell? (a.add q0) = some (.int .u8 x0) ∧ w'.cell? (a.add q1) = some (.int .u8 x1) ∧ w'.cell? (a.add q2) = some (.int .u8 x2) ∧ w'.cell? (a.add q3) = some (.int .u8 x3)) (first | exact HC.out _ HW.out.drew | exact HC.out _ (HW.out.alloc hbs _).drew | exact HC.out _ ((HW.out.alloc hbs _).drew.trans hb2) | fail)
        (first
          | (refine step_app (by rfl) (.tmp 23) (.tmp 57) 110 (by rfl) elemU32 _ (sched b k) k HSL.out (by rfl) ((OL.alloc H5.out _).drew) o3 wr.heap.size #[.int .u32 o3] (by rfl) ?_ (by rfl) (by rfl) (by simp [one, wv, Value.oneCell']) (by rw [HSL.out]; unfold maxLen; omega) (by rw [HSL.out]; omega) (by simp; omega) ?_; (· exact World.alloc_heap_new wr _); intro g5 c5 w2 h5 hg5 hg5' hg5l hb2)
          | fail)
      have h5w : WordL w2 w.heap.size (.slice (some ⟨g5, 0, none⟩) (k + 1) c5) (sched b (k + 1)) := by
        rw [show sched b (k + 1) = sched b k ++ [o3] by rw [← HE.out]; show extW b (sched b k) = _; unfold extW; rw [sched_length, if_pos hlt]]
        exact h5
      have H6 := Lib.hid h5w
      have HB6 := Lib.hid ((HW.out.alloc hbs (.cells #[.int .u32 o3] 109)).drew.trans hb2)
      clear h5 h5w hg5 hg5' hg5l hb2
      go_wp2_with fail
      exact ⟨⟨k + 1, by omega, rfl, H6.out, HB6.out⟩, by simp [intOf]; omega⟩
      -- }}
    · obtain rfl : k = 16 := by omega
      have hsl := sched_length b 16
      obtain ⟨g1, cap1, rfl, -⟩ := h5.form (by rw [hsl]; decide)
      rw [hsl] at h5 ⊢
      have H5 := Lib.hid h5
      clear hlt hsl h5
      go_wp2_with fail
      obtain ⟨wq, rfl⟩ : ∃ wq : World, wq = wr := ⟨_, rfl⟩
      simp only [Int.cast_ofNat_Int]
      go_loopw [5, 7, 8, 9] (fun v5 i _ _ wr => ∃ k g cap : Nat, 16 ≤ k ∧ k ≤ 64 ∧ i = .int .i64 k ∧ v5 = .slice (some ⟨g, 0, none⟩) k cap ∧ WordL wr w.heap.size (.slice (some ⟨g, 0, none⟩) k cap) (sched b k) ∧ Below w.heap.size w wr) (fun _ i _ _ _ => 64 - (intOf i).toNat)
      case atStart => exact ⟨16, g1, cap1, by omega, by omega, rfl, rfl, H5.out, HW.out⟩
      case round =>
        obtain ⟨k, g, cap, hk0, hk, rfl, rfl, hr, hW⟩ := hrel
        clear H5 HW hbs
        have HW := Lib.hid hW
        have hbs := hW.size
        clear hW
        by_cases hlt : k < 64
        · -- {{
          have hsl := sched_length b k
          have hcell : ∀ i (h : i < (sched b k).length), ∀ n, World.cell? (wr.drewN n) ⟨g, i, none⟩ = some (.int .u32 ((sched b k)[i] : Nat)) := fun i h n => WordL.cell (OL.drewN hr n) h rfl
          obtain ⟨q16, hq16⟩ : ∃ q, k - 16 = q := ⟨_, rfl⟩
          obtain ⟨q15, hq15⟩ : ∃ q, k - 15 = q := ⟨_, rfl⟩
          obtain ⟨q7, hq7⟩ : ∃ q, k - 7 = q := ⟨_, rfl⟩
          obtain ⟨q2, hq2⟩ : ∃ q, k - 2 = q := ⟨_, rfl⟩
          have c16 := hcell q16 (by omega)
          have c15 := hcell q15 (by omega) 0
          have c7 := hcell q7 (by omega)
          have c2 := hcell q2 (by omega)
          have l16 := sched_lt b k _ (List.getElem_mem (h := show q16 < (sched b k).length by omega))
          have l15 := sched_lt b k _ (List.getElem_mem (h := show q15 < (sched b k).length by omega))
          have l7 := sched_lt b k _ (List.getElem_mem (h := show q7 < (sched b k).length by omega))
          have l2 := sched_lt b k _ (List.getElem_mem (h := show q2 < (sched b k).length by omega))
          have hnx : nextW (sched b k) k = ((((sched b k)[q16] + (rotr 7 (sched b k)[q15] ^^^ rotr 18 (sched b k)[q15] ^^^ (sched b k)[q15] / 8)) % 4294967296 + (sched b k)[q7]) % 4294967296 + (rotr 17 (sched b k)[q2] ^^^ rotr 19 (sched b k)[q2] ^^^ (sched b k)[q2] / 1024)) % 4294967296 := by
            have e : ∀ i (h : i < (sched b k).length), (sched b k).getD i 0 = (sched b k)[i] := fun i h => by rw [List.getD_eq_getElem?_getD, List.getElem?_eq_getElem h]; rfl
            unfold nextW mix2
            rw [hq16, hq15, hq7, hq2, e q16 (by omega), e q15 (by omega), e q7 (by omega), e q2 (by omega), Nat.zero_xor, Nat.zero_xor]
          obtain ⟨x16, hx16⟩ : ∃ x, (sched b k)[q16] = x := ⟨_, rfl⟩
          obtain ⟨x15, hx15⟩ : ∃ x, (sched b k)[q15] = x := ⟨_, rfl⟩
          obtain ⟨x7, hx7⟩ : ∃ x, (sched b k)[q7] = x := ⟨_, rfl⟩
          obtain ⟨x2, hx2⟩ : ∃ x, (sched b k)[q2] = x := ⟨_, rfl⟩
          rw [hx16] at c16 l16
          rw [hx15] at c15 l15
          rw [hx7] at c7 l7
          rw [hx2] at c2 l2
          rw [hx16, hx15, hx7, hx2] at hnx
          have c15 : wr.cell? ⟨g, q15, none⟩ = some (.int .u32 x15) := c15
          have j1 := rotr_lt (n := 7) l15
          have j2 := rotr_lt (n := 18) l15
          have j3 := rotr_lt (n := 17) l2
          have j4 := rotr_lt (n := 19) l2
          obtain ⟨r1, hr1⟩ : ∃ x, rotr 7 x15 = x := ⟨_, rfl⟩
          obtain ⟨r2, hr2⟩ : ∃ x, rotr 18 x15 = x := ⟨_, rfl⟩
          obtain ⟨r3, hr3⟩ : ∃ x, rotr 17 x2 = x := ⟨_, rfl⟩
          obtain ⟨r4, hr4⟩ : ∃ x, rotr 19 x2 = x := ⟨_, rfl⟩
          rw [hr1] at j1
          rw [hr2] at j2
          rw [hr3] at j3
          rw [hr4] at j4
          have HR1 := Lib.hid (fun W => rotated_lit x15 7 r1 7 rfl hr1 l15 (by decide) (by decide) W)
          have HR2 := Lib.hid (fun W => rotated_lit x15 18 r2 18 rfl hr2 l15 (by decide) (by decide) W)
          have HR3 := Lib.hid (fun W => rotated_lit x2 17 r3 17 rfl hr3 l2 (by decide) (by decide) W)
          have HR4 := Lib.hid (fun W => rotated_lit x2 19 r4 19 rfl hr4 l2 (by decide) (by decide) W)
          rw [hr1, hr2, hr3, hr4] at hnx
          obtain ⟨d1, hd1⟩ : ∃ x, x15 / 8 = x := ⟨_, rfl⟩
          obtain ⟨d2, hd2⟩ : ∃ x, x2 / 1024 = x := ⟨_, rfl⟩
          rw [hd1, hd2] at hnx
          have f1 : (x15 : Int) / 8 = (d1 : Int) := by omega
          have f2 : (x2 : Int) / 1024 = (d2 : Int) := by omega
          have u1 := u32_xor_nat r1 r2 j1 j2
          have u2 := u32_xor_nat r3 r4 j3 j4
          have m1l := Nat.xor_lt_two_pow (n := 32) j1 j2
          have m2l := Nat.xor_lt_two_pow (n := 32) j3 j4
          obtain ⟨m1, hm1⟩ : ∃ x, r1 ^^^ r2 = x := ⟨_, rfl⟩
          obtain ⟨m2, hm2⟩ : ∃ x, r3 ^^^ r4 = x := ⟨_, rfl⟩
          rw [hm1] at m1l u1 hnx
          rw [hm2] at m2l u2 hnx
          have g1 := u32_xor_nat m1 d1 m1l (by omega)
          have g2 := u32_xor_nat m2 d2 m2l (by omega)
          have g1l := Nat.xor_lt_two_pow (n := 32) m1l (show d1 < 2 ^ 32 by omega)
          have g2l := Nat.xor_lt_two_pow (n := 32) m2l (show d2 < 2 ^ 32 by omega)
          obtain ⟨s1, hs1⟩ : ∃ x, m1 ^^^ d1 = x := ⟨_, rfl⟩
          obtain ⟨s2, hs2⟩ : ∃ x, m2 ^^^ d2 = x := ⟨_, rfl⟩
          rw [hs1] at g1 g1l
          rw [hs2] at g2 g2l
          rw [hs1, hs2] at hnx
          obtain ⟨t1, ht1⟩ : ∃ x, (x16 + s1) % 4294967296 = x := ⟨_, rfl⟩
          rw [ht1] at hnx
          obtain ⟨t2, ht2⟩ : ∃ x, (t1 + x7) % 4294967296 = x := ⟨_, rfl⟩
          rw [ht2] at hnx
          obtain ⟨t3, ht3⟩ : ∃ x, (t2 + s2) % 4294967296 = x := ⟨_, rfl⟩
          rw [ht3] at hnx
          have a1 : IntKind.u32.wrap ((x16 : Int) + (s1 : Int)) = (t1 : Int) := by rw [IntKind.wrap_u32]; omega
          have a2 : IntKind.u32.wrap ((t1 : Int) + (x7 : Int)) = (t2 : Int) := by rw [IntKind.wrap_u32]; omega
          have a3 : IntKind.u32.wrap ((t2 : Int) + (s2 : Int)) = (t3 : Int) := by rw [IntKind.wrap_u32]; omega
          have w16 : IntKind.i64.wrap ((k : Int) - 16) = (q16 : Int) := by rw [IntKind.wrap_i64]; omega
          have w15 : IntKind.i64.wrap ((k : Int) - 15) = (q15 : Int) := by rw [IntKind.wrap_i64]; omega
          have w7 : IntKind.i64.wrap ((k : Int) - 7) = (q7 : Int) := by rw [IntKind.wrap_i64]; omega
          have w2 : IntKind.i64.wrap ((k : Int) - 2) = (q2 : Int) := by rw [IntKind.wrap_i64]; omega
          have b1 : (0 : Int) ≤ (q16 : Int) := by omega
          have b2 : (0 : Int) ≤ (q15 : Int) := by omega
          have b3 : (0 : Int) ≤ (q7 : Int) := by omega
          have b4 : (0 : Int) ≤ (q2 : Int) := by omega
          have b5 : (q16 : Int) < (k : Int) := by omega
          have b6 : (q15 : Int) < (k : Int) := by omega
          have b7 : (q7 : Int) < (k : Int) := by omega
          have b8 : (q2 : Int) < (k : Int) := by omega
          have HN := Lib.hid hnx
          have HSL := Lib.hid hsl
          have HRR := Lib.hid hr
          have HC := Lib.hid (And.intro c16 (And.intro c7 c2))
          clear hnx hm1 hm2 hcell hq16 hq15 hq7 hq2 hx16 hx15 hx7 hx2 hd1 hd2 hs1 hs2 ht1 ht2 ht3 m1l m2l g1l g2l hsl hA hr hr1 hr2 hr3 hr4 j1 j2 j3 j4 c16 c7 c2
          go_wp2_with fail
          go_quiet ((first | (go_at_call 87; (with_reducible refine Calls.quiet_of (HR1.out _))) | (go_at_call 87; (with_reducible refine Calls.quiet_of (HR2.out _)))))
          go_wp2_with fail
          have c2 : (wr.drewN nq).cell? ⟨g, q2, none⟩ = some (.int .u32 x2) := HC.out.2.2 nq
          have HC2 := Lib.hid (show ∀ n, ((wr.drewN nq).drewN n).cell? ⟨g, q16, none⟩ = some (.int .u32 x16) ∧ ((wr.drewN nq).drewN n).cell? ⟨g, q7, none⟩ = some (.int .u32 x7) from fun n => ⟨HC.out.1 nq, HC.out.2.1 nq⟩)
          have HR5 := Lib.hid (OL.drewN HRR.out nq)
          have HW5 := Lib.hid (Below.drewN' HW.out nq)
          have hbs5 : w.heap.size ≤ (wr.drewN nq).heap.size := hbs
          clear c15 HC HRR HW hbs
          generalize wr.drewN nq = wz at HR5 HW5 hbs5 c2 HC2 ⊢
          go_quiet ((first | (go_at_call 87; (with_reducible refine Calls.quiet_of (HR3.out _))) | (go_at_call 87; (with_reducible refine Calls.quiet_of (HR4.out _)))))
          go_wp2_with fail
          clear c2
          obtain ⟨c16, c7⟩ := HC2.out nq
          have HR6 := Lib.hid (OL.drewN HR5.out nq)
          have HW6 := Lib.hid (Below.drewN' HW5.out nq)
          have hbs6 : w.heap.size ≤ (wz.drewN nq).heap.size := hbs5
          clear HC2 HR5 HW5 hbs5
          generalize wz.drewN nq = wy at HR6 HW6 hbs6 c16 c7 ⊢
          have n16 : q16 < k := by omega
          have n7 : q7 < k := by omega
          have HC3 := Lib.hid (And.intro c16 c7)
          have HC4 := Lib.hid (show ∀ o, ((wy.alloc o).drew).cell? ⟨g, q16, none⟩ = some (.int .u32 x16) ∧ ((wy.alloc o).drew).cell? ⟨g, q7, none⟩ = some (.int .u32 x7) from fun o => ⟨(World.cell?_alloc_lt wy o ⟨g, q16, none⟩ (cell_lt c16)).trans c16, (World.cell?_alloc_lt wy o ⟨g, q7, none⟩ (cell_lt c7)).trans c7⟩)
          clear c16 c7
          go_region_held3 (fun w' => w'.cell? ⟨g, q16, none⟩ = some (.int .u32 x16) ∧ w'.cell? ⟨g, q7, none⟩ = some (.int .u32 x7)) (first | exact HC3.out | exact HC4.out _ | exact ⟨(hk5 q16 n16).trans (HC4.out _).1, (hk5 q7 n7).trans (HC4.out _).2⟩ | fail)
            (first
              | (refine step_app_keep (by rfl) (.tmp 103) (.tmp 119) (t := 110) (by rfl) elemU32 g k cap HSL.out (by omega) (by rfl) ((OL.alloc HR6.out _).drew) t3 wy.heap.size (by rfl) ?_ (by rfl) (by unfold maxLen; omega) (by omega) (by simp; omega) ?_; (· exact World.alloc_heap_new wy _); intro g5 c5 w2 h5 hk5 hg5 hg5l hb2)
              | fail)
          have h5w : WordL w2 w.heap.size (.slice (some ⟨g5, 0, none⟩) (k + 1) c5) (sched b (k + 1)) := by
            rw [show sched b (k + 1) = sched b k ++ [t3] by rw [← HN.out]; show extW b (sched b k) = _; unfold extW; rw [sched_length, if_neg (by omega)]]
            exact h5
          have H7 := Lib.hid h5w
          have HB7 := Lib.hid ((HW6.out.alloc hbs6 (.cells #[.int .u32 t3] 109)).drew.trans hb2)
          clear h5 h5w hg5 hg5l hb2 hk5
          go_wp2_with fail
          exact ⟨⟨k + 1, g5, c5, by omega, by omega, rfl, rfl, H7.out, HB7.out⟩, by simp [intOf]; omega⟩
          -- }}
        · obtain rfl : k = 64 := by omega
          have hwl := sched_length b 64
          have hwlt := sched_lt b 64
          obtain ⟨ws, hws⟩ : ∃ ws, sched b 64 = ws := ⟨_, rfl⟩
          rw [hws] at hr hwl hwlt
          have HWS := Lib.hid hws
          have HWR := Lib.hid hr
          have HWL := Lib.hid hwl
          have HWLT := Lib.hid hwlt
          clear hws hr hwl hwlt hlt hA
          go_wp2_with fail
          refine (constants_walk wr).mono ?_
          rintro e w2 ⟨rfl, hk2, hb2⟩
          have hz2 := hb2.size
          have hb02 := HW.out.trans (hb2.mono hbs)
          have HA2 := Lib.hid (HA0.out.below hb02)
          have HWR2 := Lib.hid (OL.below HWR.out hb2 (Nat.le_refl _))
          have HK2 := Lib.hid hk2
          have HB2 := Lib.hid hb02
          have hzk := hk2.lt
          clear hk2 hb2 hb02
          go_wp2_with (at_builtin; refine wpList_cat rfl (.tmp 122) (.tmp 123) 110 rfl elemU32 (fun _ => rfl) _ ([] : List Nat) rfl (OL.nil (w := w2) (B := w.heap.size)) A0 H 8 c0 H8.out rfl hc0 HA2.out.cat (fun x _ u hu => by rw [List.mem_singleton.1 hu]; rfl) (by unfold maxLen; simp) (by simp) (by omega) ?_; intro v3 w3 h3 hg3 hb3)
          obtain ⟨gv0, cv0, rfl, -, -, -, -⟩ := h3.form (by simp [H8.out])
          replace hg3 : w2.grownBy w3 none := hg3
          have hl3 : ([] ++ H).length = 8 := by rw [List.nil_append, H8.out]
          rw [hl3] at h3 ⊢
          rw [List.nil_append] at h3
          have hV3 := h3.lat
          have hWS3 := (OL.grown HWR2.out hg3 (fun g _ h => by cases h)).lat
          have hKS3 : LAt w3 w3.heap.size (some ⟨wr.heap.size, 0, none⟩) wv shaK := by
            have hz3 := hg3.size
            have := (HK2.out.sl (B := w3.heap.size) (by omega))
            exact fun i x hx => by
              obtain ⟨a', ha', hl', hc'⟩ := this i x hx
              refine ⟨a', ha', hl', ?_⟩
              cases ha'
              exact (World.cell?_of_block (hg3.block _ (by rw [addr_add_block]; exact hzk) (by simp))).trans hc'
          have HB3 := Lib.hid (HB2.out.trans hb3)
          have hbs3 := HB3.out.size
          have HV3 := Lib.hid hV3
          have HWS3 := Lib.hid hWS3
          have HKS3 := Lib.hid hKS3
          clear h3 hl3 hg3 hb3 hV3 hWS3 hKS3 HWR2 HWR HK2 HB2 HA2 hzk
          obtain ⟨gk, hgk⟩ : ∃ gk, wr.heap.size = gk := ⟨_, rfl⟩
          rw [hgk] at HKS3 ⊢
          clear hgk
          go_wp2_with fail
          obtain ⟨wq2, rfl⟩ : ∃ wq2 : World, wq2 = wr := ⟨_, rfl⟩
          go_loopw [11, 12, 13, 14, 15, 16] (fun v11 i _ _ _ _ wr => ∃ j gv cv : Nat, j ≤ 64 ∧ i = .int .i64 j ∧ v11 = .slice (some ⟨gv, 0, none⟩) 8 cv ∧ LAt wr wr.heap.size (some ⟨gv, 0, none⟩) wv (rounds ws H j) ∧ Below w3.heap.size w3 wr) (fun _ i _ _ _ _ _ => 64 - (intOf i).toNat)
          case atStart => exact ⟨0, gv0, cv0, by omega, rfl, rfl, HV3.out, Below.refl _ _⟩
          case round =>
            obtain ⟨j, gv, cv, hj, rfl, rfl, hV, hB⟩ := hrel
            clear HV3 hz2 hbs
            have HB := Lib.hid hB
            have hbs := hB.size
            have hwsW := HWS3.out.below hB
            have hksW := HKS3.out.below hB
            clear hB
            by_cases hlt : j < 64
            · -- {{
              obtain ⟨x0, x1, x2, x3, x4, x5, x6, x7, hv⟩ := eight (rounds_length (ws := ws) H8.out j)
              have hvl := rounds_lt (ws := ws) HLT.out j
              rw [hv] at hvl hV
              have l0 := hvl x0 (by simp)
              have l1 := hvl x1 (by simp)
              have l2 := hvl x2 (by simp)
              have l3 := hvl x3 (by simp)
              have l4 := hvl x4 (by simp)
              have l5 := hvl x5 (by simp)
              have l6 := hvl x6 (by simp)
              have l7 := hvl x7 (by simp)
              have hcv : ∀ (i x : Nat), ([x0, x1, x2, x3, x4, x5, x6, x7] : List Nat)[i]? = some x → wr.cell? ⟨gv, i, none⟩ = some (.int .u32 x) := fun i x hx => by
                obtain ⟨a', ha', -, hc⟩ := hV i x hx
                cases ha'
                rw [show (⟨gv, 0, none⟩ : Addr).add i = ⟨gv, i, none⟩ by simp [Addr.add]; omega] at hc
                exact hc
              have c0' := hcv 0 x0 rfl
              have c1' := hcv 1 x1 rfl
              have c2' := hcv 2 x2 rfl
              have c3' := hcv 3 x3 rfl
              have c4' := hcv 4 x4 rfl
              have c5' := hcv 5 x5 rfl
              have c6' := hcv 6 x6 rfl
              have c7' := hcv 7 x7 rfl
              have hgv : gv < wr.heap.size := cell_lt c0'
              have b0 : (0 : Int) ≤ (j : Int) := by omega
              have b1 : (j : Int) < 64 := by omega
              have cw : wr.cell? ⟨g, j, none⟩ = some (.int .u32 ((ws[j]'(by have := HWL.out; omega) : Nat) : Int)) := by
                obtain ⟨a', ha', -, hc⟩ := hwsW.get (i := j) (by have := HWL.out; omega)
                cases ha'
                rw [show (⟨g, 0, none⟩ : Addr).add j = ⟨g, j, none⟩ by simp [Addr.add]; omega] at hc
                exact hc
              have lw := HWLT.out _ (List.getElem_mem (h := show j < ws.length by have := HWL.out; omega))
              have hwj : ws.getD j 0 = ws[j]'(by have := HWL.out; omega) := by rw [List.getD_eq_getElem?_getD, List.getElem?_eq_getElem (by have := HWL.out; omega)]; rfl
              obtain ⟨wj, hwj2⟩ : ∃ wj, ws[j]'(by have := HWL.out; omega) = wj := ⟨_, rfl⟩
              rw [hwj2] at cw lw hwj
              obtain ⟨kj, hkj⟩ : ∃ kj, shaK.getD j 0 = kj := ⟨_, rfl⟩
              have lk : kj < 4294967296 := by rw [← hkj]; exact (show ∀ j, j < 64 → shaK.getD j 0 < 4294967296 by decide) j hlt
              have ck : wr.cell? ⟨gk, j, none⟩ = some (.int .u32 kj) := by
                obtain ⟨a', ha', -, hc⟩ := hksW j kj (by rw [← hkj, List.getD_eq_getElem?_getD, List.getElem?_eq_getElem (show j < shaK.length from hlt)]; rfl)
                cases ha'
                rw [show (⟨gk, 0, none⟩ : Addr).add j = ⟨gk, j, none⟩ by simp [Addr.add]; omega] at hc
                exact hc
              have j1 := rotr_lt (n := 6) l4
              have j2 := rotr_lt (n := 11) l4
              have j3 := rotr_lt (n := 25) l4
              obtain ⟨r1, hr1⟩ : ∃ x, rotr 6 x4 = x := ⟨_, rfl⟩
              obtain ⟨r2, hr2⟩ : ∃ x, rotr 11 x4 = x := ⟨_, rfl⟩
              obtain ⟨r3, hr3⟩ : ∃ x, rotr 25 x4 = x := ⟨_, rfl⟩
              rw [hr1] at j1
              rw [hr2] at j2
              rw [hr3] at j3
              have HR1 := Lib.hid (fun W => rotated_lit x4 6 r1 6 rfl hr1 l4 (by decide) (by decide) W)
              have HR2 := Lib.hid (fun W => rotated_lit x4 11 r2 11 rfl hr2 l4 (by decide) (by decide) W)
              have HR3 := Lib.hid (fun W => rotated_lit x4 25 r3 25 rfl hr3 l4 (by decide) (by decide) W)
              have u1 := u32_xor_nat r1 r2 j1 j2
              have m0l := Nat.xor_lt_two_pow (n := 32) j1 j2
              obtain ⟨m0, hm0⟩ : ∃ x, r1 ^^^ r2 = x := ⟨_, rfl⟩
              rw [hm0] at u1 m0l
              have u2 := u32_xor_nat m0 r3 m0l j3
              have ml := Nat.xor_lt_two_pow (n := 32) m0l j3
              obtain ⟨m, hm'⟩ : ∃ x, m0 ^^^ r3 = x := ⟨_, rfl⟩
              rw [hm'] at u2 ml
              have hm : mix3 6 11 25 x4 = m := by unfold mix3; rw [Nat.zero_xor, hr1, hr2, hr3, hm0, hm']
              obtain ⟨s1, hs1⟩ : ∃ x, (x7 + m) % 4294967296 = x := ⟨_, rfl⟩
              have f1 : IntKind.u32.wrap ((x7 : Int) + (m : Int)) = (s1 : Int) := by rw [IntKind.wrap_u32]; omega
              have f2 := u32_and_nat x4 x5 l4 l5
              have n1l : x4 &&& x5 < 4294967296 := Nat.lt_of_le_of_lt Nat.and_le_left l4
              obtain ⟨n1', hn1⟩ : ∃ x, x4 &&& x5 = x := ⟨_, rfl⟩
              rw [hn1] at f2 n1l
              have f3 : bits .xor .u32 (if IntKind.u32.signed = true then -1 else IntKind.u32.max) (x4 : Int) = ((4294967295 - x4 : Nat) : Int) := u32_not x4 l4
              obtain ⟨cm, hcm⟩ : ∃ x, 4294967295 - x4 = x := ⟨_, rfl⟩
              rw [hcm] at f3
              have f4 := u32_and_nat cm x6 (by omega) l6
              have n2l : cm &&& x6 < 4294967296 := Nat.lt_of_le_of_lt Nat.and_le_right l6
              obtain ⟨n2', hn2⟩ : ∃ x, cm &&& x6 = x := ⟨_, rfl⟩
              rw [hn2] at f4 n2l
              have f5 := u32_xor_nat n1' n2' n1l n2l
              have n3l := Nat.xor_lt_two_pow (n := 32) n1l n2l
              obtain ⟨n3, hn3⟩ : ∃ x, n1' ^^^ n2' = x := ⟨_, rfl⟩
              rw [hn3] at f5 n3l
              obtain ⟨s2, hs2⟩ : ∃ x, (s1 + n3) % 4294967296 = x := ⟨_, rfl⟩
              have f6 : IntKind.u32.wrap ((s1 : Int) + (n3 : Int)) = (s2 : Int) := by rw [IntKind.wrap_u32]; omega
              obtain ⟨s3, hs3⟩ : ∃ x, (s2 + kj) % 4294967296 = x := ⟨_, rfl⟩
              have f7 : IntKind.u32.wrap ((s2 : Int) + (kj : Int)) = (s3 : Int) := by rw [IntKind.wrap_u32]; omega
              obtain ⟨t, ht⟩ : ∃ x, (s3 + wj) % 4294967296 = x := ⟨_, rfl⟩
              have f8 : IntKind.u32.wrap ((s3 : Int) + (wj : Int)) = (t : Int) := by rw [IntKind.wrap_u32]; omega
              have hT : roundT [x0, x1, x2, x3, x4, x5, x6, x7] kj wj = t := by
                show ((((x7 + mix3 6 11 25 x4) % 4294967296 + ((x4 &&& x5) ^^^ ((4294967295 - x4) &&& x6))) % 4294967296 + kj) % 4294967296 + wj) % 4294967296 = t
                rw [hm, hs1, hn1, hcm, hn2, hn3, hs2, hs3, ht]
              have HT := Lib.hid hT
              have tl : t < 4294967296 := by omega
              have HKJ := Lib.hid hkj
              have HWJ := Lib.hid hwj
              have HH := Lib.hid hv
              have HCC := Lib.hid (show ∀ n, (wr.drewN n).cell? ⟨gv, 1, none⟩ = some (.int .u32 x1) ∧ (wr.drewN n).cell? ⟨gv, 2, none⟩ = some (.int .u32 x2) ∧ (wr.drewN n).cell? ⟨gv, 3, none⟩ = some (.int .u32 x3) ∧ (wr.drewN n).cell? ⟨gv, 5, none⟩ = some (.int .u32 x5) ∧ (wr.drewN n).cell? ⟨gv, 6, none⟩ = some (.int .u32 x6) from fun n => ⟨c1', c2', c3', c5', c6'⟩)
              clear hT hm hm' hm0 hs1 hn1 hcm hn2 hn3 hs2 hs3 ht ml n1l n2l n3l hkj hwj hwj2 hvl hV hv hcv hwsW hksW hr1 hr2 hr3 j1 j2 j3 m0l lk lw c1' c2' c3'
              go_wp2_with fail
              go_quiet ((first | (go_at_call 87; (with_reducible refine Calls.quiet_of (HR1.out _))) | (go_at_call 87; (with_reducible refine Calls.quiet_of (HR2.out _))) | (go_at_call 87; (with_reducible refine Calls.quiet_of (HR3.out _)))))
              go_wp2_with fail
              obtain ⟨c1, c2, c3, c5, c6⟩ := HCC.out nq
              clear c0' c4' c5' c6' c7' cw ck HR1 HR2 HR3 u1 u2 f1 f2 f3 f4 f5 f6 f7 f8 HCC
              have HB := Lib.hid (Below.drewN' HB.out nq)
              have hbs : w3.heap.size ≤ (wr.drewN nq).heap.size := hbs
              have hgv : gv < (wr.drewN nq).heap.size := hgv
              generalize wr.drewN nq = wz at HB hbs hgv c1 c2 c3 c5 c6 ⊢
              have j1 := rotr_lt (n := 2) l0
              have j2 := rotr_lt (n := 13) l0
              have j3 := rotr_lt (n := 22) l0
              obtain ⟨r1, hr1⟩ : ∃ x, rotr 2 x0 = x := ⟨_, rfl⟩
              obtain ⟨r2, hr2⟩ : ∃ x, rotr 13 x0 = x := ⟨_, rfl⟩
              obtain ⟨r3, hr3⟩ : ∃ x, rotr 22 x0 = x := ⟨_, rfl⟩
              rw [hr1] at j1
              rw [hr2] at j2
              rw [hr3] at j3
              have HR1 := Lib.hid (fun W => rotated_lit x0 2 r1 2 rfl hr1 l0 (by decide) (by decide) W)
              have HR2 := Lib.hid (fun W => rotated_lit x0 13 r2 13 rfl hr2 l0 (by decide) (by decide) W)
              have HR3 := Lib.hid (fun W => rotated_lit x0 22 r3 22 rfl hr3 l0 (by decide) (by decide) W)
              have u1 := u32_xor_nat r1 r2 j1 j2
              have m0l := Nat.xor_lt_two_pow (n := 32) j1 j2
              obtain ⟨m0, hm0⟩ : ∃ x, r1 ^^^ r2 = x := ⟨_, rfl⟩
              rw [hm0] at u1 m0l
              have u2 := u32_xor_nat m0 r3 m0l j3
              have ml := Nat.xor_lt_two_pow (n := 32) m0l j3
              obtain ⟨m, hm'⟩ : ∃ x, m0 ^^^ r3 = x := ⟨_, rfl⟩
              rw [hm'] at u2 ml
              have hm : mix3 2 13 22 x0 = m := by unfold mix3; rw [Nat.zero_xor, hr1, hr2, hr3, hm0, hm']
              have f1 := u32_and_nat x0 x1 l0 l1
              have p1l : x0 &&& x1 < 4294967296 := Nat.lt_of_le_of_lt Nat.and_le_left l0
              obtain ⟨p1, hp1⟩ : ∃ x, x0 &&& x1 = x := ⟨_, rfl⟩
              rw [hp1] at f1 p1l
              have f2 := u32_and_nat x0 x2 l0 l2
              have p2l : x0 &&& x2 < 4294967296 := Nat.lt_of_le_of_lt Nat.and_le_left l0
              obtain ⟨p2, hp2⟩ : ∃ x, x0 &&& x2 = x := ⟨_, rfl⟩
              rw [hp2] at f2 p2l
              have f3 := u32_and_nat x1 x2 l1 l2
              have p3l : x1 &&& x2 < 4294967296 := Nat.lt_of_le_of_lt Nat.and_le_left l1
              obtain ⟨p3, hp3⟩ : ∃ x, x1 &&& x2 = x := ⟨_, rfl⟩
              rw [hp3] at f3 p3l
              have f4 := u32_xor_nat p1 p2 p1l p2l
              have q1l := Nat.xor_lt_two_pow (n := 32) p1l p2l
              obtain ⟨q1, hq1⟩ : ∃ x, p1 ^^^ p2 = x := ⟨_, rfl⟩
              rw [hq1] at f4 q1l
              have f5 := u32_xor_nat q1 p3 q1l p3l
              have q2l := Nat.xor_lt_two_pow (n := 32) q1l p3l
              obtain ⟨q2, hq2⟩ : ∃ x, q1 ^^^ p3 = x := ⟨_, rfl⟩
              rw [hq2] at f5 q2l
              obtain ⟨u, hu⟩ : ∃ x, (m + q2) % 4294967296 = x := ⟨_, rfl⟩
              have f6 : IntKind.u32.wrap ((m : Int) + (q2 : Int)) = (u : Int) := by rw [IntKind.wrap_u32]; omega
              have hU : roundU [x0, x1, x2, x3, x4, x5, x6, x7] = u := by
                show (mix3 2 13 22 x0 + ((x0 &&& x1) ^^^ (x0 &&& x2) ^^^ (x1 &&& x2))) % 4294967296 = u
                rw [hm, hp1, hp2, hp3, hq1, hq2, hu]
              have HU := Lib.hid hU
              have ul : u < 4294967296 := by omega
              have HCC := Lib.hid (show ∀ n, (wz.drewN n).cell? ⟨gv, 1, none⟩ = some (.int .u32 x1) ∧ (wz.drewN n).cell? ⟨gv, 2, none⟩ = some (.int .u32 x2) ∧ (wz.drewN n).cell? ⟨gv, 3, none⟩ = some (.int .u32 x3) ∧ (wz.drewN n).cell? ⟨gv, 5, none⟩ = some (.int .u32 x5) ∧ (wz.drewN n).cell? ⟨gv, 6, none⟩ = some (.int .u32 x6) from fun n => ⟨c1, c2, c3, c5, c6⟩)
              clear hU hm hm' hm0 hp1 hp2 hp3 hq1 hq2 hu ml p1l p2l p3l q1l q2l hr1 hr2 hr3 j1 j2 j3 m0l c3 c5 c6
              go_quiet ((first | (go_at_call 87; (with_reducible refine Calls.quiet_of (HR1.out _))) | (go_at_call 87; (with_reducible refine Calls.quiet_of (HR2.out _))) | (go_at_call 87; (with_reducible refine Calls.quiet_of (HR3.out _)))))
              go_wp2_with fail
              obtain ⟨c1', c2', c3', c5', c6'⟩ := HCC.out nq
              clear c1 c2 HR1 HR2 HR3 u1 u2 f1 f2 f3 f4 f5 f6 HCC
              have HB := Lib.hid (Below.drewN' HB.out nq)
              have hbs : w3.heap.size ≤ (wz.drewN nq).heap.size := hbs
              have hgv : gv < (wz.drewN nq).heap.size := hgv
              generalize wz.drewN nq = wx at HB hbs hgv c1' c2' c3' c5' c6' ⊢
              obtain ⟨n0, hn0⟩ : ∃ x, (t + u) % 4294967296 = x := ⟨_, rfl⟩
              obtain ⟨n4, hn4⟩ : ∃ x, (x3 + t) % 4294967296 = x := ⟨_, rfl⟩
              have a1 : IntKind.u32.wrap ((t : Int) + (u : Int)) = (n0 : Int) := by rw [IntKind.wrap_u32]; omega
              have a2 : IntKind.u32.wrap ((x3 : Int) + (t : Int)) = (n4 : Int) := by rw [IntKind.wrap_u32]; omega
              have hnew : rounds ws H (j + 1) = [n0, x0, x1, x2, n4, x4, x5, x6] := by
                show round (rounds ws H j) (shaK.getD j 0) (ws.getD j 0) = _
                rw [HH.out, HKJ.out, HWJ.out]
                unfold round
                rw [HT.out, HU.out, hn0]
                show [n0, x0, x1, x2, (x3 + t) % 4294967296, x4, x5, x6] = _
                rw [hn4]
              have HNEW := Lib.hid hnew
              have HC5 := Lib.hid (show ∀ o, ((wx.alloc o).drew).cell? ⟨gv, 1, none⟩ = some (.int .u32 x1) ∧ ((wx.alloc o).drew).cell? ⟨gv, 2, none⟩ = some (.int .u32 x2) ∧ ((wx.alloc o).drew).cell? ⟨gv, 3, none⟩ = some (.int .u32 x3) ∧ ((wx.alloc o).drew).cell? ⟨gv, 5, none⟩ = some (.int .u32 x5) ∧ ((wx.alloc o).drew).cell? ⟨gv, 6, none⟩ = some (.int .u32 x6) from fun o => ⟨(World.cell?_alloc_lt wx o ⟨gv, 1, none⟩ hgv).trans c1', (World.cell?_alloc_lt wx o ⟨gv, 2, none⟩ hgv).trans c2', (World.cell?_alloc_lt wx o ⟨gv, 3, none⟩ hgv).trans c3', (World.cell?_alloc_lt wx o ⟨gv, 5, none⟩ hgv).trans c5', (World.cell?_alloc_lt wx o ⟨gv, 6, none⟩ hgv).trans c6'⟩)
              have HC6 := Lib.hid (And.intro c1' (And.intro c2' (And.intro c3' (And.intro c5' c6'))))
              clear hnew hn0 hn4 c1' c2' c3' c5' c6'
              go_region_held3 (fun w' => w'.cell? ⟨gv, 1, none⟩ = some (.int .u32 x1) ∧ w'.cell? ⟨gv, 2, none⟩ = some (.int .u32 x2) ∧ w'.cell? ⟨gv, 3, none⟩ = some (.int .u32 x3) ∧ w'.cell? ⟨gv, 5, none⟩ = some (.int .u32 x5) ∧ w'.cell? ⟨gv, 6, none⟩ = some (.int .u32 x6)) (first | exact HC6.out | exact HC5.out _ | fail) (fail)
              have hV : LAt (wx.alloc (.cells #[.int .u32 n0, .int .u32 x0, .int .u32 x1, .int .u32 x2, .int .u32 n4, .int .u32 x4, .int .u32 x5, .int .u32 x6] 109)).drew (wx.alloc (.cells #[.int .u32 n0, .int .u32 x0, .int .u32 x1, .int .u32 x2, .int .u32 n4, .int .u32 x4, .int .u32 x5, .int .u32 x6] 109)).drew.heap.size (some ⟨wx.heap.size, 0, none⟩) wv (rounds ws H (j + 1)) := by
                rw [HNEW.out]
                exact fresh_lat wx [n0, x0, x1, x2, n4, x4, x5, x6] _ _ rfl
              have HV := Lib.hid hV
              have HB := Lib.hid (HB.out.alloc hbs (.cells #[.int .u32 n0, .int .u32 x0, .int .u32 x1, .int .u32 x2, .int .u32 n4, .int .u32 x4, .int .u32 x5, .int .u32 x6] 109)).drew
              clear hV a1 a2
              go_wp2_with fail
              exact ⟨⟨j + 1, wx.heap.size, 8, by omega, rfl, rfl, HV.out, HB.out⟩, by simp [intOf]; omega⟩
              -- }}
            · obtain rfl : j = 64 := by omega
              have hall : addB H b = List.zipWith (fun x y => (x + y) % 4294967296) H (rounds ws H 64) := by unfold addB; rw [HWS.out]
              have hrl := rounds_length (ws := ws) H8.out 64
              have hrlt := rounds_lt (ws := ws) HLT.out 64
              obtain ⟨V, hVV⟩ : ∃ V, rounds ws H 64 = V := ⟨_, rfl⟩
              rw [hVV] at hV hall hrl hrlt
              have HALL := Lib.hid hall
              have HRL := Lib.hid hrl
              have HRLT := Lib.hid hrlt
              have HVA := Lib.hid hV
              have hB0 : Below w.heap.size w wr := HB3.out.trans (HB.out.mono hbs3)
              have HB0 := Lib.hid hB0
              clear hall hrl hrlt hV hVV hB0 hwsW hksW hlt
              go_wp2_with fail
              obtain ⟨wq3, rfl⟩ : ∃ wq3 : World, wq3 = wr := ⟨_, rfl⟩
              simp only [Int.cast_ofNat_Int]
              go_loopw [17, 18] (fun v17 i wr' => ∃ j : Nat, j ≤ 8 ∧ i = .int .i64 j ∧ WordL wr' wq3.heap.size v17 ((List.zipWith (fun x y => (x + y) % 4294967296) H V).take j) ∧ Below wq3.heap.size wq3 wr') (fun _ i _ => 8 - (intOf i).toNat)
              case atStart => exact ⟨0, by omega, rfl, OL.nil, Below.refl _ _⟩
              case round =>
                obtain ⟨j, hj, rfl, h17, hB⟩ := hrel
                have HB := Lib.hid hB
                have hbs := hB.size
                have hH := HA0.out.below (HB0.out.trans (hB.mono HB0.out.size))
                have hVl := HVA.out.below hB
                clear hB
                by_cases hlt : j < 8
                · -- {{
                  obtain ⟨aH, rfl, -, cH⟩ := hH.get (i := j) (by rw [H8.out]; exact hlt)
                  obtain ⟨aV, eV, -, cV⟩ := hVl.get (i := j) (by rw [HRL.out]; exact hlt)
                  cases eV
                  rw [show (⟨gv, 0, none⟩ : Addr).add j = ⟨gv, j, none⟩ by simp [Addr.add]; omega] at cV
                  have lH := HLT.out _ (List.getElem_mem (h := show j < H.length by rw [H8.out]; exact hlt))
                  have lV := HRLT.out _ (List.getElem_mem (h := show j < V.length by rw [HRL.out]; exact hlt))
                  have hz : j < (List.zipWith (fun x y => (x + y) % 4294967296) H V).length := by rw [List.length_zipWith, H8.out, HRL.out]; exact hlt
                  have hzt := List.take_succ_eq_append_getElem hz
                  rw [List.getElem_zipWith] at hzt
                  have hzl : ((List.zipWith (fun x y => (x + y) % 4294967296) H V).take j).length = j := by rw [List.length_take]; omega
                  obtain ⟨xH, hxH⟩ : ∃ x, H[j]'(by rw [H8.out]; exact hlt) = x := ⟨_, rfl⟩
                  obtain ⟨xV, hxV⟩ : ∃ x, V[j]'(by rw [HRL.out]; exact hlt) = x := ⟨_, rfl⟩
                  rw [hxH] at cH lH hzt
                  rw [hxV] at cV lV hzt
                  unfold wv at cH cV
                  obtain ⟨n0, hn0⟩ : ∃ x, (xH + xV) % 4294967296 = x := ⟨_, rfl⟩
                  rw [hn0] at hzt
                  have a1 : IntKind.u32.wrap ((xH : Int) + (xV : Int)) = (n0 : Int) := by rw [IntKind.wrap_u32]; omega
                  have b0 : (0 : Int) ≤ (j : Int) := by omega
                  have b1 : (j : Int) < 8 := by omega
                  have HZT := Lib.hid hzt
                  have HZL := Lib.hid hzl
                  have H17 := Lib.hid h17
                  have ch := cell_lt cH
                  have cg := cell_lt cV
                  have HC6 := Lib.hid (And.intro cH cV)
                  have HC5 := Lib.hid (show ∀ o, ((wr.alloc o).drew).cell? (aH.add j) = some (.int .u32 xH) ∧ ((wr.alloc o).drew).cell? ⟨gv, j, none⟩ = some (.int .u32 xV) from fun o => ⟨(World.cell?_alloc_lt wr o (aH.add j) ch).trans cH, (World.cell?_alloc_lt wr o ⟨gv, j, none⟩ cg).trans cV⟩)
                  have HC7 := Lib.hid (show ∀ W', Below wq3.heap.size wq3 W' → W'.cell? (aH.add j) = some (.int .u32 xH) ∧ W'.cell? ⟨gv, j, none⟩ = some (.int .u32 xV) from fun W' hb => by
                    obtain ⟨a', ha', -, hc⟩ := (HA0.out.below (HB0.out.trans (hb.mono HB0.out.size))).get (i := j) (by rw [H8.out]; exact hlt)
                    cases ha'
                    obtain ⟨a2, ha2, -, hc2⟩ := (HVA.out.below hb).get (i := j) (by rw [HRL.out]; exact hlt)
                    cases ha2
                    rw [show (⟨gv, 0, none⟩ : Addr).add j = ⟨gv, j, none⟩ by simp [Addr.add]; omega] at hc2
                    rw [hxH] at hc
                    rw [hxV] at hc2
                    exact ⟨hc, hc2⟩)
                  clear hz hzt hzl hxH hxV hn0 h17 cH cV hH hVl ch cg
                  go_wp2_with fail
                  go_region_held3 (fun w' => w'.cell? (aH.add j) = some (.int .u32 xH) ∧ w'.cell? ⟨gv, j, none⟩ = some (.int .u32 xV)) (first | exact HC6.out | exact HC5.out _ | exact HC7.out _ ((HB.out.alloc hbs _).drew.trans hb2) | fail)
                    (first
                      | (refine step_app (by rfl) (.tmp 225) (.tmp 235) 110 (by rfl) elemU32 _ ((List.zipWith (fun x y => (x + y) % 4294967296) H V).take j) j HZL.out (by rfl) ((OL.alloc H17.out _).drew) n0 wr.heap.size #[.int .u32 n0] (by rfl) ?_ (by rfl) (by rfl) (by simp [one, wv, Value.oneCell']) (by rw [HZL.out]; unfold maxLen; omega) (by rw [HZL.out]; omega) (by simp; omega) ?_; (· exact World.alloc_heap_new wr _); intro g5 c5 w2 h5 hg5 hg5' hg5l hb2)
                      | fail)
                  have H7 := Lib.hid h5
                  have HB7 := Lib.hid ((HB.out.alloc hbs (.cells #[.int .u32 n0] 109)).drew.trans hb2)
                  clear h5 hg5 hg5' hg5l hb2
                  go_wp2_with fail
                  exact ⟨⟨j + 1, by omega, rfl, by rw [HZT.out]; exact H7.out, HB7.out⟩, by simp [intOf]; omega⟩
                  -- }}
                · obtain rfl : j = 8 := by omega
                  rw [List.take_of_length_le (by rw [List.length_zipWith, H8.out, HRL.out]; decide), ← HALL.out] at h17
                  have hal := addB_length (b := b) H8.out
                  obtain ⟨g5, c5, rfl, -⟩ := h17.form (by rw [hal]; decide)
                  rw [hal] at h17 ⊢
                  have hfin := h17.base HB0.out.size
                  have HF := Lib.hid hfin
                  clear hal h17 hfin hH hVl hlt
                  go_wp2_with fail
                  go_ret
                  exact ⟨⟨g5, c5, rfl, HF.out⟩, HB0.out.trans (HB.out.mono HB0.out.size)⟩

end Go.Proofs.YtllmciiadceinaaGreatDoor
end
section
namespace Go.Proofs.YtllmciiadceinaaGreatDoor
open Go Go.RowKit Go.Shelf

theorem blocks_ok (p : List UInt8) (k : Nat) : (blocks shaH p k).length = 8 ∧ ∀ x ∈ blocks shaH p k, x < 4294967296 := by
  induction k with
  | zero => exact ⟨rfl, (show ∀ x ∈ shaH, x < 4294967296 by decide)⟩
  | succ k ih => exact ⟨addB_length ih.1, addB_lt _ _⟩
theorem fresh_bytes (wx : World) (l : List UInt8) (cs : Array Value) (t : TypeId) (h : cs.toList = l.map bv) : LAt (wx.alloc (.cells cs t)).drew (wx.alloc (.cells cs t)).drew.heap.size (some ⟨wx.heap.size, 0, none⟩) bv l :=
  (RAt.alloc_new wx cs t h).drew.sl (by show wx.heap.size < (wx.alloc (.cells cs t)).heap.size; rw [World.size_alloc]; exact Nat.lt_succ_self _)
theorem words_length (l : List Nat) : (l.flatMap word4).length = 4 * l.length := by
  induction l with
  | nil => rfl
  | cons x l ih => rw [List.flatMap_cons, List.length_append, ih, List.length_cons]; show 4 + _ = _; omega
theorem bv_ofNat (m : Nat) : bv (UInt8.ofNat m) = .int .u8 ((m % 256 : Nat) : Int) := by unfold bv; rw [UInt8.toNat_ofNat']
theorem pad_length (l : List UInt8) : (pad l).length % 64 = 0 ∧ (pad l).length ≤ l.length + 73 ∧ 0 < (pad l).length := by
  have hz := padZ_lt l.length
  have h : (pad l).length = l.length + 1 + padZ l.length + 8 := by unfold pad; simp; omega
  have hm : (l.length + 1 + padZ l.length) % 64 = 56 := by unfold padZ; omega
  omega

set_option maxRecDepth 100000 in
set_option maxHeartbeats 8000000 in
theorem refsum_walk (s : ByteArray) (hs : s.size ≤ 1000000) (w : World) :
    Calls Tryz.prog 28 #[.string s] w fun e w' => e = .returned (.string (shaS s.data.toList)) ∧ Below w.heap.size w w' := by
  go_enter Tryz.func28, Tryz.ntmps28
  go_wp2_with fail
  have hH0 : LAt (w.alloc (.cells (shaH.map wv).toArray 109)) (w.alloc (.cells (shaH.map wv).toArray 109)).heap.size (some ⟨w.heap.size, 0, none⟩) wv shaH := (RAt.alloc_new (l := shaH) w _ _ rfl).sl (by simp)
  have HH0 := Lib.hid hH0
  have HB0 := Lib.hid ((Below.refl w.heap.size w).alloc (Nat.le_refl _) (.cells (shaH.map wv).toArray 109))
  clear hH0
  refine (extended_walk s hs _).mono ?_
  rintro e w2 ⟨⟨g, cap, rfl, hp⟩, hb2⟩
  have hH2 := (HH0.out.below hb2).more hb2.size
  have hB2 := HB0.out.trans (hb2.mono HB0.out.size)
  obtain ⟨p1, p2, p3⟩ := pad_length s.data.toList
  have hsl : s.data.toList.length = s.size := by simp
  have hfin : shaS s.data.toList = ⟨(outB (blocks shaH (pad s.data.toList) ((pad s.data.toList).length / 64))).toArray⟩ := rfl
  obtain ⟨p, hpp⟩ : ∃ p, pad s.data.toList = p := ⟨_, rfl⟩
  rw [hpp] at hp p1 p2 p3 hfin ⊢
  obtain ⟨n, hn⟩ : ∃ n, p.length = n := ⟨_, rfl⟩
  rw [hn] at hp p1 p2 p3 hfin ⊢
  obtain ⟨nb, hnb⟩ : ∃ nb, n / 64 = nb := ⟨_, rfl⟩
  rw [hnb] at hfin
  have hn64 : n = 64 * nb := by omega
  have hn1 : n ≤ 2000000 := by omega
  obtain ⟨-, hc1, hc2⟩ := hp.len
  unfold maxLen at hc2
  have hpl := hp.lat
  have hgl := (hp.lt g rfl).2
  have HP := Lib.hid hpl
  have HN := Lib.hid hn
  have HN64 := Lib.hid hn64
  have HF := Lib.hid hfin
  have HH2 := Lib.hid hH2
  have HB2 := Lib.hid hB2
  have hgoal : ∀ e w', (e = Ending.returned (.string ⟨(outB (blocks shaH p nb)).toArray⟩) ∧ Below w.heap.size w w') → (e = .returned (.string (shaS s.data.toList)) ∧ Below w.heap.size w w') := fun e w' h => by rw [HF.out]; exact h
  clear hH2 hB2 hb2 HH0 HB0 hpp hn hnb hfin hp hpl hsl p1 p2 hn64
  go_wp2_with fail
  go_loopw [3, 5] (fun v3 i wr => ∃ k q gH cH : Nat, 64 * k = q ∧ q ≤ n ∧ i = .int .i64 q ∧ v3 = .slice (some ⟨gH, 0, none⟩) 8 cH ∧ LAt wr wr.heap.size (some ⟨gH, 0, none⟩) wv (blocks shaH p k) ∧ Below w2.heap.size w2 wr) (fun _ i _ => n - (intOf i).toNat)
  case atStart => exact ⟨0, 0, w.heap.size, 8, rfl, by omega, rfl, rfl, HH2.out, Below.refl _ _⟩
  case round =>
    obtain ⟨k, q, gH, cH, hq, hqn, rfl, rfl, hH, hB⟩ := hrel
    have HB := Lib.hid hB
    have hbs := hB.size
    obtain ⟨b8, blt⟩ := blocks_ok p k
    by_cases hlt : q < n
    · have hq64 : q + 64 ≤ n := by have := HN64.out; omega
      have hpW := HP.out.below hB
      have hA : LAt wr wr.heap.size (some ⟨g, q, none⟩) bv ((p.drop q).take 64) := by
        have := ((hpW.more hbs).drop q).take 64
        rw [show Option.map (·.add q) (some (⟨g, 0, none⟩ : Addr)) = some ⟨g, q, none⟩ by simp [Addr.add]; omega] at this
        exact this
      have hbl : ((p.drop q).take 64).length = 64 := by rw [List.length_take, List.length_drop, HN.out]; omega
      have hcall := fun c => block_walk (some ⟨gH, 0, none⟩) (blocks shaH p k) b8 blt cH (fun h => by cases h) ⟨g, q, none⟩ ((p.drop q).take 64) c hbl wr hH hA
      have hnext : addB (blocks shaH p k) ((p.drop q).take 64) = blocks shaH p (k + 1) := by rw [← hq]; rfl
      rw [hnext] at hcall
      obtain ⟨q2, hq2⟩ : ∃ q2, q + 64 = q2 := ⟨_, rfl⟩
      have e1 : (q : Int) + 64 = (q2 : Int) := by omega
      have e2 : IntKind.i64.wrap (q2 : Int) = (q2 : Int) := by rw [IntKind.wrap_i64]; omega
      have e3 : q2 - q = 64 := by omega
      have z1 : (0 : Int) ≤ (q : Int) := by omega
      have z2 : (q : Int) ≤ (q2 : Int) := by omega
      have z3 : (q2 : Int) ≤ (cap : Int) := by omega
      have z4 : ¬ cap = q := by omega
      have z5 : ¬ q = cap := by omega
      have z6 : (0 : Int) ≤ (q2 : Int) := by omega
      have z7 : q ≤ q2 := by omega
      have z8 : q2 ≤ cap := by omega
      have HC := Lib.hid hcall
      have HQ := Lib.hid (And.intro hq hq2)
      clear hcall hA hpW hH hB b8 blt hbl hnext hq hq2
      go_wp2_with fail
      refine (HC.out _).mono ?_
      rintro e w4 ⟨⟨g4, c4, rfl, h4⟩, hb4⟩
      have H4 := Lib.hid h4.lat
      have HB4 := Lib.hid (HB.out.trans (hb4.mono hbs))
      clear h4 hb4
      go_wp2_with fail
      exact ⟨⟨k + 1, q2, g4, c4, by have := HQ.out; omega, by omega, by go_num, rfl, H4.out, HB4.out⟩, by simp [intOf]; omega⟩
    · obtain rfl : q = n := by omega
      have hk : k = nb := by have := HN64.out; omega
      rw [hk] at hH b8 blt
      obtain ⟨V, hV⟩ : ∃ V, blocks shaH p nb = V := ⟨_, rfl⟩
      rw [hV] at hH b8 blt
      have HVV := Lib.hid hV
      have HG := Lib.hid hgoal
      have HV := Lib.hid hH
      have HV8 := Lib.hid b8
      have HVL := Lib.hid blt
      have HB5 := Lib.hid (HB2.out.trans (HB.out.mono HB2.out.size))
      clear hV hH b8 blt hB hk hq hlt hgoal
      go_wp2_with fail
      obtain ⟨wq, rfl⟩ : ∃ wq : World, wq = wr := ⟨_, rfl⟩
      go_loopw [6, 7] (fun v6 i wr => ∃ j : Nat, j ≤ 8 ∧ i = .int .i64 j ∧ ByteL wr wq.heap.size v6 ((V.take j).flatMap word4) ∧ Below wq.heap.size wq wr) (fun _ i _ => 8 - (intOf i).toNat)
      case atStart => exact ⟨0, by omega, rfl, OL.nil, Below.refl _ _⟩
      case round =>
        obtain ⟨j, hj, rfl, h6, hB⟩ := hrel
        by_cases hlt : j < 8
        · obtain ⟨aV, eV, -, cV⟩ := (HV.out.below hB).get (i := j) (by rw [HV8.out]; exact hlt)
          cases eV
          rw [show (⟨gH, 0, none⟩ : Addr).add j = ⟨gH, j, none⟩ by simp [Addr.add]; omega] at cV
          have lV := HVL.out _ (List.getElem_mem (h := show j < V.length by rw [HV8.out]; exact hlt))
          obtain ⟨x, hx⟩ : ∃ x, V[j]'(by rw [HV8.out]; exact hlt) = x := ⟨_, rfl⟩
          rw [hx] at cV lV
          unfold wv at cV
          have b0 : (0 : Int) ≤ (j : Int) := by omega
          have b1 : (j : Int) < 8 := by omega
          obtain ⟨y0, hy0⟩ : ∃ y, x / 16777216 % 256 = y := ⟨_, rfl⟩
          obtain ⟨y1, hy1⟩ : ∃ y, x / 65536 % 256 = y := ⟨_, rfl⟩
          obtain ⟨y2, hy2⟩ : ∃ y, x / 256 % 256 = y := ⟨_, rfl⟩
          obtain ⟨y3, hy3⟩ : ∃ y, x % 256 = y := ⟨_, rfl⟩
          have e0 : IntKind.u8.wrap ((x : Int) / 16777216) = (y0 : Int) := by rw [IntKind.wrap_u8]; omega
          have e1 : IntKind.u8.wrap ((x : Int) / 65536) = (y1 : Int) := by rw [IntKind.wrap_u8]; omega
          have e2 : IntKind.u8.wrap ((x : Int) / 256) = (y2 : Int) := by rw [IntKind.wrap_u8]; omega
          have e3 : IntKind.u8.wrap (x : Int) = (y3 : Int) := by rw [IntKind.wrap_u8]; omega
          have hw4 : #[Value.int .u8 (y0 : Int), .int .u8 (y1 : Int), .int .u8 (y2 : Int), .int .u8 (y3 : Int)].toList = (word4 x).map bv := by
            unfold word4
            rw [List.map_cons, List.map_cons, List.map_cons, List.map_cons, List.map_nil, bv_ofNat, bv_ofNat, bv_ofNat, bv_ofNat, hy0, hy1, hy2, hy3]
          have hzt : (V.take (j + 1)).flatMap word4 = (V.take j).flatMap word4 ++ word4 x := by
            rw [List.take_succ_eq_append_getElem (by rw [HV8.out]; exact hlt), hx, List.flatMap_append]; simp
          have hln : ((V.take j).flatMap word4).length = 4 * j := by rw [words_length, List.length_take, HV8.out]; omega
          obtain ⟨L, hL⟩ : ∃ L, (V.take j).flatMap word4 = L := ⟨_, rfl⟩
          rw [hL] at hln hzt h6
          have HW4 := Lib.hid hw4
          have HZT := Lib.hid hzt
          have HLN := Lib.hid hln
          have H6 := Lib.hid h6
          have HC6 := Lib.hid cV
          have HB := Lib.hid hB
          have hbs := hB.size
          have cg := cell_lt cV
          have HC5 := Lib.hid (show ∀ o, ((wr.alloc o).drew).cell? ⟨gH, j, none⟩ = some (.int .u32 x) from fun o => (World.cell?_alloc_lt wr o ⟨gH, j, none⟩ cg).trans cV)
          have HC7 := Lib.hid (show ∀ W', Below wq.heap.size wq W' → W'.cell? ⟨gH, j, none⟩ = some (.int .u32 x) from fun W' hb => by
            obtain ⟨a2, ha2, -, hc2⟩ := (HV.out.below hb).get (i := j) (by rw [HV8.out]; exact hlt)
            cases ha2
            rw [show (⟨gH, 0, none⟩ : Addr).add j = ⟨gH, j, none⟩ by simp [Addr.add]; omega, hx] at hc2
            exact hc2)
          clear hy0 hy1 hy2 hy3 hw4 hzt hln hL h6 cV hB hx cg
          go_wp2_with fail
          go_region_held3 (fun w' => w'.cell? ⟨gH, j, none⟩ = some (.int .u32 x)) (first | exact HC6.out | exact HC5.out _ | exact HC7.out _ ((HB.out.alloc hbs _).drew.trans hb2) | fail)
            (first
              | (refine step_cat (by rfl) (.tmp 28) (.tmp 52) 39 (by rfl) elemU8 (fun _ => rfl) _ L (by rfl) ((OL.alloc H6.out _).drew) (some ⟨wr.heap.size, 0, none⟩) (word4 x) 4 4 rfl (by rfl) (fun h => by cases h) ((fresh_bytes wr (word4 x) _ _ HW4.out).cat) (fun x _ u hu => by rw [List.mem_singleton.1 hu]; rfl) (by rw [HLN.out]; unfold maxLen; omega) (by rw [HLN.out]; omega) (by simp; omega) ?_; intro v5 w5 h5 hg5 hb2)
              | fail)
          have H7 := Lib.hid h5
          have HB7 := Lib.hid ((HB.out.alloc hbs (.cells #[.int .u8 (y0 : Int), .int .u8 (y1 : Int), .int .u8 (y2 : Int), .int .u8 (y3 : Int)] 5)).drew.trans hb2)
          clear h5 hg5 hb2 e0 e1 e2 e3
          go_wp2_with fail
          exact ⟨⟨j + 1, by omega, rfl, by rw [HZT.out]; exact H7.out, HB7.out⟩, by simp [intOf]; omega⟩
        · obtain rfl : j = 8 := by omega
          rw [List.take_of_length_le (by rw [HV8.out]; decide)] at h6
          have hol : (V.flatMap word4).length = 32 := by rw [words_length, HV8.out]
          obtain ⟨g6, c6, rfl, -⟩ := h6.form (by rw [hol]; decide)
          rw [hol] at h6 ⊢
          have hconv := (RAt.of_row (f := bv) (n := 32) (by have := h6; unfold ByteL OL at this; rw [flatMap_one, hol] at this; exact this)).convert (P := Tryz.prog) (cap := c6) hol 39 9 5 Tryz.underlying39 Tryz.underlying5 Tryz.underlying9
          have HB := Lib.hid hB
          clear h6 hol hlt hB
          go_wp2_with fail
          go_ret
          refine HG.out _ _ ⟨?_, HB5.out.trans (HB.out.mono HB5.out.size)⟩
          rw [HVV.out]; rfl

end Go.Proofs.YtllmciiadceinaaGreatDoor
end
section
namespace Go.Proofs.YtllmciiadceinaaGreatDoor
open Go Go.RowKit Go.Shelf

set_option maxHeartbeats 1000000 in
theorem refchain_walk (a b : ByteArray) (hs : a.size + b.size ≤ 900000) (w : World) :
    Calls Tryz.prog 57 #[.string a, .string b] w fun e w' => e = .returned (.string (chainS a b)) ∧ Below w.heap.size w w' := by
  have hadd := fun w => strAdd (P := Tryz.prog) ⟨#[2]⟩ a (by show 1 + _ ≤ _; omega) w
  have hadd2 := fun w => strAdd (P := Tryz.prog) (⟨#[2]⟩ ++ a) b (by rw [ba_size_append]; show 1 + _ + _ ≤ _; omega) w
  have hz : ((⟨#[2]⟩ : ByteArray) ++ a ++ b).size ≤ 1000000 := by rw [ba_size_append, ba_size_append]; show 1 + _ + _ ≤ _; omega
  have HZ := Lib.hid hz
  clear hz
  go_enter Tryz.func57, Tryz.ntmps57
  go_wp2_with fail
  refine (refsum_walk _ HZ.out _).mono ?_
  rintro e w1 ⟨rfl, hb⟩
  go_wp2_with fail
  go_ret
  exact ⟨rfl, hb⟩

end Go.Proofs.YtllmciiadceinaaGreatDoor
end
