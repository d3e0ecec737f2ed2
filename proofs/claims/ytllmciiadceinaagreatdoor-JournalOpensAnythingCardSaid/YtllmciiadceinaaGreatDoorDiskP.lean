/-
  Contracts of slices.Values, slices.AppendSeq, slices.Collect at []int. Conditions: each contract's own.
-/
import Derived.Test.YtllmciiadceinaaGreatDoorDiskI
namespace Go.Proofs.YtllmciiadceinaaGreatDoor
open Go Go.RowKit Go.Shelf
attribute [local go_sem] Oper.semAt_some

def iv (z : Int) : Value := .int .i64 z

theorem not_books {w : World} {k : Nat} (h : k < w.heap.size) : ¬ ((fun _ => False) k ∨ books w k) := by
  rintro (e | e | e)
  · exact e
  · omega
  · omega
theorem far_books {w : World} {n : Nat} (h : n ≤ w.heap.size) (k : Nat) (e : (fun _ => False) k ∨ books w k) : n ≤ k := by
  rcases e with e | e | e
  · exact (e : False).elim
  · omega
  · omega

set_option maxHeartbeats 1000000 in
theorem values_any (A : Option Addr) (n c : Nat) (w : World) :
    Calls Tryz.prog 62 #[.slice A n c] w fun e w' => e = .returned (.func (.func 91) #[] #[.pointer (some ⟨w.heap.size, 0, none⟩)]) ∧ w' = w.alloc (.cells #[.slice A n c] 56) := by
  go_enter Tryz.func62, Tryz.ntmps62
  go_wp2
  go_ret
  exact ⟨rfl, rfl⟩

def encV {n : Nat} (v : Fin n → Value) (i : Fin n) : Array Value := #[v i]
/-- What a round of a loop over a slice leaves as it was. -/
def KpB (b1 : Nat) (A : Option Addr) (U V : World) : Prop := V.heap[b1]? = U.heap[b1]? ∧ ∀ a, A = some a → V.heap[a.block]? = U.heap[a.block]?
theorem KpB.trans {b1 : Nat} {A : Option Addr} {U V W : World} (h : KpB b1 A U V) (k : KpB b1 A V W) : KpB b1 A U W := ⟨k.1.trans h.1, fun a ha => (k.2 a ha).trans (h.2 a ha)⟩
theorem LAt.kp {α : Type} {w w' : World} {B b1 : Nat} {A : Option Addr} {f : α → Value} {l : List α} (h : LAt w B A f l) (k : KpB b1 A w w') : LAt w' B A f l := fun i x hx => by
  obtain ⟨a, e, hl, hc⟩ := h i x hx
  exact ⟨a, e, hl, (World.cell?_of_block (a := a.add i) (by rw [addr_add_block]; exact k.2 a e)).trans hc⟩

set_option maxRecDepth 100000 in
set_option maxHeartbeats 4000000 in
theorem values_iter (A A0 : Option Addr) (l : List Int) (h00 : 0 < l.length → A0 = A) (cap b1 : Nat) (hmax : l.length ≤ 1000000) (w : World) (h1 : Boxed w b1 56 (.slice A l.length cap)) (hA : LAt w w.heap.size A iv l) :
    IterZ Tryz.prog 91 #[.pointer (some ⟨b1, 0, none⟩)] (encV fun i : Fin l.length => .int .i64 l[i.val]) (fun _ => False) (KpB b1 A0) (fun xs => xs.map Fin.val = List.range l.length) (fun _ => True) l.length w := by
  intro l0 J Jx W hW hJ hJx hY h0
  have k1 : Boxed W b1 56 (.slice A l.length cap) := (hW.block b1 h1.lt).trans h1
  have hAW := hA.below hW
  refine callsIn_of_wp Tryz.func91 rfl trivial ?_ rfl
  simp only [Tryz.ntmps91, List.size_toArray, List.length_cons, List.length_nil, Nat.reduceAdd, Nat.reduceSub, Array.replicate_succ, Array.replicate_zero, List.push_toArray, List.append_toArray, List.nil_append, List.cons_append]
  have c0 := k1.cell
  have HA := Lib.hid hAW
  have H00 := Lib.hid h00
  clear hA hAW h1 h00
  gi_wp2_with fail
  gi_loopw [4, 7] (fun _ i wr => ∃ (k : Nat) (pre : List (Fin l.length)), pre.map Fin.val = List.range k ∧ k ≤ l.length ∧ i = .int .i64 (k : Int) ∧ Boxed wr b1 56 (.slice A l.length cap) ∧ LAt wr w.heap.size A iv l ∧ J pre wr) (fun _ i _ => l.length - (intOf i).toNat)
  case atStart => exact ⟨0, [], rfl, by omega, rfl, k1, HA.out, h0⟩
  case round =>
    obtain ⟨k, pre, hpre, hk, rfl, hb1, hA, hj⟩ := hrel
    have c1 := hb1.cell
    have hpl : pre.length = k := by have := congrArg List.length hpre; simpa using this
    have HPRE := Lib.hid hpre
    have HPL := Lib.hid hpl
    clear k1 h0 c0 HA hpre hpl
    by_cases hlt : k < l.length
    · obtain ⟨a, rfl, hab, hac⟩ := hA.get hlt
      unfold iv at hac
      obtain rfl := H00.out (by omega)
      obtain ⟨fn, tmps, assign, body, hy, hR⟩ := hY pre ⟨k, by omega⟩ wr hj (by have := HPL.out; omega)
      dsimp only [encV] at hy
      have z1 : (0 : Int) ≤ (k : Int) := by omega
      have z2 : (k : Int) < (l.length : Int) := by omega
      have w2 : IntKind.i64.wrap ((k : Int) + 1) = ((k + 1 : Nat) : Int) := by rw [IntKind.wrap_i64]; omega
      have HLA := Lib.hid hA
      have HJ := Lib.hid hj
      clear hA hj
      gi_wp2_with fail
      refine hR.mono ?_
      rintro e W3 (⟨rfl, hJ3, hk3⟩ | ⟨rfl, hJx3⟩)
      · have hb3 : Boxed W3 b1 56 (.slice (some a) l.length cap) := hk3.1.trans hb1
        have hA3 := HLA.out.kp hk3
        have c3 := hb3.cell
        have HA3 := Lib.hid hA3
        clear c1 hac hA3
        gi_wp2
        refine ⟨⟨k + 1, pre ++ [⟨k, by omega⟩], ?_, by omega, rfl, hb3, HA3.out, hJ3⟩, ?_⟩
        · rw [List.map_append, HPRE.out, List.range_succ]; rfl
        · simp [intOf] <;> omega
      · gi_wp2
        refine bodyPost_ret (results_none rfl _ _ _) rfl ?_
        exact ⟨⟨_, rfl⟩, .inr ⟨_, trivial, hJx3⟩⟩
    · obtain rfl : k = l.length := by omega
      gi_wp2_with fail
      go_end0
      exact ⟨⟨_, rfl⟩, .inl ⟨_, by simpa using HPRE.out, hj⟩⟩

theorem elemI : Elem Tryz.prog 56 3 1 8 := Elem.mk' (z := .int .i64 0) Tryz.underlying56 (by kernel_rfl) rfl (by decide)
theorem map_fin_all {α : Type} (l : List α) (xs : List (Fin l.length)) (h : xs.map Fin.val = List.range l.length) : xs.map (fun i => l[i.val]) = l := by
  have hl : xs.length = l.length := by have := congrArg List.length h; simpa using this
  apply List.ext_getElem (by simpa using hl)
  intro i h1 h2
  rw [List.getElem_map]
  have hi : (xs.map Fin.val)[i]'(by simp; omega) = i := by simp only [h]; simp
  rw [List.getElem_map] at hi
  congr 1
theorem ownsRow_base {w : World} {B B' : Nat} {e : TypeId} {size n : Nat} {v : Value} {xs : List Value} (h : w.ownsRow B e size v n xs) (hB : B' ≤ B) : w.ownsRow B' e size v n xs := by
  refine ⟨h.1, ?_⟩
  rcases h.2 with hn | ⟨g, cap, cur, rfl, hb, r⟩
  · exact .inl hn
  · exact .inr ⟨g, cap, cur, rfl, by omega, r⟩

set_option maxRecDepth 100000 in
set_option maxHeartbeats 4000000 in
theorem appendSeq_walk (A : Option Addr) (l : List Int) (n cap b1 : Nat) (hn : l.length = n) (hmax : n ≤ 1000000) (w : World) (h1 : Boxed w b1 56 (.slice A n cap)) (hA : LAt w w.heap.size A iv l) :
    Calls Tryz.prog 106 #[.slice none 0 0, .func (.func 91) #[] #[.pointer (some ⟨b1, 0, none⟩)]] w fun e w' => ∃ v, e = .returned v ∧ OL w' w.heap.size 3 1 (one iv) v l ∧ Below w.heap.size w w' := by
  subst hn
  refine (callsIn_wide (n := 3)).1 ?_
  refine callsIn_of_wp_marks Tryz.func106 rfl trivial ?_ rfl
  simp only [Tryz.ntmps106, List.size_toArray, List.length_cons, List.length_nil, Nat.reduceAdd, Nat.reduceSub, Array.replicate_succ, Array.replicate_zero, List.push_toArray, List.append_toArray, List.nil_append, List.cons_append]
  have hb1 := h1.lt
  have HA := Lib.hid hA
  have H1 := Lib.hid h1
  clear hA h1
  gi_wp2_with fail
  obtain ⟨w7, hw7⟩ : ∃ w7, w.alloc (.cells #[.slice none 0 0] 56) = w7 := ⟨_, rfl⟩
  have hbl : Below w.heap.size w w7 := by rw [← hw7]; exact (Below.refl _ _).alloc (Nat.le_refl _) _
  have hs7 : w7.heap.size = w.heap.size + 1 := by rw [← hw7]; simp
  have x0 : Boxed w7 w.heap.size 56 (.slice none 0 0) := by rw [← hw7]; exact Boxed.new w _ _
  have x1 : Boxed w7 b1 56 (.slice A l.length cap) := (hbl.block b1 hb1).trans H1.out
  have hA7 : LAt w7 w7.heap.size A iv l := (HA.out.below hbl).more (by omega)
  have hAl := HA.out
  rw [hw7]
  clear hw7
  obtain ⟨A0, hA0, hA1⟩ : ∃ A0 : Option Addr, (0 < l.length → A0 = A) ∧ ∀ a, A0 = some a → a.block < w.heap.size := by
    rcases Nat.eq_zero_or_pos l.length with h0 | h0
    · exact ⟨none, fun h => by omega, fun a ha => by cases ha⟩
    · obtain ⟨a, rfl, hab, _⟩ := hAl.get h0
      exact ⟨_, fun _ => rfl, fun a' ha => by cases ha; exact hab⟩
  obtain ⟨i0, hi, hz0, hz1, hz2⟩ := info_parts (show (Tryz.prog.info? 3).map (fun i => (i.zero, i.size, i.bytes)) = some (some (.int .i64 0), 1, 8) by kernel_rfl)
  have HAl := Lib.hid hAl
  have HX1 := Lib.hid x1
  have HA7 := Lib.hid hA7
  have HBL := Lib.hid hbl
  clear hAl x1 hA7 hbl
  refine wp_rangeZ (gf := 91) (lb := #[.pointer (some ⟨b1, 0, none⟩)]) rfl (enters_of Tryz.func91 (by kernel_rfl) rfl)
    (values_iter A A0 l hA0 cap b1 hmax w7 HX1.out HA7.out) (Below.refl _ _) (fun k hk => hk.elim) (fun _ => rfl) (fun h k => h.trans k)
    (fun W o => ⟨World.putObj_heap_other (by omega), fun a ha => World.putObj_heap_other (by have := hA1 a ha; omega)⟩)
    (fun pre W => ∃ v, Boxed W w.heap.size 56 v ∧ W.ownsRow (w.heap.size + 3) 3 1 v pre.length (pre.map fun i => .int .i64 l[i.val]) ∧ Below w.heap.size w W)
    (fun _ _ _ => False)
    (fun s A B h t => ?hI)
    (fun _ _ _ _ h _ => h.elim)
    ⟨_, x0, World.ownsRow_nil _ _ _ _, HBL.out⟩ ?a1 ?assign ?body ?done ?stop
  case hI =>
    obtain ⟨v, hb, hr, hB⟩ := h
    refine ⟨v, t.boxed hb (not_books (by omega)), ?_, t.below hB (Nat.le_refl _) (far_books (by omega))⟩
    refine ⟨hr.1, ?_⟩
    rcases hr.2 with hn | ⟨g, cap, cur, rfl, hb, hg, r⟩
    · exact .inl hn
    · refine .inr ⟨g, cap, cur, rfl, hb, (t.block g (Array.getElem?_eq_some_iff.1 hg).1 ?_).trans hg, r⟩
      rintro (e | e | e)
      · exact e
      · omega
      · omega
  case assign =>
    intro l x W K hK
    dsimp only [encV]
    gi_wp2
    exact hK
  case body =>
    rintro l0 pre x W hW ⟨v, hv, hrow, hB⟩ hlt2
    have c0 := hv.cell
    have hle : w.heap.size ≤ w.heap.size := Nat.le_refl _
    have hBs := hB.size
    have HB := Lib.hid hB
    obtain ⟨y, hy⟩ : ∃ y, l[x.val] = y := ⟨_, rfl⟩
    obtain ⟨xs, hxs⟩ : ∃ xs : List Value, (pre.map fun i => .int .i64 l[i.val]) = xs := ⟨_, rfl⟩
    obtain ⟨k, hk⟩ : ∃ k, pre.length = k := ⟨_, rfl⟩
    rw [hxs, hk] at hrow
    rw [hk] at hlt2
    have HXS := Lib.hid hxs
    have HY := Lib.hid hy
    have HK := Lib.hid hk
    rw [hy]
    clear hB hxs hy hk x0
    gi_wp2_with (first
      | (gi_at_builtin
         refine wpListIn_append_own _ rfl _ _ 56 rfl (w.heap.size + 3) 3 i0 (.int .i64 0) 1 8 Tryz.underlying56 hi hz0 hz1 hz2 rfl (by decide) _ _ _ rfl (hrow.alloc _) ⟨W.heap.size, 0, none⟩ 1 1 [.int .i64 y] rfl rfl (cell_one_new _ _ _) (by simp [Value.oneCell']) (by unfold maxLen; omega) (by omega) (by simp; omega) ?_
         intro v' w1 hown' hgrow _
         obtain ⟨g', cap', rfl⟩ := ownsRow_succ hown'
         obtain ⟨hv1, hv2, hr2, hk2, hb2⟩ := hv.appended (by decide) (ownsRow_base hrow (B' := w.heap.size) (by omega)) hBs hle (ownsRow_base hown' (by omega)) hgrow
         have hr3 := hown'.kept (grownBy_setCell' w1 w.heap.size (.slice (some ⟨g', 0, none⟩) (k + 1) cap')) (.inr (hv1.not_row (by decide) hown').symm)
         have hc1 := hv1.cell
         have hf1 := hv1.frozen)
      | fail)
    refine ⟨hk2.from _, ⟨hb2.block b1 hb1, fun a ha => hb2.block a.block (hA1 a ha)⟩, ⟨_, hv2, ?_, HB.out.trans hb2⟩⟩
    rw [List.length_append, HK.out, List.map_append, HXS.out, List.map_singleton, HY.out]
    exact hr3
  case done =>
    rintro xs W hS ⟨v, hv, hrow, hB⟩ hK
    have hfin := map_fin_all l xs hS
    have c0 := hv.cell
    have HB := Lib.hid hB
    have HKK := Lib.hid hK
    have HR := Lib.hid hrow
    clear hB hK hS x0 hrow
    gi_wp2_with fail
    refine ⟨by simp, .inl ⟨_, _, rfl, run_takeDeferred HKK.out, ?_⟩⟩
    have hr := HR.out
    have hxl : xs.length = l.length := by have := congrArg List.length hfin; simpa using this
    have hxm : (xs.map fun i => Value.int .i64 l[i.val]) = l.flatMap (one iv) := by
      rw [flatMap_one]; conv => rhs; rw [← hfin]
      rw [List.map_map]; rfl
    rw [hxl, hxm] at hr
    refine ⟨_, results_tmp rfl _ _ _, _, rfl, ?_, ?_⟩
    · exact (ownsRow_putObj (ownsRow_base hr (by omega)) _ HKK.out rfl)
    · exact (Turns.putObj (Z := fun k => k = w7.heap.size) W _ _ rfl).below HB.out (Nat.le_refl _) (fun k hk => by omega)
  case stop =>
    rintro c pre W _ h _
    exact h.elim

set_option maxHeartbeats 2000000 in
theorem collect_walk (A : Option Addr) (l : List Int) (n cap b1 : Nat) (hn : l.length = n) (hmax : n ≤ 1000000) (w : World) (h1 : Boxed w b1 56 (.slice A n cap)) (hA : LAt w w.heap.size A iv l) :
    Calls Tryz.prog 89 #[.func (.func 91) #[] #[.pointer (some ⟨b1, 0, none⟩)]] w fun e w' => ∃ v, e = .returned v ∧ OL w' w.heap.size 3 1 (one iv) v l ∧ Below w.heap.size w w' := by
  have HC := Lib.hid (appendSeq_walk A l n cap b1 hn hmax w h1 hA)
  clear h1 hA
  go_enter Tryz.func89, Tryz.ntmps89
  go_wp2_with (go_at_call 106; refine HC.out.mono ?_; rintro e w' ⟨v, rfl, ho, hb⟩)
  go_ret
  exact ⟨v, rfl, ho, hb⟩

end Go.Proofs.YtllmciiadceinaaGreatDoor
