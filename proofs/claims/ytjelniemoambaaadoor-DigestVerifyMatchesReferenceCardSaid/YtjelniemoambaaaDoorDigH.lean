/-
  Contracts of package digest's left, of slices.Backward's iterators and of slices.Reverse. Conditions: each contract's own.
-/
import Derived.Test.YtjelniemoambaaaDoorTree
import Derived.Test.YtjelniemoambaaaDoorOwn
namespace Go.Proofs.YtjelniemoambaaaDoor
open Go Go.RowKit Go.Shelf
attribute [local go_sem] Oper.semAt_some

theorem not_books {w : World} {k : Nat} (h : k < w.heap.size) : ¬ ((fun _ => False) k ∨ books w k) := by
  rintro (e | e | e)
  · exact e
  · omega
  · omega
theorem far_books {w : World} {n : Nat} (h : n ≤ w.heap.size) (k : Nat) (e : (fun _ => False) k ∨ books w k) : n ≤ k := by
  rcases e with e | e | e
  · exact (e : False).elim
  · omega
  · omega

theorem bitLen_log {x : Nat} (h0 : 0 < x) (h1 : x < 2 ^ 64) : Lib.bitLen x = Nat.log2 x + 1 := by
  have h : ∀ (f x : Nat), 0 < x → x < 2 ^ f → Lib.bitLenAux f x = Nat.log2 x + 1 := by
    intro f
    induction f with
    | zero => intro x h0 h1; simp at h1; omega
    | succ f ih =>
      intro x h0 h1
      unfold Lib.bitLenAux
      rw [if_neg (by omega), Nat.log2_def]
      by_cases h2 : 2 ≤ x
      · rw [if_pos h2, ih (x / 2) (by omega) (by rw [Nat.pow_succ] at h1; omega)]; omega
      · rw [if_neg h2]
        have : x / 2 = 0 := by omega
        rw [this]
        cases f <;> simp [Lib.bitLenAux]
  exact h 64 x h0 h1

set_option maxHeartbeats 1000000 in
theorem left_walk (n : Nat) (h2 : 2 ≤ n) (h63 : n ≤ 9223372036854775807) (w : World) :
    Calls Tryd.prog 40 #[.int .i64 n] w fun e w' => e = .returned (.int .i64 (leftN n : Nat)) ∧ w = w' := by
  obtain ⟨m, hm⟩ : ∃ m : Nat, n - 1 = m := ⟨_, rfl⟩
  have hmi : (n : Int) - 1 = (m : Int) := by omega
  have hb := bitLen_log (x := m) (by omega) (by omega)
  obtain ⟨k, hk⟩ : ∃ k, Nat.log2 m = k := ⟨_, rfl⟩
  have hl : leftN n = 2 ^ k := by unfold leftN; rw [hm, hk]
  have hk62 : k < 63 := by rw [← hk]; exact (Nat.log2_lt (by omega)).2 (by omega)
  have hp : (2 : Nat) ^ k ≤ 2 ^ 62 := Nat.pow_le_pow_right (by decide) (by omega)
  have hpi : ((2 : Int) ^ k) = ((2 ^ k : Nat) : Int) := by push_cast; rfl
  rw [hk] at hb
  obtain ⟨p, hpp⟩ : ∃ p, 2 ^ k = p := ⟨_, rfl⟩
  rw [hpp] at hp hpi hl
  have hp0 : 0 ≤ (p : Int) := by omega
  have hu : IntKind.u64.wrap (m : Int) = (m : Int) := by rw [IntKind.wrap_u64]; omega
  have HB := Lib.hid hb
  have HL := Lib.hid hl
  clear hb hk hl hm hpp
  go_enter Tryd.func40, Tryd.ntmps40
  go_wp2_with (go_at_call 59; refine (Tryd.bits_Len (m : Int) _ (by omega) (by omega)).mono ?_; rintro e w' ⟨rfl, rfl⟩; rw [Int.toNat_natCast, HB.out])
  go_ret
  exact ⟨by rw [HL.out]; rfl, rfl⟩

set_option maxHeartbeats 1000000 in
theorem backS_any (A : Option Addr) (n c : Nat) (w : World) :
    Calls Tryd.prog 44 #[.slice A n c] w fun e w' => e = .returned (.func (.func 60) #[] #[.pointer (some ⟨w.heap.size, 0, none⟩)]) ∧ w' = w.alloc (.cells #[.slice A n c] 22) := by
  go_enter Tryd.func44, Tryd.ntmps44
  go_wp2
  go_ret
  exact ⟨rfl, rfl⟩

def encB {n : Nat} (v : Fin n → Value) (i : Fin n) : Array Value := #[.int .i64 (i.val : Int), v i]
/-- What a round of a loop over a slice leaves as it was. -/
def KpB (b1 : Nat) (A : Option Addr) (U V : World) : Prop := V.heap[b1]? = U.heap[b1]? ∧ ∀ a, A = some a → V.heap[a.block]? = U.heap[a.block]?
theorem KpB.trans {b1 : Nat} {A : Option Addr} {U V W : World} (h : KpB b1 A U V) (k : KpB b1 A V W) : KpB b1 A U W := ⟨k.1.trans h.1, fun a ha => (k.2 a ha).trans (h.2 a ha)⟩
theorem LAt.kp {α : Type} {w w' : World} {B b1 : Nat} {A : Option Addr} {f : α → Value} {l : List α} (h : LAt w B A f l) (k : KpB b1 A w w') : LAt w' B A f l := fun i x hx => by
  obtain ⟨a, e, hl, hc⟩ := h i x hx
  exact ⟨a, e, hl, (World.cell?_of_block (a := a.add i) (by rw [addr_add_block]; exact k.2 a e)).trans hc⟩
theorem rev_range (k : Nat) : (List.range (k + 1)).reverse = k :: (List.range k).reverse := by rw [List.range_succ, List.reverse_append]; rfl

/-- A slice's elements taken from its end on. -/
theorem fold_back {α β : Type} (L : List α) (F : α → β → β) (z : β) (xs : List (Fin L.length)) (h : xs.map Fin.val = (List.range L.length).reverse) : xs.foldl (fun out i => F L[i.val] out) z = L.foldr F z := by
  have e1 : xs.map (fun i => L[i.val]?) = (xs.map Fin.val).map (fun i => L[i]?) := by rw [List.map_map]; rfl
  have e2 : (List.range L.length).map (fun i => L[i]?) = L.map some := by
    apply List.ext_getElem?
    intro i
    rw [List.getElem?_map, List.getElem?_map]
    rcases Nat.lt_or_ge i L.length with hi | hi
    · rw [List.getElem?_range hi, List.getElem?_eq_getElem hi]; simp [List.getElem?_eq_getElem hi]
    · rw [List.getElem?_eq_none (by simpa using hi), List.getElem?_eq_none hi]; rfl
  have e3 : xs.map (fun i => L[i.val]) = L.reverse := by
    have e4 : (xs.map (fun i => L[i.val])).map some = L.reverse.map some := by
      rw [List.map_map, List.map_reverse, ← e2, ← List.map_reverse, ← h, ← e1]
      exact List.map_congr_left (fun i _ => by simp)
    exact (List.map_inj_right (fun x y h => by injection h)).1 e4
  rw [List.foldr_eq_foldl_reverse, ← e3, List.foldl_map]

/-- Roots put together from the last one on. -/
def backF (L : List ByteArray) (z : ByteArray) (pre : List (Fin L.length)) : ByteArray := pre.foldl (fun out i => nodeS L[i.val] out) z
theorem backF_snoc (L : List ByteArray) (z : ByteArray) (pre : List (Fin L.length)) (i : Fin L.length) : backF L z (pre ++ [i]) = nodeS L[i.val] (backF L z pre) := by unfold backF; rw [List.foldl_append]; rfl
theorem backF_all (L : List ByteArray) (z : ByteArray) (xs : List (Fin L.length)) (h : xs.map Fin.val = (List.range L.length).reverse) : backF L z xs = L.foldr nodeS z := fold_back L nodeS z xs h

theorem backF_size {L : List ByteArray} {z : ByteArray} (hz : z.size = 32) (pre : List (Fin L.length)) : (backF L z pre).size = 32 := by
  rcases nil_or_snoc pre with rfl | ⟨p, x, rfl⟩
  · exact hz
  · rw [backF_snoc]; exact nodeS_size _ _

set_option maxRecDepth 100000 in
set_option maxHeartbeats 4000000 in
theorem backS_iter (A : Option Addr) (l : List ByteArray) (cap b1 : Nat) (hmax : l.length ≤ 1000000) (w : World) (h1 : Boxed w b1 22 (.slice A l.length cap)) (hA : LAt w w.heap.size A .string l) :
    IterZ Tryd.prog 60 #[.pointer (some ⟨b1, 0, none⟩)] (encB fun i : Fin l.length => .string l[i.val]) (fun _ => False) (KpB b1 A) (fun xs => xs.map Fin.val = (List.range l.length).reverse) (fun _ => True) l.length w := by
  intro l0 J Jx W hW hJ hJx hY h0
  have k1 : Boxed W b1 22 (.slice A l.length cap) := (hW.block b1 h1.lt).trans h1
  have hAW := hA.below hW
  refine callsIn_of_wp Tryd.func60 rfl trivial ?_ rfl
  simp only [Tryd.ntmps60, List.size_toArray, List.length_cons, List.length_nil, Nat.reduceAdd, Nat.reduceSub, Array.replicate_succ, Array.replicate_zero, List.push_toArray, List.append_toArray, List.nil_append, List.cons_append]
  have c0 := k1.cell
  have HA := Lib.hid hAW
  clear hA hAW h1
  gi_wp2_with fail
  gi_loopw [3] (fun i wr => ∃ (k : Nat) (pre : List (Fin l.length)), pre.map Fin.val ++ (List.range k).reverse = (List.range l.length).reverse ∧ k ≤ l.length ∧ i = .int .i64 ((k : Int) - 1) ∧ Boxed wr b1 22 (.slice A l.length cap) ∧ LAt wr w.heap.size A .string l ∧ J pre wr) (fun i _ => (intOf i + 1).toNat)
  case atStart => exact ⟨l.length, [], rfl, by omega, rfl, k1, HA.out, h0⟩
  case round =>
    obtain ⟨k, pre, hpre, hk, rfl, hb1, hA, hj⟩ := hrel
    have c1 := hb1.cell
    have hpl : pre.length + k = l.length := by have := congrArg List.length hpre; simpa using this
    have HPRE := Lib.hid hpre
    have HPL := Lib.hid hpl
    clear k1 h0 c0 HA hpre hpl
    by_cases hlt : 0 < k
    · obtain ⟨m, hm⟩ : ∃ m : Nat, k = m + 1 := ⟨k - 1, by omega⟩
      have hmi : (k : Int) - 1 = (m : Int) := by omega
      have hml : m < l.length := by omega
      obtain ⟨a, rfl, hab, hac⟩ := hA.get hml
      obtain ⟨fn, tmps, assign, body, hy, hR⟩ := hY pre ⟨m, by omega⟩ wr hj (by have := HPL.out; omega)
      dsimp only [encB] at hy
      have z1 : (0 : Int) ≤ (m : Int) := by omega
      have z2 : (m : Int) < (l.length : Int) := by omega
      have HMI := Lib.hid hmi
      have HLA := Lib.hid hA
      have HJ := Lib.hid hj
      have HM := Lib.hid hm
      rw [hmi]
      clear hmi hA hj hm
      gi_wp2_with fail
      refine hR.mono ?_
      rintro e W3 (⟨rfl, hJ3, hk3⟩ | ⟨rfl, hJx3⟩)
      · have hb3 : Boxed W3 b1 22 (.slice (some a) l.length cap) := hk3.1.trans hb1
        have hA3 := HLA.out.kp hk3
        have c3 := hb3.cell
        have HA3 := Lib.hid hA3
        clear c1 hac hA3
        gi_wp2
        refine ⟨⟨m, pre ++ [⟨m, by omega⟩], ?_, by omega, rfl, hb3, HA3.out, hJ3⟩, ?_⟩
        · have hr := HPRE.out
          rw [HM.out, rev_range] at hr
          rw [← hr]; simp
        · simp [intOf] <;> omega
      · gi_wp2
        refine bodyPost_ret (results_none rfl _ _ _) rfl ?_
        exact ⟨⟨_, rfl⟩, .inr ⟨_, trivial, hJx3⟩⟩
    · obtain rfl : k = 0 := by omega
      gi_wp2_with fail
      go_end0
      exact ⟨⟨_, rfl⟩, .inl ⟨_, by simpa using HPRE.out, hj⟩⟩

/-- A slice of pairs of a string and a truth value, at the head of a block. -/
def SAt (w : World) (B : Nat) (A : Option Addr) (l : List (ByteArray × Bool)) : Prop :=
  ∀ i x, l[i]? = some x → ∃ g, A = some ⟨g, 0, none⟩ ∧ g < B ∧ w.cell? ⟨g, i * 2, none⟩ = some (.string x.1) ∧ w.cell? ⟨g, i * 2 + 1, none⟩ = some (.bool x.2)
def sideV (x : ByteArray × Bool) : Value := .agg #[.string x.1, .bool x.2]
def sideC (x : ByteArray × Bool) : List Value := [.string x.1, .bool x.2]
theorem SAt.get {w : World} {B : Nat} {A : Option Addr} {l : List (ByteArray × Bool)} (h : SAt w B A l) {i : Nat} (hi : i < l.length) :
    ∃ g, A = some ⟨g, 0, none⟩ ∧ g < B ∧ w.cell? ⟨g, i * 2, none⟩ = some (.string l[i].1) ∧ w.cell? ⟨g, i * 2 + 1, none⟩ = some (.bool l[i].2) := h i _ (List.getElem?_eq_getElem hi)
theorem SAt.below {w w' : World} {B : Nat} {A : Option Addr} {l : List (ByteArray × Bool)} (h : SAt w B A l) (hb : Below B w w') : SAt w' B A l := fun i x hx => by
  obtain ⟨g, e, hl, hc, hd⟩ := h i x hx
  exact ⟨g, e, hl, (hb.cell (p := ⟨g, i * 2, none⟩) hl).trans hc, (hb.cell (p := ⟨g, i * 2 + 1, none⟩) hl).trans hd⟩
theorem SAt.kp {w w' : World} {B b1 : Nat} {A : Option Addr} {l : List (ByteArray × Bool)} (h : SAt w B A l) (k : KpB b1 A w w') : SAt w' B A l := fun i x hx => by
  obtain ⟨g, e, hl, hc, hd⟩ := h i x hx
  exact ⟨g, e, hl, (World.cell?_of_block (a := ⟨g, i * 2, none⟩) (k.2 ⟨g, 0, none⟩ e)).trans hc, (World.cell?_of_block (a := ⟨g, i * 2 + 1, none⟩) (k.2 ⟨g, 0, none⟩ e)).trans hd⟩

set_option maxHeartbeats 1000000 in
theorem backP_any (A : Option Addr) (n c : Nat) (w : World) :
    Calls Tryd.prog 47 #[.slice A n c] w fun e w' => e = .returned (.func (.func 63) #[] #[.pointer (some ⟨w.heap.size, 0, none⟩)]) ∧ w' = w.alloc (.cells #[.slice A n c] 54) := by
  go_enter Tryd.func47, Tryd.ntmps47
  go_wp2
  go_ret
  exact ⟨rfl, rfl⟩

set_option maxRecDepth 100000 in
set_option maxHeartbeats 4000000 in
theorem backP_iter (A : Option Addr) (l : List (ByteArray × Bool)) (cap b1 : Nat) (hmax : l.length ≤ 1000000) (w : World) (h1 : Boxed w b1 54 (.slice A l.length cap)) (hA : SAt w w.heap.size A l) :
    IterZ Tryd.prog 63 #[.pointer (some ⟨b1, 0, none⟩)] (encB fun i : Fin l.length => sideV l[i.val]) (fun _ => False) (KpB b1 A) (fun xs => xs.map Fin.val = (List.range l.length).reverse) (fun _ => True) l.length w := by
  intro l0 J Jx W hW hJ hJx hY h0
  have k1 : Boxed W b1 54 (.slice A l.length cap) := (hW.block b1 h1.lt).trans h1
  have hAW := hA.below hW
  refine callsIn_of_wp Tryd.func63 rfl trivial ?_ rfl
  simp only [Tryd.ntmps63, List.size_toArray, List.length_cons, List.length_nil, Nat.reduceAdd, Nat.reduceSub, Array.replicate_succ, Array.replicate_zero, List.push_toArray, List.append_toArray, List.nil_append, List.cons_append]
  have c0 := k1.cell
  have HA := Lib.hid hAW
  clear hA hAW h1
  gi_wp2_with fail
  gi_loopw [3] (fun i wr => ∃ (k : Nat) (pre : List (Fin l.length)), pre.map Fin.val ++ (List.range k).reverse = (List.range l.length).reverse ∧ k ≤ l.length ∧ i = .int .i64 ((k : Int) - 1) ∧ Boxed wr b1 54 (.slice A l.length cap) ∧ SAt wr w.heap.size A l ∧ J pre wr) (fun i _ => (intOf i + 1).toNat)
  case atStart => exact ⟨l.length, [], rfl, by omega, rfl, k1, HA.out, h0⟩
  case round =>
    obtain ⟨k, pre, hpre, hk, rfl, hb1, hA, hj⟩ := hrel
    have c1 := hb1.cell
    have hpl : pre.length + k = l.length := by have := congrArg List.length hpre; simpa using this
    have HPRE := Lib.hid hpre
    have HPL := Lib.hid hpl
    clear k1 h0 c0 HA hpre hpl
    by_cases hlt : 0 < k
    · obtain ⟨m, hm⟩ : ∃ m : Nat, k = m + 1 := ⟨k - 1, by omega⟩
      have hmi : (k : Int) - 1 = (m : Int) := by omega
      have hml : m < l.length := by omega
      obtain ⟨g, rfl, hab, hac, had⟩ := hA.get hml
      obtain ⟨fn, tmps, assign, body, hy, hR⟩ := hY pre ⟨m, by omega⟩ wr hj (by have := HPL.out; omega)
      dsimp only [encB, sideV] at hy
      have z1 : (0 : Int) ≤ (m : Int) := by omega
      have z2 : (m : Int) < (l.length : Int) := by omega
      have HMI := Lib.hid hmi
      have HLA := Lib.hid hA
      have HJ := Lib.hid hj
      have HM := Lib.hid hm
      rw [hmi]
      clear hmi hA hj hm
      gi_wp2_with fail
      refine hR.mono ?_
      rintro e W3 (⟨rfl, hJ3, hk3⟩ | ⟨rfl, hJx3⟩)
      · have hb3 : Boxed W3 b1 54 (.slice (some ⟨g, 0, none⟩) l.length cap) := hk3.1.trans hb1
        have hA3 := HLA.out.kp hk3
        have c3 := hb3.cell
        have HA3 := Lib.hid hA3
        clear c1 hac had hA3
        gi_wp2
        refine ⟨⟨m, pre ++ [⟨m, by omega⟩], ?_, by omega, rfl, hb3, HA3.out, hJ3⟩, ?_⟩
        · have hr := HPRE.out
          rw [HM.out, rev_range] at hr
          rw [← hr]; simp
        · simp [intOf] <;> omega
      · gi_wp2
        refine bodyPost_ret (results_none rfl _ _ _) rfl ?_
        exact ⟨⟨_, rfl⟩, .inr ⟨_, trivial, hJx3⟩⟩
    · obtain rfl : k = 0 := by omega
      gi_wp2_with fail
      go_end0
      exact ⟨⟨_, rfl⟩, .inl ⟨_, by simpa using HPRE.out, hj⟩⟩


end Go.Proofs.YtjelniemoambaaaDoor
