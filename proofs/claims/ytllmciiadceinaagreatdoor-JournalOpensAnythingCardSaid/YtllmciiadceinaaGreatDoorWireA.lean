/-
  Contracts of package wire's functions that encode: groups and PutInt. Condition: the integer argument fits its kind.
-/
import Derived.Test.YtllmciiadceinaaGreatDoorRange
import Derived.Test.YtllmciiadceinaaGreatDoorWirePlain
import Derived.Test.YtllmciiadceinaaGreatDoorProg
import Derived.ProofKit
import Derived.Outline
import Derived.WalkSpells
import Derived.WalkLawsBesides
import Derived.Laws.BitsAllLaws
import Derived.Shelf.Abstract
import Derived.TacticsInMore
import Derived.LoopNIn
import Derived.LoopIn
import Derived.Maps.AppendAt
import Derived.Lib.Hide
import Derived.Lib.BufferRead
import Derived.Deep.Onto
namespace Go.Proofs.YtllmciiadceinaaGreatDoor.Wr
open Go Go.RowKit Go.Shelf
attribute [local go_sem] Oper.semAt_some

theorem Tryz.info5 : (Tryz.prog.info? 5).map (fun i => (i.zero, i.size, i.bytes)) = some (some (.int .u8 0), 1, 1) := by kernel_rfl

/-- A row of bytes as values. -/
def bv (b : UInt8) : Value := .int .u8 (b.toNat : Int)

/-- 'string(b)' of a slice of bytes that the call owns. -/
theorem convert_own {P : Program} {w : World} {base : Nat} {e : TypeId} {v : Value} {l : List UInt8} (src dst : TypeId) (hs : P.underlying src = some (.slice e)) (he : P.underlying e = some (.int .u8)) (hd : P.underlying dst = some .string)
    (h : w.ownsRow base e 1 v l.length (l.map bv)) : (convert src dst v).run P w = .ok (.string ⟨l.toArray⟩) w := by
  rcases h.2 with ⟨rfl, h0⟩ | ⟨g, cap, cur, rfl, hg, hh, h1, h2, h3, h4⟩
  · obtain rfl : l = [] := List.length_eq_zero_iff.1 h0
    exact Lib.run_convert_nil_bytes w src dst e 0 hs he hd
  · refine run_convert_bytes_back w src dst e ⟨g, 0, none⟩ cap l hs he hd (fun j hj => ?_)
    have := h.cells (g := g) rfl j (.int .u8 (l[j].toNat : Int)) (by simp [bv, List.getElem?_eq_getElem hj])
    exact this

set_option maxHeartbeats 1000000 in
theorem groups_any (z : Int) (w : World) :
    Calls Tryz.prog 112 #[.int .u64 z] w fun e w' => e = .returned (.func (.func 132) #[] #[.pointer (some ⟨w.heap.size, 0, none⟩)]) ∧ w' = w.alloc (.cells #[.int .u64 z] 141) := by
  go_enter Tryz.func112, Tryz.ntmps112
  go_wp2
  go_ret
  exact ⟨rfl, rfl⟩

/-- How much is left in the captured variable. -/
def leftOf (bz : Nat) (w : World) : Nat := match w.cell? ⟨bz, 0, none⟩ with | some (.int _ n) => n.toNat | _ => 0

def encG (x : Nat × Bool) : Array Value := #[.int .u8 (x.1 : Int), .bool x.2]

set_option maxRecDepth 100000 in
set_option maxHeartbeats 4000000 in
theorem groups_iter (z bz : Nat) (hz : z < 18446744073709551616) (w : World) (hb : Boxed w bz 141 (.int .u64 (z : Int))) :
    IterZ Tryz.prog 132 #[.pointer (some ⟨bz, 0, none⟩)] encG (fun k => k = bz) (fun A B => B.heap[bz]? = A.heap[bz]?) (fun xs => xs = grp z) (fun _ => True) (grp z).length w := by
  intro l J Jx W hW hJ hJx hY h0
  have hbW : Boxed W bz 141 (.int .u64 (z : Int)) := (hW.block bz hb.lt).trans hb
  refine callsIn_of_wp Tryz.func132 rfl trivial ?_ rfl
  simp only [Tryz.ntmps132, List.size_toArray, List.length_cons, List.length_nil, Nat.reduceAdd, Nat.reduceSub, Array.replicate_succ, Array.replicate_zero, List.push_toArray, List.append_toArray, List.nil_append, List.cons_append]
  gi_wp2_with fail
  gi_loopw [3] (fun _ wr => ∃ (pre : List (Nat × Bool)) (f c : Nat), Boxed wr bz 141 (.int .u64 (c : Int)) ∧ c < 128 ^ (f + 1) ∧ c ≤ z ∧ grp z = pre ++ grpF f c ∧ J pre wr) (fun _ wr => leftOf bz wr)
  case atStart => exact ⟨[], 9, z, hbW, Nat.lt_trans hz (by decide), Nat.le_refl _, rfl, h0⟩
  case round =>
    obtain ⟨pre, f, c, hbox, hc, hcz, hg, hj⟩ := hrel
    have hcell := hbox.cell
    have hfro := hbox.frozen
    have hpl : pre.length < (grp z).length := by
      rw [hg]; have : 0 < (grpF f c).length := by cases f <;> simp [grpF]; split <;> simp
      simp; omega
    have hbz : bz < wr.heap.size := hbox.lt
    by_cases hlt : c < 128
    · have h1 : bits .and .u64 (c : Int) 127 = (c : Int) := by
        have := u64_and_nat c 127 (by omega) (by omega)
        rw [nat_mask7, Nat.mod_eq_of_lt hlt] at this; exact this
      have h2 : (c : Int) % 256 = (c : Int) := by omega
      have h3 : ((c : Int) < 128) := by omega
      obtain ⟨fn, tmps, assign, body, hy, hR⟩ := hY pre (c, true) wr hj hpl
      dsimp only [encG] at hy
      gi_wp2_with fail
      refine hR.mono ?_
      have hend : grp z = pre ++ [(c, true)] := by rw [hg, grpF_last hlt]
      have Hend := Lib.hid hend
      clear hend hg h1 h2
      rintro e W3 (⟨rfl, hJ3, hk3⟩ | ⟨rfl, hJx3⟩)
      · gi_wp2
        refine bodyPost_ret (results_none rfl _ _ _) rfl ?_
        exact ⟨⟨_, rfl⟩, .inl ⟨_, Hend.out.symm, hJ3⟩⟩
      · gi_wp2
        refine bodyPost_ret (results_none rfl _ _ _) rfl ?_
        exact ⟨⟨_, rfl⟩, .inr ⟨_, trivial, hJx3⟩⟩
    · obtain ⟨g, hf, hgr, hgb⟩ := grpF_more (f := f) (by omega) hc
      have h1 : bits .and .u64 (c : Int) 127 = ((c % 128 : Nat) : Int) := by
        have := u64_and_nat c 127 (by omega) (by omega)
        rw [nat_mask7] at this; exact this
      obtain ⟨q, hq⟩ : ∃ q, c % 128 = q := ⟨_, rfl⟩
      rw [hq] at h1 hgr
      have hq8 : q < 128 := by omega
      have h2 : (q : Int) % 256 = (q : Int) := by omega
      have h3 : decide ((c : Int) < 128) = false := by simp; omega
      have h4 : (c : Int) / 128 = ((c / 128 : Nat) : Int) := by omega
      have hlt2 : c / 128 < c := by omega
      have hgz : grp z = (pre ++ [(q, false)]) ++ grpF g (c / 128) := by rw [hg, hgr]; simp
      obtain ⟨d, hd⟩ : ∃ d, c / 128 = d := ⟨_, rfl⟩
      rw [hd] at h4 hlt2 hgz hgb
      have Hgz := Lib.hid hgz
      obtain ⟨fn, tmps, assign, body, hy, hR⟩ := hY pre (q, false) wr hj hpl
      dsimp only [encG] at hy
      clear hgz hg hgr hq hd hf
      gi_wp2_with fail
      refine hR.mono ?_
      rintro e W3 (⟨rfl, hJ3, hk3⟩ | ⟨rfl, hJx3⟩)
      · have hbox3 : Boxed W3 bz 141 (.int .u64 (c : Int)) := hk3.trans hbox
        have hcell3 := hbox3.cell
        have hfro3 := hbox3.frozen
        have hset := hbox3.set (.int .u64 (d : Int))
        clear hcell hfro hk3 h1 h2
        gi_wp2
        go_roundw
        case rel => exact ⟨pre ++ [(q, false)], g, d, hset, hgb, by omega, Hgz.out, hJ _ _ _ hJ3 (Turns.setCell _ _ _ rfl)⟩
        case measure =>
          have e1 := hset.cell
          simp only [leftOf, e1, hbox.cell]
          simpa using hlt2
      · gi_wp2
        refine bodyPost_ret (results_none rfl _ _ _) rfl ?_
        exact ⟨⟨_, rfl⟩, .inr ⟨_, trivial, hJx3⟩⟩


theorem wrap_u64 (n : Int) : IntKind.u64.wrap n = n % 18446744073709551616 := by simp [IntKind.wrap, IntKind.bits, IntKind.signed]

theorem zig_bits (n : Int) (h1 : -4611686018427387903 ≤ n) (h2 : n ≤ 4611686018427387903) :
    bits .xor .u64 (IntKind.u64.wrap (IntKind.u64.wrap n * 2)) (IntKind.u64.wrap (n / 9223372036854775808)) = (zig n : Int) := by
  rw [wrap_u64, wrap_u64, wrap_u64]
  by_cases h : 0 ≤ n
  · rw [u64_xor _ _ (by omega) (by omega) (by omega) (by omega)]
    have e1 : ((n % 18446744073709551616 * 2) % 18446744073709551616).toNat = zig n := by unfold zig; rw [if_pos h]; omega
    have e2 : (n / 9223372036854775808 % 18446744073709551616).toNat = 0 := by omega
    rw [e1, e2, Nat.xor_zero]
  · rw [u64_xor _ _ (by omega) (by omega) (by omega) (by omega)]
    have e1 : ((n % 18446744073709551616 * 2) % 18446744073709551616).toNat = 18446744073709551615 - zig n := by unfold zig; rw [if_neg h]; omega
    have e2 : (n / 9223372036854775808 % 18446744073709551616).toNat = 2 ^ 64 - 1 := by omega
    have hz := zig_lt h1 h2
    have e3 : (18446744073709551615 - zig n) ^^^ (2 ^ 64 - 1) = zig n := by
      apply Nat.eq_of_testBit_eq
      intro i
      rw [Nat.testBit_xor, Nat.testBit_two_pow_sub_one]
      have : (18446744073709551615 - zig n) = 2 ^ 64 - 1 - zig n := rfl
      have e4 := Nat.testBit_two_pow_sub_succ (x := zig n) (n := 64) (by omega) i
      rw [this, show 2 ^ 64 - 1 - zig n = 2 ^ 64 - (zig n + 1) by omega, e4]
      by_cases hi : i < 64
      · simp [hi]
      · have : (zig n).testBit i = false := Nat.testBit_lt_two_pow (Nat.lt_of_lt_of_le (show zig n < 2 ^ 64 by omega) (Nat.pow_le_pow_right (by decide) (by omega)))
        simp [hi, this]
    rw [e1, e2, e3]

def encB (x : Nat × Bool) : Value := .int .u8 (if x.2 then (x.1 : Int) else bits .or .u8 (x.1 : Int) 128)

theorem encB_grp (f z : Nat) (hz : z < 128 ^ (f + 1)) : (grpF f z).map encB = (lebF f z).map bv := by
  induction f generalizing z with
  | zero =>
    have : z < 128 := by simpa using hz
    have e : (UInt8.ofNat z).toNat = z := by simp; omega
    simp [lebF, grpF, encB, lebN, bv, e]
  | succ f ih =>
    by_cases h : z < 128
    · have e : (UInt8.ofNat z).toNat = z := by simp; omega
      simp [lebF, grpF_last h, encB, lebN, bv, e]
    · obtain ⟨g, hg, he, hl⟩ := grpF_more (by omega) hz
      obtain rfl : f = g := by omega
      have ih' := ih _ hl
      have hq : z % 128 < 128 := Nat.mod_lt _ (by decide)
      have e0 : bits .or .u8 ((z % 128 : Nat) : Int) 128 = ((z % 128 + 128 : Nat) : Int) := by
        have := u8_or_nat (z % 128) 128 (by omega) (by decide)
        rw [Nat.or_comm, nat_join 7 128 (z % 128) (by decide) (by omega), Nat.add_comm] at this
        exact this
      have e1 : (UInt8.ofNat (z % 128 + 128)).toNat = z % 128 + 128 := by simp; omega
      simp only [lebF] at ih'
      simp only [lebF, he, List.map_cons, encB, lebN, bv, e1, ih', Bool.false_eq_true, if_false]
      rw [e0]

/-- An append to a slice that lies in a box. -/
theorem boxAppend {W w1 : World} {n₀ base B : Nat} {t e : TypeId} {size : Nat} {v v' : Value} {k m : Nat} {xs ys : List Value} {tmp : Obj}
    (hv : Boxed W B t v) (hte : t ≠ e) (hrow : W.ownsRow base e size v k xs) (hn₀ : n₀ ≤ W.heap.size) (hB : n₀ ≤ B) (hb : n₀ ≤ base)
    (hown' : w1.ownsRow base e size v' m ys) (hgrow : (W.alloc tmp).grownBy w1 v.ownBlock) :
    Boxed w1 B t v ∧ Boxed (w1.setCell ⟨B, 0, none⟩ v') B t v' ∧ (w1.setCell ⟨B, 0, none⟩ v').ownsRow base e size v' m ys ∧ KeepsOthers W (w1.setCell ⟨B, 0, none⟩ v') ∧ Below n₀ W (w1.setCell ⟨B, 0, none⟩ v') ∧
    (∀ k, k < base → k ≠ B → k < W.heap.size → (w1.setCell ⟨B, 0, none⟩ v').heap[k]? = W.heap[k]?) := by
  obtain ⟨a1, a2, _, a4, a5⟩ := hv.appended hte (hrow.mono hb) hn₀ hB (hown'.mono hb) hgrow
  refine ⟨a1, a2, hown'.kept (grownBy_setCell' w1 B v') (.inr (a1.not_row hte hown').symm), a4, a5, fun k hk hkB hkW => ?_⟩
  rw [Below.heap_setCell _ _ _ _ hkB, hgrow.block k (by simp; omega) (fun e => ?_), Below.heap_alloc _ _ _ hkW]
  have := (hrow.lt k e.symm).1
  omega

set_option maxRecDepth 100000 in
set_option maxHeartbeats 4000000 in
theorem putInt_yes (n : Int) (h1 : -4611686018427387903 ≤ n) (h2 : n ≤ 4611686018427387903) (w : World) :
    Calls Tryz.prog 96 #[.int .i64 n] w fun e w' => e = .returned (.tuple #[.string ⟨(putI n).toArray⟩, .int .i64 0]) ∧ Below w.heap.size w w' := by
  have hzl := zig_lt h1 h2
  have hzb := zig_bits n h1 h2
  obtain ⟨z, hz⟩ : ∃ z, zig n = z := ⟨_, rfl⟩
  rw [hz] at hzl hzb
  have HZ := Lib.hid hz
  have HB := Lib.hid hzb
  clear hz hzb
  have hne : 0 < (grp z).length := by simp only [grp, grpF]; split <;> simp
  have hle : (grp z).length ≤ 10 := grpF_length _ _
  obtain ⟨i0, hi, hz0, hz1, hz2⟩ := info_parts Tryz.info5
  refine (callsIn_wide (n := 3)).1 ?_
  refine callsIn_of_wp_marks Tryz.func96 rfl trivial ?_ rfl
  simp only [Tryz.ntmps96, List.size_toArray, List.length_cons, List.length_nil, Nat.reduceAdd, Nat.reduceSub, Array.replicate_succ, Array.replicate_zero, List.push_toArray, List.append_toArray, List.nil_append, List.cons_append]
  gi_wp2_with fail
  refine ⟨trivial, ?_⟩
  rw [HB.out]
  refine (callsIn_wide.2 (groups_any _ _)).mono ?_
  rintro e w' ⟨rfl, rfl⟩
  have bO := Boxed.new w 39 (.slice none 0 0)
  have bN := Boxed.new (w.alloc (.cells #[.slice none 0 0] 39)) 141 (.int .u64 (z : Int))
  rw [World.size_alloc] at bN
  have hB0 : Below w.heap.size w ((w.alloc (.cells #[.slice none 0 0] 39)).alloc (.cells #[.int .u64 (z : Int)] 141)) := ((Below.refl _ w).alloc (Nat.le_refl _) _).alloc (by simp) _
  have hsz : ((w.alloc (.cells #[.slice none 0 0] 39)).alloc (.cells #[.int .u64 (z : Int)] 141)).heap.size = w.heap.size + 2 := by simp
  rw [World.size_alloc]
  gi_wp2_with fail
  refine wp_rangeZ (gf := 132) (lb := #[.pointer (some ⟨w.heap.size + 1, 0, none⟩)]) rfl (enters_of Tryz.func132 (by kernel_rfl) rfl)
    (groups_iter z (w.heap.size + 1) (by omega) _ bN) (Below.refl _ _) (fun k hk => by rw [hk, hsz]; omega) (fun _ => rfl) (fun h k => k.trans h) (fun W o => World.putObj_heap_other (by rw [hsz]; omega))
    (fun pre W => (∃ v, Boxed W w.heap.size 39 v ∧ W.ownsRow (w.heap.size + 4) 5 1 v pre.length (pre.map encB)) ∧ Below w.heap.size w W)
    (fun _ _ _ => False)
    (fun s A B h t => by
      obtain ⟨⟨v, hv, hr⟩, hb⟩ := h
      refine ⟨⟨v, t.boxed hv ?_, t.ownsRow hr ?_⟩, t.below hb (Nat.le_refl _) ?_⟩
      · rintro (e | e | e) <;> first | omega | (rw [hsz] at e; omega)
      · rintro k (e | e | e) <;> first | omega | (rw [hsz] at e; omega)
      · rintro k (e | e | e) <;> first | omega | (rw [hsz] at e; omega))
    (fun _ _ _ _ h _ => h.elim)
    ⟨⟨_, bO.alloc _, World.ownsRow_nil _ _ _ _⟩, hB0⟩
    ?a1 ?assign ?body ?done ?stop
  case assign =>
    intro l x W K hK
    dsimp only [encG]
    gi_wp2
    exact hK
  case body =>
    rintro l pre ⟨g, last⟩ W hW ⟨⟨v, hv, hrow⟩, hB⟩ hlt
    dsimp only
    rw [hsz] at hW
    have hc := hv.cell
    have hbs := hB.size
    have Hz : Hid (W.heap[w.heap.size + 1]? = W.heap[w.heap.size + 1]?) := rfl
    cases last
    all_goals
      gi_wp2_with (gi_at_builtin; refine wpListIn_append_own _ rfl _ _ 39 rfl (w.heap.size + 4) 5 i0 (.int .u8 0) 1 1 Tryz.underlying39 hi hz0 hz1 hz2 rfl (by decide) _ _ _ rfl (hrow.alloc _) ⟨W.heap.size, 0, none⟩ 1 1 [_] rfl rfl (cell_one_new _ _ _) (by simp [Value.oneCell']) (by unfold maxLen; omega) (by omega) (by simp; omega) ?_; intro v' w1 hown' hgrow _; obtain ⟨g', cap', rfl⟩ := ownsRow_succ hown'; obtain ⟨hv1, hv2, hr2, hk2, hb2, hs2⟩ := boxAppend hv (by decide) hrow hB.size (Nat.le_refl _) (by omega) hown' hgrow; have hc1 := hv1.cell; have hf1 := hv1.frozen)
      exact ⟨hk2.from _, hs2 _ (by omega) (by omega) (by omega), ⟨_, hv2, by simpa [encB] using hr2⟩, hB.trans hb2⟩
  case done =>
    rintro xs W rfl ⟨⟨v, hv, hrow⟩, hB⟩ hK
    rw [hsz] at hK
    have hc := hv.cell
    have hbs := hB.size
    rw [grp, encB_grp 9 z (by omega)] at hrow
    have hll : (grpF 9 z).length = (leb z).length := by simp [leb, lebF]
    rw [hll] at hrow
    have hconv := convert_own (P := Tryz.prog) 39 9 Tryz.underlying39 Tryz.underlying5 Tryz.underlying9 hrow
    have hput : putI n = leb z := by unfold putI; rw [HZ.out]
    have Hput := Lib.hid hput
    clear hput hll hne hle
    gi_wp2
    refine ⟨by simp, .inl ⟨_, _, rfl, run_takeDeferred (by rw [hsz]; exact hK), ?_⟩⟩
    refine ⟨_, results_tmp2 rfl _ _ _, ?_, (Turns.putObj (Z := fun k => k = w.heap.size + 2) W _ _ hsz).below hB (Nat.le_refl _) (fun k hk => by omega)⟩
    rw [Hput.out]; rfl
  case stop =>
    rintro c pre W _ h _
    exact h.elim

set_option maxHeartbeats 1000000 in
theorem putInt_no (n : Int) (h : n < -4611686018427387903 ∨ 4611686018427387903 < n) (w : World) :
    Calls Tryz.prog 96 #[.int .i64 n] w fun e w' => e = .returned (.tuple #[.string ⟨#[]⟩, .int .i64 10]) ∧ w = w' := by
  rcases h with h | h
  · go_enter Tryz.func96, Tryz.ntmps96
    go_wp2_with fail
    go_ret2
    exact ⟨rfl, rfl⟩
  · have h' : decide (n < -4611686018427387903) = false := by simp; omega
    go_enter Tryz.func96, Tryz.ntmps96
    go_wp2_with fail
    go_ret2
    exact ⟨rfl, rfl⟩

end Go.Proofs.YtllmciiadceinaaGreatDoor.Wr
