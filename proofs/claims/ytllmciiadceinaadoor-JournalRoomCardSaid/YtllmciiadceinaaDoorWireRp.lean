/-
  Contracts of the reference implementation of package wire. Condition: the string is shorter than 2^62 bytes.
-/
import Derived.Test.YtllmciiadceinaaDoorWireB
import Derived.Test.YtllmciiadceinaaDoorWireLaw
import Derived.Lib.Strings
namespace Go.Proofs.YtllmciiadceinaaDoor.Wr
open Go Go.RowKit

set_option maxHeartbeats 1000000 in
theorem refZig (n : Int) (h1 : -4611686018427387903 ≤ n) (h2 : n ≤ 4611686018427387903) (w : World) :
    Calls Tryd.prog 50 #[.int .i64 n] w fun e w' => e = .returned (.int .u64 (zig n : Int)) ∧ w = w' := by
  by_cases h : n < 0
  · have hz : (zig n : Int) = -n * 2 - 1 := by unfold zig; rw [if_neg (by omega)]; omega
    have HZ := Lib.hid hz
    clear hz
    go_enter Tryd.func50, Tryd.ntmps50
    go_wp2_with fail
    go_ret
    exact ⟨by rw [HZ.out]; try rfl, rfl⟩
  · have hz : (zig n : Int) = n * 2 := by unfold zig; rw [if_pos (by omega)]; omega
    have HZ := Lib.hid hz
    clear hz
    go_enter Tryd.func50, Tryd.ntmps50
    go_wp2_with fail
    go_ret
    exact ⟨by rw [HZ.out]; try rfl, rfl⟩

set_option maxRecDepth 100000 in
set_option maxHeartbeats 4000000 in
theorem refPutInt_yes (n : Int) (h1 : -4611686018427387903 ≤ n) (h2 : n ≤ 4611686018427387903) (w : World) :
    Calls Tryd.prog 27 #[.int .i64 n] w fun e w' => e = .returned (.tuple #[.string ⟨(putI n).toArray⟩, .int .i64 0]) ∧ Below w.heap.size w w' := by
  have hzl := zig_lt h1 h2
  have hput : putI n = leb (zig n) := rfl
  rw [hput]
  have HR := Lib.hid (fun W => refZig n h1 h2 W)
  obtain ⟨z, hz⟩ : ∃ z, zig n = z := ⟨_, rfl⟩
  rw [hz] at hzl HR ⊢
  have hd1 : decide (n < -4611686018427387903) = false := by simp; omega
  have hd2 : decide (4611686018427387903 < n) = false := by simp; omega
  clear hz hput
  obtain ⟨i0, hi, hz0, hz1, hz2⟩ := info_parts Tryd.info5
  go_enter Tryd.func27, Tryd.ntmps27
  go_wp2_with (go_at_call 50; refine (HR.out _).mono ?_; rintro e w1 ⟨rfl, rfl⟩)
  go_loopw [4, 5] (fun zv v wr => ∃ (pre : List UInt8) (f c : Nat), zv = .int .u64 c ∧ c < 128 ^ (f + 1) ∧ pre.length + f = 9 ∧ c ≤ z ∧ leb z = pre ++ lebF f c ∧ wr.ownsRow w.heap.size 5 1 v pre.length (pre.map bv) ∧ Below w.heap.size w wr) (fun zv _ _ => (intOf zv).toNat)
  case atStart => exact ⟨[], 9, z, rfl, Nat.lt_of_lt_of_le hzl (by decide), rfl, Nat.le_refl _, rfl, World.ownsRow_nil _ _ _ _, Below.refl _ _⟩
  case round =>
    obtain ⟨pre, f, c, rfl, hc, hpf, hcz, hl, hrow, hB⟩ := hrel
    have hbs := hB.size
    have Hc := Lib.hid hc
    have Hl := Lib.hid hl
    clear hc hl
    by_cases hlt : c < 128
    · have h3 : decide (128 ≤ (c : Int)) = false := by simp; omega
      go_wp2_with (at_builtin; refine wpList_append_own _ rfl _ _ 38 rfl w.heap.size 5 i0 (.int .u8 0) 1 1 Tryd.underlying38 hi hz0 hz1 hz2 rfl (by decide) _ _ _ rfl (hrow.alloc _) ⟨wr.heap.size, 0, none⟩ 1 1 [_] rfl rfl (cell_one_new _ _ _) (by simp [Value.oneCell']) (by unfold maxLen; omega) (by omega) (by simp; omega) ?_; intro v' w1 hown' hgrow _)
      have eb : (UInt8.ofNat c).toNat = c := by simp; omega
      have hown2 : w1.ownsRow w.heap.size 5 1 v' (pre ++ [UInt8.ofNat c]).length ((pre ++ [UInt8.ofNat c]).map bv) := by
        simpa [bv, eb] using hown'
      have hconv := convert_own (P := Tryd.prog) 38 9 Tryd.underlying38 Tryd.underlying5 Tryd.underlying9 hown2
      have hall : leb z = pre ++ [UInt8.ofNat c] := by rw [Hl.out, lebF_last hlt]
      have HA := Lib.hid hall
      have hB1 : Below w.heap.size w w1 := (hB.alloc hbs _).grown hgrow (by simp; omega) (fun k e => (hrow.lt k e).1)
      clear hown' hown2 hall hgrow eb hrow
      rw [hconv]
      go_wp2_with fail
      go_ret2
      exact ⟨by rw [HA.out]; try rfl, hB1⟩
    · have h3 : decide (128 ≤ (c : Int)) = true := by simp; omega
      go_wp2_with (at_builtin; refine wpList_append_own _ rfl _ _ 38 rfl w.heap.size 5 i0 (.int .u8 0) 1 1 Tryd.underlying38 hi hz0 hz1 hz2 rfl (by decide) _ _ _ rfl (hrow.alloc _) ⟨wr.heap.size, 0, none⟩ 1 1 [_] rfl rfl (cell_one_new _ _ _) (by simp [Value.oneCell']) (by unfold maxLen; omega) (by omega) (by simp; omega) ?_; intro v' w1 hown' hgrow _)
      have hB1 : Below w.heap.size w w1 := (hB.alloc hbs _).grown hgrow (by simp; omega) (fun k e => (hrow.lt k e).1)
      obtain ⟨g, rfl, e, hg⟩ := lebF_more (by omega) Hc.out
      have eb : ((UInt8.ofNat (c % 128 + 128)).toNat : Int) = (c : Int) % 128 + 128 := by simp; omega
      go_roundw
      case rel => exact ⟨pre ++ [UInt8.ofNat (c % 128 + 128)], g, c / 128, by go_num, hg, by simp; omega, by omega, by rw [Hl.out, e]; simp, by rw [List.map_append, List.length_append]; simp only [List.map_cons, List.map_nil, bv, eb, List.length_cons, List.length_nil]; exact hown', hB1⟩
      case measure => simp [intOf]; omega

set_option maxHeartbeats 1000000 in
theorem refPutInt_no (n : Int) (h : n < -4611686018427387903 ∨ 4611686018427387903 < n) (w : World) :
    Calls Tryd.prog 27 #[.int .i64 n] w fun e w' => e = .returned (.tuple #[.string ⟨#[]⟩, .int .i64 10]) ∧ w = w' := by
  rcases h with h | h
  · go_enter Tryd.func27, Tryd.ntmps27
    go_wp2_with fail
    go_ret2
    exact ⟨rfl, rfl⟩
  · have h' : decide (n < -4611686018427387903) = false := by simp; omega
    go_enter Tryd.func27, Tryd.ntmps27
    go_wp2_with fail
    go_ret2
    exact ⟨rfl, rfl⟩

set_option maxHeartbeats 1000000 in
theorem refPutString_yes (s : ByteArray) (h : s.size ≤ 65536) (w : World) :
    Calls Tryd.prog 10 #[.string s] w fun e w' => e = .returned (.tuple #[.string (⟨(putI s.size).toArray⟩ ++ s), .int .i64 0]) ∧ Below w.heap.size w w' := by
  have hl := putI_length s.size
  go_enter Tryd.func10, Tryd.ntmps10
  go_wp2_with (go_at_call 27; refine (refPutInt_yes _ (by omega) (by omega) _).mono ?_; rintro e w1 ⟨rfl, hb1⟩)
  go_ret2
  exact ⟨rfl, hb1⟩

end Go.Proofs.YtllmciiadceinaaDoor.Wr
