/-
  Contract of the laws' helper in (as in Kr0, which stands behind more). Condition: the list lies in memory.
-/
import Derived.Test.YteeifhlhpiimoaaGreatDoorQAa
import Derived.Test.YteeifhlhpiimoaaGreatDoorQAm
namespace Go.Proofs.YteeifhlhpiimoaaGreatDoor
open Go Go.RowKit Go.Shelf
attribute [local go_sem] Oper.semAt_some
theorem guard_eql (x y : Operand) (cs ds : Array Value) (W : World) : (eqGuard .eql 33 x y (.agg cs) (.agg ds)).run Tryz.prog W = .ok () W := by kernel_rfl
set_option maxRecDepth 100000 in
set_option maxHeartbeats 4000000 in
theorem in_walk (l : List Ent) (x : Ent) (A : Option Addr) (n c : Nat) (hn : l.length = n) (hm : n ≤ 9223372036854775807) (w : World) (hA : EAt w (Old w) A l) :
    Calls Tryz.prog 18 #[.slice A n c, x.val] w (ValP w (decide (x ∈ l))) := by
  have HA := Lib.hid hA
  have HN := Lib.hid hn
  have HM := Lib.hid hm
  have IE := fun e : Ent => Lib.hid (ientry (e := e))
  clear hA hn hm
  go_enter Tryz.func18, Tryz.ntmps18
  go_wp2_with (first
    | ((with_reducible refine box_ent rfl (.tmp 1) rfl x ?hx ?_); (case hx => rfl); intro w0 hx0 hb0 hs0; have HX0 := Lib.hid hx0; have HB0 := Lib.hid hb0; obtain ⟨b0, hbb⟩ : ∃ b, w.heap.size = b := ⟨_, rfl⟩; rw [hbb] at HX0; have HBB := Lib.hid hbb; clear hx0 hb0 hs0)
    | fail)
  go_loopw [5] (fun v wr => ∃ i : Nat, v = .int .i64 (i : Int) ∧ i ≤ n ∧ Hid (∀ j e, j < i → l[j]? = some e → e ≠ x) ∧ Hid (EntAt wr b0 x) ∧ Hid (Below w.heap.size w wr)) (fun v _ => n - (intOf v).toNat)
  case atStart => exact ⟨0, rfl, Nat.zero_le _, Lib.hid fun j e hj => (by omega), HX0, HB0⟩
  case round =>
   clear HX0 HB0
   obtain ⟨i, rfl, hi, HT, HX, HB⟩ := hrel
   by_cases hlt : i < n
   ·
    obtain ⟨e, he⟩ : ∃ e, l[i]? = some e := ⟨_, List.getElem?_eq_getElem (by rw [HN.out]; exact hlt)⟩
    obtain ⟨b, hAb, hold, hrg⟩ := HA.out i e he
    have hrg2 : wr.drew.rangeAt b (i * 18) e.cells := fun j v hv => (HB.out.cell (p := ⟨b, i * 18 + j, none⟩) hold).trans (hrg j v hv)
    subst hAb
    have HE := Lib.hid he
    have d1 : decide (i < n) = true := by simp [hlt]
    have z1 : (0 : Int) ≤ (i : Int) := by omega
    have z2 : (i : Int) < (n : Int) := by omega
    have w1 : IntKind.i64.wrap ((i : Int) + 1) = ((i + 1 : Nat) : Int) := by have := HM.out; rw [IntKind.wrap_i64]; omega
    obtain ⟨q, hq⟩ : ∃ q, eqE e x = q := ⟨_, rfl⟩
    have HQ := Lib.hid hq
    have HEQ : Hid (∀ W, (binOp .eql 33 (.agg e.cells.toArray) (.agg x.cells.toArray)).run Tryz.prog W = .ok (.bool q) W) := Lib.hid (fun W => by rw [← hq]; exact eql_ents e x W)
    have hS0 : wr.drew.rangeAt b (i * 18) e.cells ∧ wr.drew.rangeAt b0 0 x.cells := ⟨hrg2, range_of HX.out⟩
    have HLT := Lib.hid hlt
    clear he hrg hrg2 hq hold
    go_wp2_with fail
    refine wp_region_noPanic ?_
    refine wp_region_held_drew (S := fun U => World.rangeAt U b (i * 18) e.cells ∧ World.rangeAt U b0 0 x.cells) (by kernel_rfl) hS0 (fun hHeld => ?_)
    refine tk 0 ?_
    refine tk 1 ?_
    refine tk 2 ?_
    refine tl 3 rfl (yieldsIf_load_mid (by rfl) 33 (.tmp 14) rfl b (i * 18) (by rfl) e.cells _ (fun w hw => hw.1) Tryz.underlying33 rfl (IE e).out) ?_
    refine tl 4 rfl (yieldsIf_load_mid (by rfl) 33 (.tmp 3) rfl b0 0 (by first | rfl | (rw [← HBB.out]; rfl)) x.cells _ (fun w hw => hw.2) Tryz.underlying33 rfl (IE x).out) ?_
    refine tl 5 rfl (yields_eql (by rfl) 33 33 (.tmp 15) (.tmp 16) (by rfl) (.agg e.cells.toArray) (.agg x.cells.toArray) (by rfl) (by rfl) q (fun w => guard_eql _ _ _ _ w) HEQ.out) ?_
    refine dn ?_
    have HBd : Hid (Below w.heap.size w wr.drew) := Lib.hid (Below.drew HB.out)
    have HXd : Hid (EntAt wr.drew b0 x) := HX
    clear hHeld hS0
    cases q
    ·
     go_wp2
     have hne : e ≠ x := fun h => by have := HQ.out; rw [(eqE_iff e x).2 h] at this; cases this
     have HNN : Hid (∀ j f, j < i + 1 → l[j]? = some f → f ≠ x) := Lib.hid fun j f hj hf => by
      rcases Nat.lt_or_ge j i with h | h
      ·
       exact HT.out j f h hf
      ·
       obtain rfl : j = i := by omega
       rw [HE.out] at hf; cases hf; exact hne
     clear hne
     go_round
     case rel => exact ⟨i + 1, rfl, HLT.out, HNN, HXd, HBd⟩
     case measure => simp [intOf]; have := HLT.out; omega
    ·
     go_wp2
     go_ret
     have hin : x ∈ l := by
      have h := (eqE_iff e x).1 HQ.out
      rw [← h]; exact List.mem_of_getElem? HE.out
     rw [decide_eq_true hin]
     exact ⟨rfl, HBd.out⟩
   ·
    have d1 : decide (i < n) = false := by simp; omega
    have hin : ¬ x ∈ l := fun h => by
     obtain ⟨j, hj, e⟩ := List.getElem_of_mem h
     exact HT.out j x (by have := HN.out; omega) (by rw [List.getElem?_eq_getElem hj, e]) rfl
    have HIN := Lib.hid hin
    clear hin
    go_wp2_with fail
    go_ret
    rw [decide_eq_false HIN.out]
    exact ⟨rfl, HB.out⟩
end Go.Proofs.YteeifhlhpiimoaaGreatDoor
