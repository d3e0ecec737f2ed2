/-
  The contract of package digest's writing of words as bytes. Condition: eight words.
-/
import Derived.Test.YtllmciiadceinaaGreatDoorDigC
namespace Go.Proofs.YtllmciiadceinaaGreatDoor
open Go Go.RowKit

theorem outB_take {h : List Nat} {j : Nat} (hj : j < h.length) : outB (h.take (j + 1)) = outB (h.take j) ++ word4 h[j] := by
  unfold outB; rw [List.take_succ_eq_append_getElem hj, List.flatMap_append]; simp
theorem outB_length (h : List Nat) : (outB h).length = 4 * h.length := by
  unfold outB
  induction h with
  | nil => rfl
  | cons x h ih => rw [List.flatMap_cons, List.length_append, ih]; show 4 + _ = _; simp; omega

set_option maxRecDepth 100000 in
set_option maxHeartbeats 2000000 in
theorem digest_walk (h : List Nat) (h8 : h.length = 8) (hlt : ∀ x ∈ h, x < 4294967296) (w : World) :
    Calls Tryz.prog 130 #[.agg (h.map wv).toArray] w fun e w' => e = .returned (.string ⟨(outB h).toArray⟩) ∧ Below w.heap.size w w' := by
  have H8 := Lib.hid h8
  have HLT := Lib.hid hlt
  have hi8 : (Tryz.prog.info? 193).map (·.size) = some 8 := by kernel_rfl
  have I8 := Lib.hid hi8
  have hget : ∀ j (hj : j < 8), (h.map wv).toArray[j]? = some (.int .u32 ((h.getD j 0 : Nat) : Int)) := fun j hj => by
    rw [List.getElem?_toArray, List.getElem?_map, List.getD_eq_getElem?_getD, List.getElem?_eq_getElem (by omega)]; rfl
  have HGT := Lib.hid hget
  clear h8 hlt hi8 hget
  go_enter Tryz.func130, Tryz.ntmps130
  go_wp2_with (first
    | ((with_reducible refine wpList_box_own (f := wv) (l := h) rfl 193 (.tmp 0) rfl ?hx ?_); (case hx => rfl); intro w1 hr1 hb1 hs1)
    | ((with_reducible refine wpList_alloc_own (f := bv) (l := List.replicate 32 0) rfl 217 rfl _ Tryz.zeroValue217 ?hl ?_); (case hl => rfl); intro w2 hr2 hb2 hs2)
    | ((with_reducible refine wpList_load_own (f := wv) (l := h) rfl 193 (.tmp 1) rfl w.heap.size ?hx ?hr _ Tryz.underlying193 rfl 8 I8.out H8.out ?_); (case hx => rfl); (case hr => exact hr1.below hb2 (by omega))))
  have hB2 : Below w.heap.size w w2 := hb1.trans (hb2.mono (by omega))
  have hHP : ∀ k, k < 4 → True := fun _ _ => trivial
  rw [show w1.heap.size = w.heap.size + 1 from hs1] at hr2
  obtain ⟨go, hgo⟩ : ∃ go, w.heap.size + 1 = go := ⟨_, rfl⟩
  rw [hgo] at hr2
  rw [hgo]
  have hgl : w.heap.size ≤ go := by omega
  clear hr1 hb1 hs1 hb2 hs2 hgo hHP
  go_loopw [4, 5, 6, 8, 12] (fun _ _ _ i _ wr => ∃ j : Nat, j ≤ 8 ∧ i = .int .i64 j ∧ RAt wr go bv (fillTo (outB (h.take j)) 32 0) ∧ Below w.heap.size w wr) (fun _ _ _ i _ _ => 8 - (intOf i).toNat)
  case atStart => exact ⟨0, by omega, rfl, by rw [List.take_zero]; exact hr2, hB2⟩
  case round =>
    obtain ⟨j, hj, rfl, hR, hB⟩ := hrel
    have HR := Lib.hid hR
    have HB := Lib.hid hB
    clear hR hB hr2 hB2
    by_cases hlt : j < 8
    · have hix := fun w => run_index_one (P := Tryz.prog) w 193 109 8 (h.map wv).toArray .i64 j _ Tryz.underlying193 Tryz.isAgg109 Tryz.sizeOf109 hlt (HGT.out j hlt)
      have hjh : j < h.length := by have := H8.out; omega
      have hxj : h.getD j 0 = h[j] := by rw [List.getD_eq_getElem?_getD, List.getElem?_eq_getElem hjh]; rfl
      obtain ⟨x, hx⟩ : ∃ x, h.getD j 0 = x := ⟨_, rfl⟩
      have lx : x < 4294967296 := by rw [← hx, hxj]; exact HLT.out _ (List.getElem_mem _)
      rw [hx] at hix
      have ht := outB_take hjh
      rw [← hxj, hx] at ht
      have HTK := Lib.hid ht
      have hlen : (outB (h.take j)).length = 4 * j := by rw [outB_length, List.length_take]; omega
      have HLN := Lib.hid hlen
      clear hxj hx ht hlen hjh
      go_wp2_with fail
      obtain ⟨wq, rfl⟩ : ∃ wq : World, wq = wr := ⟨_, rfl⟩
      clear hix
      go_loopw [6, 12] (fun _ i wr => ∃ k : Nat, k ≤ 4 ∧ i = .int .i64 k ∧ RAt wr go bv (fillTo (outB (h.take j) ++ (word4 x).take k) 32 0) ∧ Below w.heap.size w wr) (fun _ i _ => 4 - (intOf i).toNat)
      case atStart => exact ⟨0, by omega, rfl, by rw [List.take_zero, List.append_nil]; exact HR.out, HB.out⟩
      case round =>
        obtain ⟨k, hk, rfl, hR, hB⟩ := hrel
        clear HR HB
        have HR := Lib.hid hR
        have HB := Lib.hid hB
        clear hR hB
        by_cases hkl : k < 4
        · obtain ⟨p, hp⟩ : ∃ p, 4 * j + k = p := ⟨_, rfl⟩
          obtain ⟨s, hs⟩ : ∃ s, 24 - 8 * k = s := ⟨_, rfl⟩
          have e1 : (24 : Int) - 8 * (k : Int) = (s : Int) := by omega
          have e2 : 4 * (j : Int) + (k : Int) = (p : Int) := by omega
          obtain ⟨y, hy⟩ : ∃ y, x / 2 ^ s % 256 = y := ⟨_, rfl⟩
          have e3 : (x : Int) / 2 ^ s % 256 = (y : Int) := by rw [← hy]; push_cast; rfl
          have hwk : (word4 x)[k]? = some (UInt8.ofNat (x / 2 ^ s)) := by
            rcases (show k = 0 ∨ k = 1 ∨ k = 2 ∨ k = 3 by omega) with rfl | rfl | rfl | rfl <;> subst hs <;> simp [word4]
          have hyu : bv (UInt8.ofNat (x / 2 ^ s)) = .int .u8 (y : Int) := by unfold bv; rw [UInt8.toNat_ofNat', ← hy]
          have hlk : (outB (h.take j) ++ (word4 x).take k).length = p := by rw [List.length_append, HLN.out, List.length_take]; show 4 * j + min k 4 = p; omega
          have hcl := HR.out.get (i := p) (by rw [fillTo_length (by omega)]; omega)
          have hfz := HR.out.free p (by rw [fillTo_length (by omega)]; omega)
          obtain ⟨q, hq⟩ : ∃ q, (fillTo (outB (h.take j) ++ (word4 x).take k) 32 0)[p]'(by rw [fillTo_length (by omega)]; omega) = q := ⟨_, rfl⟩
          rw [hq] at hcl
          unfold bv at hcl
          have hset := HR.out.setv p (by rw [fillTo_length (by omega)]; omega) (UInt8.ofNat (x / 2 ^ s)) (.int .u8 y) hyu.symm
          have hs2 := fillTo_set (l := outB (h.take j) ++ (word4 x).take k) (n := 32) (z := 0) (x := UInt8.ofNat (x / 2 ^ s)) (by omega)
          rw [hlk] at hs2
          have hkw : k < (word4 x).length := hkl
          rw [hs2, List.append_assoc, show (word4 x).take k ++ [UInt8.ofNat (x / 2 ^ s)] = (word4 x).take (k + 1) by rw [List.take_succ_eq_append_getElem hkw, (List.getElem?_eq_some_iff.1 hwk).2]] at hset
          have HSET := Lib.hid hset
          have b0 : (0 : Int) ≤ (p : Int) := by omega
          have b1 : (p : Int) < 32 := by omega
          clear hset hs2 hq hlk hyu hwk hy hkw hp hs
          go_wp2_with fail
          exact ⟨⟨k + 1, by omega, rfl, HSET.out, HB.out.setCell (p := ⟨go, p, none⟩) hgl _⟩, by simp [intOf]; omega⟩
        · obtain rfl : k = 4 := by omega
          have hR := HR.out
          rw [List.take_of_length_le (show (word4 x).length ≤ 4 from Nat.le_refl _), ← HTK.out] at hR
          have HR := Lib.hid hR
          clear hR
          go_wp2_with fail
          exact ⟨⟨j + 1, by omega, rfl, HR.out, HB.out⟩, by simp [intOf]; omega⟩
    · obtain rfl : j = 8 := by omega
      have hR := HR.out
      rw [List.take_of_length_le (by have := H8.out; omega), fillTo_full (by rw [outB_length, H8.out])] at hR
      have hcv := hR.convert (P := Tryz.prog) (cap := 32) (by rw [outB_length, H8.out]) 39 9 5 Tryz.underlying39 Tryz.underlying5 Tryz.underlying9
      clear hR HR
      go_wp2_with fail
      go_ret
      exact ⟨rfl, HB.out⟩

end Go.Proofs.YtllmciiadceinaaGreatDoor
