/-
  Contracts of the reference's rotated, constants, extended. Conditions: bounds.
-/
import Derived.Test.YtjelniemoambaaaDoorLawA
namespace Go.Proofs.YtjelniemoambaaaDoor
open Go Go.RowKit Go.Shelf

theorem elemU8 : Elem Tryd.prog 46 5 1 1 := Elem.mk' Tryd.underlying46 Tryd.infoU8 rfl (by decide)
theorem Tryd.infoU32 : (Tryd.prog.info? 69).map (fun i => (i.zero, i.size, i.bytes)) = some (some (.int .u32 0), 1, 4) := by kernel_rfl
theorem elemU32 : Elem Tryd.prog 77 69 1 4 := Elem.mk' Tryd.underlying77 Tryd.infoU32 rfl (by decide)

set_option maxHeartbeats 2000000 in
theorem rotated_walk (x n : Nat) (hx : x < 4294967296) (h0 : 0 < n) (h1 : n < 32) (w : World) :
    Calls Tryd.prog 69 #[.int .u32 x, .int .i64 n] w fun e w' => e = .returned (.int .u32 (rotr n x : Nat)) ∧ ∃ k, w' = w.drewN k := by
  obtain ⟨m, hm⟩ : ∃ m, 32 - n = m := ⟨_, rfl⟩
  have m0 : 0 < m := by omega
  have m1 : m < 32 := by omega
  have e1 : IntKind.i64.wrap (32 - (n : Int)) = (m : Int) := by rw [IntKind.wrap_i64]; omega
  have e2 : (32 : Int) - (n : Int) = (m : Int) := by omega
  have z1 : (0 : Int) ≤ (n : Int) := by omega
  have z2 : (0 : Int) ≤ (m : Int) := by omega
  have z3 : (n : Int) < 32 := by omega
  have z4 : (m : Int) < 32 := by omega
  go_enter Tryd.func69, Tryd.ntmps69
  go_wp2_with fail
  go_quiet (fail)
  go_wp2_with fail
  have hf : bits .or .u32 ((x : Int) / 2 ^ n) ((x : Int) * 2 ^ m % 4294967296) = ((rotr n x : Nat) : Int) := by
    have a1 : (x : Int) * 2 ^ m % 4294967296 = ((x * 2 ^ m % 4294967296 : Nat) : Int) := by rw [Int.natCast_emod, Int.natCast_mul, Int.natCast_pow]; rfl
    have a2 : (x : Int) / 2 ^ n = ((x / 2 ^ n : Nat) : Int) := by push_cast; rfl
    rw [a1, a2]
    refine (u32_or_nat _ _ (div_pow_lt hx) (Nat.mod_lt _ (by decide))).trans ?_
    rw [← hm]; rfl
  go_ret
  exact ⟨congrArg (fun v => Ending.returned (.int .u32 v)) hf, nq, rfl⟩

set_option maxRecDepth 100000 in
theorem constants_walk (w : World) :
    Calls Tryd.prog 70 #[] w fun e w' => e = .returned (.slice (some ⟨w.heap.size, 0, none⟩) 64 64) ∧ RAt w' w.heap.size wv shaK ∧ Below w.heap.size w w' := by
  go_enter Tryd.func70, Tryd.ntmps70
  go_wp2_with fail
  go_ret
  exact ⟨rfl, RAt.alloc_new w _ _ rfl, (Below.refl _ _).alloc (Nat.le_refl _) _⟩

abbrev ByteL (w : World) (B : Nat) (v : Value) (l : List UInt8) : Prop := OL w B 5 1 (one bv) v l
abbrev WordL (w : World) (B : Nat) (v : Value) (l : List Nat) : Prop := OL w B 69 1 (one wv) v l

theorem take_byte (s : ByteArray) (k : Nat) (h : k < s.size) : s.data.toList.take (k + 1) = s.data.toList.take k ++ [s[k]] := by
  rw [List.take_succ_eq_append_getElem (by simpa using h)]; rfl

set_option maxRecDepth 100000 in
set_option maxHeartbeats 4000000 in
theorem extended_walk (s : ByteArray) (hs : s.size ≤ 1000000) (w : World) :
    Calls Tryd.prog 57 #[.string s] w fun e w' => (∃ g cap, e = .returned (.slice (some ⟨g, 0, none⟩) (pad s.data.toList).length cap) ∧ ByteL w' w.heap.size (.slice (some ⟨g, 0, none⟩) (pad s.data.toList).length cap) (pad s.data.toList)) ∧ Below w.heap.size w w' := by
  go_enter Tryd.func57, Tryd.ntmps57
  go_wp2_with fail
  go_loopw [3, 4] (fun b i wr => ∃ k : Nat, k ≤ s.size ∧ i = .int .i64 k ∧ ByteL wr w.heap.size b (s.data.toList.take k) ∧ Below w.heap.size w wr) (fun _ i _ => s.size - (intOf i).toNat)
  case atStart => exact ⟨0, by omega, rfl, OL.nil, Below.refl _ _⟩
  case round =>
    obtain ⟨k, hk, rfl, hb, hB⟩ := hrel
    have hbs := hB.size
    have HB := Lib.hid hB
    have hlk : (s.data.toList.take k).length = k := by rw [List.length_take]; simp; omega
    have HLK := Lib.hid hlk
    clear hB hlk
    by_cases hlt : k < s.size
    · have HT := Lib.hid (take_byte s k hlt)
      go_wp2_with (at_builtin; refine wpList_app rfl (.tmp 12) (.tmp 16) 46 rfl elemU8 _ _ k HLK.out rfl (hb.alloc _) s[k] wr.heap.size #[.int .u8 (s[k].toNat : Int)] rfl ?hc rfl rfl (by simp [one, bv, Value.oneCell']) (by rw [HLK.out]; unfold maxLen; omega) (by rw [HLK.out]; omega) (by simp; omega) ?_; (case hc => exact World.alloc_heap_new _ _); intro g3 c3 w2 h3 hg3 hg3' hg3l hb2)
      exact ⟨⟨k + 1, by omega, rfl, by rw [HT.out]; exact h3, (HB.out.alloc hbs _).trans hb2⟩, by simp [intOf]; omega⟩
    · obtain rfl : k = s.size := by omega
      rw [List.take_of_length_le (by simp)] at hb HLK
      obtain ⟨l, hl⟩ : ∃ l, s.data.toList = l := ⟨_, rfl⟩
      obtain ⟨n, hn⟩ : ∃ n, s.size = n := ⟨_, rfl⟩
      rw [hl] at hb HLK ⊢
      have hpz := padZ_lt n
      have hpm : (n + 1 + padZ n) % 64 = 56 := by unfold padZ; omega
      have hpn : ∀ j, j < padZ n → (n + 1 + j) % 64 ≠ 56 := fun j hj => by unfold padZ at hj; omega
      have HPM := Lib.hid hpm
      have HPN := Lib.hid hpn
      have HN := Lib.hid hn
      have HLL := Lib.hid hl
      rw [hn] at HLK ⊢
      have hn1 : n ≤ 1000000 := by omega
      have d0 : decide (n < s.size) = false := by simp; omega
      clear hpm hpn hl hlt hk
      rw [hn] at hs
      clear hn
      go_wp2_with (at_builtin; refine wpList_app rfl (.tmp 18) (.tmp 19) 46 rfl elemU8 _ l n HLK.out rfl (hb.alloc _) 128 wr.heap.size #[.int .u8 128] rfl ?hc rfl rfl (by simp [one, bv, Value.oneCell']) (by rw [HLK.out]; unfold maxLen; omega) (by rw [HLK.out]; omega) (by simp; omega) ?_; (case hc => exact World.alloc_heap_new _ _); intro g3 c3 w2 h3 hg3 hg3' hg3l hb2)
      have hB4 := Lib.hid ((HB.out.alloc hbs (.cells #[.int .u8 128] 5)).trans hb2)
      have H4 := Lib.hid h3
      clear hb h3 hg3 hg3' hg3l hb2 HB d0 hbs
      go_loopw [3] (fun b wr => ∃ (j g cap : Nat), j ≤ padZ n ∧ b = .slice (some ⟨g, 0, none⟩) (n + 1 + j) cap ∧ ByteL wr w.heap.size (.slice (some ⟨g, 0, none⟩) (n + 1 + j) cap) (l ++ [128] ++ List.replicate j 0) ∧ Below w.heap.size w wr) (fun b _ => padZ n - ((match b with | .slice _ k _ => k | _ => 0) - (n + 1)))
      case atStart => exact ⟨0, g3, c3, by omega, rfl, by rw [List.replicate_zero, List.append_nil]; exact H4.out, hB4.out⟩
      case round =>
        clear H4 hB4
        obtain ⟨j, g, cap, hj, rfl, hr, hB⟩ := hrel
        have hln : (l ++ [128] ++ List.replicate j 0).length = n + 1 + j := by have := HLK.out; simp; omega
        have HLN := Lib.hid hln
        have hbs := hB.size
        have HB := Lib.hid hB
        clear hln hB
        by_cases hlt : j < padZ n
        · have d1 : (((n : Int) + 1 + (j : Int)) % 64 != 56) = true := by have := HPN.out j hlt; simp; omega
          go_wp2_with (at_builtin; refine wpList_app rfl (.tmp 25) (.tmp 26) 46 rfl elemU8 _ (l ++ [128] ++ List.replicate j 0) (n + 1 + j) HLN.out rfl (hr.alloc _) 0 wr.heap.size #[.int .u8 0] rfl ?hc rfl rfl (by simp [one, bv, Value.oneCell']) (by rw [HLN.out]; unfold maxLen; omega) (by rw [HLN.out]; omega) (by simp; omega) ?_; (case hc => exact World.alloc_heap_new _ _); intro g5 cap5 w5 hr5 hu5 hu5' hu5l hb5)
          refine ⟨⟨j + 1, g5, cap5, by omega, rfl, ?_, (HB.out.alloc hbs _).trans hb5⟩, by simp; omega⟩
          rw [List.replicate_succ', ← List.append_assoc]; exact hr5
        · obtain rfl : j = padZ n := by omega
          have d1 : (((n : Int) + 1 + (padZ n : Int)) % 64 != 56) = false := by have := HPM.out; simp; omega
          clear d1 hj
          obtain ⟨m, hm⟩ : ∃ m, l ++ [128] ++ List.replicate (padZ n) 0 = m := ⟨_, rfl⟩
          obtain ⟨q, hq⟩ : ∃ q, n + 1 + padZ n = q := ⟨_, rfl⟩
          have hqi : (n : Int) + 1 + (padZ n : Int) = (q : Int) := by omega
          rw [hm] at hr HLN
          rw [hq] at hr HLN
          have d2 : ((q : Int) % 64 != 56) = false := by have := HPM.out; simp; omega
          have HM := Lib.hid hm
          have HR0 := Lib.hid hr
          have hq2 : q < n + 1 + 64 := by omega
          have HQ := Lib.hid hq
          rw [hq]
          clear hqi hm hr hq HPN hpz
          go_wp2_with fail
          clear d2
          obtain ⟨wq, rfl⟩ : ∃ wq : World, wq = wr := ⟨_, rfl⟩
          go_loopw [3, 5] (fun b i wr => ∃ (k g cap : Nat), k ≤ 8 ∧ i = .int .i64 (7 - (k : Int)) ∧ b = .slice (some ⟨g, 0, none⟩) (q + k) cap ∧ ByteL wr w.heap.size (.slice (some ⟨g, 0, none⟩) (q + k) cap) (m ++ (List.range k).map fun i => UInt8.ofNat (8 * n / 2 ^ (8 * (7 - i)))) ∧ Below w.heap.size w wr) (fun _ i _ => (intOf i + 1).toNat)
          case atStart => exact ⟨0, g, cap, by omega, rfl, rfl, by simpa using HR0.out, HB.out⟩
          case round =>
            clear HR0 HB hbs
            obtain ⟨k, g, cap, hk, rfl, rfl, hr, hB⟩ := hrel
            have hln : (m ++ (List.range k).map fun i => UInt8.ofNat (8 * n / 2 ^ (8 * (7 - i)))).length = q + k := by have := HLN.out; simp; omega
            have HL2 := Lib.hid hln
            have hbs := hB.size
            have HB := Lib.hid hB
            clear hB hln
            by_cases hlt : k < 8
            · obtain ⟨z, hzz⟩ : ∃ z : Nat, 7 - k = z := ⟨_, rfl⟩
              have hzi : (7 : Int) - (k : Int) = (z : Int) := by omega
              obtain ⟨s8, hs8⟩ : ∃ s, 8 * z = s := ⟨_, rfl⟩
              obtain ⟨t, ht⟩ : ∃ t, 8 * n = t := ⟨_, rfl⟩
              have e1 : 8 * (z : Int) = (s8 : Int) := by omega
              have e2 : 8 * (s.size : Int) = (t : Int) := by have := HN.out; omega
              have s8l : s8 < 64 := by omega
              have tl : t < 9000000 := by omega
              have e4 : (s.size : Int) < 2000000 := by have := HN.out; omega
              obtain ⟨y, hy⟩ : ∃ y, t / 2 ^ s8 % 256 = y := ⟨_, rfl⟩
              have e3 : (t : Int) / 2 ^ s8 % 256 = (y : Int) := by rw [← hy]; push_cast; rfl
              have hyu : bv (UInt8.ofNat (8 * n / 2 ^ (8 * (7 - k)))) = .int .u8 (y : Int) := by unfold bv; rw [UInt8.toNat_ofNat', ← hy, ht, hzz, hs8]
              have HYU := Lib.hid hyu
              rw [hzi]
              have HZI := Lib.hid hzi
              clear hzz hs8 ht hy hyu hzi
              go_wp2_with (at_builtin; refine wpList_app rfl (.tmp 32) (.tmp 40) 46 rfl elemU8 _ (m ++ (List.range k).map fun i => UInt8.ofNat (8 * n / 2 ^ (8 * (7 - i)))) (q + k) HL2.out rfl (hr.alloc _) (UInt8.ofNat (8 * n / 2 ^ (8 * (7 - k)))) wr.heap.size #[.int .u8 (y : Int)] rfl ?hc ?hd rfl (by simp [one, bv, Value.oneCell']) (by rw [HL2.out]; unfold maxLen; omega) (by rw [HL2.out]; omega) (by simp; omega) ?_; (case hc => exact World.alloc_heap_new _ _); (case hd => rw [one, HYU.out]); intro g5 cap5 w5 hr5 hu5 hu5' hu5l hb5)
              have hzi := HZI.out
              refine ⟨⟨k + 1, g5, cap5, by omega, by congr 1; omega, rfl, ?_, (HB.out.alloc hbs _).trans hb5⟩, by simp [intOf] <;> omega⟩
              rw [List.range_succ, List.map_append, ← List.append_assoc]; exact hr5
            · obtain rfl : k = 8 := by omega
              have hp : m ++ (List.range 8).map (fun i => UInt8.ofNat (8 * n / 2 ^ (8 * (7 - i)))) = pad l := by rw [← HM.out, ← HLK.out]; rfl
              rw [hp] at hr HL2
              have HR := Lib.hid hr
              clear hp hr
              go_wp2_with fail
              go_ret
              refine ⟨⟨g, cap, ?_, ?_⟩, HB.out⟩
              · rw [HLL.out, HL2.out]; rfl
              · rw [HLL.out, HL2.out]; exact HR.out

end Go.Proofs.YtjelniemoambaaaDoor
