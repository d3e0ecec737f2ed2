/-
  The contract of the reference's block. Conditions: the words are words, the block has 64 bytes.
-/
import Derived.Test.YtjelniemoambaaaDoorRefA
import Derived.Test.YtjelniemoambaaaDoorOwn2
import Derived.Test.YtjelniemoambaaaDoorLawB
namespace Go.Proofs.YtjelniemoambaaaDoor
open Go Go.RowKit Go.Shelf

theorem fresh_lat (wx : World) (l : List Nat) (cs : Array Value) (t : TypeId) (h : cs.toList = l.map wv) : LAt (wx.alloc (.cells cs t)).drew (wx.alloc (.cells cs t)).drew.heap.size (some ⟨wx.heap.size, 0, none⟩) wv l :=
  (RAt.alloc_new wx cs t h).drew.sl (by show wx.heap.size < (wx.alloc (.cells cs t)).heap.size; rw [World.size_alloc]; exact Nat.lt_succ_self _)
theorem rotated_lit (x n r : Nat) (z : Int) (hz : (n : Int) = z) (hr : rotr n x = r) (hx : x < 4294967296) (h0 : 0 < n) (h1 : n < 32) (W : World) :
    Calls Tryd.prog 69 #[.int .u32 x, .int .i64 z] W fun e w' => e = .returned (.int .u32 r) ∧ ∃ k, w' = W.drewN k := by
  rw [← hz, ← hr]; exact rotated_walk x n hx h0 h1 W
theorem WordL.cell {w : World} {B g n c : Nat} {l : List Nat} (h : WordL w B (.slice (some ⟨g, 0, none⟩) n c) l) {i : Nat} (hi : i < l.length) {x : Nat} (hx : l[i] = x) : w.cell? ⟨g, i, none⟩ = some (.int .u32 x) := by
  rw [← hx]; exact OL.get (φ := wv) h hi
theorem WordL.alloc {w : World} {B : Nat} {v : Value} {l : List Nat} (h : WordL w B v l) (o : Obj) : WordL (w.alloc o) B v l := OL.alloc h o

set_option maxRecDepth 100000 in
set_option maxHeartbeats 8000000 in
theorem block_walk (A0 : Option Addr) (H : List Nat) (h8 : H.length = 8) (hlt : ∀ x ∈ H, x < 4294967296) (c0 : Nat) (hc0 : A0 = none → c0 = 0) (a : Addr) (b : List UInt8) (c : Nat) (hb : b.length = 64) (w : World) (hA0 : LAt w w.heap.size A0 wv H) (hA : LAt w w.heap.size (some a) bv b) :
    Calls Tryd.prog 58 #[.slice A0 8 c0, .slice (some a) 64 c] w fun e w' => (∃ g cap, e = .returned (.slice (some ⟨g, 0, none⟩) 8 cap) ∧ WordL w' w.heap.size (.slice (some ⟨g, 0, none⟩) 8 cap) (addB H b)) ∧ Below w.heap.size w w' := by
  have H8 := Lib.hid h8
  have HLT := Lib.hid hlt
  have HA0 := Lib.hid hA0
  clear h8 hlt hA0
  go_enter Tryd.func58, Tryd.ntmps58
  go_wp2_with fail
  go_loopw [5, 6] (fun v5 i wr => ∃ k : Nat, k ≤ 16 ∧ i = .int .i64 k ∧ WordL wr w.heap.size v5 (sched b k) ∧ Below w.heap.size w wr) (fun _ i _ => 16 - (intOf i).toNat)
  case atStart => exact ⟨0, by omega, rfl, OL.nil, Below.refl _ _⟩
  case round =>
    obtain ⟨k, hk, rfl, h5, hW⟩ := hrel
    have HW := Lib.hid hW
    have hbs := hW.size
    clear hW
    by_cases hlt : k < 16
    · -- {{
      have hA' := hA.below HW.out
      obtain ⟨q0, hq0⟩ : ∃ q, 4 * k = q := ⟨_, rfl⟩
      obtain ⟨q1, hq1⟩ : ∃ q, 4 * k + 1 = q := ⟨_, rfl⟩
      obtain ⟨q2, hq2⟩ : ∃ q, 4 * k + 2 = q := ⟨_, rfl⟩
      obtain ⟨q3, hq3⟩ : ∃ q, 4 * k + 3 = q := ⟨_, rfl⟩
      obtain ⟨a0, e0, hab, h0⟩ := hA'.get (i := q0) (by omega)
      obtain ⟨a1, e1, _, h1⟩ := hA'.get (i := q1) (by omega)
      obtain ⟨a2, e2, _, h2⟩ := hA'.get (i := q2) (by omega)
      obtain ⟨a3, e3, _, h3⟩ := hA'.get (i := q3) (by omega)
      cases e0; cases e1; cases e2; cases e3
      unfold bv at h0 h1 h2 h3
      have g0 : IntKind.i64.wrap (4 * (k : Int)) = (q0 : Int) := by rw [IntKind.wrap_i64]; omega
      have g1 : IntKind.i64.wrap ((q0 : Int) + 1) = (q1 : Int) := by rw [IntKind.wrap_i64]; omega
      have g2 : IntKind.i64.wrap ((q0 : Int) + 2) = (q2 : Int) := by rw [IntKind.wrap_i64]; omega
      have g3 : IntKind.i64.wrap ((q0 : Int) + 3) = (q3 : Int) := by rw [IntKind.wrap_i64]; omega
      have b0 : (0 : Int) ≤ (q0 : Int) := by omega
      have b1 : (q0 : Int) < 64 := by omega
      have b2 : (q1 : Int) < 64 := by omega
      have b3 : (q2 : Int) < 64 := by omega
      have b4 : (q3 : Int) < 64 := by omega
      have b5 : (0 : Int) ≤ (q1 : Int) := by omega
      have b6 : (0 : Int) ≤ (q2 : Int) := by omega
      have b7 : (0 : Int) ≤ (q3 : Int) := by omega
      have b8 : (0 : Int) ≤ (k : Int) := by omega
      have hbe : be32 b k = b[q0].toNat * 16777216 ||| b[q1].toNat * 65536 ||| b[q2].toNat * 256 ||| b[q3].toNat := by
        have e : ∀ i (h : i < b.length), b.getD i 0 = b[i] := fun i h => by rw [List.getD_eq_getElem?_getD, List.getElem?_eq_getElem h]; rfl
        unfold be32
        rw [hq1, hq2, hq3, hq0, e q0 (by omega), e q1 (by omega), e q2 (by omega), e q3 (by omega)]
      obtain ⟨x0, hx0⟩ : ∃ x, b[q0].toNat = x := ⟨_, rfl⟩
      obtain ⟨x1, hx1⟩ : ∃ x, b[q1].toNat = x := ⟨_, rfl⟩
      obtain ⟨x2, hx2⟩ : ∃ x, b[q2].toNat = x := ⟨_, rfl⟩
      obtain ⟨x3, hx3⟩ : ∃ x, b[q3].toNat = x := ⟨_, rfl⟩
      have y0 : x0 < 256 := hx0 ▸ UInt8.toNat_lt _
      have y1 : x1 < 256 := hx1 ▸ UInt8.toNat_lt _
      have y2 : x2 < 256 := hx2 ▸ UInt8.toNat_lt _
      have y3 : x3 < 256 := hx3 ▸ UInt8.toNat_lt _
      rw [hx0] at h0 hbe
      rw [hx1] at h1 hbe
      rw [hx2] at h2 hbe
      rw [hx3] at h3 hbe
      have hsl := sched_length b k
      have t0 : IntKind.u32.wrap (x0 : Int) = (x0 : Int) := by rw [IntKind.wrap_u32]; omega
      have t1 : IntKind.u32.wrap (x1 : Int) = (x1 : Int) := by rw [IntKind.wrap_u32]; omega
      have t2 : IntKind.u32.wrap (x2 : Int) = (x2 : Int) := by rw [IntKind.wrap_u32]; omega
      have t3 : IntKind.u32.wrap (x3 : Int) = (x3 : Int) := by rw [IntKind.wrap_u32]; omega
      obtain ⟨z0, hz0⟩ : ∃ z, x0 * 16777216 = z := ⟨_, rfl⟩
      obtain ⟨z1, hz1⟩ : ∃ z, x1 * 65536 = z := ⟨_, rfl⟩
      obtain ⟨z2, hz2⟩ : ∃ z, x2 * 256 = z := ⟨_, rfl⟩
      have p0 : IntKind.u32.wrap ((x0 : Int) * 16777216) = (z0 : Int) := by rw [IntKind.wrap_u32]; omega
      have p1 : IntKind.u32.wrap ((x1 : Int) * 65536) = (z1 : Int) := by rw [IntKind.wrap_u32]; omega
      have p2 : IntKind.u32.wrap ((x2 : Int) * 256) = (z2 : Int) := by rw [IntKind.wrap_u32]; omega
      rw [hz0, hz1, hz2] at hbe
      have z0l : z0 < 4294967296 := by omega
      have z1l : z1 < 4294967296 := by omega
      have z2l : z2 < 4294967296 := by omega
      have r1 := u32_or_nat z0 z1 z0l z1l
      have r1l := Nat.or_lt_two_pow (n := 32) z0l z1l
      have r2 := u32_or_nat (z0 ||| z1) z2 r1l z2l
      have r2l := Nat.or_lt_two_pow (n := 32) r1l z2l
      have r3 := u32_or_nat (z0 ||| z1 ||| z2) x3 r2l (by omega)
      rw [← hbe] at r3
      obtain ⟨o2, ho2⟩ : ∃ o, z0 ||| z1 ||| z2 = o := ⟨_, rfl⟩
      rw [ho2] at r2 r3
      obtain ⟨o1, ho1⟩ : ∃ o, z0 ||| z1 = o := ⟨_, rfl⟩
      rw [ho1] at r1 r2
      obtain ⟨o3, ho3⟩ : ∃ o, be32 b k = o := ⟨_, rfl⟩
      rw [ho3] at r3 hbe
      have HE := Lib.hid ho3
      have HSL := Lib.hid hsl
      have HAA := Lib.hid hA
      have H5 := Lib.hid h5
      have HC := Lib.hid (show ∀ W, Below w.heap.size w W → Below w.heap.size w W ∧ W.cell? (a.add q0) = some (.int .u8 x0) ∧ W.cell? (a.add q1) = some (.int .u8 x1) ∧ W.cell? (a.add q2) = some (.int .u8 x2) ∧ W.cell? (a.add q3) = some (.int .u8 x3) from fun W hw => by
        have hh := hA.below hw
        have hc : ∀ q (hq : q < b.length) x, b[q].toNat = x → W.cell? (a.add q) = some (.int .u8 x) := fun q hq x hx => by
          obtain ⟨a', ha', -, hc⟩ := hh.get hq
          cases ha'; rw [hc, ← hx]; rfl
        exact ⟨hw, hc q0 (by omega) _ hx0, hc q1 (by omega) _ hx1, hc q2 (by omega) _ hx2, hc q3 (by omega) _ hx3⟩)
      clear hz0 hz1 hz2 z0l z1l z2l r1l r2l ho1 ho2 ho3 h0 h1 h2 h3
      clear hA hA' hsl hq0 hq1 hq2 hq3 hx0 hx1 hx2 hx3 hbe h5
      go_wp2_with fail
      go_region_held3 (fun w' => Below w.heap.size w w' ∧ w'.cell? (a.add q0) = some (.int .u8 x0) ∧ w'.cell? (a.add q1) = some (.int .u8 x1) ∧ w'.cell? (a.add q2) = some (.int .u8 x2) ∧ w'.cell? (a.add q3) = some (.int .u8 x3)) (first | exact HC.out _ HW.out.drew | exact HC.out _ (HW.out.alloc hbs _).drew | exact HC.out _ ((HW.out.alloc hbs _).drew.trans hb2) | fail)
        (first
          | (refine step_app (by rfl) (.tmp 23) (.tmp 57) 77 (by rfl) elemU32 _ (sched b k) k HSL.out (by rfl) ((OL.alloc H5.out _).drew) o3 wr.heap.size #[.int .u32 o3] (by rfl) ?_ (by rfl) (by rfl) (by simp [one, wv, Value.oneCell']) (by rw [HSL.out]; unfold maxLen; omega) (by rw [HSL.out]; omega) (by simp; omega) ?_; (· exact World.alloc_heap_new wr _); intro g5 c5 w2 h5 hg5 hg5' hg5l hb2)
          | fail)
      have h5w : WordL w2 w.heap.size (.slice (some ⟨g5, 0, none⟩) (k + 1) c5) (sched b (k + 1)) := by
        rw [show sched b (k + 1) = sched b k ++ [o3] by rw [← HE.out]; show extW b (sched b k) = _; unfold extW; rw [sched_length, if_pos hlt]]
        exact h5
      have H6 := Lib.hid h5w
      have HB6 := Lib.hid ((HW.out.alloc hbs (.cells #[.int .u32 o3] 69)).drew.trans hb2)
      clear h5 h5w hg5 hg5' hg5l hb2
      go_wp2_with fail
      exact ⟨⟨k + 1, by omega, rfl, H6.out, HB6.out⟩, by simp [intOf]; omega⟩
      -- }}
    · obtain rfl : k = 16 := by omega
      have hsl := sched_length b 16
      obtain ⟨g1, cap1, rfl, -⟩ := h5.form (by rw [hsl]; decide)
      rw [hsl] at h5 ⊢
      have H5 := Lib.hid h5
      clear hlt hsl h5
      go_wp2_with fail
      obtain ⟨wq, rfl⟩ : ∃ wq : World, wq = wr := ⟨_, rfl⟩
      simp only [Int.cast_ofNat_Int]
      go_loopw [5, 7, 8, 9] (fun v5 i _ _ wr => ∃ k g cap : Nat, 16 ≤ k ∧ k ≤ 64 ∧ i = .int .i64 k ∧ v5 = .slice (some ⟨g, 0, none⟩) k cap ∧ WordL wr w.heap.size (.slice (some ⟨g, 0, none⟩) k cap) (sched b k) ∧ Below w.heap.size w wr) (fun _ i _ _ _ => 64 - (intOf i).toNat)
      case atStart => exact ⟨16, g1, cap1, by omega, by omega, rfl, rfl, H5.out, HW.out⟩
      case round =>
        obtain ⟨k, g, cap, hk0, hk, rfl, rfl, hr, hW⟩ := hrel
        clear H5 HW hbs
        have HW := Lib.hid hW
        have hbs := hW.size
        clear hW
        by_cases hlt : k < 64
        · -- {{
          have hsl := sched_length b k
          have hcell : ∀ i (h : i < (sched b k).length), ∀ n, World.cell? (wr.drewN n) ⟨g, i, none⟩ = some (.int .u32 ((sched b k)[i] : Nat)) := fun i h n => WordL.cell (OL.drewN hr n) h rfl
          obtain ⟨q16, hq16⟩ : ∃ q, k - 16 = q := ⟨_, rfl⟩
          obtain ⟨q15, hq15⟩ : ∃ q, k - 15 = q := ⟨_, rfl⟩
          obtain ⟨q7, hq7⟩ : ∃ q, k - 7 = q := ⟨_, rfl⟩
          obtain ⟨q2, hq2⟩ : ∃ q, k - 2 = q := ⟨_, rfl⟩
          have c16 := hcell q16 (by omega)
          have c15 := hcell q15 (by omega) 0
          have c7 := hcell q7 (by omega)
          have c2 := hcell q2 (by omega)
          have l16 := sched_lt b k _ (List.getElem_mem (h := show q16 < (sched b k).length by omega))
          have l15 := sched_lt b k _ (List.getElem_mem (h := show q15 < (sched b k).length by omega))
          have l7 := sched_lt b k _ (List.getElem_mem (h := show q7 < (sched b k).length by omega))
          have l2 := sched_lt b k _ (List.getElem_mem (h := show q2 < (sched b k).length by omega))
          have hnx : nextW (sched b k) k = ((((sched b k)[q16] + (rotr 7 (sched b k)[q15] ^^^ rotr 18 (sched b k)[q15] ^^^ (sched b k)[q15] / 8)) % 4294967296 + (sched b k)[q7]) % 4294967296 + (rotr 17 (sched b k)[q2] ^^^ rotr 19 (sched b k)[q2] ^^^ (sched b k)[q2] / 1024)) % 4294967296 := by
            have e : ∀ i (h : i < (sched b k).length), (sched b k).getD i 0 = (sched b k)[i] := fun i h => by rw [List.getD_eq_getElem?_getD, List.getElem?_eq_getElem h]; rfl
            unfold nextW mix2
            rw [hq16, hq15, hq7, hq2, e q16 (by omega), e q15 (by omega), e q7 (by omega), e q2 (by omega), Nat.zero_xor, Nat.zero_xor]
          obtain ⟨x16, hx16⟩ : ∃ x, (sched b k)[q16] = x := ⟨_, rfl⟩
          obtain ⟨x15, hx15⟩ : ∃ x, (sched b k)[q15] = x := ⟨_, rfl⟩
          obtain ⟨x7, hx7⟩ : ∃ x, (sched b k)[q7] = x := ⟨_, rfl⟩
          obtain ⟨x2, hx2⟩ : ∃ x, (sched b k)[q2] = x := ⟨_, rfl⟩
          rw [hx16] at c16 l16
          rw [hx15] at c15 l15
          rw [hx7] at c7 l7
          rw [hx2] at c2 l2
          rw [hx16, hx15, hx7, hx2] at hnx
          have c15 : wr.cell? ⟨g, q15, none⟩ = some (.int .u32 x15) := c15
          have j1 := rotr_lt (n := 7) l15
          have j2 := rotr_lt (n := 18) l15
          have j3 := rotr_lt (n := 17) l2
          have j4 := rotr_lt (n := 19) l2
          obtain ⟨r1, hr1⟩ : ∃ x, rotr 7 x15 = x := ⟨_, rfl⟩
          obtain ⟨r2, hr2⟩ : ∃ x, rotr 18 x15 = x := ⟨_, rfl⟩
          obtain ⟨r3, hr3⟩ : ∃ x, rotr 17 x2 = x := ⟨_, rfl⟩
          obtain ⟨r4, hr4⟩ : ∃ x, rotr 19 x2 = x := ⟨_, rfl⟩
          rw [hr1] at j1
          rw [hr2] at j2
          rw [hr3] at j3
          rw [hr4] at j4
          have HR1 := Lib.hid (fun W => rotated_lit x15 7 r1 7 rfl hr1 l15 (by decide) (by decide) W)
          have HR2 := Lib.hid (fun W => rotated_lit x15 18 r2 18 rfl hr2 l15 (by decide) (by decide) W)
          have HR3 := Lib.hid (fun W => rotated_lit x2 17 r3 17 rfl hr3 l2 (by decide) (by decide) W)
          have HR4 := Lib.hid (fun W => rotated_lit x2 19 r4 19 rfl hr4 l2 (by decide) (by decide) W)
          rw [hr1, hr2, hr3, hr4] at hnx
          obtain ⟨d1, hd1⟩ : ∃ x, x15 / 8 = x := ⟨_, rfl⟩
          obtain ⟨d2, hd2⟩ : ∃ x, x2 / 1024 = x := ⟨_, rfl⟩
          rw [hd1, hd2] at hnx
          have f1 : (x15 : Int) / 8 = (d1 : Int) := by omega
          have f2 : (x2 : Int) / 1024 = (d2 : Int) := by omega
          have u1 := u32_xor_nat r1 r2 j1 j2
          have u2 := u32_xor_nat r3 r4 j3 j4
          have m1l := Nat.xor_lt_two_pow (n := 32) j1 j2
          have m2l := Nat.xor_lt_two_pow (n := 32) j3 j4
          obtain ⟨m1, hm1⟩ : ∃ x, r1 ^^^ r2 = x := ⟨_, rfl⟩
          obtain ⟨m2, hm2⟩ : ∃ x, r3 ^^^ r4 = x := ⟨_, rfl⟩
          rw [hm1] at m1l u1 hnx
          rw [hm2] at m2l u2 hnx
          have g1 := u32_xor_nat m1 d1 m1l (by omega)
          have g2 := u32_xor_nat m2 d2 m2l (by omega)
          have g1l := Nat.xor_lt_two_pow (n := 32) m1l (show d1 < 2 ^ 32 by omega)
          have g2l := Nat.xor_lt_two_pow (n := 32) m2l (show d2 < 2 ^ 32 by omega)
          obtain ⟨s1, hs1⟩ : ∃ x, m1 ^^^ d1 = x := ⟨_, rfl⟩
          obtain ⟨s2, hs2⟩ : ∃ x, m2 ^^^ d2 = x := ⟨_, rfl⟩
          rw [hs1] at g1 g1l
          rw [hs2] at g2 g2l
          rw [hs1, hs2] at hnx
          obtain ⟨t1, ht1⟩ : ∃ x, (x16 + s1) % 4294967296 = x := ⟨_, rfl⟩
          rw [ht1] at hnx
          obtain ⟨t2, ht2⟩ : ∃ x, (t1 + x7) % 4294967296 = x := ⟨_, rfl⟩
          rw [ht2] at hnx
          obtain ⟨t3, ht3⟩ : ∃ x, (t2 + s2) % 4294967296 = x := ⟨_, rfl⟩
          rw [ht3] at hnx
          have a1 : IntKind.u32.wrap ((x16 : Int) + (s1 : Int)) = (t1 : Int) := by rw [IntKind.wrap_u32]; omega
          have a2 : IntKind.u32.wrap ((t1 : Int) + (x7 : Int)) = (t2 : Int) := by rw [IntKind.wrap_u32]; omega
          have a3 : IntKind.u32.wrap ((t2 : Int) + (s2 : Int)) = (t3 : Int) := by rw [IntKind.wrap_u32]; omega
          have w16 : IntKind.i64.wrap ((k : Int) - 16) = (q16 : Int) := by rw [IntKind.wrap_i64]; omega
          have w15 : IntKind.i64.wrap ((k : Int) - 15) = (q15 : Int) := by rw [IntKind.wrap_i64]; omega
          have w7 : IntKind.i64.wrap ((k : Int) - 7) = (q7 : Int) := by rw [IntKind.wrap_i64]; omega
          have w2 : IntKind.i64.wrap ((k : Int) - 2) = (q2 : Int) := by rw [IntKind.wrap_i64]; omega
          have b1 : (0 : Int) ≤ (q16 : Int) := by omega
          have b2 : (0 : Int) ≤ (q15 : Int) := by omega
          have b3 : (0 : Int) ≤ (q7 : Int) := by omega
          have b4 : (0 : Int) ≤ (q2 : Int) := by omega
          have b5 : (q16 : Int) < (k : Int) := by omega
          have b6 : (q15 : Int) < (k : Int) := by omega
          have b7 : (q7 : Int) < (k : Int) := by omega
          have b8 : (q2 : Int) < (k : Int) := by omega
          have HN := Lib.hid hnx
          have HSL := Lib.hid hsl
          have HRR := Lib.hid hr
          have HC := Lib.hid (And.intro c16 (And.intro c7 c2))
          clear hnx hm1 hm2 hcell hq16 hq15 hq7 hq2 hx16 hx15 hx7 hx2 hd1 hd2 hs1 hs2 ht1 ht2 ht3 m1l m2l g1l g2l hsl hA hr hr1 hr2 hr3 hr4 j1 j2 j3 j4 c16 c7 c2
          go_wp2_with fail
          go_quiet ((first | (go_at_call 69; (with_reducible refine Calls.quiet_of (HR1.out _))) | (go_at_call 69; (with_reducible refine Calls.quiet_of (HR2.out _)))))
          go_wp2_with fail
          have c2 : (wr.drewN nq).cell? ⟨g, q2, none⟩ = some (.int .u32 x2) := HC.out.2.2 nq
          have HC2 := Lib.hid (show ∀ n, ((wr.drewN nq).drewN n).cell? ⟨g, q16, none⟩ = some (.int .u32 x16) ∧ ((wr.drewN nq).drewN n).cell? ⟨g, q7, none⟩ = some (.int .u32 x7) from fun n => ⟨HC.out.1 nq, HC.out.2.1 nq⟩)
          have HR5 := Lib.hid (OL.drewN HRR.out nq)
          have HW5 := Lib.hid (Below.drewN' HW.out nq)
          have hbs5 : w.heap.size ≤ (wr.drewN nq).heap.size := hbs
          clear c15 HC HRR HW hbs
          generalize wr.drewN nq = wz at HR5 HW5 hbs5 c2 HC2 ⊢
          go_quiet ((first | (go_at_call 69; (with_reducible refine Calls.quiet_of (HR3.out _))) | (go_at_call 69; (with_reducible refine Calls.quiet_of (HR4.out _)))))
          go_wp2_with fail
          clear c2
          obtain ⟨c16, c7⟩ := HC2.out nq
          have HR6 := Lib.hid (OL.drewN HR5.out nq)
          have HW6 := Lib.hid (Below.drewN' HW5.out nq)
          have hbs6 : w.heap.size ≤ (wz.drewN nq).heap.size := hbs5
          clear HC2 HR5 HW5 hbs5
          generalize wz.drewN nq = wy at HR6 HW6 hbs6 c16 c7 ⊢
          have n16 : q16 < k := by omega
          have n7 : q7 < k := by omega
          have HC3 := Lib.hid (And.intro c16 c7)
          have HC4 := Lib.hid (show ∀ o, ((wy.alloc o).drew).cell? ⟨g, q16, none⟩ = some (.int .u32 x16) ∧ ((wy.alloc o).drew).cell? ⟨g, q7, none⟩ = some (.int .u32 x7) from fun o => ⟨(World.cell?_alloc_lt wy o ⟨g, q16, none⟩ (cell_lt c16)).trans c16, (World.cell?_alloc_lt wy o ⟨g, q7, none⟩ (cell_lt c7)).trans c7⟩)
          clear c16 c7
          go_region_held3 (fun w' => w'.cell? ⟨g, q16, none⟩ = some (.int .u32 x16) ∧ w'.cell? ⟨g, q7, none⟩ = some (.int .u32 x7)) (first | exact HC3.out | exact HC4.out _ | exact ⟨(hk5 q16 n16).trans (HC4.out _).1, (hk5 q7 n7).trans (HC4.out _).2⟩ | fail)
            (first
              | (refine step_app_keep (by rfl) (.tmp 103) (.tmp 119) (t := 77) (by rfl) elemU32 g k cap HSL.out (by omega) (by rfl) ((OL.alloc HR6.out _).drew) t3 wy.heap.size (by rfl) ?_ (by rfl) (by unfold maxLen; omega) (by omega) (by simp; omega) ?_; (· exact World.alloc_heap_new wy _); intro g5 c5 w2 h5 hk5 hg5 hg5l hb2)
              | fail)
          have h5w : WordL w2 w.heap.size (.slice (some ⟨g5, 0, none⟩) (k + 1) c5) (sched b (k + 1)) := by
            rw [show sched b (k + 1) = sched b k ++ [t3] by rw [← HN.out]; show extW b (sched b k) = _; unfold extW; rw [sched_length, if_neg (by omega)]]
            exact h5
          have H7 := Lib.hid h5w
          have HB7 := Lib.hid ((HW6.out.alloc hbs6 (.cells #[.int .u32 t3] 69)).drew.trans hb2)
          clear h5 h5w hg5 hg5l hb2 hk5
          go_wp2_with fail
          exact ⟨⟨k + 1, g5, c5, by omega, by omega, rfl, rfl, H7.out, HB7.out⟩, by simp [intOf]; omega⟩
          -- }}
        · obtain rfl : k = 64 := by omega
          have hwl := sched_length b 64
          have hwlt := sched_lt b 64
          obtain ⟨ws, hws⟩ : ∃ ws, sched b 64 = ws := ⟨_, rfl⟩
          rw [hws] at hr hwl hwlt
          have HWS := Lib.hid hws
          have HWR := Lib.hid hr
          have HWL := Lib.hid hwl
          have HWLT := Lib.hid hwlt
          clear hws hr hwl hwlt hlt hA
          go_wp2_with fail
          refine (constants_walk wr).mono ?_
          rintro e w2 ⟨rfl, hk2, hb2⟩
          have hz2 := hb2.size
          have hb02 := HW.out.trans (hb2.mono hbs)
          have HA2 := Lib.hid (HA0.out.below hb02)
          have HWR2 := Lib.hid (OL.below HWR.out hb2 (Nat.le_refl _))
          have HK2 := Lib.hid hk2
          have HB2 := Lib.hid hb02
          have hzk := hk2.lt
          clear hk2 hb2 hb02
          go_wp2_with (at_builtin; refine wpList_cat rfl (.tmp 122) (.tmp 123) 77 rfl elemU32 (fun _ => rfl) _ ([] : List Nat) rfl (OL.nil (w := w2) (B := w.heap.size)) A0 H 8 c0 H8.out rfl hc0 HA2.out.cat (fun x _ u hu => by rw [List.mem_singleton.1 hu]; rfl) (by unfold maxLen; simp) (by simp) (by omega) ?_; intro v3 w3 h3 hg3 hb3)
          obtain ⟨gv0, cv0, rfl, -, -, -, -⟩ := h3.form (by simp [H8.out])
          replace hg3 : w2.grownBy w3 none := hg3
          have hl3 : ([] ++ H).length = 8 := by rw [List.nil_append, H8.out]
          rw [hl3] at h3 ⊢
          rw [List.nil_append] at h3
          have hV3 := h3.lat
          have hWS3 := (OL.grown HWR2.out hg3 (fun g _ h => by cases h)).lat
          have hKS3 : LAt w3 w3.heap.size (some ⟨wr.heap.size, 0, none⟩) wv shaK := by
            have hz3 := hg3.size
            have := (HK2.out.sl (B := w3.heap.size) (by omega))
            exact fun i x hx => by
              obtain ⟨a', ha', hl', hc'⟩ := this i x hx
              refine ⟨a', ha', hl', ?_⟩
              cases ha'
              exact (World.cell?_of_block (hg3.block _ (by rw [addr_add_block]; exact hzk) (by simp))).trans hc'
          have HB3 := Lib.hid (HB2.out.trans hb3)
          have hbs3 := HB3.out.size
          have HV3 := Lib.hid hV3
          have HWS3 := Lib.hid hWS3
          have HKS3 := Lib.hid hKS3
          clear h3 hl3 hg3 hb3 hV3 hWS3 hKS3 HWR2 HWR HK2 HB2 HA2 hzk
          obtain ⟨gk, hgk⟩ : ∃ gk, wr.heap.size = gk := ⟨_, rfl⟩
          rw [hgk] at HKS3 ⊢
          clear hgk
          go_wp2_with fail
          obtain ⟨wq2, rfl⟩ : ∃ wq2 : World, wq2 = wr := ⟨_, rfl⟩
          go_loopw [11, 12, 13, 14, 15, 16] (fun v11 i _ _ _ _ wr => ∃ j gv cv : Nat, j ≤ 64 ∧ i = .int .i64 j ∧ v11 = .slice (some ⟨gv, 0, none⟩) 8 cv ∧ LAt wr wr.heap.size (some ⟨gv, 0, none⟩) wv (rounds ws H j) ∧ Below w3.heap.size w3 wr) (fun _ i _ _ _ _ _ => 64 - (intOf i).toNat)
          case atStart => exact ⟨0, gv0, cv0, by omega, rfl, rfl, HV3.out, Below.refl _ _⟩
          case round =>
            obtain ⟨j, gv, cv, hj, rfl, rfl, hV, hB⟩ := hrel
            clear HV3 hz2 hbs
            have HB := Lib.hid hB
            have hbs := hB.size
            have hwsW := HWS3.out.below hB
            have hksW := HKS3.out.below hB
            clear hB
            by_cases hlt : j < 64
            · -- {{
              obtain ⟨x0, x1, x2, x3, x4, x5, x6, x7, hv⟩ := eight (rounds_length (ws := ws) H8.out j)
              have hvl := rounds_lt (ws := ws) HLT.out j
              rw [hv] at hvl hV
              have l0 := hvl x0 (by simp)
              have l1 := hvl x1 (by simp)
              have l2 := hvl x2 (by simp)
              have l3 := hvl x3 (by simp)
              have l4 := hvl x4 (by simp)
              have l5 := hvl x5 (by simp)
              have l6 := hvl x6 (by simp)
              have l7 := hvl x7 (by simp)
              have hcv : ∀ (i x : Nat), ([x0, x1, x2, x3, x4, x5, x6, x7] : List Nat)[i]? = some x → wr.cell? ⟨gv, i, none⟩ = some (.int .u32 x) := fun i x hx => by
                obtain ⟨a', ha', -, hc⟩ := hV i x hx
                cases ha'
                rw [show (⟨gv, 0, none⟩ : Addr).add i = ⟨gv, i, none⟩ by simp [Addr.add]; omega] at hc
                exact hc
              have c0' := hcv 0 x0 rfl
              have c1' := hcv 1 x1 rfl
              have c2' := hcv 2 x2 rfl
              have c3' := hcv 3 x3 rfl
              have c4' := hcv 4 x4 rfl
              have c5' := hcv 5 x5 rfl
              have c6' := hcv 6 x6 rfl
              have c7' := hcv 7 x7 rfl
              have hgv : gv < wr.heap.size := cell_lt c0'
              have b0 : (0 : Int) ≤ (j : Int) := by omega
              have b1 : (j : Int) < 64 := by omega
              have cw : wr.cell? ⟨g, j, none⟩ = some (.int .u32 ((ws[j]'(by have := HWL.out; omega) : Nat) : Int)) := by
                obtain ⟨a', ha', -, hc⟩ := hwsW.get (i := j) (by have := HWL.out; omega)
                cases ha'
                rw [show (⟨g, 0, none⟩ : Addr).add j = ⟨g, j, none⟩ by simp [Addr.add]; omega] at hc
                exact hc
              have lw := HWLT.out _ (List.getElem_mem (h := show j < ws.length by have := HWL.out; omega))
              have hwj : ws.getD j 0 = ws[j]'(by have := HWL.out; omega) := by rw [List.getD_eq_getElem?_getD, List.getElem?_eq_getElem (by have := HWL.out; omega)]; rfl
              obtain ⟨wj, hwj2⟩ : ∃ wj, ws[j]'(by have := HWL.out; omega) = wj := ⟨_, rfl⟩
              rw [hwj2] at cw lw hwj
              obtain ⟨kj, hkj⟩ : ∃ kj, shaK.getD j 0 = kj := ⟨_, rfl⟩
              have lk : kj < 4294967296 := by rw [← hkj]; exact (show ∀ j, j < 64 → shaK.getD j 0 < 4294967296 by decide) j hlt
              have ck : wr.cell? ⟨gk, j, none⟩ = some (.int .u32 kj) := by
                obtain ⟨a', ha', -, hc⟩ := hksW j kj (by rw [← hkj, List.getD_eq_getElem?_getD, List.getElem?_eq_getElem (show j < shaK.length from hlt)]; rfl)
                cases ha'
                rw [show (⟨gk, 0, none⟩ : Addr).add j = ⟨gk, j, none⟩ by simp [Addr.add]; omega] at hc
                exact hc
              have j1 := rotr_lt (n := 6) l4
              have j2 := rotr_lt (n := 11) l4
              have j3 := rotr_lt (n := 25) l4
              obtain ⟨r1, hr1⟩ : ∃ x, rotr 6 x4 = x := ⟨_, rfl⟩
              obtain ⟨r2, hr2⟩ : ∃ x, rotr 11 x4 = x := ⟨_, rfl⟩
              obtain ⟨r3, hr3⟩ : ∃ x, rotr 25 x4 = x := ⟨_, rfl⟩
              rw [hr1] at j1
              rw [hr2] at j2
              rw [hr3] at j3
              have HR1 := Lib.hid (fun W => rotated_lit x4 6 r1 6 rfl hr1 l4 (by decide) (by decide) W)
              have HR2 := Lib.hid (fun W => rotated_lit x4 11 r2 11 rfl hr2 l4 (by decide) (by decide) W)
              have HR3 := Lib.hid (fun W => rotated_lit x4 25 r3 25 rfl hr3 l4 (by decide) (by decide) W)
              have u1 := u32_xor_nat r1 r2 j1 j2
              have m0l := Nat.xor_lt_two_pow (n := 32) j1 j2
              obtain ⟨m0, hm0⟩ : ∃ x, r1 ^^^ r2 = x := ⟨_, rfl⟩
              rw [hm0] at u1 m0l
              have u2 := u32_xor_nat m0 r3 m0l j3
              have ml := Nat.xor_lt_two_pow (n := 32) m0l j3
              obtain ⟨m, hm'⟩ : ∃ x, m0 ^^^ r3 = x := ⟨_, rfl⟩
              rw [hm'] at u2 ml
              have hm : mix3 6 11 25 x4 = m := by unfold mix3; rw [Nat.zero_xor, hr1, hr2, hr3, hm0, hm']
              obtain ⟨s1, hs1⟩ : ∃ x, (x7 + m) % 4294967296 = x := ⟨_, rfl⟩
              have f1 : IntKind.u32.wrap ((x7 : Int) + (m : Int)) = (s1 : Int) := by rw [IntKind.wrap_u32]; omega
              have f2 := u32_and_nat x4 x5 l4 l5
              have n1l : x4 &&& x5 < 4294967296 := Nat.lt_of_le_of_lt Nat.and_le_left l4
              obtain ⟨n1', hn1⟩ : ∃ x, x4 &&& x5 = x := ⟨_, rfl⟩
              rw [hn1] at f2 n1l
              have f3 : bits .xor .u32 (if IntKind.u32.signed = true then -1 else IntKind.u32.max) (x4 : Int) = ((4294967295 - x4 : Nat) : Int) := u32_not x4 l4
              obtain ⟨cm, hcm⟩ : ∃ x, 4294967295 - x4 = x := ⟨_, rfl⟩
              rw [hcm] at f3
              have f4 := u32_and_nat cm x6 (by omega) l6
              have n2l : cm &&& x6 < 4294967296 := Nat.lt_of_le_of_lt Nat.and_le_right l6
              obtain ⟨n2', hn2⟩ : ∃ x, cm &&& x6 = x := ⟨_, rfl⟩
              rw [hn2] at f4 n2l
              have f5 := u32_xor_nat n1' n2' n1l n2l
              have n3l := Nat.xor_lt_two_pow (n := 32) n1l n2l
              obtain ⟨n3, hn3⟩ : ∃ x, n1' ^^^ n2' = x := ⟨_, rfl⟩
              rw [hn3] at f5 n3l
              obtain ⟨s2, hs2⟩ : ∃ x, (s1 + n3) % 4294967296 = x := ⟨_, rfl⟩
              have f6 : IntKind.u32.wrap ((s1 : Int) + (n3 : Int)) = (s2 : Int) := by rw [IntKind.wrap_u32]; omega
              obtain ⟨s3, hs3⟩ : ∃ x, (s2 + kj) % 4294967296 = x := ⟨_, rfl⟩
              have f7 : IntKind.u32.wrap ((s2 : Int) + (kj : Int)) = (s3 : Int) := by rw [IntKind.wrap_u32]; omega
              obtain ⟨t, ht⟩ : ∃ x, (s3 + wj) % 4294967296 = x := ⟨_, rfl⟩
              have f8 : IntKind.u32.wrap ((s3 : Int) + (wj : Int)) = (t : Int) := by rw [IntKind.wrap_u32]; omega
              have hT : roundT [x0, x1, x2, x3, x4, x5, x6, x7] kj wj = t := by
                show ((((x7 + mix3 6 11 25 x4) % 4294967296 + ((x4 &&& x5) ^^^ ((4294967295 - x4) &&& x6))) % 4294967296 + kj) % 4294967296 + wj) % 4294967296 = t
                rw [hm, hs1, hn1, hcm, hn2, hn3, hs2, hs3, ht]
              have HT := Lib.hid hT
              have tl : t < 4294967296 := by omega
              have HKJ := Lib.hid hkj
              have HWJ := Lib.hid hwj
              have HH := Lib.hid hv
              have HCC := Lib.hid (show ∀ n, (wr.drewN n).cell? ⟨gv, 1, none⟩ = some (.int .u32 x1) ∧ (wr.drewN n).cell? ⟨gv, 2, none⟩ = some (.int .u32 x2) ∧ (wr.drewN n).cell? ⟨gv, 3, none⟩ = some (.int .u32 x3) ∧ (wr.drewN n).cell? ⟨gv, 5, none⟩ = some (.int .u32 x5) ∧ (wr.drewN n).cell? ⟨gv, 6, none⟩ = some (.int .u32 x6) from fun n => ⟨c1', c2', c3', c5', c6'⟩)
              clear hT hm hm' hm0 hs1 hn1 hcm hn2 hn3 hs2 hs3 ht ml n1l n2l n3l hkj hwj hwj2 hvl hV hv hcv hwsW hksW hr1 hr2 hr3 j1 j2 j3 m0l lk lw c1' c2' c3'
              go_wp2_with fail
              go_quiet ((first | (go_at_call 69; (with_reducible refine Calls.quiet_of (HR1.out _))) | (go_at_call 69; (with_reducible refine Calls.quiet_of (HR2.out _))) | (go_at_call 69; (with_reducible refine Calls.quiet_of (HR3.out _)))))
              go_wp2_with fail
              obtain ⟨c1, c2, c3, c5, c6⟩ := HCC.out nq
              clear c0' c4' c5' c6' c7' cw ck HR1 HR2 HR3 u1 u2 f1 f2 f3 f4 f5 f6 f7 f8 HCC
              have HB := Lib.hid (Below.drewN' HB.out nq)
              have hbs : w3.heap.size ≤ (wr.drewN nq).heap.size := hbs
              have hgv : gv < (wr.drewN nq).heap.size := hgv
              generalize wr.drewN nq = wz at HB hbs hgv c1 c2 c3 c5 c6 ⊢
              have j1 := rotr_lt (n := 2) l0
              have j2 := rotr_lt (n := 13) l0
              have j3 := rotr_lt (n := 22) l0
              obtain ⟨r1, hr1⟩ : ∃ x, rotr 2 x0 = x := ⟨_, rfl⟩
              obtain ⟨r2, hr2⟩ : ∃ x, rotr 13 x0 = x := ⟨_, rfl⟩
              obtain ⟨r3, hr3⟩ : ∃ x, rotr 22 x0 = x := ⟨_, rfl⟩
              rw [hr1] at j1
              rw [hr2] at j2
              rw [hr3] at j3
              have HR1 := Lib.hid (fun W => rotated_lit x0 2 r1 2 rfl hr1 l0 (by decide) (by decide) W)
              have HR2 := Lib.hid (fun W => rotated_lit x0 13 r2 13 rfl hr2 l0 (by decide) (by decide) W)
              have HR3 := Lib.hid (fun W => rotated_lit x0 22 r3 22 rfl hr3 l0 (by decide) (by decide) W)
              have u1 := u32_xor_nat r1 r2 j1 j2
              have m0l := Nat.xor_lt_two_pow (n := 32) j1 j2
              obtain ⟨m0, hm0⟩ : ∃ x, r1 ^^^ r2 = x := ⟨_, rfl⟩
              rw [hm0] at u1 m0l
              have u2 := u32_xor_nat m0 r3 m0l j3
              have ml := Nat.xor_lt_two_pow (n := 32) m0l j3
              obtain ⟨m, hm'⟩ : ∃ x, m0 ^^^ r3 = x := ⟨_, rfl⟩
              rw [hm'] at u2 ml
              have hm : mix3 2 13 22 x0 = m := by unfold mix3; rw [Nat.zero_xor, hr1, hr2, hr3, hm0, hm']
              have f1 := u32_and_nat x0 x1 l0 l1
              have p1l : x0 &&& x1 < 4294967296 := Nat.lt_of_le_of_lt Nat.and_le_left l0
              obtain ⟨p1, hp1⟩ : ∃ x, x0 &&& x1 = x := ⟨_, rfl⟩
              rw [hp1] at f1 p1l
              have f2 := u32_and_nat x0 x2 l0 l2
              have p2l : x0 &&& x2 < 4294967296 := Nat.lt_of_le_of_lt Nat.and_le_left l0
              obtain ⟨p2, hp2⟩ : ∃ x, x0 &&& x2 = x := ⟨_, rfl⟩
              rw [hp2] at f2 p2l
              have f3 := u32_and_nat x1 x2 l1 l2
              have p3l : x1 &&& x2 < 4294967296 := Nat.lt_of_le_of_lt Nat.and_le_left l1
              obtain ⟨p3, hp3⟩ : ∃ x, x1 &&& x2 = x := ⟨_, rfl⟩
              rw [hp3] at f3 p3l
              have f4 := u32_xor_nat p1 p2 p1l p2l
              have q1l := Nat.xor_lt_two_pow (n := 32) p1l p2l
              obtain ⟨q1, hq1⟩ : ∃ x, p1 ^^^ p2 = x := ⟨_, rfl⟩
              rw [hq1] at f4 q1l
              have f5 := u32_xor_nat q1 p3 q1l p3l
              have q2l := Nat.xor_lt_two_pow (n := 32) q1l p3l
              obtain ⟨q2, hq2⟩ : ∃ x, q1 ^^^ p3 = x := ⟨_, rfl⟩
              rw [hq2] at f5 q2l
              obtain ⟨u, hu⟩ : ∃ x, (m + q2) % 4294967296 = x := ⟨_, rfl⟩
              have f6 : IntKind.u32.wrap ((m : Int) + (q2 : Int)) = (u : Int) := by rw [IntKind.wrap_u32]; omega
              have hU : roundU [x0, x1, x2, x3, x4, x5, x6, x7] = u := by
                show (mix3 2 13 22 x0 + ((x0 &&& x1) ^^^ (x0 &&& x2) ^^^ (x1 &&& x2))) % 4294967296 = u
                rw [hm, hp1, hp2, hp3, hq1, hq2, hu]
              have HU := Lib.hid hU
              have ul : u < 4294967296 := by omega
              have HCC := Lib.hid (show ∀ n, (wz.drewN n).cell? ⟨gv, 1, none⟩ = some (.int .u32 x1) ∧ (wz.drewN n).cell? ⟨gv, 2, none⟩ = some (.int .u32 x2) ∧ (wz.drewN n).cell? ⟨gv, 3, none⟩ = some (.int .u32 x3) ∧ (wz.drewN n).cell? ⟨gv, 5, none⟩ = some (.int .u32 x5) ∧ (wz.drewN n).cell? ⟨gv, 6, none⟩ = some (.int .u32 x6) from fun n => ⟨c1, c2, c3, c5, c6⟩)
              clear hU hm hm' hm0 hp1 hp2 hp3 hq1 hq2 hu ml p1l p2l p3l q1l q2l hr1 hr2 hr3 j1 j2 j3 m0l c3 c5 c6
              go_quiet ((first | (go_at_call 69; (with_reducible refine Calls.quiet_of (HR1.out _))) | (go_at_call 69; (with_reducible refine Calls.quiet_of (HR2.out _))) | (go_at_call 69; (with_reducible refine Calls.quiet_of (HR3.out _)))))
              go_wp2_with fail
              obtain ⟨c1', c2', c3', c5', c6'⟩ := HCC.out nq
              clear c1 c2 HR1 HR2 HR3 u1 u2 f1 f2 f3 f4 f5 f6 HCC
              have HB := Lib.hid (Below.drewN' HB.out nq)
              have hbs : w3.heap.size ≤ (wz.drewN nq).heap.size := hbs
              have hgv : gv < (wz.drewN nq).heap.size := hgv
              generalize wz.drewN nq = wx at HB hbs hgv c1' c2' c3' c5' c6' ⊢
              obtain ⟨n0, hn0⟩ : ∃ x, (t + u) % 4294967296 = x := ⟨_, rfl⟩
              obtain ⟨n4, hn4⟩ : ∃ x, (x3 + t) % 4294967296 = x := ⟨_, rfl⟩
              have a1 : IntKind.u32.wrap ((t : Int) + (u : Int)) = (n0 : Int) := by rw [IntKind.wrap_u32]; omega
              have a2 : IntKind.u32.wrap ((x3 : Int) + (t : Int)) = (n4 : Int) := by rw [IntKind.wrap_u32]; omega
              have hnew : rounds ws H (j + 1) = [n0, x0, x1, x2, n4, x4, x5, x6] := by
                show round (rounds ws H j) (shaK.getD j 0) (ws.getD j 0) = _
                rw [HH.out, HKJ.out, HWJ.out]
                unfold round
                rw [HT.out, HU.out, hn0]
                show [n0, x0, x1, x2, (x3 + t) % 4294967296, x4, x5, x6] = _
                rw [hn4]
              have HNEW := Lib.hid hnew
              have HC5 := Lib.hid (show ∀ o, ((wx.alloc o).drew).cell? ⟨gv, 1, none⟩ = some (.int .u32 x1) ∧ ((wx.alloc o).drew).cell? ⟨gv, 2, none⟩ = some (.int .u32 x2) ∧ ((wx.alloc o).drew).cell? ⟨gv, 3, none⟩ = some (.int .u32 x3) ∧ ((wx.alloc o).drew).cell? ⟨gv, 5, none⟩ = some (.int .u32 x5) ∧ ((wx.alloc o).drew).cell? ⟨gv, 6, none⟩ = some (.int .u32 x6) from fun o => ⟨(World.cell?_alloc_lt wx o ⟨gv, 1, none⟩ hgv).trans c1', (World.cell?_alloc_lt wx o ⟨gv, 2, none⟩ hgv).trans c2', (World.cell?_alloc_lt wx o ⟨gv, 3, none⟩ hgv).trans c3', (World.cell?_alloc_lt wx o ⟨gv, 5, none⟩ hgv).trans c5', (World.cell?_alloc_lt wx o ⟨gv, 6, none⟩ hgv).trans c6'⟩)
              have HC6 := Lib.hid (And.intro c1' (And.intro c2' (And.intro c3' (And.intro c5' c6'))))
              clear hnew hn0 hn4 c1' c2' c3' c5' c6'
              go_region_held3 (fun w' => w'.cell? ⟨gv, 1, none⟩ = some (.int .u32 x1) ∧ w'.cell? ⟨gv, 2, none⟩ = some (.int .u32 x2) ∧ w'.cell? ⟨gv, 3, none⟩ = some (.int .u32 x3) ∧ w'.cell? ⟨gv, 5, none⟩ = some (.int .u32 x5) ∧ w'.cell? ⟨gv, 6, none⟩ = some (.int .u32 x6)) (first | exact HC6.out | exact HC5.out _ | fail) (fail)
              have hV : LAt (wx.alloc (.cells #[.int .u32 n0, .int .u32 x0, .int .u32 x1, .int .u32 x2, .int .u32 n4, .int .u32 x4, .int .u32 x5, .int .u32 x6] 69)).drew (wx.alloc (.cells #[.int .u32 n0, .int .u32 x0, .int .u32 x1, .int .u32 x2, .int .u32 n4, .int .u32 x4, .int .u32 x5, .int .u32 x6] 69)).drew.heap.size (some ⟨wx.heap.size, 0, none⟩) wv (rounds ws H (j + 1)) := by
                rw [HNEW.out]
                exact fresh_lat wx [n0, x0, x1, x2, n4, x4, x5, x6] _ _ rfl
              have HV := Lib.hid hV
              have HB := Lib.hid (HB.out.alloc hbs (.cells #[.int .u32 n0, .int .u32 x0, .int .u32 x1, .int .u32 x2, .int .u32 n4, .int .u32 x4, .int .u32 x5, .int .u32 x6] 69)).drew
              clear hV a1 a2
              go_wp2_with fail
              exact ⟨⟨j + 1, wx.heap.size, 8, by omega, rfl, rfl, HV.out, HB.out⟩, by simp [intOf]; omega⟩
              -- }}
            · obtain rfl : j = 64 := by omega
              have hall : addB H b = List.zipWith (fun x y => (x + y) % 4294967296) H (rounds ws H 64) := by unfold addB; rw [HWS.out]
              have hrl := rounds_length (ws := ws) H8.out 64
              have hrlt := rounds_lt (ws := ws) HLT.out 64
              obtain ⟨V, hVV⟩ : ∃ V, rounds ws H 64 = V := ⟨_, rfl⟩
              rw [hVV] at hV hall hrl hrlt
              have HALL := Lib.hid hall
              have HRL := Lib.hid hrl
              have HRLT := Lib.hid hrlt
              have HVA := Lib.hid hV
              have hB0 : Below w.heap.size w wr := HB3.out.trans (HB.out.mono hbs3)
              have HB0 := Lib.hid hB0
              clear hall hrl hrlt hV hVV hB0 hwsW hksW hlt
              go_wp2_with fail
              obtain ⟨wq3, rfl⟩ : ∃ wq3 : World, wq3 = wr := ⟨_, rfl⟩
              simp only [Int.cast_ofNat_Int]
              go_loopw [17, 18] (fun v17 i wr' => ∃ j : Nat, j ≤ 8 ∧ i = .int .i64 j ∧ WordL wr' wq3.heap.size v17 ((List.zipWith (fun x y => (x + y) % 4294967296) H V).take j) ∧ Below wq3.heap.size wq3 wr') (fun _ i _ => 8 - (intOf i).toNat)
              case atStart => exact ⟨0, by omega, rfl, OL.nil, Below.refl _ _⟩
              case round =>
                obtain ⟨j, hj, rfl, h17, hB⟩ := hrel
                have HB := Lib.hid hB
                have hbs := hB.size
                have hH := HA0.out.below (HB0.out.trans (hB.mono HB0.out.size))
                have hVl := HVA.out.below hB
                clear hB
                by_cases hlt : j < 8
                · -- {{
                  obtain ⟨aH, rfl, -, cH⟩ := hH.get (i := j) (by rw [H8.out]; exact hlt)
                  obtain ⟨aV, eV, -, cV⟩ := hVl.get (i := j) (by rw [HRL.out]; exact hlt)
                  cases eV
                  rw [show (⟨gv, 0, none⟩ : Addr).add j = ⟨gv, j, none⟩ by simp [Addr.add]; omega] at cV
                  have lH := HLT.out _ (List.getElem_mem (h := show j < H.length by rw [H8.out]; exact hlt))
                  have lV := HRLT.out _ (List.getElem_mem (h := show j < V.length by rw [HRL.out]; exact hlt))
                  have hz : j < (List.zipWith (fun x y => (x + y) % 4294967296) H V).length := by rw [List.length_zipWith, H8.out, HRL.out]; exact hlt
                  have hzt := List.take_succ_eq_append_getElem hz
                  rw [List.getElem_zipWith] at hzt
                  have hzl : ((List.zipWith (fun x y => (x + y) % 4294967296) H V).take j).length = j := by rw [List.length_take]; omega
                  obtain ⟨xH, hxH⟩ : ∃ x, H[j]'(by rw [H8.out]; exact hlt) = x := ⟨_, rfl⟩
                  obtain ⟨xV, hxV⟩ : ∃ x, V[j]'(by rw [HRL.out]; exact hlt) = x := ⟨_, rfl⟩
                  rw [hxH] at cH lH hzt
                  rw [hxV] at cV lV hzt
                  unfold wv at cH cV
                  obtain ⟨n0, hn0⟩ : ∃ x, (xH + xV) % 4294967296 = x := ⟨_, rfl⟩
                  rw [hn0] at hzt
                  have a1 : IntKind.u32.wrap ((xH : Int) + (xV : Int)) = (n0 : Int) := by rw [IntKind.wrap_u32]; omega
                  have b0 : (0 : Int) ≤ (j : Int) := by omega
                  have b1 : (j : Int) < 8 := by omega
                  have HZT := Lib.hid hzt
                  have HZL := Lib.hid hzl
                  have H17 := Lib.hid h17
                  have ch := cell_lt cH
                  have cg := cell_lt cV
                  have HC6 := Lib.hid (And.intro cH cV)
                  have HC5 := Lib.hid (show ∀ o, ((wr.alloc o).drew).cell? (aH.add j) = some (.int .u32 xH) ∧ ((wr.alloc o).drew).cell? ⟨gv, j, none⟩ = some (.int .u32 xV) from fun o => ⟨(World.cell?_alloc_lt wr o (aH.add j) ch).trans cH, (World.cell?_alloc_lt wr o ⟨gv, j, none⟩ cg).trans cV⟩)
                  have HC7 := Lib.hid (show ∀ W', Below wq3.heap.size wq3 W' → W'.cell? (aH.add j) = some (.int .u32 xH) ∧ W'.cell? ⟨gv, j, none⟩ = some (.int .u32 xV) from fun W' hb => by
                    obtain ⟨a', ha', -, hc⟩ := (HA0.out.below (HB0.out.trans (hb.mono HB0.out.size))).get (i := j) (by rw [H8.out]; exact hlt)
                    cases ha'
                    obtain ⟨a2, ha2, -, hc2⟩ := (HVA.out.below hb).get (i := j) (by rw [HRL.out]; exact hlt)
                    cases ha2
                    rw [show (⟨gv, 0, none⟩ : Addr).add j = ⟨gv, j, none⟩ by simp [Addr.add]; omega] at hc2
                    rw [hxH] at hc
                    rw [hxV] at hc2
                    exact ⟨hc, hc2⟩)
                  clear hz hzt hzl hxH hxV hn0 h17 cH cV hH hVl ch cg
                  go_wp2_with fail
                  go_region_held3 (fun w' => w'.cell? (aH.add j) = some (.int .u32 xH) ∧ w'.cell? ⟨gv, j, none⟩ = some (.int .u32 xV)) (first | exact HC6.out | exact HC5.out _ | exact HC7.out _ ((HB.out.alloc hbs _).drew.trans hb2) | fail)
                    (first
                      | (refine step_app (by rfl) (.tmp 225) (.tmp 235) 77 (by rfl) elemU32 _ ((List.zipWith (fun x y => (x + y) % 4294967296) H V).take j) j HZL.out (by rfl) ((OL.alloc H17.out _).drew) n0 wr.heap.size #[.int .u32 n0] (by rfl) ?_ (by rfl) (by rfl) (by simp [one, wv, Value.oneCell']) (by rw [HZL.out]; unfold maxLen; omega) (by rw [HZL.out]; omega) (by simp; omega) ?_; (· exact World.alloc_heap_new wr _); intro g5 c5 w2 h5 hg5 hg5' hg5l hb2)
                      | fail)
                  have H7 := Lib.hid h5
                  have HB7 := Lib.hid ((HB.out.alloc hbs (.cells #[.int .u32 n0] 69)).drew.trans hb2)
                  clear h5 hg5 hg5' hg5l hb2
                  go_wp2_with fail
                  exact ⟨⟨j + 1, by omega, rfl, by rw [HZT.out]; exact H7.out, HB7.out⟩, by simp [intOf]; omega⟩
                  -- }}
                · obtain rfl : j = 8 := by omega
                  rw [List.take_of_length_le (by rw [List.length_zipWith, H8.out, HRL.out]; decide), ← HALL.out] at h17
                  have hal := addB_length (b := b) H8.out
                  obtain ⟨g5, c5, rfl, -⟩ := h17.form (by rw [hal]; decide)
                  rw [hal] at h17 ⊢
                  have hfin := h17.base HB0.out.size
                  have HF := Lib.hid hfin
                  clear hal h17 hfin hH hVl hlt
                  go_wp2_with fail
                  go_ret
                  exact ⟨⟨g5, c5, rfl, HF.out⟩, HB0.out.trans (HB.out.mono HB0.out.size)⟩

end Go.Proofs.YtjelniemoambaaaDoor
