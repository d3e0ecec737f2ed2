/-
  The contract of package digest's schedule of words. Condition: the block has 64 bytes.
-/
import Derived.Test.YtllmciiadceinaaGreatDoorDigA
import Derived.Deep.RegionWith
import Derived.Deep.QuietTactic
import Derived.BigQuiet
namespace Go.Proofs.YtllmciiadceinaaGreatDoor
open Go Go.RowKit

/-- l, and z up to the length n. -/
def fillTo {α : Type} (l : List α) (n : Nat) (z : α) : List α := l ++ List.replicate (n - l.length) z
theorem fillTo_set {α : Type} {l : List α} {n : Nat} {z x : α} (h : l.length < n) : (fillTo l n z).set l.length x = fillTo (l ++ [x]) n z := by
  unfold fillTo
  rw [List.set_append_right _ _ (Nat.le_refl _), Nat.sub_self, show n - l.length = (n - (l.length + 1)) + 1 by omega, List.replicate_succ, List.set_cons_zero]
  simp
theorem fillTo_length {α : Type} {l : List α} {n : Nat} {z : α} (h : l.length ≤ n) : (fillTo l n z).length = n := by unfold fillTo; simp; omega
theorem fillTo_nil {α : Type} {n : Nat} {z : α} : fillTo [] n z = List.replicate n z := by unfold fillTo; simp
theorem fillTo_full {α : Type} {l : List α} {n : Nat} {z : α} (h : l.length = n) : fillTo l n z = l := by unfold fillTo; simp [h]
theorem fillTo_at {α : Type} {l : List α} {n i : Nat} {z : α} (h : i < l.length) : (fillTo l n z)[i]? = some l[i] := by
  unfold fillTo; rw [List.getElem?_append_left h, List.getElem?_eq_getElem h]
theorem sched_length (b : List UInt8) (k : Nat) : (sched b k).length = k := by
  induction k with
  | zero => rfl
  | succ k ih => unfold sched extW; simp [ih]

theorem be32_lt (b : List UInt8) (i : Nat) : be32 b i < 4294967296 := by
  have h : ∀ j, (b.getD j 0).toNat < 256 := fun j => UInt8.toNat_lt _
  have h0 := h (4 * i)
  have h1 := h (4 * i + 1)
  have h2 := h (4 * i + 2)
  have h3 := h (4 * i + 3)
  exact Nat.or_lt_two_pow (n := 32) (Nat.or_lt_two_pow (n := 32) (Nat.or_lt_two_pow (n := 32) (by omega) (by omega)) (by omega)) (by omega)
theorem sched_lt (b : List UInt8) (k : Nat) : ∀ x ∈ sched b k, x < 4294967296 := by
  induction k with
  | zero => intro x hx; cases hx
  | succ k ih =>
    intro x hx
    unfold sched extW at hx
    rcases List.mem_append.1 hx with h | h
    · exact ih x h
    · have := List.mem_singleton.1 h
      rw [this]
      split
      · exact be32_lt _ _
      · exact Nat.mod_lt _ (by decide)

set_option maxRecDepth 100000 in
set_option maxHeartbeats 4000000 in
theorem schedule_walk (a : Addr) (b : List UInt8) (c : Nat) (hb : b.length = 64) (w : World) (hA : LAt w w.heap.size (some a) bv b) :
    Calls Tryz.prog 144 #[.slice (some a) 64 c] w fun e w' => e = .returned (.agg ((sched b 64).map wv).toArray) ∧ Below w.heap.size w w' := by
  go_enter Tryz.func144, Tryz.ntmps144
  go_wp2_with fail
  go_loopw [3, 7] (fun _ i wr => ∃ k : Nat, k ≤ 16 ∧ i = .int .i64 k ∧ RAt wr w.heap.size wv (fillTo (sched b k) 64 0) ∧ Below w.heap.size w wr) (fun _ i _ => 16 - (intOf i).toNat)
  case atStart => exact ⟨0, by omega, rfl, RAt.alloc_new w _ _ rfl, (Below.refl _ _).alloc (Nat.le_refl _) _⟩
  case round =>
    obtain ⟨k, hk, rfl, hr, hW⟩ := hrel
    have HR := Lib.hid hr
    have HW := Lib.hid hW
    clear hr hW
    by_cases hlt : k < 16
    · -- {{
      have hA' := hA.below HW.out
      obtain ⟨q0, hq0⟩ : ∃ q, 4 * k = q := ⟨_, rfl⟩
      obtain ⟨q1, hq1⟩ : ∃ q, 4 * k + 1 = q := ⟨_, rfl⟩
      obtain ⟨q2, hq2⟩ : ∃ q, 4 * k + 2 = q := ⟨_, rfl⟩
      obtain ⟨q3, hq3⟩ : ∃ q, 4 * k + 3 = q := ⟨_, rfl⟩
      obtain ⟨a0, e0, hab, h0⟩ := hA'.get (i := q0) (by omega)
      obtain ⟨a1, e1, _, h1⟩ := hA'.get (i := q1) (by omega)
      obtain ⟨a2, e2, _, h2⟩ := hA'.get (i := q2) (by omega)
      obtain ⟨a3, e3, _, h3⟩ := hA'.get (i := q3) (by omega)
      cases e0; cases e1; cases e2; cases e3
      unfold bv at h0 h1 h2 h3
      have g0 : IntKind.i64.wrap (4 * (k : Int)) = (q0 : Int) := by rw [IntKind.wrap_i64]; omega
      have g1 : IntKind.i64.wrap ((q0 : Int) + 1) = (q1 : Int) := by rw [IntKind.wrap_i64]; omega
      have g2 : IntKind.i64.wrap ((q0 : Int) + 2) = (q2 : Int) := by rw [IntKind.wrap_i64]; omega
      have g3 : IntKind.i64.wrap ((q0 : Int) + 3) = (q3 : Int) := by rw [IntKind.wrap_i64]; omega
      have b0 : (0 : Int) ≤ (q0 : Int) := by omega
      have b1 : (q0 : Int) < 64 := by omega
      have b2 : (q1 : Int) < 64 := by omega
      have b3 : (q2 : Int) < 64 := by omega
      have b4 : (q3 : Int) < 64 := by omega
      have b5 : (0 : Int) ≤ (q1 : Int) := by omega
      have b6 : (0 : Int) ≤ (q2 : Int) := by omega
      have b7 : (0 : Int) ≤ (q3 : Int) := by omega
      have b8 : (0 : Int) ≤ (k : Int) := by omega
      have b9 : (k : Int) < 64 := by omega
      have hbe : be32 b k = b[q0].toNat * 16777216 ||| b[q1].toNat * 65536 ||| b[q2].toNat * 256 ||| b[q3].toNat := by
        have e : ∀ i (h : i < b.length), b.getD i 0 = b[i] := fun i h => by rw [List.getD_eq_getElem?_getD, List.getElem?_eq_getElem h]; rfl
        unfold be32
        rw [hq1, hq2, hq3, hq0, e q0 (by omega), e q1 (by omega), e q2 (by omega), e q3 (by omega)]
      obtain ⟨x0, hx0⟩ : ∃ x, b[q0].toNat = x := ⟨_, rfl⟩
      obtain ⟨x1, hx1⟩ : ∃ x, b[q1].toNat = x := ⟨_, rfl⟩
      obtain ⟨x2, hx2⟩ : ∃ x, b[q2].toNat = x := ⟨_, rfl⟩
      obtain ⟨x3, hx3⟩ : ∃ x, b[q3].toNat = x := ⟨_, rfl⟩
      have y0 : x0 < 256 := hx0 ▸ UInt8.toNat_lt _
      have y1 : x1 < 256 := hx1 ▸ UInt8.toNat_lt _
      have y2 : x2 < 256 := hx2 ▸ UInt8.toNat_lt _
      have y3 : x3 < 256 := hx3 ▸ UInt8.toNat_lt _
      rw [hx0] at h0 hbe
      rw [hx1] at h1 hbe
      rw [hx2] at h2 hbe
      rw [hx3] at h3 hbe
      have hsl := sched_length b k
      have nb : ∀ q, (⟨w.heap.size, k, none⟩ : Addr) ≠ a.add q := fun q e => by have := congrArg Addr.block e; rw [addr_add_block] at this; simp at this; omega
      have hc : wr.cell? ⟨w.heap.size, k, none⟩ = some (.int .u32 0) := by
        have := HR.out.get (i := k) (by rw [fillTo_length (by omega)]; omega)
        rw [this]
        have e : (fillTo (sched b k) 64 0)[k]? = some 0 := by unfold fillTo; rw [List.getElem?_append_right (by omega), List.getElem?_replicate]; simp; omega
        rw [(List.getElem?_eq_some_iff.1 e).2]; rfl
      have hf : wr.frozen? ⟨w.heap.size, k, none⟩ = false := HR.out.free k (by rw [fillTo_length (by omega)]; omega)
      have HA := Lib.hid hA
      have t0 : IntKind.u32.wrap (x0 : Int) = (x0 : Int) := by rw [IntKind.wrap_u32]; omega
      have t1 : IntKind.u32.wrap (x1 : Int) = (x1 : Int) := by rw [IntKind.wrap_u32]; omega
      have t2 : IntKind.u32.wrap (x2 : Int) = (x2 : Int) := by rw [IntKind.wrap_u32]; omega
      have t3 : IntKind.u32.wrap (x3 : Int) = (x3 : Int) := by rw [IntKind.wrap_u32]; omega
      obtain ⟨z0, hz0⟩ : ∃ z, x0 * 16777216 = z := ⟨_, rfl⟩
      obtain ⟨z1, hz1⟩ : ∃ z, x1 * 65536 = z := ⟨_, rfl⟩
      obtain ⟨z2, hz2⟩ : ∃ z, x2 * 256 = z := ⟨_, rfl⟩
      have p0 : IntKind.u32.wrap ((x0 : Int) * 16777216) = (z0 : Int) := by rw [IntKind.wrap_u32]; omega
      have p1 : IntKind.u32.wrap ((x1 : Int) * 65536) = (z1 : Int) := by rw [IntKind.wrap_u32]; omega
      have p2 : IntKind.u32.wrap ((x2 : Int) * 256) = (z2 : Int) := by rw [IntKind.wrap_u32]; omega
      rw [hz0, hz1, hz2] at hbe
      have z0l : z0 < 4294967296 := by omega
      have z1l : z1 < 4294967296 := by omega
      have z2l : z2 < 4294967296 := by omega
      have r1 := u32_or_nat z0 z1 z0l z1l
      have r1l := Nat.or_lt_two_pow (n := 32) z0l z1l
      have r2 := u32_or_nat (z0 ||| z1) z2 r1l z2l
      have r2l := Nat.or_lt_two_pow (n := 32) r1l z2l
      have r3 := u32_or_nat (z0 ||| z1 ||| z2) x3 r2l (by omega)
      rw [← hbe] at r3
      obtain ⟨o2, ho2⟩ : ∃ o, z0 ||| z1 ||| z2 = o := ⟨_, rfl⟩
      rw [ho2] at r2 r3
      obtain ⟨o1, ho1⟩ : ∃ o, z0 ||| z1 = o := ⟨_, rfl⟩
      rw [ho1] at r1 r2
      obtain ⟨o3, ho3⟩ : ∃ o, be32 b k = o := ⟨_, rfl⟩
      rw [ho3] at r3 hbe
      have HE := Lib.hid ho3
      clear hz0 hz1 hz2 z0l z1l z2l r1l r2l ho1 ho2 ho3
      clear hA hA' hsl hq0 hq1 hq2 hq3 hx0 hx1 hx2 hx3 hbe
      go_wp2_with fail
      go_region_held3 (fun w' => w'.cell? (a.add q0) = some (.int .u8 x0) ∧ w'.cell? (a.add q1) = some (.int .u8 x1) ∧ w'.cell? (a.add q2) = some (.int .u8 x2) ∧ w'.cell? (a.add q3) = some (.int .u8 x3)) (first | exact ⟨h0, h1, h2, h3⟩ | exact ⟨(World.cell?_setCell_other _ _ _ _ (nb _)).trans h0, (World.cell?_setCell_other _ _ _ _ (nb _)).trans h1, (World.cell?_setCell_other _ _ _ _ (nb _)).trans h2, (World.cell?_setCell_other _ _ _ _ (nb _)).trans h3⟩ | go_keep) (fail)
      clear h0 h1 h2 h3 hc hf
      go_wp2_with fail
      have hset := (HR.out.setv k (by rw [fillTo_length (by rw [sched_length]; omega)]; omega) o3 (.int .u32 o3) rfl).drew
      have e := fillTo_set (l := sched b k) (n := 64) (z := 0) (x := o3) (by rw [sched_length]; omega)
      rw [sched_length] at e
      rw [e] at hset
      refine ⟨⟨k + 1, by omega, rfl, ?_, (HW.out.setCell (p := ⟨w.heap.size, k, none⟩) (Nat.le_refl _) _).drew⟩, by simp [intOf]; omega⟩
      rw [show sched b (k + 1) = sched b k ++ [o3] by rw [← HE.out]; show extW b (sched b k) = _; unfold extW; rw [sched_length, if_pos hlt]]
      exact hset
      -- }}
    · obtain rfl : k = 16 := by omega
      clear hlt
      go_wp2_with fail
      obtain ⟨wq, rfl⟩ : ∃ wq : World, wq = wr := ⟨_, rfl⟩
      simp only [Int.cast_ofNat_Int]
      go_loopw [4, 5, 6] (fun i _ _ wr => ∃ k : Nat, 16 ≤ k ∧ k ≤ 64 ∧ i = .int .i64 k ∧ RAt wr w.heap.size wv (fillTo (sched b k) 64 0) ∧ Below w.heap.size w wr) (fun i _ _ _ => 64 - (intOf i).toNat)
      case atStart => exact ⟨16, by omega, by omega, rfl, HR.out, HW.out⟩
      case round =>
        obtain ⟨k, hk0, hk, rfl, hr, hW⟩ := hrel
        clear HR HW
        have HR := Lib.hid hr
        have HW := Lib.hid hW
        clear hr hW
        by_cases hlt : k < 64
        · -- {{
          have hsl := sched_length b k
          have hcell : ∀ i (h : i < (sched b k).length), wr.cell? ⟨w.heap.size, i, none⟩ = some (.int .u32 ((sched b k)[i] : Nat)) := fun i h => by
            have := HR.out.cell i _ (fillTo_at h)
            exact this
          obtain ⟨q16, hq16⟩ : ∃ q, k - 16 = q := ⟨_, rfl⟩
          obtain ⟨q15, hq15⟩ : ∃ q, k - 15 = q := ⟨_, rfl⟩
          obtain ⟨q7, hq7⟩ : ∃ q, k - 7 = q := ⟨_, rfl⟩
          obtain ⟨q2, hq2⟩ : ∃ q, k - 2 = q := ⟨_, rfl⟩
          have c16 := hcell q16 (by omega)
          have c15 := hcell q15 (by omega)
          have c7 := hcell q7 (by omega)
          have c2 := hcell q2 (by omega)
          have l16 := sched_lt b k _ (List.getElem_mem (h := show q16 < (sched b k).length by omega))
          have l15 := sched_lt b k _ (List.getElem_mem (h := show q15 < (sched b k).length by omega))
          have l7 := sched_lt b k _ (List.getElem_mem (h := show q7 < (sched b k).length by omega))
          have l2 := sched_lt b k _ (List.getElem_mem (h := show q2 < (sched b k).length by omega))
          have hnx : nextW (sched b k) k = ((((sched b k)[q16] + (mix2 7 18 (sched b k)[q15] ^^^ (sched b k)[q15] / 8)) % 4294967296 + (sched b k)[q7]) % 4294967296 + (mix2 17 19 (sched b k)[q2] ^^^ (sched b k)[q2] / 1024)) % 4294967296 := by
            have e : ∀ i (h : i < (sched b k).length), (sched b k).getD i 0 = (sched b k)[i] := fun i h => by rw [List.getD_eq_getElem?_getD, List.getElem?_eq_getElem h]; rfl
            unfold nextW
            rw [hq16, hq15, hq7, hq2, e q16 (by omega), e q15 (by omega), e q7 (by omega), e q2 (by omega)]
          obtain ⟨x16, hx16⟩ : ∃ x, (sched b k)[q16] = x := ⟨_, rfl⟩
          obtain ⟨x15, hx15⟩ : ∃ x, (sched b k)[q15] = x := ⟨_, rfl⟩
          obtain ⟨x7, hx7⟩ : ∃ x, (sched b k)[q7] = x := ⟨_, rfl⟩
          obtain ⟨x2, hx2⟩ : ∃ x, (sched b k)[q2] = x := ⟨_, rfl⟩
          rw [hx16] at c16 l16
          rw [hx15] at c15 l15
          rw [hx7] at c7 l7
          rw [hx2] at c2 l2
          rw [hx16, hx15, hx7, hx2] at hnx
          have m1l := mixL_lt l15 [7, 18]
          have m2l := mixL_lt l2 [17, 19]
          change mix2 7 18 x15 < _ at m1l
          change mix2 17 19 x2 < _ at m2l
          obtain ⟨m1, hm1⟩ : ∃ x, mix2 7 18 x15 = x := ⟨_, rfl⟩
          obtain ⟨m2, hm2⟩ : ∃ x, mix2 17 19 x2 = x := ⟨_, rfl⟩
          rw [hm1] at m1l hnx
          rw [hm2] at m2l hnx
          obtain ⟨d1, hd1⟩ : ∃ x, x15 / 8 = x := ⟨_, rfl⟩
          obtain ⟨d2, hd2⟩ : ∃ x, x2 / 1024 = x := ⟨_, rfl⟩
          rw [hd1, hd2] at hnx
          have f1 : (x15 : Int) / 8 = (d1 : Int) := by omega
          have f2 : (x2 : Int) / 1024 = (d2 : Int) := by omega
          have g1 := u32_xor_nat m1 d1 m1l (by omega)
          have g2 := u32_xor_nat m2 d2 m2l (by omega)
          have g1l := Nat.xor_lt_two_pow (n := 32) m1l (show d1 < 2 ^ 32 by omega)
          have g2l := Nat.xor_lt_two_pow (n := 32) m2l (show d2 < 2 ^ 32 by omega)
          obtain ⟨s1, hs1⟩ : ∃ x, m1 ^^^ d1 = x := ⟨_, rfl⟩
          obtain ⟨s2, hs2⟩ : ∃ x, m2 ^^^ d2 = x := ⟨_, rfl⟩
          rw [hs1] at g1 g1l
          rw [hs2] at g2 g2l
          rw [hs1, hs2] at hnx
          obtain ⟨t1, ht1⟩ : ∃ x, (x16 + s1) % 4294967296 = x := ⟨_, rfl⟩
          rw [ht1] at hnx
          obtain ⟨t2, ht2⟩ : ∃ x, (t1 + x7) % 4294967296 = x := ⟨_, rfl⟩
          rw [ht2] at hnx
          obtain ⟨t3, ht3⟩ : ∃ x, (t2 + s2) % 4294967296 = x := ⟨_, rfl⟩
          rw [ht3] at hnx
          have a1 : IntKind.u32.wrap ((x16 : Int) + (s1 : Int)) = (t1 : Int) := by rw [IntKind.wrap_u32]; omega
          have a2 : IntKind.u32.wrap ((t1 : Int) + (x7 : Int)) = (t2 : Int) := by rw [IntKind.wrap_u32]; omega
          have a3 : IntKind.u32.wrap ((t2 : Int) + (s2 : Int)) = (t3 : Int) := by rw [IntKind.wrap_u32]; omega
          have w16 : IntKind.i64.wrap ((k : Int) - 16) = (q16 : Int) := by rw [IntKind.wrap_i64]; omega
          have w15 : IntKind.i64.wrap ((k : Int) - 15) = (q15 : Int) := by rw [IntKind.wrap_i64]; omega
          have w7 : IntKind.i64.wrap ((k : Int) - 7) = (q7 : Int) := by rw [IntKind.wrap_i64]; omega
          have w2 : IntKind.i64.wrap ((k : Int) - 2) = (q2 : Int) := by rw [IntKind.wrap_i64]; omega
          have b1 : (0 : Int) ≤ (q16 : Int) := by omega
          have b2 : (0 : Int) ≤ (q15 : Int) := by omega
          have b3 : (0 : Int) ≤ (q7 : Int) := by omega
          have b4 : (0 : Int) ≤ (q2 : Int) := by omega
          have b5 : (q16 : Int) < 64 := by omega
          have b6 : (q15 : Int) < 64 := by omega
          have b7 : (q7 : Int) < 64 := by omega
          have b8 : (q2 : Int) < 64 := by omega
          have b9 : (0 : Int) ≤ (k : Int) := by omega
          have b10 : (k : Int) < 64 := by omega
          have hc : wr.cell? ⟨w.heap.size, k, none⟩ = some (.int .u32 0) := by
            have := HR.out.get (i := k) (by rw [fillTo_length (by omega)]; omega)
            rw [this]
            have e : (fillTo (sched b k) 64 0)[k]? = some 0 := by unfold fillTo; rw [List.getElem?_append_right (by omega), List.getElem?_replicate]; simp; omega
            rw [(List.getElem?_eq_some_iff.1 e).2]; rfl
          have hf : wr.frozen? ⟨w.heap.size, k, none⟩ = false := HR.out.free k (by rw [fillTo_length (by omega)]; omega)
          have n16 : ¬ k = q16 := by omega
          have n7 : ¬ k = q7 := by omega
          have HN := Lib.hid hnx
          have HM1 := Lib.hid hm1
          have HM2 := Lib.hid hm2
          clear hnx hm1 hm2 hcell hq16 hq15 hq7 hq2 hx16 hx15 hx7 hx2 hd1 hd2 hs1 hs2 ht1 ht2 ht3 m1l m2l g1l g2l hsl hA
          go_wp2_with fail
          go_quiet (fail)
          go_wp2_with fail
          have HR2 := Lib.hid (HR.out.drewN nq)
          have HW2 := Lib.hid (Below.drewN' HW.out nq)
          have c16z : (wr.drewN nq).cell? ⟨w.heap.size, q16, none⟩ = some (.int .u32 x16) := c16
          have c7z : (wr.drewN nq).cell? ⟨w.heap.size, q7, none⟩ = some (.int .u32 x7) := c7
          have hcz : (wr.drewN nq).cell? ⟨w.heap.size, k, none⟩ = some (.int .u32 0) := hc
          have hfz : (wr.drewN nq).frozen? ⟨w.heap.size, k, none⟩ = false := hf
          clear c16 c15 c7 c2 hc hf HR HW w15 w2
          generalize wr.drewN nq = wz at HR2 HW2 c16z c7z hcz hfz ⊢
          have hgz : w.heap.size < wz.heap.size := HR2.out.lt
          have e16 := World.new_ne wz _ c16z
          have e7 := World.new_ne wz _ c7z
          have cs16 : (wz.setCell ⟨w.heap.size, k, none⟩ (.int .u32 t3)).cell? ⟨w.heap.size, q16, none⟩ = some (.int .u32 x16) := (World.cell?_setCell_other _ _ _ _ (fun e => n16 (congrArg Addr.off e))).trans c16z
          have cs7 : (wz.setCell ⟨w.heap.size, k, none⟩ (.int .u32 t3)).cell? ⟨w.heap.size, q7, none⟩ = some (.int .u32 x7) := (World.cell?_setCell_other _ _ _ _ (fun e => n7 (congrArg Addr.off e))).trans c7z
          have es16 := World.new_ne _ _ cs16
          have es7 := World.new_ne _ _ cs7
          have hset := HR2.out.setv k (by rw [fillTo_length (by rw [sched_length]; omega)]; omega) t3 (.int .u32 t3) rfl
          have e := fillTo_set (l := sched b k) (n := 64) (z := 0) (x := t3) (by rw [sched_length]; omega)
          rw [sched_length] at e
          rw [e, show sched b k ++ [t3] = sched b (k + 1) by rw [← HN.out]; show _ = extW b (sched b k); unfold extW; rw [sched_length, if_neg (by omega)]] at hset
          have HS := Lib.hid hset
          have hbw := HW2.out.setCell (p := ⟨w.heap.size, k, none⟩) (Nat.le_refl _) (.int .u32 t3)
          have HB := Lib.hid (hbw)
          clear hset e hbw HR2 HW2
          go_region_held3 (fun w' => w'.cell? ⟨w.heap.size, q16, none⟩ = some (.int .u32 x16) ∧ w'.cell? ⟨w.heap.size, q7, none⟩ = some (.int .u32 x7)) (go_keep)
            (first | (go_at_call_of 145 (Value.int IntKind.u32 (x15 : Int)); refine (mixed2_walk x15 l15 _ 7 18 _ (by decide) (by decide) _ ?_ ?_).mono ?_; (· go_simp); (· go_simp); rw [HM1.out]; rintro e w4 ⟨rfl, rfl⟩) | (go_at_call_of 145 (Value.int IntKind.u32 (x2 : Int)); refine (mixed2_walk x2 l2 _ 17 19 _ (by decide) (by decide) _ ?_ ?_).mono ?_; (· go_simp); (· go_simp); rw [HM2.out]; rintro e w4 ⟨rfl, rfl⟩))
          all_goals
            clear c16z c7z hcz hfz cs16 cs7 es16 es7 e16 e7
            go_wp2_with fail
            exact ⟨⟨k + 1, by omega, by omega, rfl, ((HS.out.alloc _).alloc _).drew, ((HB.out.alloc (by simp; omega) _).alloc (by simp; omega) _).drew⟩, by simp [intOf]; omega⟩
          -- }}
        · obtain rfl : k = 64 := by omega
          have hr := HR.out
          rw [fillTo_full (sched_length b 64)] at hr
          have hlen : ((sched b 64).map wv).length = 64 := by rw [List.length_map, sched_length]
          have hinfo : (Tryz.prog.info? 214).map (·.size) = some ((sched b 64).map wv).length := by rw [hlen]; kernel_rfl
          have h1c : ((sched b 64).map wv).toArray.all (·.oneCell') = true := all_oneCell_toArray (fun v hv => by obtain ⟨x, _, rfl⟩ := List.mem_map.1 hv; rfl)
          have hset := hr.setAll (m := sched b 64) rfl
          have hrg := hr.range
          have hrs := hset.range
          have hth := hr.there
          rw [sched_length] at hth
          have HB := Lib.hid (Below.setCells (Nat.le_refl _) ((sched b 64).map wv) 0 HW.out)
          clear hset hr HR HW hA
          obtain ⟨vs, hvs⟩ : ∃ vs, (sched b 64).map wv = vs := ⟨_, rfl⟩
          rw [hvs] at hlen hinfo h1c hrg hrs HB
          have HV := Lib.hid hvs
          clear hvs
          have hth2 : wr.there w.heap.size 0 vs.toArray.size := by show wr.there w.heap.size 0 vs.length; rw [hlen]; exact hth
          have hu := Tryz.underlying214
          have hi2 : (Tryz.prog.info? 214).map (·.size) = some vs.toArray.size := hinfo
          have H1 := Lib.hid hrg
          have H2 := Lib.hid hrs
          have H3 := Lib.hid hth2
          have H4 := Lib.hid hinfo
          have H5 := Lib.hid hi2
          have H6 := Lib.hid h1c
          have H7 := Lib.hid hu
          clear hrg hrs hth2 hth hinfo hi2 h1c hu hlen
          go_wp2_with (first | ((with_reducible refine wpList_load_mid (P := Tryz.prog) rfl 214 (.tmp 2) rfl w.heap.size 0 ?hx vs (.array 64 109) H1.out H7.out rfl H4.out ?_); case hx => rfl) | ((with_reducible refine wpList_store_mid (P := Tryz.prog) rfl 214 (.tmp 2) (.tmp 83) rfl w.heap.size 0 vs.toArray ?hx ?hy H3.out H5.out H6.out ?_); (case hx => rfl); (case hy => rfl)))
          refine bodyPost_ret (results_cell_mid rfl _ _ _ _ _ rfl H2.out H7.out rfl H4.out) rfl ?_
          exact ⟨by rw [HV.out], HB.out⟩

end Go.Proofs.YtllmciiadceinaaGreatDoor
