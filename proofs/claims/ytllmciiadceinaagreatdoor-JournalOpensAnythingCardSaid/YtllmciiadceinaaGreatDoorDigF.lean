/-
  The contract of package digest's Sum. Conditions: the string has at most 1000000 bytes, and the table's variable holds the table.
-/
import Derived.Test.YtllmciiadceinaaGreatDoorDigE
import Derived.Test.YtllmciiadceinaaGreatDoorByteRow
import Derived.Lib.Hide
import Derived.OwnWalkIn
namespace Go.Proofs.YtllmciiadceinaaGreatDoor
open Go Go.RowKit Go.Shelf
attribute [local go_sem] Oper.semAt_some

theorem Tryz.infoU8 : (Tryz.prog.info? 5).map (fun i => (i.zero, i.size, i.bytes)) = some (some (.int .u8 0), 1, 1) := by kernel_rfl
theorem RAt.turns {α : Type} {f : α → Value} {l : List α} {Z : Nat → Prop} {A B : World} {b : Nat} (h : RAt A b f l) (t : Turns Z A B) (hz : ¬ Z b) : RAt B b f l :=
  ⟨Nat.lt_of_lt_of_le h.lt t.size, fun i x hx => (t.cell (p := ⟨b, i, none⟩) h.lt hz).trans (h.cell i x hx), fun i hi => (t.frozen (p := ⟨b, i, none⟩) h.lt hz).trans (h.free i hi)⟩
theorem addB_length {h : List Nat} {b : List UInt8} (hh : h.length = 8) : (addB h b).length = 8 := by unfold addB; rw [List.length_zipWith, hh, rounds_length hh]; rfl
theorem addB_lt (h : List Nat) (b : List UInt8) : ∀ x ∈ addB h b, x < 4294967296 := by
  intro x hx
  unfold addB at hx
  obtain ⟨i, hi, rfl⟩ := List.mem_iff_getElem.1 hx
  rw [List.getElem_zipWith]
  exact Nat.mod_lt _ (by decide)
/-- The words behind some blocks. -/
def foldC (p : List UInt8) {n : Nat} (pre : List (Fin n)) : List Nat := pre.foldl (fun h i => addB h ((p.drop (64 * i.val)).take 64)) shaH
theorem foldC_snoc (p : List UInt8) {n : Nat} (pre : List (Fin n)) (x : Fin n) : foldC p (pre ++ [x]) = addB (foldC p pre) ((p.drop (64 * x.val)).take 64) := by unfold foldC; rw [List.foldl_append]; rfl
theorem blocks_range (h : List Nat) (p : List UInt8) (n : Nat) : (List.range n).foldl (fun h i => addB h ((p.drop (64 * i)).take 64)) h = blocks h p n := by
  induction n with
  | zero => rfl
  | succ n ih => rw [List.range_succ, List.foldl_append, ih]; rfl
theorem foldC_all (p : List UInt8) {n : Nat} (xs : List (Fin n)) (h : xs.map Fin.val = List.range n) : foldC p xs = blocks shaH p n := by
  rw [← blocks_range, ← h, List.foldl_map]; rfl
theorem foldC_ok (p : List UInt8) {n : Nat} (pre : List (Fin n)) : (foldC p pre).length = 8 ∧ ∀ x ∈ foldC p pre, x < 4294967296 := by
  have h : ∀ (pre : List (Fin n)) (h : List Nat), h.length = 8 → (∀ x ∈ h, x < 4294967296) → (pre.foldl (fun h i => addB h ((p.drop (64 * i.val)).take 64)) h).length = 8 ∧ ∀ x ∈ pre.foldl (fun h i => addB h ((p.drop (64 * i.val)).take 64)) h, x < 4294967296 := by
    intro pre
    induction pre with
    | nil => intro h h8 hl; exact ⟨h8, hl⟩
    | cons x pre ih => intro h h8 hl; exact ih _ (addB_length h8) (addB_lt _ _)
  exact h pre shaH rfl (by decide)
theorem padZ_lt (n : Nat) : padZ n < 64 := Nat.mod_lt _ (by decide)

set_option maxRecDepth 100000 in
set_option maxHeartbeats 4000000 in
theorem sum_walk (s : ByteArray) (hs : s.size ≤ 1000000) (w : World) (hK : KAt w) :
    Calls Tryz.prog 110 #[.string s] w fun e w' => e = .returned (.string ⟨(sha s.data.toList).toArray⟩) ∧ Below w.heap.size w w' := by
  have HK := Lib.hid hK
  have hi8 : (Tryz.prog.info? 193).map (·.size) = some 8 := by kernel_rfl
  have I8 := Lib.hid hi8
  clear hK hi8
  refine (callsIn_wide (n := 3)).1 ?_
  refine callsIn_of_wp_marks Tryz.func110 rfl trivial ?_ rfl
  simp only [Tryz.ntmps110, List.size_toArray, List.length_cons, List.length_nil, Nat.reduceAdd, Nat.reduceSub, Array.replicate_succ, Array.replicate_zero, List.push_toArray, List.append_toArray, List.nil_append, List.cons_append]
  refine wpIn_wide.2 ?_
  go_wp2_with (first
    | ((with_reducible refine wpList_alloc_own (f := wv) (l := List.replicate 8 0) rfl 193 rfl _ Tryz.zeroValue193 ?hl ?_); (case hl => rfl); intro w1 hr1 hb1 hs1)
    | ((with_reducible refine wpList_store_own (f := wv) (m := shaH) rfl 193 (.tmp 3) (.tmp 7) rfl w.heap.size ?hx hr1 ?hy 8 I8.out ?hn ?hm (fun _ => rfl) ?_); (case hx => rfl); (case hy => rfl); (case hn => rfl); (case hm => rfl); intro w2 hr2 hb2 hs2))
  have hB2 : Below w.heap.size w w2 := hb1.trans (hb2.below (Nat.le_refl _) (by omega))
  obtain ⟨i0, hi, hz0, hz1, hz2⟩ := info_parts Tryz.infoU8
  obtain ⟨w3, cap3, hcv, hr3, hb3, hs3⟩ := row_of_string (P := Tryz.prog) w2 9 39 5 s Tryz.underlying9 Tryz.underlying39 Tryz.underlying5 (by omega)
  have hR3 : RAt w3 w.heap.size wv shaH := hr2.below hb3 (by omega)
  have hB3 : Below w.heap.size w w3 := hB2.trans (hb3.mono (by omega))
  have hz3 : w2.heap.size = w.heap.size + 1 := by omega
  rw [hz3] at hr3 hcv hs3
  have hll : s.data.toList.length = s.size := by simp
  clear hb3 hB2 hr2 hb2 hs2 hr1 hb1 hs1
  rw [hcv]
  have HS3 := Lib.hid hs3
  clear hcv hs3
  go_wp2_with (at_builtin; refine wpList_append_one (B := w.heap.size + 1) (f := bv) (l := s.data.toList) rfl (.tmp 9) (.tmp 10) 39 rfl (hr3.alloc _) 5 i0 (.int .u8 0) 1 Tryz.underlying39 hi hz0 hz1 hz2 rfl s.size hll rfl ⟨w3.heap.size, 0, none⟩ 1 128 rfl ?cy rfl (by unfold maxLen; omega) (by omega) (by simp; have := HS3.out; omega) ?_; (case cy => exact cell_new_one _ _ _); intro g4 cap4 w4 hr4 hu4 hb4)
  have hz4 : w.heap.size + 2 ≤ w3.heap.size := by have := HS3.out; omega
  have hB4 : Below w.heap.size w w4 := hB3.trans (((Below.refl _ _).alloc (by omega) _).trans (hb4.mono (by omega)))
  have hR4 : RAt w4 w.heap.size wv shaH := (hR3.alloc _).below hb4 (by omega)
  have hsz4 : w.heap.size + 2 ≤ w4.heap.size := by have := hb4.size; simp at this; omega
  clear hr3 hR3 hB3 hu4 hb4 hz3
  obtain ⟨l, hl⟩ : ∃ l, s.data.toList = l := ⟨_, rfl⟩
  have hpd : (sha s.data.toList) = outB (blocks shaH (pad l) ((pad l).length / 64)) := by rw [hl]; rfl
  rw [hl] at hr4 hll
  obtain ⟨n, hn⟩ : ∃ n, s.size = n := ⟨_, rfl⟩
  rw [hn] at hll hs
  have hpz := padZ_lt n
  have HPD := Lib.hid hpd
  have HL := Lib.hid hl
  have HN := Lib.hid hn
  have hpm : (n + 1 + padZ n) % 64 = 56 := by unfold padZ; omega
  have hpn : ∀ j, j < padZ n → (n + 1 + j) % 64 ≠ 56 := fun j hj => by unfold padZ at hj; omega
  have HPM := Lib.hid hpm
  have HPN := Lib.hid hpn
  rw [hn]
  clear hpd hl hn hpm hpn
  go_loopw [4] (fun b wr => ∃ (j g cap : Nat), j ≤ padZ n ∧ b = .slice (some ⟨g, 0, none⟩) (n + 1 + j) cap ∧ CRow wr (w.heap.size + 1) g cap bv (l ++ [128] ++ List.replicate j 0) ∧ RAt wr w.heap.size wv shaH ∧ Below w.heap.size w wr ∧ w.heap.size + 2 ≤ wr.heap.size) (fun b _ => padZ n - ((match b with | .slice _ k _ => k | _ => 0) - (n + 1)))
  case atStart => exact ⟨0, g4, cap4, by omega, rfl, by rw [List.replicate_zero, List.append_nil]; exact hr4, hR4, hB4, hsz4⟩
  case round =>
    obtain ⟨j, g, cap, hj, rfl, hr, hR, hB, hz⟩ := hrel
    clear hr4 hR4 hB4 hsz4
    have hln : (l ++ [128] ++ List.replicate j 0).length = n + 1 + j := by simp; omega
    have HR := Lib.hid hR
    have HB := Lib.hid hB
    by_cases hlt : j < padZ n
    · have d1 : (((n : Int) + 1 + (j : Int)) % 64 != 56) = true := by have := HPN.out j hlt; simp; omega
      go_wp2_with (at_builtin; refine wpList_append_one (B := w.heap.size + 1) (f := bv) (l := l ++ [128] ++ List.replicate j 0) rfl (.tmp 16) (.tmp 17) 39 rfl (hr.alloc _) 5 i0 (.int .u8 0) 1 Tryz.underlying39 hi hz0 hz1 hz2 rfl (n + 1 + j) hln rfl ⟨wr.heap.size, 0, none⟩ 1 0 rfl ?cy rfl (by unfold maxLen; omega) (by omega) (by simp; omega) ?_; (case cy => exact cell_new_one _ _ _); intro g5 cap5 w5 hr5 hu5 hb5)
      have hs5 := hb5.size
      refine ⟨⟨j + 1, g5, cap5, by omega, rfl, ?_, (HR.out.alloc _).below hb5 (by omega), HB.out.trans (((Below.refl _ _).alloc (by omega) _).trans (hb5.mono (by omega))), by simp at hs5; omega⟩, by simp; omega⟩
      rw [List.replicate_succ', ← List.append_assoc]; exact hr5
    · obtain rfl : j = padZ n := by omega
      have d1 : (((n : Int) + 1 + (padZ n : Int)) % 64 != 56) = false := by have := HPM.out; simp; omega
      clear d1 hj hln
      obtain ⟨m, hm⟩ : ∃ m, l ++ [128] ++ List.replicate (padZ n) 0 = m := ⟨_, rfl⟩
      have hml : m.length = n + 1 + padZ n := by rw [← hm]; simp; omega
      obtain ⟨q, hq⟩ : ∃ q, n + 1 + padZ n = q := ⟨_, rfl⟩
      have hqi : (n : Int) + 1 + (padZ n : Int) = (q : Int) := by omega
      rw [hm] at hr
      rw [hq] at hml
      have d2 : ((q : Int) % 64 != 56) = false := by have := HPM.out; simp; omega
      have HM := Lib.hid hm
      have HML := Lib.hid hml
      have HR0 := Lib.hid hr
      have hq2 : q < n + 1 + 64 := by omega
      have HQ := Lib.hid hq
      rw [hq]
      clear hqi hm hml hr hR hB hq HPN hpz
      go_wp2_with fail
      clear d2
      have HZ := Lib.hid hz
      clear hz
      obtain ⟨wq, rfl⟩ : ∃ wq : World, wq = wr := ⟨_, rfl⟩
      go_loopw [4, 5] (fun b i wr => ∃ (k g cap : Nat), k ≤ 8 ∧ i = .int .i64 (7 - (k : Int)) ∧ b = .slice (some ⟨g, 0, none⟩) (q + k) cap ∧ CRow wr (w.heap.size + 1) g cap bv (m ++ (List.range k).map fun i => UInt8.ofNat (8 * n / 2 ^ (8 * (7 - i)))) ∧ RAt wr w.heap.size wv shaH ∧ Below w.heap.size w wr ∧ w.heap.size + 2 ≤ wr.heap.size) (fun _ i _ => (intOf i + 1).toNat)
      case atStart => exact ⟨0, g, cap, by omega, rfl, rfl, by simpa using HR0.out, HR.out, HB.out, HZ.out⟩
      case round =>
        clear HR0 HR HB HZ
        obtain ⟨k, g, cap, hk, rfl, rfl, hr, hR, hB, hz⟩ := hrel
        have hln : (m ++ (List.range k).map fun i => UInt8.ofNat (8 * n / 2 ^ (8 * (7 - i)))).length = q + k := by have := HML.out; simp; omega
        have HR := Lib.hid hR
        have HB := Lib.hid hB
        clear hR hB
        by_cases hlt : k < 8
        · obtain ⟨z, hzz⟩ : ∃ z : Nat, 7 - k = z := ⟨_, rfl⟩
          have hzi : (7 : Int) - (k : Int) = (z : Int) := by omega
          obtain ⟨s8, hs8⟩ : ∃ s, 8 * z = s := ⟨_, rfl⟩
          obtain ⟨t, ht⟩ : ∃ t, 8 * n = t := ⟨_, rfl⟩
          have e1 : 8 * (z : Int) = (s8 : Int) := by omega
          have e2 : 8 * (s.size : Int) = (t : Int) := by have := HN.out; omega
          have s8l : s8 < 64 := by omega
          have tl : t < 9000000 := by omega
          have e4 : (s.size : Int) < 2000000 := by have := HN.out; omega
          obtain ⟨y, hy⟩ : ∃ y, t / 2 ^ s8 % 256 = y := ⟨_, rfl⟩
          have e3 : (t : Int) / 2 ^ s8 % 256 = (y : Int) := by rw [← hy]; push_cast; rfl
          have hyu : bv (UInt8.ofNat (8 * n / 2 ^ (8 * (7 - k)))) = .int .u8 (y : Int) := by unfold bv; rw [UInt8.toNat_ofNat', ← hy, ht, hzz, hs8]
          have HYU := Lib.hid hyu
          rw [hzi]
          have HZI := Lib.hid hzi
          clear hzz hs8 ht hy hyu hzi
          go_wp2_with (at_builtin; refine wpList_append_one (B := w.heap.size + 1) (f := bv) (l := m ++ (List.range k).map fun i => UInt8.ofNat (8 * n / 2 ^ (8 * (7 - i)))) rfl (.tmp 23) (.tmp 31) 39 rfl (hr.alloc _) 5 i0 (.int .u8 0) 1 Tryz.underlying39 hi hz0 hz1 hz2 rfl (q + k) hln rfl ⟨wr.heap.size, 0, none⟩ 1 (UInt8.ofNat (8 * n / 2 ^ (8 * (7 - k)))) rfl ?cy rfl (by unfold maxLen; omega) (by omega) (by simp; omega) ?_; (case cy => rw [HYU.out]; exact cell_new_one _ _ _); intro g5 cap5 w5 hr5 hu5 hb5)
          have hs5 := hb5.size
          have hzi := HZI.out
          refine ⟨⟨k + 1, g5, cap5, by omega, by congr 1; omega, rfl, ?_, (HR.out.alloc _).below hb5 (by omega), HB.out.trans (((Below.refl _ _).alloc (by omega) _).trans (hb5.mono (by omega))), by simp at hs5; omega⟩, by simp [intOf] <;> omega⟩
          rw [List.range_succ, List.map_append, ← List.append_assoc]; exact hr5
        · obtain rfl : k = 8 := by omega
          have hp : m ++ (List.range 8).map (fun i => UInt8.ofNat (8 * n / 2 ^ (8 * (7 - i)))) = pad l := by rw [← HM.out, ← hll]; rfl
          rw [hp] at hr hln
          obtain ⟨p, hpp⟩ : ∃ p, pad l = p := ⟨_, rfl⟩
          obtain ⟨nb, hnb⟩ : ∃ nb, (q + 8) / 64 = nb := ⟨_, rfl⟩
          have hq8 : q + 8 = 64 * nb := by have := HPM.out; have := HQ.out; omega
          rw [hpp] at hr hln
          rw [hq8] at hln
          rw [hq8]
          have HPP := Lib.hid hpp
          have HNB : Hid (p.length / 64 = nb) := Lib.hid (by omega)
          have HLN := Lib.hid hln
          have HCR := Lib.hid hr
          have hcl := hr.le
          have hgl := hr.base
          clear hp hpp hnb hln hr
          have hnbl : nb < 20000 := by omega
          clear hq8
          go_wp2_with fail
          refine (chunk_any _ _ _ _).mono ?_
          rintro e w6 ⟨rfl, rfl⟩
          obtain ⟨w7, hw7⟩ : ∃ w7, (wr.alloc (.cells #[.slice (some ⟨g, 0, none⟩) (64 * nb) cap] 39)).alloc (.cells #[.int .i64 64] 3) = w7 := ⟨_, rfl⟩
          have x1 : Boxed w7 wr.heap.size 39 (.slice (some ⟨g, 0, none⟩) (64 * nb) cap) := by rw [← hw7]; exact (Boxed.new wr _ _).alloc _
          have x2 : Boxed w7 (wr.heap.size + 1) 3 (.int .i64 64) := by
            have := Boxed.new (wr.alloc (.cells #[.slice (some ⟨g, 0, none⟩) (64 * nb) cap] 39)) 3 (.int .i64 64)
            rw [World.size_alloc, hw7] at this; exact this
          have hbl : Below wr.heap.size wr w7 := by rw [← hw7]; exact ((Below.refl _ _).alloc (Nat.le_refl _) _).alloc (by simp) _
          have hs7 : w7.heap.size = wr.heap.size + 2 := by rw [← hw7]; simp
          have hR7 : RAt w7 w.heap.size wv shaH := HR.out.below hbl HR.out.lt
          have hp7 : RAt w7 g bv p := HCR.out.row.below hbl HCR.out.lt
          have hB7 : Below w.heap.size w w7 := HB.out.trans (hbl.mono (by omega))
          have hgl2 := HCR.out.lt
          rw [hw7]
          clear hw7 HCR HR HB hbl
          go_wp2_with fail
          refine (wpIn_wide (n := 3)).1 ?_
          refine wp_rangeZ (gf := 143) (lb := #[.pointer (some ⟨wr.heap.size, 0, none⟩), .pointer (some ⟨wr.heap.size + 1, 0, none⟩)]) rfl (enters_of Tryz.func143 (by kernel_rfl) rfl)
            (chunk_iter g nb cap wr.heap.size (wr.heap.size + 1) (by have := HLN.out; omega) (by omega) w7 x1 x2) (Below.refl _ _) (fun k hk => hk.elim) (fun _ => rfl) (fun h k => ⟨k.1.trans h.1, k.2.trans h.2⟩) (fun W o => ⟨World.putObj_heap_other (by omega), World.putObj_heap_other (by omega)⟩)
            (fun pre W => RAt W w.heap.size wv (foldC p pre) ∧ RAt W g bv p ∧ Below w.heap.size w W)
            (fun _ _ _ => False)
            (fun s A B h t => ⟨h.1.turns t (by rintro (e | e | e) <;> first | exact e | omega), h.2.1.turns t (by rintro (e | e | e) <;> first | exact e | omega), t.below h.2.2 (Nat.le_refl _) (by rintro k (e | e | e) <;> first | exact e.elim | omega)⟩)
            (fun _ _ _ _ h _ => h.elim)
            ⟨hR7, hp7, hB7⟩ ?a1 ?assign ?body ?done ?stop
          case assign =>
            intro l x W K hK
            dsimp only [encC]
            gi_wp2
            exact hK
          case body =>
            rintro l pre x W hW ⟨hR, hp, hB⟩ hlt
            obtain ⟨k, hkn⟩ := x
            obtain ⟨f8, flt⟩ := foldC_ok p pre
            have hlen : ((p.drop (64 * k)).take 64).length = 64 := by have := HLN.out; simp; omega
            have hA : LAt W W.heap.size (some ⟨g, 64 * k, none⟩) bv ((p.drop (64 * k)).take 64) := fun j y hy => by
              have hj : j < 64 := by have := (List.getElem?_eq_some_iff.1 hy).1; omega
              rw [List.getElem?_take_of_lt hj, List.getElem?_drop] at hy
              have := hp.cell _ _ hy
              exact ⟨_, rfl, by show g < _; omega, by rw [show (⟨g, 64 * k, none⟩ : Addr).add j = ⟨g, 64 * k + j, none⟩ by simp [Addr.add] <;> omega]; exact this⟩
            have hKW := HK.out.below hB
            have hW2 : wr.heap.size + 4 ≤ W.heap.size := by omega
            have HR := Lib.hid hR
            have HP := Lib.hid hp
            have HB := Lib.hid hB
            have HA := Lib.hid hA
            have HKW := Lib.hid hKW
            have HF8 := Lib.hid f8
            have HFL := Lib.hid flt
            have HLE := Lib.hid hlen
            clear hR hp hB hA hKW f8 flt hlen
            gi_wp2_with fail
            refine ⟨trivial, ?_⟩
            refine CallsIn.mono (F := Fence.wide) (n := 0) (callsIn_wide.2 (add_walk w.heap.size (foldC p pre) HF8.out HFL.out ⟨g, 64 * k, none⟩ _ 64 HLE.out W HA.out HR.out HKW.out)) ?_
            rintro e W2 ⟨rfl, hR2, hu2⟩
            gi_wp2
            refine ⟨⟨hu2.size, fun j _ hj hj2 _ => (hu2.block j (Array.getElem?_eq_some_iff.1 hj2).1 (by omega)).trans hj2⟩, ⟨hu2.block _ (by omega) (by omega), hu2.block _ (by omega) (by omega)⟩, by rw [foldC_snoc]; exact hR2, HP.out.but hu2 (by omega), HB.out.trans (hu2.below (Nat.le_refl _) (by omega))⟩
          case done =>
            rintro xs W hS ⟨hR, hp, hB⟩ hK
            obtain ⟨f8, flt⟩ := foldC_ok p xs
            rw [foldC_all p xs hS] at hR f8 flt
            have hfin : (sha s.data.toList) = outB (blocks shaH p nb) := by rw [HPD.out, HPP.out, HNB.out]
            have HF := Lib.hid hfin
            have HB := Lib.hid hB
            have HF8 := Lib.hid f8
            have HFL := Lib.hid flt
            have HKK := Lib.hid hK
            clear hfin hp hS hB f8 flt hK
            go_wp2_with ((with_reducible refine wpList_load_own (f := wv) (l := blocks shaH p nb) rfl 193 (.tmp 3) rfl w.heap.size ?hx hR _ Tryz.underlying193 rfl 8 I8.out HF8.out ?_); (case hx => rfl))
            refine (digest_walk _ HF8.out HFL.out W).mono ?_
            rintro e W2 ⟨rfl, hb2⟩
            clear hR
            have hKW : W2.heap[wr.heap.size + 2]? = some (Obj.deferred (some [])) := by
              have := HKK.out
              rw [hs7] at this
              exact (hb2.block _ (Array.getElem?_eq_some_iff.1 this).1).trans this
            have hBW := HB.out.size
            go_wp2_with fail
            refine ⟨by simp, .inl ⟨_, _, rfl, run_takeDeferred hKW, ?_⟩⟩
            refine ⟨_, results_tmp rfl _ _ _, ?_, ?_⟩
            · rw [HF.out]; rfl
            · exact (Turns.putObj (Z := fun k => k = wr.heap.size + 2) W2 _ _ rfl).below (HB.out.trans (hb2.mono hBW)) (Nat.le_refl _) (fun k hk => by omega)
          case stop =>
            rintro c pre W _ h _
            exact h.elim

end Go.Proofs.YtllmciiadceinaaGreatDoor
