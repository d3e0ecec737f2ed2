/-
  Contract of slices.Compact at []api.Suspicion on a row that the call owns. Conditions: at most 1000000 elements. Contract of slices.Compact at []api.Suspicion on a row that the call owns. Conditions: at most 1000000 elements. Plain laws for KnownOthers: entries that integers determine have numbers from 0 to 9, so few points are known; what is asked about one number depends on the entries about it. No condition. Contract of known.Faults. Conditions: the list's bound. What is asked of the base that holds only what is about a number has the same answers. Conditions: the lists' bounds. Contract of yardstickref19.SameHistory on equal histories. Conditions: the list's bound. A base that is filled list by list with what another base has about a number. Conditions: each law's own.
-/
import Derived.Test.YteeifhlhpiimoaaGreatDoorPAo
import Derived.Test.YteeifhlhpiimoaaGreatDoorPAq
import Derived.Test.YteeifhlhpiimoaaGreatDoorPAl
import Derived.Test.YteeifhlhpiimoaaGreatDoorPAn
import Derived.Lib.SlicesCompact
import Derived.Lib.SliceRun
import Derived.Deep.MidRow
import Derived.Test.YteeifhlhpiimoaaGreatDoorPAa
section
namespace Go.Proofs.YteeifhlhpiimoaaGreatDoor
open Go Go.RowKit Go.Shelf Go.Sort Go.Lib
attribute [local go_sem] Oper.semAt_some
section
variable {w : World} {B g n c i : Nat} {l : List Sus} {e : Sus}
theorem susLen (x : Sus) : (susC x).length = 3 := rfl
theorem susRow (h : OL w B 75 3 susC (.slice (some ⟨g, 0, none⟩) n c) l) (he : l[i]? = some e) : w.rangeAt g (i * 3) (susC e) := by
 intro j v hv
 have hn := h.len.1
 subst hn
 have hj : j < 3 := (List.getElem?_eq_some_iff.1 hv).1
 have hi : i < l.length := (List.getElem?_eq_some_iff.1 he).1
 have hlen : (l.flatMap susC).length = l.length * 3 := flatMap_length susLen
 rw [World.ownsRow.cellAt h (i * 3 + j) (by omega), flat_at (f := susC) (s := 3) susLen l i e he j hj]; exact hv
theorem susThere (h : OL w B 75 3 susC (.slice (some ⟨g, 0, none⟩) n c) l) (hi : i < n) : w.there g (i * 3) 3 := by
 have hn := h.len.1
 subst hn
 intro j hj
 have h1 := susRow h (List.getElem?_eq_getElem hi)
 obtain ⟨v, hv⟩ : ∃ v, (susC l[i])[j]? = some v := ⟨_, List.getElem?_eq_getElem hj⟩
 exact ⟨by rw [h1 j v hv]; rfl, World.ownsRow.frozenAt h _⟩
theorem susPut (h : OL w B 75 3 susC (.slice (some ⟨g, 0, none⟩) n c) l) (hi : i < n) (e : Sus) : OL (w.setCells g (i * 3) (susC e)) B 75 3 susC (.slice (some ⟨g, 0, none⟩) n c) (l.set i e) := by
 have hn := h.len.1
 subst hn
 have h1 := owns_setCells (susC e) (i * 3) _ w h
 unfold OL
 rw [List.length_set]
 have hlen : (l.flatMap susC).length = l.length * 3 := flatMap_length susLen
 have hlen2 : ((l.set i e).flatMap susC).length = l.length * 3 := by rw [flatMap_length susLen, List.length_set]
 have e1 : setL (l.flatMap susC) (i * 3) (susC e) = (l.set i e).flatMap susC := by
  apply List.ext_getElem?
  intro k
  rw [setL_get _ _ _ _ (by rw [susLen, hlen]; omega), susLen]
  by_cases hk : k < l.length * 3
  · obtain ⟨q, r, hr, rfl⟩ : ∃ q r, r < 3 ∧ k = q * 3 + r := ⟨k / 3, k % 3, by omega, by omega⟩
    have hq : q < l.length := by omega
    by_cases hqi : q = i
    · subst hqi
      rw [if_pos (by omega), flat_at (f := susC) (s := 3) susLen (l.set q e) q e (by rw [List.getElem?_set_self hq]) r hr]
      congr 1; omega
    · rw [if_neg (by omega), flat_at (f := susC) (s := 3) susLen l q l[q] (List.getElem?_eq_getElem hq) r hr, flat_at (f := susC) (s := 3) susLen (l.set i e) q l[q] (by rw [List.getElem?_set_ne (by omega)]; exact List.getElem?_eq_getElem hq) r hr]
  · rw [if_neg (by omega), List.getElem?_eq_none (by omega), List.getElem?_eq_none (by omega)]
 rw [← e1]
 exact h1
end
def zeroS : Sus := ⟨0, 0, 0⟩
def clearL (l : List Sus) (i : Nat) : Nat → List Sus
 | 0 => l
 | m + 1 => clearL (l.set i zeroS) (i + 1) m
def zerosC : Nat → List Value
 | 0 => []
 | m + 1 => susC zeroS ++ zerosC m
theorem zerosC_len : ∀ m, (zerosC m).length = m * 3
 | 0 => rfl
 | m + 1 => by rw [zerosC, List.length_append, susLen, zerosC_len m]; omega
theorem setCells_append (g : Nat) : ∀ (xs ys : List Value) (o : Nat) (w : World), w.setCells g o (xs ++ ys) = (w.setCells g o xs).setCells g (o + xs.length) ys
 | [], _, _, _ => rfl
 | x :: xs, ys, o, w => by
   rw [List.cons_append, World.setCells, World.setCells, setCells_append g xs ys (o + 1), List.length_cons]
   congr 1; omega
theorem clear_ol {B g n c : Nat} : ∀ (m i : Nat) (l : List Sus) (w : World), i + m ≤ n → OL w B 75 3 susC (.slice (some ⟨g, 0, none⟩) n c) l → OL (w.setCells g (i * 3) (zerosC m)) B 75 3 susC (.slice (some ⟨g, 0, none⟩) n c) (clearL l i m)
 | 0, _, _, _, _, h => h
 | m + 1, i, l, w, hi, h => by
   rw [zerosC, setCells_append, clearL, susLen, show i * 3 + 3 = (i + 1) * 3 by omega]
   exact clear_ol m (i + 1) _ _ (by omega) (susPut h (by omega) zeroS)
theorem clearL_len : ∀ (m i : Nat) (l : List Sus), (clearL l i m).length = l.length
 | 0, _, _ => rfl
 | m + 1, i, l => by rw [clearL, clearL_len m, List.length_set]
theorem clearL_take : ∀ (m i k : Nat) (l : List Sus), k ≤ i → (clearL l i m).take k = l.take k
 | 0, _, _, _, _ => rfl
 | m + 1, i, k, l, h => by rw [clearL, clearL_take m (i + 1) k _ (by omega), List.take_set_of_le h]
theorem zerosC_mod : ∀ m, (Builtin.zeroCells (susC zeroS).toArray m).toList = zerosC m := by
 intro m
 have h : ∀ (m j : Nat), j < m * 3 → (zerosC m)[j]? = some (.int .i64 0) := by
  intro m
  induction m with
  | zero => intro j hj; omega
  | succ m ih =>
    intro j hj
    rw [zerosC]
    by_cases h3 : j < 3
    · rw [List.getElem?_append_left (by rw [susLen]; exact h3)]
      match j, h3 with
      | 0, _ => rfl
      | 1, _ => rfl
      | 2, _ => rfl
    · rw [List.getElem?_append_right (by rw [susLen]; omega), susLen]
      exact ih (j - 3) (by omega)
 apply List.ext_getElem?
 intro j
 unfold Builtin.zeroCells
 by_cases hj : j < m * 3
 · rw [h m j hj]
   simp only [susC, zeroS, List.size_toArray, List.length_cons, List.length_nil, Array.toList_map, List.getElem?_map]
   rw [Array.getElem?_toList, Array.getElem?_range, if_pos (by simpa using hj)]
   simp only [Option.map_some]
   have : j % 3 = 0 ∨ j % 3 = 1 ∨ j % 3 = 2 := by omega
   rcases this with e | e | e <;> simp [e]
 · rw [List.getElem?_eq_none (by simp [susC]; omega), List.getElem?_eq_none (by rw [zerosC_len]; omega)]
theorem zerosC_one : ∀ (m : Nat) (v : Value), v ∈ zerosC m → v.oneCell' = true
 | 0, v, h => by cases h
 | m + 1, v, h => by
   rw [zerosC, List.mem_append] at h
   rcases h with h | h
   · simp [susC, zeroS] at h; rw [h]; rfl
   · exact zerosC_one m v h
theorem run_clearS {w : World} {B g n c k : Nat} {l : List Sus} (h : OL w B 75 3 susC (.slice (some ⟨g, 0, none⟩) n c) l) (hk : k < n) (ty : TypeId) (c2 : Nat) :
 (Builtin.clear_ #[61] ty #[.slice (some ⟨g, k * 3, none⟩) (n - k) c2]).run Tryz.prog w = .ok (.tuple #[]) (w.setCells g (k * 3) (zerosC (n - k))) := by
 have hz : ∀ w, (zeroValue 75).run Tryz.prog w = .ok (.agg (susC zeroS).toArray) w := fun w => by kernel_rfl
 have hn := h.len.1
 subst hn
 have hlen := zerosC_len (l.length - k)
 have hst := run_storeCells_cells (P := Tryz.prog) g (k * 3) (zerosC (l.length - k)) 0 w (fun j hj => by
  have h1 := susThere h (i := (k * 3 + j) / 3) (by omega) ((k * 3 + j) % 3) (by omega)
  rw [show (k * 3 + j) / 3 * 3 + (k * 3 + j) % 3 = k * 3 + j by omega] at h1
  exact h1.1) (fun j hj => by
  have h1 := susThere h (i := (k * 3 + j) / 3) (by omega) ((k * 3 + j) % 3) (by omega)
  rw [show (k * 3 + j) / 3 * 3 + (k * 3 + j) % 3 = k * 3 + j by omega] at h1
  exact h1.2) (zerosC_one _)
 simp only [Nat.add_zero] at hst
 obtain ⟨m, hm⟩ : ∃ m, l.length - k = m + 1 := ⟨l.length - k - 1, by omega⟩
 rw [hm] at hst ⊢
 have hzc := zerosC_mod (m + 1)
 have hcs : (Value.agg (susC zeroS).toArray).cells = (susC zeroS).toArray := rfl
 simp [Builtin.clear_, run_underlying Tryz.underlying61, hz, hcs, hzc, hst]
theorem guard_susE (x y : Operand) (cs ds : Array Value) (W : World) : (eqGuard .eql 75 x y (.agg cs) (.agg ds)).run Tryz.prog W = .ok () W := by kernel_rfl
set_option maxHeartbeats 2000000 in
theorem eql_sus (e f : Sus) (W : World) : (binOp .eql 75 (.agg (susC e).toArray) (.agg (susC f).toArray)).run Tryz.prog W = .ok (.bool (susEq e f)) W := by
 obtain ⟨a0, a1, a2⟩ := e
 obtain ⟨b0, b1, b2⟩ := f
 unfold susC susEq
 simp only []
 go_simp
 by_cases h0 : a0 = b0
 case neg => simp [h0]
 rw [if_pos h0]
 by_cases h1 : a1 = b1
 case neg => simp [h1]
 rw [if_pos h1]
 by_cases h2 : a2 = b2
 case neg => simp [h2]
 simp [h0, h1, h2]
theorem compact_short {l : List Sus} (h : l.length < 2) : Lib.compact l = l := Lib.compact_all l fun j hj => Lib.keeps_lt_one _ j (by omega)
theorem getS {l : List Sus} {j : Nat} {e : Sus} (h : l[j]? = some e) : l.toArray[j]! = e := by
 obtain ⟨h1, h2⟩ := List.getElem?_eq_some_iff.1 h
 rw [getElem!_pos _ j (by simpa using h1)]; simpa using h2
theorem compI_take {l m : List Sus} {k : Nat} (h : Lib.CompInv l.toArray l.length k m.toArray) : m.take k = Lib.compact l := by
 have hs : m.length = l.length := by have := h.size; simpa using this
 have hk := h.lt
 have hl : (Lib.compact l).length = k := h.len
 apply List.ext_getElem?
 intro j
 rw [List.getElem?_take]
 by_cases hj : j < k
 · rw [if_pos hj]
   have h1 := h.low j hj
   have h2 : m[j]? = some m.toArray[j]! := by
    rw [getElem!_pos _ j (by simp; omega)]; simp
   rw [h2]
   exact h1.symm
 · rw [if_neg hj, List.getElem?_eq_none (by omega)]
theorem setS (m : List Sus) (k : Nat) (e : Sus) : m.toArray.setIfInBounds k e = (m.set k e).toArray := by simp
theorem turns_setCells {g : Nat} (vs : List Value) (o : Nat) (w : World) : Turns (fun q => q = g) w (w.setCells g o vs) := by
 induction vs generalizing o w with
 | nil => exact Turns.refl _ _
 | cons v vs ih => rw [World.setCells]; exact (Turns.setCell (Z := fun q => q = g) w ⟨g, o, none⟩ v rfl).trans (ih _ _)
set_option maxRecDepth 100000 in
set_option maxHeartbeats 4000000 in
theorem compactS_walk {w : World} {B : Nat} {v : Value} {l : List Sus} (h : OL w B 75 3 susC v l) (hl : l.length ≤ 1000000) :
 Calls Tryz.prog 81 #[v] w fun e w' => ∃ v', e = .returned v' ∧ OL w' B 75 3 susC v' (Lib.compact l) ∧ Turns (fun q => v.ownBlock = some q) w w' ∧ v'.ownBlock = v.ownBlock := by
 by_cases h2 : l.length < 2
 · obtain ⟨A, c, rfl, -, -⟩ := h.slice
   refine (compact1_walk A l.length c h2 w).mono ?_
   rintro e w' ⟨rfl, rfl⟩
   exact ⟨_, rfl, by rw [compact_short h2]; exact h, Turns.refl _ _, rfl⟩
 obtain ⟨g, c, rfl, -, -, hc, hcm⟩ := h.form (by omega)
 obtain ⟨n, hn⟩ := oQ (l.length)
 rw [hn] at h h2 hl hc ⊢
 have HO := hZ h
 have HN := hZ hn
 have HG : Hid (g < w.heap.size) := hZ (h.lt g rfl).2
 have HCM := hZ hcm
 have d0 : decide ((n : Int) < 2) = false := by simp; omega
 have hn2 : 2 ≤ n := by omega
 have HT0 : Hid (Turns (fun q => q = g) w w) := hZ (Turns.refl _ _)
 have fin : ∀ (w' : World) (k : Nat), OL w' B 75 3 susC (.slice (some ⟨g, 0, none⟩) k c) (Lib.compact l) → Turns (fun q => q = g) w w' → ∃ v', Ending.returned (.slice (some ⟨g, 0, none⟩) k c) = .returned v' ∧ OL w' B 75 3 susC v' (Lib.compact l) ∧ Turns (fun q => (Value.slice (some ⟨g, 0, none⟩) n c).ownBlock = some q) w w' ∧ v'.ownBlock = (Value.slice (some ⟨g, 0, none⟩) n c).ownBlock :=
  fun w' k h1 h2 => ⟨_, rfl, h1, h2.mono fun q hq => by rw [hq]; rfl, rfl⟩
 have HF := hZ fin
 clear fin h hn hcm h2
 go_enter Tryz.func81, Tryz.ntmps81
 go_wp2_with fail
 go_loopw [3] (fun x wr => ∃ k : Nat, x = .int .i64 (k : Int) ∧ 1 ≤ k ∧ k ≤ n ∧ Hid (∀ j, j < k → Lib.keeps l.toArray j = true) ∧ Hid (OL wr B 75 3 susC (.slice (some ⟨g, 0, none⟩) n c) l) ∧ Hid (Turns (fun q => q = g) w wr)) (fun x _ => n - (intOf x).toNat)
 case atStart => exact ⟨1, rfl, Nat.le_refl _, by omega, hZ (Lib.keeps_lt_one _), HO, HT0⟩
 case round =>
  clear HO HT0
  obtain ⟨k, rfl, hk1, hk, HA, HO, HT⟩ := hrel
  by_cases hlt : k < n
  · have d1 : decide (k < n) = true := by simp [hlt]
    obtain ⟨x, hx⟩ : ∃ e, l[k]? = some e := ⟨_, List.getElem?_eq_getElem (by rw [HN.out]; exact hlt)⟩
    obtain ⟨p, hp⟩ := oQ (k - 1)
    obtain ⟨y, hy⟩ : ∃ e, l[p]? = some e := ⟨_, List.getElem?_eq_getElem (by rw [HN.out]; omega)⟩
    have wp : IntKind.i64.wrap ((k : Int) - 1) = (p : Int) := by rw [IntKind.wrap_i64]; omega
    have wk : IntKind.i64.wrap ((k : Int) + 1) = ((k + 1 : Nat) : Int) := by rw [IntKind.wrap_i64]; omega
    have z1 : (0 : Int) ≤ (k : Int) := by omega
    have z2 : (k : Int) < (n : Int) := by omega
    have z3 : (0 : Int) ≤ (p : Int) := by omega
    have z4 : (p : Int) < (n : Int) := by omega
    have HV := hZ HO.out.drew
    have HTd : Hid (Turns (fun q => q = g) w wr.drew) := hZ (HT.out.trans (Turns.drew _))
    obtain ⟨q, hq⟩ := oQ (susEq x y)
    have HQ := hZ hq
    have HEQ : Hid (∀ W, (binOp .eql 75 (.agg (susC x).toArray) (.agg (susC y).toArray)).run Tryz.prog W = .ok (.bool q) W) := hZ (fun W => by rw [← hq]; exact eql_sus x y W)
    have hS0 : World.rangeAt wr.drew g (k * 3) (susC x) ∧ World.rangeAt wr.drew g (p * 3) (susC y) := ⟨susRow HV.out hx, susRow HV.out hy⟩
    have HXY := hZ (And.intro (getS hx) (getS hy))
    have HP := hZ hp
    clear hx hy hq hp HO HT
    go_wp2_with fail
    refine wp_region_noPanic ?_
    refine wp_region_held_drew (S := fun U => World.rangeAt U g (k * 3) (susC x) ∧ World.rangeAt U g (p * 3) (susC y)) (by kernel_rfl) hS0 (fun hHeld => ?_)
    refine tk 0 ?_; refine tk 1 ?_; refine tk 2 ?_
    refine tl 3 rfl (yieldsIf_load_mid (by rfl) 75 (.tmp 18) rfl g (k * 3) (by rfl) (susC x) _ (fun w hw => hw.1) Tryz.underlying75 rfl (by kernel_rfl)) ?_
    refine tk 4 ?_; refine tk 5 ?_; refine tk 6 ?_; refine tk 7 ?_
    refine tl 8 rfl (yieldsIf_load_mid (by rfl) 75 (.tmp 23) rfl g (p * 3) (by rfl) (susC y) _ (fun w hw => hw.2) Tryz.underlying75 rfl (by kernel_rfl)) ?_
    refine tl 9 rfl (yields_eql (by rfl) 75 75 (.tmp 19) (.tmp 24) (by rfl) (.agg (susC x).toArray) (.agg (susC y).toArray) (by rfl) (by rfl) q (fun w => guard_susE _ _ _ _ w) HEQ.out) ?_
    refine dn ?_
    clear hHeld hS0
    cases q
    · go_wp2
      have ht : Lib.keeps l.toArray k = true := Lib.keeps_pos (by
       rw [HP.out, HXY.out.1, HXY.out.2]
       intro e
       have := HQ.out
       rw [(susEq_iff x y).2 e] at this; cases this)
      have HAA : Hid (∀ j, j < k + 1 → Lib.keeps l.toArray j = true) := hZ fun j hj => by
       by_cases e : j = k
       · rw [e]; exact ht
       · exact HA.out j (by omega)
      clear ht
      go_round
      case rel => exact ⟨k + 1, rfl, by omega, by omega, HAA, HV, HTd⟩
      case measure => simp [intOf]; omega
    · have HI0 : Hid (Lib.CompInv l.toArray (k + 1) k l.toArray) := hZ (Lib.CompInv.start HA.out (Lib.keeps_neg (by omega) (by rw [HP.out, HXY.out.1, HXY.out.2]; exact (susEq_iff x y).1 HQ.out)))
      clear HA HXY HEQ HP HQ
      obtain ⟨u, hu⟩ := oQ (n - k)
      have hkn : k ≤ n := by omega
      have hkc : k ≤ c := by omega
      have HC := hZ hc
      have HK := hZ (And.intro hk1 hlt)
      have IL := fun e : Sus => hZ (show (Tryz.prog.info? 75).map (·.size) = some (susC e).length by kernel_rfl)
      have IS := fun e : Sus => hZ (show (Tryz.prog.info? 75).map (·.size) = some (susC e).toArray.size by kernel_rfl)
      have HML0 := HN
      clear wp wk z3 z4 hk1
      go_wp2_with fail
      obtain ⟨wo, hwo⟩ : ∃ wo : World, wo = wr.drew := ⟨_, rfl⟩
      rw [← hwo] at HV HTd ⊢
      clear hwo
      clear d1
      go_loopw [3, 5] (fun x3 x5 wr => ∃ (kk k2 : Nat) (m : List Sus), x3 = .int .i64 (kk : Int) ∧ x5 = .int .i64 (k2 : Int) ∧ 1 ≤ k2 ∧ k2 ≤ u ∧ Hid (m.length = n) ∧ Hid (Lib.CompInv l.toArray (k + k2) kk m.toArray) ∧ Hid (OL wr B 75 3 susC (.slice (some ⟨g, 0, none⟩) n c) m) ∧ Hid (Turns (fun q => q = g) w wr)) (fun _ x _ => u - (intOf x).toNat)
      case atStart => exact ⟨k, 1, l, rfl, rfl, Nat.le_refl _, by omega, HML0, HI0, HV, HTd⟩
      case round =>
       clear HI0 HV HTd HML0
       obtain ⟨kk, k2, m, rfl, rfl, h1k, hku, HML, HI, HO, HT⟩ := hrel
       have hkk : kk < k + k2 := HI.out.lt
       have hun : k + u = n := by omega
       by_cases hin : k2 < u
       · have d2 : decide (k2 < u) = true := by simp [hin]
         obtain ⟨x, hx⟩ : ∃ e, m[k + k2]? = some e := ⟨_, List.getElem?_eq_getElem (by rw [HML.out]; omega)⟩
         obtain ⟨p, hp⟩ := oQ (k2 - 1)
         obtain ⟨y, hy⟩ : ∃ e, m[k + p]? = some e := ⟨_, List.getElem?_eq_getElem (by rw [HML.out]; omega)⟩
         have wp : IntKind.i64.wrap ((k2 : Int) - 1) = (p : Int) := by rw [IntKind.wrap_i64]; omega
         have wk : IntKind.i64.wrap ((k2 : Int) + 1) = ((k2 + 1 : Nat) : Int) := by rw [IntKind.wrap_i64]; omega
         have wkk : IntKind.i64.wrap ((kk : Int) + 1) = ((kk + 1 : Nat) : Int) := by rw [IntKind.wrap_i64]; omega
         have z1 : (0 : Int) ≤ (k2 : Int) := by omega
         have z2 : (k2 : Int) < (u : Int) := by omega
         have z3 : (0 : Int) ≤ (p : Int) := by omega
         have z4 : (p : Int) < (u : Int) := by omega
         have z5 : (0 : Int) ≤ (kk : Int) := by omega
         have z6 : (kk : Int) < (n : Int) := by omega
         have HV := hZ HO.out.drew
         have HTd : Hid (Turns (fun q => q = g) w wr.drew) := hZ (HT.out.trans (Turns.drew _))
         obtain ⟨q, hq⟩ := oQ ((!susEq x y))
         have HQ := hZ hq
         have HNE : Hid (∀ W, (binOp .neq 75 (.agg (susC x).toArray) (.agg (susC y).toArray)).run Tryz.prog W = .ok (.bool q) W) := hZ (fun W => by rw [← hq]; exact neq_sus x y W)
         have hS0 : World.rangeAt wr.drew g (k * 3 + k2 * 3) (susC x) ∧ World.rangeAt wr.drew g (k * 3 + p * 3) (susC y) := by
          rw [← Nat.add_mul, ← Nat.add_mul]; exact ⟨susRow HV.out hx, susRow HV.out hy⟩
         have HRX := hZ hS0.1
         have HXY : Hid (l.toArray[k + k2]! = x ∧ l.toArray[k + k2 - 1]! = y) := hZ (by
          have a1 := getS hx
          have a2 := getS hy
          rw [HI.out.high _ (by omega)] at a1 a2
          exact ⟨a1, by rw [show k + k2 - 1 = k + p by omega]; exact a2⟩)
         have HLT : Hid (kk < n ∧ k + k2 < n ∧ k2 + 1 ≤ u) := hZ (by omega)
         clear hx hy hq hp HO HT hkk hun
         go_wp2_with fail
         refine wp_region_noPanic ?_
         refine wp_region_held_drew (S := fun U => World.rangeAt U g (k * 3 + k2 * 3) (susC x) ∧ World.rangeAt U g (k * 3 + p * 3) (susC y)) (by kernel_rfl) hS0 (fun hHeld => ?_)
         refine tk 0 ?_; refine tk 1 ?_; refine tk 2 ?_
         refine tl 3 rfl (yieldsIf_load_mid (by rfl) 75 (.tmp 37) rfl g (k * 3 + k2 * 3) (by rfl) (susC x) _ (fun w hw => hw.1) Tryz.underlying75 rfl (by kernel_rfl)) ?_
         refine tk 4 ?_; refine tk 5 ?_; refine tk 6 ?_; refine tk 7 ?_
         refine tl 8 rfl (yieldsIf_load_mid (by rfl) 75 (.tmp 42) rfl g (k * 3 + p * 3) (by rfl) (susC y) _ (fun w hw => hw.2) Tryz.underlying75 rfl (by kernel_rfl)) ?_
         refine tl 9 rfl (yields_neq (by rfl) 75 75 (.tmp 38) (.tmp 43) (by rfl) (.agg (susC x).toArray) (.agg (susC y).toArray) (by rfl) (by rfl) q (fun w => guard_sus _ _ _ _ w) HNE.out) ?_
         refine dn ?_
         clear hHeld hS0 HNE
         cases q
         · have HI2 := hZ (HI.out.skip (Lib.keeps_neg (by have := HK.out.1; omega) (by rw [HXY.out.1, HXY.out.2]; exact (susEq_iff x y).1 (by have := HQ.out; simpa using this))))
           go_wp2_with fail
           go_round
           case rel => exact ⟨kk, k2 + 1, m, rfl, rfl, by omega, HLT.out.2.2, HML, HI2, HV, HTd⟩
           case measure => simp [intOf]; have := HLT.out; omega
         · have HI2 := hZ (HI.out.keep (by have := HLT.out; have := HN.out; simp; omega) (Lib.keeps_pos (by
            rw [HXY.out.1, HXY.out.2]
            intro e
            have := HQ.out
            rw [(susEq_iff x y).2 e] at this; cases this)))
           go_wp2_with (first
            | ((with_reducible refine wpList_load_mid rfl 75 (.tmp 49) rfl g (k * 3 + k2 * 3) ?hx (susC x) _ HRX.out Tryz.underlying75 rfl (IL x).out ?_); (case hx => rfl))
            | ((with_reducible refine wpList_store_mid rfl 75 (.tmp 51) (.tmp 50) rfl g (kk * 3) (susC x).toArray ?hx ?hy ?ht (IS x).out ?h1 ?_); (case hx => first | rfl | simp [Addr.add]); (case hy => rfl); (case ht => exact susThere HV.out HLT.out.1); (case h1 => simp [susC, Value.oneCell'])
               obtain ⟨W2, hW2⟩ := oQ (wr.drew.setCells g (kk * 3) (susC x))
               have HV2 : Hid (OL W2 B 75 3 susC (.slice (some ⟨g, 0, none⟩) n c) (m.set kk x)) := hZ (by rw [← hW2]; exact susPut HV.out HLT.out.1 x)
               have HT2 : Hid (Turns (fun q => q = g) w W2) := hZ (by rw [← hW2]; exact HTd.out.trans (turns_setCells _ _ _))
               rw [hW2]
               clear hW2 HV HTd)
            | fail)
           go_round
           case rel => exact ⟨kk + 1, k2 + 1, m.set kk x, rfl, rfl, by omega, HLT.out.2.2, hZ (by rw [List.length_set]; exact HML.out), hZ (by have := HI2.out; rw [HXY.out.1, setS] at this; exact this), HV2, HT2⟩
           case measure => simp [intOf]; have := HLT.out; omega
       · have d2 : decide (k2 < u) = false := by simp; omega
         have hend : k + k2 = n := by omega
         have hkn2 : kk < n := by omega
         have z5 : (0 : Int) ≤ (kk : Int) := by omega
         have z6 : (kk : Int) ≤ (n : Int) := by omega
         have z7 : kk ≤ n := by omega
         have z8 : kk ≤ c := by omega
         have hcl := fun ty => run_clearS HO.out hkn2 ty (c - kk)
         have HE : Hid (OL (wr.setCells g (kk * 3) (zerosC (n - kk))) B 75 3 susC (.slice (some ⟨g, 0, none⟩) kk c) (Lib.compact l)) := hZ (by
          have h1 := clear_ol (n - kk) kk m wr (by omega) HO.out
          have h2 := h1.take (fun _ => rfl) kk (by rw [clearL_len, HML.out]; omega) (by simp)
          rw [clearL_take _ _ _ _ (Nat.le_refl _)] at h2
          have h3 := HI.out
          rw [hend, ← HN.out] at h3
          rw [compI_take h3] at h2
          exact h2)
         have HT2 : Hid (Turns (fun q => q = g) w (wr.setCells g (kk * 3) (zerosC (n - kk)))) := hZ (HT.out.trans (turns_setCells _ _ _))
         clear hend HI HO HT HML
         go_wp2_with fail
         go_ret
         exact HF.out _ _ HE.out HT2.out
  · have d1 : decide (k < n) = false := by simp; omega
    obtain rfl : k = n := by omega
    have hcp : Lib.compact l = l := Lib.compact_all l fun j hj => HA.out j (by rw [← HN.out]; exact hj)
    have HCP := hZ hcp
    clear hcp
    go_wp2_with fail
    go_ret
    exact HF.out _ _ (by rw [HCP.out]; exact HO.out) HT.out
end Go.Proofs.YteeifhlhpiimoaaGreatDoor
end
section
namespace Go.Proofs.YteeifhlhpiimoaaGreatDoor
theorem id_step (y : Six) (k f : Nat) {e : Ent} (h : 0 ≤ e.id ∧ e.id ≤ 9) : 0 ≤ (stepE y k f e).id ∧ (stepE y k f e).id ≤ 9 := by
 unfold stepE
 split
 · have := pickZ_range y.y3 (n := 9) (by omega)
   show 0 ≤ 1 + pickZ y.y3 9 ∧ 1 + pickZ y.y3 9 ≤ 9
   omega
 all_goals first | exact h | (unfold setE; split <;> first | exact h | contradiction)
theorem id_fold (y : Six) : ∀ (fs : List Nat) (k : Nat) (e : Ent), (0 ≤ e.id ∧ e.id ≤ 9) → 0 ≤ (foldE y k fs e).id ∧ (foldE y k fs e).id ≤ 9
 | [], _, _, h => h
 | f :: fs, k, _, h => id_fold y fs (k + 1) _ (id_step y k f h)
theorem some_id (y : Six) : 0 ≤ (someE y).id ∧ (someE y).id ≤ 9 := id_fold y _ 0 _ ⟨by show (0 : Int) ≤ 0; omega, by show (0 : Int) ≤ 9; omega⟩
theorem asc_few : ∀ (l : List Int) (a n : Nat), l.Pairwise (· < ·) → (∀ x ∈ l, (a : Int) ≤ x ∧ x < (a : Int) + n) → l.length ≤ n
 | [], _, _, _, _ => Nat.zero_le _
 | x :: l, a, n, h, hb => by
   obtain ⟨h1, h2⟩ := List.pairwise_cons.1 h
   have hx := hb x (List.mem_cons_self ..)
   have := asc_few l (x.toNat + 1) (a + n - (x.toNat + 1)) h2 fun z hz => by
    have h3 := h1 z hz
    have h4 := hb z (List.mem_cons_of_mem _ hz)
    omega
   rw [List.length_cons]; omega
theorem known_up (l : List Ent) (d : Int) (j : Nat) : (knownL l d j).Pairwise fun a b => numE a < numE b := by
 have ha : Apart (byNum numE) ((effD l d).filter fun e => decide (e.kind = ((j + 1 : Nat) : Int))) := by
  refine apart_kind (k := ((j + 1 : Nat) : Int)) (List.Pairwise.filter _ (effD_keyd l d)) fun e he => ?_
  obtain ⟨h1, h2⟩ := List.mem_filter.1 he
  exact ⟨(effD_ok l d e h1).2.1, by simpa using h2⟩
 exact (up_strict (sortB_up (byNum_weak numE) _) (ha.perm (sortB_perm _).symm)).imp fun h => by simpa [byNum] using h
theorem known_in {l : List Ent} {day : Int} {j : Nat} {x : Ent} (h : x ∈ knownL l day j) : x ∈ effD l day ∧ x.kind = ((j + 1 : Nat) : Int) := by
 unfold knownL at h
 rw [sortB_mem, List.mem_filter] at h
 simpa using h
theorem points_few {l : List Ent} {d : Int} (m : Nat) (h : ∀ e ∈ l, 0 ≤ e.id ∧ e.id < (m : Int)) : (knownL l d 0).length ≤ m := by
 have h1 := known_up l d 0
 have h2 : ((knownL l d 0).map numE).Pairwise (· < ·) := List.pairwise_map.2 h1
 have h3 := asc_few _ 0 m h2 fun x hx => by
  obtain ⟨e, he, rfl⟩ := List.mem_map.1 hx
  obtain ⟨h4, h5⟩ := known_in he
  have h6 := h e (effD_ok _ _ _ h4).1
  have : numE e = e.id := by unfold numE; rw [h5]; rfl
  rw [this]
  omega
 simpa using h3
theorem filter_twice {α : Type} {p q : α → Bool} (l : List α) (h : ∀ x, p x = true → q x = true) : (l.filter q).filter p = l.filter p := by
 rw [List.filter_filter]
 congr 1
 funext x
 cases hp : p x with
 | false => rfl
 | true => rw [h x hp]; rfl
theorem any_twice {α : Type} {p q : α → Bool} (l : List α) (h : ∀ x, p x = true → q x = true) : (l.filter q).any p = l.any p := by
 rw [List.any_filter]
 congr 1
 funext x
 cases hp : p x with
 | false => simp
 | true => rw [h x hp]; rfl
def itemB (n : Int) (e : Ent) : Bool := decide (e.item = n)
def labB (n : Int) (e : Ent) : Bool := decide (e.lab = n)
structure Only (B C : Bas) (n : Int) : Prop where
 h0 : C.ls 0 = (B.ls 0).filter (itemB n)
 h1 : C.ls 1 = (B.ls 1).filter (itemB n)
 h2 : C.ls 2 = (B.ls 2).filter (itemB n)
 h3 : C.ls 3 = (B.ls 3).filter (itemB n)
 h4 : C.ls 4 = (B.ls 4).filter (labB n)
 h5 : C.ls 5 = B.ls 5
 h7 : C.ls 7 = (B.ls 7).filter (itemB n)
 h8 : C.ls 8 = (B.ls 8).filter (itemB n)
section
variable {B C : Bas} {n : Int} (h : Only B C n)
include h
theorem Only.key (t : Int) : keyB C n t = keyB B n t := by
 unfold keyB
 rw [h.h4, h.h5, filter_twice]
 intro x hx
 simp only [Bool.and_eq_true, decide_eq_true_eq] at hx
 exact decide_eq_true hx.2.1
theorem Only.about0 : aboutL (C.ls 0) n = aboutL (B.ls 0) n := by
 unfold aboutL; rw [h.h0]; exact filter_twice _ fun _ hx => hx
theorem Only.budget : budgetE (C.ls 7) n = budgetE (B.ls 7) n ∧ ((C.ls 7).any fun e => decide (e.item = n)) = (B.ls 7).any fun e => decide (e.item = n) := by
 unfold budgetE
 rw [h.h7]
 exact ⟨by rw [filter_twice]; exact fun _ hx => hx, any_twice _ fun _ hx => hx⟩
theorem Only.rate : budgetE (C.ls 1) n = budgetE (B.ls 1) n ∧ ((C.ls 1).any fun e => decide (e.item = n)) = (B.ls 1).any fun e => decide (e.item = n) := by
 unfold budgetE
 rw [h.h1]
 exact ⟨by rw [filter_twice]; exact fun _ hx => hx, any_twice _ fun _ hx => hx⟩
theorem Only.pts : histPts C n = histPts B n := by unfold histPts; rw [h.rate.2, h.about0]
theorem Only.wrong (t : Int) : ((C.ls 3).any fun e => decide (e.item = n) && (decide (e.frm ≤ t) && decide (t ≤ e.til))) = (B.ls 3).any fun e => decide (e.item = n) && (decide (e.frm ≤ t) && decide (t ≤ e.til)) := by
 rw [h.h3]
 refine any_twice _ fun x hx => ?_
 simp only [Bool.and_eq_true] at hx
 exact hx.1
theorem Only.faults : faultsL C n = faultsL B n := by
 unfold faultsL; rw [h.h2, filter_twice]; exact fun _ hx => hx
theorem Only.customers : customersB C n = customersB B n := by
 unfold customersB; rw [h.h8, filter_twice]; exact fun _ hx => hx
end
end Go.Proofs.YteeifhlhpiimoaaGreatDoor
end
section
namespace Go.Proofs.YteeifhlhpiimoaaGreatDoor
open Go Go.RowKit Go.Shelf Go.Sort
attribute [local go_sem] Oper.semAt_some
def faultsS (B : Bas) (p : Int) : List Sus := Lib.compact (sortB (byNum2 Sus.frm Sus.til) (faultsL B p))
theorem faults_item {B : Bas} {p : Int} {s : Sus} (h : s ∈ faultsL B p) : s.item = p := by
 unfold faultsL at h
 obtain ⟨e, he, rfl⟩ := List.mem_map.1 h
 exact of_decide_eq_true (List.mem_filter.1 he).2
theorem faultsS_of {B : Bas} {p : Int} {l : List Sus} (hp : l.Perm (faultsL B p)) (hu : Up (ltOf cmpS) l) : Lib.compact l = faultsS B p := by
 have hlt : ltOf cmpS = byNum2 Sus.frm Sus.til := by funext x y; exact ltOf_sus x y
 rw [hlt] at hu
 have h2 := sortB_up (byNum2_weak Sus.frm Sus.til) (faultsL B p)
 have h3 := sortB_perm (lt := byNum2 Sus.frm Sus.til) (faultsL B p)
 unfold faultsS
 congr 1
 refine List.Perm.eq_of_pairwise (le := fun a b => byNum2 Sus.frm Sus.til b a = false) (fun a b ha hb h4 h5 => ?_) hu h2 (hp.trans h3.symm)
 have e1 := faults_item (hp.mem_iff.1 ha)
 have e2 := faults_item (h3.mem_iff.1 hb)
 unfold byNum2 at h4 h5
 simp at h4 h5
 cases a; cases b
 simp only [Sus.mk.injEq] at *
 omega
theorem Only.faultsS {B C : Bas} {n : Int} (h : Only B C n) : faultsS C n = faultsS B n := by unfold Go.Proofs.YteeifhlhpiimoaaGreatDoor.faultsS; rw [h.faults]
set_option maxRecDepth 100000 in
set_option maxHeartbeats 8000000 in
theorem faults_walk (B : Bas) (p : Int) (w : World) (hB : BasAt w (Old w) B) (hl : (B.ls 2).length ≤ 1000000) :
 Calls Tryz.prog 29 #[B.val, .int .i64 p] w fun e w' => ∃ v, e = .returned v ∧ OL w' w.heap.size 75 3 susC v (faultsS B p) ∧ Below w.heap.size w w' := by
 have HB := hZ hB
 have HL := hZ hl
 have IE := fun e : Ent => hZ (ientry (e := e))
 clear hB hl
 refine (callsIn_wide (n := 3)).1 ?_
 refine callsIn_of_wp_marks Tryz.func29 rfl trivial ?_ rfl
 simp only [Tryz.ntmps29, List.size_toArray, List.length_cons, List.length_nil, Nat.reduceAdd, Nat.reduceSub, Array.replicate_succ, Array.replicate_zero, List.push_toArray, List.append_toArray, List.nil_append, List.cons_append]
 refine wpIn_wide.2 ?_
 go_wp2_with fail
 have HF0 := hZ (At.start w)
 obtain ⟨b2, w0, q1, q2, q3, hf0, hs0⟩ := HF0.out.alloc2 (.cells B.cells.toArray 36)
 obtain ⟨b5, w1, r1, r2, r3, hf1, hs1⟩ := hf0.alloc2 (.cells #[.slice none 0 0] 61)
 rw [hs0] at r1
 have HNE : Hid (b2 < b5 ∧ w.heap.size ≤ b2) := hZ (by omega)
 rw [q1, q2, r1, r2]
 have HF : Hid (At w w1.drew _) := hZ hf1.drew
 clear HF0 q1 q2 q3 hf0 hs0 r1 r2 r3 hf1 hs1
 refine wp_region_noPanic ?_
 refine wp_region_held_drew (S := fun U => U.cell? ⟨b2, 2, none⟩ = some (.slice (B.ad 2) (B.ls 2).length (B.cp 2))) (by kernel_rfl) (At.cell HF.out (b := b2) (cs := B.cells.toArray) (t := 36) (i := 2) (by simp) rfl) (fun hHeld => ?_)
 obtain ⟨U0, hU0⟩ := oQ (w1.drew)
 rw [hU0] at HF hHeld ⊢
 clear hU0
 refine tk 0 ?_
 refine tk 1 ?_
 refine tk 2 ?_
 refine rd [3] ?_
 refine rcE fun K hK => ?_
 go_simp
 (with_reducible refine (about_at p HF.out).mono ?_)
 rintro e1 V2 ⟨ba, rfl, HF1⟩
 have HF := hZ HF1
 clear HF1
 refine kk hK (At.cell HF.out (b := b2) (cs := B.cells.toArray) (t := 36) (i := 2) (by simp) rfl) (fun hHeld => ?_)
 clear hK K
 refine rd [4] ?_
 refine rcE fun K hK => ?_
 go_simp
 obtain ⟨bc, V3, g1, g2, -, HF1⟩ := HF.out.alloc (.cells #[.func (.func 129) #[] #[.pointer (some ⟨ba, 0, none⟩)]] 45)
 rw [g1, g2]
 have HF := hZ HF1
 clear HF1 g1 g2
 refine kk hK (At.cell HF.out (b := b2) (cs := B.cells.toArray) (t := 36) (i := 2) (by simp) rfl) (fun hHeld => ?_)
 clear hK K
 refine rd [5] ?_
 refine rcE fun K hK => ?_
 go_simp
 (with_reducible refine (where_at (B.ad 2) (B.ls 2).length (B.cp 2) (some ⟨bc, 0, none⟩) 1 1 HF.out).mono ?_)
 rintro e1 V4 ⟨b1, b2', rfl, HF1⟩
 have HF := hZ HF1
 clear HF1
 refine kk hK (At.cell HF.out (b := b2) (cs := B.cells.toArray) (t := 36) (i := 2) (by simp) rfl) (fun hHeld => ?_)
 clear hK K
 refine dn ?_
 clear hHeld
 obtain ⟨Y, hY⟩ : ∃ Y : Nat → Prop, Y = fun k => k < V4.heap.size ∧ k ≠ b5 := ⟨_, rfl⟩
 have hYlt : ∀ k, Y k → k < V4.heap.size := fun k hk => by rw [hY] at hk; exact hk.1
 have hY5 : ∀ k, Y k → k ≠ b5 := fun k hk => by rw [hY] at hk; exact hk.2
 have hin : ∀ k cs T, (k, Obj.cells cs T (0, 0)) ∈ _ → T ≠ 61 → Y k := fun k cs T hm h1 => by
  rw [hY]
  refine ⟨HF.out.lt hm, fun e => ?_⟩
  have q1 := HF.out.has _ hm
  have q2 := HF.out.has (b5, .cells #[.slice none 0 0] 61 (0, 0)) (by simp)
  simp only at q1 q2
  rw [e, q2] at q1
  injection q1 with q1
  injection q1 with _ q1 _
  exact h1 q1.symm
 have hold : ∀ k, Old w k → Y k := fun k hk => by
  unfold Old at hk
  rw [hY]
  have := HNE.out
  have := HF.out.below.size
  omega
 have hBY : BasAt V4 Y B := (HB.out.keeps (Keeps.of_below HF.out.below fun _ h => h)).mono hold
 have y1 := hin b1 #[.slice (B.ad 2) (B.ls 2).length (B.cp 2)] 25 (by simp) (by decide)
 have y2 := hin b2' #[.slice (some ⟨bc, 0, none⟩) 1 1] 110 (by simp) (by decide)
 have yc := hin bc #[.func (.func 129) #[] #[.pointer (some ⟨ba, 0, none⟩)]] 45 (by simp) (by decide)
 have ya := hin ba #[.int .i64 p] 3 (by simp) (by decide)
 have hIt := where_iter [⟨129, #[.pointer (some ⟨ba, 0, none⟩)], fun e => decide (e.item = p)⟩] (B.ls 2) (B.ad 2) (some ⟨bc, 0, none⟩) (B.ls 2).length (B.cp 2) 1 1 b1 b2' rfl (Nat.le_trans (HB.out.cap 2 (by decide)).1 (HB.out.cap 2 (by decide)).2) rfl (by decide) Y V4 hYlt y1 y2
  (HF.out.boxed (by simp)) (HF.out.boxed (by simp)) (hBY.at_ 2 (by decide)) (fun i v hv => by
    have hc3 := HF.out.cell (b := bc) (cs := #[.func (.func 129) #[] #[.pointer (some ⟨ba, 0, none⟩)]]) (t := 45) (by simp) (i := i) (v := v) (by simpa [CndD.val] using hv)
    refine ⟨_, rfl, yc, ?_⟩
    rw [show (⟨bc, 0, none⟩ : Addr).add i = ⟨bc, i, none⟩ by simp [Addr.add]; omega]
    exact hc3) (fun c hc => by
    simp only [List.mem_cons, List.not_mem_nil, or_false] at hc
    subst hc
    exact cond_about p ba V4 Y ya (HF.out.boxed (by simp)))
 have HI := hZ hIt
 have HYL := hZ (And.intro hYlt hY5)
 have HX5 : Hid (Boxed V4 b5 61 (.slice none 0 0)) := hZ (HF.out.boxed (by simp))
 have HBV : Hid (Below w.heap.size w V4) := hZ HF.out.below
 have HLT : Hid (b5 < V4.heap.size) := hZ HX5.out.lt
 clear hY hYlt hY5 hin hold hBY y1 y2 yc ya hIt
 go_wp2_with fail
 refine (wpIn_wide (n := 3)).1 ?_
 refine wp_rangeZB (gf := 127) (lb := #[.pointer (some ⟨b1, 0, none⟩), .pointer (some ⟨b2', 0, none⟩)]) rfl (enters_of Tryz.func127 (by kernel_rfl) rfl)
  HI.out (Below.refl _ _) (fun k hk => hk.elim) (fun _ => rfl) (fun h k => h.trans k)
  (fun W o k hk => World.putObj_heap_other (by have := HYL.out.1 k hk; omega))
  (fun pre W => ∃ v, Boxed W b5 61 v ∧ OL W (V4.heap.size + 2) 75 3 susC v (pre.map susOf) ∧ Below w.heap.size w W)
  (fun _ _ _ => False)
  ?hI (fun _ _ _ _ h _ => h.elim) ⟨_, HX5.out, OL.nil, HBV.out⟩
  (fun b x => { tmps := #[B.val, .int .i64 p, .pointer (some ⟨b2, 0, none⟩), undef, .slice none 0 0, .pointer (some ⟨b5, 0, none⟩), .pointer (some ⟨b, 0, none⟩), .pointer (some ⟨b2, 2, none⟩), .slice (B.ad 2) (B.ls 2).length (B.cp 2), .int .i64 p, .func (.func 129) #[] #[.pointer (some ⟨ba, 0, none⟩)], .slice (some ⟨bc, 0, none⟩) 1 1, .func (.func 127) #[] #[.pointer (some ⟨b1, 0, none⟩), .pointer (some ⟨b2', 0, none⟩)], Ent.val x, undef, undef, undef, undef, undef, undef, undef, undef, undef, undef, undef, undef, undef, undef], defers := [] })
  (fun b x W => EntAt W b x) ?hRw ?hKB ?assign ?body ?done ?stop
 case hI =>
  rintro s A B' ⟨v, h1, h2, h3⟩ tt
  have := HLT.out
  refine ⟨v, tt.boxed h1 (not_books (by omega)), h2.keep fun g hg => tt.block g (h2.lt g hg).2 ?_, tt.below h3 (Nat.le_refl _) (far_books HBV.out.size)⟩
  rintro (e | e | e)
  · exact e
  · have := (h2.lt g hg).1; omega
  · have := (h2.lt g hg).1; omega
 case hRw =>
  intro b x A B' hb hlt h tt
  refine (tt.block _ hlt ?_).trans h
  rintro (e | e | e)
  · exact e
  · omega
  · omega
 case hKB =>
  intro A B' hs hb
  exact Keeps.of_below hb (fun k hk => by have := HYL.out.1 k hk; omega)
 case assign =>
  intro l0 x W b K hb hle hK
  subst hb
  dsimp only [encE1]
  gi_wp2_with (first
   | ((with_reducible refine wpListIn_store_new rfl (.tmp 6) (.tmp 13) rfl rfl x rfl rfl ?hi ?ho ?_); (case hi => exact (IE x).out); (case ho => rfl); intro w1 he1 hb1 hs1)
   | fail)
  exact hK _ he1 hb1 hs1
 case body =>
  rintro l0 pre x b W hle hlt ⟨v, hv, hrow, hB⟩ hx hl
  obtain ⟨A5, c5, rfl, -, -⟩ := hrow.slice
  obtain ⟨k, hk⟩ := oQ ((pre.map susOf).length)
  rw [hk] at hv hrow
  have HK := hZ hk
  have HV := hZ hv
  have HR := hZ hrow
  have HBB := hZ hB
  have HXE := hZ hx
  have hkn : k < (B.ls 2).length := by rw [← hk, List.length_map]; exact hl
  have HKN : Hid (k + 1 ≤ 1000000) := hZ (by have := HL.out; omega)
  have x8 := HXE.out.cell (i := 8) rfl
  have x5 := HXE.out.cell (i := 5) rfl
  have x6 := HXE.out.cell (i := 6) rfl
  have c0 := hv.cell
  clear hk hv hrow hB hx hl hkn
  have hbn := below_new W (.cells #[.int .i64 x.item, .int .i64 x.frm, .int .i64 x.til] 75)
  have HBN := hZ hbn
  clear hbn
  gi_wp2_with (first
   | (gi_at_builtin; refine wpListIn_app rfl (.tmp 14) (.tmp 22) rfl elemSus (.slice A5 k c5) (pre.map susOf) k HK.out rfl (HR.out.below HBN.out (Nat.le_refl _)) (susOf x) W.heap.size #[.int .i64 x.item, .int .i64 x.frm, .int .i64 x.til] rfl (World.alloc_heap_new W _) rfl rfl (fun u hu => by simp [susC, susOf] at hu; rcases hu with rfl | rfl | rfl <;> rfl) (by have := HKN.out; have := HK.out; unfold maxLen; omega) (by have := HKN.out; have := HK.out; omega) (by simp; omega) ?_
      intro g' cap' w1 ho1 hg1 hw1 hl1 hb1
      have hv1 : Boxed w1 b5 61 (.slice A5 k c5) := (hg1.block b5 (by have := HBN.out.size; have := HV.out.lt; omega) (fun e => by have := (HR.out.lt b5 e.symm).1; have := HLT.out; omega)).trans ((HBN.out.block _ HV.out.lt).trans HV.out)
      have HV1 := hZ hv1
      have HO1 := hZ ho1
      have HG1 := hZ hg1
      have HW1 := hZ hw1
      have c1 := hv1.cell
      have f1 := hv1.frozen
      clear ho1 hg1 hw1 hl1 hb1 hv1)
   | fail)
  have hT : Turns (fun q => q = b5) w1 (w1.setCell ⟨b5, 0, none⟩ (.slice (some ⟨g', 0, none⟩) (k + 1) cap')) := Turns.setCell _ _ _ rfl
  have hown : ∀ q, (Value.slice A5 k c5).ownBlock = some q → V4.heap.size + 2 ≤ q := fun q hq => (HR.out.lt q hq).1
  have hlt5 := HLT.out
  have hsz := HBN.out.size
  have hT1 : Turns (fun q => (Value.slice A5 k c5).ownBlock = some q) (W.alloc (.cells #[.int .i64 x.item, .int .i64 x.frm, .int .i64 x.til] 75)) w1 := grown_turns HG1.out
  have hb1 : Below (V4.heap.size + 2) W w1 := hT1.below (HBN.out.mono (by omega)) (by omega) (fun q hq => hown q hq)
  have hYw : Keeps Y W (w1.setCell ⟨b5, 0, none⟩ (.slice (some ⟨g', 0, none⟩) (k + 1) cap')) := fun q hq => by
   have h1 := HYL.out.1 q hq
   have h2 := HYL.out.2 q hq
   exact (Below.heap_setCell _ _ _ _ h2).trans (hb1.block q (by omega))
  refine ⟨?_, hYw, .slice (some ⟨g', 0, none⟩) (k + 1) cap', HV1.out.set _, ?_, ?_⟩
  · refine ((KeepsFrom.of_below HBN.out).trans ⟨hT1.size, fun q o h1 h2 h3 => ?_⟩).trans (KeepsFrom.of_turns hT (fun q e => by omega))
    refine (hT1.block q (Array.getElem?_eq_some_iff.1 h2).1 fun e => ?_).trans h2
    have hrow := HR.out.below HBN.out (Nat.le_refl _)
    rcases hrow.2 with ⟨e1, _⟩ | ⟨g9, cap9, cur9, e1, _, h9, _⟩
    · rw [e1] at e; cases e
    · rw [e1] at e
      have : g9 = q := by injection e
      subst this
      rw [h9] at h2
      injection h2 with h2
      rw [← h2] at h3; cases h3
  · rw [List.map_append, List.map_singleton]
    exact HO1.out.keep fun q hq => Below.heap_setCell _ _ _ _ (fun e => by
     have : g' = q := by injection hq
     rcases HW1.out with h1 | h1
     · have := hown g' h1; simp only at e; omega
     · simp only at e; omega)
  · have := HBV.out.size
    have hlw : w.heap.size ≤ b5 := by have := HNE.out; omega
    exact hT.below (HBB.out.trans (hb1.mono (by omega))) (Nat.le_refl _) (fun q hq => by omega)
 case done =>
  rintro xs W hS ⟨v, hv, hrow, hB⟩ hK
  have hxs : xs = (B.ls 2).filter fun e => decide (e.item = p) := by
   rw [hS]
   congr 1
   funext e
   simp [allP]
  subst hxs
  have hll : (((B.ls 2).filter fun e => decide (e.item = p)).map susOf).length ≤ 1000000 := by rw [List.length_map]; exact Nat.le_trans (List.length_filter_le _ _) HL.out
  have hfl : ((B.ls 2).filter fun e => decide (e.item = p)).map susOf = faultsL B p := rfl
  rw [hfl] at hrow hll
  obtain ⟨ll, hll2⟩ := oQ (faultsL B p)
  have HFL := hZ hll2
  rw [hll2] at hrow hll
  have HLL := hZ hll
  have HV := hZ hv
  have HR := hZ hrow
  have HBB := hZ hB
  have HKK := hZ hK
  obtain ⟨A5, c5, rfl, -, -⟩ := hrow.slice
  obtain ⟨n5, hn5⟩ := oQ (ll.length)
  rw [hn5] at HV HR hv hrow
  have HN5 := hZ hn5
  have c0 := hv.cell
  have hown5 : (Value.slice A5 n5 c5).ownBlock ≠ some b5 := fun e => by have := (hrow.lt b5 e).1; have := HLT.out; omega
  have HO5 := hZ hown5
  clear hv hrow hB hK hS hll2 hll hown5 hfl hn5
  go_wp2_with (first
   | (go_at_call 79; (with_reducible refine (sort_sus HR.out HLL.out).mono ?_); rintro e3 w3 ⟨rfl, l3, ho3, hp3, hu3, ht3⟩
      have HN3 : Hid (n5 = l3.length) := hZ ho3.len.1
      have HP := hZ hp3
      have HU := hZ hu3
      have HT3 := hZ ht3
      have HR0 := HR
      have HR := hZ ho3
      have hv3 : Boxed w3 b5 61 (.slice A5 n5 c5) := ht3.boxed HV.out HO5.out
      have c3 := hv3.cell
      clear ho3 hp3 hu3 ht3 hv3 c0)
   | (go_at_call 81; (with_reducible refine (compactS_walk HR.out (by have := HP.out.length_eq; have := HLL.out; omega)).mono ?_); rintro e4 w4 ⟨v4, rfl, ho4, ht4, hv4⟩
      have HR4 := hZ ho4
      have HT4 := hZ ht4
      have HV4 := hZ hv4
      clear ho4 ht4 hv4)
   | fail)
  have HT5 : Hid (Turns (fun q => (Value.slice A5 n5 c5).ownBlock = some q) W w4) := hZ (HT3.out.trans HT4.out)
  have hd3 : w4.heap[V4.heap.size]? = some (.deferred (some [])) := (HT5.out.block _ (Array.getElem?_eq_some_iff.1 HKK.out).1 (fun e => by have := (HR0.out.lt _ e).1; omega)).trans HKK.out
  have hl3 : Lib.compact l3 = faultsS B p := faultsS_of (by rw [HFL.out]; exact HP.out) HU.out
  refine ⟨by simp, .inl ⟨_, _, rfl, run_takeDeferred hd3, ?_⟩⟩
  refine ⟨_, results_tmp rfl _ _ _, _, rfl, ?_, ?_⟩
  · rw [← hl3]
    have hsz := HBV.out.size
    exact (HR4.out.keep fun g hg => World.putObj_heap_other (by have := (HR4.out.lt g hg).1; omega)).base (by omega)
  · have hsz := HBV.out.size
    have hb3 := HT5.out.below HBB.out (Nat.le_refl _) (fun q hq => by have := (HR0.out.lt q hq).1; omega)
    exact (Turns.putObj (Z := fun k => k = V4.heap.size) w4 _ _ rfl).below hb3 (Nat.le_refl _) (fun k hk => by omega)
 case stop =>
  rintro c pre W _ h _
  exact h.elim
end Go.Proofs.YteeifhlhpiimoaaGreatDoor
end
section
namespace Go.Proofs.YteeifhlhpiimoaaGreatDoor
open Go Go.RowKit Go.Shelf
section
variable {B C : Bas} {n : Int} (h : Only B C n) (W : World) (hC : BasAt W (Old W) C)
include h hC
theorem Only.keyW (t : Int) : Calls Tryz.prog 23 #[C.val, .int .i64 n, .int .i64 t] W fun e W' => e = .returned (.tuple #[.string (keyB B n t).1.text, .bool (keyB B n t).2]) ∧ Below W.heap.size W W' := by
 rw [← h.key t]; exact knownKey_walk C n t W hC
theorem Only.budgetW : Calls Tryz.prog 24 #[C.val, .int .i64 n] W fun e W' => e = .returned (.tuple #[.agg #[.string (budgetE (B.ls 7) n).rn, .string (budgetE (B.ls 7) n).rd], .bool ((B.ls 7).any fun e => decide (e.item = n))]) ∧ Below W.heap.size W W' := by
 rw [← h.budget.1, ← h.budget.2]; exact budget_walk C n W hC
theorem Only.wrongW (t : Int) : Calls Tryz.prog 25 #[C.val, .int .i64 n, .int .i64 t] W (ValP W ((B.ls 3).any fun e => decide (e.item = n) && (decide (e.frm ≤ t) && decide (t ≤ e.til)))) := by
 rw [← h.wrong t]; exact wrong_walk C n t W hC
theorem Only.histW (hl : (C.ls 0).length ≤ 10) : Calls Tryz.prog 27 #[C.val, .int .i64 n] W (HistP B n W) := by
 have h1 := history_walk C n W hC (Nat.le_trans hl (by decide)) (Nat.lt_of_le_of_lt (List.length_filter_le _ _) (Nat.lt_of_le_of_lt hl (by decide)))
 unfold HistP at h1 ⊢
 rw [h.rate.1, h.pts] at h1
 exact h1
theorem Only.faultsW (hl : (C.ls 2).length ≤ 30) : Calls Tryz.prog 29 #[C.val, .int .i64 n] W fun e w' => ∃ v, e = .returned v ∧ OL w' W.heap.size 75 3 susC v (Go.Proofs.YteeifhlhpiimoaaGreatDoor.faultsS B n) ∧ Below W.heap.size W w' := by
 rw [← h.faultsS]; exact faults_walk C n W hC (Nat.le_trans hl (by decide))
theorem Only.customersW (hl : (C.ls 8).length ≤ 30) : Calls Tryz.prog 31 #[C.val, .int .i64 n] W fun e w' => ∃ v, e = .returned v ∧ OL w' W.heap.size 3 1 (one iv) v (customersB B n) ∧ Below W.heap.size W w' := by
 rw [← h.customers]; exact customers_walk C n W hC (Nat.le_trans hl (by decide))
end
theorem few_walk_h {B : Bas} {n : Int} (W : World) (hB : BasAt W (Old W) B) (hl : (B.ls 0).length ≤ 10) : Calls Tryz.prog 27 #[B.val, .int .i64 n] W (HistP B n W) :=
 history_walk B n W hB (Nat.le_trans hl (by decide)) (Nat.lt_of_le_of_lt (List.length_filter_le _ _) (Nat.lt_of_le_of_lt hl (by decide)))
end Go.Proofs.YteeifhlhpiimoaaGreatDoor
end
section
namespace Go.Proofs.YteeifhlhpiimoaaGreatDoor
open Go Go.RowKit Go.Shelf
attribute [local go_sem] Oper.semAt_some
theorem guard_ratN (x y : Operand) (cs ds : Array Value) (W : World) : (eqGuard .neq 29 x y (.agg cs) (.agg ds)).run Tryz.prog W = .ok () W := by kernel_rfl
theorem guard_ptN (x y : Operand) (cs ds : Array Value) (W : World) : (eqGuard .neq 86 x y (.agg cs) (.agg ds)).run Tryz.prog W = .ok () W := by kernel_rfl
theorem neq_rat (a b : ByteArray) (W : World) : (binOp .neq 29 (.agg #[.string a, .string b]) (.agg #[.string a, .string b])).run Tryz.prog W = .ok (.bool false) W := by
 go_simp
theorem neq_pt (p : Pt) (W : World) : (binOp .neq 86 (.agg (ptC p).toArray) (.agg (ptC p).toArray)).run Tryz.prog W = .ok (.bool false) W := by
 obtain ⟨a, b, c, d, e⟩ := p
 unfold ptC
 simp only []
 go_simp
theorem step_neq {P : Program} {ops : Array Oper} {rest : List Oper} {o : Oper} {a : Act} {w : World} {Q : Exit → Act → World → Prop} (hgd : o.guard = none) (t t' : TypeId) (x y : Operand) (ho : o.op = .binOp .neq t x y t') (u v : Value) (hx : a.eval x = u) (hy : a.eval y = v) (b : Bool)
 (hgr : (eqGuard .neq t x y u v).run P w = .ok () w) (hr : (binOp .neq t u v).run P w = .ok (.bool b) w) (h : wpList P ops Q rest (a.put o.dst (.bool b)) w) : wpList P ops Q (o :: rest) a w :=
 wpList_plain hgd fun _ hK => by
  have h2 := hK _ _ h
  unfold Oper.wp execOp
  simp only [ho, hx, hy]
  simp only [Sem.run_bind, Sem.run_pure, hgr, hr, Result.andThen_ok]
  exact h2
set_option maxRecDepth 100000 in
set_option maxHeartbeats 4000000 in
theorem sameHist_walk (rn rd : ByteArray) (l : List Pt) (A A2 : Option Addr) (n c c2 : Nat) (hn : l.length = n) (hm : n ≤ maxLen) (w : World) (hA : RowAt w ptC 5 A l) (hA2 : RowAt w ptC 5 A2 l) :
 Calls Tryz.prog 26 #[.agg #[.string rn, .string rd, .slice A n c], .agg #[.string rn, .string rd, .slice A2 n c2]] w (ValP w true) := by
 have hm' : n ≤ 9223372036854775807 := by unfold maxLen at hm; omega
 have HA := hZ hA
 have HA2 := hZ hA2
 have HN := hZ hn
 clear hA hA2 hn hm
 go_enter Tryz.func26, Tryz.ntmps26
 go_wp2_with (first
  | ((with_reducible refine step_neq rfl 29 29 (.tmp 7) (.tmp 9) rfl (.agg #[.string rn, .string rd]) (.agg #[.string rn, .string rd]) ?hx ?hy false (guard_ratN _ _ _ _ _) (neq_rat _ _ _) ?_); (case hx => rfl); (case hy => rfl))
  | fail)
 have HF0 := hZ (At.start w)
 obtain ⟨b1, w1, q1, q2, q3, hf1, hs1⟩ := HF0.out.alloc2 (.cells #[.string rn, .string rd, .slice A n c] 58)
 obtain ⟨b2, w2, r1, r2, r3, hf2, hs2⟩ := hf1.alloc2 (.cells #[.string rn, .string rd, .slice A2 n c2] 58)
 rw [hs1] at r1
 rw [q1, q2, r1, r2]
 have HF := hZ hf2
 clear HF0 q1 q2 q3 hf1 hs1 r1 r2 r3 hf2 hs2
 go_loopw [5] (fun v wr => ∃ i : Nat, v = .int .i64 (i : Int) ∧ i ≤ n ∧ Hid (At w wr [(b2, .cells #[.string rn, .string rd, .slice A2 n c2] 58 (0, 0)), (b1, .cells #[.string rn, .string rd, .slice A n c] 58 (0, 0))])) (fun v _ => n - (intOf v).toNat)
 case atStart => exact ⟨0, rfl, Nat.zero_le _, HF⟩
 case round =>
  clear HF
  obtain ⟨i, rfl, hi, HF⟩ := hrel
  have x1 := HF.out.cell (b := b1) (cs := #[.string rn, .string rd, .slice A n c]) (t := 58) (by simp) (i := 2) rfl
  by_cases hlt : i < n
  · obtain ⟨e, he⟩ : ∃ e, l[i]? = some e := ⟨_, List.getElem?_eq_getElem (by rw [HN.out]; exact hlt)⟩
    obtain ⟨ba, hAb, -, hrg⟩ := (HA.out.below HF.out.below) i e he
    obtain ⟨bb, hAb', -, hrg'⟩ := (HA2.out.below HF.out.below) i e he
    subst hAb hAb'
    have x2 := HF.out.cell (b := b2) (cs := #[.string rn, .string rd, .slice (some ⟨bb, 0, none⟩) n c2]) (t := 58) (by simp) (i := 2) rfl
    have d1 : decide (i < n) = true := by simp [hlt]
    have z1 : (0 : Int) ≤ (i : Int) := by omega
    have z2 : (i : Int) < (n : Int) := by omega
    have wk : IntKind.i64.wrap ((i : Int) + 1) = ((i + 1 : Nat) : Int) := by rw [IntKind.wrap_i64]; omega
    have hS0 : wr.drew.cell? ⟨b1, 2, none⟩ = some (.slice (some ⟨ba, 0, none⟩) n c) ∧ wr.drew.cell? ⟨b2, 2, none⟩ = some (.slice (some ⟨bb, 0, none⟩) n c2) ∧ World.rangeAt wr.drew ba (i * 5) (ptC e) ∧ World.rangeAt wr.drew bb (i * 5) (ptC e) := ⟨x1, x2, hrg, hrg'⟩
    have HFd := hZ HF.out.drew
    clear he hrg hrg' HF
    go_wp2_with fail
    refine wp_region_noPanic ?_
    refine wp_region_held_drew (S := fun U => U.cell? ⟨b1, 2, none⟩ = some (.slice (some ⟨ba, 0, none⟩) n c) ∧ U.cell? ⟨b2, 2, none⟩ = some (.slice (some ⟨bb, 0, none⟩) n c2) ∧ World.rangeAt U ba (i * 5) (ptC e) ∧ World.rangeAt U bb (i * 5) (ptC e)) (by kernel_rfl) hS0 (fun hHeld => ?_)
    refine tk 0 ?_; refine tk 1 ?_; refine tk 2 ?_; refine tk 3 ?_
    refine tl 4 rfl (yieldsIf_load_mid (by rfl) 86 (.tmp 30) rfl ba (i * 5) (by rfl) (ptC e) _ (fun w hw => hw.2.2.1) Tryz.underlying86 rfl (by kernel_rfl)) ?_
    refine tk 5 ?_; refine tk 6 ?_; refine tk 7 ?_; refine tk 8 ?_
    refine tl 9 rfl (yieldsIf_load_mid (by rfl) 86 (.tmp 35) rfl bb (i * 5) (by rfl) (ptC e) _ (fun w hw => hw.2.2.2) Tryz.underlying86 rfl (by kernel_rfl)) ?_
    refine tl 10 rfl (yields_neq (by rfl) 86 86 (.tmp 31) (.tmp 36) (by rfl) (.agg (ptC e).toArray) (.agg (ptC e).toArray) (by rfl) (by rfl) false (fun w => guard_ptN _ _ _ _ w) (fun w => neq_pt e w)) ?_
    refine dn ?_
    clear hHeld hS0 x1 x2
    go_wp2_with fail
    go_round
    case rel => exact ⟨i + 1, rfl, by omega, HFd⟩
    case measure => simp [intOf]; omega
  · have d1 : decide (i < n) = false := by simp; omega
    go_wp2_with fail
    go_ret
    exact ⟨rfl, HF.out.below⟩
end Go.Proofs.YteeifhlhpiimoaaGreatDoor
end
section
namespace Go.Proofs.YteeifhlhpiimoaaGreatDoor
open Go Go.RowKit Go.Shelf
theorem heap_set {w : World} {b k : Nat} {cs : Array Value} {T : TypeId} (h : w.heap[b]? = some (.cells cs T (0, 0))) (v : Value) : (w.setCell ⟨b, k, none⟩ v).heap[b]? = some (.cells (cs.setIfInBounds k v) T (0, 0)) := by
 simp [World.setCell, Array.getElem?_modify, h]
structure Ls (w U : World) (b b' : Nat) (B C : Bas) : Prop where
 hB : U.heap[b]? = some (.cells B.cells.toArray 36 (0, 0))
 hC : U.heap[b']? = some (.cells C.cells.toArray 36 (0, 0))
 ne : b ≠ b'
 lo : w.heap.size ≤ b'
 below : Below w.heap.size w U
 bB : BasAt U (fun q => q ≠ b' ∧ q < U.heap.size) B
 bC : BasAt U (fun q => q ≠ b' ∧ q < U.heap.size) C
structure Lp (w U0 : World) (b b' : Nat) (B : Bas) (D : Bas) (v : Value) (m : List Ent) (U : World) : Prop where
 hB : U.heap[b]? = some (.cells B.cells.toArray 36 (0, 0))
 hD : U.heap[b']? = some (.cells D.cells.toArray 36 (0, 0))
 ol : OL U U0.heap.size 33 18 Ent.cells v m
 keep : Keeps (fun q => q ≠ b' ∧ q < U0.heap.size) U0 U
 below : Below w.heap.size w U
 size : U0.heap.size ≤ U.heap.size
 ne : b ≠ b'
 lo : w.heap.size ≤ b'
 lb : b < U0.heap.size
 lb' : b' < U0.heap.size
section
variable {w U0 U V : World} {b b' : Nat} {B C D : Bas} {v : Value} {m : List Ent}
theorem Lp.drew (h : Lp w U0 b b' B D v m U) : Lp w U0 b b' B D v m U.drew := ⟨h.hB, h.hD, h.ol.drew, h.keep, Below.drew h.below, h.size, h.ne, h.lo, h.lb, h.lb'⟩
theorem Lp.grow (h : Lp w U0 b b' B D v m U) (hb : Below U.heap.size U V) : Lp w U0 b b' B D v m V :=
 ⟨below_at2 hb h.hB, below_at2 hb h.hD, h.ol.below hb (Nat.le_refl _), h.keep.trans (Keeps.of_below hb fun _ hk => Nat.lt_of_lt_of_le hk.2 h.size), h.below.trans (hb.mono h.below.size), Nat.le_trans h.size hb.size, h.ne, h.lo, h.lb, h.lb'⟩
theorem Lp.app (h : Lp w U0 b b' B D v m U) {v' : Value} {m' : List Ent} (ho : OL V U0.heap.size 33 18 Ent.cells v' m') (hg : U.grownBy V v.ownBlock) (hb : Below U0.heap.size U V) : Lp w U0 b b' B D v' m' V := by
 have hne : ∀ k, k < U0.heap.size → v.ownBlock ≠ some k := fun k hk e => by have := (h.ol.lt k e).1; omega
 have hs := h.size
 have lo : w.heap.size ≤ U0.heap.size := Nat.le_trans h.lo (Nat.le_of_lt h.lb')
 exact ⟨(hg.block b (Nat.lt_of_lt_of_le h.lb hs) fun e => hne b h.lb e.symm).trans h.hB, (hg.block b' (Nat.lt_of_lt_of_le h.lb' hs) fun e => hne b' h.lb' e.symm).trans h.hD, ho,
  h.keep.trans fun k hk => hg.block k (Nat.lt_of_lt_of_le hk.2 hs) fun e => hne k hk.2 e.symm, h.below.trans (hb.mono lo), Nat.le_trans hs hg.size, h.ne, h.lo, h.lb, h.lb'⟩
theorem Lp.set {k : Nat} {m0 m' : List Ent} {A A' : Option Addr} {c c' : Nat} (h : Lp w U0 b b' B (C.put k m0 A c) v m' U) (hk : k < 9) : Lp w U0 b b' B (C.put k m' A' c') v m' (U.setCell ⟨b', k, none⟩ (.slice A' m'.length c')) := by
 refine ⟨?_, ?_, ?_, ?_, Below.setCell h.below h.lo _, by rw [World.size_setCell]; exact h.size, h.ne, h.lo, h.lb, h.lb'⟩
 · rw [Below.heap_setCell _ _ _ _ h.ne]; exact h.hB
 · rw [heap_set h.hD, C.put2_cells hk m0 m' A A' c c']
 · refine h.ol.keep fun g hg => Below.heap_setCell _ _ _ _ ?_
   show g ≠ b'
   have := (h.ol.lt g hg).1
   have := h.lb'
   omega
 · exact h.keep.trans fun q hq => Below.heap_setCell _ _ _ _ hq.1
theorem Bas.put_self {k : Nat} (h1 : C.ls k = []) (h2 : C.ad k = none) (h3 : C.cp k = 0) : C.put k [] none 0 = C := by
 have f : ∀ {α : Type} (g : Nat → α) (x : α), g k = x → upd g k x = g := fun g x e => by
  funext i
  by_cases hi : i = k
  · subst hi; rw [upd_same, e]
  · rw [upd_other _ _ hi]
 unfold Bas.put
 rw [f C.ls [] h1, f C.ad none h2, f C.cp 0 h3]
theorem Ls.start (h : Ls w U b b' B C) {k : Nat} (hk : C.ls k = [] ∧ C.ad k = none ∧ C.cp k = 0) : Lp w U b b' B (C.put k [] none 0) (.slice none 0 0) [] U := by
 rw [Bas.put_self hk.1 hk.2.1 hk.2.2]
 exact ⟨h.hB, h.hC, OL.nil, Keeps.refl _ _, h.below, Nat.le_refl _, h.ne, h.lo, cells_lt h.hB, cells_lt h.hC⟩
theorem Lp.stop {k : Nat} {A : Option Addr} {c : Nat} (h0 : Ls w U0 b b' B C) (h : Lp w U0 b b' B (C.put k m A c) (.slice A m.length c) m U) : Ls w U b b' B (C.put k m A c) := by
 have hm : ∀ q, (q ≠ b' ∧ q < U0.heap.size) → q ≠ b' ∧ q < U.heap.size := fun q hq => ⟨hq.1, Nat.lt_of_lt_of_le hq.2 h.size⟩
 refine ⟨h.hB, h.hD, h.ne, h.lo, h.below, (h0.bB.keeps h.keep).mono hm, ((h0.bC.keeps h.keep).mono hm).putO h.ol fun g hg => ?_⟩
 have h1 := h.ol.lt g (by rw [hg]; rfl)
 have := h.lb'
 exact ⟨by omega, h1.2⟩
theorem Lp.entry (h0 : Ls w U0 b b' B C) {k i n c : Nat} {A : Option Addr} (hk : k < 9) (hn : (B.ls k).length = n) (hA : B.ad k = A) (hc : B.cp k = c) {e : Ent} (he : (B.ls k)[i]? = some e) :
 ∃ bx, A = some ⟨bx, 0, none⟩ ∧ ∀ D v m U, Lp w U0 b b' B D v m U → U.cell? ⟨b, k, none⟩ = some (.slice (some ⟨bx, 0, none⟩) n c) ∧ World.rangeAt U bx (i * 18) e.cells := by
 obtain ⟨bx, hA2, hY, hrg⟩ := h0.bB.at_ k hk i e he
 refine ⟨bx, hA.symm.trans hA2, fun D v m U h => ⟨?_, fun j x hx => (World.cell?_of_block (w := U0) (a := ⟨bx, i * 18 + j, none⟩) (h.keep bx hY)).trans (hrg j x hx)⟩⟩
 rw [← hA2, ← hn, ← hc]
 refine cells_i h.hB ?_
 have h9 : k = 0 ∨ k = 1 ∨ k = 2 ∨ k = 3 ∨ k = 4 ∨ k = 5 ∨ k = 6 ∨ k = 7 ∨ k = 8 := by omega
 rcases h9 with rfl | rfl | rfl | rfl | rfl | rfl | rfl | rfl | rfl <;> rfl
theorem Lp.set1 {k g c c' : Nat} {e : Ent} {A : Option Addr} (h : Lp w U0 b b' B (C.put k m A c) (.slice (some ⟨g, 0, none⟩) (m.length + 1) c') (m ++ [e]) U) (hk : k < 9) (hV : U.setCell ⟨b', k, none⟩ (.slice (some ⟨g, 0, none⟩) (m.length + 1) c') = V) :
 Lp w U0 b b' B (C.put k (m ++ [e]) (some ⟨g, 0, none⟩) c') (.slice (some ⟨g, 0, none⟩) (m ++ [e]).length c') (m ++ [e]) V := by
 have h1 := h.set (m' := m ++ [e]) (A' := some ⟨g, 0, none⟩) (c' := c') hk
 rw [List.length_append, List.length_singleton, hV] at h1
 rw [List.length_append, List.length_singleton]
 exact h1
end
def tgt (B : Bas) (n : Int) (j : Nat) : List Ent := if j = 4 then (B.ls 4).filter (labB n) else if j = 5 ∨ j = 6 then B.ls j else (B.ls j).filter (itemB n)
structure Prt (B C : Bas) (n : Int) (d : List Nat) : Prop where
 fin : ∀ j ∈ d, C.ls j = tgt B n j
 nil : ∀ j, j < 9 → j ∉ d → C.ls j = [] ∧ C.ad j = none ∧ C.cp j = 0
theorem Prt.step {B C : Bas} {n : Int} {d : List Nat} {k c : Nat} {A : Option Addr} {m : List Ent} (h : Prt B C n d) (hk : k ∉ d) (hm : m = tgt B n k) : Prt B (C.put k m A c) n (k :: d) := by
 constructor
 · intro j hj
   unfold Bas.put
   by_cases e : j = k
   · subst e; simp only [upd_same]; exact hm
   · simp only [upd_other _ _ e]; exact h.fin j ((List.mem_cons.1 hj).resolve_left e)
 · intro j h9 hj
   have e : j ≠ k := fun e => hj (e ▸ List.mem_cons_self ..)
   unfold Bas.put
   simp only [upd_other _ _ e]
   exact h.nil j h9 fun q => hj (List.mem_cons_of_mem _ q)
theorem Prt.only {B C : Bas} {n : Int} {d : List Nat} (h : Prt B C n d) (hd : ∀ j, j < 9 → j ∈ d) : Only B C n :=
 ⟨h.fin 0 (hd 0 (by decide)), h.fin 1 (hd 1 (by decide)), h.fin 2 (hd 2 (by decide)), h.fin 3 (hd 3 (by decide)), h.fin 4 (hd 4 (by decide)), h.fin 5 (hd 5 (by decide)), h.fin 7 (hd 7 (by decide)), h.fin 8 (hd 8 (by decide))⟩
def ownB (B : Bas) : Bas := ⟨fun j => if j = 5 ∨ j = 6 then B.ls j else [], fun j => if j = 5 ∨ j = 6 then B.ad j else none, fun j => if j = 5 ∨ j = 6 then B.cp j else 0⟩
theorem own_part (B : Bas) (n : Int) : Prt B (ownB B) n [5, 6] := by
 constructor
 · intro j hj
   simp only [List.mem_cons, List.not_mem_nil, or_false] at hj
   rcases hj with rfl | rfl <;> rfl
 · intro j _ hj
   simp only [List.mem_cons, List.not_mem_nil, or_false] at hj
   unfold ownB
   simp only [if_neg hj]
   exact ⟨trivial, trivial, trivial⟩
theorem own_at {W : World} {Y : Nat → Prop} {B : Bas} (h : BasAt W Y B) : BasAt W Y (ownB B) := by
 refine ⟨fun i hi => ?_, fun i hi => ?_, fun i hi => ?_⟩ <;> unfold ownB <;> simp only <;> by_cases hij : i = 5 ∨ i = 6
 · rw [if_pos hij, if_pos hij]; exact h.at_ i hi
 · rw [if_neg hij, if_neg hij]; intro i e he; cases he
 · rw [if_pos hij, if_pos hij]; exact h.cap i hi
 · rw [if_neg hij, if_neg hij]; exact ⟨Nat.le_refl _, by unfold maxLen; omega⟩
 · rw [if_pos hij, if_pos hij]; exact h.none_ i hi
 · rw [if_neg hij, if_neg hij]; intro; rfl
end Go.Proofs.YteeifhlhpiimoaaGreatDoor
end
