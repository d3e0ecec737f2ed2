/-
  Contracts of the reference's Digests, value, both. Conditions: bounds; the proof's elements are digests.
-/
import Derived.Test.YtjelniemoambaaaDoorRefG
namespace Go.Proofs.YtjelniemoambaaaDoor
open Go Go.RowKit Go.Shelf

set_option maxHeartbeats 2000000 in
theorem digests_walk (A : Option Addr) (l : List ByteArray) (n cap : Nat) (hn : l.length = n) (h9 : n ≤ 9000000) (w : World) (hA : LAt w w.heap.size A .string l) :
    Calls Tryd.prog 49 #[.slice A n cap] w fun e w' => e = .returned (.bool (allB l)) ∧ w = w' := by
  obtain ⟨R, hR⟩ : ∃ R, allB l = R := ⟨_, rfl⟩
  rw [hR]
  have HR := Lib.hid hR
  have HN := Lib.hid hn
  have HA := Lib.hid hA
  clear hR hn hA
  go_enter Tryd.func49, Tryd.ntmps49
  go_wp2_with fail
  go_loop [3] (fun v3 => ∃ k : Nat, k ≤ n ∧ v3 = .int .i64 k ∧ allB (l.take k) = true) (fun v => n - (intOf v).toNat)
  case atStart => exact ⟨0, by omega, rfl, rfl⟩
  case round =>
    obtain ⟨k, hk, rfl, ht⟩ := hrel
    have HT := Lib.hid ht
    clear ht
    by_cases hlt : k < n
    · have hkl : k < l.length := by rw [HN.out]; exact hlt
      obtain ⟨a, rfl, -, hc⟩ := HA.out.get hkl
      have htk := List.take_succ_eq_append_getElem hkl
      have hmem := List.getElem_mem hkl
      obtain ⟨x, hx⟩ : ∃ x, l[k] = x := ⟨_, rfl⟩
      rw [hx] at hc htk hmem
      have HTK := Lib.hid (And.intro htk hmem)
      have z1 : (0 : Int) ≤ (k : Int) := by omega
      have z2 : (k : Int) < (n : Int) := by omega
      have d1 : decide (k < n) = true := by simp [hlt]
      clear hx htk hmem
      by_cases h32 : x.size = 32
      · have e1 : ((x.size : Int) != 32) = false := by rw [h32]; rfl
        have H32 := Lib.hid h32
        clear h32
        go_wp2_with fail
        exact ⟨⟨k + 1, by omega, rfl, by rw [HTK.out.1]; unfold allB; rw [List.all_append, Bool.and_eq_true]; exact ⟨HT.out, by simp [H32.out]⟩⟩, by simp [intOf]; omega⟩
      · have e1 : ((x.size : Int) != 32) = true := by simp; omega
        have hf : R = false := by
          rw [← HR.out]; unfold allB; rw [List.all_eq_false]; exact ⟨x, HTK.out.2, by simp [h32]⟩
        have HF := Lib.hid hf
        clear hf h32
        go_wp2_with fail
        go_ret
        rw [HF.out]
        exact ⟨rfl, rfl⟩
    · have d1 : decide (k < n) = false := by simp; omega
      have hf : R = true := by
        rw [← HR.out, ← HT.out, List.take_of_length_le (by rw [HN.out]; omega)]
      have HF := Lib.hid hf
      clear hf
      go_wp2_with fail
      go_ret
      rw [HF.out]
      exact ⟨rfl, rfl⟩

/-- What value returns. -/
def ValR (n i : Nat) (s : ByteArray) (p : List ByteArray) (v : ByteArray) (ok : Bool) : Prop :=
  v.size ≤ 32 ∧ match stS n i p with
    | none => ok = false
    | some (ws, rest) => ok = decide (rest = []) ∧ (ok = true → v = ws.foldr joinS (leafS s))
theorem ValR.left {n i : Nat} {s : ByteArray} {q : List ByteArray} {x v : ByteArray} {ok : Bool} (h2 : 2 ≤ n) (hi : i < leftN n) (h : ValR (leftN n) i s q v ok) : ValR n i s (q ++ [x]) (nodeS v x) ok := by
  refine ⟨by rw [nodeS_size]; exact Nat.le_refl _, ?_⟩
  rw [stS_left q x h2 hi]
  have h' := h.2
  cases hs : stS (leftN n) i q with
  | none => rw [hs] at h'; exact h'
  | some y => rw [hs] at h'; exact ⟨h'.1, fun ho => by rw [h'.2 ho]; rfl⟩
theorem ValR.right {n i : Nat} {s : ByteArray} {q : List ByteArray} {x v : ByteArray} {ok : Bool} (h2 : 2 ≤ n) (hi : ¬ i < leftN n) (h : ValR (n - leftN n) (i - leftN n) s q v ok) : ValR n i s (q ++ [x]) (nodeS x v) ok := by
  refine ⟨by rw [nodeS_size]; exact Nat.le_refl _, ?_⟩
  rw [stS_right q x h2 hi]
  have h' := h.2
  cases hs : stS (n - leftN n) (i - leftN n) q with
  | none => rw [hs] at h'; exact h'
  | some y => rw [hs] at h'; exact ⟨h'.1, fun ho => by rw [h'.2 ho]; rfl⟩

set_option maxRecDepth 100000 in
set_option maxHeartbeats 4000000 in
theorem value_walk : ∀ (n i : Nat) (s : ByteArray) (A : Option Addr) (p : List ByteArray) (np cap : Nat), p.length = np → np ≤ cap → cap ≤ maxLen → np ≤ 1000 → i < n → n ≤ 9223372036854775807 → s.size ≤ 100000 → (∀ x ∈ p, x.size = 32) → ∀ w, LAt w w.heap.size A .string p →
    Calls Tryd.prog 50 #[.int .i64 n, .int .i64 i, .string s, .slice A np cap] w fun e w' => (∃ v ok, e = .returned (.tuple #[.string v, .bool ok]) ∧ ValR n i s p v ok) ∧ Below w.heap.size w w' := by
  intro n
  induction n using Nat.strongRecOn with
  | ind n ih =>
    intro i s A p np cap hnp hcap hcm hn1 hi hn hs hp w hA
    rcases Nat.lt_or_ge n 2 with h2 | h2
    · obtain rfl : n = 1 := by omega
      have hv : ∀ ok, ok = decide (p = []) → ValR 1 i s p (leafS s) ok := fun ok ho => ⟨by rw [leafS_size]; exact Nat.le_refl _, by rw [stS_one i p (by omega)]; exact ⟨ho, fun _ => rfl⟩⟩
      have HV := Lib.hid hv
      rcases Nat.eq_zero_or_pos np with h0 | h0
      · subst h0
        have HP := Lib.hid (List.length_eq_zero_iff.1 hnp)
        clear hv hA ih hnp hp
        go_enter Tryd.func50, Tryd.ntmps50
        go_wp2_with fail
        refine (refleaf_walk s (by omega) w).mono ?_
        rintro e w1 ⟨rfl, hb⟩
        go_wp2_with fail
        go_ret2
        exact ⟨⟨leafS s, true, rfl, HV.out _ (by rw [HP.out]; rfl)⟩, hb⟩
      · obtain ⟨m, hm⟩ : ∃ m, np - 1 = m := ⟨_, rfl⟩
        have w1 : IntKind.i64.wrap ((np : Int) - 1) = (m : Int) := by rw [IntKind.wrap_i64]; omega
        have d1 : decide ((m : Int) < 0) = false := by simp
        have HP := Lib.hid (show p ≠ [] from fun e => by rw [e] at hnp; simp at hnp; omega)
        clear hv hA ih hnp hp hm
        go_enter Tryd.func50, Tryd.ntmps50
        go_wp2_with fail
        refine (refleaf_walk s (by omega) w).mono ?_
        rintro e w1 ⟨rfl, hb⟩
        go_wp2_with fail
        go_ret2
        exact ⟨⟨leafS s, false, rfl, HV.out _ (by simp [HP.out])⟩, hb⟩
    · have d0 : ((n : Int) == 1) = false := by simp; omega
      rcases nil_or_snoc p with rfl | ⟨q, x, rfl⟩
      · obtain rfl : np = 0 := hnp.symm
        have HV := Lib.hid (show ValR n i s [] ⟨#[]⟩ false from ⟨by decide, by rw [stS_nil i h2]⟩)
        clear hA ih hp
        go_enter Tryd.func50, Tryd.ntmps50
        go_wp2_with fail
        go_ret2
        exact ⟨⟨⟨#[]⟩, false, rfl, HV.out⟩, Below.refl _ _⟩
      obtain ⟨m, hm⟩ : ∃ m, q.length = m := ⟨_, rfl⟩
      have hnm : np = m + 1 := by rw [← hnp, List.length_append, hm]; rfl
      have hx := hp x (by simp)
      have hq : ∀ y ∈ q, y.size = 32 := fun y hy => hp y (by simp [hy])
      obtain ⟨a, rfl, hab, hac⟩ := hA.get (i := m) (by rw [List.length_append, hm]; simp)
      rw [show (q ++ [x])[m]'(by rw [List.length_append, hm]; simp) = x by subst hm; simp] at hac
      have hAq : LAt w w.heap.size (some a) .string q := by have := hA.take m; rw [show (q ++ [x]).take m = q by subst hm; simp] at this; exact this
      have hL : ∀ v ok, i < leftN n → ValR (leftN n) i s q v ok → ValR n i s (q ++ [x]) (nodeS v x) ok := fun v ok h h' => h'.left h2 h
      have hR : ∀ v ok, ¬ i < leftN n → ValR (n - leftN n) (i - leftN n) s q v ok → ValR n i s (q ++ [x]) (nodeS x v) ok := fun v ok h h' => h'.right h2 h
      have hle := refleft_walk n h2 hn w
      obtain ⟨k0, k1, k2⟩ := leftN_ok h2
      obtain ⟨k, hk⟩ : ∃ k, leftN n = k := ⟨_, rfl⟩
      rw [hk] at hle k0 k1 k2 hL hR
      unfold maxLen at hcm
      have w1 : IntKind.i64.wrap ((np : Int) - 1) = (m : Int) := by rw [IntKind.wrap_i64]; omega
      have y1 : (0 : Int) ≤ (m : Int) := by omega
      have y2 : (m : Int) < (np : Int) := by omega
      have y3 : (m : Int) ≤ (np : Int) := by omega
      have y4 : (m : Int) ≤ (cap : Int) := by omega
      have y5 : (np : Int) ≤ (cap : Int) := by omega
      have d1 : decide ((m : Int) < 0) = false := by simp
      have HLE := Lib.hid hle
      by_cases hik : i < k
      · have hih := ih k (by omega) i s (some a) q m cap hm (by omega) (by unfold maxLen; omega) (by omega) hik (by omega) hs hq w hAq
        have HV := Lib.hid (fun v ok => hL v ok hik)
        have d3 : decide (i < k) = true := by simp [hik]
        have HIH := Lib.hid hih
        have hxs : x.size ≤ 32 := by omega
        have HCX := Lib.hid (show ∀ W, Below w.heap.size w W → W.cell? (a.add m) = some (.string x) from fun W hb => (hb.cell (p := a.add m) (by rw [addr_add_block]; exact hab)).trans hac)
        clear hih hL hR hle hk hm hnm hnp hp hq hA hAq ih hac hx hik
        go_enter Tryd.func50, Tryd.ntmps50
        go_wp2_with fail
        refine HLE.out.mono ?_
        rintro e w' ⟨rfl, rfl⟩
        go_wp2_with fail
        refine HIH.out.mono ?_
        rintro e w1 ⟨⟨v, ok, rfl, hv⟩, hb1⟩
        have hvs := hv.1
        have HVV := Lib.hid hv
        have hc1 := HCX.out w1 hb1
        have HB1 := Lib.hid hb1
        clear hv hb1
        go_wp2_with fail
        refine (refnode_walk v x (by omega) _).mono ?_
        rintro e w2 ⟨rfl, hb2⟩
        have HB2 := Lib.hid (HB1.out.trans (hb2.mono HB1.out.size))
        clear hb2
        go_wp2_with fail
        go_ret2
        exact ⟨⟨nodeS v x, ok, rfl, HV.out _ _ HVV.out⟩, HB2.out⟩
      · have hih := ih (n - k) (by omega) (i - k) s (some a) q m cap hm (by omega) (by unfold maxLen; omega) (by omega) (by omega) (by omega) hs hq w hAq
        have HV := Lib.hid (fun v ok => hR v ok hik)
        obtain ⟨n2, hn2⟩ : ∃ n2, n - k = n2 := ⟨_, rfl⟩
        obtain ⟨i2, hi2⟩ : ∃ i2, i - k = i2 := ⟨_, rfl⟩
        rw [hn2, hi2] at hih HV
        have w2' : (n : Int) - (k : Int) = (n2 : Int) := by omega
        have w3' : (i : Int) - (k : Int) = (i2 : Int) := by omega
        have w2 : IntKind.i64.wrap (n2 : Int) = (n2 : Int) := by rw [IntKind.wrap_i64]; omega
        have w3 : IntKind.i64.wrap (i2 : Int) = (i2 : Int) := by rw [IntKind.wrap_i64]; omega
        have d3 : decide (i < k) = false := by simp; omega
        have HIH := Lib.hid hih
        have hxs : x.size ≤ 32 := by omega
        have HCX := Lib.hid (show ∀ W, Below w.heap.size w W → W.cell? (a.add m) = some (.string x) from fun W hb => (hb.cell (p := a.add m) (by rw [addr_add_block]; exact hab)).trans hac)
        clear hih hL hR hle hk hm hnm hnp hp hq hA hAq ih hac hx hik hn2 hi2
        go_enter Tryd.func50, Tryd.ntmps50
        go_wp2_with fail
        refine HLE.out.mono ?_
        rintro e w' ⟨rfl, rfl⟩
        go_wp2_with fail
        refine HIH.out.mono ?_
        rintro e w1 ⟨⟨v, ok, rfl, hv⟩, hb1⟩
        have hvs := hv.1
        have HVV := Lib.hid hv
        have hc1 := HCX.out w1 hb1
        have HB1 := Lib.hid hb1
        clear hv hb1
        go_wp2_with fail
        refine (refnode_walk x v (by omega) _).mono ?_
        rintro e w2 ⟨rfl, hb2⟩
        have HB2 := Lib.hid (HB1.out.trans (hb2.mono HB1.out.size))
        clear hb2
        go_wp2_with fail
        go_ret2
        exact ⟨⟨nodeS x v, ok, rfl, HV.out _ _ HVV.out⟩, HB2.out⟩

/-- What both returns. -/
def BothR (n m : Nat) (old : ByteArray) (p : List ByteArray) (whole : Bool) (a b : ByteArray) (ok : Bool) : Prop :=
  a.size ≤ 32 ∧ b.size ≤ 32 ∧ match seS n m p with
    | none => ok = false
    | some (ws, rest) => ok = decide (rest.length = if (ws.any (·.2) || !whole) = true then 1 else 0) ∧ (ok = true → a = fstS ws (zS old ws rest whole) ∧ b = ws.foldr joinS (zS old ws rest whole))
theorem BothR.left {n m : Nat} {old : ByteArray} {q : List ByteArray} {whole : Bool} {x a b : ByteArray} {ok : Bool} (hm : 1 ≤ m) (h2 : m < n) (hk : m ≤ leftN n) (h : BothR (leftN n) m old q whole a b ok) : BothR n m old (q ++ [x]) whole a (nodeS b x) ok := by
  obtain ⟨ha, hb, h'⟩ := h
  refine ⟨ha, by rw [nodeS_size]; exact Nat.le_refl _, ?_⟩
  rw [seS_left q x hm h2 hk]
  cases hs : seS (leftN n) m q with
  | none => rw [hs] at h'; exact h'
  | some y =>
    rw [hs] at h'
    obtain ⟨ws, rest⟩ := y
    refine ⟨h'.1, fun ho => ?_⟩
    obtain ⟨h1, h3⟩ := h'.2 ho
    exact ⟨by rw [h1]; rfl, by rw [h3]; rfl⟩
theorem BothR.right {n m : Nat} {old : ByteArray} {q : List ByteArray} {whole : Bool} {x a b : ByteArray} {ok : Bool} (hm : 1 ≤ m) (h2 : m < n) (hk : ¬ m ≤ leftN n) (h : BothR (n - leftN n) (m - leftN n) old q false a b ok) : BothR n m old (q ++ [x]) whole (nodeS x a) (nodeS x b) ok := by
  obtain ⟨ha, hb, h'⟩ := h
  refine ⟨by rw [nodeS_size]; exact Nat.le_refl _, by rw [nodeS_size]; exact Nat.le_refl _, ?_⟩
  rw [seS_right q x hm h2 hk]
  cases hs : seS (n - leftN n) (m - leftN n) q with
  | none => rw [hs] at h'; exact h'
  | some y =>
    rw [hs] at h'
    obtain ⟨ws, rest⟩ := y
    have hz : zS old ((x, true) :: ws) rest whole = zS old ws rest false := by simp [zS]
    refine ⟨by rw [h'.1]; simp, fun ho => ?_⟩
    obtain ⟨h1, h3⟩ := h'.2 ho
    show _ = fstS ((x, true) :: ws) (zS old ((x, true) :: ws) rest whole) ∧ _ = ((x, true) :: ws).foldr joinS (zS old ((x, true) :: ws) rest whole)
    rw [hz]
    exact ⟨by rw [h1]; rfl, by rw [h3]; rfl⟩

set_option maxRecDepth 100000 in
set_option maxHeartbeats 4000000 in
theorem both_one (n : Nat) (old : ByteArray) (A : Option Addr) (p : List ByteArray) (np cap : Nat) (whole : Bool) (hnp : p.length = np) (hn1 : np ≤ 1000) (ho : old.size ≤ 32) (hp : ∀ x ∈ p, x.size = 32) (w : World) (hA : LAt w w.heap.size A .string p) :
    Calls Tryd.prog 52 #[.string old, .int .i64 n, .int .i64 n, .slice A np cap, .bool whole] w fun e w' => (∃ x y ok, e = .returned (.tuple #[.string x, .string y, .bool ok]) ∧ BothR n n old p whole x y ok) ∧ Below w.heap.size w w' := by
  have hse := seS_one (n := n) (m := n) p (Nat.le_refl _)
  have d0 : ((n : Int) == (n : Int)) = true := by simp
  cases whole
  · by_cases h1 : np = 1
    · subst h1
      match p, hnp with
      | [x], _ =>
        obtain ⟨a, rfl, hab, hac⟩ := hA 0 x rfl
        have hac' : w.cell? a = some (.string x) := by rw [show a.add 0 = a by simp [Addr.add]] at hac; exact hac
        have hx := hp x (by simp)
        have HV := Lib.hid (show BothR n n old [x] false x x true from ⟨by omega, by omega, by rw [hse]; exact ⟨rfl, fun _ => ⟨rfl, rfl⟩⟩⟩)
        clear hA hp hse hx
        go_enter Tryd.func52, Tryd.ntmps52
        go_wp2_with fail
        go_region
        all_goals
          go_wp2_with fail
          go_ret3
          exact ⟨⟨x, x, true, rfl, HV.out⟩, (Below.refl _ _).drew⟩
    · have HV := Lib.hid (show BothR n n old p false ⟨#[]⟩ ⟨#[]⟩ false from ⟨by decide, by decide, by rw [hse]; exact ⟨by symm; rw [decide_eq_false_iff_not, hnp]; exact h1, fun h => by cases h⟩⟩)
      have e1 : IntKind.i64.wrap ((np : Int) - 1) = (np : Int) - 1 := by rw [IntKind.wrap_i64]; omega
      have d1 : (((np : Int) - 1) != 0) = true := by simp; omega
      clear hA hp hse hnp
      go_enter Tryd.func52, Tryd.ntmps52
      go_wp2_with fail
      go_ret3
      exact ⟨⟨_, _, false, rfl, HV.out⟩, Below.refl _ _⟩
  · have e1 : IntKind.i64.wrap ((np : Int) - 1) = (np : Int) - 1 := by rw [IntKind.wrap_i64]; omega
    by_cases h0 : np = 0
    · have HV := Lib.hid (show BothR n n old p true old old true from ⟨ho, ho, by rw [hse]; exact ⟨by symm; rw [decide_eq_true_eq, hnp]; exact h0, fun _ => ⟨rfl, rfl⟩⟩⟩)
      have d1 : decide ((np : Int) - 1 < 0) = true := by simp; omega
      have d2 : decide ((np : Int) < 1) = true := by simp; omega
      clear hA hp hse hnp
      go_enter Tryd.func52, Tryd.ntmps52
      go_wp2_with fail
      go_ret3
      exact ⟨⟨old, old, true, rfl, HV.out⟩, Below.refl _ _⟩
    · have HV := Lib.hid (show BothR n n old p true old old false from ⟨ho, ho, by rw [hse]; exact ⟨by symm; rw [decide_eq_false_iff_not, hnp]; exact h0, fun h => by cases h⟩⟩)
      have d1 : decide ((np : Int) - 1 < 0) = false := by simp; omega
      have d2 : decide ((np : Int) < 1) = false := by simp; omega
      clear hA hp hse hnp
      go_enter Tryd.func52, Tryd.ntmps52
      go_wp2_with fail
      go_ret3
      exact ⟨⟨old, old, false, rfl, HV.out⟩, Below.refl _ _⟩

end Go.Proofs.YtjelniemoambaaaDoor
