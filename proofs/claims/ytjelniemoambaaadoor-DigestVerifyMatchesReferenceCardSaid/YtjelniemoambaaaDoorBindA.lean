/-
  Contracts of the binding laws' own functions: way, sides, collide, heads. Conditions: bounds; proofs of the right length.
-/
import Derived.Test.YtjelniemoambaaaDoorLawB
import Derived.Test.YtjelniemoambaaaDoorBindP
namespace Go.Proofs.YtjelniemoambaaaDoor
open Go Go.RowKit Go.Shelf

theorem leafT_eq (s : ByteArray) : (⟨#[0]⟩ : ByteArray) ++ s = leafT s := ba_ext (by rw [ba_append]; rfl)
theorem nodeT_eq (a b : ByteArray) : ((⟨#[1]⟩ : ByteArray) ++ a) ++ b = nodeT a b := ba_ext (by rw [ba_append, ba_append]; rfl)
theorem chainT_eq (a b : ByteArray) : ((⟨#[2]⟩ : ByteArray) ++ a) ++ b = chainT a b := ba_ext (by rw [ba_append, ba_append]; rfl)
theorem OL.lit1 {B : Nat} {e : TypeId} (W : World) (s : ByteArray) (hB : B ≤ W.heap.size) : OL (W.alloc (.cells #[.string s] e)) B e 1 (one .string) (.slice (some ⟨W.heap.size, 0, none⟩) 1 1) [s] :=
  World.ownsRow_lit (base := B) (e := e) (size := 1) W #[.string s] 1 hB (by unfold maxLen; omega) rfl
theorem LAt.cats {w : World} {B : Nat} {A : Option Addr} {l : List ByteArray} (h : LAt w B A .string l) {w' : World} (hb : Below B w w') : ∀ j x, (l.flatMap (one Value.string))[j]? = some x → ∃ a, A = some a ∧ w'.cell? (a.add j) = some x :=
  (h.below hb).cat

/-- What way returns. -/
def WayR (W : World) (t : List ByteArray) (v : ByteArray) (e : Ending) (W' : World) : Prop :=
  (∃ A c, e = .returned (.tuple #[.slice A t.length c, .string v]) ∧ t.length ≤ c ∧ (A = none → c = 0) ∧ LAt W' W'.heap.size A .string t) ∧ Below W.heap.size W W'

set_option maxRecDepth 100000 in
set_option maxHeartbeats 4000000 in
theorem way_one (i : Nat) (s : ByteArray) (A : Option Addr) (cap : Nat) (hs : s.size ≤ 100000) (w : World) (hK : KAt w) :
    Calls Tryd.prog 26 #[.int .i64 (1 : Nat), .int .i64 i, .string s, .slice A 0 cap] w (WayR w [leafT s] (leafS s)) := by
  have HK := Lib.hid hK
  have HT := Lib.hid (leafT_eq s)
  have hadd := fun w => strAdd (P := Tryd.prog) ⟨#[0]⟩ s (by show 1 + _ ≤ _; omega) w
  clear hK
  go_enter Tryd.func26, Tryd.ntmps26
  go_wp2_with fail
  have hb0 : Below w.heap.size w (w.alloc (.cells #[.string (⟨#[0]⟩ ++ s)] 9)) := (Below.refl _ _).alloc (Nat.le_refl _) _
  have hz0 : w.heap.size < (w.alloc (.cells #[.string (⟨#[0]⟩ ++ s)] 9)).heap.size := by simp
  have HB0 := Lib.hid hb0
  have HO := Lib.hid (OL.lit1 (B := w.heap.size) (e := 9) w (⟨#[0]⟩ ++ s) (Nat.le_refl _))
  clear hb0
  refine (leaf_walk s _ (by omega) (HK.out.below HB0.out)).mono ?_
  rintro e w2 ⟨rfl, hb2⟩
  have HB2 := Lib.hid hb2
  clear hb2
  go_wp2_with fail
  go_ret2
  refine ⟨⟨some ⟨w.heap.size, 0, none⟩, 1, rfl, Nat.le_refl _, (fun h => by cases h), ?_⟩, HB0.out.trans (HB2.out.mono HB0.out.size)⟩
  rw [← HT.out]
  exact (HO.out.below HB2.out (Nat.le_refl _)).lat

set_option maxRecDepth 100000 in
set_option maxHeartbeats 8000000 in
theorem way_walk : ∀ (n i : Nat) (s : ByteArray) (A : Option Addr) (p : List ByteArray) (np cap : Nat) (ws : List (ByteArray × Bool)), p.length = np → np ≤ cap → cap ≤ maxLen → np ≤ 1000 → i < n → n ≤ 9223372036854775807 → s.size ≤ 100000 → (∀ x ∈ p, x.size = 32) → stS n i p = some (ws, []) →
    ∀ w, LAt w w.heap.size A .string p → KAt w →
    Calls Tryd.prog 26 #[.int .i64 n, .int .i64 i, .string s, .slice A np cap] w (WayR w (wayT ws s) (ws.foldr joinS (leafS s))) := by
  intro n
  induction n using Nat.strongRecOn with
  | ind n ih =>
    intro i s A p np cap ws hnp hcap hcm hn1 hi hn hs hp hst w hA hK
    rcases Nat.lt_or_ge n 2 with h2 | h2
    · obtain rfl : n = 1 := by omega
      rw [stS_one i p (by omega)] at hst
      cases hst
      obtain rfl : np = 0 := by rw [← hnp]; rfl
      exact way_one i s A cap hs w hK
    · obtain ⟨k0, k1, k2⟩ := leftN_ok h2
      rcases nil_or_snoc p with rfl | ⟨q, x, rfl⟩
      · rw [stS_nil i h2] at hst; cases hst
      obtain ⟨m, hm⟩ : ∃ m, q.length = m := ⟨_, rfl⟩
      have hnm : np = m + 1 := by rw [← hnp, List.length_append, hm]; rfl
      have hx := hp x (by simp)
      have hq : ∀ y ∈ q, y.size = 32 := fun y hy => hp y (by simp [hy])
      obtain ⟨a, rfl, hab, hac⟩ := hA.get (i := m) (by rw [List.length_append, hm]; simp)
      rw [show (q ++ [x])[m]'(by rw [List.length_append, hm]; simp) = x by subst hm; simp] at hac
      have hAq : LAt w w.heap.size (some a) .string q := by have := hA.take m; rw [show (q ++ [x]).take m = q by subst hm; simp] at this; exact this
      obtain ⟨k, hk⟩ : ∃ k, leftN n = k := ⟨_, rfl⟩
      have hl := lawleft_walk n h2 hn w
      rw [hk] at hl
      rw [hk] at k0 k1 k2
      unfold maxLen at hcm
      have w1 : IntKind.i64.wrap ((np : Int) - 1) = (m : Int) := by rw [IntKind.wrap_i64]; omega
      have y1 : (0 : Int) ≤ (m : Int) := by omega
      have y2 : (m : Int) < (np : Int) := by omega
      have y3 : (m : Int) ≤ (np : Int) := by omega
      have y4 : (m : Int) ≤ (cap : Int) := by omega
      have y5 : (np : Int) ≤ (cap : Int) := by omega
      have d1 : decide ((n : Int) ≤ 1) = false := by simp; omega
      have d1' : decide (n ≤ 1) = false := by simp; omega
      have d2 : ((np : Int) == 0) = false := by simp; omega
      by_cases hik : i < k
      · rw [stS_left _ _ h2 (by rw [hk]; exact hik), hk] at hst
        obtain ⟨⟨ws2, r⟩, he, e1⟩ := Option.map_eq_some_iff.1 hst
        cases e1
        have hih := ih k (by omega) i s (some a) q m cap ws2 hm (by omega) (by unfold maxLen; omega) (by omega) hik (by omega) hs hq he w hAq hK
        obtain ⟨z, hz⟩ : ∃ z, leafS s = z := ⟨_, rfl⟩
        have hzs : z.size = 32 := by rw [← hz]; exact leafS_size _
        obtain ⟨T, hT⟩ : ∃ T, wayT ws2 s = T := ⟨_, rfl⟩
        have hTl : T.length = ws2.length + 1 := by rw [← hT]; exact wayT_length _ _
        have hTm : ws2.length ≤ m := by have := st_len2 _ _ _ _ _ he; omega
        rw [hz] at hih ⊢
        obtain ⟨v, hv⟩ : ∃ v, ws2.foldr joinS z = v := ⟨_, rfl⟩
        have hvs : v.size = 32 := by rw [← hv]; exact foldr_join_size hzs _
        rw [show wayT ((x, false) :: ws2) s = nodeT v x :: T by rw [← hT, ← hv, ← hz]; rfl, show ((x, false) :: ws2).foldr joinS z = nodeS v x by rw [← hv]; rfl]
        rw [hT, hv] at hih
        obtain ⟨tl, htl⟩ : ∃ tl, T.length = tl := ⟨_, rfl⟩
        unfold WayR at hih
        rw [htl] at hih hTl
        have htle : tl ≤ m + 1 := by omega
        have HL := Lib.hid hl
        have HIH := Lib.hid hih
        have HTL := Lib.hid htl
        have HNT := Lib.hid (nodeT_eq v x)
        have HK := Lib.hid hK
        have hadd1 := fun w => strAdd (P := Tryd.prog) ⟨#[1]⟩ v (by show 1 + _ ≤ _; omega) w
        have hadd2 := fun w => strAdd (P := Tryd.prog) (⟨#[1]⟩ ++ v) x (by rw [ba_size_append]; show 1 + _ + _ ≤ _; omega) w
        have d3 : decide (i < k) = true := by simp [hik]
        have d3' : decide ((i : Int) < (k : Int)) = true := by simp; omega
        clear hl hih hst he hT hTl hTm hv hz htl hm hk hnp hp hq hA hAq ih hK hik hnm
        go_enter Tryd.func26, Tryd.ntmps26
        go_wp2_with fail
        refine HL.out.mono ?_
        rintro e w' ⟨rfl, rfl⟩
        go_wp2_with fail
        refine HIH.out.mono ?_
        rintro e w2 ⟨⟨A2, c2, rfl, hc2, hcn, hA2⟩, hb2⟩
        have hz2 := hb2.size
        have HA2 := Lib.hid hA2
        have HB2 := Lib.hid hb2
        clear hA2 hb2
        go_wp2_with (at_builtin; refine wpList_cat rfl (.tmp 57) (.tmp 58) 22 rfl elemStr (fun _ => rfl) _ [(⟨#[1]⟩ : ByteArray) ++ v ++ x] rfl (OL.lit1 (B := w.heap.size) (e := 9) w2 _ (by omega)) A2 T tl c2 HTL.out rfl hcn (HA2.out.cats ((Below.refl _ _).alloc (Nat.le_refl _) _)) (fun x _ u hu => by rw [List.mem_singleton.1 hu]; rfl) (by unfold maxLen; simp; omega) (by simp; omega) (by simp; omega) ?_; intro v3 w3 h3 hg3 hb3)
        have hz3 := hb3.size
        simp at hz3
        obtain ⟨g4, c4, rfl, hg4, hg4l, hc4, -⟩ := h3.form (by simp)
        have HB3 := Lib.hid ((HB2.out.alloc hz2 (.cells #[.string (⟨#[1]⟩ ++ v ++ x)] 9)).trans hb3)
        have H3 := Lib.hid h3
        clear h3 hg3 hb3
        refine (node_walk v x _ (by omega) (HK.out.below HB3.out)).mono ?_
        rintro e w4 ⟨rfl, hb4⟩
        have HB4 := Lib.hid hb4
        clear hb4
        go_wp2_with fail
        go_ret2
        refine ⟨⟨some ⟨g4, 0, none⟩, c4, rfl, by simpa using hc4, (fun h => by cases h), ?_⟩, HB3.out.trans (HB4.out.mono HB3.out.size)⟩
        have h := (H3.out.below HB4.out (Nat.le_refl _)).lat
        rw [HNT.out] at h
        exact h
      · rw [stS_right _ _ h2 (by rw [hk]; exact hik), hk] at hst
        obtain ⟨⟨ws2, r⟩, he, e1⟩ := Option.map_eq_some_iff.1 hst
        cases e1
        have hih := ih (n - k) (by omega) (i - k) s (some a) q m cap ws2 hm (by omega) (by unfold maxLen; omega) (by omega) (by omega) (by omega) hs hq he w hAq hK
        obtain ⟨n2, hn2⟩ : ∃ n2, n - k = n2 := ⟨_, rfl⟩
        obtain ⟨i2, hi2⟩ : ∃ i2, i - k = i2 := ⟨_, rfl⟩
        rw [hn2, hi2] at hih
        have w2' : (n : Int) - (k : Int) = (n2 : Int) := by omega
        have w3' : (i : Int) - (k : Int) = (i2 : Int) := by omega
        have w2 : IntKind.i64.wrap (n2 : Int) = (n2 : Int) := by rw [IntKind.wrap_i64]; omega
        have w3 : IntKind.i64.wrap (i2 : Int) = (i2 : Int) := by rw [IntKind.wrap_i64]; omega
        obtain ⟨z, hz⟩ : ∃ z, leafS s = z := ⟨_, rfl⟩
        have hzs : z.size = 32 := by rw [← hz]; exact leafS_size _
        obtain ⟨T, hT⟩ : ∃ T, wayT ws2 s = T := ⟨_, rfl⟩
        have hTl : T.length = ws2.length + 1 := by rw [← hT]; exact wayT_length _ _
        have hTm : ws2.length ≤ m := by have := st_len2 _ _ _ _ _ he; omega
        rw [hz] at hih ⊢
        obtain ⟨v, hv⟩ : ∃ v, ws2.foldr joinS z = v := ⟨_, rfl⟩
        have hvs : v.size = 32 := by rw [← hv]; exact foldr_join_size hzs _
        rw [show wayT ((x, true) :: ws2) s = nodeT x v :: T by rw [← hT, ← hv, ← hz]; rfl, show ((x, true) :: ws2).foldr joinS z = nodeS x v by rw [← hv]; rfl]
        rw [hT, hv] at hih
        obtain ⟨tl, htl⟩ : ∃ tl, T.length = tl := ⟨_, rfl⟩
        unfold WayR at hih
        rw [htl] at hih hTl
        have htle : tl ≤ m + 1 := by omega
        have HL := Lib.hid hl
        have HIH := Lib.hid hih
        have HTL := Lib.hid htl
        have HNT := Lib.hid (nodeT_eq x v)
        have HK := Lib.hid hK
        have hadd1 := fun w => strAdd (P := Tryd.prog) ⟨#[1]⟩ x (by show 1 + _ ≤ _; omega) w
        have hadd2 := fun w => strAdd (P := Tryd.prog) (⟨#[1]⟩ ++ x) v (by rw [ba_size_append]; show 1 + _ + _ ≤ _; omega) w
        have d3 : decide (i < k) = false := by simp; omega
        have d3' : decide ((i : Int) < (k : Int)) = false := by simp; omega
        clear hl hih hst he hT hTl hTm hv hz htl hm hk hnp hp hq hA hAq ih hK hik hnm hn2 hi2
        go_enter Tryd.func26, Tryd.ntmps26
        go_wp2_with fail
        refine HL.out.mono ?_
        rintro e w' ⟨rfl, rfl⟩
        go_wp2_with fail
        refine HIH.out.mono ?_
        rintro e w2 ⟨⟨A2, c2, rfl, hc2, hcn, hA2⟩, hb2⟩
        have hz2 := hb2.size
        have HA2 := Lib.hid hA2
        have HB2 := Lib.hid hb2
        clear hA2 hb2
        go_wp2_with (at_builtin; refine wpList_cat rfl (.tmp 79) (.tmp 80) 22 rfl elemStr (fun _ => rfl) _ [(⟨#[1]⟩ : ByteArray) ++ x ++ v] rfl (OL.lit1 (B := w.heap.size) (e := 9) w2 _ (by omega)) A2 T tl c2 HTL.out rfl hcn (HA2.out.cats ((Below.refl _ _).alloc (Nat.le_refl _) _)) (fun x _ u hu => by rw [List.mem_singleton.1 hu]; rfl) (by unfold maxLen; simp; omega) (by simp; omega) (by simp; omega) ?_; intro v3 w3 h3 hg3 hb3)
        have hz3 := hb3.size
        simp at hz3
        obtain ⟨g4, c4, rfl, hg4, hg4l, hc4, -⟩ := h3.form (by simp)
        have HB3 := Lib.hid ((HB2.out.alloc hz2 (.cells #[.string (⟨#[1]⟩ ++ x ++ v)] 9)).trans hb3)
        have H3 := Lib.hid h3
        clear h3 hg3 hb3
        refine (node_walk x v _ (by omega) (HK.out.below HB3.out)).mono ?_
        rintro e w4 ⟨rfl, hb4⟩
        have HB4 := Lib.hid hb4
        clear hb4
        go_wp2_with fail
        go_ret2
        refine ⟨⟨some ⟨g4, 0, none⟩, c4, rfl, by simpa using hc4, (fun h => by cases h), ?_⟩, HB3.out.trans (HB4.out.mono HB3.out.size)⟩
        have h := (H3.out.below HB4.out (Nat.le_refl _)).lat
        rw [HNT.out] at h
        exact h

/-- The value at the foot of the steps that sides goes down. -/
def zS (old : ByteArray) (ws : List (ByteArray × Bool)) (rest : List ByteArray) (whole : Bool) : ByteArray := if (ws.any (·.2) || !whole) = true then rest.headD old else old
theorem zS_size {old : ByteArray} {ws : List (ByteArray × Bool)} {rest : List ByteArray} {whole : Bool} (ho : old.size = 32) (hr : ∀ x ∈ rest, x.size = 32) : (zS old ws rest whole).size = 32 := by
  unfold zS
  split
  · cases rest with
    | nil => exact ho
    | cons x r => exact hr x (by simp)
  · exact ho
set_option maxRecDepth 100000 in
set_option maxHeartbeats 4000000 in
theorem sides_one (n i : Nat) (old : ByteArray) (A : Option Addr) (p : List ByteArray) (np cap : Nat) (whole : Bool) (hi : n ≤ i) (hnp : p.length = np) (hrl : np = if (!whole) = true then 1 else 0) (w : World) (hA : LAt w w.heap.size A .string p) :
    Calls Tryd.prog 28 #[.string old, .int .i64 i, .int .i64 n, .slice A np cap, .bool whole] w (WayR w [] (zS old [] p whole)) := by
  have d1 : decide ((n : Int) ≤ (i : Int)) = true := by simp; omega
  have d1' : decide (n ≤ i) = true := by simp; omega
  cases whole
  · obtain rfl : np = 1 := hrl
    match p, hnp with
    | [x], _ =>
      obtain ⟨a, rfl, hab, hac⟩ := hA 0 x rfl
      rw [show zS old [] [x] false = x by rfl]
      have ha0 : a.add 0 = a := by simp [Addr.add]
      have hac' : w.cell? a = some (.string x) := by rw [← ha0]; exact hac
      clear hA hi ha0
      go_enter Tryd.func28, Tryd.ntmps28
      go_wp2_with fail
      go_region
      all_goals
        go_wp2_with fail
        go_ret2
        exact ⟨⟨none, 0, rfl, by simp, fun _ => rfl, LAt.nil⟩, (Below.refl _ _).drew⟩
  · obtain rfl : np = 0 := hrl
    rw [show zS old [] p true = old by rfl]
    clear hA hi hnp
    go_enter Tryd.func28, Tryd.ntmps28
    go_wp2_with fail
    go_ret2
    exact ⟨⟨none, 0, rfl, by simp, fun _ => rfl, LAt.nil⟩, Below.refl _ _⟩

set_option maxRecDepth 100000 in
set_option maxHeartbeats 8000000 in
theorem sides_walk : ∀ (n i : Nat) (old : ByteArray) (A : Option Addr) (p : List ByteArray) (np cap : Nat) (ws : List (ByteArray × Bool)) (rest : List ByteArray) (whole : Bool), 1 ≤ i → p.length = np → np ≤ cap → cap ≤ maxLen → np ≤ 1000 → n ≤ 9223372036854775807 → old.size = 32 → (∀ x ∈ p, x.size = 32) → seS n i p = some (ws, rest) →
    rest.length = (if (ws.any (·.2) || !whole) = true then 1 else 0) → ∀ w, LAt w w.heap.size A .string p → KAt w →
    Calls Tryd.prog 28 #[.string old, .int .i64 i, .int .i64 n, .slice A np cap, .bool whole] w (WayR w (stepsT ws (zS old ws rest whole)) (ws.foldr joinS (zS old ws rest whole))) := by
  intro n
  induction n using Nat.strongRecOn with
  | ind n ih =>
    intro i old A p np cap ws rest whole hm1 hnp hcap hcm hn1 hn hos hp hst hrl w hA hK
    rcases Nat.lt_or_ge i n with h2 | h2
    · obtain ⟨k0, k1, k2⟩ := leftN_ok (n := n) (by omega)
      rcases nil_or_snoc p with rfl | ⟨q, x, rfl⟩
      · rw [seS_nil h2] at hst; cases hst
      obtain ⟨m, hm⟩ : ∃ m, q.length = m := ⟨_, rfl⟩
      have hnm : np = m + 1 := by rw [← hnp, List.length_append, hm]; rfl
      have hx := hp x (by simp)
      have hq : ∀ y ∈ q, y.size = 32 := fun y hy => hp y (by simp [hy])
      obtain ⟨a, rfl, hab, hac⟩ := hA.get (i := m) (by rw [List.length_append, hm]; simp)
      rw [show (q ++ [x])[m]'(by rw [List.length_append, hm]; simp) = x by subst hm; simp] at hac
      have hAq : LAt w w.heap.size (some a) .string q := by have := hA.take m; rw [show (q ++ [x]).take m = q by subst hm; simp] at this; exact this
      obtain ⟨k, hk⟩ : ∃ k, leftN n = k := ⟨_, rfl⟩
      have hl := lawleft_walk n (by omega) hn w
      rw [hk] at hl
      rw [hk] at k0 k1 k2
      unfold maxLen at hcm
      have w1 : IntKind.i64.wrap ((np : Int) - 1) = (m : Int) := by rw [IntKind.wrap_i64]; omega
      have y1 : (0 : Int) ≤ (m : Int) := by omega
      have y2 : (m : Int) < (np : Int) := by omega
      have y3 : (m : Int) ≤ (np : Int) := by omega
      have y4 : (m : Int) ≤ (cap : Int) := by omega
      have y5 : (np : Int) ≤ (cap : Int) := by omega
      have d1 : decide ((n : Int) ≤ (i : Int)) = false := by simp; omega
      have d1' : decide (n ≤ i) = false := by simp; omega
      have d2 : ((np : Int) == 0) = false := by simp; omega
      by_cases hik : i ≤ k
      · rw [seS_left _ _ hm1 h2 (by rw [hk]; exact hik), hk] at hst
        obtain ⟨⟨ws2, r2⟩, he, e1⟩ := Option.map_eq_some_iff.1 hst
        cases e1
        have hih := ih k (by omega) i old (some a) q m cap ws2 r2 whole hm1 hm (by omega) (by unfold maxLen; omega) (by omega) (by omega) hos hq he hrl w hAq hK
        rw [show zS old ((x, false) :: ws2) r2 whole = zS old ws2 r2 whole from rfl]
        obtain ⟨z, hz⟩ : ∃ z, zS old ws2 r2 whole = z := ⟨_, rfl⟩
        have hzs : z.size = 32 := by rw [← hz]; exact zS_size hos (se_size _ _ _ _ _ (by omega) hq he).2
        rw [hz] at hih ⊢
        obtain ⟨T, hT⟩ : ∃ T, stepsT ws2 z = T := ⟨_, rfl⟩
        have hTl : T.length = ws2.length := by rw [← hT]; exact stepsT_length _ _
        have hTm : ws2.length ≤ m := by have := se_len2 _ _ _ _ _ (by omega) he; omega
        obtain ⟨v, hv⟩ : ∃ v, ws2.foldr joinS z = v := ⟨_, rfl⟩
        have hvs : v.size = 32 := by rw [← hv]; exact foldr_join_size hzs _
        rw [show stepsT ((x, false) :: ws2) z = nodeT v x :: T by rw [← hT, ← hv]; rfl, show ((x, false) :: ws2).foldr joinS z = nodeS v x by rw [← hv]; rfl]
        rw [hT, hv] at hih
        obtain ⟨tl, htl⟩ : ∃ tl, T.length = tl := ⟨_, rfl⟩
        unfold WayR at hih
        rw [htl] at hih hTl
        have htle : tl ≤ m + 1 := by omega
        have HL := Lib.hid hl
        have HIH := Lib.hid hih
        have HTL := Lib.hid htl
        have HNT := Lib.hid (nodeT_eq v x)
        have HK := Lib.hid hK
        have hadd1 := fun w => strAdd (P := Tryd.prog) ⟨#[1]⟩ v (by show 1 + _ ≤ _; omega) w
        have hadd2 := fun w => strAdd (P := Tryd.prog) (⟨#[1]⟩ ++ v) x (by rw [ba_size_append]; show 1 + _ + _ ≤ _; omega) w
        have d3 : decide (i ≤ k) = true := by simp [hik]
        have d3' : decide ((i : Int) ≤ (k : Int)) = true := by simp; omega
        clear hl hih hst he hT hTl hTm hv hz htl hm hk hnp hp hq hA hAq ih hK hik hnm hrl
        go_enter Tryd.func28, Tryd.ntmps28
        go_wp2_with fail
        refine HL.out.mono ?_
        rintro e w' ⟨rfl, rfl⟩
        go_wp2_with fail
        refine HIH.out.mono ?_
        rintro e w2 ⟨⟨A2, c2, rfl, hc2, hcn, hA2⟩, hb2⟩
        have hz2 := hb2.size
        have HA2 := Lib.hid hA2
        have HB2 := Lib.hid hb2
        clear hA2 hb2
        go_wp2_with (at_builtin; refine wpList_cat rfl (.tmp 66) (.tmp 67) 22 rfl elemStr (fun _ => rfl) _ [(⟨#[1]⟩ : ByteArray) ++ v ++ x] rfl (OL.lit1 (B := w.heap.size) (e := 9) w2 _ (by omega)) A2 T tl c2 HTL.out rfl hcn (HA2.out.cats ((Below.refl _ _).alloc (Nat.le_refl _) _)) (fun x _ u hu => by rw [List.mem_singleton.1 hu]; rfl) (by unfold maxLen; simp; omega) (by simp; omega) (by simp; omega) ?_; intro v3 w3 h3 hg3 hb3)
        have hz3 := hb3.size
        simp at hz3
        obtain ⟨g4, c4, rfl, hg4, hg4l, hc4, -⟩ := h3.form (by simp)
        have HB3 := Lib.hid ((HB2.out.alloc hz2 (.cells #[.string (⟨#[1]⟩ ++ v ++ x)] 9)).trans hb3)
        have H3 := Lib.hid h3
        clear h3 hg3 hb3
        refine (node_walk v x _ (by omega) (HK.out.below HB3.out)).mono ?_
        rintro e w4 ⟨rfl, hb4⟩
        have HB4 := Lib.hid hb4
        clear hb4
        go_wp2_with fail
        go_ret2
        refine ⟨⟨some ⟨g4, 0, none⟩, c4, rfl, by simpa using hc4, (fun h => by cases h), ?_⟩, HB3.out.trans (HB4.out.mono HB3.out.size)⟩
        have h := (H3.out.below HB4.out (Nat.le_refl _)).lat
        rw [HNT.out] at h
        exact h
      · rw [seS_right _ _ hm1 h2 (by rw [hk]; exact hik), hk] at hst
        obtain ⟨⟨ws2, r2⟩, he, e1⟩ := Option.map_eq_some_iff.1 hst
        cases e1
        have hih := ih (n - k) (by omega) (i - k) old (some a) q m cap ws2 r2 false (by omega) hm (by omega) (by unfold maxLen; omega) (by omega) (by omega) hos hq he (by simpa using hrl) w hAq hK
        obtain ⟨n2, hn2⟩ : ∃ n2, n - k = n2 := ⟨_, rfl⟩
        obtain ⟨i2, hi2⟩ : ∃ i2, i - k = i2 := ⟨_, rfl⟩
        rw [hn2, hi2] at hih
        have w2' : (n : Int) - (k : Int) = (n2 : Int) := by omega
        have w3' : (i : Int) - (k : Int) = (i2 : Int) := by omega
        have w2 : IntKind.i64.wrap (n2 : Int) = (n2 : Int) := by rw [IntKind.wrap_i64]; omega
        have w3 : IntKind.i64.wrap (i2 : Int) = (i2 : Int) := by rw [IntKind.wrap_i64]; omega
        rw [show zS old ((x, true) :: ws2) r2 whole = zS old ws2 r2 false by simp [zS]]
        obtain ⟨z, hz⟩ : ∃ z, zS old ws2 r2 false = z := ⟨_, rfl⟩
        have hzs : z.size = 32 := by rw [← hz]; exact zS_size hos (se_size _ _ _ _ _ (by omega) hq he).2
        rw [hz] at hih ⊢
        obtain ⟨T, hT⟩ : ∃ T, stepsT ws2 z = T := ⟨_, rfl⟩
        have hTl : T.length = ws2.length := by rw [← hT]; exact stepsT_length _ _
        have hTm : ws2.length ≤ m := by have := se_len2 _ _ _ _ _ (by omega) he; omega
        obtain ⟨v, hv⟩ : ∃ v, ws2.foldr joinS z = v := ⟨_, rfl⟩
        have hvs : v.size = 32 := by rw [← hv]; exact foldr_join_size hzs _
        rw [show stepsT ((x, true) :: ws2) z = nodeT x v :: T by rw [← hT, ← hv]; rfl, show ((x, true) :: ws2).foldr joinS z = nodeS x v by rw [← hv]; rfl]
        rw [hT, hv] at hih
        obtain ⟨tl, htl⟩ : ∃ tl, T.length = tl := ⟨_, rfl⟩
        unfold WayR at hih
        rw [htl] at hih hTl
        have htle : tl ≤ m + 1 := by omega
        have HL := Lib.hid hl
        have HIH := Lib.hid hih
        have HTL := Lib.hid htl
        have HNT := Lib.hid (nodeT_eq x v)
        have HK := Lib.hid hK
        have hadd1 := fun w => strAdd (P := Tryd.prog) ⟨#[1]⟩ x (by show 1 + _ ≤ _; omega) w
        have hadd2 := fun w => strAdd (P := Tryd.prog) (⟨#[1]⟩ ++ x) v (by rw [ba_size_append]; show 1 + _ + _ ≤ _; omega) w
        have d3 : decide (i ≤ k) = false := by simp; omega
        have d3' : decide ((i : Int) ≤ (k : Int)) = false := by simp; omega
        clear hl hih hst he hT hTl hTm hv hz htl hm hk hnp hp hq hA hAq ih hK hik hnm hn2 hi2 hrl
        go_enter Tryd.func28, Tryd.ntmps28
        go_wp2_with fail
        refine HL.out.mono ?_
        rintro e w' ⟨rfl, rfl⟩
        go_wp2_with fail
        refine HIH.out.mono ?_
        rintro e w2 ⟨⟨A2, c2, rfl, hc2, hcn, hA2⟩, hb2⟩
        have hz2 := hb2.size
        have HA2 := Lib.hid hA2
        have HB2 := Lib.hid hb2
        clear hA2 hb2
        go_wp2_with (at_builtin; refine wpList_cat rfl (.tmp 88) (.tmp 89) 22 rfl elemStr (fun _ => rfl) _ [(⟨#[1]⟩ : ByteArray) ++ x ++ v] rfl (OL.lit1 (B := w.heap.size) (e := 9) w2 _ (by omega)) A2 T tl c2 HTL.out rfl hcn (HA2.out.cats ((Below.refl _ _).alloc (Nat.le_refl _) _)) (fun x _ u hu => by rw [List.mem_singleton.1 hu]; rfl) (by unfold maxLen; simp; omega) (by simp; omega) (by simp; omega) ?_; intro v3 w3 h3 hg3 hb3)
        have hz3 := hb3.size
        simp at hz3
        obtain ⟨g4, c4, rfl, hg4, hg4l, hc4, -⟩ := h3.form (by simp)
        have HB3 := Lib.hid ((HB2.out.alloc hz2 (.cells #[.string (⟨#[1]⟩ ++ x ++ v)] 9)).trans hb3)
        have H3 := Lib.hid h3
        clear h3 hg3 hb3
        refine (node_walk x v _ (by omega) (HK.out.below HB3.out)).mono ?_
        rintro e w4 ⟨rfl, hb4⟩
        have HB4 := Lib.hid hb4
        clear hb4
        go_wp2_with fail
        go_ret2
        refine ⟨⟨some ⟨g4, 0, none⟩, c4, rfl, by simpa using hc4, (fun h => by cases h), ?_⟩, HB3.out.trans (HB4.out.mono HB3.out.size)⟩
        have h := (H3.out.below HB4.out (Nat.le_refl _)).lat
        rw [HNT.out] at h
        exact h
    · rw [seS_one p h2] at hst
      cases hst
      exact sides_one n i old A p np cap whole h2 hnp (by rw [← hnp]; simpa using hrl) w hA

end Go.Proofs.YtjelniemoambaaaDoor
