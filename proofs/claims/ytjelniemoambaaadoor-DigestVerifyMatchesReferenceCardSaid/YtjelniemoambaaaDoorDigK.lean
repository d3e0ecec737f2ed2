/-
  Contracts of slices.Reverse, of package digest's Proof and Extension. Conditions: each contract's own.
-/
import Derived.Test.YtjelniemoambaaaDoorTree2
import Derived.WalkMore
import Derived.Deep.LoopGhost
namespace Go.Proofs.YtjelniemoambaaaDoor
open Go Go.RowKit Go.Shelf

theorem own_setCells {B : Nat} {e : TypeId} {size g n cap : Nat} (vs : List Value) : ∀ {w : World} {xs : List Value} (o : Nat), w.ownsRow B e size (.slice (some ⟨g, 0, none⟩) n cap) n xs → o + vs.length ≤ xs.length →
    (w.setCells g o vs).ownsRow B e size (.slice (some ⟨g, 0, none⟩) n cap) n (xs.take o ++ vs ++ xs.drop (o + vs.length)) := by
  induction vs with
  | nil => intro w xs o h _; rw [World.setCells]; simpa using h
  | cons v vs ih =>
    intro w xs o h hl
    simp only [List.length_cons] at hl
    have h1 := (h.stored o v).1
    have h2 := ih (o + 1) h1 (by rw [List.length_set]; omega)
    rw [World.setCells]
    have ho : o < (xs.set o v).length := by rw [List.length_set]; omega
    rw [List.take_succ_eq_append_getElem ho, List.getElem_set_self, List.take_set_of_le (Nat.le_refl _), List.drop_set_of_lt (by omega)] at h2
    rw [List.length_cons, show o + (vs.length + 1) = o + 1 + vs.length by omega]
    simpa using h2

theorem reverse_walk (A : Option Addr) (cap : Nat) (l : List ByteArray) (hl : l.length ≤ 1000000) (B : Nat) (w : World) (h : StrL w B (.slice A l.length cap) l) (hB : B ≤ w.heap.size) :
    Calls Tryd.prog 41 #[.slice A l.length cap] w fun e w' => e = .returned (.tuple #[]) ∧ StrL w' B (.slice A l.length cap) l.reverse ∧ Below B w w' := by
  rcases Nat.eq_zero_or_pos l.length with h0 | h0
  · obtain rfl := List.length_eq_zero_iff.1 h0
    refine (Tryd.slices_Reverse_string_empty A cap w).mono ?_
    rintro e w' ⟨rfl, rfl⟩
    exact ⟨rfl, h, Below.refl _ _⟩
  · obtain ⟨g, c, he, hg, hgl, hc, hcm⟩ := h.form h0
    cases he
    refine (Tryd.slices_Reverse_string_cells g 0 l.length cap (fun i => l.getD i ⟨#[]⟩) w (by omega) (fun i hi => ?_) (fun j hj => by rw [Nat.zero_add]; exact h.free j)).mono ?_
    · rw [Nat.zero_add, h.get hi, List.getD_eq_getElem?_getD, List.getElem?_eq_getElem hi]; rfl
    · rintro e w' ⟨rfl, q, rfl⟩
      have hs : (Lib.strsOf (fun i => l.getD i ⟨#[]⟩) l.length).reverse.map encStr = l.reverse.map Value.string := by
        unfold Lib.strsOf
        rw [← List.map_reverse, List.map_map, List.map_reverse, List.map_reverse]
        congr 1
        apply List.ext_getElem?
        intro i
        rw [List.getElem?_map, List.getElem?_map]
        rcases Nat.lt_or_ge i l.length with hi | hi
        · rw [List.getElem?_range hi, List.getElem?_eq_getElem hi]
          simp [List.getElem?_eq_getElem hi]
        · rw [List.getElem?_eq_none (by simpa using hi), List.getElem?_eq_none hi]; rfl
      rw [hs]
      refine ⟨rfl, ?_, Below.setCells hg _ _ (Below.drewN' (Below.refl _ _) q)⟩
      have h2 := own_setCells (l.reverse.map Value.string) (w := w.drewN q) 0 (h.drewN q) (by rw [flatMap_one]; simp)
      unfold StrL OL
      rw [List.length_reverse, flatMap_one]
      have h3 : (l.flatMap (one Value.string)).drop (0 + (l.reverse.map Value.string).length) = [] := by rw [flatMap_one]; simp
      rw [h3] at h2
      simpa using h2

def slLen (v : Value) : Nat := match v with | .slice _ n _ => n | _ => 0
set_option maxHeartbeats 2000000 in
theorem proof_no (A : Option Addr) (l : List ByteArray) (cap : Nat) (i : Int) (h : i < 0 ∨ (l.length : Int) ≤ i) (w : World) :
    Calls Tryd.prog 14 #[.slice A l.length cap, .int .i64 i] w fun e w' => e = .returned (.tuple #[.slice none 0 0, .int .i64 2]) ∧ w = w' := by
  rcases h with h | h
  · go_enter Tryd.func14, Tryd.ntmps14
    go_wp2_with fail
    go_step3
    go_wp2_with fail
    try rw [Exit.noGoto_ret]
    go_ret2
    exact ⟨rfl, rfl⟩
  · have h' : decide (i < 0) = false := by simp; omega
    go_enter Tryd.func14, Tryd.ntmps14
    go_wp2_with fail
    go_step3
    go_wp2_with fail
    try rw [Exit.noGoto_ret]
    go_ret2
    exact ⟨rfl, rfl⟩

set_option maxRecDepth 100000 in
set_option maxHeartbeats 4000000 in
theorem proof_yes (A : Option Addr) (l : List ByteArray) (cap i : Nat) (h : i < l.length) (hl : l.length ≤ 1000) (hc : l.length ≤ cap) (hcm : cap ≤ maxLen) (hs : ∀ s ∈ l, s.size ≤ 100000) (w : World) (hA : LAt w w.heap.size A .string l) (hK : KAt w) :
    Calls Tryd.prog 14 #[.slice A l.length cap, .int .i64 i] w fun e w' => (∃ v, e = .returned (.tuple #[v, .int .i64 0]) ∧ StrL w' w.heap.size v (proofS l i)) ∧ Below w.heap.size w w' := by
  have HS := Lib.hid hs
  have HA := Lib.hid hA
  have HK := Lib.hid hK
  have y1 : (0 : Int) ≤ (i : Int) := by omega
  have y2 : (i : Int) < (l.length : Int) := by omega
  unfold maxLen at hcm
  have q1 : decide ((i : Int) < 0) = false := by simp
  have q2 : decide (l.length ≤ i) = false := by simp; omega
  clear hs hA hK
  go_enter Tryd.func14, Tryd.ntmps14
  go_wp2_with fail
  go_step3
  go_wp2_with fail
  go_step3
  go_wp2_with fail
  go_loopw [0, 1, 6] (fun v0 v1 v6 wr => ∃ (A' : Option Addr) (l' : List ByteArray) (n' c' i' : Nat) (out : List ByteArray), l'.length = n' ∧ v0 = .slice A' n' c' ∧ n' ≤ c' ∧ c' ≤ cap ∧ v1 = .int .i64 i' ∧ i' < n' ∧ n' ≤ l.length ∧ (∀ s ∈ l', s ∈ l) ∧ LAt wr w.heap.size A' .string l' ∧ proofS l i = proofS l' i' ++ out.reverse ∧ out.length + n' ≤ l.length ∧ StrL wr w.heap.size v6 out ∧ Below w.heap.size w wr) (fun v _ _ _ => slLen v)
  case atStart => exact ⟨A, l, l.length, cap, i, [], rfl, rfl, hc, Nat.le_refl _, rfl, h, Nat.le_refl _, fun _ h => h, HA.out, by simp, by simp, OL.nil, Below.refl _ _⟩
  case round =>
    obtain ⟨A', l', n', c', i', out, hn, rfl, h1, h2, rfl, h3, h4, hmem, hA, hpf, hol, ho, hB⟩ := hrel
    have HN := Lib.hid hn
    have HM := Lib.hid hmem
    have HP := Lib.hid hpf
    have HB := Lib.hid hB
    have HKW := Lib.hid (HK.out.below hB)
    have hbs := hB.size
    clear hn hmem hpf hB HA
    by_cases h5 : n' = 1
    · subst h5
      obtain ⟨A6, c6, rfl, -, -⟩ := ho.slice
      have hfin : proofS l i = out.reverse := by rw [HP.out, proofS_one (by have := HN.out; omega)]; rfl
      have HFIN := Lib.hid hfin
      clear hfin hA
      go_wp2_with (go_at_call 41; refine (reverse_walk A6 c6 out (by omega) w.heap.size _ ho hbs).mono ?_; rintro e w2 ⟨rfl, hr, hb2⟩)
      try rw [Exit.noGoto_ret]
      go_ret2
      exact ⟨⟨_, rfl, by rw [HFIN.out]; exact hr⟩, HB.out.trans hb2⟩
    · have x1 : ((n' : Int) == 1) = false := by simp; omega
      obtain ⟨k0, k1, k2⟩ := leftN_ok (n := n') (by omega)
      obtain ⟨k, hk⟩ : ∃ k, leftN n' = k := ⟨_, rfl⟩
      rw [hk] at k0 k1 k2
      obtain ⟨a, rfl, hab, -⟩ := hA.get (i := 0) (by have := HN.out; omega)
      have hA1 := hA.take k
      have hA2 := hA.drop k
      have hl1 : (l'.take k).length = k := by rw [List.length_take, HN.out]; omega
      have hl2 : (l'.drop k).length = n' - k := by rw [List.length_drop, HN.out]
      have hp2 := proofS_two i' (l := l') (by rw [HN.out]; omega)
      rw [HN.out, hk] at hp2
      have hs1 : ∀ s ∈ l'.take k, s ∈ l := fun s hs => HM.out s (List.mem_of_mem_take hs)
      have hs2 : ∀ s ∈ l'.drop k, s ∈ l := fun s hs => HM.out s (List.mem_of_mem_drop hs)
      have HA1 := Lib.hid hA1
      have HA2 := Lib.hid hA2
      have HL1 := Lib.hid hl1
      have HL2 := Lib.hid hl2
      have HS1 := Lib.hid hs1
      have HS2 := Lib.hid hs2
      have HKK := Lib.hid hk
      have z1 : (0 : Int) ≤ (k : Int) := by omega
      have z2 : (k : Int) ≤ (n' : Int) := by omega
      have z3 : (k : Int) ≤ (c' : Int) := by omega
      have z4 : ¬ c' = k := by omega
      have z5 : ¬ k = c' := by omega
      have z6 : k ≤ n' := by omega
      have z7 : (n' : Int) ≤ (c' : Int) := by omega
      clear hk hA hA1 hA2 hl1 hl2 hs1 hs2
      by_cases hik : i' < k
      · rw [if_pos hik] at hp2
        have HP2 := Lib.hid hp2
        clear hp2
        go_wp2_with (go_at_call 40; refine (left_walk n' (by omega) (by omega) _).mono ?_; rw [HKK.out]; rintro e w' ⟨rfl, rfl⟩)
        go_quiet (fail)
        have HB := Lib.hid (Below.drewN' HB.out nq)
        have HKW := Lib.hid (show KAt (wr.drewN nq) from HKW.out)
        have HA1 : Hid (LAt (wr.drewN nq) w.heap.size _ _ _) := HA1
        have HA2 : Hid (LAt (wr.drewN nq) w.heap.size _ _ _) := HA2
        have HO := Lib.hid (ho.drewN nq)
        have hbs : w.heap.size ≤ (wr.drewN nq).heap.size := hbs
        clear ho
        generalize wr.drewN nq = wz at HB HKW HA1 HA2 HO hbs ⊢
        go_wp2_with (first
          | (go_at_call 19; refine (root_at _ (l'.drop k) _ _ HL2.out (by omega) (fun s hs => HS.out s (HS2.out s hs)) wz (HA2.out.more hbs) HKW.out).mono ?_; rintro e w4 ⟨rfl, hb4⟩; have hz4 := hb4.size)
          | (at_builtin; refine wpList_app rfl (.tmp 38) (.tmp 41) 22 rfl elemStr _ out out.length rfl rfl ((HO.out.below hb4 (Nat.le_refl _)).alloc _) (rootS (l'.drop k)) w4.heap.size #[.string (rootS (l'.drop k))] rfl ?hc rfl rfl (by simp [one, Value.oneCell']) (by unfold maxLen; omega) (by omega) (by simp; omega) ?_; (case hc => exact World.alloc_heap_new _ _); intro g5 c5 w5 h5 hg5 hg5' hg5l hb5))
        have hZ5 : Below w.heap.size wz w5 := ((hb4.mono hbs).alloc (by omega) _).trans hb5
        go_roundw
        case rel =>
         refine ⟨some a, l'.take k, k, c', i', out ++ [rootS (l'.drop k)], HL1.out, rfl, by omega, h2, rfl, hik, by omega, HS1.out, HA1.out.below hZ5, ?_, ?_, h5, HB.out.trans hZ5⟩
         · rw [HP.out, HP2.out]; simp
         · simp; omega
        case measure => show k < n'; omega
      · rw [if_neg hik] at hp2
        have HP2 := Lib.hid hp2
        clear hp2
        obtain ⟨j, hj⟩ : ∃ j, i' - k = j := ⟨_, rfl⟩
        have hji : (i' : Int) - (k : Int) = (j : Int) := by omega
        have HJ := Lib.hid hj
        clear hj
        go_wp2_with (go_at_call 40; refine (left_walk n' (by omega) (by omega) _).mono ?_; rw [HKK.out]; rintro e w' ⟨rfl, rfl⟩)
        go_quiet (fail)
        have HB := Lib.hid (Below.drewN' HB.out nq)
        have HKW := Lib.hid (show KAt (wr.drewN nq) from HKW.out)
        have HA1 : Hid (LAt (wr.drewN nq) w.heap.size _ _ _) := HA1
        have HA2 : Hid (LAt (wr.drewN nq) w.heap.size _ _ _) := HA2
        have HO := Lib.hid (ho.drewN nq)
        have hbs : w.heap.size ≤ (wr.drewN nq).heap.size := hbs
        clear ho
        generalize wr.drewN nq = wz at HB HKW HA1 HA2 HO hbs ⊢
        go_wp2_with (first
          | (go_at_call 19; refine (root_at _ (l'.take k) _ _ HL1.out (by omega) (fun s hs => HS.out s (HS1.out s hs)) wz (HA1.out.more hbs) HKW.out).mono ?_; rintro e w4 ⟨rfl, hb4⟩; have hz4 := hb4.size)
          | (at_builtin; refine wpList_app rfl (.tmp 38) (.tmp 41) 22 rfl elemStr _ out out.length rfl rfl ((HO.out.below hb4 (Nat.le_refl _)).alloc _) (rootS (l'.take k)) w4.heap.size #[.string (rootS (l'.take k))] rfl ?hc rfl rfl (by simp [one, Value.oneCell']) (by unfold maxLen; omega) (by omega) (by simp; omega) ?_; (case hc => exact World.alloc_heap_new _ _); intro g5 c5 w5 h5 hg5 hg5' hg5l hb5))
        have hZ5 : Below w.heap.size wz w5 := ((hb4.mono hbs).alloc (by omega) _).trans hb5
        go_roundw
        case rel =>
         refine ⟨some (a.add k), l'.drop k, n' - k, c' - k, j, out ++ [rootS (l'.take k)], HL2.out, rfl, by omega, by omega, rfl, by have := HJ.out; omega, by omega, HS2.out, HA2.out.below hZ5, ?_, ?_, h5, HB.out.trans hZ5⟩
         · rw [HP.out, HP2.out, HJ.out]; simp
         · simp; omega
        case measure => show n' - k < n'; omega

end Go.Proofs.YtjelniemoambaaaDoor
