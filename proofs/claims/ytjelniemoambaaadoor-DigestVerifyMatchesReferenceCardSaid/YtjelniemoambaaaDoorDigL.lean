/-
  Contracts of package digest's Extension. Conditions: each contract's own.
-/
import Derived.Test.YtjelniemoambaaaDoorDigK
namespace Go.Proofs.YtjelniemoambaaaDoor
open Go Go.RowKit Go.Shelf

set_option maxHeartbeats 2000000 in
theorem ext_no (A : Option Addr) (l : List ByteArray) (cap : Nat) (m : Int) (h : m < 0 ∨ (l.length : Int) < m) (w : World) :
    Calls Tryd.prog 16 #[.slice A l.length cap, .int .i64 m] w fun e w' => e = .returned (.tuple #[.slice none 0 0, .int .i64 2]) ∧ w = w' := by
  rcases h with h | h
  · go_enter Tryd.func16, Tryd.ntmps16
    go_wp2_with fail
    go_ret2
    exact ⟨rfl, rfl⟩
  · have h' : decide (m < 0) = false := by simp; omega
    go_enter Tryd.func16, Tryd.ntmps16
    go_wp2_with fail
    go_ret2
    exact ⟨rfl, rfl⟩
set_option maxHeartbeats 2000000 in
theorem ext_zero (A : Option Addr) (l : List ByteArray) (cap : Nat) (w : World) :
    Calls Tryd.prog 16 #[.slice A l.length cap, .int .i64 0] w fun e w' => e = .returned (.tuple #[.slice none 0 0, .int .i64 0]) ∧ w = w' := by
  have h1 : ¬ ((l.length : Int) < 0) := by omega
  have h2 : decide ((l.length : Int) < 0) = false := by simp
  go_enter Tryd.func16, Tryd.ntmps16
  go_wp2_with fail
  go_ret2
  exact ⟨rfl, rfl⟩

set_option maxRecDepth 100000 in
set_option maxHeartbeats 4000000 in
theorem ext_yes (A : Option Addr) (l : List ByteArray) (cap m : Nat) (h0 : 1 ≤ m) (h : m ≤ l.length) (hl : l.length ≤ 1000) (hc : l.length ≤ cap) (hcm : cap ≤ maxLen) (hs : ∀ s ∈ l, s.size ≤ 100000) (w : World) (hA : LAt w w.heap.size A .string l) (hK : KAt w) :
    Calls Tryd.prog 16 #[.slice A l.length cap, .int .i64 m] w fun e w' => (∃ v, e = .returned (.tuple #[v, .int .i64 0]) ∧ StrL w' w.heap.size v (extS l m true)) ∧ Below w.heap.size w w' := by
  have HS := Lib.hid hs
  have HA := Lib.hid hA
  have HK := Lib.hid hK
  have y1 : (1 : Int) ≤ (m : Int) := by omega
  have y2 : (m : Int) ≤ (l.length : Int) := by omega
  unfold maxLen at hcm
  have q1 : decide ((m : Int) < 0) = false := by simp
  have q2 : decide (l.length < m) = false := by simp; omega
  have q3 : ((m : Int) == 0) = false := by simp; omega
  clear hs hA hK
  go_enter Tryd.func16, Tryd.ntmps16
  go_wp2_with fail
  go_loopw [0, 1, 6, 7] (fun v0 v1 v6 v7 wr => ∃ (A' : Option Addr) (l' : List ByteArray) (n' c' m' : Nat) (out : List ByteArray) (wh : Bool), l'.length = n' ∧ v0 = .slice A' n' c' ∧ n' ≤ c' ∧ c' ≤ cap ∧ v1 = .int .i64 m' ∧ 1 ≤ m' ∧ m' ≤ n' ∧ n' ≤ l.length ∧ (∀ s ∈ l', s ∈ l) ∧ LAt wr w.heap.size A' .string l' ∧ v7 = .bool wh ∧ extS l m true = extS l' m' wh ++ out.reverse ∧ out.length + n' ≤ l.length ∧ StrL wr w.heap.size v6 out ∧ Below w.heap.size w wr) (fun v _ _ _ _ => slLen v)
  case atStart => exact ⟨A, l, l.length, cap, m, [], true, rfl, rfl, hc, Nat.le_refl _, rfl, h0, h, Nat.le_refl _, fun _ h => h, HA.out, rfl, by simp, by simp, OL.nil, Below.refl _ _⟩
  case round =>
    obtain ⟨A', l', n', c', m', out, wh, hn, rfl, h1, h2, rfl, h3, h3', h4, hmem, hA, rfl, hpf, hol, ho, hB⟩ := hrel
    have HN := Lib.hid hn
    have HM := Lib.hid hmem
    have HP := Lib.hid hpf
    have HB := Lib.hid hB
    have HKW := Lib.hid (HK.out.below hB)
    have hbs := hB.size
    clear hn hmem hpf hB HA
    by_cases h5 : m' = n'
    · subst h5
      have x0 : decide (m' < m') = false := by simp
      have hfin : extS l m true = (if wh then [] else [rootS l']) ++ out.reverse := by rw [HP.out, extS_done _ (by have := HN.out; omega)]
      have HFIN := Lib.hid hfin
      clear hfin
      cases wh
      · go_wp2_with (first
          | (go_at_call 19; refine (root_at _ l' _ _ HN.out (by omega) (fun s hs => HS.out s (HM.out s hs)) wr (hA.more hbs) HKW.out).mono ?_; rintro e w4 ⟨rfl, hb4⟩; have hz4 := hb4.size)
          | (at_builtin; refine wpList_app rfl (.tmp 52) (.tmp 55) 22 rfl elemStr _ out out.length rfl rfl ((ho.below hb4 (Nat.le_refl _)).alloc _) (rootS l') w4.heap.size #[.string (rootS l')] rfl ?hc rfl rfl (by simp [one, Value.oneCell']) (by unfold maxLen; omega) (by omega) (by simp; omega) ?_; (case hc => exact World.alloc_heap_new _ _); intro g5 c5 w5 h5 hg5 hg5' hg5l hb5)
          | (go_at_call 41; refine ((show ∀ n, (out ++ [rootS l']).length = n → Calls Tryd.prog 41 #[.slice (some ⟨g5, 0, none⟩) n c5] w5 _ from fun n hn => by subst hn; exact reverse_walk (some ⟨g5, 0, none⟩) c5 (out ++ [rootS l']) (by simp; omega) w.heap.size _ (by rw [List.length_append]; exact h5) (by have := hb5.size; simp at this; omega)) _ (by simp)).mono ?_; rintro e w2 ⟨rfl, hr, hb2⟩))
        go_ret2
        refine ⟨⟨_, rfl, ?_⟩, ((HB.out.trans ((hb4.mono hbs).alloc (by omega) _)).trans hb5).trans hb2⟩
        rw [HFIN.out, List.reverse_append] at *
        simpa using hr
      · obtain ⟨A6, c6, rfl, -, -⟩ := ho.slice
        go_wp2_with (go_at_call 41; refine (reverse_walk A6 c6 out (by omega) w.heap.size _ ho hbs).mono ?_; rintro e w2 ⟨rfl, hr, hb2⟩)
        go_ret2
        exact ⟨⟨_, rfl, by rw [HFIN.out]; exact hr⟩, HB.out.trans hb2⟩
    · have x1 : decide (m' < n') = true := by simp; omega
      have x1' : m' < n' := by omega
      obtain ⟨k0, k1, k2⟩ := leftN_ok (n := n') (by omega)
      obtain ⟨k, hk⟩ : ∃ k, leftN n' = k := ⟨_, rfl⟩
      rw [hk] at k0 k1 k2
      obtain ⟨a, rfl, hab, -⟩ := hA.get (i := 0) (by have := HN.out; omega)
      have hA1 := hA.take k
      have hA2 := hA.drop k
      have hl1 : (l'.take k).length = k := by rw [List.length_take, HN.out]; omega
      have hl2 : (l'.drop k).length = n' - k := by rw [List.length_drop, HN.out]
      have hp2 := extS_step wh (l := l') h3 (by rw [HN.out]; omega)
      rw [HN.out, hk] at hp2
      have hs1 : ∀ s ∈ l'.take k, s ∈ l := fun s hs => HM.out s (List.mem_of_mem_take hs)
      have hs2 : ∀ s ∈ l'.drop k, s ∈ l := fun s hs => HM.out s (List.mem_of_mem_drop hs)
      have HA1 := Lib.hid hA1
      have HA2 := Lib.hid hA2
      have HL1 := Lib.hid hl1
      have HL2 := Lib.hid hl2
      have HS1 := Lib.hid hs1
      have HS2 := Lib.hid hs2
      have HKK := Lib.hid hk
      have z1 : (0 : Int) ≤ (k : Int) := by omega
      have z2 : (k : Int) ≤ (n' : Int) := by omega
      have z3 : (k : Int) ≤ (c' : Int) := by omega
      have z4 : ¬ c' = k := by omega
      have z5 : ¬ k = c' := by omega
      have z6 : k ≤ n' := by omega
      have z7 : (n' : Int) ≤ (c' : Int) := by omega
      clear hk hA hA1 hA2 hl1 hl2 hs1 hs2
      by_cases hik : m' ≤ k
      · rw [if_pos hik] at hp2
        have HP2 := Lib.hid hp2
        clear hp2
        go_wp2_with (go_at_call 40; refine (left_walk n' (by omega) (by omega) _).mono ?_; rw [HKK.out]; rintro e w' ⟨rfl, rfl⟩)
        go_quiet (fail)
        have HB := Lib.hid (Below.drewN' HB.out nq)
        have HKW := Lib.hid (show KAt (wr.drewN nq) from HKW.out)
        have HA1 : Hid (LAt (wr.drewN nq) w.heap.size _ _ _) := HA1
        have HA2 : Hid (LAt (wr.drewN nq) w.heap.size _ _ _) := HA2
        have HO := Lib.hid (ho.drewN nq)
        have hbs : w.heap.size ≤ (wr.drewN nq).heap.size := hbs
        clear ho
        generalize wr.drewN nq = wz at HB HKW HA1 HA2 HO hbs ⊢
        go_wp2_with (first
          | (go_at_call 19; refine (root_at _ (l'.drop k) _ _ HL2.out (by omega) (fun s hs => HS.out s (HS2.out s hs)) wz (HA2.out.more hbs) HKW.out).mono ?_; rintro e w4 ⟨rfl, hb4⟩; have hz4 := hb4.size)
          | (at_builtin; refine wpList_app rfl (.tmp 44) (.tmp 47) 22 rfl elemStr _ out out.length rfl rfl ((HO.out.below hb4 (Nat.le_refl _)).alloc _) (rootS (l'.drop k)) w4.heap.size #[.string (rootS (l'.drop k))] rfl ?hc rfl rfl (by simp [one, Value.oneCell']) (by unfold maxLen; omega) (by omega) (by simp; omega) ?_; (case hc => exact World.alloc_heap_new _ _); intro g5 c5 w5 h5 hg5 hg5' hg5l hb5))
        have hZ5 : Below w.heap.size wz w5 := ((hb4.mono hbs).alloc (by omega) _).trans hb5
        go_roundw
        case rel =>
         refine ⟨some a, l'.take k, k, c', m', out ++ [rootS (l'.drop k)], wh, HL1.out, rfl, by omega, h2, rfl, h3, hik, by omega, HS1.out, HA1.out.below hZ5, rfl, ?_, ?_, h5, HB.out.trans hZ5⟩
         · rw [HP.out, HP2.out]; simp
         · simp; omega
        case measure => show k < n'; omega
      · rw [if_neg hik] at hp2
        have HP2 := Lib.hid hp2
        clear hp2
        obtain ⟨j, hj⟩ : ∃ j, m' - k = j := ⟨_, rfl⟩
        have hji : (m' : Int) - (k : Int) = (j : Int) := by omega
        have HJ := Lib.hid hj
        clear hj
        go_wp2_with (go_at_call 40; refine (left_walk n' (by omega) (by omega) _).mono ?_; rw [HKK.out]; rintro e w' ⟨rfl, rfl⟩)
        go_quiet (fail)
        have HB := Lib.hid (Below.drewN' HB.out nq)
        have HKW := Lib.hid (show KAt (wr.drewN nq) from HKW.out)
        have HA1 : Hid (LAt (wr.drewN nq) w.heap.size _ _ _) := HA1
        have HA2 : Hid (LAt (wr.drewN nq) w.heap.size _ _ _) := HA2
        have HO := Lib.hid (ho.drewN nq)
        have hbs : w.heap.size ≤ (wr.drewN nq).heap.size := hbs
        clear ho
        generalize wr.drewN nq = wz at HB HKW HA1 HA2 HO hbs ⊢
        go_wp2_with (first
          | (go_at_call 19; refine (root_at _ (l'.take k) _ _ HL1.out (by omega) (fun s hs => HS.out s (HS1.out s hs)) wz (HA1.out.more hbs) HKW.out).mono ?_; rintro e w4 ⟨rfl, hb4⟩; have hz4 := hb4.size)
          | (at_builtin; refine wpList_app rfl (.tmp 44) (.tmp 47) 22 rfl elemStr _ out out.length rfl rfl ((HO.out.below hb4 (Nat.le_refl _)).alloc _) (rootS (l'.take k)) w4.heap.size #[.string (rootS (l'.take k))] rfl ?hc rfl rfl (by simp [one, Value.oneCell']) (by unfold maxLen; omega) (by omega) (by simp; omega) ?_; (case hc => exact World.alloc_heap_new _ _); intro g5 c5 w5 h5 hg5 hg5' hg5l hb5))
        have hZ5 : Below w.heap.size wz w5 := ((hb4.mono hbs).alloc (by omega) _).trans hb5
        go_roundw
        case rel =>
         refine ⟨some (a.add k), l'.drop k, n' - k, c' - k, j, out ++ [rootS (l'.take k)], false, HL2.out, rfl, by omega, by omega, rfl, by have := HJ.out; omega, by have := HJ.out; omega, by omega, HS2.out, HA2.out.below hZ5, rfl, ?_, ?_, h5, HB.out.trans hZ5⟩
         · rw [HP.out, HP2.out, HJ.out]; simp
         · simp; omega
        case measure => show n' - k < n'; omega

end Go.Proofs.YtjelniemoambaaaDoor
