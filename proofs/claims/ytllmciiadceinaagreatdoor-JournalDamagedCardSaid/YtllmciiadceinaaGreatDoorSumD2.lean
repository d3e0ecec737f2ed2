/-
  The plain law of a damaged journal: where a byte is changed that is not one of a record's length, the disk is damaged, or ends earlier, or two records have the same head. No condition. What the law of a damaged journal computes: the reference's head of a list, the strings of which heads are computed, which bytes are a length. Conditions: bounds. What a changed byte does to a journal's disk (plain), and how two lists of strings are kept. No condition. JournalDamaged returns true. Conditions: the package's variables hold what they hold. JournalDamaged: for every input the law returns true, and each argument reads afterwards as before. Condition: the listed package-level variables read as the program's text lays them (the card ties that).
-/
import Derived.Test.YtllmciiadceinaaGreatDoorJourL
import Derived.Test.YtllmciiadceinaaGreatDoorJourN
import Derived.Test.YtllmciiadceinaaGreatDoorSumD1
import Derived.Test.YtllmciiadceinaaGreatDoorCards
import Derived.Test.YtllmciiadceinaaGreatDoorTie
import Derived.Test.YtllmciiadceinaaGreatDoorRow
import Derived.Deep.DeepHandedRow
import Derived.Lib.LaidTab
import Derived.Lay
section
namespace Go.Proofs.YtllmciiadceinaaGreatDoor
open Go Wr

def sizedB : List ByteArray → Int → Bool
  | [], _ => false
  | r :: l, k => if 1 ≤ k ∧ k ≤ ((putI (r.size : Int)).length : Int) then true else sizedB l (k - (1 + ((putI (r.size : Int)).length : Int) + (r.size : Int) + 32))

theorem set_ne {l : List UInt8} {i : Nat} {c : UInt8} (hi : i < l.length) (h : l[i]? ≠ some c) : l.set i c ≠ l := fun e => h (by
  have := congrArg (fun x : List UInt8 => x[i]?) e
  have this : (l.set i c)[i]? = l[i]? := this
  rw [List.getElem?_set_self hi] at this
  exact this.symm)

theorem damage : ∀ (recs : List ByteArray) (t : TS) (rest : List UInt8) (k : Nat) (c : UInt8) (t' : TS), (∀ r ∈ recs, r.size ≤ 65536) → k < (storeL t.head recs).length → (storeL t.head recs)[k]? ≠ some c → sizedB recs (k : Int) = false →
    loadW ((storeL t.head recs ++ rest).set k c) t = some t' →
    (c = 0 ∧ ∃ m, m < recs.length ∧ t'.recs = t.recs ++ recs.take m) ∨
    (∃ m r r' tl, recs[m]? = some r ∧ t'.recs = t.recs ++ recs.take m ++ r' :: tl ∧ r ≠ r' ∧ chainS (headF t.head (recs.take m)) r = chainS (headF t.head (recs.take m)) r') := by
  intro recs
  induction recs with
  | nil => intro t rest k c t' _ hk; simp [storeL] at hk
  | cons r R ih =>
    intro t rest k c t' ok hk hc hs hl
    rw [storeL, List.append_assoc] at hl
    rw [storeL] at hk hc
    have hr : r.size ≤ 65536 := ok r (by simp)
    have hlen := recL_length t.head r
    have hpl := putL_length r
    unfold sizedB at hs
    by_cases hk1 : k < (recL t.head r).length
    · rw [List.set_append, if_pos hk1] at hl
      rw [List.getElem?_append_left hk1] at hc
      cases k with
      | zero =>
        rw [show (recL t.head r).set 0 c = c :: (putL r ++ (chainS t.head r).data.toList) from rfl, List.cons_append] at hl
        rw [show (recL t.head r)[0]? = some 1 from rfl] at hc
        by_cases h0 : c = 0
        · subst h0
          rw [loadW_end (by simp)] at hl
          cases hl
          exact .inl ⟨rfl, 0, by simp, by simp⟩
        · rw [loadW_bad h0 (fun e => hc (by rw [e]))] at hl
          cases hl
      | succ j =>
        have hs' : ¬ (1 ≤ ((j + 1 : Nat) : Int) ∧ ((j + 1 : Nat) : Int) ≤ ((putI (r.size : Int)).length : Int)) := fun q => by rw [if_pos q] at hs; cases hs
        have hj : (putI (r.size : Int)).length ≤ j := by omega
        rw [show (recL t.head r).set (j + 1) c = 1 :: (putL r ++ (chainS t.head r).data.toList).set j c from rfl, List.cons_append, loadW_step] at hl
        rw [show (recL t.head r)[j + 1]? = (putL r ++ (chainS t.head r).data.toList)[j]? from rfl] at hc
        rw [List.set_append] at hl
        by_cases hj2 : j < (putL r).length
        · rw [if_pos hj2] at hl
          rw [List.getElem?_append_left hj2] at hc
          unfold putL at hl hc
          rw [List.set_append, if_neg (by omega)] at hl
          rw [List.getElem?_append_right hj] at hc
          obtain ⟨i, hi⟩ : ∃ i, j - (putI (r.size : Int)).length = i := ⟨_, rfl⟩
          rw [hi] at hl hc
          have hir : i < r.data.toList.length := by rw [ba_length]; omega
          obtain ⟨r', hr'⟩ : ∃ r' : ByteArray, (⟨(r.data.toList.set i c).toArray⟩ : ByteArray) = r' := ⟨_, rfl⟩
          have hd' : r'.data.toList = r.data.toList.set i c := by rw [← hr']
          have hsz : r'.size = r.size := by rw [← ba_length, hd', List.length_set, ba_length]
          have hput : putI (r.size : Int) ++ r.data.toList.set i c = putL r' := by unfold putL; rw [hsz, hd']
          rw [hput, List.append_assoc, strL_put r' (by omega)] at hl
          dsimp only at hl
          rw [List.drop_left, ← chainL_length t.head r, List.take_left] at hl
          split at hl
          · rename_i he
            obtain ⟨L, rest2, e1, -⟩ := loadW_only _ _ _ _ (Nat.le_refl _) hl
            refine .inr ⟨0, r, r', L, rfl, ?_, fun e => set_ne hir hc (by rw [← hd', ← e]), ?_⟩
            · rw [e1, TS.adds_eq]
              simp [TS.add]
            · exact ba_ext he
          · cases hl
        · rw [if_neg hj2] at hl
          rw [List.getElem?_append_right (by omega)] at hc
          rw [List.append_assoc, strL_put r hr] at hl
          dsimp only at hl
          have hil : j - (putL r).length < (chainS t.head r).data.toList.length := by rw [chainL_length]; omega
          have h32 : ((chainS t.head r).data.toList.set (j - (putL r).length) c).length = 32 := by rw [List.length_set, chainL_length]
          rw [List.drop_left, ← h32, List.take_left] at hl
          rw [if_neg (fun e => set_ne hil hc e)] at hl
          cases hl
    · rw [List.set_append, if_neg hk1, loadW_rec hr] at hl
      rw [List.getElem?_append_right (by omega)] at hc
      rw [List.length_append] at hk
      rw [if_neg (by omega)] at hs
      rw [show ((k : Int) - (1 + ((putI (r.size : Int)).length : Int) + (r.size : Int) + 32)) = ((k - (recL t.head r).length : Nat) : Int) by omega] at hs
      rcases ih (t.add r) rest _ c t' (fun x hx => ok x (by simp [hx])) (by show k - (recL t.head r).length < (storeL (chainS t.head r) R).length; omega) hc hs hl with ⟨h1, m, h2, h3⟩ | ⟨m, x, x', tl, h1, h2, h3, h4⟩
      · exact .inl ⟨h1, m + 1, by simp; omega, by rw [h3]; simp [TS.add]⟩
      · refine .inr ⟨m + 1, x, x', tl, by simpa using h1, by rw [h2]; simp [TS.add], h3, ?_⟩
        simpa [headF, TS.add] using h4
end Go.Proofs.YtllmciiadceinaaGreatDoor
end
section
namespace Go.Proofs.YtllmciiadceinaaGreatDoor
open Go Go.RowKit Go.Shelf Wr

theorem zeros32 : zerosB 32 = zero32 := rfl
theorem headF_snoc (h : ByteArray) (l : List ByteArray) (r : ByteArray) : headF h (l ++ [r]) = chainS (headF h l) r := by
  induction l generalizing h with
  | nil => rfl
  | cons x l ih => exact ih _
theorem zero32_size : zero32.size = 32 := rfl

set_option maxRecDepth 100000 in
set_option maxHeartbeats 4000000 in
theorem refhead_walk (A : Option Addr) (l : List ByteArray) (m c : Nat) (hm : l.length = m) (hl : m ≤ 1000000) (hr : ∀ r ∈ l, r.size ≤ 800000) (w : World) (hA : LAt w w.heap.size A .string l) :
    Calls Tryz.prog 43 #[.slice A m c] w fun e w' => e = .returned (.string (headF zero32 l)) ∧ Below w.heap.size w w' := by
  have HA := Lib.hid hA
  have HR := Lib.hid hr
  clear hA hr
  have hmk := mk32
  have hcv := zero_conv w
  go_enter Tryz.func43, Tryz.ntmps43
  go_wp2_with fail
  go_loopw [3, 4] (fun v3 v4 wr => ∃ k : Nat, k ≤ m ∧ v4 = .int .i64 k ∧ v3 = .string (headF zero32 (l.take k)) ∧ Below w.heap.size w wr) (fun _ i _ => m - (intOf i).toNat)
  case atStart => exact ⟨0, by omega, rfl, rfl, (Below.refl w.heap.size w).alloc (Nat.le_refl _) _⟩
  case round =>
    obtain ⟨k, hk, rfl, rfl, hB⟩ := hrel
    have HB := Lib.hid hB
    have hbs := hB.size
    have hAw := HA.out.below hB
    by_cases hlt : k < m
    · obtain ⟨a, rfl, hab, hac⟩ := hAw.get (by omega : k < l.length)
      have hnx : headF zero32 (l.take (k + 1)) = chainS (headF zero32 (l.take k)) l[k] := by rw [List.take_succ_eq_append_getElem (by omega), headF_snoc]
      have hz := headF_size zero32_size (l.take k)
      have hr := HR.out l[k] (List.getElem_mem _)
      obtain ⟨r, hrr⟩ : ∃ r, l[k] = r := ⟨_, rfl⟩
      obtain ⟨g, hg⟩ : ∃ g, headF zero32 (l.take k) = g := ⟨_, rfl⟩
      rw [hrr] at hac hr hnx
      rw [hg] at hnx hz ⊢
      have HNX := Lib.hid hnx
      have HC := Lib.hid (refchain_walk g r (by omega))
      have y1 : (0 : Int) ≤ (k : Int) := by omega
      have y2 : (k : Int) < (m : Int) := by omega
      clear hnx hz hr hrr hg hAw hB
      go_wp2_with (first | (go_at_call 57; refine (HC.out _).mono ?_; rintro e w1 ⟨rfl, hb1⟩) | fail)
      exact ⟨⟨k + 1, by omega, by go_num, by rw [HNX.out], HB.out.trans (hb1.mono hbs)⟩, by simp only [intOf]; omega⟩
    · obtain rfl : k = m := by omega
      have hfin : l.take k = l := List.take_of_length_le (by omega)
      rw [hfin]
      clear hlt hfin
      go_wp2_with fail
      go_ret
      exact ⟨rfl, HB.out⟩

/-- The strings of which the heads of a list are computed. -/
def headsL (h : ByteArray) : List ByteArray → List ByteArray
  | [] => []
  | r :: l => (⟨#[2]⟩ ++ h ++ r) :: headsL (chainS h r) l
theorem headsL_length (h : ByteArray) (l : List ByteArray) : (headsL h l).length = l.length := by
  induction l generalizing h with
  | nil => rfl
  | cons r l ih => simp [headsL, ih]
theorem headsL_snoc (h : ByteArray) (l : List ByteArray) (r : ByteArray) : headsL h (l ++ [r]) = headsL h l ++ [⟨#[2]⟩ ++ headF h l ++ r] := by
  induction l generalizing h with
  | nil => rfl
  | cons x l ih => simp only [List.cons_append, headsL, ih]; rfl

set_option maxRecDepth 100000 in
set_option maxHeartbeats 4000000 in
theorem heads_walk (A : Option Addr) (l : List ByteArray) (m c : Nat) (hm : l.length = m) (hl : m ≤ 1000000) (hr : ∀ r ∈ l, r.size ≤ 800000) (w : World) (hA : LAt w w.heap.size A .string l) :
    Calls Tryz.prog 27 #[.slice A m c] w fun e w' => (∃ v, e = .returned v ∧ OLs w' w.heap.size v (headsL zero32 l)) ∧ Below w.heap.size w w' := by
  have HA := Lib.hid hA
  have HR := Lib.hid hr
  have H0 := Lib.hid (fun W => refhead_walk none [] 0 0 rfl (by omega) (fun _ e => by cases e) W LAt.nil)
  clear hA hr
  go_enter Tryz.func27, Tryz.ntmps27
  go_wp2_with (first | (go_at_call 43; refine (H0.out _).mono ?_; rintro e w1 ⟨rfl, hb1⟩) | fail)
  go_loopw [3, 4, 5] (fun v3 v4 v5 wr => ∃ k : Nat, k ≤ m ∧ v5 = .int .i64 k ∧ v4 = .string (headF zero32 (l.take k)) ∧ OLs wr w.heap.size v3 (headsL zero32 (l.take k)) ∧ Below w.heap.size w wr) (fun _ _ i _ => m - (intOf i).toNat)
  case atStart => exact ⟨0, by omega, rfl, rfl, OL.nil, hb1⟩
  case round =>
    clear hb1
    obtain ⟨k, hk, rfl, rfl, ho, hB⟩ := hrel
    have HB := Lib.hid hB
    have hbs := hB.size
    have hAw := HA.out.below hB
    have hol : (headsL zero32 (l.take k)).length = k := by rw [headsL_length, List.length_take]; omega
    have HOL := Lib.hid hol
    clear hB hol
    by_cases hlt : k < m
    · obtain ⟨a, rfl, hab, hac⟩ := hAw.get (by omega : k < l.length)
      have hnx : headF zero32 (l.take (k + 1)) = chainS (headF zero32 (l.take k)) l[k] := by rw [List.take_succ_eq_append_getElem (by omega), headF_snoc]
      have hnl : headsL zero32 (l.take (k + 1)) = headsL zero32 (l.take k) ++ [⟨#[2]⟩ ++ headF zero32 (l.take k) ++ l[k]] := by rw [List.take_succ_eq_append_getElem (by omega), headsL_snoc]
      have hz := headF_size zero32_size (l.take k)
      have hr := HR.out l[k] (List.getElem_mem _)
      obtain ⟨r, hrr⟩ : ∃ r, l[k] = r := ⟨_, rfl⟩
      obtain ⟨g, hg⟩ : ∃ g, headF zero32 (l.take k) = g := ⟨_, rfl⟩
      rw [hrr] at hac hr hnx hnl
      rw [hg] at hnx hz hnl ⊢
      obtain ⟨T, hT⟩ : ∃ T, (⟨#[2]⟩ : ByteArray) ++ g ++ r = T := ⟨_, rfl⟩
      rw [hT] at hnl
      have hadd1 := fun W => strAdd (P := Tryz.prog) ⟨#[2]⟩ g (by show 1 + _ ≤ _; omega) W
      have hadd2 := fun W => strAdd (P := Tryz.prog) (⟨#[2]⟩ ++ g) r (by rw [ba_size_append]; show 1 + _ + _ ≤ _; omega) W
      rw [hT] at hadd2
      have HNX := Lib.hid hnx
      have HNL := Lib.hid hnl
      have HC := Lib.hid (refchain_walk g r (by omega))
      have y1 : (0 : Int) ≤ (k : Int) := by omega
      have y2 : (k : Int) < (m : Int) := by omega
      clear hnx hnl hz hr hrr hg hAw hT
      have hak : (a.add k).block < w.heap.size := by rw [addr_add_block]; exact hab
      go_wp2_with (first | (at_builtin; go_must (refine wpList_app rfl (.tmp 13) (.tmp 21) 22 rfl elemStr _ (headsL zero32 (l.take k)) k HOL.out rfl (ho.alloc (.cells #[.string T] 9)) T wr.heap.size #[.string T] rfl ?hc rfl rfl (by simp [one, Value.oneCell']) (by rw [HOL.out]; unfold maxLen; omega) (by rw [HOL.out]; omega) (by simp; omega) ?_); (case hc => exact World.alloc_heap_new wr _); intro g5 c5 w5 h5 hg5 hg5' hg5l hb5; have hac5 : w5.cell? (a.add k) = some (.string r) := (hb5.cell hak).trans ((((Below.refl w.heap.size wr).alloc hbs (.cells #[.string T] 9)).cell hak).trans hac)) | (go_at_call 57; refine (HC.out _).mono ?_; rintro e w1 ⟨rfl, hb1⟩) | fail)
      refine ⟨⟨k + 1, by omega, by go_num, by rw [HNX.out], ?_, ((HB.out.alloc hbs (.cells #[.string T] 9)).trans hb5).trans (hb1.mono (by have := hb5.size; rw [World.size_alloc] at this; omega))⟩, by simp [intOf]; omega⟩
      rw [HNL.out]
      exact h5.below hb1 (Nat.le_refl _)
    · obtain rfl : k = m := by omega
      have hfin : l.take k = l := List.take_of_length_le (by omega)
      rw [hfin] at ho
      clear hlt hfin
      go_wp2_with fail
      go_ret
      exact ⟨⟨_, rfl, ho⟩, HB.out⟩

set_option maxRecDepth 100000 in
set_option maxHeartbeats 4000000 in
theorem sized_walk (A : Option Addr) (l : List ByteArray) (m c : Nat) (hm : l.length = m) (hl : m ≤ 1000000) (hr : ∀ r ∈ l, r.size ≤ 65536) (at0 : Int) (h1 : -1000000000 ≤ at0) (h2 : at0 ≤ 1000000000) (w : World) (hA : LAt w w.heap.size A .string l) :
    Calls Tryz.prog 26 #[.slice A m c, .int .i64 at0] w fun e w' => e = .returned (.bool (sizedB l at0)) ∧ Below w.heap.size w w' := by
  have HA := Lib.hid hA
  have HR := Lib.hid hr
  clear hA hr
  obtain ⟨R, hR⟩ : ∃ R, sizedB l at0 = R := ⟨_, rfl⟩
  rw [hR]
  go_enter Tryz.func26, Tryz.ntmps26
  go_wp2_with fail
  go_loopw [1, 5] (fun v1 v5 wr => ∃ (k : Nat) (x : Int), k ≤ m ∧ v5 = .int .i64 k ∧ v1 = .int .i64 x ∧ x ≤ 1000000000 ∧ -1000000000 - 70000 * (k : Int) ≤ x ∧ Hid (sizedB (l.drop k) x = R) ∧ Below w.heap.size w wr) (fun _ i _ => m - (intOf i).toNat)
  case atStart => exact ⟨0, at0, by omega, rfl, rfl, h2, by omega, Lib.hid hR, Below.refl _ _⟩
  case round =>
    obtain ⟨k, x, hk, rfl, rfl, hx1, hx2, hS, hB⟩ := hrel
    have HB := Lib.hid hB
    have hbs := hB.size
    have hAw := HA.out.below hB
    by_cases hlt : k < m
    · obtain ⟨a, rfl, hab, hac⟩ := hAw.get (by omega : k < l.length)
      have hs := hS.out
      rw [List.drop_eq_getElem_cons (by omega : k < l.length)] at hs
      unfold sizedB at hs
      have hr := HR.out l[k] (List.getElem_mem _)
      obtain ⟨r, hrr⟩ : ∃ r, l[k] = r := ⟨_, rfl⟩
      rw [hrr] at hac hr hs
      have hp := putI_len9 hr
      have HP := Lib.hid (refPutInt_yes (r.size : Int) (by omega) (by omega))
      obtain ⟨p, hpp⟩ : ∃ p, putI (r.size : Int) = p := ⟨_, rfl⟩
      rw [hpp] at HP hs hp
      have hps : (⟨p.toArray⟩ : ByteArray).size = p.length := by rw [ba_mk_size]
      have hak : (a.add k).block < wr.heap.size := by rw [addr_add_block]; exact Nat.lt_of_lt_of_le hab hbs
      have y1 : (0 : Int) ≤ (k : Int) := by omega
      have y2 : (k : Int) < (m : Int) := by omega
      by_cases q1 : 1 ≤ x
      · by_cases q2 : x ≤ (p.length : Int)
        · rw [if_pos ⟨q1, q2⟩] at hs
          subst hs
          clear hR hrr hpp hS
          go_wp2_with (first | (go_at_call 56; refine (HP.out _).mono ?_; rintro e w1 ⟨rfl, hb1⟩; have hac1 : w1.cell? (a.add k) = some (.string r) := (hb1.cell hak).trans hac) | fail)
          go_ret
          exact ⟨rfl, HB.out.trans (hb1.mono hbs)⟩
        · have d2 : decide (x ≤ (p.length : Int)) = false := by simpa using q2
          rw [if_neg (fun h => q2 h.2)] at hs
          have HS := Lib.hid hs
          clear hs hR hrr hpp hS
          go_wp2_with (first | (go_at_call 56; refine (HP.out _).mono ?_; rintro e w1 ⟨rfl, hb1⟩; have hac1 : w1.cell? (a.add k) = some (.string r) := (hb1.cell hak).trans hac) | fail)
          exact ⟨⟨k + 1, _, by omega, by go_num, rfl, by omega, by omega, HS, HB.out.trans (hb1.mono hbs)⟩, by simp only [intOf]; omega⟩
      · rw [if_neg (fun h => q1 h.1)] at hs
        have HS := Lib.hid hs
        clear hs hR hrr hpp hS
        go_wp2_with (first | (go_at_call 56; refine (HP.out _).mono ?_; rintro e w1 ⟨rfl, hb1⟩; have hac1 : w1.cell? (a.add k) = some (.string r) := (hb1.cell hak).trans hac) | fail)
        exact ⟨⟨k + 1, _, by omega, by go_num, rfl, by omega, by omega, HS, HB.out.trans (hb1.mono hbs)⟩, by simp only [intOf]; omega⟩
    · obtain rfl : k = m := by omega
      have hs := hS.out
      rw [List.drop_eq_nil_of_le (by omega)] at hs
      unfold sizedB at hs
      subst hs
      clear hlt hR hS
      go_wp2_with fail
      go_ret
      exact ⟨rfl, HB.out⟩

end Go.Proofs.YtllmciiadceinaaGreatDoor
end
section
namespace Go.Proofs.YtllmciiadceinaaGreatDoor
open Go Go.RowKit Go.Shelf Wr

def smallB (l : List ByteArray) : Prop := ∀ r ∈ l, r.size ≤ 100
theorem store_small : ∀ (L : List ByteArray) (h : ByteArray), smallB L → (storeL h L).length ≤ 142 * L.length
  | [], _, _ => by simp [storeL]
  | r :: L, h, hs => by
    have h1 := store_small L (chainS h r) (fun x hx => hs x (by simp [hx]))
    have h2 := hs r (by simp)
    have h3 := putI_len9 (n := r.size) (by omega)
    rw [storeL, List.length_append, rec_len, List.length_cons]
    omega
/-- A group of a law on its disk of 6000 bytes. -/
theorem dmg_step {s : DS} {t : TS} {L : List ByteArray} {k : Nat} (hc : Clean 6000 s t) (hg : Good 6000 t) (hl : s.left = 0) (hk : t.size ≤ 852 * k) (hk6 : k < 6) (h1 : smallB L) (h2 : L.length ≤ 6) (h3 : longB L = false) :
    ∃ s' t', appE 6000 s t false L = 0 ∧ appD 6000 s t false L = s' ∧ appT 6000 s t false L = t' ∧ appB 6000 s t false L = false ∧ Clean 6000 s' t' ∧ Good 6000 t' ∧ s'.left = 0 ∧ t'.size ≤ 852 * (k + 1) := by
  have hL : (outL t L).length ≤ 852 := by
    have := store_small L t.head h1
    show (storeL t.head L).length ≤ 852
    omega
  rcases clean_append hc hg h3 (by omega : t.size + (outL t L).length ≤ 6000) with ⟨e1, e2, e3, e4, e5, -, e7⟩ | ⟨-, -, -, -, e5⟩
  · refine ⟨_, _, e1, rfl, e4, e5, e2, e3, by omega, ?_⟩
    have hL' : (storeL t.head L).length ≤ 852 := hL
    rw [adds_size]; omega
  · omega
/-- Open of a disk with power that holds a journal. -/
theorem open_zero {n : Nat} {s : DS} {t : TS} (ho : s.off = false) (hl : s.left = 0) (hn : s.vis.length = n) (h : loadW s.vis TS.zero = some t) : openE s = 0 ∧ Good n t := by
  obtain ⟨L, rest, e1, e2, e3, e4⟩ := loadW_only _ _ _ _ (Nat.le_refl _) h
  have hrec : t.recs = L := by rw [e1, TS.adds_eq]; rfl
  have h1 : t.size = (storeL zero32 L).length := by rw [e1, TS.adds_eq]; simp [TS.zero]
  have hfit : t.size ≤ n := by
    rw [h1, ← hn, e2, List.length_append]
    show (storeL TS.zero.head L).length ≤ _
    omega
  refine ⟨?_, ⟨by rw [hrec]; exact e1, by rw [hrec]; exact e4, hfit⟩⟩
  unfold openE
  rw [if_neg (by rw [ho]; decide), h]
  dsimp only
  split
  · rfl
  · unfold DS.clr
    rw [wr_in ho (by unfold zerosB; rw [ba_mk_size, List.length_replicate]; omega)]
    unfold DS.write
    rw [used0 (by exact hl)]
    unfold chkE
    rw [if_neg (by dsimp only; rw [ho]; decide)]
theorem headsL_get : ∀ (l : List ByteArray) (h : ByteArray) (m : Nat) (r : ByteArray), l[m]? = some r → (headsL h l)[m]? = some (⟨#[2]⟩ ++ headF h (l.take m) ++ r)
  | [], _, m, r, e => by simp at e
  | x :: l, h, 0, r, e => by
    simp only [List.getElem?_cons_zero, Option.some.injEq] at e
    subst e; rfl
  | x :: l, h, m + 1, r, e => by
    rw [List.getElem?_cons_succ] at e
    have := headsL_get l (chainS h x) m r e
    rw [headsL, List.getElem?_cons_succ, this]
    rfl
theorem headsL_size : ∀ (l : List ByteArray) (h : ByteArray), h.size = 32 → (∀ r ∈ l, r.size ≤ 100000) → ∀ z ∈ headsL h l, z.size ≤ 999000
  | [], _, _, _, z, hz => by cases hz
  | r :: l, h, hh, hr, z, hz => by
    rw [headsL, List.mem_cons] at hz
    rcases hz with rfl | hz
    · have := hr r (by simp)
      rw [ba_size_append, ba_size_append, hh]
      show 1 + 32 + r.size ≤ _
      omega
    · exact headsL_size l _ (chainS_size h r) (fun x hx => hr x (by simp [hx])) z hz
theorem OL.lencap {w : World} {B : Nat} {e : TypeId} {α : Type} {f : α → List Value} {A : Option Addr} {k c : Nat} {l : List α} {sz : Nat} (h : OL w B e sz f (.slice A k c) l) : k ≤ c := by
  rcases h.2 with ⟨he, -⟩ | ⟨g, cap, cur, he, h2⟩
  · injection he with _ e2 e3; omega
  · injection he with _ e2 e3
    omega
theorem app_inj {a b c : ByteArray} (h : a ++ b = a ++ c) : b = c := by
  have := congrArg (fun x : ByteArray => x.data.toList) h
  simp only [ba_append, List.append_cancel_left_eq] at this
  exact ba_ext this
/-- Two lists whose strings of heads differ at an index, with the same digest. -/
def Clash (a b : List ByteArray) : Prop := ∃ (m : Nat) (x y : ByteArray), (headsL zero32 a)[m]? = some x ∧ (headsL zero32 b)[m]? = some y ∧ x ≠ y ∧ shaS x.data.toList = shaS y.data.toList
theorem dmg_law {s : DS} {t : TS} {k : Nat} {c : UInt8} (hc : Clean 6000 s t) (hg : Good 6000 t) (hl : s.left = 0) (hk : k < t.size) (hb : s.vis[k]? ≠ some c) (hs : sizedB t.recs (k : Int) = false) :
    (s.wr (k : Int) ⟨#[c]⟩).pend.length ≤ 1 ∧ (s.wr (k : Int) ⟨#[c]⟩).left = 0 ∧
    (openE (s.wr (k : Int) ⟨#[c]⟩) = 262 ∨ (openE (s.wr (k : Int) ⟨#[c]⟩) = 0 ∧ ∃ t', loadW (s.wr (k : Int) ⟨#[c]⟩).vis TS.zero = some t' ∧ Good 6000 t' ∧ ((c = 0 ∧ t'.recs.length < t.recs.length ∧ t'.recs = t.recs.take t'.recs.length) ∨ Clash t.recs t'.recs))) := by
  have hv : s.vis.length = 6000 := by rw [hc.vis]; exact cont_length hg
  have hfit := hg.fit
  have e : s.wr (k : Int) ⟨#[c]⟩ = { s with pend := s.pend ++ [(k, ⟨#[c]⟩)], vis := s.vis.set k c } := by
    rw [wr_in hc.off (by rw [hv]; show k + 1 ≤ _; omega)]
    unfold DS.write
    rw [used0 (by exact hl)]
    have : patch s.vis k (⟨#[c]⟩ : ByteArray).data.toList = s.vis.set k c := by
      unfold patch
      show s.vis.take k ++ [c] ++ s.vis.drop (k + 1) = _
      rw [List.set_eq_take_append_cons_drop, if_pos (by omega)]
      simp
    rw [this]
  rw [e]
  have hlen : (s.vis.set k c).length = 6000 := by rw [List.length_set, hv]
  have hcont : s.vis = storeL zero32 t.recs ++ List.replicate (6000 - t.size) 0 := hc.vis
  have hsz := hg.size
  refine ⟨by dsimp only; rw [hc.pend]; simp, hl, ?_⟩
  obtain ⟨L, hL⟩ : ∃ L, loadW (s.vis.set k c) TS.zero = L := ⟨_, rfl⟩
  cases L with
  | none =>
    left
    unfold openE
    rw [if_neg (by dsimp only; rw [hc.off]; decide)]
    dsimp only
    rw [hL]
  | some t' =>
    right
    obtain ⟨o1, o2⟩ := open_zero (s := { s with pend := s.pend ++ [(k, ⟨#[c]⟩)], vis := s.vis.set k c }) hc.off hl hlen hL
    refine ⟨o1, t', hL, o2, ?_⟩
    have hb' : (storeL TS.zero.head t.recs)[k]? ≠ some c := by
      rw [hcont, List.getElem?_append_left (by omega)] at hb
      exact hb
    rw [hcont] at hL
    rcases damage t.recs TS.zero _ k c t' hg.ok (by show k < (storeL zero32 t.recs).length; omega) hb' hs hL with ⟨h1, m, h2, h3⟩ | ⟨m, r, r', tl, h1, h2, h3, h4⟩
    · left
      have h3' : t'.recs = t.recs.take m := h3
      have hlm : t'.recs.length = m := by rw [h3', List.length_take]; omega
      exact ⟨h1, by omega, by rw [hlm]; exact h3'⟩
    · right
      have h2' : t'.recs = t.recs.take m ++ r' :: tl := by rw [h2]; simp [TS.zero]
      have hm : m < t.recs.length := (List.getElem?_eq_some_iff.1 h1).1
      have hlm : (t.recs.take m).length = m := by rw [List.length_take]; omega
      have hr' : t'.recs[m]? = some r' := by rw [h2', List.getElem?_append_right (by omega), hlm]; simp
      have htk : t'.recs.take m = t.recs.take m := by
        rw [h2', List.take_append, List.take_of_length_le (by omega), hlm]; simp
      have g1 := headsL_get t.recs zero32 m r h1
      have g2 := headsL_get t'.recs zero32 m r' hr'
      rw [htk] at g2
      exact ⟨m, _, _, g1, g2, fun q => h3 (app_inj q), h4⟩

/-- Two lists that a call holds. -/
def Pair2 (W : World) (A B : Option Addr) (a b : List ByteArray) (w : World) : Prop := LAt w w.heap.size A .string a ∧ LAt w w.heap.size B .string b ∧ Below W.heap.size W w
theorem Pair2.below {W w w' : World} {A B : Option Addr} {a b : List ByteArray} (h : Pair2 W A B a b w) (hb : Below w.heap.size w w') : Pair2 W A B a b w' :=
  ⟨(h.1.below hb).more hb.size, (h.2.1.below hb).more hb.size, h.2.2.trans (hb.mono h.2.2.size)⟩
theorem Pair2.low {W w : World} {A B : Option Addr} {a b : List ByteArray} (h : Pair2 W A B a b w) : Below W.heap.size W w := h.2.2
theorem Pair2.drew {W w : World} {A B : Option Addr} {a b : List ByteArray} (h : Pair2 W A B a b w) : Pair2 W A B a b w.drew := h.below (Below.refl _ w).drew
theorem Pair2.sum {W w : World} {A B : Option Addr} {a b : List ByteArray} (h : Pair2 W A B a b w) (u : ByteArray) (hu : u.size ≤ 1000000) : Calls Tryz.prog 28 #[.string u] w fun e w' => e = .returned (.string (shaS u.data.toList)) ∧ Pair2 W A B a b w' :=
  (refsum_walk u hu w).mono fun _ _ ⟨h1, h2⟩ => ⟨h1, h.below h2⟩

end Go.Proofs.YtllmciiadceinaaGreatDoor
end
section
namespace Go.Proofs.YtllmciiadceinaaGreatDoor
open Go Go.RowKit Go.Shelf Wr

structure OneW (W : World) (Z : Nat → Prop) (v : Value) (was : List ByteArray) : Prop where
  o : OLs W 0 v was
  z : ∀ g, v.ownBlock = some g → Z g
theorem OneW.keep {W W' : World} {Z : Nat → Prop} {v : Value} {was : List ByteArray} (h : OneW W Z v was) (t : Turns (fun k => ¬ Z k) W W') : OneW W' Z v was :=
  ⟨h.o.keep fun g hg => t.block g (h.o.lt g hg).2 (fun e => e (h.z g hg)), h.z⟩
theorem OneW.quiet {W W' : World} {Z : Nat → Prop} {v : Value} {was : List ByteArray} (h : OneW W Z v was) (t : Turns (fun _ => False) W W') : OneW W' Z v was := h.keep (t.mono fun _ e => e.elim)
theorem cvOne (c : UInt8) (W : World) : (Go.convert 39 9 (.slice (some ⟨W.heap.size, 0, none⟩) 1 1)).run Tryz.prog (W.alloc (.cells #[.int .u8 (c.toNat : Int)] 5)) = .ok (.string ⟨#[c]⟩) (W.alloc (.cells #[.int .u8 (c.toNat : Int)] 5)) :=
  (RAt.alloc_new (f := bv) (l := [c]) W #[.int .u8 (c.toNat : Int)] 5 rfl).convert (P := Tryz.prog) (cap := 1) (by simp) 39 9 5 Tryz.underlying39 Tryz.underlying5 Tryz.underlying9

set_option maxRecDepth 100000 in
set_option maxHeartbeats 64000000 in
theorem damaged_law (W : World) (a : Addr) (hK : KAt W) (hE : ErrAt W a) (A : Option Addr) (l : List GR) (c : Nat) (hl : l.length ≤ 9223372036854775807) (hA : CAt W W.heap.size A 1 GR.cells l) (hok : ∀ y ∈ l, y.ok W)
    (at0 : Int) (ha1 : -9223372036854775808 ≤ at0) (ha2 : at0 ≤ 9223372036854775807) (cI : Int) (hc1 : 0 ≤ cI) (hc2 : cI ≤ 255) :
    Calls Tryz.prog 4 #[.slice A l.length c, .int .i64 at0, .int .u8 cI] W fun e W' => e = .returned (.bool true) ∧ Below W.heap.size W W' := by
  obtain ⟨c8, rfl⟩ : ∃ c8 : UInt8, cI = (c8.toNat : Int) := ⟨UInt8.ofNat cI.toNat, by simp; omega⟩
  have HK := Lib.hid hK
  have HE := Lib.hid hE
  have HA := Lib.hid hA
  have HOK := Lib.hid hok
  have HSN := Lib.hid (sane_walk W a hK hE)
  have HPK := Lib.hid (fun (u : Nat) (h1 : 0 < u) (h2 : u ≤ 6000) W' => pick_walk W' at0 (u : Int) ha1 ha2 (by omega) (by omega))
  clear hK hE hA hok ha1 ha2 hc1 hc2
  go_enter Tryz.func4, Tryz.ntmps4
  go_wp2_with fail
  refine HSN.out.mono ?_
  rintro e W1 ⟨rfl, hb1⟩
  have hu1 : Turns (fun _ => False) W W1 := Turns.of_below hb1
  have HU1 := Lib.hid hu1
  clear hb1 hu1
  go_wp2_with fail
  refine (new_D (W0 := W) (Z := fun _ => False) HU1.out (fun k e => e.elim) 6000 (by omega) (by omega)).mono ?_
  rintro e W2 ⟨⟨d, rfl, h⟩, -⟩
  have HD := Lib.hid h
  clear h
  go_wp2_with fail
  refine (open_D HD.out (fun k e => e.elim) a HK.out HE.out (by rw [show (DS.fresh 6000).pend = [] from rfl]; decide) (by rw [show (DS.fresh 6000).left = 0 from rfl]; decide)).mono ?_
  obtain ⟨he, ho⟩ := sane_open 6000
  rintro e W3 ⟨hr, -⟩
  unfold OpenD at hr
  rw [he, ho, (fresh_clean 6000).load Good.zero] at hr
  rcases hr with ⟨-, j, t, rfl, ht, hj⟩ | ⟨hn, -⟩
  case inr => exact absurd rfl hn
  cases ht
  obtain ⟨Z, hZ⟩ : ∃ Z : Nat → Prop, Z = fun _ => False := ⟨_, rfl⟩
  rw [← hZ] at hj
  have HJ := Lib.hid hj
  have HZ : Hid (∀ k, ¬ Z k) := Lib.hid (by rw [hZ]; exact fun k e => e)
  have HC : Hid (Clean 6000 (DS.fresh 6000) TS.zero ∧ Good 6000 TS.zero ∧ (DS.fresh 6000).left = 0 ∧ TS.zero.size ≤ 852 * 0) := Lib.hid ⟨fresh_clean 6000, Good.zero, rfl, by decide⟩
  clear hj he ho HD hZ
  go_wp2_with fail
  go_loopw [12] (fun v12 wr => ∃ (k : Nat) (s : DS) (t : TS), k ≤ l.length ∧ k ≤ 6 ∧ v12 = .int .i64 k ∧ Hid (JL W Z wr 6000 d s j t false) ∧ Hid (Clean 6000 s t ∧ Good 6000 t ∧ s.left = 0 ∧ t.size ≤ 852 * k)) (fun v _ => l.length - (intOf v).toNat)
  case atStart => exact ⟨0, _, _, by omega, by omega, rfl, HJ, HC⟩
  case round =>
    clear HJ HC
    obtain ⟨k, s, t, hk, hk6, rfl, hJ, hC⟩ := hrel
    by_cases hlt : k < l.length
    · by_cases hlt2 : k < 6
      · have d1 : decide ((k : Int) < (l.length : Int)) = true := by simp [hlt]
        obtain ⟨p, rfl, hpb, hpc⟩ := HA.out.get hlt
        have hyo := HOK.out _ (List.getElem_mem hlt)
        obtain ⟨y, hy⟩ : ∃ y, l[k] = y := ⟨_, rfl⟩
        rw [hy] at hpc hyo
        obtain ⟨yA, yl, yc⟩ := y
        obtain ⟨o1, o2, o3, o4⟩ := hyo
        dsimp only at o1 o2 o3 o4
        unfold maxLen at o2
        have hcell : wr.cell? (p.add k) = some (.slice yA yl.length yc) := by
          rw [hJ.out.below.cell (p := p.add k) (by rw [addr_add_block]; exact hpb)]
          have := hpc 0 (.slice yA yl.length yc) rfl
          rw [Nat.mul_one, Nat.add_zero] at this
          exact this
        have HF := Lib.hid (few_walk yA yl yc (by omega) wr ((o3.below hJ.out.below).more hJ.out.below.size))
        obtain ⟨s', t', f1, f2, f3, f4, f5, f6, f7, f8⟩ := dmg_step (L := fewS yl) hC.out.1 hC.out.2.1 hC.out.2.2.1 hC.out.2.2.2 hlt2 (fewS_size yl) (fewS_length yl) (fewS_short yl)
        have HF5 := Lib.hid (And.intro f5 (And.intro f6 (And.intro f7 f8)))
        have hfl := fewS_length yl
        obtain ⟨L, hL⟩ : ∃ L, fewS yl = L := ⟨_, rfl⟩
        rw [hL] at HF f1 f2 f3 f4 hfl
        have hpe := hC.out.1.pend
        have hle := hC.out.2.2.1
        have HAP : Hid (∀ w5 A5 c5, OLs w5 wr.heap.size (.slice A5 L.length c5) L → Below wr.heap.size wr w5 → Calls Tryz.prog 10 #[.pointer (some ⟨j, 0, none⟩), .slice A5 L.length c5] w5 fun e W' => e = .returned (.int .i64 0) ∧ JL W Z W' 6000 d s' j t' false) := Lib.hid (fun w5 A5 c5 h5 hb5 => by
          have := append_J (hJ.out.quiet (Turns.of_below hb5)) (fun k e => (HZ.out k e).elim) A5 L L.length c5 rfl h5.lat (by omega) HK.out (by rw [hpe]; decide) (by rw [hle]; decide) hC.out.2.1
          rw [f1, f2, f3, f4] at this
          exact this.mono fun e W' q => ⟨q.1, q.2.1⟩)
        have z1 : (0 : Int) ≤ (k : Int) := by omega
        have z2 : (k : Int) < (l.length : Int) := by omega
        clear f1 f2 f3 f4 f5 f6 f7 f8 hpe hle hL hy hpc o1 o2 o3 o4 hpb
        go_wp2_with (first | (go_at_call 11; refine HF.out.mono ?_; rintro e w5 ⟨⟨v5, rfl, ho5⟩, hb5⟩; obtain ⟨A5, c5, rfl, -, -⟩ := ho5.slice) | (go_at_call 10; refine (HAP.out _ _ _ ho5 hb5).mono ?_; rintro e w6 ⟨rfl, hj6⟩) | fail)
        exact ⟨⟨k + 1, s', t', by omega, by omega, by go_num, Lib.hid hj6, HF5⟩, by simp only [intOf]; omega⟩
      · have d2 : decide ((k : Int) < 6) = false := by simp; omega
        have d1 : decide ((k : Int) < (l.length : Int)) = true := by simp [hlt]
        clear hlt2
        have hrl := recs_le hC.out.2.1
        have hfit := hC.out.2.1.fit
        go_wp2_with fail
        refine (records_O hJ.out.old (by omega)).mono ?_
        rintro e W3 ⟨⟨v3, rfl, ho3⟩, hb3⟩
        obtain ⟨A3, c3, rfl, -, -⟩ := ho3.slice
        obtain ⟨Z3, hZ3⟩ : ∃ Z3 : Nat → Prop, Z3 = fun q => Z q ∨ (wr.heap.size ≤ q ∧ q < W3.heap.size) := ⟨_, rfl⟩
        have HJ3 : Hid (JL W Z3 W3 6000 d s j t false) := Lib.hid (by rw [hZ3]; exact hJ.out.reserve hb3)
        have HZ3 : Hid (∀ q, Z3 q → q < W3.heap.size) := Lib.hid (by rw [hZ3]; exact reserve_lt (fun q e => (HZ.out q e).elim) hb3.size)
        have HL3 : Hid (OneW W3 Z3 (.slice A3 t.recs.length c3) t.recs) := Lib.hid (by
          rw [hZ3]
          exact ⟨ho3.base (Nat.zero_le _), fun g hg => .inr (ho3.lt g hg)⟩)
        have hcap3 := ho3.nilcap
        have hle3 : t.recs.length ≤ c3 := OL.lencap ho3
        clear ho3 hb3 hZ3
        go_wp2_with fail
        refine (room_J HJ3.out hfit).mono ?_
        rintro e W4 ⟨rfl, hj4, hb4⟩
        have HJ4 := Lib.hid hj4
        have HL4 := Lib.hid (HL3.out.quiet (Turns.of_below hb4))
        have HZ4 : Hid (∀ q, Z3 q → q < W4.heap.size) := Lib.hid (fun q hq => Nat.lt_of_lt_of_le (HZ3.out q hq) hb4.size)
        clear hj4 hb4 HJ3 HZ3 HL3 hJ
        obtain ⟨u, hu⟩ : ∃ u, t.size = u := ⟨_, rfl⟩
        have wu : IntKind.i64.wrap (6000 - ((6000 - u : Nat) : Int)) = (u : Int) := by rw [IntKind.wrap_i64]; omega
        rw [hu] at hfit ⊢
        by_cases hu0 : u = 0
        · have hr0 : t.recs.length = 0 := by
            have h1 := hC.out.2.1.size
            cases hrr : t.recs with
            | nil => rfl
            | cons r R => rw [hrr, storeL, List.length_append, recL_length] at h1; omega
          subst hu0
          rw [show ((0 : Nat) : Int) = 0 from rfl] at wu
          have HBZ := Lib.hid HJ4.out.below
          go_wp2_with fail
          go_ret
          exact ⟨by simp, HBZ.out⟩
        · have d5 : decide ((u : Int) ≤ 0) = false := by simp; omega
          have d6 : decide ((6000 : Int) < (u : Int)) = false := by simp; omega
          have HPU := Lib.hid (HPK.out u (by omega) hfit)
          have hpr := pickZ_range at0 (n := (u : Int)) (by omega)
          obtain ⟨pk, hpk⟩ : ∃ pk : Nat, pickZ at0 (u : Int) = (pk : Int) := ⟨(pickZ at0 (u : Int)).toNat, by omega⟩
          rw [hpk] at HPU hpr
          have HSZ := Lib.hid (sized_walk A3 t.recs t.recs.length c3 rfl (by omega) hC.out.2.1.ok (pk : Int) (by omega) (by omega) W4 HL4.out.o.lat)
          clear hpk hu0
          obtain ⟨B, hB⟩ : ∃ B, sizedB t.recs (pk : Int) = B := ⟨_, rfl⟩
          rw [hB] at HSZ
          cases B
          case true =>
            go_wp2_with (first | (go_at_call 14; refine (HPU.out _).mono ?_; rintro e w1 ⟨rfl, rfl⟩) | (go_at_call 26; refine HSZ.out.mono ?_; rintro e w1 ⟨rfl, hb1⟩) | fail)
            have HB5 := Lib.hid (HJ4.out.quiet (Turns.of_below hb1)).below
            go_ret
            exact ⟨rfl, HB5.out⟩
          case false =>
            have HSB := Lib.hid hB
            clear hB
            go_wp2_with (first | (go_at_call 14; refine (HPU.out _).mono ?_; rintro e w1 ⟨rfl, rfl⟩) | (go_at_call 26; refine HSZ.out.mono ?_; rintro e W5 ⟨rfl, hb5⟩) | fail)
            have HJ5 := Lib.hid (HJ4.out.quiet (Turns.of_below hb5))
            have HL5 := Lib.hid (HL4.out.quiet (Turns.of_below hb5))
            have HZ5 : Hid (∀ q, Z3 q → q < W5.heap.size) := Lib.hid (fun q hq => Nat.lt_of_lt_of_le (HZ4.out q hq) hb5.size)
            clear hb5 HSZ HJ4 HL4 HZ4
            have hv : s.vis.length = 6000 := by rw [hC.out.1.vis]; exact cont_length hC.out.2.1
            have hrd : (s.read 0 (6000 : Nat)).1 = ⟨s.vis.toArray⟩ := by
              unfold DS.read
              rw [hC.out.1.off, if_neg (by decide), hv, if_pos (by decide)]
              show (⟨((s.vis.drop 0).take 6000).toArray⟩ : ByteArray) = _
              rw [List.drop_zero, List.take_of_length_le (by omega)]
            have HCT := Lib.hid (content_D HJ5.out.dl)
            rw [hrd] at HCT
            obtain ⟨V, hV⟩ : ∃ V, s.vis = V := ⟨_, rfl⟩
            rw [hV] at HCT hv
            have HV := Lib.hid hV
            have hVs : (⟨V.toArray⟩ : ByteArray).size = 6000 := by rw [ba_mk_size]; exact hv
            obtain ⟨CB, hCB⟩ : ∃ CB : ByteArray, ⟨V.toArray⟩ = CB := ⟨_, rfl⟩
            rw [hCB] at HCT hVs
            have y1 : (0 : Int) ≤ (pk : Int) := by omega
            have y2 : (pk : Int) < (CB.size : Int) := by omega
            obtain ⟨x, hx⟩ : ∃ x, V[pk]? = some x := ⟨_, List.getElem?_eq_getElem (by omega)⟩
            have hxb : CB.data[pk]? = some x := by rw [← hCB]; simpa using hx
            have HX := Lib.hid hx
            clear hrd hV hCB hx
            have hlt7 : pk < CB.size := by omega
            obtain ⟨b, hbe⟩ : ∃ b, CB[pk].toNat = b := ⟨_, rfl⟩
            have hbx : b = x.toNat := by
              rw [← hbe]
              have : CB[pk] = x := (Array.getElem?_eq_some_iff.1 hxb).2
              rw [this]
            by_cases hxc : x = c8
            · have d7 : ((b : Int) == (c8.toNat : Int)) = true := by rw [hbx, hxc]; simp
              clear hbx hxc hxb
              go_wp2_with (first | (go_at_call 22; refine HCT.out.mono ?_; rintro e w1 ⟨rfl, rfl⟩) | fail)
              have HB6 := Lib.hid HJ5.out.below
              go_ret
              exact ⟨by simp, HB6.out⟩
            · have d7 : ((b : Int) == (c8.toNat : Int)) = false := by
                rw [beq_eq_false_iff_ne]
                intro e
                exact hxc (UInt8.toNat_inj.1 (by omega))
              have hcv := cvOne c8
              obtain ⟨g1, g2, g3⟩ := dmg_law (c := c8) hC.out.1 hC.out.2.1 hC.out.2.2.1 (by omega : pk < t.size) (by rw [HV.out, HX.out]; simpa using hxc) HSB.out
              have hpe := hC.out.1.pend
              have hle := hC.out.2.2.1
              clear hbx hxc hxb
              go_wp2_with (first | (go_at_call 22; refine HCT.out.mono ?_; rintro e w1 ⟨rfl, rfl⟩) | fail)
              refine (write_J (HJ5.out.quiet (Turns.alloc W5 (.cells #[.int .u8 (c8.toNat : Int)] 5))) (fun q hq => Nat.lt_of_lt_of_le (HZ5.out q hq) (by rw [World.size_alloc]; omega)) (pk : Int) ⟨#[c8]⟩ (by show 1 ≤ _; omega) (by rw [hpe]; decide) (by rw [hle]; decide)).mono ?_
              rintro e W7 ⟨rfl, hj7, ht7⟩
              have HL7 := Lib.hid ((HL5.out.quiet (Turns.alloc W5 (.cells #[.int .u8 (c8.toNat : Int)] 5))).keep ht7)
              have HJ7 := Lib.hid hj7.dl
              have HZ7 : Hid (∀ q, Z3 q → q < W7.heap.size) := Lib.hid (fun q hq => Nat.lt_of_lt_of_le (HZ5.out q hq) (by have := ht7.size; rw [World.size_alloc] at this; omega))
              obtain ⟨s7, hs7⟩ : ∃ s7, s.wr (pk : Int) ⟨#[c8]⟩ = s7 := ⟨_, rfl⟩
              rw [hs7] at HJ7 g1 g2 g3
              have HG := Lib.hid g3
              clear hj7 ht7 HJ5 HL5 HZ5 hs7 g3 d7 y1 y2 HCT hcv hpe hle hbe
              go_wp2_with fail
              refine (open_D HJ7.out HZ7.out a HK.out HE.out (by omega) (by rw [g2]; decide)).mono ?_
              rintro e W8 ⟨hr, ht8⟩
              have HL8 := Lib.hid (HL7.out.keep ht8)
              unfold OpenD at hr
              rcases HG.out with hg | ⟨hg, t6, hld, hg6, hcase⟩
              · rw [hg] at hr
                rcases hr with ⟨hn, -⟩ | ⟨-, rfl, hd8⟩
                · exact absurd hn (by decide)
                · have HB8 := Lib.hid hd8.below
                  clear hd8 ht8
                  go_wp2_with fail
                  go_ret
                  exact ⟨rfl, HB8.out⟩
              · rw [hg, hld] at hr
                rcases hr with ⟨-, j6, t6', rfl, ht6, hj8⟩ | ⟨hn, -⟩
                case inr => exact absurd rfl hn
                cases ht6
                have HJ8 := Lib.hid hj8
                have hrl6 := recs_le hg6
                have HG6 := Lib.hid hg6.ok
                have HG0 := Lib.hid hC.out.2.1.ok
                have HCASE := Lib.hid hcase
                clear hj8 ht8 hg hld hg6 hcase HG HJ7 HL7 HZ7 g1 g2
                go_wp2_with fail
                refine (records_O HJ8.out.old (by omega)).mono ?_
                rintro e W9 ⟨⟨v9, rfl, ho9⟩, hb9⟩
                obtain ⟨A9, c9, rfl, -, -⟩ := ho9.slice
                obtain ⟨is, his⟩ : ∃ is, t6.recs = is := ⟨_, rfl⟩
                obtain ⟨was, hwas⟩ : ∃ was, t.recs = was := ⟨_, rfl⟩
                rw [his] at ho9 hrl6 HG6 HCASE ⊢
                rw [hwas] at HL8 hrl hle3 HG0 HCASE ⊢
                have HP9 : Hid (Pair2 W A3 A9 was is W9) := Lib.hid ⟨(HL8.out.o.lat.below hb9).more hb9.size, ho9.lat, HJ8.out.below.trans (hb9.mono HJ8.out.below.size)⟩
                have hle9 : is.length ≤ c9 := OL.lencap ho9
                clear ho9 hb9 HJ8 HL8 his hwas
                by_cases q0 : c8 = 0
                · subst q0
                  by_cases q1 : is.length < was.length
                  · have d8 : decide ((is.length : Int) < (was.length : Int)) = true := by simp [q1]
                    have HSM := Lib.hid (fun w (h : Pair2 W A3 A9 was is w) => same_walk A9 A3 is (was.take is.length) is.length is.length c9 c3 rfl (by rw [List.length_take]; omega) (by omega) w h.2.1 (h.1.take is.length))
                    have y5 : (0 : Int) ≤ (is.length : Int) := by omega
                    have y6 : (is.length : Int) ≤ (c3 : Int) := by omega
                    by_cases q2 : is = was.take is.length
                    · rw [show decide (is = was.take is.length) = true by simpa using q2] at HSM
                      clear q2
                      go_wp2_with (first | (go_at_call 18; refine (HSM.out _ HP9.out).mono ?_; rintro e W10 ⟨rfl, hb10⟩) | fail)
                      have HB10 := Lib.hid (HP9.out.below hb10).2.2
                      go_ret
                      exact ⟨rfl, HB10.out⟩
                    · rw [show decide (is = was.take is.length) = false by simpa using q2] at HSM
                      have HCL : Hid (Clash was is) := Lib.hid (HCASE.out.resolve_left fun h => q2 h.2.2)
                      clear q2 HCASE
                      go_wp2_with (first | (go_at_call 18; refine (HSM.out _ HP9.out).mono ?_; rintro e W10 ⟨rfl, hb10⟩; have HP10 := Lib.hid (HP9.out.below hb10); clear hb10) | fail)
                      refine (heads_walk A3 was was.length c3 rfl (by omega) (fun r hr => by have := HG0.out r hr; omega) _ HP10.out.1).mono ?_
                      rintro e W11 ⟨⟨v11, rfl, ho11⟩, hb11⟩
                      obtain ⟨A11, c11, rfl, -, -⟩ := ho11.slice
                      have HP11 := Lib.hid (HP10.out.below hb11)
                      have HO11 := Lib.hid ho11
                      clear ho11 hb11 HP10
                      go_wp2_with fail
                      refine (heads_walk A9 is is.length c9 rfl (by omega) (fun r hr => by have := HG6.out r hr; omega) _ HP11.out.2.1).mono ?_
                      rintro e W12 ⟨⟨v12, rfl, ho12⟩, hb12⟩
                      obtain ⟨A12, c12, rfl, -, -⟩ := ho12.slice
                      obtain ⟨m, x, y, m1, m2, m3, m4⟩ := HCL.out
                      have hsx : ∀ z ∈ headsL zero32 was, z.size ≤ 999000 := headsL_size _ _ zero32_size (fun r hr => Nat.le_trans (HG0.out r hr) (by omega))
                      have hsy : ∀ z ∈ headsL zero32 is, z.size ≤ 999000 := headsL_size _ _ zero32_size (fun r hr => Nat.le_trans (HG6.out r hr) (by omega))
                      obtain ⟨La, hLa⟩ : ∃ La, headsL zero32 was = La := ⟨_, rfl⟩
                      obtain ⟨Lb, hLb⟩ : ∃ Lb, headsL zero32 is = Lb := ⟨_, rfl⟩
                      have hLA : La.length ≤ 6000 := by rw [← hLa, headsL_length]; omega
                      rw [hLa] at m1 HO11 hsx ⊢
                      rw [hLb] at m2 ho12 hsy ⊢
                      have HQ : Hid (Pair2 W A11 A12 La Lb W12) := Lib.hid ⟨(HO11.out.lat.below hb12).more hb12.size, ho12.lat, HP11.out.2.2.trans (hb12.mono HP11.out.2.2.size)⟩
                      have HSX := Lib.hid hsx
                      have HSY := Lib.hid hsy
                      have HM1 := Lib.hid m1
                      have HM2 := Lib.hid m2
                      have HM3 := Lib.hid m3
                      have HM4 := Lib.hid m4
                      have hma : m < La.length := (List.getElem?_eq_some_iff.1 m1).1
                      have hmb : m < Lb.length := (List.getElem?_eq_some_iff.1 m2).1
                      clear ho12 hb12 HO11 HP11 hLa hLb hsx hsy m1 m2 m3 m4 HCL
                      go_wp2_with fail
                      go_loopw [23] (fun v23 wz => ∃ i : Nat, i ≤ m ∧ v23 = .int .i64 i ∧ Hid (Pair2 W A11 A12 La Lb wz)) (fun v _ => La.length - (intOf v).toNat)
                      case atStart => exact ⟨0, by omega, rfl, HQ⟩
                      case round =>
                        obtain ⟨i, hi, rfl, hQ⟩ := hrel
                        clear HQ
                        obtain ⟨pa, rfl, hab, hac⟩ := hQ.out.1.get (by omega : i < La.length)
                        obtain ⟨pb, rfl, hbb, hbc⟩ := hQ.out.2.1.get (by omega : i < Lb.length)
                        have hsx := HSX.out La[i] (List.getElem_mem _)
                        have hsy := HSY.out Lb[i] (List.getElem_mem _)
                        obtain ⟨xi, hxi⟩ : ∃ xi, La[i] = xi := ⟨_, rfl⟩
                        obtain ⟨yi, hyi⟩ : ∃ yi, Lb[i] = yi := ⟨_, rfl⟩
                        have HXI : Hid (La[i]? = some xi) := Lib.hid (by rw [← hxi]; exact List.getElem?_eq_getElem (by omega))
                        have HYI : Hid (Lb[i]? = some yi) := Lib.hid (by rw [← hyi]; exact List.getElem?_eq_getElem (by omega))
                        rw [hxi] at hac hsx
                        rw [hyi] at hbc hsy
                        have HCELL := Lib.hid (show ∀ w, Pair2 W (some pa) (some pb) La Lb w → Pair2 W (some pa) (some pb) La Lb w ∧ w.cell? (pa.add i) = some (.string xi) ∧ w.cell? (pb.add i) = some (.string yi) from fun w h => by
                          obtain ⟨q1, e1, -, r1⟩ := h.1 i xi HXI.out
                          obtain ⟨q2, e2, -, r2⟩ := h.2.1 i yi HYI.out
                          cases e1; cases e2
                          exact ⟨h, r1, r2⟩)
                        have HFST := Lib.hid (show ∀ w, (Pair2 W (some pa) (some pb) La Lb w ∧ w.cell? (pa.add i) = some (.string xi) ∧ w.cell? (pb.add i) = some (.string yi)) → Pair2 W (some pa) (some pb) La Lb w from fun w h => h.1)
                        have HSUM := Lib.hid (show ∀ (u : ByteArray) w, u.size ≤ 999000 → Pair2 W (some pa) (some pb) La Lb w → Calls Tryz.prog 28 #[.string u] w fun e w' => e = .returned (.string (shaS u.data.toList)) ∧ Pair2 W (some pa) (some pb) La Lb w' from fun u w hu h => h.sum u (by omega))
                        have hS0 := HCELL.out _ (Pair2.drew hQ.out)
                        have z1 : (0 : Int) ≤ (i : Int) := by omega
                        have z2 : (i : Int) < (La.length : Int) := by omega
                        have z3 : (i : Int) < (Lb.length : Int) := by omega
                        have z4 : decide ((i : Int) < (La.length : Int)) = true := by simp; omega
                        have z5 : decide ((i : Int) < (Lb.length : Int)) = true := by simp; omega
                        clear hxi hyi hab hbb
                        by_cases hxy : xi = yi
                        · have e1 : (xi.toList == yi.toList) = false ∨ (xi.toList == yi.toList) = true := by cases (xi.toList == yi.toList) <;> simp
                          have e2 : (xi.toList == yi.toList) = true := by rw [hxy]; simp
                          have HNE : Hid (i ≠ m) := Lib.hid (fun q => by
                            subst q
                            have h1 := HXI.out
                            have h2 := HYI.out
                            rw [HM1.out] at h1
                            rw [HM2.out] at h2
                            exact HM3.out (by rw [Option.some.inj h1, Option.some.inj h2, hxy]))
                          clear hxy e1
                          go_wp2_with fail
                          go_quiet (fail)
                          go_wp2_with fail
                          have hne := HNE.out
                          exact ⟨⟨i + 1, by omega, by go_num, Lib.hid (hQ.out.below (Below.drewN' (Below.refl _ _) nq))⟩, by simp [intOf]; omega⟩
                        · have e2 : (xi.toList == yi.toList) = false := by rw [str_eq]; simp [hxy]
                          clear hxy
                          by_cases hsh : shaS xi.data.toList = shaS yi.data.toList
                          · have q1 : ((shaS xi.data.toList).toList == (shaS yi.data.toList).toList) = true := by rw [str_eq]; simp [hsh]
                            clear hsh
                            go_wp2_with fail
                            go_region_held3 (fun w' => Pair2 W (some pa) (some pb) La Lb w' ∧ w'.cell? (pa.add i) = some (.string xi) ∧ w'.cell? (pb.add i) = some (.string yi)) (first | assumption | exact HCELL.out _ (by assumption) | fail)
                              (first
                                | (go_at_call 28; (with_reducible refine (HSUM.out xi _ hsx ?_).mono ?_); (· exact HFST.out _ (by assumption)); rintro e Wq ⟨rfl, hstW⟩)
                                | (go_at_call 28; (with_reducible refine (HSUM.out yi _ hsy ?_).mono ?_); (· exact HFST.out _ (by assumption)); rintro e Wq ⟨rfl, hstW⟩)
                                | fail)
                            all_goals
                              go_wp2_with fail
                              go_ret
                              exact ⟨rfl, Pair2.low (by assumption)⟩
                          · have q1 : ((shaS xi.data.toList).toList == (shaS yi.data.toList).toList) = false := by rw [str_eq]; simp [hsh]
                            have HNE : Hid (i ≠ m) := Lib.hid (fun q => by
                              subst q
                              have h1 := HXI.out
                              have h2 := HYI.out
                              rw [HM1.out] at h1
                              rw [HM2.out] at h2
                              exact hsh (by rw [← Option.some.inj h1, ← Option.some.inj h2]; exact HM4.out))
                            clear hsh
                            go_wp2_with fail
                            go_region_held3 (fun w' => Pair2 W (some pa) (some pb) La Lb w' ∧ w'.cell? (pa.add i) = some (.string xi) ∧ w'.cell? (pb.add i) = some (.string yi)) (first | assumption | exact HCELL.out _ (by assumption) | fail)
                              (first
                                | (go_at_call 28; (with_reducible refine (HSUM.out xi _ hsx ?_).mono ?_); (· exact HFST.out _ (by assumption)); rintro e Wq ⟨rfl, hstW⟩)
                                | (go_at_call 28; (with_reducible refine (HSUM.out yi _ hsy ?_).mono ?_); (· exact HFST.out _ (by assumption)); rintro e Wq ⟨rfl, hstW⟩)
                                | fail)
                            all_goals
                              go_wp2_with fail
                              have hne := HNE.out
                              exact ⟨⟨i + 1, by omega, by go_num, Lib.hid (by assumption)⟩, by simp [intOf]; omega⟩
                  · have d8 : decide ((is.length : Int) < (was.length : Int)) = false := by simp; omega
                    have d8n : decide (is.length < was.length) = false := by simpa using q1
                    have HCL : Hid (Clash was is) := Lib.hid (HCASE.out.resolve_left fun h => q1 h.2.1)
                    have HP10 := HP9
                    obtain ⟨W10, hW10⟩ : ∃ W10, W9 = W10 := ⟨_, rfl⟩
                    subst hW10
                    clear q1 HCASE HP9
                    go_wp2_with fail
                    refine (heads_walk A3 was was.length c3 rfl (by omega) (fun r hr => by have := HG0.out r hr; omega) _ HP10.out.1).mono ?_
                    rintro e W11 ⟨⟨v11, rfl, ho11⟩, hb11⟩
                    obtain ⟨A11, c11, rfl, -, -⟩ := ho11.slice
                    have HP11 := Lib.hid (HP10.out.below hb11)
                    have HO11 := Lib.hid ho11
                    clear ho11 hb11 HP10
                    go_wp2_with fail
                    refine (heads_walk A9 is is.length c9 rfl (by omega) (fun r hr => by have := HG6.out r hr; omega) _ HP11.out.2.1).mono ?_
                    rintro e W12 ⟨⟨v12, rfl, ho12⟩, hb12⟩
                    obtain ⟨A12, c12, rfl, -, -⟩ := ho12.slice
                    obtain ⟨m, x, y, m1, m2, m3, m4⟩ := HCL.out
                    have hsx : ∀ z ∈ headsL zero32 was, z.size ≤ 999000 := headsL_size _ _ zero32_size (fun r hr => Nat.le_trans (HG0.out r hr) (by omega))
                    have hsy : ∀ z ∈ headsL zero32 is, z.size ≤ 999000 := headsL_size _ _ zero32_size (fun r hr => Nat.le_trans (HG6.out r hr) (by omega))
                    obtain ⟨La, hLa⟩ : ∃ La, headsL zero32 was = La := ⟨_, rfl⟩
                    obtain ⟨Lb, hLb⟩ : ∃ Lb, headsL zero32 is = Lb := ⟨_, rfl⟩
                    have hLA : La.length ≤ 6000 := by rw [← hLa, headsL_length]; omega
                    rw [hLa] at m1 HO11 hsx ⊢
                    rw [hLb] at m2 ho12 hsy ⊢
                    have HQ : Hid (Pair2 W A11 A12 La Lb W12) := Lib.hid ⟨(HO11.out.lat.below hb12).more hb12.size, ho12.lat, HP11.out.2.2.trans (hb12.mono HP11.out.2.2.size)⟩
                    have HSX := Lib.hid hsx
                    have HSY := Lib.hid hsy
                    have HM1 := Lib.hid m1
                    have HM2 := Lib.hid m2
                    have HM3 := Lib.hid m3
                    have HM4 := Lib.hid m4
                    have hma : m < La.length := (List.getElem?_eq_some_iff.1 m1).1
                    have hmb : m < Lb.length := (List.getElem?_eq_some_iff.1 m2).1
                    clear ho12 hb12 HO11 HP11 hLa hLb hsx hsy m1 m2 m3 m4 HCL
                    go_wp2_with fail
                    go_loopw [23] (fun v23 wz => ∃ i : Nat, i ≤ m ∧ v23 = .int .i64 i ∧ Hid (Pair2 W A11 A12 La Lb wz)) (fun v _ => La.length - (intOf v).toNat)
                    case atStart => exact ⟨0, by omega, rfl, HQ⟩
                    case round =>
                      obtain ⟨i, hi, rfl, hQ⟩ := hrel
                      clear HQ
                      obtain ⟨pa, rfl, hab, hac⟩ := hQ.out.1.get (by omega : i < La.length)
                      obtain ⟨pb, rfl, hbb, hbc⟩ := hQ.out.2.1.get (by omega : i < Lb.length)
                      have hsx := HSX.out La[i] (List.getElem_mem _)
                      have hsy := HSY.out Lb[i] (List.getElem_mem _)
                      obtain ⟨xi, hxi⟩ : ∃ xi, La[i] = xi := ⟨_, rfl⟩
                      obtain ⟨yi, hyi⟩ : ∃ yi, Lb[i] = yi := ⟨_, rfl⟩
                      have HXI : Hid (La[i]? = some xi) := Lib.hid (by rw [← hxi]; exact List.getElem?_eq_getElem (by omega))
                      have HYI : Hid (Lb[i]? = some yi) := Lib.hid (by rw [← hyi]; exact List.getElem?_eq_getElem (by omega))
                      rw [hxi] at hac hsx
                      rw [hyi] at hbc hsy
                      have HCELL := Lib.hid (show ∀ w, Pair2 W (some pa) (some pb) La Lb w → Pair2 W (some pa) (some pb) La Lb w ∧ w.cell? (pa.add i) = some (.string xi) ∧ w.cell? (pb.add i) = some (.string yi) from fun w h => by
                        obtain ⟨q1, e1, -, r1⟩ := h.1 i xi HXI.out
                        obtain ⟨q2, e2, -, r2⟩ := h.2.1 i yi HYI.out
                        cases e1; cases e2
                        exact ⟨h, r1, r2⟩)
                      have HFST := Lib.hid (show ∀ w, (Pair2 W (some pa) (some pb) La Lb w ∧ w.cell? (pa.add i) = some (.string xi) ∧ w.cell? (pb.add i) = some (.string yi)) → Pair2 W (some pa) (some pb) La Lb w from fun w h => h.1)
                      have HSUM := Lib.hid (show ∀ (u : ByteArray) w, u.size ≤ 999000 → Pair2 W (some pa) (some pb) La Lb w → Calls Tryz.prog 28 #[.string u] w fun e w' => e = .returned (.string (shaS u.data.toList)) ∧ Pair2 W (some pa) (some pb) La Lb w' from fun u w hu h => h.sum u (by omega))
                      have hS0 := HCELL.out _ (Pair2.drew hQ.out)
                      have z1 : (0 : Int) ≤ (i : Int) := by omega
                      have z2 : (i : Int) < (La.length : Int) := by omega
                      have z3 : (i : Int) < (Lb.length : Int) := by omega
                      have z4 : decide ((i : Int) < (La.length : Int)) = true := by simp; omega
                      have z5 : decide ((i : Int) < (Lb.length : Int)) = true := by simp; omega
                      clear hxi hyi hab hbb
                      by_cases hxy : xi = yi
                      · have e1 : (xi.toList == yi.toList) = false ∨ (xi.toList == yi.toList) = true := by cases (xi.toList == yi.toList) <;> simp
                        have e2 : (xi.toList == yi.toList) = true := by rw [hxy]; simp
                        have HNE : Hid (i ≠ m) := Lib.hid (fun q => by
                          subst q
                          have h1 := HXI.out
                          have h2 := HYI.out
                          rw [HM1.out] at h1
                          rw [HM2.out] at h2
                          exact HM3.out (by rw [Option.some.inj h1, Option.some.inj h2, hxy]))
                        clear hxy e1
                        go_wp2_with fail
                        go_quiet (fail)
                        go_wp2_with fail
                        have hne := HNE.out
                        exact ⟨⟨i + 1, by omega, by go_num, Lib.hid (hQ.out.below (Below.drewN' (Below.refl _ _) nq))⟩, by simp [intOf]; omega⟩
                      · have e2 : (xi.toList == yi.toList) = false := by rw [str_eq]; simp [hxy]
                        clear hxy
                        by_cases hsh : shaS xi.data.toList = shaS yi.data.toList
                        · have q1 : ((shaS xi.data.toList).toList == (shaS yi.data.toList).toList) = true := by rw [str_eq]; simp [hsh]
                          clear hsh
                          go_wp2_with fail
                          go_region_held3 (fun w' => Pair2 W (some pa) (some pb) La Lb w' ∧ w'.cell? (pa.add i) = some (.string xi) ∧ w'.cell? (pb.add i) = some (.string yi)) (first | assumption | exact HCELL.out _ (by assumption) | fail)
                            (first
                              | (go_at_call 28; (with_reducible refine (HSUM.out xi _ hsx ?_).mono ?_); (· exact HFST.out _ (by assumption)); rintro e Wq ⟨rfl, hstW⟩)
                              | (go_at_call 28; (with_reducible refine (HSUM.out yi _ hsy ?_).mono ?_); (· exact HFST.out _ (by assumption)); rintro e Wq ⟨rfl, hstW⟩)
                              | fail)
                          all_goals
                            go_wp2_with fail
                            go_ret
                            exact ⟨rfl, Pair2.low (by assumption)⟩
                        · have q1 : ((shaS xi.data.toList).toList == (shaS yi.data.toList).toList) = false := by rw [str_eq]; simp [hsh]
                          have HNE : Hid (i ≠ m) := Lib.hid (fun q => by
                            subst q
                            have h1 := HXI.out
                            have h2 := HYI.out
                            rw [HM1.out] at h1
                            rw [HM2.out] at h2
                            exact hsh (by rw [← Option.some.inj h1, ← Option.some.inj h2]; exact HM4.out))
                          clear hsh
                          go_wp2_with fail
                          go_region_held3 (fun w' => Pair2 W (some pa) (some pb) La Lb w' ∧ w'.cell? (pa.add i) = some (.string xi) ∧ w'.cell? (pb.add i) = some (.string yi)) (first | assumption | exact HCELL.out _ (by assumption) | fail)
                            (first
                              | (go_at_call 28; (with_reducible refine (HSUM.out xi _ hsx ?_).mono ?_); (· exact HFST.out _ (by assumption)); rintro e Wq ⟨rfl, hstW⟩)
                              | (go_at_call 28; (with_reducible refine (HSUM.out yi _ hsy ?_).mono ?_); (· exact HFST.out _ (by assumption)); rintro e Wq ⟨rfl, hstW⟩)
                              | fail)
                          all_goals
                            go_wp2_with fail
                            have hne := HNE.out
                            exact ⟨⟨i + 1, by omega, by go_num, Lib.hid (by assumption)⟩, by simp [intOf]; omega⟩
                · have d9 : ((c8.toNat : Int) == 0) = false := by
                    rw [beq_eq_false_iff_ne]
                    intro e
                    exact q0 (UInt8.toNat_inj.1 (by simp; omega))
                  have HCL : Hid (Clash was is) := Lib.hid (HCASE.out.resolve_left fun h => q0 h.1)
                  have HP10 := HP9
                  obtain ⟨W10, hW10⟩ : ∃ W10, W9 = W10 := ⟨_, rfl⟩
                  subst hW10
                  clear q0 HCASE HP9
                  go_wp2_with fail
                  refine (heads_walk A3 was was.length c3 rfl (by omega) (fun r hr => by have := HG0.out r hr; omega) _ HP10.out.1).mono ?_
                  rintro e W11 ⟨⟨v11, rfl, ho11⟩, hb11⟩
                  obtain ⟨A11, c11, rfl, -, -⟩ := ho11.slice
                  have HP11 := Lib.hid (HP10.out.below hb11)
                  have HO11 := Lib.hid ho11
                  clear ho11 hb11 HP10
                  go_wp2_with fail
                  refine (heads_walk A9 is is.length c9 rfl (by omega) (fun r hr => by have := HG6.out r hr; omega) _ HP11.out.2.1).mono ?_
                  rintro e W12 ⟨⟨v12, rfl, ho12⟩, hb12⟩
                  obtain ⟨A12, c12, rfl, -, -⟩ := ho12.slice
                  obtain ⟨m, x, y, m1, m2, m3, m4⟩ := HCL.out
                  have hsx : ∀ z ∈ headsL zero32 was, z.size ≤ 999000 := headsL_size _ _ zero32_size (fun r hr => Nat.le_trans (HG0.out r hr) (by omega))
                  have hsy : ∀ z ∈ headsL zero32 is, z.size ≤ 999000 := headsL_size _ _ zero32_size (fun r hr => Nat.le_trans (HG6.out r hr) (by omega))
                  obtain ⟨La, hLa⟩ : ∃ La, headsL zero32 was = La := ⟨_, rfl⟩
                  obtain ⟨Lb, hLb⟩ : ∃ Lb, headsL zero32 is = Lb := ⟨_, rfl⟩
                  have hLA : La.length ≤ 6000 := by rw [← hLa, headsL_length]; omega
                  rw [hLa] at m1 HO11 hsx ⊢
                  rw [hLb] at m2 ho12 hsy ⊢
                  have HQ : Hid (Pair2 W A11 A12 La Lb W12) := Lib.hid ⟨(HO11.out.lat.below hb12).more hb12.size, ho12.lat, HP11.out.2.2.trans (hb12.mono HP11.out.2.2.size)⟩
                  have HSX := Lib.hid hsx
                  have HSY := Lib.hid hsy
                  have HM1 := Lib.hid m1
                  have HM2 := Lib.hid m2
                  have HM3 := Lib.hid m3
                  have HM4 := Lib.hid m4
                  have hma : m < La.length := (List.getElem?_eq_some_iff.1 m1).1
                  have hmb : m < Lb.length := (List.getElem?_eq_some_iff.1 m2).1
                  clear ho12 hb12 HO11 HP11 hLa hLb hsx hsy m1 m2 m3 m4 HCL
                  go_wp2_with fail
                  go_loopw [23] (fun v23 wz => ∃ i : Nat, i ≤ m ∧ v23 = .int .i64 i ∧ Hid (Pair2 W A11 A12 La Lb wz)) (fun v _ => La.length - (intOf v).toNat)
                  case atStart => exact ⟨0, by omega, rfl, HQ⟩
                  case round =>
                    obtain ⟨i, hi, rfl, hQ⟩ := hrel
                    clear HQ
                    obtain ⟨pa, rfl, hab, hac⟩ := hQ.out.1.get (by omega : i < La.length)
                    obtain ⟨pb, rfl, hbb, hbc⟩ := hQ.out.2.1.get (by omega : i < Lb.length)
                    have hsx := HSX.out La[i] (List.getElem_mem _)
                    have hsy := HSY.out Lb[i] (List.getElem_mem _)
                    obtain ⟨xi, hxi⟩ : ∃ xi, La[i] = xi := ⟨_, rfl⟩
                    obtain ⟨yi, hyi⟩ : ∃ yi, Lb[i] = yi := ⟨_, rfl⟩
                    have HXI : Hid (La[i]? = some xi) := Lib.hid (by rw [← hxi]; exact List.getElem?_eq_getElem (by omega))
                    have HYI : Hid (Lb[i]? = some yi) := Lib.hid (by rw [← hyi]; exact List.getElem?_eq_getElem (by omega))
                    rw [hxi] at hac hsx
                    rw [hyi] at hbc hsy
                    have HCELL := Lib.hid (show ∀ w, Pair2 W (some pa) (some pb) La Lb w → Pair2 W (some pa) (some pb) La Lb w ∧ w.cell? (pa.add i) = some (.string xi) ∧ w.cell? (pb.add i) = some (.string yi) from fun w h => by
                      obtain ⟨q1, e1, -, r1⟩ := h.1 i xi HXI.out
                      obtain ⟨q2, e2, -, r2⟩ := h.2.1 i yi HYI.out
                      cases e1; cases e2
                      exact ⟨h, r1, r2⟩)
                    have HFST := Lib.hid (show ∀ w, (Pair2 W (some pa) (some pb) La Lb w ∧ w.cell? (pa.add i) = some (.string xi) ∧ w.cell? (pb.add i) = some (.string yi)) → Pair2 W (some pa) (some pb) La Lb w from fun w h => h.1)
                    have HSUM := Lib.hid (show ∀ (u : ByteArray) w, u.size ≤ 999000 → Pair2 W (some pa) (some pb) La Lb w → Calls Tryz.prog 28 #[.string u] w fun e w' => e = .returned (.string (shaS u.data.toList)) ∧ Pair2 W (some pa) (some pb) La Lb w' from fun u w hu h => h.sum u (by omega))
                    have hS0 := HCELL.out _ (Pair2.drew hQ.out)
                    have z1 : (0 : Int) ≤ (i : Int) := by omega
                    have z2 : (i : Int) < (La.length : Int) := by omega
                    have z3 : (i : Int) < (Lb.length : Int) := by omega
                    have z4 : decide ((i : Int) < (La.length : Int)) = true := by simp; omega
                    have z5 : decide ((i : Int) < (Lb.length : Int)) = true := by simp; omega
                    clear hxi hyi hab hbb
                    by_cases hxy : xi = yi
                    · have e1 : (xi.toList == yi.toList) = false ∨ (xi.toList == yi.toList) = true := by cases (xi.toList == yi.toList) <;> simp
                      have e2 : (xi.toList == yi.toList) = true := by rw [hxy]; simp
                      have HNE : Hid (i ≠ m) := Lib.hid (fun q => by
                        subst q
                        have h1 := HXI.out
                        have h2 := HYI.out
                        rw [HM1.out] at h1
                        rw [HM2.out] at h2
                        exact HM3.out (by rw [Option.some.inj h1, Option.some.inj h2, hxy]))
                      clear hxy e1
                      go_wp2_with fail
                      go_quiet (fail)
                      go_wp2_with fail
                      have hne := HNE.out
                      exact ⟨⟨i + 1, by omega, by go_num, Lib.hid (hQ.out.below (Below.drewN' (Below.refl _ _) nq))⟩, by simp [intOf]; omega⟩
                    · have e2 : (xi.toList == yi.toList) = false := by rw [str_eq]; simp [hxy]
                      clear hxy
                      by_cases hsh : shaS xi.data.toList = shaS yi.data.toList
                      · have q1 : ((shaS xi.data.toList).toList == (shaS yi.data.toList).toList) = true := by rw [str_eq]; simp [hsh]
                        clear hsh
                        go_wp2_with fail
                        go_region_held3 (fun w' => Pair2 W (some pa) (some pb) La Lb w' ∧ w'.cell? (pa.add i) = some (.string xi) ∧ w'.cell? (pb.add i) = some (.string yi)) (first | assumption | exact HCELL.out _ (by assumption) | fail)
                          (first
                            | (go_at_call 28; (with_reducible refine (HSUM.out xi _ hsx ?_).mono ?_); (· exact HFST.out _ (by assumption)); rintro e Wq ⟨rfl, hstW⟩)
                            | (go_at_call 28; (with_reducible refine (HSUM.out yi _ hsy ?_).mono ?_); (· exact HFST.out _ (by assumption)); rintro e Wq ⟨rfl, hstW⟩)
                            | fail)
                        all_goals
                          go_wp2_with fail
                          go_ret
                          exact ⟨rfl, Pair2.low (by assumption)⟩
                      · have q1 : ((shaS xi.data.toList).toList == (shaS yi.data.toList).toList) = false := by rw [str_eq]; simp [hsh]
                        have HNE : Hid (i ≠ m) := Lib.hid (fun q => by
                          subst q
                          have h1 := HXI.out
                          have h2 := HYI.out
                          rw [HM1.out] at h1
                          rw [HM2.out] at h2
                          exact hsh (by rw [← Option.some.inj h1, ← Option.some.inj h2]; exact HM4.out))
                        clear hsh
                        go_wp2_with fail
                        go_region_held3 (fun w' => Pair2 W (some pa) (some pb) La Lb w' ∧ w'.cell? (pa.add i) = some (.string xi) ∧ w'.cell? (pb.add i) = some (.string yi)) (first | assumption | exact HCELL.out _ (by assumption) | fail)
                          (first
                            | (go_at_call 28; (with_reducible refine (HSUM.out xi _ hsx ?_).mono ?_); (· exact HFST.out _ (by assumption)); rintro e Wq ⟨rfl, hstW⟩)
                            | (go_at_call 28; (with_reducible refine (HSUM.out yi _ hsy ?_).mono ?_); (· exact HFST.out _ (by assumption)); rintro e Wq ⟨rfl, hstW⟩)
                            | fail)
                        all_goals
                          go_wp2_with fail
                          have hne := HNE.out
                          exact ⟨⟨i + 1, by omega, by go_num, Lib.hid (by assumption)⟩, by simp [intOf]; omega⟩
    · have d1 : decide ((k : Int) < (l.length : Int)) = false := by simp; omega
      obtain rfl : k = l.length := by omega
      clear hlt
      have hrl := recs_le hC.out.2.1
      have hfit := hC.out.2.1.fit
      go_wp2_with fail
      refine (records_O hJ.out.old (by omega)).mono ?_
      rintro e W3 ⟨⟨v3, rfl, ho3⟩, hb3⟩
      obtain ⟨A3, c3, rfl, -, -⟩ := ho3.slice
      obtain ⟨Z3, hZ3⟩ : ∃ Z3 : Nat → Prop, Z3 = fun q => Z q ∨ (wr.heap.size ≤ q ∧ q < W3.heap.size) := ⟨_, rfl⟩
      have HJ3 : Hid (JL W Z3 W3 6000 d s j t false) := Lib.hid (by rw [hZ3]; exact hJ.out.reserve hb3)
      have HZ3 : Hid (∀ q, Z3 q → q < W3.heap.size) := Lib.hid (by rw [hZ3]; exact reserve_lt (fun q e => (HZ.out q e).elim) hb3.size)
      have HL3 : Hid (OneW W3 Z3 (.slice A3 t.recs.length c3) t.recs) := Lib.hid (by
        rw [hZ3]
        exact ⟨ho3.base (Nat.zero_le _), fun g hg => .inr (ho3.lt g hg)⟩)
      have hcap3 := ho3.nilcap
      have hle3 : t.recs.length ≤ c3 := OL.lencap ho3
      clear ho3 hb3 hZ3
      go_wp2_with fail
      refine (room_J HJ3.out hfit).mono ?_
      rintro e W4 ⟨rfl, hj4, hb4⟩
      have HJ4 := Lib.hid hj4
      have HL4 := Lib.hid (HL3.out.quiet (Turns.of_below hb4))
      have HZ4 : Hid (∀ q, Z3 q → q < W4.heap.size) := Lib.hid (fun q hq => Nat.lt_of_lt_of_le (HZ3.out q hq) hb4.size)
      clear hj4 hb4 HJ3 HZ3 HL3 hJ
      obtain ⟨u, hu⟩ : ∃ u, t.size = u := ⟨_, rfl⟩
      have wu : IntKind.i64.wrap (6000 - ((6000 - u : Nat) : Int)) = (u : Int) := by rw [IntKind.wrap_i64]; omega
      rw [hu] at hfit ⊢
      by_cases hu0 : u = 0
      · have hr0 : t.recs.length = 0 := by
          have h1 := hC.out.2.1.size
          cases hrr : t.recs with
          | nil => rfl
          | cons r R => rw [hrr, storeL, List.length_append, recL_length] at h1; omega
        subst hu0
        rw [show ((0 : Nat) : Int) = 0 from rfl] at wu
        have HBZ := Lib.hid HJ4.out.below
        go_wp2_with fail
        go_ret
        exact ⟨by simp, HBZ.out⟩
      · have d5 : decide ((u : Int) ≤ 0) = false := by simp; omega
        have d6 : decide ((6000 : Int) < (u : Int)) = false := by simp; omega
        have HPU := Lib.hid (HPK.out u (by omega) hfit)
        have hpr := pickZ_range at0 (n := (u : Int)) (by omega)
        obtain ⟨pk, hpk⟩ : ∃ pk : Nat, pickZ at0 (u : Int) = (pk : Int) := ⟨(pickZ at0 (u : Int)).toNat, by omega⟩
        rw [hpk] at HPU hpr
        have HSZ := Lib.hid (sized_walk A3 t.recs t.recs.length c3 rfl (by omega) hC.out.2.1.ok (pk : Int) (by omega) (by omega) W4 HL4.out.o.lat)
        clear hpk hu0
        obtain ⟨B, hB⟩ : ∃ B, sizedB t.recs (pk : Int) = B := ⟨_, rfl⟩
        rw [hB] at HSZ
        cases B
        case true =>
          go_wp2_with (first | (go_at_call 14; refine (HPU.out _).mono ?_; rintro e w1 ⟨rfl, rfl⟩) | (go_at_call 26; refine HSZ.out.mono ?_; rintro e w1 ⟨rfl, hb1⟩) | fail)
          have HB5 := Lib.hid (HJ4.out.quiet (Turns.of_below hb1)).below
          go_ret
          exact ⟨rfl, HB5.out⟩
        case false =>
          have HSB := Lib.hid hB
          clear hB
          go_wp2_with (first | (go_at_call 14; refine (HPU.out _).mono ?_; rintro e w1 ⟨rfl, rfl⟩) | (go_at_call 26; refine HSZ.out.mono ?_; rintro e W5 ⟨rfl, hb5⟩) | fail)
          have HJ5 := Lib.hid (HJ4.out.quiet (Turns.of_below hb5))
          have HL5 := Lib.hid (HL4.out.quiet (Turns.of_below hb5))
          have HZ5 : Hid (∀ q, Z3 q → q < W5.heap.size) := Lib.hid (fun q hq => Nat.lt_of_lt_of_le (HZ4.out q hq) hb5.size)
          clear hb5 HSZ HJ4 HL4 HZ4
          have hv : s.vis.length = 6000 := by rw [hC.out.1.vis]; exact cont_length hC.out.2.1
          have hrd : (s.read 0 (6000 : Nat)).1 = ⟨s.vis.toArray⟩ := by
            unfold DS.read
            rw [hC.out.1.off, if_neg (by decide), hv, if_pos (by decide)]
            show (⟨((s.vis.drop 0).take 6000).toArray⟩ : ByteArray) = _
            rw [List.drop_zero, List.take_of_length_le (by omega)]
          have HCT := Lib.hid (content_D HJ5.out.dl)
          rw [hrd] at HCT
          obtain ⟨V, hV⟩ : ∃ V, s.vis = V := ⟨_, rfl⟩
          rw [hV] at HCT hv
          have HV := Lib.hid hV
          have hVs : (⟨V.toArray⟩ : ByteArray).size = 6000 := by rw [ba_mk_size]; exact hv
          obtain ⟨CB, hCB⟩ : ∃ CB : ByteArray, ⟨V.toArray⟩ = CB := ⟨_, rfl⟩
          rw [hCB] at HCT hVs
          have y1 : (0 : Int) ≤ (pk : Int) := by omega
          have y2 : (pk : Int) < (CB.size : Int) := by omega
          obtain ⟨x, hx⟩ : ∃ x, V[pk]? = some x := ⟨_, List.getElem?_eq_getElem (by omega)⟩
          have hxb : CB.data[pk]? = some x := by rw [← hCB]; simpa using hx
          have HX := Lib.hid hx
          clear hrd hV hCB hx
          have hlt7 : pk < CB.size := by omega
          obtain ⟨b, hbe⟩ : ∃ b, CB[pk].toNat = b := ⟨_, rfl⟩
          have hbx : b = x.toNat := by
            rw [← hbe]
            have : CB[pk] = x := (Array.getElem?_eq_some_iff.1 hxb).2
            rw [this]
          by_cases hxc : x = c8
          · have d7 : ((b : Int) == (c8.toNat : Int)) = true := by rw [hbx, hxc]; simp
            clear hbx hxc hxb
            go_wp2_with (first | (go_at_call 22; refine HCT.out.mono ?_; rintro e w1 ⟨rfl, rfl⟩) | fail)
            have HB6 := Lib.hid HJ5.out.below
            go_ret
            exact ⟨by simp, HB6.out⟩
          · have d7 : ((b : Int) == (c8.toNat : Int)) = false := by
              rw [beq_eq_false_iff_ne]
              intro e
              exact hxc (UInt8.toNat_inj.1 (by omega))
            have hcv := cvOne c8
            obtain ⟨g1, g2, g3⟩ := dmg_law (c := c8) hC.out.1 hC.out.2.1 hC.out.2.2.1 (by omega : pk < t.size) (by rw [HV.out, HX.out]; simpa using hxc) HSB.out
            have hpe := hC.out.1.pend
            have hle := hC.out.2.2.1
            clear hbx hxc hxb
            go_wp2_with (first | (go_at_call 22; refine HCT.out.mono ?_; rintro e w1 ⟨rfl, rfl⟩) | fail)
            refine (write_J (HJ5.out.quiet (Turns.alloc W5 (.cells #[.int .u8 (c8.toNat : Int)] 5))) (fun q hq => Nat.lt_of_lt_of_le (HZ5.out q hq) (by rw [World.size_alloc]; omega)) (pk : Int) ⟨#[c8]⟩ (by show 1 ≤ _; omega) (by rw [hpe]; decide) (by rw [hle]; decide)).mono ?_
            rintro e W7 ⟨rfl, hj7, ht7⟩
            have HL7 := Lib.hid ((HL5.out.quiet (Turns.alloc W5 (.cells #[.int .u8 (c8.toNat : Int)] 5))).keep ht7)
            have HJ7 := Lib.hid hj7.dl
            have HZ7 : Hid (∀ q, Z3 q → q < W7.heap.size) := Lib.hid (fun q hq => Nat.lt_of_lt_of_le (HZ5.out q hq) (by have := ht7.size; rw [World.size_alloc] at this; omega))
            obtain ⟨s7, hs7⟩ : ∃ s7, s.wr (pk : Int) ⟨#[c8]⟩ = s7 := ⟨_, rfl⟩
            rw [hs7] at HJ7 g1 g2 g3
            have HG := Lib.hid g3
            clear hj7 ht7 HJ5 HL5 HZ5 hs7 g3 d7 y1 y2 HCT hcv hpe hle hbe
            go_wp2_with fail
            refine (open_D HJ7.out HZ7.out a HK.out HE.out (by omega) (by rw [g2]; decide)).mono ?_
            rintro e W8 ⟨hr, ht8⟩
            have HL8 := Lib.hid (HL7.out.keep ht8)
            unfold OpenD at hr
            rcases HG.out with hg | ⟨hg, t6, hld, hg6, hcase⟩
            · rw [hg] at hr
              rcases hr with ⟨hn, -⟩ | ⟨-, rfl, hd8⟩
              · exact absurd hn (by decide)
              · have HB8 := Lib.hid hd8.below
                clear hd8 ht8
                go_wp2_with fail
                go_ret
                exact ⟨rfl, HB8.out⟩
            · rw [hg, hld] at hr
              rcases hr with ⟨-, j6, t6', rfl, ht6, hj8⟩ | ⟨hn, -⟩
              case inr => exact absurd rfl hn
              cases ht6
              have HJ8 := Lib.hid hj8
              have hrl6 := recs_le hg6
              have HG6 := Lib.hid hg6.ok
              have HG0 := Lib.hid hC.out.2.1.ok
              have HCASE := Lib.hid hcase
              clear hj8 ht8 hg hld hg6 hcase HG HJ7 HL7 HZ7 g1 g2
              go_wp2_with fail
              refine (records_O HJ8.out.old (by omega)).mono ?_
              rintro e W9 ⟨⟨v9, rfl, ho9⟩, hb9⟩
              obtain ⟨A9, c9, rfl, -, -⟩ := ho9.slice
              obtain ⟨is, his⟩ : ∃ is, t6.recs = is := ⟨_, rfl⟩
              obtain ⟨was, hwas⟩ : ∃ was, t.recs = was := ⟨_, rfl⟩
              rw [his] at ho9 hrl6 HG6 HCASE ⊢
              rw [hwas] at HL8 hrl hle3 HG0 HCASE ⊢
              have HP9 : Hid (Pair2 W A3 A9 was is W9) := Lib.hid ⟨(HL8.out.o.lat.below hb9).more hb9.size, ho9.lat, HJ8.out.below.trans (hb9.mono HJ8.out.below.size)⟩
              have hle9 : is.length ≤ c9 := OL.lencap ho9
              clear ho9 hb9 HJ8 HL8 his hwas
              by_cases q0 : c8 = 0
              · subst q0
                by_cases q1 : is.length < was.length
                · have d8 : decide ((is.length : Int) < (was.length : Int)) = true := by simp [q1]
                  have HSM := Lib.hid (fun w (h : Pair2 W A3 A9 was is w) => same_walk A9 A3 is (was.take is.length) is.length is.length c9 c3 rfl (by rw [List.length_take]; omega) (by omega) w h.2.1 (h.1.take is.length))
                  have y5 : (0 : Int) ≤ (is.length : Int) := by omega
                  have y6 : (is.length : Int) ≤ (c3 : Int) := by omega
                  by_cases q2 : is = was.take is.length
                  · rw [show decide (is = was.take is.length) = true by simpa using q2] at HSM
                    clear q2
                    go_wp2_with (first | (go_at_call 18; refine (HSM.out _ HP9.out).mono ?_; rintro e W10 ⟨rfl, hb10⟩) | fail)
                    have HB10 := Lib.hid (HP9.out.below hb10).2.2
                    go_ret
                    exact ⟨rfl, HB10.out⟩
                  · rw [show decide (is = was.take is.length) = false by simpa using q2] at HSM
                    have HCL : Hid (Clash was is) := Lib.hid (HCASE.out.resolve_left fun h => q2 h.2.2)
                    clear q2 HCASE
                    go_wp2_with (first | (go_at_call 18; refine (HSM.out _ HP9.out).mono ?_; rintro e W10 ⟨rfl, hb10⟩; have HP10 := Lib.hid (HP9.out.below hb10); clear hb10) | fail)
                    refine (heads_walk A3 was was.length c3 rfl (by omega) (fun r hr => by have := HG0.out r hr; omega) _ HP10.out.1).mono ?_
                    rintro e W11 ⟨⟨v11, rfl, ho11⟩, hb11⟩
                    obtain ⟨A11, c11, rfl, -, -⟩ := ho11.slice
                    have HP11 := Lib.hid (HP10.out.below hb11)
                    have HO11 := Lib.hid ho11
                    clear ho11 hb11 HP10
                    go_wp2_with fail
                    refine (heads_walk A9 is is.length c9 rfl (by omega) (fun r hr => by have := HG6.out r hr; omega) _ HP11.out.2.1).mono ?_
                    rintro e W12 ⟨⟨v12, rfl, ho12⟩, hb12⟩
                    obtain ⟨A12, c12, rfl, -, -⟩ := ho12.slice
                    obtain ⟨m, x, y, m1, m2, m3, m4⟩ := HCL.out
                    have hsx : ∀ z ∈ headsL zero32 was, z.size ≤ 999000 := headsL_size _ _ zero32_size (fun r hr => Nat.le_trans (HG0.out r hr) (by omega))
                    have hsy : ∀ z ∈ headsL zero32 is, z.size ≤ 999000 := headsL_size _ _ zero32_size (fun r hr => Nat.le_trans (HG6.out r hr) (by omega))
                    obtain ⟨La, hLa⟩ : ∃ La, headsL zero32 was = La := ⟨_, rfl⟩
                    obtain ⟨Lb, hLb⟩ : ∃ Lb, headsL zero32 is = Lb := ⟨_, rfl⟩
                    have hLA : La.length ≤ 6000 := by rw [← hLa, headsL_length]; omega
                    rw [hLa] at m1 HO11 hsx ⊢
                    rw [hLb] at m2 ho12 hsy ⊢
                    have HQ : Hid (Pair2 W A11 A12 La Lb W12) := Lib.hid ⟨(HO11.out.lat.below hb12).more hb12.size, ho12.lat, HP11.out.2.2.trans (hb12.mono HP11.out.2.2.size)⟩
                    have HSX := Lib.hid hsx
                    have HSY := Lib.hid hsy
                    have HM1 := Lib.hid m1
                    have HM2 := Lib.hid m2
                    have HM3 := Lib.hid m3
                    have HM4 := Lib.hid m4
                    have hma : m < La.length := (List.getElem?_eq_some_iff.1 m1).1
                    have hmb : m < Lb.length := (List.getElem?_eq_some_iff.1 m2).1
                    clear ho12 hb12 HO11 HP11 hLa hLb hsx hsy m1 m2 m3 m4 HCL
                    go_wp2_with fail
                    go_loopw [23] (fun v23 wz => ∃ i : Nat, i ≤ m ∧ v23 = .int .i64 i ∧ Hid (Pair2 W A11 A12 La Lb wz)) (fun v _ => La.length - (intOf v).toNat)
                    case atStart => exact ⟨0, by omega, rfl, HQ⟩
                    case round =>
                      obtain ⟨i, hi, rfl, hQ⟩ := hrel
                      clear HQ
                      obtain ⟨pa, rfl, hab, hac⟩ := hQ.out.1.get (by omega : i < La.length)
                      obtain ⟨pb, rfl, hbb, hbc⟩ := hQ.out.2.1.get (by omega : i < Lb.length)
                      have hsx := HSX.out La[i] (List.getElem_mem _)
                      have hsy := HSY.out Lb[i] (List.getElem_mem _)
                      obtain ⟨xi, hxi⟩ : ∃ xi, La[i] = xi := ⟨_, rfl⟩
                      obtain ⟨yi, hyi⟩ : ∃ yi, Lb[i] = yi := ⟨_, rfl⟩
                      have HXI : Hid (La[i]? = some xi) := Lib.hid (by rw [← hxi]; exact List.getElem?_eq_getElem (by omega))
                      have HYI : Hid (Lb[i]? = some yi) := Lib.hid (by rw [← hyi]; exact List.getElem?_eq_getElem (by omega))
                      rw [hxi] at hac hsx
                      rw [hyi] at hbc hsy
                      have HCELL := Lib.hid (show ∀ w, Pair2 W (some pa) (some pb) La Lb w → Pair2 W (some pa) (some pb) La Lb w ∧ w.cell? (pa.add i) = some (.string xi) ∧ w.cell? (pb.add i) = some (.string yi) from fun w h => by
                        obtain ⟨q1, e1, -, r1⟩ := h.1 i xi HXI.out
                        obtain ⟨q2, e2, -, r2⟩ := h.2.1 i yi HYI.out
                        cases e1; cases e2
                        exact ⟨h, r1, r2⟩)
                      have HFST := Lib.hid (show ∀ w, (Pair2 W (some pa) (some pb) La Lb w ∧ w.cell? (pa.add i) = some (.string xi) ∧ w.cell? (pb.add i) = some (.string yi)) → Pair2 W (some pa) (some pb) La Lb w from fun w h => h.1)
                      have HSUM := Lib.hid (show ∀ (u : ByteArray) w, u.size ≤ 999000 → Pair2 W (some pa) (some pb) La Lb w → Calls Tryz.prog 28 #[.string u] w fun e w' => e = .returned (.string (shaS u.data.toList)) ∧ Pair2 W (some pa) (some pb) La Lb w' from fun u w hu h => h.sum u (by omega))
                      have hS0 := HCELL.out _ (Pair2.drew hQ.out)
                      have z1 : (0 : Int) ≤ (i : Int) := by omega
                      have z2 : (i : Int) < (La.length : Int) := by omega
                      have z3 : (i : Int) < (Lb.length : Int) := by omega
                      have z4 : decide ((i : Int) < (La.length : Int)) = true := by simp; omega
                      have z5 : decide ((i : Int) < (Lb.length : Int)) = true := by simp; omega
                      clear hxi hyi hab hbb
                      by_cases hxy : xi = yi
                      · have e1 : (xi.toList == yi.toList) = false ∨ (xi.toList == yi.toList) = true := by cases (xi.toList == yi.toList) <;> simp
                        have e2 : (xi.toList == yi.toList) = true := by rw [hxy]; simp
                        have HNE : Hid (i ≠ m) := Lib.hid (fun q => by
                          subst q
                          have h1 := HXI.out
                          have h2 := HYI.out
                          rw [HM1.out] at h1
                          rw [HM2.out] at h2
                          exact HM3.out (by rw [Option.some.inj h1, Option.some.inj h2, hxy]))
                        clear hxy e1
                        go_wp2_with fail
                        go_quiet (fail)
                        go_wp2_with fail
                        have hne := HNE.out
                        exact ⟨⟨i + 1, by omega, by go_num, Lib.hid (hQ.out.below (Below.drewN' (Below.refl _ _) nq))⟩, by simp [intOf]; omega⟩
                      · have e2 : (xi.toList == yi.toList) = false := by rw [str_eq]; simp [hxy]
                        clear hxy
                        by_cases hsh : shaS xi.data.toList = shaS yi.data.toList
                        · have q1 : ((shaS xi.data.toList).toList == (shaS yi.data.toList).toList) = true := by rw [str_eq]; simp [hsh]
                          clear hsh
                          go_wp2_with fail
                          go_region_held3 (fun w' => Pair2 W (some pa) (some pb) La Lb w' ∧ w'.cell? (pa.add i) = some (.string xi) ∧ w'.cell? (pb.add i) = some (.string yi)) (first | assumption | exact HCELL.out _ (by assumption) | fail)
                            (first
                              | (go_at_call 28; (with_reducible refine (HSUM.out xi _ hsx ?_).mono ?_); (· exact HFST.out _ (by assumption)); rintro e Wq ⟨rfl, hstW⟩)
                              | (go_at_call 28; (with_reducible refine (HSUM.out yi _ hsy ?_).mono ?_); (· exact HFST.out _ (by assumption)); rintro e Wq ⟨rfl, hstW⟩)
                              | fail)
                          all_goals
                            go_wp2_with fail
                            go_ret
                            exact ⟨rfl, Pair2.low (by assumption)⟩
                        · have q1 : ((shaS xi.data.toList).toList == (shaS yi.data.toList).toList) = false := by rw [str_eq]; simp [hsh]
                          have HNE : Hid (i ≠ m) := Lib.hid (fun q => by
                            subst q
                            have h1 := HXI.out
                            have h2 := HYI.out
                            rw [HM1.out] at h1
                            rw [HM2.out] at h2
                            exact hsh (by rw [← Option.some.inj h1, ← Option.some.inj h2]; exact HM4.out))
                          clear hsh
                          go_wp2_with fail
                          go_region_held3 (fun w' => Pair2 W (some pa) (some pb) La Lb w' ∧ w'.cell? (pa.add i) = some (.string xi) ∧ w'.cell? (pb.add i) = some (.string yi)) (first | assumption | exact HCELL.out _ (by assumption) | fail)
                            (first
                              | (go_at_call 28; (with_reducible refine (HSUM.out xi _ hsx ?_).mono ?_); (· exact HFST.out _ (by assumption)); rintro e Wq ⟨rfl, hstW⟩)
                              | (go_at_call 28; (with_reducible refine (HSUM.out yi _ hsy ?_).mono ?_); (· exact HFST.out _ (by assumption)); rintro e Wq ⟨rfl, hstW⟩)
                              | fail)
                          all_goals
                            go_wp2_with fail
                            have hne := HNE.out
                            exact ⟨⟨i + 1, by omega, by go_num, Lib.hid (by assumption)⟩, by simp [intOf]; omega⟩
                · have d8 : decide ((is.length : Int) < (was.length : Int)) = false := by simp; omega
                  have d8n : decide (is.length < was.length) = false := by simpa using q1
                  have HCL : Hid (Clash was is) := Lib.hid (HCASE.out.resolve_left fun h => q1 h.2.1)
                  have HP10 := HP9
                  obtain ⟨W10, hW10⟩ : ∃ W10, W9 = W10 := ⟨_, rfl⟩
                  subst hW10
                  clear q1 HCASE HP9
                  go_wp2_with fail
                  refine (heads_walk A3 was was.length c3 rfl (by omega) (fun r hr => by have := HG0.out r hr; omega) _ HP10.out.1).mono ?_
                  rintro e W11 ⟨⟨v11, rfl, ho11⟩, hb11⟩
                  obtain ⟨A11, c11, rfl, -, -⟩ := ho11.slice
                  have HP11 := Lib.hid (HP10.out.below hb11)
                  have HO11 := Lib.hid ho11
                  clear ho11 hb11 HP10
                  go_wp2_with fail
                  refine (heads_walk A9 is is.length c9 rfl (by omega) (fun r hr => by have := HG6.out r hr; omega) _ HP11.out.2.1).mono ?_
                  rintro e W12 ⟨⟨v12, rfl, ho12⟩, hb12⟩
                  obtain ⟨A12, c12, rfl, -, -⟩ := ho12.slice
                  obtain ⟨m, x, y, m1, m2, m3, m4⟩ := HCL.out
                  have hsx : ∀ z ∈ headsL zero32 was, z.size ≤ 999000 := headsL_size _ _ zero32_size (fun r hr => Nat.le_trans (HG0.out r hr) (by omega))
                  have hsy : ∀ z ∈ headsL zero32 is, z.size ≤ 999000 := headsL_size _ _ zero32_size (fun r hr => Nat.le_trans (HG6.out r hr) (by omega))
                  obtain ⟨La, hLa⟩ : ∃ La, headsL zero32 was = La := ⟨_, rfl⟩
                  obtain ⟨Lb, hLb⟩ : ∃ Lb, headsL zero32 is = Lb := ⟨_, rfl⟩
                  have hLA : La.length ≤ 6000 := by rw [← hLa, headsL_length]; omega
                  rw [hLa] at m1 HO11 hsx ⊢
                  rw [hLb] at m2 ho12 hsy ⊢
                  have HQ : Hid (Pair2 W A11 A12 La Lb W12) := Lib.hid ⟨(HO11.out.lat.below hb12).more hb12.size, ho12.lat, HP11.out.2.2.trans (hb12.mono HP11.out.2.2.size)⟩
                  have HSX := Lib.hid hsx
                  have HSY := Lib.hid hsy
                  have HM1 := Lib.hid m1
                  have HM2 := Lib.hid m2
                  have HM3 := Lib.hid m3
                  have HM4 := Lib.hid m4
                  have hma : m < La.length := (List.getElem?_eq_some_iff.1 m1).1
                  have hmb : m < Lb.length := (List.getElem?_eq_some_iff.1 m2).1
                  clear ho12 hb12 HO11 HP11 hLa hLb hsx hsy m1 m2 m3 m4 HCL
                  go_wp2_with fail
                  go_loopw [23] (fun v23 wz => ∃ i : Nat, i ≤ m ∧ v23 = .int .i64 i ∧ Hid (Pair2 W A11 A12 La Lb wz)) (fun v _ => La.length - (intOf v).toNat)
                  case atStart => exact ⟨0, by omega, rfl, HQ⟩
                  case round =>
                    obtain ⟨i, hi, rfl, hQ⟩ := hrel
                    clear HQ
                    obtain ⟨pa, rfl, hab, hac⟩ := hQ.out.1.get (by omega : i < La.length)
                    obtain ⟨pb, rfl, hbb, hbc⟩ := hQ.out.2.1.get (by omega : i < Lb.length)
                    have hsx := HSX.out La[i] (List.getElem_mem _)
                    have hsy := HSY.out Lb[i] (List.getElem_mem _)
                    obtain ⟨xi, hxi⟩ : ∃ xi, La[i] = xi := ⟨_, rfl⟩
                    obtain ⟨yi, hyi⟩ : ∃ yi, Lb[i] = yi := ⟨_, rfl⟩
                    have HXI : Hid (La[i]? = some xi) := Lib.hid (by rw [← hxi]; exact List.getElem?_eq_getElem (by omega))
                    have HYI : Hid (Lb[i]? = some yi) := Lib.hid (by rw [← hyi]; exact List.getElem?_eq_getElem (by omega))
                    rw [hxi] at hac hsx
                    rw [hyi] at hbc hsy
                    have HCELL := Lib.hid (show ∀ w, Pair2 W (some pa) (some pb) La Lb w → Pair2 W (some pa) (some pb) La Lb w ∧ w.cell? (pa.add i) = some (.string xi) ∧ w.cell? (pb.add i) = some (.string yi) from fun w h => by
                      obtain ⟨q1, e1, -, r1⟩ := h.1 i xi HXI.out
                      obtain ⟨q2, e2, -, r2⟩ := h.2.1 i yi HYI.out
                      cases e1; cases e2
                      exact ⟨h, r1, r2⟩)
                    have HFST := Lib.hid (show ∀ w, (Pair2 W (some pa) (some pb) La Lb w ∧ w.cell? (pa.add i) = some (.string xi) ∧ w.cell? (pb.add i) = some (.string yi)) → Pair2 W (some pa) (some pb) La Lb w from fun w h => h.1)
                    have HSUM := Lib.hid (show ∀ (u : ByteArray) w, u.size ≤ 999000 → Pair2 W (some pa) (some pb) La Lb w → Calls Tryz.prog 28 #[.string u] w fun e w' => e = .returned (.string (shaS u.data.toList)) ∧ Pair2 W (some pa) (some pb) La Lb w' from fun u w hu h => h.sum u (by omega))
                    have hS0 := HCELL.out _ (Pair2.drew hQ.out)
                    have z1 : (0 : Int) ≤ (i : Int) := by omega
                    have z2 : (i : Int) < (La.length : Int) := by omega
                    have z3 : (i : Int) < (Lb.length : Int) := by omega
                    have z4 : decide ((i : Int) < (La.length : Int)) = true := by simp; omega
                    have z5 : decide ((i : Int) < (Lb.length : Int)) = true := by simp; omega
                    clear hxi hyi hab hbb
                    by_cases hxy : xi = yi
                    · have e1 : (xi.toList == yi.toList) = false ∨ (xi.toList == yi.toList) = true := by cases (xi.toList == yi.toList) <;> simp
                      have e2 : (xi.toList == yi.toList) = true := by rw [hxy]; simp
                      have HNE : Hid (i ≠ m) := Lib.hid (fun q => by
                        subst q
                        have h1 := HXI.out
                        have h2 := HYI.out
                        rw [HM1.out] at h1
                        rw [HM2.out] at h2
                        exact HM3.out (by rw [Option.some.inj h1, Option.some.inj h2, hxy]))
                      clear hxy e1
                      go_wp2_with fail
                      go_quiet (fail)
                      go_wp2_with fail
                      have hne := HNE.out
                      exact ⟨⟨i + 1, by omega, by go_num, Lib.hid (hQ.out.below (Below.drewN' (Below.refl _ _) nq))⟩, by simp [intOf]; omega⟩
                    · have e2 : (xi.toList == yi.toList) = false := by rw [str_eq]; simp [hxy]
                      clear hxy
                      by_cases hsh : shaS xi.data.toList = shaS yi.data.toList
                      · have q1 : ((shaS xi.data.toList).toList == (shaS yi.data.toList).toList) = true := by rw [str_eq]; simp [hsh]
                        clear hsh
                        go_wp2_with fail
                        go_region_held3 (fun w' => Pair2 W (some pa) (some pb) La Lb w' ∧ w'.cell? (pa.add i) = some (.string xi) ∧ w'.cell? (pb.add i) = some (.string yi)) (first | assumption | exact HCELL.out _ (by assumption) | fail)
                          (first
                            | (go_at_call 28; (with_reducible refine (HSUM.out xi _ hsx ?_).mono ?_); (· exact HFST.out _ (by assumption)); rintro e Wq ⟨rfl, hstW⟩)
                            | (go_at_call 28; (with_reducible refine (HSUM.out yi _ hsy ?_).mono ?_); (· exact HFST.out _ (by assumption)); rintro e Wq ⟨rfl, hstW⟩)
                            | fail)
                        all_goals
                          go_wp2_with fail
                          go_ret
                          exact ⟨rfl, Pair2.low (by assumption)⟩
                      · have q1 : ((shaS xi.data.toList).toList == (shaS yi.data.toList).toList) = false := by rw [str_eq]; simp [hsh]
                        have HNE : Hid (i ≠ m) := Lib.hid (fun q => by
                          subst q
                          have h1 := HXI.out
                          have h2 := HYI.out
                          rw [HM1.out] at h1
                          rw [HM2.out] at h2
                          exact hsh (by rw [← Option.some.inj h1, ← Option.some.inj h2]; exact HM4.out))
                        clear hsh
                        go_wp2_with fail
                        go_region_held3 (fun w' => Pair2 W (some pa) (some pb) La Lb w' ∧ w'.cell? (pa.add i) = some (.string xi) ∧ w'.cell? (pb.add i) = some (.string yi)) (first | assumption | exact HCELL.out _ (by assumption) | fail)
                          (first
                            | (go_at_call 28; (with_reducible refine (HSUM.out xi _ hsx ?_).mono ?_); (· exact HFST.out _ (by assumption)); rintro e Wq ⟨rfl, hstW⟩)
                            | (go_at_call 28; (with_reducible refine (HSUM.out yi _ hsy ?_).mono ?_); (· exact HFST.out _ (by assumption)); rintro e Wq ⟨rfl, hstW⟩)
                            | fail)
                        all_goals
                          go_wp2_with fail
                          have hne := HNE.out
                          exact ⟨⟨i + 1, by omega, by go_num, Lib.hid (by assumption)⟩, by simp [intOf]; omega⟩
              · have d9 : ((c8.toNat : Int) == 0) = false := by
                  rw [beq_eq_false_iff_ne]
                  intro e
                  exact q0 (UInt8.toNat_inj.1 (by simp; omega))
                have HCL : Hid (Clash was is) := Lib.hid (HCASE.out.resolve_left fun h => q0 h.1)
                have HP10 := HP9
                obtain ⟨W10, hW10⟩ : ∃ W10, W9 = W10 := ⟨_, rfl⟩
                subst hW10
                clear q0 HCASE HP9
                go_wp2_with fail
                refine (heads_walk A3 was was.length c3 rfl (by omega) (fun r hr => by have := HG0.out r hr; omega) _ HP10.out.1).mono ?_
                rintro e W11 ⟨⟨v11, rfl, ho11⟩, hb11⟩
                obtain ⟨A11, c11, rfl, -, -⟩ := ho11.slice
                have HP11 := Lib.hid (HP10.out.below hb11)
                have HO11 := Lib.hid ho11
                clear ho11 hb11 HP10
                go_wp2_with fail
                refine (heads_walk A9 is is.length c9 rfl (by omega) (fun r hr => by have := HG6.out r hr; omega) _ HP11.out.2.1).mono ?_
                rintro e W12 ⟨⟨v12, rfl, ho12⟩, hb12⟩
                obtain ⟨A12, c12, rfl, -, -⟩ := ho12.slice
                obtain ⟨m, x, y, m1, m2, m3, m4⟩ := HCL.out
                have hsx : ∀ z ∈ headsL zero32 was, z.size ≤ 999000 := headsL_size _ _ zero32_size (fun r hr => Nat.le_trans (HG0.out r hr) (by omega))
                have hsy : ∀ z ∈ headsL zero32 is, z.size ≤ 999000 := headsL_size _ _ zero32_size (fun r hr => Nat.le_trans (HG6.out r hr) (by omega))
                obtain ⟨La, hLa⟩ : ∃ La, headsL zero32 was = La := ⟨_, rfl⟩
                obtain ⟨Lb, hLb⟩ : ∃ Lb, headsL zero32 is = Lb := ⟨_, rfl⟩
                have hLA : La.length ≤ 6000 := by rw [← hLa, headsL_length]; omega
                rw [hLa] at m1 HO11 hsx ⊢
                rw [hLb] at m2 ho12 hsy ⊢
                have HQ : Hid (Pair2 W A11 A12 La Lb W12) := Lib.hid ⟨(HO11.out.lat.below hb12).more hb12.size, ho12.lat, HP11.out.2.2.trans (hb12.mono HP11.out.2.2.size)⟩
                have HSX := Lib.hid hsx
                have HSY := Lib.hid hsy
                have HM1 := Lib.hid m1
                have HM2 := Lib.hid m2
                have HM3 := Lib.hid m3
                have HM4 := Lib.hid m4
                have hma : m < La.length := (List.getElem?_eq_some_iff.1 m1).1
                have hmb : m < Lb.length := (List.getElem?_eq_some_iff.1 m2).1
                clear ho12 hb12 HO11 HP11 hLa hLb hsx hsy m1 m2 m3 m4 HCL
                go_wp2_with fail
                go_loopw [23] (fun v23 wz => ∃ i : Nat, i ≤ m ∧ v23 = .int .i64 i ∧ Hid (Pair2 W A11 A12 La Lb wz)) (fun v _ => La.length - (intOf v).toNat)
                case atStart => exact ⟨0, by omega, rfl, HQ⟩
                case round =>
                  obtain ⟨i, hi, rfl, hQ⟩ := hrel
                  clear HQ
                  obtain ⟨pa, rfl, hab, hac⟩ := hQ.out.1.get (by omega : i < La.length)
                  obtain ⟨pb, rfl, hbb, hbc⟩ := hQ.out.2.1.get (by omega : i < Lb.length)
                  have hsx := HSX.out La[i] (List.getElem_mem _)
                  have hsy := HSY.out Lb[i] (List.getElem_mem _)
                  obtain ⟨xi, hxi⟩ : ∃ xi, La[i] = xi := ⟨_, rfl⟩
                  obtain ⟨yi, hyi⟩ : ∃ yi, Lb[i] = yi := ⟨_, rfl⟩
                  have HXI : Hid (La[i]? = some xi) := Lib.hid (by rw [← hxi]; exact List.getElem?_eq_getElem (by omega))
                  have HYI : Hid (Lb[i]? = some yi) := Lib.hid (by rw [← hyi]; exact List.getElem?_eq_getElem (by omega))
                  rw [hxi] at hac hsx
                  rw [hyi] at hbc hsy
                  have HCELL := Lib.hid (show ∀ w, Pair2 W (some pa) (some pb) La Lb w → Pair2 W (some pa) (some pb) La Lb w ∧ w.cell? (pa.add i) = some (.string xi) ∧ w.cell? (pb.add i) = some (.string yi) from fun w h => by
                    obtain ⟨q1, e1, -, r1⟩ := h.1 i xi HXI.out
                    obtain ⟨q2, e2, -, r2⟩ := h.2.1 i yi HYI.out
                    cases e1; cases e2
                    exact ⟨h, r1, r2⟩)
                  have HFST := Lib.hid (show ∀ w, (Pair2 W (some pa) (some pb) La Lb w ∧ w.cell? (pa.add i) = some (.string xi) ∧ w.cell? (pb.add i) = some (.string yi)) → Pair2 W (some pa) (some pb) La Lb w from fun w h => h.1)
                  have HSUM := Lib.hid (show ∀ (u : ByteArray) w, u.size ≤ 999000 → Pair2 W (some pa) (some pb) La Lb w → Calls Tryz.prog 28 #[.string u] w fun e w' => e = .returned (.string (shaS u.data.toList)) ∧ Pair2 W (some pa) (some pb) La Lb w' from fun u w hu h => h.sum u (by omega))
                  have hS0 := HCELL.out _ (Pair2.drew hQ.out)
                  have z1 : (0 : Int) ≤ (i : Int) := by omega
                  have z2 : (i : Int) < (La.length : Int) := by omega
                  have z3 : (i : Int) < (Lb.length : Int) := by omega
                  have z4 : decide ((i : Int) < (La.length : Int)) = true := by simp; omega
                  have z5 : decide ((i : Int) < (Lb.length : Int)) = true := by simp; omega
                  clear hxi hyi hab hbb
                  by_cases hxy : xi = yi
                  · have e1 : (xi.toList == yi.toList) = false ∨ (xi.toList == yi.toList) = true := by cases (xi.toList == yi.toList) <;> simp
                    have e2 : (xi.toList == yi.toList) = true := by rw [hxy]; simp
                    have HNE : Hid (i ≠ m) := Lib.hid (fun q => by
                      subst q
                      have h1 := HXI.out
                      have h2 := HYI.out
                      rw [HM1.out] at h1
                      rw [HM2.out] at h2
                      exact HM3.out (by rw [Option.some.inj h1, Option.some.inj h2, hxy]))
                    clear hxy e1
                    go_wp2_with fail
                    go_quiet (fail)
                    go_wp2_with fail
                    have hne := HNE.out
                    exact ⟨⟨i + 1, by omega, by go_num, Lib.hid (hQ.out.below (Below.drewN' (Below.refl _ _) nq))⟩, by simp [intOf]; omega⟩
                  · have e2 : (xi.toList == yi.toList) = false := by rw [str_eq]; simp [hxy]
                    clear hxy
                    by_cases hsh : shaS xi.data.toList = shaS yi.data.toList
                    · have q1 : ((shaS xi.data.toList).toList == (shaS yi.data.toList).toList) = true := by rw [str_eq]; simp [hsh]
                      clear hsh
                      go_wp2_with fail
                      go_region_held3 (fun w' => Pair2 W (some pa) (some pb) La Lb w' ∧ w'.cell? (pa.add i) = some (.string xi) ∧ w'.cell? (pb.add i) = some (.string yi)) (first | assumption | exact HCELL.out _ (by assumption) | fail)
                        (first
                          | (go_at_call 28; (with_reducible refine (HSUM.out xi _ hsx ?_).mono ?_); (· exact HFST.out _ (by assumption)); rintro e Wq ⟨rfl, hstW⟩)
                          | (go_at_call 28; (with_reducible refine (HSUM.out yi _ hsy ?_).mono ?_); (· exact HFST.out _ (by assumption)); rintro e Wq ⟨rfl, hstW⟩)
                          | fail)
                      all_goals
                        go_wp2_with fail
                        go_ret
                        exact ⟨rfl, Pair2.low (by assumption)⟩
                    · have q1 : ((shaS xi.data.toList).toList == (shaS yi.data.toList).toList) = false := by rw [str_eq]; simp [hsh]
                      have HNE : Hid (i ≠ m) := Lib.hid (fun q => by
                        subst q
                        have h1 := HXI.out
                        have h2 := HYI.out
                        rw [HM1.out] at h1
                        rw [HM2.out] at h2
                        exact hsh (by rw [← Option.some.inj h1, ← Option.some.inj h2]; exact HM4.out))
                      clear hsh
                      go_wp2_with fail
                      go_region_held3 (fun w' => Pair2 W (some pa) (some pb) La Lb w' ∧ w'.cell? (pa.add i) = some (.string xi) ∧ w'.cell? (pb.add i) = some (.string yi)) (first | assumption | exact HCELL.out _ (by assumption) | fail)
                        (first
                          | (go_at_call 28; (with_reducible refine (HSUM.out xi _ hsx ?_).mono ?_); (· exact HFST.out _ (by assumption)); rintro e Wq ⟨rfl, hstW⟩)
                          | (go_at_call 28; (with_reducible refine (HSUM.out yi _ hsy ?_).mono ?_); (· exact HFST.out _ (by assumption)); rintro e Wq ⟨rfl, hstW⟩)
                          | fail)
                      all_goals
                        go_wp2_with fail
                        have hne := HNE.out
                        exact ⟨⟨i + 1, by omega, by go_num, Lib.hid (by assumption)⟩, by simp [intOf]; omega⟩

end Go.Proofs.YtllmciiadceinaaGreatDoor
end
section
namespace Go.Proofs.YtllmciiadceinaaGreatDoor.lawJournalDamaged
open Go.ChangeShapes Go.WideShapes Go.ChangeAt Go.RowKit
open Go.ChangeMaps (open_string)

theorem own : ownKnob Tryz.prog.godebug = none := by kernel_rfl
theorem laidOut : laidOutB Tryz.prog = true := by kernel_rfl
theorem reads_ok : ∀ t ∈ Tryz.f4.params.toList, Tryz.prog.readableRec t = true ∧ t < Tryz.prog.types.size := by
  have h : (Tryz.f4.params.toList.all fun t => Tryz.prog.readableRec t && decide (t < Tryz.prog.types.size)) = true := by kernel_rfl
  intro t ht
  have := List.all_eq_true.1 h t ht
  simpa using this

theorem star : "*" ++ "errors.errorString" = "*errors.errorString" := by decide
theorem rowErr (u : TypeId) (h : Tryz.prog.typeName? 3 u = some "*errors.errorString") : u = 222 :=
  typeName_ptr_named (nm := "errors.errorString") (by rw [star]; kernel_rfl) (by kernel_rfl) (by decide) u (by rw [star]; exact h)
set_option maxRecDepth 100000 in
/-- What the listed variables hold. -/
theorem facts {W : World} (h : laidMetH Tryz.prog Rows.journalDamagedRow.laid W) : KAt W ∧ ∃ a, ErrAt W a := by
  have h' : laidMet Tryz.prog Rows.journalDamagedRow.laid W := h
  obtain ⟨ps, ⟨g0, t0, cs0, f0, p0, q0, hg0, ht0, hv0, hd0, ⟨g1, t1, cs1, f1, p1, q1, hg1, ht1, hv1, hd1, ⟨g2, t2, cs2, f2, p2, q2, hg2, ht2, hv2, hd2, -, e2⟩, e1⟩, e0⟩, -, hrows⟩ := h'
  obtain rfl := Option.some.inj ((by kernel_rfl : Tryz.prog.globalNamed "yardstick/digest.round" = some 3).symm.trans hg1)
  obtain rfl := Option.some.inj ((by kernel_rfl : Tryz.prog.globalNamed "yardstick/journal.errDamaged" = some 0).symm.trans hg2)
  obtain rfl := Option.some.inj ((by kernel_rfl : (Tryz.prog.globals[3]?).map (·.type) = some 214).symm.trans ht1)
  obtain rfl := Option.some.inj ((by kernel_rfl : (Tryz.prog.globals[0]?).map (·.type) = some 80).symm.trans ht2)
  subst e2
  subst e1
  subst e0
  refine ⟨?_, ?_⟩
  · have hc : cs1.toList = (shaK.map fun (n : Nat) => (n : Int)).map fun z => Value.int .u32 z :=
      Lib.cells_of_tab (n := 64) (k := .u32) (zs := shaK.map fun (n : Nat) => (n : Int)) Tryz.underlying214 Tryz.underlying109 (by kernel_rfl) (by kernel_rfl) hd1
    have hT : Lib.TabIs Tryz.prog W "yardstick/digest.round" .u32 (shaK.map fun (n : Nat) => (n : Int)) := by
      unfold Lib.TabIs
      rw [hv1, ← hc]
    intro j v hv
    rw [List.getElem?_map] at hv
    obtain ⟨x, hx, rfl⟩ := Option.map_eq_some_iff.1 hv
    have hj : j < shaK.length := (List.getElem?_eq_some_iff.1 hx).1
    have := hT.cell (g := 3) (by kernel_rfl) j (by simpa using hj)
    rw [Nat.zero_add, this]
    simp [List.getD_eq_getElem?_getD, List.getElem?_map, hx, wv]
  · obtain ⟨l2⟩ := cs2
    have ok2 : ∀ u v, l2 = [.iface u v] → Value.okWide Tryz.prog W .any 0 u v := fun u v e => by
      subst e
      exact (hrows 0 0 (by simp [MemPlace.row])).2 u v (by simpa using World.var?_cell hg2 hv2 0)
    obtain ⟨a, s, rfl, -⟩ := errorString_of_trod Tryz.underlying80 rowErr Tryz.underlying222 Tryz.underlying244 rfl rfl Tryz.underlying9 (by kernel_rfl) (by kernel_rfl) hd2 ok2
    exact ⟨a, show W.cell? ⟨0, 0, none⟩ = some (.iface 222 (.pointer (some a))) from by simpa using World.var?_cell hg2 hv2 0⟩

set_option maxRecDepth 100000 in
theorem contract (H : Type) (enc : TypeId × Value → H) (W : World) (base : Nat) (args : Array Value) (ds gs : List (DataW H)) (before : List MemPlace)
    (hval : ∀ (j : Nat) t v, Tryz.f4.params[j]? = some t → args[j]? = some v → Value.okWide Tryz.prog W .any base t v)
    (hW : DataW.Whole enc Tryz.prog Tryz.f4.params.toList Rows.journalDamagedSpec.vars false W args.toList ds gs before) (hL : laidMetH Tryz.prog Rows.journalDamagedRow.laid W) :
    Calls Tryz.prog 4 args W fun e W' => ∃ v, e = .returned v ∧ Rows.journalDamagedSpec.post enc Tryz.prog Tryz.f4 false true false false W args v W' := by
  have hW' := hW
  obtain ⟨p, q, hA0, hV, rfl, hfz, hnd⟩ := hW
  have hA : DataW.TrodAll enc Tryz.prog W 0 (fun _ => true) true Tryz.f4.params.toList args.toList ds p := hA0
  rw [Tryz.params4] at hA hval
  obtain ⟨v0, vs0, d0, ds0, p0, q0, hargs, rfl, rfl, h0, r0⟩ := trodAll_cons hA
  obtain ⟨v1, vs1, d1, ds1, p1, q1, rfl, rfl, rfl, h1, r1⟩ := trodAll_cons r0
  obtain ⟨v2, vs2, d2, ds2, p2, q2, rfl, rfl, rfl, h2, r2⟩ := trodAll_cons r1
  obtain ⟨rfl, rfl, rfl⟩ := trodAll_nil r2
  obtain rfl : args = #[v0, v1, v2] := by cases args; simp_all
  obtain ⟨rfl, rfl⟩ := trodVars_none hV
  obtain ⟨lA, l, lc, rfl, lw1, lwc, lw2, lw3⟩ := open_groupsAt Tryz.underlying48 Tryz.underlying22 Tryz.underlying9 (by kernel_rfl) (by kernel_rfl) (hval 0 48 v0 rfl rfl) h0
  obtain ⟨at0, rfl, _, _, w1⟩ := open_int Tryz.underlying3 (hval 1 3 v1 rfl rfl) h1
  have c1 := bounds_i64 w1
  obtain ⟨c, rfl, _, _, w2⟩ := open_int Tryz.underlying5 (hval 2 5 v2 rfl rfl) h2
  have c2 := bounds_u8 w2
  unfold maxLen at lwc
  obtain ⟨hk, a, he⟩ := facts hL
  refine (damaged_law W a hk he lA l lc (by omega) lw2 lw3 at0 c1.1 c1.2 c c2.1 c2.2).mono fun e W' ⟨he, hb⟩ => ?_
  subst he
  exact ⟨_, rfl, law_post laidOut reads_ok rfl Tryz.underlying4 rfl hW' rfl hb⟩

def wargs : Array Value := #[.slice none 0 0, .int .i64 0, .int .u8 0]
noncomputable def laidWorld (os : Os) : World := World.laidAll Tryz.prog os Rows.journalDamagedRow.laid
theorem laid_met (os : Os) : laidMet Tryz.prog Rows.journalDamagedRow.laid ((laidWorld os).forCall (fun _ _ => 0) ⟨#[], wargs, []⟩).memory :=
  laidMet_laidAll wargs (by kernel_rfl) (by kernel_rfl)
theorem reads (os : Os) {H : Type} (enc : TypeId × Value → H) : ∃ places, DataW.whole enc Tryz.prog ((laidWorld os).forCall (fun _ _ => 0) ⟨#[], wargs, []⟩).memory Tryz.f4.params.toList Rows.journalDamagedSpec.vars false wargs.toList 8 = some ([.nil, .lit (.int .i64 0), .lit (.int .u8 0)], [], places) :=
  ⟨[], by kernel_rfl⟩

set_option maxRecDepth 100000 in
theorem lifted (os : Os) (started : os.Started) (H : Type) (enc : TypeId × Value → H) (F : Stop.Interp) :
    ReturnsInHanded {} Tryz.checked os 4 .any ((OpenSpec.ofChange Rows.journalDamagedSpec).preRow enc Tryz.prog Tryz.f4 Rows.journalDamagedRow.domain false Rows.journalDamagedRow.laid) (((OpenSpec.ofChange Rows.journalDamagedSpec).at F).post enc Tryz.prog Tryz.f4 false true false false) := by
  obtain ⟨places, hx⟩ := reads os enc
  refine returnsInHanded_of_row (C := Tryz.checked) (s := OpenSpec.ofChange Rows.journalDamagedSpec) own started (by kernel_rfl) Tryz.func4
    (witness_row_at (enc := enc) (C := Tryz.checked) false (laidWorld os) wargs (World.laidAll_os _ _ _) (by kernel_rfl) (by kernel_rfl) (by kernel_rfl)
      (OpenSpec.preRow_of_cond 8 hx (by kernel_rfl) (fun k hk => by cases hk) (by kernel_rfl) (laid_met os))) ?_
  intro W base args ds gs before hval hW _ _ _ hL _ _
  exact contract H enc W base args ds gs before hval hW hL

theorem said : Rows.JournalDamagedSaid :=
  OpenClaim.holds_of_cond 4 Tryz.f4 rfl rfl rfl rfl rfl rfl rfl ⟨rfl, rfl, rfl, rfl, rfl⟩ rfl rfl rfl rfl rfl (by kernel_rfl) Tryz.func4 (by kernel_rfl)
    (of_decide_eq_true (by kernel_rfl)) (by unfold Func.isWrapper; rw [if_neg (of_decide_eq_false (by kernel_rfl))]; exact ⟨rfl, rfl⟩)
    (fun os started H enc _ F => by rw [OpenClaim.pre_eq_preRow]; exact lifted os started H enc F)

theorem plain (f : FuncId) (fn : Func) (hf : Tryz.pinned.checked.prog.funcNamed "yardstick/yardsticklaw26.JournalDamaged" = some f) (hfn : Tryz.pinned.checked.prog.funcs[f]? = some fn) :
    true = Tryz.pinned.checked.prog.looks [] ∧ ∀ (j : Nat) t, fn.params[j]? = some t → Tryz.pinned.checked.prog.wantsStandIn t = false := by
  obtain rfl : f = 4 := Option.some.inj ((show Tryz.prog.funcNamed "yardstick/yardsticklaw26.JournalDamaged" = some 4 by kernel_rfl).symm.trans hf) |>.symm
  obtain rfl : fn = Tryz.f4 := (Option.some.inj (Tryz.func4.symm.trans hfn)).symm
  refine ⟨by kernel_rfl, fun j t ht => ?_⟩
  have h : (Tryz.f4.params.toList.all fun t => Tryz.prog.wantsStandIn t == false) = true := by kernel_rfl
  have h2 := List.all_eq_true.1 h t (Array.mem_toList_iff.2 (Array.mem_of_getElem? ht))
  have h3 : Tryz.prog.wantsStandIn t = false := by simpa using h2
  exact h3

/-- THE CARD. -/
theorem card : Rows.JournalDamagedCardSaid :=
  Claim7.holds_tied_plain_at .later [] _ _ _ _ said (fun _ h => by cases h) (by kernel_rfl) (fun _ h => by cases h) journalDamaged_row_tie rfl ⟨rfl, rfl⟩ (by kernel_rfl) rfl plain (by kernel_rfl)

end Go.Proofs.YtllmciiadceinaaGreatDoor.lawJournalDamaged
end
