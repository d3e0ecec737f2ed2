/-
  The plain law of a damaged journal: where a byte is changed that is not one of a record's length, the disk is damaged, or ends earlier, or two records have the same head. No condition. What the law of a damaged journal computes: the reference's head of a list, the strings of which heads are computed, which bytes are a length. Conditions: bounds. What a changed byte does to a journal's disk (plain), and how two lists of strings are kept. No condition. Plain: what stays so between the calls of a journal on any disk. Conditions: none. The law's list of calls, as its argument is laid. No condition. The reference's journal in memory; its Open. Conditions: each contract's own. The reference's Stored, Room and Append. Conditions: each contract's own. A journal and the reference's, each on its disk, made since a world W0 and apart from each other and from the blocks of Z: contracts lifted. Conditions: each contract's own. The law's world: a journal and the reference's; open, begin. Conditions: each contract's own. begin, and a call of the law on both journals. Conditions: each contract's own. A call of the law on both journals. Conditions: each contract's own. What the laws read of both journals between the calls. Conditions: each contract's own.
-/
import Derived.Test.YtllmciiadceinaaGreatDoorJourL
import Derived.Test.YtllmciiadceinaaGreatDoorJourN
import Derived.Test.YtllmciiadceinaaGreatDoorSumD1
import Derived.Test.YtllmciiadceinaaGreatDoorSumX1
section
namespace Go.Proofs.YtllmciiadceinaaGreatDoor
open Go Wr

def sizedB : List ByteArray → Int → Bool
  | [], _ => false
  | r :: l, k => if 1 ≤ k ∧ k ≤ ((putI (r.size : Int)).length : Int) then true else sizedB l (k - (1 + ((putI (r.size : Int)).length : Int) + (r.size : Int) + 32))

theorem set_ne {l : List UInt8} {i : Nat} {c : UInt8} (hi : i < l.length) (h : l[i]? ≠ some c) : l.set i c ≠ l := fun e => h (by
  have := congrArg (fun x : List UInt8 => x[i]?) e
  have this : (l.set i c)[i]? = l[i]? := this
  rw [List.getElem?_set_self hi] at this
  exact this.symm)

theorem damage : ∀ (recs : List ByteArray) (t : TS) (rest : List UInt8) (k : Nat) (c : UInt8) (t' : TS), (∀ r ∈ recs, r.size ≤ 65536) → k < (storeL t.head recs).length → (storeL t.head recs)[k]? ≠ some c → sizedB recs (k : Int) = false →
    loadW ((storeL t.head recs ++ rest).set k c) t = some t' →
    (c = 0 ∧ ∃ m, m < recs.length ∧ t'.recs = t.recs ++ recs.take m) ∨
    (∃ m r r' tl, recs[m]? = some r ∧ t'.recs = t.recs ++ recs.take m ++ r' :: tl ∧ r ≠ r' ∧ chainS (headF t.head (recs.take m)) r = chainS (headF t.head (recs.take m)) r') := by
  intro recs
  induction recs with
  | nil => intro t rest k c t' _ hk; simp [storeL] at hk
  | cons r R ih =>
    intro t rest k c t' ok hk hc hs hl
    rw [storeL, List.append_assoc] at hl
    rw [storeL] at hk hc
    have hr : r.size ≤ 65536 := ok r (by simp)
    have hlen := recL_length t.head r
    have hpl := putL_length r
    unfold sizedB at hs
    by_cases hk1 : k < (recL t.head r).length
    · rw [List.set_append, if_pos hk1] at hl
      rw [List.getElem?_append_left hk1] at hc
      cases k with
      | zero =>
        rw [show (recL t.head r).set 0 c = c :: (putL r ++ (chainS t.head r).data.toList) from rfl, List.cons_append] at hl
        rw [show (recL t.head r)[0]? = some 1 from rfl] at hc
        by_cases h0 : c = 0
        · subst h0
          rw [loadW_end (by simp)] at hl
          cases hl
          exact .inl ⟨rfl, 0, by simp, by simp⟩
        · rw [loadW_bad h0 (fun e => hc (by rw [e]))] at hl
          cases hl
      | succ j =>
        have hs' : ¬ (1 ≤ ((j + 1 : Nat) : Int) ∧ ((j + 1 : Nat) : Int) ≤ ((putI (r.size : Int)).length : Int)) := fun q => by rw [if_pos q] at hs; cases hs
        have hj : (putI (r.size : Int)).length ≤ j := by omega
        rw [show (recL t.head r).set (j + 1) c = 1 :: (putL r ++ (chainS t.head r).data.toList).set j c from rfl, List.cons_append, loadW_step] at hl
        rw [show (recL t.head r)[j + 1]? = (putL r ++ (chainS t.head r).data.toList)[j]? from rfl] at hc
        rw [List.set_append] at hl
        by_cases hj2 : j < (putL r).length
        · rw [if_pos hj2] at hl
          rw [List.getElem?_append_left hj2] at hc
          unfold putL at hl hc
          rw [List.set_append, if_neg (by omega)] at hl
          rw [List.getElem?_append_right hj] at hc
          obtain ⟨i, hi⟩ : ∃ i, j - (putI (r.size : Int)).length = i := ⟨_, rfl⟩
          rw [hi] at hl hc
          have hir : i < r.data.toList.length := by rw [ba_length]; omega
          obtain ⟨r', hr'⟩ : ∃ r' : ByteArray, (⟨(r.data.toList.set i c).toArray⟩ : ByteArray) = r' := ⟨_, rfl⟩
          have hd' : r'.data.toList = r.data.toList.set i c := by rw [← hr']
          have hsz : r'.size = r.size := by rw [← ba_length, hd', List.length_set, ba_length]
          have hput : putI (r.size : Int) ++ r.data.toList.set i c = putL r' := by unfold putL; rw [hsz, hd']
          rw [hput, List.append_assoc, strL_put r' (by omega)] at hl
          dsimp only at hl
          rw [List.drop_left, ← chainL_length t.head r, List.take_left] at hl
          split at hl
          · rename_i he
            obtain ⟨L, rest2, e1, -⟩ := loadW_only _ _ _ _ (Nat.le_refl _) hl
            refine .inr ⟨0, r, r', L, rfl, ?_, fun e => set_ne hir hc (by rw [← hd', ← e]), ?_⟩
            · rw [e1, TS.adds_eq]
              simp [TS.add]
            · exact ba_ext he
          · cases hl
        · rw [if_neg hj2] at hl
          rw [List.getElem?_append_right (by omega)] at hc
          rw [List.append_assoc, strL_put r hr] at hl
          dsimp only at hl
          have hil : j - (putL r).length < (chainS t.head r).data.toList.length := by rw [chainL_length]; omega
          have h32 : ((chainS t.head r).data.toList.set (j - (putL r).length) c).length = 32 := by rw [List.length_set, chainL_length]
          rw [List.drop_left, ← h32, List.take_left] at hl
          rw [if_neg (fun e => set_ne hil hc e)] at hl
          cases hl
    · rw [List.set_append, if_neg hk1, loadW_rec hr] at hl
      rw [List.getElem?_append_right (by omega)] at hc
      rw [List.length_append] at hk
      rw [if_neg (by omega)] at hs
      rw [show ((k : Int) - (1 + ((putI (r.size : Int)).length : Int) + (r.size : Int) + 32)) = ((k - (recL t.head r).length : Nat) : Int) by omega] at hs
      rcases ih (t.add r) rest _ c t' (fun x hx => ok x (by simp [hx])) (by show k - (recL t.head r).length < (storeL (chainS t.head r) R).length; omega) hc hs hl with ⟨h1, m, h2, h3⟩ | ⟨m, x, x', tl, h1, h2, h3, h4⟩
      · exact .inl ⟨h1, m + 1, by simp; omega, by rw [h3]; simp [TS.add]⟩
      · refine .inr ⟨m + 1, x, x', tl, by simpa using h1, by rw [h2]; simp [TS.add], h3, ?_⟩
        simpa [headF, TS.add] using h4
end Go.Proofs.YtllmciiadceinaaGreatDoor
end
section
namespace Go.Proofs.YtllmciiadceinaaGreatDoor
open Go Go.RowKit Go.Shelf Wr

theorem zeros32 : zerosB 32 = zero32 := rfl
theorem headF_snoc (h : ByteArray) (l : List ByteArray) (r : ByteArray) : headF h (l ++ [r]) = chainS (headF h l) r := by
  induction l generalizing h with
  | nil => rfl
  | cons x l ih => exact ih _
theorem zero32_size : zero32.size = 32 := rfl

set_option maxRecDepth 100000 in
set_option maxHeartbeats 4000000 in
theorem refhead_walk (A : Option Addr) (l : List ByteArray) (m c : Nat) (hm : l.length = m) (hl : m ≤ 1000000) (hr : ∀ r ∈ l, r.size ≤ 800000) (w : World) (hA : LAt w w.heap.size A .string l) :
    Calls Tryz.prog 43 #[.slice A m c] w fun e w' => e = .returned (.string (headF zero32 l)) ∧ Below w.heap.size w w' := by
  have HA := Lib.hid hA
  have HR := Lib.hid hr
  clear hA hr
  have hmk := mk32
  have hcv := zero_conv w
  go_enter Tryz.func43, Tryz.ntmps43
  go_wp2_with fail
  go_loopw [3, 4] (fun v3 v4 wr => ∃ k : Nat, k ≤ m ∧ v4 = .int .i64 k ∧ v3 = .string (headF zero32 (l.take k)) ∧ Below w.heap.size w wr) (fun _ i _ => m - (intOf i).toNat)
  case atStart => exact ⟨0, by omega, rfl, rfl, (Below.refl w.heap.size w).alloc (Nat.le_refl _) _⟩
  case round =>
    obtain ⟨k, hk, rfl, rfl, hB⟩ := hrel
    have HB := Lib.hid hB
    have hbs := hB.size
    have hAw := HA.out.below hB
    by_cases hlt : k < m
    · obtain ⟨a, rfl, hab, hac⟩ := hAw.get (by omega : k < l.length)
      have hnx : headF zero32 (l.take (k + 1)) = chainS (headF zero32 (l.take k)) l[k] := by rw [List.take_succ_eq_append_getElem (by omega), headF_snoc]
      have hz := headF_size zero32_size (l.take k)
      have hr := HR.out l[k] (List.getElem_mem _)
      obtain ⟨r, hrr⟩ : ∃ r, l[k] = r := ⟨_, rfl⟩
      obtain ⟨g, hg⟩ : ∃ g, headF zero32 (l.take k) = g := ⟨_, rfl⟩
      rw [hrr] at hac hr hnx
      rw [hg] at hnx hz ⊢
      have HNX := Lib.hid hnx
      have HC := Lib.hid (refchain_walk g r (by omega))
      have y1 : (0 : Int) ≤ (k : Int) := by omega
      have y2 : (k : Int) < (m : Int) := by omega
      clear hnx hz hr hrr hg hAw hB
      go_wp2_with (first | (go_at_call 57; refine (HC.out _).mono ?_; rintro e w1 ⟨rfl, hb1⟩) | fail)
      exact ⟨⟨k + 1, by omega, by go_num, by rw [HNX.out], HB.out.trans (hb1.mono hbs)⟩, by simp only [intOf]; omega⟩
    · obtain rfl : k = m := by omega
      have hfin : l.take k = l := List.take_of_length_le (by omega)
      rw [hfin]
      clear hlt hfin
      go_wp2_with fail
      go_ret
      exact ⟨rfl, HB.out⟩

/-- The strings of which the heads of a list are computed. -/
def headsL (h : ByteArray) : List ByteArray → List ByteArray
  | [] => []
  | r :: l => (⟨#[2]⟩ ++ h ++ r) :: headsL (chainS h r) l
theorem headsL_length (h : ByteArray) (l : List ByteArray) : (headsL h l).length = l.length := by
  induction l generalizing h with
  | nil => rfl
  | cons r l ih => simp [headsL, ih]
theorem headsL_snoc (h : ByteArray) (l : List ByteArray) (r : ByteArray) : headsL h (l ++ [r]) = headsL h l ++ [⟨#[2]⟩ ++ headF h l ++ r] := by
  induction l generalizing h with
  | nil => rfl
  | cons x l ih => simp only [List.cons_append, headsL, ih]; rfl

set_option maxRecDepth 100000 in
set_option maxHeartbeats 4000000 in
theorem heads_walk (A : Option Addr) (l : List ByteArray) (m c : Nat) (hm : l.length = m) (hl : m ≤ 1000000) (hr : ∀ r ∈ l, r.size ≤ 800000) (w : World) (hA : LAt w w.heap.size A .string l) :
    Calls Tryz.prog 27 #[.slice A m c] w fun e w' => (∃ v, e = .returned v ∧ OLs w' w.heap.size v (headsL zero32 l)) ∧ Below w.heap.size w w' := by
  have HA := Lib.hid hA
  have HR := Lib.hid hr
  have H0 := Lib.hid (fun W => refhead_walk none [] 0 0 rfl (by omega) (fun _ e => by cases e) W LAt.nil)
  clear hA hr
  go_enter Tryz.func27, Tryz.ntmps27
  go_wp2_with (first | (go_at_call 43; refine (H0.out _).mono ?_; rintro e w1 ⟨rfl, hb1⟩) | fail)
  go_loopw [3, 4, 5] (fun v3 v4 v5 wr => ∃ k : Nat, k ≤ m ∧ v5 = .int .i64 k ∧ v4 = .string (headF zero32 (l.take k)) ∧ OLs wr w.heap.size v3 (headsL zero32 (l.take k)) ∧ Below w.heap.size w wr) (fun _ _ i _ => m - (intOf i).toNat)
  case atStart => exact ⟨0, by omega, rfl, rfl, OL.nil, hb1⟩
  case round =>
    clear hb1
    obtain ⟨k, hk, rfl, rfl, ho, hB⟩ := hrel
    have HB := Lib.hid hB
    have hbs := hB.size
    have hAw := HA.out.below hB
    have hol : (headsL zero32 (l.take k)).length = k := by rw [headsL_length, List.length_take]; omega
    have HOL := Lib.hid hol
    clear hB hol
    by_cases hlt : k < m
    · obtain ⟨a, rfl, hab, hac⟩ := hAw.get (by omega : k < l.length)
      have hnx : headF zero32 (l.take (k + 1)) = chainS (headF zero32 (l.take k)) l[k] := by rw [List.take_succ_eq_append_getElem (by omega), headF_snoc]
      have hnl : headsL zero32 (l.take (k + 1)) = headsL zero32 (l.take k) ++ [⟨#[2]⟩ ++ headF zero32 (l.take k) ++ l[k]] := by rw [List.take_succ_eq_append_getElem (by omega), headsL_snoc]
      have hz := headF_size zero32_size (l.take k)
      have hr := HR.out l[k] (List.getElem_mem _)
      obtain ⟨r, hrr⟩ : ∃ r, l[k] = r := ⟨_, rfl⟩
      obtain ⟨g, hg⟩ : ∃ g, headF zero32 (l.take k) = g := ⟨_, rfl⟩
      rw [hrr] at hac hr hnx hnl
      rw [hg] at hnx hz hnl ⊢
      obtain ⟨T, hT⟩ : ∃ T, (⟨#[2]⟩ : ByteArray) ++ g ++ r = T := ⟨_, rfl⟩
      rw [hT] at hnl
      have hadd1 := fun W => strAdd (P := Tryz.prog) ⟨#[2]⟩ g (by show 1 + _ ≤ _; omega) W
      have hadd2 := fun W => strAdd (P := Tryz.prog) (⟨#[2]⟩ ++ g) r (by rw [ba_size_append]; show 1 + _ + _ ≤ _; omega) W
      rw [hT] at hadd2
      have HNX := Lib.hid hnx
      have HNL := Lib.hid hnl
      have HC := Lib.hid (refchain_walk g r (by omega))
      have y1 : (0 : Int) ≤ (k : Int) := by omega
      have y2 : (k : Int) < (m : Int) := by omega
      clear hnx hnl hz hr hrr hg hAw hT
      have hak : (a.add k).block < w.heap.size := by rw [addr_add_block]; exact hab
      go_wp2_with (first | (at_builtin; go_must (refine wpList_app rfl (.tmp 13) (.tmp 21) 22 rfl elemStr _ (headsL zero32 (l.take k)) k HOL.out rfl (ho.alloc (.cells #[.string T] 9)) T wr.heap.size #[.string T] rfl ?hc rfl rfl (by simp [one, Value.oneCell']) (by rw [HOL.out]; unfold maxLen; omega) (by rw [HOL.out]; omega) (by simp; omega) ?_); (case hc => exact World.alloc_heap_new wr _); intro g5 c5 w5 h5 hg5 hg5' hg5l hb5; have hac5 : w5.cell? (a.add k) = some (.string r) := (hb5.cell hak).trans ((((Below.refl w.heap.size wr).alloc hbs (.cells #[.string T] 9)).cell hak).trans hac)) | (go_at_call 57; refine (HC.out _).mono ?_; rintro e w1 ⟨rfl, hb1⟩) | fail)
      refine ⟨⟨k + 1, by omega, by go_num, by rw [HNX.out], ?_, ((HB.out.alloc hbs (.cells #[.string T] 9)).trans hb5).trans (hb1.mono (by have := hb5.size; rw [World.size_alloc] at this; omega))⟩, by simp [intOf]; omega⟩
      rw [HNL.out]
      exact h5.below hb1 (Nat.le_refl _)
    · obtain rfl : k = m := by omega
      have hfin : l.take k = l := List.take_of_length_le (by omega)
      rw [hfin] at ho
      clear hlt hfin
      go_wp2_with fail
      go_ret
      exact ⟨⟨_, rfl, ho⟩, HB.out⟩

set_option maxRecDepth 100000 in
set_option maxHeartbeats 4000000 in
theorem sized_walk (A : Option Addr) (l : List ByteArray) (m c : Nat) (hm : l.length = m) (hl : m ≤ 1000000) (hr : ∀ r ∈ l, r.size ≤ 65536) (at0 : Int) (h1 : -1000000000 ≤ at0) (h2 : at0 ≤ 1000000000) (w : World) (hA : LAt w w.heap.size A .string l) :
    Calls Tryz.prog 26 #[.slice A m c, .int .i64 at0] w fun e w' => e = .returned (.bool (sizedB l at0)) ∧ Below w.heap.size w w' := by
  have HA := Lib.hid hA
  have HR := Lib.hid hr
  clear hA hr
  obtain ⟨R, hR⟩ : ∃ R, sizedB l at0 = R := ⟨_, rfl⟩
  rw [hR]
  go_enter Tryz.func26, Tryz.ntmps26
  go_wp2_with fail
  go_loopw [1, 5] (fun v1 v5 wr => ∃ (k : Nat) (x : Int), k ≤ m ∧ v5 = .int .i64 k ∧ v1 = .int .i64 x ∧ x ≤ 1000000000 ∧ -1000000000 - 70000 * (k : Int) ≤ x ∧ Hid (sizedB (l.drop k) x = R) ∧ Below w.heap.size w wr) (fun _ i _ => m - (intOf i).toNat)
  case atStart => exact ⟨0, at0, by omega, rfl, rfl, h2, by omega, Lib.hid hR, Below.refl _ _⟩
  case round =>
    obtain ⟨k, x, hk, rfl, rfl, hx1, hx2, hS, hB⟩ := hrel
    have HB := Lib.hid hB
    have hbs := hB.size
    have hAw := HA.out.below hB
    by_cases hlt : k < m
    · obtain ⟨a, rfl, hab, hac⟩ := hAw.get (by omega : k < l.length)
      have hs := hS.out
      rw [List.drop_eq_getElem_cons (by omega : k < l.length)] at hs
      unfold sizedB at hs
      have hr := HR.out l[k] (List.getElem_mem _)
      obtain ⟨r, hrr⟩ : ∃ r, l[k] = r := ⟨_, rfl⟩
      rw [hrr] at hac hr hs
      have hp := putI_len9 hr
      have HP := Lib.hid (refPutInt_yes (r.size : Int) (by omega) (by omega))
      obtain ⟨p, hpp⟩ : ∃ p, putI (r.size : Int) = p := ⟨_, rfl⟩
      rw [hpp] at HP hs hp
      have hps : (⟨p.toArray⟩ : ByteArray).size = p.length := by rw [ba_mk_size]
      have hak : (a.add k).block < wr.heap.size := by rw [addr_add_block]; exact Nat.lt_of_lt_of_le hab hbs
      have y1 : (0 : Int) ≤ (k : Int) := by omega
      have y2 : (k : Int) < (m : Int) := by omega
      by_cases q1 : 1 ≤ x
      · by_cases q2 : x ≤ (p.length : Int)
        · rw [if_pos ⟨q1, q2⟩] at hs
          subst hs
          clear hR hrr hpp hS
          go_wp2_with (first | (go_at_call 56; refine (HP.out _).mono ?_; rintro e w1 ⟨rfl, hb1⟩; have hac1 : w1.cell? (a.add k) = some (.string r) := (hb1.cell hak).trans hac) | fail)
          go_ret
          exact ⟨rfl, HB.out.trans (hb1.mono hbs)⟩
        · have d2 : decide (x ≤ (p.length : Int)) = false := by simpa using q2
          rw [if_neg (fun h => q2 h.2)] at hs
          have HS := Lib.hid hs
          clear hs hR hrr hpp hS
          go_wp2_with (first | (go_at_call 56; refine (HP.out _).mono ?_; rintro e w1 ⟨rfl, hb1⟩; have hac1 : w1.cell? (a.add k) = some (.string r) := (hb1.cell hak).trans hac) | fail)
          exact ⟨⟨k + 1, _, by omega, by go_num, rfl, by omega, by omega, HS, HB.out.trans (hb1.mono hbs)⟩, by simp only [intOf]; omega⟩
      · rw [if_neg (fun h => q1 h.1)] at hs
        have HS := Lib.hid hs
        clear hs hR hrr hpp hS
        go_wp2_with (first | (go_at_call 56; refine (HP.out _).mono ?_; rintro e w1 ⟨rfl, hb1⟩; have hac1 : w1.cell? (a.add k) = some (.string r) := (hb1.cell hak).trans hac) | fail)
        exact ⟨⟨k + 1, _, by omega, by go_num, rfl, by omega, by omega, HS, HB.out.trans (hb1.mono hbs)⟩, by simp only [intOf]; omega⟩
    · obtain rfl : k = m := by omega
      have hs := hS.out
      rw [List.drop_eq_nil_of_le (by omega)] at hs
      unfold sizedB at hs
      subst hs
      clear hlt hR hS
      go_wp2_with fail
      go_ret
      exact ⟨rfl, HB.out⟩

end Go.Proofs.YtllmciiadceinaaGreatDoor
end
section
namespace Go.Proofs.YtllmciiadceinaaGreatDoor
open Go Go.RowKit Go.Shelf Wr

def smallB (l : List ByteArray) : Prop := ∀ r ∈ l, r.size ≤ 100
theorem store_small : ∀ (L : List ByteArray) (h : ByteArray), smallB L → (storeL h L).length ≤ 142 * L.length
  | [], _, _ => by simp [storeL]
  | r :: L, h, hs => by
    have h1 := store_small L (chainS h r) (fun x hx => hs x (by simp [hx]))
    have h2 := hs r (by simp)
    have h3 := putI_len9 (n := r.size) (by omega)
    rw [storeL, List.length_append, rec_len, List.length_cons]
    omega
/-- A group of a law on its disk of 6000 bytes. -/
theorem dmg_step {s : DS} {t : TS} {L : List ByteArray} {k : Nat} (hc : Clean 6000 s t) (hg : Good 6000 t) (hl : s.left = 0) (hk : t.size ≤ 852 * k) (hk6 : k < 6) (h1 : smallB L) (h2 : L.length ≤ 6) (h3 : longB L = false) :
    ∃ s' t', appE 6000 s t false L = 0 ∧ appD 6000 s t false L = s' ∧ appT 6000 s t false L = t' ∧ appB 6000 s t false L = false ∧ Clean 6000 s' t' ∧ Good 6000 t' ∧ s'.left = 0 ∧ t'.size ≤ 852 * (k + 1) := by
  have hL : (outL t L).length ≤ 852 := by
    have := store_small L t.head h1
    show (storeL t.head L).length ≤ 852
    omega
  rcases clean_append hc hg h3 (by omega : t.size + (outL t L).length ≤ 6000) with ⟨e1, e2, e3, e4, e5, -, e7⟩ | ⟨-, -, -, -, e5⟩
  · refine ⟨_, _, e1, rfl, e4, e5, e2, e3, by omega, ?_⟩
    have hL' : (storeL t.head L).length ≤ 852 := hL
    rw [adds_size]; omega
  · omega
/-- Open of a disk with power that holds a journal. -/
theorem open_zero {n : Nat} {s : DS} {t : TS} (ho : s.off = false) (hl : s.left = 0) (hn : s.vis.length = n) (h : loadW s.vis TS.zero = some t) : openE s = 0 ∧ Good n t := by
  obtain ⟨L, rest, e1, e2, e3, e4⟩ := loadW_only _ _ _ _ (Nat.le_refl _) h
  have hrec : t.recs = L := by rw [e1, TS.adds_eq]; rfl
  have h1 : t.size = (storeL zero32 L).length := by rw [e1, TS.adds_eq]; simp [TS.zero]
  have hfit : t.size ≤ n := by
    rw [h1, ← hn, e2, List.length_append]
    show (storeL TS.zero.head L).length ≤ _
    omega
  refine ⟨?_, ⟨by rw [hrec]; exact e1, by rw [hrec]; exact e4, hfit⟩⟩
  unfold openE
  rw [if_neg (by rw [ho]; decide), h]
  dsimp only
  split
  · rfl
  · unfold DS.clr
    rw [wr_in ho (by unfold zerosB; rw [ba_mk_size, List.length_replicate]; omega)]
    unfold DS.write
    rw [used0 (by exact hl)]
    unfold chkE
    rw [if_neg (by dsimp only; rw [ho]; decide)]
theorem headsL_get : ∀ (l : List ByteArray) (h : ByteArray) (m : Nat) (r : ByteArray), l[m]? = some r → (headsL h l)[m]? = some (⟨#[2]⟩ ++ headF h (l.take m) ++ r)
  | [], _, m, r, e => by simp at e
  | x :: l, h, 0, r, e => by
    simp only [List.getElem?_cons_zero, Option.some.injEq] at e
    subst e; rfl
  | x :: l, h, m + 1, r, e => by
    rw [List.getElem?_cons_succ] at e
    have := headsL_get l (chainS h x) m r e
    rw [headsL, List.getElem?_cons_succ, this]
    rfl
theorem headsL_size : ∀ (l : List ByteArray) (h : ByteArray), h.size = 32 → (∀ r ∈ l, r.size ≤ 100000) → ∀ z ∈ headsL h l, z.size ≤ 999000
  | [], _, _, _, z, hz => by cases hz
  | r :: l, h, hh, hr, z, hz => by
    rw [headsL, List.mem_cons] at hz
    rcases hz with rfl | hz
    · have := hr r (by simp)
      rw [ba_size_append, ba_size_append, hh]
      show 1 + 32 + r.size ≤ _
      omega
    · exact headsL_size l _ (chainS_size h r) (fun x hx => hr x (by simp [hx])) z hz
theorem OL.lencap {w : World} {B : Nat} {e : TypeId} {α : Type} {f : α → List Value} {A : Option Addr} {k c : Nat} {l : List α} {sz : Nat} (h : OL w B e sz f (.slice A k c) l) : k ≤ c := by
  rcases h.2 with ⟨he, -⟩ | ⟨g, cap, cur, he, h2⟩
  · injection he with _ e2 e3; omega
  · injection he with _ e2 e3
    omega
theorem app_inj {a b c : ByteArray} (h : a ++ b = a ++ c) : b = c := by
  have := congrArg (fun x : ByteArray => x.data.toList) h
  simp only [ba_append, List.append_cancel_left_eq] at this
  exact ba_ext this
/-- Two lists whose strings of heads differ at an index, with the same digest. -/
def Clash (a b : List ByteArray) : Prop := ∃ (m : Nat) (x y : ByteArray), (headsL zero32 a)[m]? = some x ∧ (headsL zero32 b)[m]? = some y ∧ x ≠ y ∧ shaS x.data.toList = shaS y.data.toList
theorem dmg_law {s : DS} {t : TS} {k : Nat} {c : UInt8} (hc : Clean 6000 s t) (hg : Good 6000 t) (hl : s.left = 0) (hk : k < t.size) (hb : s.vis[k]? ≠ some c) (hs : sizedB t.recs (k : Int) = false) :
    (s.wr (k : Int) ⟨#[c]⟩).pend.length ≤ 1 ∧ (s.wr (k : Int) ⟨#[c]⟩).left = 0 ∧
    (openE (s.wr (k : Int) ⟨#[c]⟩) = 262 ∨ (openE (s.wr (k : Int) ⟨#[c]⟩) = 0 ∧ ∃ t', loadW (s.wr (k : Int) ⟨#[c]⟩).vis TS.zero = some t' ∧ Good 6000 t' ∧ ((c = 0 ∧ t'.recs.length < t.recs.length ∧ t'.recs = t.recs.take t'.recs.length) ∨ Clash t.recs t'.recs))) := by
  have hv : s.vis.length = 6000 := by rw [hc.vis]; exact cont_length hg
  have hfit := hg.fit
  have e : s.wr (k : Int) ⟨#[c]⟩ = { s with pend := s.pend ++ [(k, ⟨#[c]⟩)], vis := s.vis.set k c } := by
    rw [wr_in hc.off (by rw [hv]; show k + 1 ≤ _; omega)]
    unfold DS.write
    rw [used0 (by exact hl)]
    have : patch s.vis k (⟨#[c]⟩ : ByteArray).data.toList = s.vis.set k c := by
      unfold patch
      show s.vis.take k ++ [c] ++ s.vis.drop (k + 1) = _
      rw [List.set_eq_take_append_cons_drop, if_pos (by omega)]
      simp
    rw [this]
  rw [e]
  have hlen : (s.vis.set k c).length = 6000 := by rw [List.length_set, hv]
  have hcont : s.vis = storeL zero32 t.recs ++ List.replicate (6000 - t.size) 0 := hc.vis
  have hsz := hg.size
  refine ⟨by dsimp only; rw [hc.pend]; simp, hl, ?_⟩
  obtain ⟨L, hL⟩ : ∃ L, loadW (s.vis.set k c) TS.zero = L := ⟨_, rfl⟩
  cases L with
  | none =>
    left
    unfold openE
    rw [if_neg (by dsimp only; rw [hc.off]; decide)]
    dsimp only
    rw [hL]
  | some t' =>
    right
    obtain ⟨o1, o2⟩ := open_zero (s := { s with pend := s.pend ++ [(k, ⟨#[c]⟩)], vis := s.vis.set k c }) hc.off hl hlen hL
    refine ⟨o1, t', hL, o2, ?_⟩
    have hb' : (storeL TS.zero.head t.recs)[k]? ≠ some c := by
      rw [hcont, List.getElem?_append_left (by omega)] at hb
      exact hb
    rw [hcont] at hL
    rcases damage t.recs TS.zero _ k c t' hg.ok (by show k < (storeL zero32 t.recs).length; omega) hb' hs hL with ⟨h1, m, h2, h3⟩ | ⟨m, r, r', tl, h1, h2, h3, h4⟩
    · left
      have h3' : t'.recs = t.recs.take m := h3
      have hlm : t'.recs.length = m := by rw [h3', List.length_take]; omega
      exact ⟨h1, by omega, by rw [hlm]; exact h3'⟩
    · right
      have h2' : t'.recs = t.recs.take m ++ r' :: tl := by rw [h2]; simp [TS.zero]
      have hm : m < t.recs.length := (List.getElem?_eq_some_iff.1 h1).1
      have hlm : (t.recs.take m).length = m := by rw [List.length_take]; omega
      have hr' : t'.recs[m]? = some r' := by rw [h2', List.getElem?_append_right (by omega), hlm]; simp
      have htk : t'.recs.take m = t.recs.take m := by
        rw [h2', List.take_append, List.take_of_length_le (by omega), hlm]; simp
      have g1 := headsL_get t.recs zero32 m r h1
      have g2 := headsL_get t'.recs zero32 m r' hr'
      rw [htk] at g2
      exact ⟨m, _, _, g1, g2, fun q => h3 (app_inj q), h4⟩

/-- Two lists that a call holds. -/
def Pair2 (W : World) (A B : Option Addr) (a b : List ByteArray) (w : World) : Prop := LAt w w.heap.size A .string a ∧ LAt w w.heap.size B .string b ∧ Below W.heap.size W w
theorem Pair2.below {W w w' : World} {A B : Option Addr} {a b : List ByteArray} (h : Pair2 W A B a b w) (hb : Below w.heap.size w w') : Pair2 W A B a b w' :=
  ⟨(h.1.below hb).more hb.size, (h.2.1.below hb).more hb.size, h.2.2.trans (hb.mono h.2.2.size)⟩
theorem Pair2.low {W w : World} {A B : Option Addr} {a b : List ByteArray} (h : Pair2 W A B a b w) : Below W.heap.size W w := h.2.2
theorem Pair2.drew {W w : World} {A B : Option Addr} {a b : List ByteArray} (h : Pair2 W A B a b w) : Pair2 W A B a b w.drew := h.below (Below.refl _ w).drew
theorem Pair2.sum {W w : World} {A B : Option Addr} {a b : List ByteArray} (h : Pair2 W A B a b w) (u : ByteArray) (hu : u.size ≤ 1000000) : Calls Tryz.prog 28 #[.string u] w fun e w' => e = .returned (.string (shaS u.data.toList)) ∧ Pair2 W A B a b w' :=
  (refsum_walk u hu w).mono fun _ _ ⟨h1, h2⟩ => ⟨h1, h.below h2⟩

end Go.Proofs.YtllmciiadceinaaGreatDoor
end
section
namespace Go.Proofs.YtllmciiadceinaaGreatDoor
open Go Go.RowKit Go.Shelf Wr

theorem load_good {n : Nat} {l : List UInt8} {t : TS} (hn : l.length = n) (h : loadW l TS.zero = some t) : Good n t := by
  have hf := load_fit h
  obtain ⟨L, rest, e1, -, -, e4⟩ := loadW_only _ l _ _ (Nat.le_refl _) h
  have hr : t.recs = L := by rw [e1, TS.adds_eq]; simp [TS.zero]
  exact ⟨by rw [hr]; exact e1, by rw [hr]; exact e4, by omega⟩
/-- Bounds of a disk's log. -/
def Bnd (m : Nat) (s : DS) : Prop := s.pend.length ≤ m ∧ s.left ≤ 9223372036854775807
theorem Bnd.more {m m' : Nat} {s : DS} (h : Bnd m s) (hm : m ≤ m') : Bnd m' s := ⟨Nat.le_trans h.1 hm, h.2⟩
theorem Bnd.wr {m : Nat} {s : DS} (h : Bnd m s) (off : Int) (x : ByteArray) : Bnd (m + 1) (s.wr off x) := by
  have h1 := wr_pend s off x
  exact ⟨by have := h1.1; have := h.1; omega, by have := h1.2; have := h.2; omega⟩
theorem Bnd.sync {m : Nat} {s : DS} (h : Bnd m s) : Bnd m s.sync := by
  have h1 := sync_pend s
  exact ⟨by have := h1.1; have := h.1; omega, by rw [h1.2]; exact h.2⟩
theorem Bnd.open {m : Nat} {s : DS} (h : Bnd m s) : Bnd (m + 1) (openD s) := by
  unfold openD
  split
  · exact h.more (by omega)
  · split
    · exact h.more (by omega)
    · split
      · exact h.more (by omega)
      · exact (h.wr _ _).sync
theorem Bnd.app {m : Nat} {s : DS} (h : Bnd m s) (n : Nat) (t : TS) (b : Bool) (L : List ByteArray) : Bnd (m + 2) (appD n s t b L) := by
  unfold appD
  cases appK n t b L with
  | group => exact (((h.wr _ _).sync).wr _ _).sync
  | broken => exact h.more (by omega)
  | full => exact h.more (by omega)
  | none => exact h.more (by omega)
theorem cut_pend (s : DS) (k : Int) (hk : k ≤ 9223372036854775807) (hl : s.left ≤ 9223372036854775807) : (s.cut k).pend.length = s.pend.length ∧ (s.cut k).left ≤ 9223372036854775807 := by
  unfold DS.cut
  split
  · exact ⟨rfl, hl⟩
  · split
    · exact ⟨rfl, hl⟩
    · exact ⟨rfl, by dsimp only; omega⟩
theorem Bnd.cut {m : Nat} {s : DS} (h : Bnd m s) (k : Int) (hk : k ≤ 9223372036854775807) : Bnd m (s.cut k) := by
  have h1 := cut_pend s k hk h.2
  exact ⟨by rw [h1.1]; exact h.1, h1.2⟩
theorem app_good {n : Nat} {s : DS} {t : TS} {b : Bool} {L : List ByteArray} (h : Good n t) : Good n (appT n s t b L) := by
  unfold appT
  cases hk : appK n t b L with
  | group =>
    simp only
    split
    · exact h
    · unfold appK at hk
      split at hk
      · cases hk
      · rename_i h1
        split at hk
        · cases hk
        · rename_i h2
          have h3 : longB L = false := by cases b <;> simp_all
          exact h.adds (short_ok h3) (by omega)
  | broken => exact h
  | full => exact h
  | none => exact h
theorem good_recs {n : Nat} {t : TS} (h : Good n t) : t.recs.length * 34 ≤ n := by
  have := (storeL_le zero32 t.recs h.ok).2
  have := h.size
  have := h.fit
  omega
end Go.Proofs.YtllmciiadceinaaGreatDoor
end
section
namespace Go.Proofs.YtllmciiadceinaaGreatDoor
open Go Go.RowKit Go.Shelf Go.ChangeShapes Go.WideShapes Go.Deep Wr

theorem add_field (a : Addr) (m j : Nat) : a.add (m + (j + 1)) = ⟨(a.add m).block, (a.add m).off + (j + 1), none⟩ := by
  unfold Addr.add
  by_cases h : m = 0
  · subst h; simp
  · simp [h]; omega
/-- A call of the law: its cells; what it holds. -/
structure OP where
  kind : Int
  lA : Option Addr
  l : List ByteArray
  lc : Nat
  n : Int
  kA : Option Addr
  keep : List Int
  kc : Nat
def OP.cells (y : OP) : List Value := [.int .i64 y.kind, .slice y.lA y.l.length y.lc, .int .i64 y.n, .slice y.kA y.keep.length y.kc]
structure OP.ok (W : World) (y : OP) : Prop where
  k1 : -9223372036854775808 ≤ y.kind
  k2 : y.kind ≤ 9223372036854775807
  n1 : -9223372036854775808 ≤ y.n
  n2 : y.n ≤ 9223372036854775807
  lcap : y.l.length ≤ y.lc
  lmax : y.lc ≤ 9223372036854775807
  llat : LAt W W.heap.size y.lA .string y.l
  kcap : y.keep.length ≤ y.kc
  kmax : y.kc ≤ 9223372036854775807
  klat : LAt W W.heap.size y.kA iv y.keep

set_option maxRecDepth 100000 in
theorem open_opsAt {H : Type} {enc : TypeId × Value → H} {W : World} {base : Nat} {sp : Nat → Bool} {held : Bool} {b0 : Nat} {r : Reach} {v : Value} {d : DataW H} {p : List MemPlace}
    (hv : Value.okWide Tryz.prog W r b0 60 v) (h : DataW.Trod enc Tryz.prog W base sp held 60 v d p) :
    ∃ (A : Option Addr) (l : List OP) (cap : Nat), v = .slice A l.length cap ∧ l.length ≤ cap ∧ cap ≤ maxLen ∧ CAt W W.heap.size A 4 OP.cells l ∧ ∀ y ∈ l, y.ok W := by
  refine open_rowsAt OP.cells (OP.ok W) Tryz.underlying60 4 (by kernel_rfl) (by decide) (fun n cs x hl ht => ?_) hv h
  obtain ⟨ys, m, _, _, _, hyl, hf⟩ := DataW.trod_struct Tryz.underlying62 ht
  match cs, hl with
  | [c0, c1, c2, c3], _ =>
    have h0 := hf 0 _ rfl
    have h1 := hf 1 _ rfl
    have h2 := hf 2 _ rfl
    have h3 := hf 3 _ rfl
    match ys, hyl with
    | [y0, y1, y2, y3], _ =>
      obtain ⟨z0, e0, _, w0⟩ := DataW.trod_int Tryz.underlying3 (x := y0) (cs := [c0]) h0
      obtain ⟨z2, e2, _, w2⟩ := DataW.trod_int Tryz.underlying3 (x := y2) (cs := [c2]) h2
      simp only [List.cons.injEq, and_true] at e0 e2
      subst e0 e2
      have hs : ∃ (lA : Option Addr) (l : List ByteArray) (lc : Nat), c1 = .slice lA l.length lc ∧ l.length ≤ lc ∧ lc ≤ 9223372036854775807 ∧ LAt W W.heap.size lA .string l := by
        rcases Deep.open_strs (cs := [c1]) (x := y1) Tryz.underlying22 Tryz.underlying9 (by kernel_rfl) h1 with ⟨e1, _⟩ | ⟨a, len, cap, m, Sx, e1, _, hl, hm, hmm, _, hx⟩
        · simp only [List.cons.injEq, and_true] at e1
          exact ⟨none, [], 0, e1, Nat.le_refl _, by omega, LAt.nil⟩
        · simp only [List.cons.injEq, and_true] at e1
          have hlm : len ≤ m := by rw [hmm]; split <;> omega
          unfold maxLen at hm
          refine ⟨some a, (List.range len).map Sx, cap, by rw [e1]; simp, by simpa using hl, hm, fun i x hi => ?_⟩
          rw [List.getElem?_map] at hi
          have hi2 : i < len := by
            rcases Nat.lt_or_ge i len with q | q
            · exact q
            · rw [List.getElem?_eq_none (by simpa using q)] at hi; cases hi
          rw [List.getElem?_range hi2] at hi
          cases hi
          have := (hx i (by omega)).1
          exact ⟨a, rfl, by have := cell_lt this; rwa [addr_add_block] at this, this⟩
      have hk : ∃ (kA : Option Addr) (k : List Int) (kc : Nat), c3 = .slice kA k.length kc ∧ k.length ≤ kc ∧ kc ≤ 9223372036854775807 ∧ LAt W W.heap.size kA iv k := by
        rcases open_ints (cs := [c3]) (x := y3) Tryz.underlying56 Tryz.underlying3 (by kernel_rfl) h3 with ⟨e4, _⟩ | ⟨a, len, cap, zs, e4, _, hl4, hm4, hz, _, hx4, hw4⟩
        · simp only [List.cons.injEq, and_true] at e4
          exact ⟨none, [], 0, e4, Nat.le_refl _, by omega, LAt.nil⟩
        · simp only [List.cons.injEq, and_true] at e4
          have hlm : len ≤ zs.length := by rw [hz]; split <;> omega
          have hlen : (zs.take len).length = len := by rw [List.length_take]; omega
          unfold maxLen at hm4
          refine ⟨some a, zs.take len, cap, by rw [hlen]; exact e4, by rw [hlen]; exact hl4, hm4, fun i x hi => ?_⟩
          rw [List.getElem?_take] at hi
          split at hi
          · have hi3 : i < zs.length := by omega
            have := hx4 i hi3
            rw [List.getD_eq_getElem?_getD, hi] at this
            exact ⟨a, rfl, by have := cell_lt this; rwa [addr_add_block] at this, this⟩
          · cases hi
      obtain ⟨lA, l, lc, rfl, a1, a2, a3⟩ := hs
      obtain ⟨kA, k, kc, rfl, b1, b2, b3⟩ := hk
      exact ⟨⟨z0, lA, l, lc, z2, kA, k, kc⟩, rfl, (bounds_i64 w0).1, (bounds_i64 w0).2, (bounds_i64 w2).1, (bounds_i64 w2).2, a1, a2, a3, b1, b2, b3⟩
end Go.Proofs.YtllmciiadceinaaGreatDoor
end
section
namespace Go.Proofs.YtllmciiadceinaaGreatDoor
open Go Go.RowKit Go.Shelf Wr

/-- The reference's journal at block j: its disk x, its records v. -/
structure RJAt (W : World) (G : Nat → Prop) (j x : Nat) (v : Value) (t : TS) (brk : Bool) : Prop where
  hd : W.heap[j]? = some (.cells #[.pointer (some ⟨x, 0, none⟩), v, .int .i64 (t.size : Int), .bool brk] 43 (0, 0))
  rl : OL W 0 9 1 (one .string) v t.recs
  ne : ∀ q, v.ownBlock = some q → q ≠ j
  fj : G j
  fv : ∀ q, v.ownBlock = some q → G q
  lf : ∀ k, G k → k < W.heap.size
section
variable {W W' : World} {G : Nat → Prop} {j x : Nat} {v : Value} {t : TS} {brk : Bool}
theorem RJAt.cell (h : RJAt W G j x v t brk) (i : Nat) : W.cell? ⟨j, i, none⟩ = (#[.pointer (some ⟨x, 0, none⟩), v, .int .i64 (t.size : Int), .bool brk] : Array Value)[i]? := by
  simp [World.cell?, h.hd]
theorem RJAt.free (h : RJAt W G j x v t brk) (i : Nat) : W.frozen? ⟨j, i, none⟩ = false := by simp [World.frozen?, h.hd]
theorem RJAt.keep {Z : Nat → Prop} (h : RJAt W G j x v t brk) (u : Turns Z W W') (hz : ∀ k, G k → ¬ Z k) : RJAt W' G j x v t brk :=
  ⟨(u.block j (h.lf j h.fj) (hz j h.fj)).trans h.hd, h.rl.keep fun q hq => u.block q (h.rl.lt q hq).2 (hz q (h.fv q hq)), h.ne, h.fj, h.fv, fun k hk => Nat.lt_of_lt_of_le (h.lf k hk) u.size⟩
end

/-- How the reference's Open ends. -/
def RefO (W : World) (F : Nat → Prop) (x n : Nat) (s : DS) (e : Ending) (W' : World) : Prop :=
  (openE s = 0 ∧ ∃ j v t G g c F' vp, e = .returned (.tuple #[.pointer (some ⟨j, 0, none⟩), .int .i64 0]) ∧ loadW s.vis TS.zero = some t ∧ RJAt W' G j x v t false ∧ RefD W' F' x g c vp n (openD s) ∧ (∀ k, F' k → ¬ G k) ∧ (∀ k, F' k → F k ∨ W.heap.size ≤ k) ∧ (∀ k, G k → W.heap.size ≤ k)) ∨
  (openE s ≠ 0 ∧ e = .returned (.tuple #[.pointer none, .int .i64 (openE s)]) ∧ ∃ g c F' vp, RefD W' F' x g c vp n (openD s) ∧ (∀ k, F' k → F k ∨ W.heap.size ≤ k))

theorem Turns.low {W w' : World} {F : Nat → Prop} (h : Turns (fun k => W.heap.size ≤ k) W w') : Turns F W w' := ⟨h.os, h.tape, h.output, h.size, fun k hk _ => h.block k hk (by omega)⟩
theorem Turns.high {W w w' : World} (hb : Below W.heap.size w w') : Turns (fun k => W.heap.size ≤ k) w w' := ⟨hb.os, hb.tape, hb.output, hb.size, fun k _ hz => hb.block k (by omega)⟩
theorem refo_none {W w' : World} {F : Nat → Prop} {x g c n : Nat} {vp : Value} {s : DS} (h : RefD W F x g c vp n s) (hb : Turns (fun k => W.heap.size ≤ k) W w') (hn : openE s = 262 ∧ openD s = s) : RefO W F x n s (.returned (.tuple #[.pointer none, .int .i64 262])) w' ∧ Turns F W w' :=
  ⟨.inr ⟨by rw [hn.1]; decide, by rw [hn.1], g, c, F, vp, by rw [hn.2]; exact h.keep hb.low (Z := fun _ => False) (fun _ _ e => e), fun k hk => .inl hk⟩, hb.low⟩
theorem RJAt.sz {W : World} {G : Nat → Prop} {j x : Nat} {v : Value} {t : TS} {brk : Bool} (h : RJAt W G j x v t brk) : szOf j W = t.size := by unfold szOf; rw [show W.cell? ⟨j, 2, none⟩ = some (.int .i64 (t.size : Int)) from h.cell 2]; exact Int.toNat_natCast _
theorem RJAt.grow {W w w5 : World} {jb x : Nat} {v v5 : Value} {t : TS} {r : ByteArray} {brk : Bool} (h : RJAt w (fun q => W.heap.size ≤ q ∧ q < w.heap.size) jb x v t brk) (hb5 : w5.heap[jb]? = w.heap[jb]?) (h5 : OL w5 W.heap.size 9 1 (one .string) v5 (t.recs ++ [r]))
    (hne : ∀ q, v5.ownBlock = some q → q ≠ jb) (M : Nat) (hM : (t.add r).size = M) :
    RJAt ((w5.setCell ⟨jb, 1, none⟩ v5).setCell ⟨jb, 2, none⟩ (.int .i64 (M : Int))) (fun q => W.heap.size ≤ q ∧ q < ((w5.setCell ⟨jb, 1, none⟩ v5).setCell ⟨jb, 2, none⟩ (.int .i64 (M : Int))).heap.size) jb x v5 (t.add r) brk ∧ OL ((w5.setCell ⟨jb, 1, none⟩ v5).setCell ⟨jb, 2, none⟩ (.int .i64 (M : Int))) W.heap.size 9 1 (one .string) v5 (t.recs ++ [r]) ∧ Turns (fun k => W.heap.size ≤ k) w5 ((w5.setCell ⟨jb, 1, none⟩ v5).setCell ⟨jb, 2, none⟩ (.int .i64 (M : Int))) := by
  have t1 : Turns (fun k => k = jb) w5 (w5.setCell ⟨jb, 1, none⟩ v5) := Turns.setCell w5 _ v5 rfl
  have t2 : Turns (fun k => k = jb) (w5.setCell ⟨jb, 1, none⟩ v5) ((w5.setCell ⟨jb, 1, none⟩ v5).setCell ⟨jb, 2, none⟩ (.int .i64 (M : Int))) := Turns.setCell _ _ _ rfl
  have t3 := t1.trans t2
  have hd5 := hb5.trans h.hd
  have hjs : jb < w5.heap.size := (Array.getElem?_eq_some_iff.1 hd5).1
  have h7 := h5.keep fun q hq => t3.block q (h5.lt q hq).2 (hne q hq)
  refine ⟨⟨?_, h7.base (Nat.zero_le _), hne, ⟨h.fj.1, Nat.lt_of_lt_of_le hjs t3.size⟩, fun q hq => ⟨(h5.lt q hq).1, Nat.lt_of_lt_of_le (h5.lt q hq).2 t3.size⟩, fun k hk => hk.2⟩, h7, t3.mono fun k hk => by rw [hk]; exact h.fj.1⟩
  have e1 : (w5.setCell ⟨jb, 1, none⟩ v5).heap[jb]? = some (.cells #[.pointer (some ⟨x, 0, none⟩), v5, .int .i64 (t.size : Int), .bool brk] 43 (0, 0)) := by
    simp only [World.setCell, Array.getElem?_modify, hd5]
    simp
  have e2 : ((w5.setCell ⟨jb, 1, none⟩ v5).setCell ⟨jb, 2, none⟩ (.int .i64 (M : Int))).heap[jb]? = some (.cells #[.pointer (some ⟨x, 0, none⟩), v5, .int .i64 (M : Int), .bool brk] 43 (0, 0)) := by
    generalize w5.setCell ⟨jb, 1, none⟩ v5 = w6 at e1 ⊢
    simp only [World.setCell, Array.getElem?_modify, e1]
    simp
  rw [e2, hM]
theorem at_dropB {s : ByteArray} {V : List UInt8} (hV : s.data.toList = V) {q Y : Nat} (h : q < s.size) (hy : s[q].toNat = Y) : V.drop q = UInt8.ofNat Y :: V.drop (q + 1) := by subst hV; exact at_drop h hy
theorem strR_eqB (s : ByteArray) {V : List UInt8} (hV : s.data.toList = V) (k : Nat) (hk : k ≤ s.size) : Wr.strR s k = match strL (V.drop k) with
    | some (r, n) => .tuple #[.string r, .int .i64 ((k + n : Nat) : Int), .int .i64 0]
    | none => .tuple #[.string ⟨#[]⟩, .int .i64 0, .int .i64 10] := by subst hV; exact strR_eq s k hk

set_option maxRecDepth 100000 in
set_option maxHeartbeats 32000000 in
theorem refopen_walk {W : World} {F : Nat → Prop} {x g c n : Nat} {vp : Value} {s : DS} (h : RefD W F x g c vp n s) (hn1 : 1 ≤ n) (hp : s.pend.length ≤ 900000) (hleft : s.left ≤ 9223372036854775807) :
    Calls Tryz.prog 50 #[.pointer (some ⟨x, 0, none⟩)] W fun e W' => RefO W F x n s e W' ∧ Turns F W W' := by
  have c0 : W.cell? ⟨x, 0, none⟩ = some (.slice (some ⟨g, 0, none⟩) n c) := h.cell 0
  have hv := h.lv
  have hn64 := h.n64
  have HRD := Lib.hid (refreadD_walk h hn1 (by omega) 0 n)
  have H0 := Lib.hid h
  have HPL := Lib.hid hp
  have HLF := Lib.hid hleft
  have hmk : ∀ k : Nat, k ≤ 4194304 → ∀ w, (Instr.makeSlice 39 (.int .i64 (k : Int)) (.int .i64 (k : Int))).run Tryz.prog w = .ok (.slice (some ⟨w.heap.size, 0, none⟩) k k) (w.alloc (.cells (madeCells #[.int .u8 0] k) 5)) := fun k hk w => mkRow k hk w
  have HMK := Lib.hid hmk
  clear hmk
  cases ho : s.off with
  | true =>
    have hr : s.read 0 n = (ByteArray.empty, 251) := by unfold DS.read; rw [ho, if_pos rfl]
    have hoe : openE s = 251 := by unfold openE; rw [if_pos ho]
    have hod : openD s = s := by unfold openD; rw [if_pos ho]
    rw [hr] at HRD
    have HOE := Lib.hid (And.intro hoe hod)
    clear h hr hoe hod ho hp hleft
    go_enter Tryz.func50, Tryz.ntmps50
    go_wp2_with (first | (go_at_call 74; refine HRD.out.mono ?_; rintro e w1 ⟨rfl, hb1⟩) | fail)
    go_ret2
    have hu := Turns.of_below (Z := fun _ => False) hb1
    refine ⟨.inr ⟨by rw [HOE.out.1]; decide, by rw [HOE.out.1]; rfl, g, c, F, vp, by rw [HOE.out.2]; exact H0.out.keep hu (fun _ _ e => e), fun k hk => .inl hk⟩, hu.mono fun _ e => e.elim⟩
  | false =>
    have hr : s.read 0 n = (⟨s.vis.toArray⟩, 0) := by
      unfold DS.read
      rw [ho, if_neg (by decide), hv, if_pos (by unfold insB; simp)]
      simp only [Int.toNat_natCast, show ((0 : Int)).toNat = 0 from rfl, List.drop_zero]
      rw [List.take_of_length_le (by omega)]
    rw [hr] at HRD
    have HO := Lib.hid ho
    obtain ⟨V, hV⟩ : ∃ V, s.vis = V := ⟨_, rfl⟩
    rw [hV] at HRD hv
    have HV := Lib.hid hV
    obtain ⟨B, hB⟩ : ∃ B : ByteArray, ⟨V.toArray⟩ = B := ⟨_, rfl⟩
    have hBd : B.data.toList = V := by rw [← hB]
    have hBs : B.size = n := by rw [← ba_length, hBd]; exact hv
    rw [hB] at HRD
    have HBD := Lib.hid hBd
    obtain ⟨R, hR⟩ : ∃ R, loadW V TS.zero = R := ⟨_, rfl⟩
    have HR0 := Lib.hid hR
    have HHD := Lib.hid (refhead_walk none [] 0 0 rfl (by omega) (fun _ e => by cases e) · LAt.nil)
    clear h hr ho hV hB hBd hR hp hleft
    go_enter Tryz.func50, Tryz.ntmps50
    go_wp2_with (first | (go_at_call 74; refine HRD.out.mono ?_; rintro e w1 ⟨rfl, hb1⟩) | (go_at_call 43; refine (HHD.out _).mono ?_; rintro e w2 ⟨rfl, hb2⟩) | fail)
    have HNONE : Hid (R = none → openE s = 262 ∧ openD s = s) := Lib.hid (fun e => by
      unfold openE openD
      rw [HO.out, HV.out, HR0.out, e]
      exact ⟨rfl, rfl⟩)
    obtain ⟨jb, hjb⟩ : ∃ jb, w1.heap.size = jb := ⟨_, rfl⟩
    have hJ : RJAt w2 (fun q => W.heap.size ≤ q ∧ q < w2.heap.size) jb x (.slice none 0 0) TS.zero false := by
      have hsz := hb2.size
      rw [World.size_alloc] at hsz
      have hs1 := hb1.size
      refine ⟨?_, OL.nil, fun q e => by simp [Value.ownBlock] at e, ⟨by omega, by omega⟩, fun q e => by simp [Value.ownBlock] at e, fun k hk => hk.2⟩
      rw [← hjb]
      exact (hb2.block w1.heap.size (by rw [World.size_alloc]; omega)).trans (World.alloc_heap_new w1 _)
    have hBW : Below W.heap.size W w2 := (hb1.alloc hb1.size _).trans (hb2.mono (by rw [World.size_alloc]; have := hb1.size; omega))
    have HJ0 := Lib.hid hJ
    have HB0 := Lib.hid (Turns.high hBW)
    have HOL0 : Hid (OL w2 W.heap.size 9 1 (one .string) (.slice none 0 0) ([] : List ByteArray)) := Lib.hid OL.nil
    rw [hjb]
    clear hJ hBW hb1 hb2 hjb
    go_loopw [8] (fun v8 wr => ∃ (v : Value) (t : TS), Hid (RJAt wr (fun q => W.heap.size ≤ q ∧ q < wr.heap.size) jb x v t false) ∧ Hid (loadW (V.drop t.size) t = R) ∧ Hid (Turns (fun k => W.heap.size ≤ k) W wr) ∧ Hid (OL wr W.heap.size 9 1 (one .string) v t.recs) ∧ t.size ≤ n ∧ t.head.size = 32 ∧ t.recs.length * 34 ≤ t.size ∧ v8 = .string t.head) (fun _ wr => n - szOf jb wr)
    case atStart => exact ⟨_, TS.zero, HJ0, HR0, HB0, HOL0, Nat.zero_le _, rfl, Nat.le_refl _, rfl⟩
    case round =>
      obtain ⟨v, t, hJ, hRR, hB, hOL, hq, hh, hl, rfl⟩ := hrel
      clear HJ0 HB0 HOL0
      have c2 : wr.cell? ⟨jb, 2, none⟩ = some (.int .i64 (t.size : Int)) := hJ.out.cell 2
      obtain ⟨q, hqe⟩ : ∃ q, t.size = q := ⟨_, rfl⟩
      rw [hqe] at c2 hq hl
      have HQ := Lib.hid hqe
      clear hqe
      by_cases hlt : q < n
      · have d1 : decide ((q : Int) < (n : Int)) = true := by simp [hlt]
        have hltB : q < B.size := by omega
        have z1 : (0 : Int) ≤ (q : Int) := by omega
        have z2 : (q : Int) < (B.size : Int) := by omega
        obtain ⟨Y, hy⟩ : ∃ Y, B[q].toNat = Y := ⟨_, rfl⟩
        have hY : Y < 256 := by rw [← hy]; exact UInt8.toNat_lt _
        have HD := Lib.hid (at_dropB HBD.out hltB hy)
        by_cases hy0 : Y = 0
        · have e0 : ((Y : Int) != 0) = false := by rw [hy0]; rfl
          have hf : R = some t := by
            rw [← hRR.out, HQ.out, HD.out, hy0]; exact loadW_end (by simp)
          have HF := Lib.hid hf
          clear hf hy0
          have hso : openE s = (if allZ (V.drop q) then 0 else chkE (s.clr t)) ∧ openD s = (if allZ (V.drop q) then s else (s.clr t).sync) := by
            unfold openE openD
            rw [HO.out, HV.out, HR0.out, HF.out]
            simp only [HQ.out, Bool.false_eq_true, if_false]
            exact ⟨trivial, trivial⟩
          have HSO := Lib.hid hso
          obtain ⟨z, hz⟩ : ∃ z, n - q = z := ⟨_, rfl⟩
          have wz : IntKind.i64.wrap ((n : Int) - (q : Int)) = (z : Int) := by rw [IntKind.wrap_i64]; omega
          have hmk := HMK.out z (by omega)
          have hcv := cvZ z wr
          have hjl3 := hJ.out.fj
          have c2a : (wr.alloc (.cells (madeCells #[.int .u8 0] z) 5)).cell? ⟨jb, 2, none⟩ = some (.int .i64 (q : Int)) := (((Below.refl wr.heap.size wr).alloc (Nat.le_refl _) _).cell (p := ⟨jb, 2, none⟩) hjl3.2).trans c2
          have y1 : (0 : Int) ≤ (q : Int) := by omega
          have y2 : (q : Int) ≤ (B.size : Int) := by omega
          obtain ⟨Tl, hTl⟩ : ∃ Tl, B.extract q n = Tl := ⟨_, rfl⟩
          have hTd : Tl.data.toList = V.drop q := by
            rw [← hTl, Lib.extract_data, HBD.out, List.take_of_length_le (by rw [List.length_drop]; omega)]
          have hzl : (V.drop q).length = z := by rw [List.length_drop]; omega
          have HU8 : Turns (fun k => W.heap.size ≤ k) W (wr.alloc (.cells (madeCells #[.int .u8 0] z) 5)) := hB.out.trans (Turns.alloc wr _)
          have HU := Lib.hid HU8
          have HJ8 : Hid (RJAt (wr.alloc (.cells (madeCells #[.int .u8 0] z) 5)) (fun q => W.heap.size ≤ q ∧ q < wr.heap.size) jb x v t false) := Lib.hid (hJ.out.keep (Turns.alloc (Z := fun _ => False) wr _) (fun _ _ e => e))
          clear hso HU8 hjl3
          by_cases hz0 : allZ (V.drop q) = true
          · have heq : (Tl.toList == (zerosB z).toList) = true := by
              have : Tl = zerosB z := by
                apply ba_ext
                rw [hTd, allZ_eq hz0, hzl]
                rfl
              rw [this]; simp
            rw [if_pos hz0, if_pos hz0] at HSO
            clear hz0 hTd hzl
            go_wp2_with fail
            go_ret2
            refine ⟨.inl ⟨HSO.out.1, jb, v, t, _, g, c, F, vp, rfl, by rw [HV.out, HR0.out, HF.out], HJ8.out, by rw [HSO.out.2]; exact H0.out.keep HU.out.low (Z := fun _ => False) (fun _ _ e => e), fun k hk hg => by have := H0.out.lf k hk; have := hg.1; omega, fun k hk => .inl hk, fun k hk => hk.1⟩, HU.out.low⟩
          · have heq : (Tl.toList == (zerosB z).toList) = false := by
              rw [str_eq]
              simp only [decide_eq_false_iff_not]
              intro e
              apply hz0
              rw [← hTd, e]
              exact allZ_rep z
            rw [if_neg hz0, if_neg hz0] at HSO
            clear hz0 hTd hzl
            have hwe : s.writeE (q : Int) (zerosB z) = 0 ∧ s.wr (q : Int) (zerosB z) = s.clr t := by
              refine ⟨?_, ?_⟩
              · unfold DS.writeE
                rw [HO.out, if_neg (by decide), HV.out, insB_fit (by rw [zeros_size]; omega)]; rfl
              · unfold DS.clr
                rw [HQ.out, HV.out, hv, hz]
            have HW := Lib.hid (refwriteD_walk (H0.out.keep HU.out.low (Z := fun _ => False) (fun _ _ e => e)) (q : Int) (zerosB z) (by rw [zeros_size]; omega) (by have := HPL.out; omega) HLF.out)
            rw [hwe.1, hwe.2] at HW
            clear hwe
            go_wp2_with fail
            refine HW.out.mono ?_
            rintro e W9 ⟨rfl, ⟨F9, vp9, hd9, hF9⟩, ht9⟩
            have hGF : ∀ k, (W.heap.size ≤ k ∧ k < wr.heap.size) → ¬ F k := fun k hk hf => by have := H0.out.lf k hf; have := hk.1; omega
            have HJ9 := Lib.hid (HJ8.out.keep ht9 hGF)
            have hpn : (s.clr t).pend.length ≤ 1000000 := by
              have := (wr_pend s (t.size : Int) (zerosB (s.vis.length - t.size))).1
              have := HPL.out
              unfold DS.clr; omega
            have HSY := Lib.hid (refsyncD_walk hd9 hn1 hpn)
            have HT9 := Lib.hid ht9
            have HF9 := Lib.hid hF9
            clear hd9 hF9 ht9 hpn hGF HW
            go_wp2_with fail
            obtain ⟨E, hE⟩ : ∃ E, chkE (s.clr t) = E := ⟨_, rfl⟩
            have hE2 : E = 0 ∨ E = 251 := by rw [← hE]; unfold chkE; split <;> simp
            rw [hE] at HSY HSO
            clear hE
            refine HSY.out.mono ?_
            rintro e W10 ⟨rfl, ⟨F10, g10, c10, vp10, hd10, hF10⟩, ht10⟩
            have hz9 := HT9.out.size
            rw [World.size_alloc] at hz9
            have hWr := hB.out.size
            have hG9 : ∀ k, (W.heap.size ≤ k ∧ k < wr.heap.size) → ¬ F9 k := fun k hk hf => by
              rcases HF9.out k hf with q | q
              · have := H0.out.lf k q; have := hk.1; omega
              · rw [World.size_alloc] at q; have := hk.2; omega
            have hG10 : ∀ k, F10 k → ¬ (W.heap.size ≤ k ∧ k < wr.heap.size) := fun k hf hk => by
              rcases hF10 k hf with q | q
              · exact hG9 k hk q
              · have := hk.2; omega
            have hF : ∀ k, F10 k → F k ∨ W.heap.size ≤ k := fun k hf => by
              rcases hF10 k hf with q | q
              · rcases HF9.out k q with r | r
                · exact .inl r
                · rw [World.size_alloc] at r; exact .inr (by omega)
              · exact .inr (by omega)
            have HJX := Lib.hid (HJ9.out.keep ht10 hG9)
            have HTX : Hid (Turns F W W10) := Lib.hid (((HU.out.low (F := F)).then HT9.out (fun k q => .inl q)).then ht10 (fun k q => by
              rcases HF9.out k q with r | r
              · exact .inl r
              · rw [World.size_alloc] at r; exact .inr (by omega)))
            have HDX := Lib.hid (And.intro hd10 (And.intro hF hG10))
            clear hd10 hF10 ht10 hz9 hWr hG9 hG10 hF HF9 HT9 HSY HJ9
            rcases hE2 with rfl | rfl
            · go_wp2_with fail
              go_ret2
              exact ⟨.inl ⟨HSO.out.1, jb, v, t, _, g10, c10, F10, vp10, rfl, by rw [HV.out, HR0.out, HF.out], HJX.out, by rw [HSO.out.2]; exact HDX.out.1, HDX.out.2.2, HDX.out.2.1, fun k hk => hk.1⟩, HTX.out⟩
            · go_wp2_with fail
              go_ret2
              exact ⟨.inr ⟨by rw [HSO.out.1]; decide, by rw [HSO.out.1]; rfl, g10, c10, F10, vp10, by rw [HSO.out.2]; exact HDX.out.1, HDX.out.2.1⟩, HTX.out⟩
        · have e0 : ((Y : Int) != 0) = true := by simp; omega
          have hsw : ∀ w : World, Calls Tryz.prog 75 #[.string B, .int .i64 ((q : Int) + 1)] w fun e w' => e = .returned (match strL (V.drop (q + 1)) with
              | some (r, n) => .tuple #[.string r, .int .i64 ((q + 1 + n : Nat) : Int), .int .i64 0]
              | none => .tuple #[.string ⟨#[]⟩, .int .i64 0, .int .i64 10]) ∧ Below w.heap.size w w' := fun w => by
            have h := Wr.refString_walk B (q + 1) (by omega) (by omega) w
            rw [strR_eqB B HBD.out (q + 1) (by omega)] at h
            exact h
          have HSW := Lib.hid hsw
          have w1 : IntKind.i64.wrap ((q : Int) + 1) = (q : Int) + 1 := by rw [IntKind.wrap_i64]; omega
          have hjl := hJ.out.lf jb hJ.out.fj
          have HC2 : Hid (∀ w, Below wr.heap.size wr w → w.cell? ⟨jb, 2, none⟩ = some (.int .i64 (q : Int))) := Lib.hid (fun w hb => (hb.cell (p := ⟨jb, 2, none⟩) hjl).trans c2)
          clear hsw
          cases hst : strL (V.drop (q + 1)) with
          | none =>
            rw [hst] at HSW
            simp only at HSW
            have hf : R = none := by
              rw [← hRR.out, HQ.out, HD.out]
              by_cases hy1 : Y = 1
              · subst hy1
                show loadW (1 :: _) _ = _
                rw [loadW_step, hst]
              · refine loadW_bad (fun e => hy0 ?_) (fun e => hy1 ?_)
                · have := congrArg UInt8.toNat e; simpa [Nat.mod_eq_of_lt hY] using this
                · have := congrArg UInt8.toNat e; simpa [Nat.mod_eq_of_lt hY] using this
            have HF := Lib.hid hf
            clear hf hst
            by_cases hy1 : ((Y : Int) != 1) = true
            · go_wp2_with (first | (go_at_call 75; refine (HSW.out _).mono ?_; rintro e w4 ⟨rfl, hb4⟩; have c4 := HC2.out _ hb4) | fail)
              go_ret2
              exact refo_none H0.out (hB.out.trans (Turns.high (hb4.mono hB.out.size))) (HNONE.out HF.out)
            · have hy1 : ((Y : Int) != 1) = false := by simpa using hy1
              go_wp2_with (first | (go_at_call 75; refine (HSW.out _).mono ?_; rintro e w4 ⟨rfl, hb4⟩; have c4 := HC2.out _ hb4) | fail)
              go_ret2
              exact refo_none H0.out (hB.out.trans (Turns.high (hb4.mono hB.out.size))) (HNONE.out HF.out)
          | some xx =>
            obtain ⟨r, m⟩ := xx
            rw [hst] at HSW
            simp only at HSW
            obtain ⟨g1, g2, g3⟩ := strL_only hst
            have hln : m ≤ n - (q + 1) := by
              have h := congrArg List.length g3
              rw [List.length_drop, List.length_append, List.length_drop, List.length_drop, ← g2] at h
              omega
            have hn0 : 0 < m := by rw [g2, putL_length]; have := (putI_len9 g1).2; omega
            have hlr : loadW (1 :: V.drop (q + 1)) t = if ((V.drop (q + 1)).drop m).take 32 = (chainS t.head r).data.toList then loadW ((V.drop (q + 1)).drop (m + 32)) (t.add r) else none := by
              rw [loadW_step, hst]
            obtain ⟨N, hN⟩ : ∃ N, q + 1 + m = N := ⟨_, rfl⟩
            simp only [hN] at HSW
            by_cases hy1 : Y = 1
            · have e1 : ((Y : Int) != 1) = false := by rw [hy1]; rfl
              have HCH := Lib.hid (fun w => refchain_walk t.head r (by omega) w)
              have hcz := chainS_size t.head r
              have HLR : Hid ((if ((V.drop (q + 1)).drop m).take 32 = (chainS t.head r).data.toList then loadW ((V.drop (q + 1)).drop (m + 32)) (t.add r) else none) = R) := Lib.hid (by
                rw [← hlr, ← hRR.out, HQ.out, HD.out, hy1]; rfl)
              obtain ⟨M, hM⟩ : ∃ M, N + 32 = M := ⟨_, rfl⟩
              have w2 : IntKind.i64.wrap ((N : Int) + 32) = (M : Int) := by rw [IntKind.wrap_i64]; omega
              have HTS : Hid ((t.add r).size = M ∧ (t.add r).recs = t.recs ++ [r] ∧ (t.add r).head = chainS t.head r) := Lib.hid (by
                refine ⟨?_, rfl, rfl⟩
                show t.size + (recL t.head r).length = _
                rw [recL_length, ← g2, HQ.out]
                omega)
              by_cases hM32 : M ≤ n
              · have d2 : decide ((n : Int) < (M : Int)) = false := by simp; omega
                have b1 : (0 : Int) ≤ (N : Int) := by omega
                have b2 : (M : Int) ≤ (B.size : Int) := by omega
                have b3 : (N : Int) ≤ (M : Int) := by omega
                obtain ⟨cp, hcp⟩ : ∃ x, B.extract N M = x := ⟨_, rfl⟩
                obtain ⟨ch, hch⟩ : ∃ x, chainS t.head r = x := ⟨_, rfl⟩
                rw [hch] at HCH HLR HTS hcz
                have hcd : cp.data.toList = ((V.drop (q + 1)).drop m).take 32 := by
                  rw [← hcp, Lib.extract_data, HBD.out, List.drop_drop, hN]
                  congr 1; omega
                by_cases hok : cp = ch
                · have heq : (cp.toList == ch.toList) = true := by rw [hok]; simp
                  have HR2 : Hid (loadW (V.drop M) (t.add r) = R) := Lib.hid (by
                    rw [← HLR.out, if_pos (by rw [← hcd, hok]), List.drop_drop]
                    congr 2; omega)
                  clear hok hcd hch hlr hst g2 g3 hRR
                  have hcj := hJ.out.cell 1
                  have HCELLS := Lib.hid (show ∀ w, Below wr.heap.size wr w → w.cell? ⟨jb, 1, none⟩ = some v ∧ OL w W.heap.size 9 1 (one .string) v t.recs ∧ RJAt w (fun q => W.heap.size ≤ q ∧ q < w.heap.size) jb x v t false from fun w hb => ⟨(hb.cell (p := ⟨jb, 1, none⟩) hjl).trans hcj, hOL.out.below hb (Nat.le_refl _), by
                    have := hJ.out.keep (Turns.of_below (Z := fun _ => False) hb) (fun _ _ e => e)
                    exact ⟨this.hd, this.rl, this.ne, ⟨this.fj.1, Nat.lt_of_lt_of_le this.fj.2 hb.size⟩, fun q hq => ⟨(this.fv q hq).1, Nat.lt_of_lt_of_le (this.fv q hq).2 hb.size⟩, fun k hk => hk.2⟩⟩)
                  have hsW := hB.out.size
                  have hln2 : (t.recs.length + 1) * 34 ≤ 4194304 := by omega
                  clear hcj
                  go_wp2_with (first
                    | (go_at_call 75; refine (HSW.out _).mono ?_; rintro e w4 ⟨rfl, hb4⟩; have c4 := HC2.out _ hb4)
                    | (go_at_call 57; refine (HCH.out _).mono ?_; rintro e w5 ⟨rfl, hb5⟩; have hb45 := hb4.trans (hb5.mono hb4.size); obtain ⟨c5v, ho5, hj5⟩ := HCELLS.out _ hb45)
                    | (at_builtin
                       go_must (refine wpList_app rfl (.tmp 88) (.tmp 90) 22 rfl elemStr v t.recs t.recs.length rfl rfl (ho5.alloc (.cells #[.string r] 9)) r w5.heap.size #[.string r] rfl ?hc rfl rfl (by simp [one, Value.oneCell']) (by unfold maxLen; omega) (by omega) (by rw [World.size_alloc]; have := hb45.size; omega) ?_)
                       (case hc => exact World.alloc_heap_new _ _)
                       intro g6 c6 w6 h6 hg6 hg6' hg6l hb6
                       have hbd := (grown_cell hg6 (k := jb) (by rw [World.size_alloc]; have := hj5.fj.2; omega) (fun q e => hj5.ne q e)).trans (Below.heap_alloc w5 (.cells #[.string r] 9) jb hj5.fj.2)
                       have a1 : w6.cell? ⟨jb, 1, none⟩ = some v := (World.cell?_of_block (a := ⟨jb, 1, none⟩) hbd).trans (hj5.cell 1)
                       have a2 : w6.cell? ⟨jb, 2, none⟩ = some (.int .i64 (t.size : Int)) := (World.cell?_of_block (a := ⟨jb, 2, none⟩) hbd).trans (hj5.cell 2)
                       have f1 : w6.frozen? ⟨jb, 1, none⟩ = false := (World.frozen?_of_block (a := ⟨jb, 1, none⟩) hbd).trans (hj5.free 1)
                       have f2 : w6.frozen? ⟨jb, 2, none⟩ = false := (World.frozen?_of_block (a := ⟨jb, 2, none⟩) hbd).trans (hj5.free 2))
                    | fail)
                  have hne6 : ∀ q', (Value.slice (some ⟨g6, 0, none⟩) (t.recs.length + 1) c6).ownBlock = some q' → q' ≠ jb := fun q' e => by
                    have hjl5 := hj5.fj.2
                    have e' : g6 = q' := by simpa [Value.ownBlock] using e
                    rw [← e']
                    rcases hg6' with h | h
                    · exact hj5.ne g6 h
                    · rw [h, World.size_alloc]; omega
                  obtain ⟨k1, k2, k3⟩ := hj5.grow hbd h6 hne6 M HTS.out.1
                  have k4 := k1.sz
                  have k5 := hJ.out.sz
                  have ha : Turns (fun k => W.heap.size ≤ k) w5 (w5.alloc (.cells #[.string r] 9)) := Turns.alloc w5 _
                  refine ⟨⟨_, t.add r, Lib.hid k1, Lib.hid (by rw [HTS.out.1]; exact HR2.out), Lib.hid ((((hB.out.trans (Turns.high (hb45.mono hsW))).trans ha).trans (Turns.high hb6)).trans k3), Lib.hid (by rw [HTS.out.2.1]; exact k2), by rw [HTS.out.1]; exact hM32, by rw [HTS.out.2.2]; exact hcz, by rw [HTS.out.1, HTS.out.2.1, List.length_append]; simp only [List.length_singleton]; omega, by rw [HTS.out.2.2]⟩, ?_⟩
                  rw [k4, k5, HTS.out.1, HQ.out]
                  omega
                · have heq : (cp.toList == ch.toList) = false := by rw [str_eq]; simp [hok]
                  have hf : R = none := by
                    rw [← HLR.out, if_neg (fun e => hok (ba_ext (hcd.trans e)))]
                  have HF := Lib.hid hf
                  clear hok hcd hch hlr hst g2 g3 hRR hf
                  go_wp2_with (first | (go_at_call 75; refine (HSW.out _).mono ?_; rintro e w4 ⟨rfl, hb4⟩; have c4 := HC2.out _ hb4) | (go_at_call 57; refine (HCH.out _).mono ?_; rintro e w5 ⟨rfl, hb5⟩) | fail)
                  go_ret2
                  exact refo_none H0.out (hB.out.trans (Turns.high ((hb4.trans (hb5.mono hb4.size)).mono hB.out.size))) (HNONE.out HF.out)
              · have d2 : decide ((n : Int) < (M : Int)) = true := by simp; omega
                have hf : R = none := by
                  rw [← HLR.out, if_neg]
                  intro e
                  have h := congrArg List.length e
                  rw [chainL_length, List.length_take, List.length_drop, List.length_drop, hv] at h
                  omega
                have HF := Lib.hid hf
                clear hlr hst g2 g3 hRR hf
                go_wp2_with (first | (go_at_call 75; refine (HSW.out _).mono ?_; rintro e w4 ⟨rfl, hb4⟩; have c4 := HC2.out _ hb4) | (go_at_call 57; refine (HCH.out _).mono ?_; rintro e w5 ⟨rfl, hb5⟩) | fail)
                go_ret2
                exact refo_none H0.out (hB.out.trans (Turns.high ((hb4.trans (hb5.mono hb4.size)).mono hB.out.size))) (HNONE.out HF.out)
            · have e1 : ((Y : Int) != 1) = true := by simp; omega
              have hf : R = none := by
                rw [← hRR.out, HQ.out, HD.out]
                refine loadW_bad (fun e => hy0 ?_) (fun e => hy1 ?_)
                · have := congrArg UInt8.toNat e; simpa [Nat.mod_eq_of_lt hY] using this
                · have := congrArg UInt8.toNat e; simpa [Nat.mod_eq_of_lt hY] using this
              have HF := Lib.hid hf
              clear hf hst hlr g2 g3 hRR
              go_wp2_with (first | (go_at_call 75; refine (HSW.out _).mono ?_; rintro e w4 ⟨rfl, hb4⟩; have c4 := HC2.out _ hb4) | fail)
              go_ret2
              exact refo_none H0.out (hB.out.trans (Turns.high (hb4.mono hB.out.size))) (HNONE.out HF.out)
      · have d1 : decide ((q : Int) < (n : Int)) = false := by simp; omega
        have hf : R = some t := by
          rw [← hRR.out, HQ.out, List.drop_eq_nil_of_le (by omega)]; exact loadW_end (by simp)
        have HF := Lib.hid hf
        clear hf
        have hso : openE s = (if allZ (V.drop q) then 0 else chkE (s.clr t)) ∧ openD s = (if allZ (V.drop q) then s else (s.clr t).sync) := by
          unfold openE openD
          rw [HO.out, HV.out, HR0.out, HF.out]
          simp only [HQ.out, Bool.false_eq_true, if_false]
          exact ⟨trivial, trivial⟩
        have HSO := Lib.hid hso
        obtain ⟨z, hz⟩ : ∃ z, n - q = z := ⟨_, rfl⟩
        have wz : IntKind.i64.wrap ((n : Int) - (q : Int)) = (z : Int) := by rw [IntKind.wrap_i64]; omega
        have hmk := HMK.out z (by omega)
        have hcv := cvZ z wr
        have hjl3 := hJ.out.fj
        have c2a : (wr.alloc (.cells (madeCells #[.int .u8 0] z) 5)).cell? ⟨jb, 2, none⟩ = some (.int .i64 (q : Int)) := (((Below.refl wr.heap.size wr).alloc (Nat.le_refl _) _).cell (p := ⟨jb, 2, none⟩) hjl3.2).trans c2
        have y1 : (0 : Int) ≤ (q : Int) := by omega
        have y2 : (q : Int) ≤ (B.size : Int) := by omega
        obtain ⟨Tl, hTl⟩ : ∃ Tl, B.extract q n = Tl := ⟨_, rfl⟩
        have hTd : Tl.data.toList = V.drop q := by
          rw [← hTl, Lib.extract_data, HBD.out, List.take_of_length_le (by rw [List.length_drop]; omega)]
        have hzl : (V.drop q).length = z := by rw [List.length_drop]; omega
        have HU8 : Turns (fun k => W.heap.size ≤ k) W (wr.alloc (.cells (madeCells #[.int .u8 0] z) 5)) := hB.out.trans (Turns.alloc wr _)
        have HU := Lib.hid HU8
        have HJ8 : Hid (RJAt (wr.alloc (.cells (madeCells #[.int .u8 0] z) 5)) (fun q => W.heap.size ≤ q ∧ q < wr.heap.size) jb x v t false) := Lib.hid (hJ.out.keep (Turns.alloc (Z := fun _ => False) wr _) (fun _ _ e => e))
        clear hso HU8 hjl3
        by_cases hz0 : allZ (V.drop q) = true
        · have heq : (Tl.toList == (zerosB z).toList) = true := by
            have : Tl = zerosB z := by
              apply ba_ext
              rw [hTd, allZ_eq hz0, hzl]
              rfl
            rw [this]; simp
          rw [if_pos hz0, if_pos hz0] at HSO
          clear hz0 hTd hzl
          go_wp2_with fail
          go_ret2
          refine ⟨.inl ⟨HSO.out.1, jb, v, t, _, g, c, F, vp, rfl, by rw [HV.out, HR0.out, HF.out], HJ8.out, by rw [HSO.out.2]; exact H0.out.keep HU.out.low (Z := fun _ => False) (fun _ _ e => e), fun k hk hg => by have := H0.out.lf k hk; have := hg.1; omega, fun k hk => .inl hk, fun k hk => hk.1⟩, HU.out.low⟩
        · have heq : (Tl.toList == (zerosB z).toList) = false := by
            rw [str_eq]
            simp only [decide_eq_false_iff_not]
            intro e
            apply hz0
            rw [← hTd, e]
            exact allZ_rep z
          rw [if_neg hz0, if_neg hz0] at HSO
          clear hz0 hTd hzl
          have hwe : s.writeE (q : Int) (zerosB z) = 0 ∧ s.wr (q : Int) (zerosB z) = s.clr t := by
            refine ⟨?_, ?_⟩
            · unfold DS.writeE
              rw [HO.out, if_neg (by decide), HV.out, insB_fit (by rw [zeros_size]; omega)]; rfl
            · unfold DS.clr
              rw [HQ.out, HV.out, hv, hz]
          have HW := Lib.hid (refwriteD_walk (H0.out.keep HU.out.low (Z := fun _ => False) (fun _ _ e => e)) (q : Int) (zerosB z) (by rw [zeros_size]; omega) (by have := HPL.out; omega) HLF.out)
          rw [hwe.1, hwe.2] at HW
          clear hwe
          go_wp2_with fail
          refine HW.out.mono ?_
          rintro e W9 ⟨rfl, ⟨F9, vp9, hd9, hF9⟩, ht9⟩
          have hGF : ∀ k, (W.heap.size ≤ k ∧ k < wr.heap.size) → ¬ F k := fun k hk hf => by have := H0.out.lf k hf; have := hk.1; omega
          have HJ9 := Lib.hid (HJ8.out.keep ht9 hGF)
          have hpn : (s.clr t).pend.length ≤ 1000000 := by
            have := (wr_pend s (t.size : Int) (zerosB (s.vis.length - t.size))).1
            have := HPL.out
            unfold DS.clr; omega
          have HSY := Lib.hid (refsyncD_walk hd9 hn1 hpn)
          have HT9 := Lib.hid ht9
          have HF9 := Lib.hid hF9
          clear hd9 hF9 ht9 hpn hGF HW
          go_wp2_with fail
          obtain ⟨E, hE⟩ : ∃ E, chkE (s.clr t) = E := ⟨_, rfl⟩
          have hE2 : E = 0 ∨ E = 251 := by rw [← hE]; unfold chkE; split <;> simp
          rw [hE] at HSY HSO
          clear hE
          refine HSY.out.mono ?_
          rintro e W10 ⟨rfl, ⟨F10, g10, c10, vp10, hd10, hF10⟩, ht10⟩
          have hz9 := HT9.out.size
          rw [World.size_alloc] at hz9
          have hWr := hB.out.size
          have hG9 : ∀ k, (W.heap.size ≤ k ∧ k < wr.heap.size) → ¬ F9 k := fun k hk hf => by
            rcases HF9.out k hf with q | q
            · have := H0.out.lf k q; have := hk.1; omega
            · rw [World.size_alloc] at q; have := hk.2; omega
          have hG10 : ∀ k, F10 k → ¬ (W.heap.size ≤ k ∧ k < wr.heap.size) := fun k hf hk => by
            rcases hF10 k hf with q | q
            · exact hG9 k hk q
            · have := hk.2; omega
          have hF : ∀ k, F10 k → F k ∨ W.heap.size ≤ k := fun k hf => by
            rcases hF10 k hf with q | q
            · rcases HF9.out k q with r | r
              · exact .inl r
              · rw [World.size_alloc] at r; exact .inr (by omega)
            · exact .inr (by omega)
          have HJX := Lib.hid (HJ9.out.keep ht10 hG9)
          have HTX : Hid (Turns F W W10) := Lib.hid (((HU.out.low (F := F)).then HT9.out (fun k q => .inl q)).then ht10 (fun k q => by
            rcases HF9.out k q with r | r
            · exact .inl r
            · rw [World.size_alloc] at r; exact .inr (by omega)))
          have HDX := Lib.hid (And.intro hd10 (And.intro hF hG10))
          clear hd10 hF10 ht10 hz9 hWr hG9 hG10 hF HF9 HT9 HSY HJ9
          rcases hE2 with rfl | rfl
          · go_wp2_with fail
            go_ret2
            exact ⟨.inl ⟨HSO.out.1, jb, v, t, _, g10, c10, F10, vp10, rfl, by rw [HV.out, HR0.out, HF.out], HJX.out, by rw [HSO.out.2]; exact HDX.out.1, HDX.out.2.2, HDX.out.2.1, fun k hk => hk.1⟩, HTX.out⟩
          · go_wp2_with fail
            go_ret2
            exact ⟨.inr ⟨by rw [HSO.out.1]; decide, by rw [HSO.out.1]; rfl, g10, c10, F10, vp10, by rw [HSO.out.2]; exact HDX.out.1, HDX.out.2.1⟩, HTX.out⟩

end Go.Proofs.YtllmciiadceinaaGreatDoor
end
section
namespace Go.Proofs.YtllmciiadceinaaGreatDoor
open Go Go.RowKit Go.Shelf Wr

theorem recS_eq (h r : ByteArray) : ((⟨#[1]⟩ : ByteArray) ++ (⟨(putI r.size).toArray⟩ ++ r)) ++ chainS h r = ⟨(recL h r).toArray⟩ := ba_ext (by
  rw [ba_append, ba_append, ba_append]
  show [1] ++ (putI r.size ++ r.data.toList) ++ _ = 1 :: (putL r ++ _)
  rfl)
set_option maxHeartbeats 2000000 in
theorem refstored_walk (h r : ByteArray) (hh : h.size = 32) (hr : r.size ≤ 65536) (w : World) :
    Calls Tryz.prog 44 #[.string h, .string r] w fun e w' => e = .returned (.tuple #[.string ⟨(recL h r).toArray⟩, .string (chainS h r)]) ∧ Below w.heap.size w w' := by
  have hl := (putI_len9 hr).1
  have hcs := chainS_size h r
  have hsz : (⟨(putI r.size).toArray⟩ ++ r : ByteArray).size ≤ 100000 := by rw [ba_size_append, ba_mk_size]; omega
  obtain ⟨P, hP⟩ : ∃ P : ByteArray, ⟨(putI r.size).toArray⟩ ++ r = P := ⟨_, rfl⟩
  rw [hP] at hsz
  have h1 : ((⟨#[1]⟩ : ByteArray) ++ P).size ≤ 100001 := by rw [ba_size_append]; show 1 + P.size ≤ _; omega
  have hadd := fun w => strAdd (P := Tryz.prog) ⟨#[1]⟩ P (by show 1 + P.size ≤ _; omega) w
  have hadd2 := fun w => strAdd (P := Tryz.prog) (⟨#[1]⟩ ++ P) (chainS h r) (by omega) w
  have HPS := Lib.hid (refPutString_yes r hr)
  rw [hP] at HPS
  have HC := Lib.hid (refchain_walk h r (by omega))
  have HE := Lib.hid (recS_eq h r)
  rw [hP] at HE
  clear hP hl hh hr h1 hsz hcs
  go_enter Tryz.func44, Tryz.ntmps44
  go_wp2_with (first
    | (go_at_call 57; refine (HC.out _).mono ?_; rintro e w1 ⟨rfl, hb1⟩)
    | (go_at_call 73; refine (HPS.out _).mono ?_; rintro e w2 ⟨rfl, hb2⟩)
    | fail)
  go_ret2
  exact ⟨by rw [HE.out]; rfl, hb1.trans (hb2.mono hb1.size)⟩

set_option maxHeartbeats 2000000 in
theorem refroom_walk {W : World} {F G : Nat → Prop} {j x g c n : Nat} {vp v : Value} {s : DS} {t : TS} {brk : Bool} (h : RJAt W G j x v t brk) (hd : RefD W F x g c vp n s) (hf : t.size ≤ n) :
    Calls Tryz.prog 21 #[.pointer (some ⟨j, 0, none⟩)] W fun e W' => e = .returned (.int .i64 ((n - t.size : Nat) : Int)) ∧ ∃ k, W' = W.drewN k := by
  have c0 : W.cell? ⟨j, 0, none⟩ = some (.pointer (some ⟨x, 0, none⟩)) := h.cell 0
  have c2 : W.cell? ⟨j, 2, none⟩ = some (.int .i64 (t.size : Int)) := h.cell 2
  have d0 : W.cell? ⟨x, 0, none⟩ = some (.slice (some ⟨g, 0, none⟩) n c) := hd.cell 0
  have hn := hd.n64
  obtain ⟨q, hq⟩ : ∃ q, t.size = q := ⟨_, rfl⟩
  rw [hq] at c2 hf ⊢
  obtain ⟨m, hm⟩ : ∃ m, n - q = m := ⟨_, rfl⟩
  rw [hm]
  have w1 : IntKind.i64.wrap ((n : Int) - (q : Int)) = (m : Int) := by rw [IntKind.wrap_i64]; omega
  clear h hd hq hm hf
  go_enter Tryz.func21, Tryz.ntmps21
  go_wp2_with fail
  go_quiet (fail)
  go_wp2_with fail
  go_ret
  exact ⟨rfl, _, rfl⟩

/-- The reference's disk and journal while a group is written. -/
def RBun (W : World) (F G : Nat → Prop) (j x n : Nat) (v : Value) (t : TS) (W' : World) (s' : DS) : Prop :=
  ∃ F' g c vp, RefD W' F' x g c vp n s' ∧ (∀ k, F' k → F k ∨ W.heap.size ≤ k) ∧ RJAt W' G j x v t false ∧ Turns F W W'
/-- What the reference's Append leaves. -/
def RAppR (W : World) (F G : Nat → Prop) (j x n : Nat) (s : DS) (t : TS) (brk : Bool) (L : List ByteArray) (e : Ending) (W' : World) : Prop :=
  e = .returned (.int .i64 (appE n s t brk L)) ∧ (∃ g c vp F' G' v', RefD W' F' x g c vp n (appD n s t brk L) ∧ RJAt W' G' j x v' (appT n s t brk L) (appB n s t brk L) ∧ (∀ k, F' k → ¬ G' k) ∧ (∀ k, F' k → F k ∨ W.heap.size ≤ k) ∧ ∀ k, G' k → G k ∨ W.heap.size ≤ k) ∧ Turns (fun k => F k ∨ G k) W W'
section
variable {W W' W'' : World} {F G : Nat → Prop} {j x n : Nat} {v : Value} {t : TS} {s s' : DS} {L : List ByteArray}
theorem RBun.quiet (h : RBun W F G j x n v t W' s') (u : Turns (fun _ => False) W' W'') : RBun W F G j x n v t W'' s' := by
  obtain ⟨F', g, c, vp, h1, h2, h3, h4⟩ := h
  exact ⟨F', g, c, vp, h1.keep u (fun _ _ e => e), h2, h3.keep u (fun _ _ e => e), h4.trans (u.mono fun _ e => e.elim)⟩
theorem RBun.cell (h : RBun W F G j x n v t W' s') (i : Nat) : W'.cell? ⟨j, i, none⟩ = (#[.pointer (some ⟨x, 0, none⟩), v, .int .i64 (t.size : Int), .bool false] : Array Value)[i]? := by
  obtain ⟨F', g, c, vp, h1, h2, h3, h4⟩ := h
  exact h3.cell i
theorem RBun.c0 (h : RBun W F G j x n v t W' s') : W'.cell? ⟨j, 0, none⟩ = some (.pointer (some ⟨x, 0, none⟩)) := h.cell 0
theorem RBun.c2 (h : RBun W F G j x n v t W' s') {q : Nat} (hq : t.size = q) : W'.cell? ⟨j, 2, none⟩ = some (.int .i64 (q : Int)) := by rw [← hq]; exact h.cell 2
theorem RBun.free (h : RBun W F G j x n v t W' s') (i : Nat) : W'.frozen? ⟨j, i, none⟩ = false := by
  obtain ⟨F', g, c, vp, h1, h2, h3, h4⟩ := h
  exact h3.free i
theorem RBun.recs (h : RBun W F G j x n v t W' s') : OL W' 0 9 1 (one .string) v t.recs := by
  obtain ⟨F', g, c, vp, h1, h2, h3, h4⟩ := h
  exact h3.rl
theorem RBun.turns (h : RBun W F G j x n v t W' s') : Turns F W W' := by
  obtain ⟨F', g, c, vp, h1, h2, h3, h4⟩ := h
  exact h4
theorem LAt.turned {Z : Nat → Prop} {A : Option Addr} (h : LAt W W.heap.size A .string L) (u : Turns Z W W') (hz : ∀ a, A = some a → ¬ Z a.block) : LAt W' W'.heap.size A .string L := fun i y hi => by
  obtain ⟨a, rfl, hb, hc⟩ := h i y hi
  refine ⟨a, rfl, Nat.lt_of_lt_of_le hb u.size, ?_⟩
  rw [← hc]
  exact World.cell?_of_block (a := a.add i) (by rw [addr_add_block]; exact u.block _ hb (hz a rfl))
theorem RBun.step (h : RBun W F G j x n v t W' s') (hFG : ∀ k, F k → ¬ G k) (hG : ∀ k, G k → k < W.heap.size) {f : Nat} {args : Array Value} {E : Int} {s2 : DS}
    (hc : ∀ F' g c vp, RefD W' F' x g c vp n s' → Calls Tryz.prog f args W' fun e W'' => e = .returned (.int .i64 E) ∧ (∃ F2 g2 c2 vp2, RefD W'' F2 x g2 c2 vp2 n s2 ∧ ∀ k, F2 k → F' k ∨ W'.heap.size ≤ k) ∧ Turns F' W' W'') :
    Calls Tryz.prog f args W' fun e W'' => e = .returned (.int .i64 E) ∧ RBun W F G j x n v t W'' s2 := by
  obtain ⟨F', g, c, vp, h1, h2, h3, h4⟩ := h
  have hs := h4.size
  have hFG' : ∀ k, G k → ¬ F' k := fun k hk hf => by
    rcases h2 k hf with q | q
    · exact hFG k q hk
    · have := hG k hk; omega
  refine (hc F' g c vp h1).mono ?_
  rintro e W1 ⟨rfl, ⟨F2, g2, c2, vp2, h5, h6⟩, h7⟩
  refine ⟨rfl, F2, g2, c2, vp2, h5, fun k hk => ?_, h3.keep h7 hFG', h4.then h7 h2⟩
  rcases h6 k hk with q | q
  · exact h2 k q
  · exact .inr (by omega)
theorem RBun.write (h : RBun W F G j x n v t W' s') (hFG : ∀ k, F k → ¬ G k) (hG : ∀ k, G k → k < W.heap.size) (off : Int) (y : ByteArray) (hy : y.size ≤ 4194304) (hp : s'.pend.length ≤ 1000000) (hl : s'.left ≤ 9223372036854775807) :
    Calls Tryz.prog 16 #[.pointer (some ⟨x, 0, none⟩), .int .i64 off, .string y] W' fun e W'' => e = .returned (.int .i64 (s'.writeE off y)) ∧ RBun W F G j x n v t W'' (s'.wr off y) := by
  refine h.step hFG hG fun F' g c vp h1 => (refwriteD_walk h1 off y hy hp hl).mono ?_
  rintro e W1 ⟨rfl, ⟨F2, vp2, h5, h6⟩, h7⟩
  exact ⟨rfl, ⟨F2, g, c, vp2, h5, h6⟩, h7⟩
theorem RBun.sync (h : RBun W F G j x n v t W' s') (hFG : ∀ k, F k → ¬ G k) (hG : ∀ k, G k → k < W.heap.size) (hn1 : 1 ≤ n) (hp : s'.pend.length ≤ 1000000) :
    Calls Tryz.prog 45 #[.pointer (some ⟨x, 0, none⟩)] W' fun e W'' => e = .returned (.int .i64 (chkE s')) ∧ RBun W F G j x n v t W'' s'.sync := by
  refine h.step hFG hG fun F' g c vp h1 => (refsyncD_walk h1 hn1 hp).mono ?_
  rintro e W1 ⟨rfl, h5, h7⟩
  exact ⟨rfl, h5, h7⟩
theorem RBun.fail (h : RBun W F G j x n v t W' (s.grp t.size (outL t L)).sync) (hFG : ∀ k, F k → ¬ G k) (hG : ∀ k, G k → k < W.heap.size) (hk : appK n t false L = .group) (ho : (s.grp t.size (outL t L)).off = true) :
    RAppR W F G j x n s t false L (.returned (.int .i64 251)) (W'.setCell ⟨j, 3, none⟩ (.bool true)) := by
  obtain ⟨F', g, c, vp, h1, h2, h3, h4⟩ := h
  have hs := h4.size
  have hu : Turns (fun k => k = j) W' (W'.setCell ⟨j, 3, none⟩ (.bool true)) := Turns.setCell W' _ _ rfl
  have hFG' : ∀ k, F' k → ¬ G k := fun k hf hk => by
    rcases h2 k hf with q | q
    · exact hFG k q hk
    · have := hG k hk; omega
  unfold RAppR appE appD appT appB
  rw [hk]
  dsimp only
  rw [if_pos ho, ho]
  refine ⟨by unfold chkE; rw [if_pos ho], ⟨g, c, vp, F', G, v, h1.keep hu (fun k hf e => hFG' k hf (by rw [e]; exact h3.fj)), ⟨?_, ?_, h3.ne, h3.fj, h3.fv, fun k hk => Nat.lt_of_lt_of_le (h3.lf k hk) hu.size⟩, hFG', h2, fun k hk => .inl hk⟩, (h4.mono fun k q => .inl q).trans (hu.mono fun k e => .inr (by rw [e]; exact h3.fj))⟩
  · simp only [World.setCell, Array.getElem?_modify, h3.hd]
    simp
  · exact h3.rl.keep fun q hq => hu.block q (h3.rl.lt q hq).2 (h3.ne q hq)
/-- The records are replaced. -/
theorem RBun.done {w5 : World} {v5 : Value} (h : RBun W F G j x n v t W' (s.grp t.size (outL t L)).sync) (hFG : ∀ k, F k → ¬ G k) (hG : ∀ k, G k → k < W.heap.size) (hk : appK n t false L = .group) (ho : (s.grp t.size (outL t L)).off = false)
    (hb : Below W'.heap.size W' w5) (h5 : OL w5 W'.heap.size 9 1 (one .string) v5 (t.recs ++ L)) (M : Nat) (hM : (t.adds L).size = M) :
    RAppR W F G j x n s t false L (.returned (.int .i64 0)) ((w5.setCell ⟨j, 1, none⟩ v5).setCell ⟨j, 2, none⟩ (.int .i64 (M : Int))) := by
  obtain ⟨F', g, c, vp, h01, h2, h03, h04⟩ := h
  have u : Turns (fun _ => False) W' w5 := Turns.of_below hb
  have h1 := h01.keep u (fun _ _ e => e)
  have h3 := h03.keep u (fun _ _ e => e)
  have h4 := h04.trans (u.mono fun _ e => e.elim)
  have hs0 := h04.size
  have hjl := hG j h3.fj
  have t1 : Turns (fun k => k = j) w5 (w5.setCell ⟨j, 1, none⟩ v5) := Turns.setCell w5 _ v5 rfl
  have t2 : Turns (fun k => k = j) (w5.setCell ⟨j, 1, none⟩ v5) ((w5.setCell ⟨j, 1, none⟩ v5).setCell ⟨j, 2, none⟩ (.int .i64 (M : Int))) := Turns.setCell _ _ _ rfl
  have t3 := t1.trans t2
  have hne : ∀ q, v5.ownBlock = some q → q ≠ j := fun q hq e => by have := (h5.lt q hq).1; omega
  have h7 := h5.keep fun q hq => t3.block q (h5.lt q hq).2 (hne q hq)
  have hFG' : ∀ k, F' k → ¬ G k := fun k hf hk => by
    rcases h2 k hf with q | q
    · exact hFG k q hk
    · have := hG k hk; omega
  have e1 : (w5.setCell ⟨j, 1, none⟩ v5).heap[j]? = some (.cells #[.pointer (some ⟨x, 0, none⟩), v5, .int .i64 (t.size : Int), .bool false] 43 (0, 0)) := by
    simp only [World.setCell, Array.getElem?_modify, h3.hd]
    simp
  have e2 : ((w5.setCell ⟨j, 1, none⟩ v5).setCell ⟨j, 2, none⟩ (.int .i64 (M : Int))).heap[j]? = some (.cells #[.pointer (some ⟨x, 0, none⟩), v5, .int .i64 (M : Int), .bool false] 43 (0, 0)) := by
    generalize w5.setCell ⟨j, 1, none⟩ v5 = w6 at e1 ⊢
    simp only [World.setCell, Array.getElem?_modify, e1]
    simp
  unfold RAppR appE appD appT appB
  rw [hk]
  dsimp only
  rw [if_neg (by rw [ho]; decide), ho]
  refine ⟨by unfold chkE; rw [if_neg (by rw [ho]; decide)], ⟨g, c, vp, F', fun k => k = j ∨ v5.ownBlock = some k, v5, h1.keep t3 (fun k hf e => hFG' k hf (by rw [e]; exact h3.fj)), ⟨?_, ?_, hne, .inl rfl, fun q hq => .inr hq, fun k hk => ?_⟩, fun k hf hk => ?_, h2, fun k hk => ?_⟩, (h4.mono fun k q => .inl q).trans (t3.mono fun k e => .inr (by rw [e]; exact h3.fj))⟩
  · rw [e2, hM]
  · rw [adds_recs]; exact h7.base (Nat.zero_le _)
  · rcases hk with e | e
    · rw [e]; exact Nat.lt_of_lt_of_le hjl (Nat.le_trans hs0 (Nat.le_trans u.size t3.size))
    · exact Nat.lt_of_lt_of_le (h5.lt k e).2 t3.size
  · rcases hk with e | e
    · exact hFG' k hf (by rw [e]; exact h3.fj)
    · have := h01.lf k hf; have := (h5.lt k e).1; omega
  · rcases hk with e | e
    · exact .inl (by rw [e]; exact h3.fj)
    · exact .inr (by have := (h5.lt k e).1; omega)
end

set_option maxRecDepth 100000 in
set_option maxHeartbeats 64000000 in
theorem refappend_walk {W : World} {F G : Nat → Prop} {j x g c n : Nat} {vp v : Value} {s : DS} {t : TS} {brk : Bool} (h1 : RefD W F x g c vp n s) (h2 : RJAt W G j x v t brk) (hFG : ∀ k, F k → ¬ G k) (hn1 : 1 ≤ n) (A : Option Addr) (L : List ByteArray) (m cA : Nat) (hm : L.length = m) (hnc : A = none → cA = 0) (hA : LAt W W.heap.size A .string L) (hAF : ∀ a, A = some a → ¬ F a.block) (hlen : m ≤ 1000) (hp : s.pend.length ≤ 800000) (hleft : s.left ≤ 9223372036854775807) (hg : Good n t) :
    Calls Tryz.prog 12 #[.pointer (some ⟨j, 0, none⟩), .slice A m cA] W fun e W' => RAppR W F G j x n s t brk L e W' := by
  have c3 : W.cell? ⟨j, 3, none⟩ = some (.bool brk) := h2.cell 3
  have HF := Lib.hid hFG
  have HG := Lib.hid h2.lf
  have HKEEP : Hid (∀ w' E, Below W.heap.size W w' → appE n s t brk L = E → appD n s t brk L = s → appT n s t brk L = t → appB n s t brk L = brk → RAppR W F G j x n s t brk L (.returned (.int .i64 E)) w') := Lib.hid (fun w' E hb e1 e2 e3 e4 => by
    have hu : Turns (fun _ => False) W w' := Turns.of_below hb
    unfold RAppR
    rw [e1, e2, e3, e4]
    exact ⟨rfl, ⟨g, c, vp, F, G, v, h1.keep hu (fun _ _ e => e), h2.keep hu (fun _ _ e => e), hFG, fun k q => .inl q, fun k q => .inl q⟩, hu.mono fun k q => q.elim⟩)
  cases brk with
  | true =>
    obtain ⟨f1, f2, f3, f4⟩ := app_broken (n := n) (s := s) (t := t) (b := true) (L := L) (by simp)
    have HR := Lib.hid (HKEEP.out W 260 (Below.refl _ _) f1 f2 f3 f4)
    clear HKEEP f1 f2 f3 f4 h1 h2 hFG hA hAF hg hp hleft
    go_enter Tryz.func12, Tryz.ntmps12
    go_wp2_with fail
    go_ret
    exact HR.out
  | false =>
    have HA := Lib.hid hA
    have HAF := Lib.hid hAF
    have HJL := Lib.hid (h2.lf j h2.fj)
    have HM := Lib.hid hm
    have HB0 : Hid (∀ w', Below W.heap.size W w' → RBun W F G j x n v t w' s) := Lib.hid (fun w' hb => ⟨F, g, c, vp, h1.keep (Turns.of_below (Z := fun _ => False) hb) (fun _ _ e => e), fun k q => .inl q, h2.keep (Turns.of_below (Z := fun _ => False) hb) (fun _ _ e => e), (Turns.of_below (Z := fun _ => False) hb).mono fun _ e => e.elim⟩)
    have HROOM : Hid (∀ w', Below W.heap.size W w' → Calls Tryz.prog 21 #[.pointer (some ⟨j, 0, none⟩)] w' fun e w2 => e = .returned (.int .i64 ((n - t.size : Nat) : Int)) ∧ ∃ k, w2 = w'.drewN k) := Lib.hid (fun w' hb => refroom_walk (h2.keep (Turns.of_below (Z := fun _ => False) hb) (fun _ _ e => e)) (h1.keep (Turns.of_below (Z := fun _ => False) hb) (fun _ _ e => e)) hg.fit)
    have hv := h2.rl
    obtain ⟨vA, vc, rfl, -, -⟩ := hv.slice
    have c1 : W.cell? ⟨j, 1, none⟩ = some (.slice vA t.recs.length vc) := h2.cell 1
    have htl : t.recs.length ≤ 1000000 := by
      have := (storeL_le zero32 t.recs hg.ok).2
      have := hg.size
      have := hg.fit
      have := h1.n64
      omega
    have HHD := Lib.hid (refhead_walk vA t.recs t.recs.length vc rfl htl (fun r hr => by have := hg.ok r hr; omega) W (hv.lat))
    rw [← hg.head] at HHD
    have HCV := Lib.hid hv.nilcap
    have HV := Lib.hid hv
    have HGD := Lib.hid hg
    have hn64 := h1.n64
    have hlv := h1.lv
    have hh32 := hg.head32
    have HPL := Lib.hid hp
    have HLF := Lib.hid hleft
    have HLV := Lib.hid hlv
    have HN1 := Lib.hid hn1
    have HNC := Lib.hid hnc
    have HTL := Lib.hid htl
    have hfit := hg.fit
    have HC2 : Hid (W.cell? ⟨j, 2, none⟩ = some (.int .i64 (t.size : Int))) := Lib.hid (h2.cell 2)
    have HC0 : Hid (W.cell? ⟨j, 0, none⟩ = some (.pointer (some ⟨x, 0, none⟩))) := Lib.hid (h2.cell 0)
    clear h1 h2 hFG hA hAF hg hp hleft hv hm hlv hnc htl hn1
    go_enter Tryz.func12, Tryz.ntmps12
    go_wp2_with (first | (go_at_call 43; refine HHD.out.mono ?_; rintro e w1 ⟨rfl, hb1⟩) | fail)
    have HB1 := Lib.hid hb1
    clear hb1 HHD
    go_loopw [5, 6, 7] (fun v5 v6 v7 wr => ∃ (k : Nat) (O : ByteArray), k ≤ m ∧ v7 = .int .i64 k ∧ v5 = .string O ∧ v6 = .string (headF t.head (L.take k)) ∧ Hid (O.data.toList = storeL t.head (L.take k)) ∧ Hid (longB (L.take k) = false) ∧ Hid (Below W.heap.size W wr)) (fun _ _ v _ => m - (intOf v).toNat)
    case atStart => exact ⟨0, ByteArray.empty, Nat.zero_le _, rfl, rfl, rfl, Lib.hid rfl, Lib.hid rfl, HB1⟩
    case round =>
      obtain ⟨k, O, hk, rfl, rfl, rfl, hO, hLG, hB⟩ := hrel
      clear HB1
      by_cases hlt : k < m
      · have d1 : decide ((k : Int) < (m : Int)) = true := by simp [hlt]
        have hkl : k < L.length := by rw [HM.out]; exact hlt
        obtain ⟨a, rfl, hab, hac⟩ := HA.out.get hkl
        have hac1 := (hB.out.cell (p := a.add k) (by rw [addr_add_block]; exact hab)).trans hac
        obtain ⟨r, hr⟩ : ∃ r, L[k] = r := ⟨_, rfl⟩
        rw [hr] at hac1
        have htk : L.take (k + 1) = L.take k ++ [r] := by rw [List.take_succ_eq_append_getElem hkl, hr]
        have z1 : (0 : Int) ≤ (k : Int) := by omega
        have z2 : (k : Int) < (m : Int) := by omega
        clear hac hr hab
        by_cases hlg : 65536 < r.size
        · have hL : longB L = true := by
            unfold longB
            rw [List.any_eq_true]
            refine ⟨r, ?_, by simpa using hlg⟩
            have : r ∈ L.take (k + 1) := by rw [htk]; simp
            exact List.mem_of_mem_take this
          obtain ⟨f1, f2, f3, f4⟩ := app_broken (n := n) (s := s) (t := t) (b := false) (L := L) (by simp [hL])
          have HR := Lib.hid (HKEEP.out wr 260 hB.out f1 f2 f3 f4)
          have d2 : decide ((65536 : Int) < (r.size : Int)) = true := by simp; omega
          have d3 : decide (65536 < r.size) = true := by simp [hlg]
          clear f1 f2 f3 f4 hL htk hlg
          go_wp2_with fail
          go_ret
          exact HR.out
        · have d2 : decide ((65536 : Int) < (r.size : Int)) = false := by simp; omega
          have d3 : decide (65536 < r.size) = false := by simp; omega
          have hO2 : (O ++ ⟨(recL (headF t.head (L.take k)) r).toArray⟩ : ByteArray).data.toList = storeL t.head (L.take (k + 1)) := by
            rw [ba_append, hO.out, htk, storeL_append, storeL, storeL, List.append_nil]
          have hH2 : headF t.head (L.take (k + 1)) = chainS (headF t.head (L.take k)) r := by rw [htk, headF_append]; rfl
          have hL2 : longB (L.take (k + 1)) = false := by
            have h0 := hLG.out
            unfold longB at h0 ⊢
            rw [htk, List.any_append, h0]
            simp; omega
          have hOs : O.size ≤ 65600000 := by
            rw [← ba_length, hO.out]
            have h0 := (storeL_le t.head (L.take k) (short_ok hLG.out)).1
            have : (L.take k).length ≤ 1000 := by rw [List.length_take]; omega
            omega
          have hrs : (recL (headF t.head (L.take k)) r).length ≤ 66000 := by
            have e1 := recL_length (headF t.head (L.take k)) r
            have e2 := putL_length r
            have e3 := (putI_len9 (n := r.size) (by omega)).1
            omega
          have HST := Lib.hid (refstored_walk (headF t.head (L.take k)) r (headF_size hh32 _) (by omega))
          obtain ⟨R, hR⟩ : ∃ R : ByteArray, ⟨(recL (headF t.head (L.take k)) r).toArray⟩ = R := ⟨_, rfl⟩
          have hRs : R.size ≤ 66000 := by rw [← hR, ba_mk_size]; exact hrs
          rw [hR] at HST hO2
          have hadd := fun w => strAdd (P := Tryz.prog) O R (by omega) w
          have HX := Lib.hid (And.intro hO2 (And.intro hH2 hL2))
          obtain ⟨H2, hH⟩ : ∃ H2, chainS (headF t.head (L.take k)) r = H2 := ⟨_, rfl⟩
          rw [hH] at HST HX
          clear hO2 hH2 hL2 hrs hR hRs hOs htk hlg hO hLG hH
          go_wp2_with (first | (go_at_call 44; refine (HST.out _).mono ?_; rintro e w2 ⟨rfl, hb2⟩) | fail)
          exact ⟨⟨k + 1, O ++ R, by omega, by go_num, rfl, by rw [HX.out.2.1], Lib.hid HX.out.1, Lib.hid HX.out.2.2, Lib.hid (hB.out.trans (hb2.mono hB.out.size))⟩, by simp only [intOf]; omega⟩
      · have d1 : decide ((k : Int) < (m : Int)) = false := by simp; omega
        obtain rfl : k = m := by omega
        have htk : L.take k = L := List.take_of_length_le (by rw [HM.out]; omega)
        rw [htk] at hO hLG
        clear htk hlt hk
        have hO' : O.data.toList = outL t L := hO.out
        obtain ⟨M, hM⟩ : ∃ M, O.size = M := ⟨_, rfl⟩
        have hML : (outL t L).length = M := by rw [← hO', ba_length, hM]
        have hk0 : ¬ (false || longB L) = true := by rw [hLG.out]; decide
        obtain ⟨q, hq⟩ : ∃ q, t.size = q := ⟨_, rfl⟩
        have HQ := Lib.hid hq
        rw [hq] at hfit HROOM HC2
        obtain ⟨rm, hrm⟩ : ∃ rm, n - q = rm := ⟨_, rfl⟩
        rw [hrm] at HROOM
        clear hq hO
        by_cases hfull : n < q + M
        · obtain ⟨f1, f2, f3, f4⟩ := app_full (n := n) (s := s) (t := t) (L := L) hLG.out (by rw [HQ.out, hML]; exact hfull)
          have HR := Lib.hid (fun w' hb => HKEEP.out w' 261 hb f1 f2 f3 f4)
          have d2 : decide ((rm : Int) < (M : Int)) = true := by simp; omega
          have d3 : decide (rm < M) = true := by simp; omega
          clear f1 f2 f3 f4 hfull hrm hO' hML hk0
          go_wp2_with (first | (go_at_call 21; refine (HROOM.out _ hB.out).mono ?_; rintro e w8 ⟨rfl, k8, rfl⟩) | fail)
          go_ret
          exact HR.out _ (Below.drewN' hB.out k8)
        · have d2 : decide ((rm : Int) < (M : Int)) = false := by simp; omega
          have d3 : decide (rm < M) = false := by simp; omega
          by_cases hL0 : L = []
          · have hO0 : O = ByteArray.empty := ba_ext (by rw [hO', hL0]; rfl)
            have hE : appE n s t false L = 0 ∧ appD n s t false L = s ∧ appT n s t false L = t ∧ appB n s t false L = false := by rw [hL0]; exact app_none HGD.out.fit
            have HR := Lib.hid (fun w' hb => HKEEP.out w' 0 hb hE.1 hE.2.1 hE.2.2.1 hE.2.2.2)
            have d4 : (O.toList == (ByteArray.empty).toList) = true := by rw [hO0]; exact beq_self_eq_true _
            clear hE hO' hML hk0 hfull hrm
            go_wp2_with (first | (go_at_call 21; refine (HROOM.out _ hB.out).mono ?_; rintro e w8 ⟨rfl, k8, rfl⟩) | fail)
            go_ret
            exact HR.out _ (Below.drewN' hB.out k8)
          · have hk : appK n t false L = .group := by unfold appK; rw [if_neg hk0, if_neg (by rw [HQ.out, hML]; exact hfull), if_neg hL0]
            have hM1 : 1 ≤ M := by rw [← hML, out_shape hL0, List.length_cons]; omega
            have HK := Lib.hid hk
            obtain ⟨X1, hX1⟩ : ∃ X1, O.extract 1 M = X1 := ⟨_, rfl⟩
            obtain ⟨X2, hX2⟩ : ∃ X2, O.extract 0 1 = X2 := ⟨_, rfl⟩
            have g1 : X1 = ⟨((outL t L).drop 1).toArray⟩ := by
              have := Lib.extract_from O 1
              rw [hM, hX1] at this
              rw [this, ← hO']
            have g2 : X2 = ⟨((outL t L).take 1).toArray⟩ := by
              have := Lib.extract_upto O 1
              rw [hX2] at this
              rw [this, ← hO']
            have s1 : X1.size = M - 1 := by rw [g1, ba_mk_size, List.length_drop, hML]
            have s2 : X2.size = 1 := by rw [g2, ba_mk_size, List.length_take, hML]; omega
            have hMb : M ≤ 4194304 := by omega
            have hgrp : s.grp t.size (outL t L) = ((s.wr ((q : Int) + 1) X1).sync).wr (q : Int) X2 := by
              unfold DS.grp
              rw [g1, g2, HQ.out, show ((q + 1 : Nat) : Int) = (q : Int) + 1 by omega]
            have e1 : s.writeE ((q : Int) + 1) X1 = if s.off then 251 else 0 := by
              rw [show (q : Int) + 1 = ((q + 1 : Nat) : Int) by omega]
              exact writeE_in (by rw [HLV.out, s1]; omega)
            have v1 : (s.wr ((q : Int) + 1) X1).vis.length = n := by
              rw [show (q : Int) + 1 = ((q + 1 : Nat) : Int) by omega, wr_vis (by rw [HLV.out, s1]; omega), HLV.out]
            have q1 := wr_pend s ((q : Int) + 1) X1
            obtain ⟨sa, hsa⟩ : ∃ sa, s.wr ((q : Int) + 1) X1 = sa := ⟨_, rfl⟩
            obtain ⟨E1, hE1⟩ : ∃ E1, s.writeE ((q : Int) + 1) X1 = E1 := ⟨_, rfl⟩
            have HGRP := Lib.hid hgrp
            rw [hsa] at HGRP v1 q1
            rw [hE1] at e1
            have HWR : Hid (∀ V, Below W.heap.size W V → Calls Tryz.prog 16 #[.pointer (some ⟨x, 0, none⟩), .int .i64 ((q : Int) + 1), .string X1] V fun e V' => e = .returned (.int .i64 E1) ∧ RBun W F G j x n (.slice vA t.recs.length vc) t V' sa) := Lib.hid (fun V hV => by
              have h0 := (HB0.out V hV).write HF.out HG.out ((q : Int) + 1) X1 (by omega) (by have := HPL.out; omega) HLF.out
              rw [hsa, hE1] at h0
              exact h0)
            have HSA := Lib.hid (And.intro v1 q1)
            have HSEQ : Hid (s.off = true → sa = s) := Lib.hid (fun ho => by rw [← hsa, wr_off ho])
            have w1 : IntKind.i64.wrap ((q : Int) + 1) = (q : Int) + 1 := by rw [IntKind.wrap_i64]; omega
            have w2 : IntKind.i64.wrap ((q : Int) + (M : Int)) = ((q + M : Nat) : Int) := by rw [IntKind.wrap_i64]; omega
            have z1 : (1 : Int) ≤ (M : Int) := by omega
            have hOl : O.toList = O.data.toList := ByteArray.toList_mk _
            have d4 : O.toList.isEmpty = false := by
              rw [List.isEmpty_eq_false_iff, hOl, hO']
              intro e
              rw [e] at hML
              simp at hML
              omega
            have HADD : Hid ((t.adds L).size = q + M) := Lib.hid (by rw [adds_size, HQ.out]; show q + (outL t L).length = _; rw [hML])
            have hLm : L.length ≤ 1000 := by rw [HM.out]; exact hlen
            have HLM := Lib.hid hLm
            have HS2 := Lib.hid s2
            have HFIT : Hid (q + 1 ≤ n) := Lib.hid (by omega)
            clear hk hk0 hfull hrm hO' hML hL0 hOl g1 g2 s1 hgrp hsa hE1 v1 q1 hLm s2
            go_wp2_with (first | (go_at_call 21; refine (HROOM.out _ hB.out).mono ?_; rintro e w8 ⟨rfl, k8, rfl⟩) | fail)
            have hBA : Below W.heap.size W (wr.drewN k8) := Below.drewN' hB.out k8
            generalize wr.drewN k8 = wA at hBA ⊢
            have c0A : wA.cell? ⟨j, 0, none⟩ = some (.pointer (some ⟨x, 0, none⟩)) := (hBA.cell (p := ⟨j, 0, none⟩) HJL.out).trans HC0.out
            have c2A : wA.cell? ⟨j, 2, none⟩ = some (.int .i64 (q : Int)) := (hBA.cell (p := ⟨j, 2, none⟩) HJL.out).trans HC2.out
            have HBA := Lib.hid hBA
            clear hBA hB
            have HOFF : Hid (sa.off = true → (s.grp t.size (outL t L)).sync = sa ∧ (s.grp t.size (outL t L)).off = true) := Lib.hid (fun ho => by
              rw [HGRP.out, sync_off ho, wr_off ho, sync_off ho]
              exact ⟨rfl, ho⟩)
            cases ho : s.off with
            | true =>
              rw [ho, if_pos rfl] at e1
              subst e1
              have hso := HSEQ.out ho
              have hof := HOFF.out (by rw [hso]; exact ho)
              have HOF := Lib.hid hof
              clear ho hso hof HSEQ HOFF
              go_region_held3 (fun w' => w'.cell? ⟨j, 0, none⟩ = some (.pointer (some ⟨x, 0, none⟩)) ∧ w'.cell? ⟨j, 2, none⟩ = some (.int .i64 (q : Int))) (first | exact ⟨c0A, c2A⟩ | exact ⟨c50, c52⟩) (first | (go_at_call 16; refine (HWR.out _ HBA.out.drew).mono ?_; rintro e W5 ⟨rfl, hb5⟩; have HB5 := Lib.hid hb5; have c50 := hb5.c0; have c52 := hb5.c2 HQ.out; have c5 : W5.cell? ⟨j, 3, none⟩ = some (.bool false) := hb5.cell 3; have f5 := hb5.free 3; clear hb5) | fail)
              go_wp2_with fail
              go_ret
              exact RBun.fail (by rw [HOF.out.1]; exact HB5.out) HF.out HG.out HK.out HOF.out.2
            | false =>
              rw [ho, if_neg (by decide)] at e1
              subst e1
              clear ho HSEQ
              go_region_held3 (fun w' => w'.cell? ⟨j, 0, none⟩ = some (.pointer (some ⟨x, 0, none⟩)) ∧ w'.cell? ⟨j, 2, none⟩ = some (.int .i64 (q : Int))) (first | exact ⟨c0A, c2A⟩ | exact ⟨c50, c52⟩) (first | (go_at_call 16; refine (HWR.out _ HBA.out.drew).mono ?_; rintro e W5 ⟨rfl, hb5⟩; have HB5 := Lib.hid hb5; have c50 := hb5.c0; have c52 := hb5.c2 HQ.out; clear hb5) | fail)
              go_wp2_with fail
              have hsy := HB5.out.sync HF.out HG.out HN1.out (by have := HSA.out.2.1; have := HPL.out; omega)
              cases hoa : sa.off with
              | true =>
                have hof := HOFF.out hoa
                have HOF := Lib.hid hof
                have hck : chkE sa = 251 := by unfold chkE; rw [if_pos hoa]
                rw [hck, sync_off hoa] at hsy
                have HSY := Lib.hid hsy
                clear hsy hck hof hoa HOFF c50 c52 c0A c2A
                refine HSY.out.mono ?_
                rintro e W6 ⟨rfl, hb6⟩
                have HB6 := Lib.hid hb6
                have c6 : W6.cell? ⟨j, 3, none⟩ = some (.bool false) := hb6.cell 3
                have f6 := hb6.free 3
                clear hb6 HSY
                go_wp2_with fail
                go_ret
                exact RBun.fail (by rw [HOF.out.1]; exact HB6.out) HF.out HG.out HK.out HOF.out.2
              | false =>
                have hck : chkE sa = 0 := by unfold chkE; rw [if_neg (by rw [hoa]; decide)]
                rw [hck] at hsy
                have HSY := Lib.hid hsy
                have e2 : sa.sync.writeE (q : Int) X2 = 0 := by
                  rw [writeE_in (by rw [sync_vis, HSA.out.1, HS2.out]; exact HFIT.out), sync_keepsoff, hoa]
                  rfl
                have q2 := sync_pend sa
                have HE2 := Lib.hid (And.intro e2 q2)
                clear hsy hck hoa HOFF c50 c52 c0A c2A e2 q2
                refine HSY.out.mono ?_
                rintro e W6 ⟨rfl, hb6⟩
                have HB6 := Lib.hid hb6
                have c60 : W6.cell? ⟨j, 0, none⟩ = some (.pointer (some ⟨x, 0, none⟩)) := hb6.cell 0
                have c62 : W6.cell? ⟨j, 2, none⟩ = some (.int .i64 (t.size : Int)) := hb6.cell 2
                rw [HQ.out] at c62
                have hw7 := (hb6.quiet (Turns.drew W6)).write HF.out HG.out (q : Int) X2 (by have := HS2.out; omega) (by have := HSA.out.2.1; have := HPL.out; have := HE2.out.2.1; omega) (by have := HSA.out.2.2; have := HLF.out; have := HE2.out.2.2; omega)
                rw [HE2.out.1, ← HGRP.out] at hw7
                have HW7 := Lib.hid hw7
                clear hb6 HSY hw7
                go_wp2_with fail
                go_region_held3 (fun w' => w'.cell? ⟨j, 0, none⟩ = some (.pointer (some ⟨x, 0, none⟩)) ∧ w'.cell? ⟨j, 2, none⟩ = some (.int .i64 (q : Int))) (first | exact ⟨c60, c62⟩ | exact ⟨c70, c72⟩) (first | (go_at_call 16; refine HW7.out.mono ?_; rintro e W7 ⟨rfl, hb7⟩; have HB7 := Lib.hid hb7; have c70 := hb7.c0; have c72 := hb7.c2 HQ.out; clear hb7) | fail)
                go_wp2_with fail
                have hgp : (s.grp t.size (outL t L)).pend.length ≤ 1000000 := by
                  have h0 := (wr_pend sa.sync (q : Int) X2).1
                  rw [← HGRP.out] at h0
                  have := HSA.out.2.1
                  have := HPL.out
                  have := HE2.out.2.1
                  omega
                have hsy := HB7.out.sync HF.out HG.out HN1.out hgp
                clear hgp c70 c72 c60 c62
                cases hoc : (s.grp t.size (outL t L)).off with
                | true =>
                  have hck : chkE (s.grp t.size (outL t L)) = 251 := by unfold chkE; rw [if_pos hoc]
                  rw [hck] at hsy
                  have HSY := Lib.hid hsy
                  have HOC := Lib.hid hoc
                  clear hsy hck hoc
                  refine HSY.out.mono ?_
                  rintro e W8 ⟨rfl, hb8⟩
                  have HB8 := Lib.hid hb8
                  have c8 : W8.cell? ⟨j, 3, none⟩ = some (.bool false) := hb8.cell 3
                  have f8 := hb8.free 3
                  clear hb8 HSY
                  go_wp2_with fail
                  go_ret
                  exact HB8.out.fail HF.out HG.out HK.out HOC.out
                | false =>
                  have hck : chkE (s.grp t.size (outL t L)) = 0 := by unfold chkE; rw [if_neg (by rw [hoc]; decide)]
                  rw [hck] at hsy
                  have HSY := Lib.hid hsy
                  have HOC := Lib.hid hoc
                  clear hsy hck hoc
                  refine HSY.out.mono ?_
                  rintro e W8 ⟨rfl, hb8⟩
                  have HB8 := Lib.hid hb8
                  have c81 : W8.cell? ⟨j, 1, none⟩ = some (.slice vA t.recs.length vc) := hb8.cell 1
                  have HCAT := Lib.hid (LAt.cat hb8.recs.lat)
                  have HAL := Lib.hid (HA.out.turned hb8.turns HAF.out)
                  have htl := HTL.out
                  clear hb8 HSY HW7 HB7 HB6 HB5 HWR
                  go_wp2_with (first
                    | (at_builtin
                       refine wpList_cat rfl (.tmp 98) (.tmp 102) 22 rfl elemStr (fun _ => rfl) (.slice none 0 0) ([] : List ByteArray) rfl (OL.nil (B := W8.heap.size)) vA t.recs t.recs.length vc rfl rfl HCV.out HCAT.out (fun y _ u hu => by rw [List.mem_singleton.1 hu]; rfl) (by unfold maxLen; simp; omega) (by simp; omega) (Nat.le_refl _) ?_
                       intro v7 w7 h7 hg7 hb7
                       have HL7 := Lib.hid (LAt.cat (HAL.out.below hb7)))
                    | (at_builtin
                       refine wpList_cat rfl (.tmp 105) (.tmp 106) 22 rfl elemStr (fun _ => rfl) v7 ([] ++ t.recs) rfl h7 A L k cA HM.out rfl HNC.out HL7.out (fun y _ u hu => by rw [List.mem_singleton.1 hu]; rfl) (by unfold maxLen; simp; omega) (by simp; omega) hb7.size ?_
                       intro v9 w9 h9 hg9 hb9
                       obtain ⟨A9, c9, e9, -, -⟩ := h9.slice
                       obtain ⟨m9, hm9⟩ : ∃ m9, ([] ++ t.recs ++ L).length = m9 := ⟨_, rfl⟩
                       rw [hm9] at e9
                       subst e9
                       clear hm9
                       have HB9 := Lib.hid (HB8.out.quiet (Turns.of_below (hb7.trans hb9)))
                       have c91 : w9.cell? ⟨j, 1, none⟩ = some (.slice vA t.recs.length vc) := HB9.out.cell 1
                       have c92 : w9.cell? ⟨j, 2, none⟩ = some (.int .i64 (t.size : Int)) := HB9.out.cell 2
                       rw [HQ.out] at c92
                       have f91 := HB9.out.free 1
                       have f92 := HB9.out.free 2)
                    | fail)
                  go_ret
                  exact HB8.out.done HF.out HG.out HK.out HOC.out (hb7.trans hb9) h9 (q + M) HADD.out
end Go.Proofs.YtllmciiadceinaaGreatDoor
end
section
namespace Go.Proofs.YtllmciiadceinaaGreatDoor
open Go Go.RowKit Go.Shelf Wr

abbrev JO := Option (Nat × TS × Bool)
/-- The journal's side: a disk, and a journal or none. -/
def LP (W0 : World) (Z : Nat → Prop) (W : World) (n d : Nat) (s : DS) : JO → Prop
  | none => DL W0 Z W n d s
  | some (j, t, b) => JL W0 Z W n d s j t b
/-- The reference's side, on the blocks F2. -/
def RP (W : World) (F2 : Nat → Prop) (n x : Nat) (s : DS) : JO → Prop
  | none => ∃ g c vp, RefD W F2 x g c vp n s
  | some (k, t, b) => ∃ g c vp F G v, RefD W F x g c vp n s ∧ RJAt W G k x v t b ∧ (∀ q, F q → ¬ G q) ∧ ∀ q, F2 q ↔ F q ∨ G q
def Duo (W0 : World) (Z : Nat → Prop) (W : World) (n d : Nat) (s : DS) (J : JO) (x : Nat) (r : DS) (K : JO) : Prop :=
  ∃ F2, RP W F2 n x r K ∧ (∀ q, F2 q → W0.heap.size ≤ q ∧ ¬ Z q) ∧ LP W0 (fun q => Z q ∨ F2 q) W n d s J
section
variable {W0 W W' : World} {Z F2 : Nat → Prop} {n d x : Nat} {s r : DS} {J K : JO}
theorem RP.lf (h : RP W F2 n x r K) : ∀ q, F2 q → q < W.heap.size := by
  cases K with
  | none => obtain ⟨g, c, vp, h1⟩ := h; exact h1.lf
  | some y =>
    obtain ⟨k, t, b⟩ := y
    obtain ⟨g, c, vp, F, G, v, h1, h2, h3, h4⟩ := h
    intro q hq
    rcases (h4 q).1 hq with e | e
    · exact h1.lf q e
    · exact h2.lf q e
theorem RP.keep {Y : Nat → Prop} (h : RP W F2 n x r K) (u : Turns Y W W') (hy : ∀ q, F2 q → ¬ Y q) : RP W' F2 n x r K := by
  cases K with
  | none => obtain ⟨g, c, vp, h1⟩ := h; exact ⟨g, c, vp, h1.keep u hy⟩
  | some y =>
    obtain ⟨k, t, b⟩ := y
    obtain ⟨g, c, vp, F, G, v, h1, h2, h3, h4⟩ := h
    exact ⟨g, c, vp, F, G, v, h1.keep u (fun q hq => hy q ((h4 q).2 (.inl hq))), h2.keep u (fun q hq => hy q ((h4 q).2 (.inr hq))), h3, h4⟩
theorem LP.below (h : LP W0 Z W n d s J) : Below W0.heap.size W0 W := by
  cases J with
  | none => exact DL.below h
  | some y => obtain ⟨j, t, b⟩ := y; exact JL.below h
theorem LP.quiet (h : LP W0 Z W n d s J) (u : Turns (fun _ => False) W W') : LP W0 Z W' n d s J := by
  cases J with
  | none => exact DL.quiet h u
  | some y => obtain ⟨j, t, b⟩ := y; exact JL.quiet h u
theorem LP.mono {Z' : Nat → Prop} (h : LP W0 Z W n d s J) (hz : ∀ k, Z' k → k < W.heap.size → Z k) : LP W0 Z' W n d s J := by
  cases J with
  | none => exact DL.mono h hz
  | some y => obtain ⟨j, t, b⟩ := y; exact JL.mono h hz
theorem LP.keepS {Y : Nat → Prop} (h : LP W0 Z W n d s J) (u : Turns Y W W') (hY : ∀ k, Y k → Z k ∧ W0.heap.size ≤ k) : LP W0 Z W' n d s J := by
  cases J with
  | none =>
    obtain ⟨gd, gv, F, vp, h1, h2, h3⟩ := h
    exact ⟨gd, gv, F, vp, h1.keep u (fun k hk e => (h2 k hk).2 (hY k e).1), h2, h3.then u (fun k hk => .inr (hY k hk).2)⟩
  | some y =>
    obtain ⟨j, t, b⟩ := y
    obtain ⟨gd, gv, F, G, vp, h1, h2, h3, h4, h5⟩ := h
    exact ⟨gd, gv, F, G, vp, h1.keep u (fun k hk e => (h4 k (.inl hk)).2 (hY k e).1), h2.keep u (fun k hk e => (h4 k (.inr hk)).2 (hY k e).1), h3, h4, h5.then u (fun k hk => .inr (hY k hk).2)⟩
theorem LP.dl (h : LP W0 Z W n d s J) : DL W0 Z W n d s := by
  cases J with
  | none => exact h
  | some y => obtain ⟨j, t, b⟩ := y; exact JL.dl h
theorem RP.rd (h : RP W F2 n x r K) : ∃ g c vp F, RefD W F x g c vp n r ∧ ∀ q, F q → F2 q := by
  cases K with
  | none => obtain ⟨g, c, vp, h1⟩ := h; exact ⟨g, c, vp, F2, h1, fun q hq => hq⟩
  | some y =>
    obtain ⟨k, t, b⟩ := y
    obtain ⟨g, c, vp, F, G, v, h1, h2, h3, h4⟩ := h
    exact ⟨g, c, vp, F, h1, fun q hq => (h4 q).2 (.inl hq)⟩
theorem Duo.below (h : Duo W0 Z W n d s J x r K) : Below W0.heap.size W0 W := by obtain ⟨F2, h1, h2, h3⟩ := h; exact h3.below
theorem Duo.quiet (h : Duo W0 Z W n d s J x r K) (u : Turns (fun _ => False) W W') : Duo W0 Z W' n d s J x r K := by
  obtain ⟨F2, h1, h2, h3⟩ := h
  exact ⟨F2, h1.keep u (fun _ _ e => e), h2, h3.quiet u⟩
theorem Duo.keep (h : Duo W0 Z W n d s J x r K) (u : Turns Z W W') (hZ : ∀ k, Z k → W0.heap.size ≤ k) : Duo W0 Z W' n d s J x r K := by
  obtain ⟨F2, h1, h2, h3⟩ := h
  exact ⟨F2, h1.keep u (fun q hq => (h2 q hq).2), h2, h3.keepS u (fun k hk => ⟨.inl hk, hZ k hk⟩)⟩
theorem Duo.mono {Z' : Nat → Prop} (h : Duo W0 Z W n d s J x r K) (hz : ∀ k, Z' k → k < W.heap.size → Z k) : Duo W0 Z' W n d s J x r K := by
  obtain ⟨F2, h1, h2, h3⟩ := h
  refine ⟨F2, h1, fun q hq => ⟨(h2 q hq).1, fun e => (h2 q hq).2 (hz q e (h1.lf q hq))⟩, h3.mono fun k hk hl => ?_⟩
  rcases hk with e | e
  · exact .inl (hz k e hl)
  · exact .inr e
/-- Both journals are forgotten. -/
theorem Duo.drop (h : Duo W0 Z W n d s J x r K) : Duo W0 Z W n d s none x r none := by
  obtain ⟨F2, h1, h2, h3⟩ := h
  obtain ⟨g, c, vp, F, h4, h5⟩ := h1.rd
  exact ⟨F, ⟨g, c, vp, h4⟩, fun q hq => h2 q (h5 q hq), h3.dl.mono fun k hk _ => by rcases hk with e | e; exact .inl e; exact .inr (h5 k e)⟩
theorem Duo.left {f : Nat} {args : Array Value} (P : Ending → DS → JO → Prop) (h : Duo W0 Z W n d s J x r K) (hZ : ∀ k, Z k → k < W.heap.size)
    (hc : ∀ Z', (∀ k, Z' k → k < W.heap.size) → LP W0 Z' W n d s J → Calls Tryz.prog f args W fun e W' => (∃ s' J', P e s' J' ∧ LP W0 Z' W' n d s' J') ∧ Turns (fun k => ¬ Z' k) W W') :
    Calls Tryz.prog f args W fun e W' => (∃ s' J', P e s' J' ∧ Duo W0 Z W' n d s' J' x r K) ∧ Turns (fun k => ¬ Z k) W W' := by
  obtain ⟨F2, h1, h2, h3⟩ := h
  refine (hc _ (fun k hk => ?_) h3).mono ?_
  · rcases hk with e | e
    · exact hZ k e
    · exact h1.lf k e
  · rintro e W1 ⟨⟨s', J', hP, hl⟩, ht⟩
    exact ⟨⟨s', J', hP, F2, h1.keep ht (fun q hq e => e (.inr hq)), h2, hl⟩, ht.mono fun k hk e => hk (.inl e)⟩
theorem Duo.rightOf {f : Nat} {args : Array Value} (P : Ending → DS → JO → Prop) (h2 : ∀ q, F2 q → W0.heap.size ≤ q ∧ ¬ Z q) (h3 : LP W0 (fun q => Z q ∨ F2 q) W n d s J) (hZ : ∀ k, Z k → k < W.heap.size)
    (hc : Calls Tryz.prog f args W fun e W' => (∃ r' K', P e r' K' ∧ ∃ F', RP W' F' n x r' K' ∧ ∀ q, F' q → F2 q ∨ W.heap.size ≤ q) ∧ Turns F2 W W') :
    Calls Tryz.prog f args W fun e W' => (∃ r' K', P e r' K' ∧ Duo W0 Z W' n d s J x r' K') ∧ Turns (fun k => ¬ Z k) W W' := by
  have hs := h3.below.size
  refine hc.mono ?_
  rintro e W1 ⟨⟨r', K', hP, F', hr, hF⟩, ht⟩
  have h4 : LP W0 (fun q => (Z q ∨ F2 q) ∨ W.heap.size ≤ q) W n d s J := h3.mono fun k hk hl => by rcases hk with e | e; exact e; omega
  have h5 := h4.keepS ht fun k hk => ⟨.inl (.inr hk), (h2 k hk).1⟩
  refine ⟨⟨r', K', hP, F', hr, fun q hq => ?_, h5.mono fun k hk _ => ?_⟩, ht.mono fun k hk => (h2 k hk).2⟩
  · rcases hF q hq with e | e
    · exact h2 q e
    · exact ⟨by omega, fun hz => by have := hZ q hz; omega⟩
  · rcases hk with e | e
    · exact .inl (.inl e)
    · rcases hF k e with e | e
      · exact .inl (.inr e)
      · exact .inr e
theorem Duo.right {f : Nat} {args : Array Value} (P : Ending → DS → JO → Prop) (h : Duo W0 Z W n d s J x r K) (hZ : ∀ k, Z k → k < W.heap.size)
    (hc : ∀ F2, RP W F2 n x r K → Calls Tryz.prog f args W fun e W' => (∃ r' K', P e r' K' ∧ ∃ F', RP W' F' n x r' K' ∧ ∀ q, F' q → F2 q ∨ W.heap.size ≤ q) ∧ Turns F2 W W') :
    Calls Tryz.prog f args W fun e W' => (∃ r' K', P e r' K' ∧ Duo W0 Z W' n d s J x r' K') ∧ Turns (fun k => ¬ Z k) W W' := by
  obtain ⟨F2, h1, h2, h3⟩ := h
  exact Duo.rightOf P h2 h3 hZ (hc F2 h1)
end
/-- How an Open ends. -/
def OpenP1 (s : DS) (e : Ending) (s' : DS) (J' : JO) : Prop :=
  s' = openD s ∧ ((openE s = 0 ∧ ∃ j t, e = .returned (.tuple #[.pointer (some ⟨j, 0, none⟩), .int .i64 0]) ∧ loadW s.vis TS.zero = some t ∧ J' = some (j, t, false)) ∨
    (openE s ≠ 0 ∧ e = .returned (.tuple #[.pointer none, .int .i64 (openE s)]) ∧ J' = none))
section
variable {W0 W W' : World} {Z F2 : Nat → Prop} {n d x : Nat} {s r : DS} {J K : JO}
theorem Duo.openL (h : Duo W0 Z W n d s none x r K) (hZ : ∀ k, Z k → k < W.heap.size) (a : Addr) (hK : KAt W0) (hE : ErrAt W0 a) (hp : s.pend.length ≤ 900000) (hleft : s.left ≤ 9223372036854775807) :
    Calls Tryz.prog 25 #[.pointer (some ⟨d, 0, none⟩)] W fun e W' => (∃ s' J', OpenP1 s e s' J' ∧ Duo W0 Z W' n d s' J' x r K) ∧ Turns (fun k => ¬ Z k) W W' := by
  refine h.left (OpenP1 s) hZ fun Z' hZ' hl => (open_D hl hZ' a hK hE hp hleft).mono ?_
  rintro e W1 ⟨hr, ht⟩
  refine ⟨?_, ht⟩
  rcases hr with ⟨he, j, t, rfl, hl, hj⟩ | ⟨he, rfl, hd⟩
  · exact ⟨_, some (j, t, false), ⟨rfl, .inl ⟨he, j, t, rfl, hl, rfl⟩⟩, hj⟩
  · exact ⟨_, none, ⟨rfl, .inr ⟨he, rfl, rfl⟩⟩, hd⟩
theorem Duo.openR (h : Duo W0 Z W n d s J x r none) (hZ : ∀ k, Z k → k < W.heap.size) (hn1 : 1 ≤ n) (hp : r.pend.length ≤ 900000) (hleft : r.left ≤ 9223372036854775807) :
    Calls Tryz.prog 50 #[.pointer (some ⟨x, 0, none⟩)] W fun e W' => (∃ s' J', OpenP1 r e s' J' ∧ Duo W0 Z W' n d s J x s' J') ∧ Turns (fun k => ¬ Z k) W W' := by
  refine h.right (OpenP1 r) hZ fun F2 hr => ?_
  obtain ⟨g, c, vp, h1⟩ := hr
  refine (refopen_walk h1 hn1 hp hleft).mono ?_
  rintro e W1 ⟨hr, ht⟩
  refine ⟨?_, ht⟩
  rcases hr with ⟨he, j, v, t, G, g', c', F', vp', rfl, hl, hj, hd, hFG, hF, hG⟩ | ⟨he, rfl, g', c', F', vp', hd, hF⟩
  · refine ⟨_, some (j, t, false), ⟨rfl, .inl ⟨he, j, t, rfl, hl, rfl⟩⟩, fun q => F' q ∨ G q, ⟨g', c', vp', F', G, v, hd, hj, hFG, fun q => Iff.rfl⟩, fun q hq => ?_⟩
    rcases hq with e | e
    · exact hF q e
    · exact .inr (hG q e)
  · exact ⟨_, none, ⟨rfl, .inr ⟨he, rfl, rfl⟩⟩, F', ⟨g', c', vp', hd⟩, hF⟩
def AppP1 (n : Nat) (s : DS) (j : Nat) (t : TS) (b : Bool) (L : List ByteArray) (e : Ending) (s' : DS) (J' : JO) : Prop :=
  e = .returned (.int .i64 (appE n s t b L)) ∧ s' = appD n s t b L ∧ J' = some (j, appT n s t b L, appB n s t b L)
theorem Duo.appL {j : Nat} {t : TS} {b : Bool} (h : Duo W0 Z W n d s (some (j, t, b)) x r K) (hZ : ∀ k, Z k → k < W.heap.size) (A : Option Addr) (L : List ByteArray) (m c : Nat) (hm : L.length = m) (hA : LAt W W.heap.size A .string L) (hlen : m ≤ 1000) (hK : KAt W0) (hp : s.pend.length ≤ 800000) (hleft : s.left ≤ 9223372036854775807) (hg : Good n t) :
    Calls Tryz.prog 10 #[.pointer (some ⟨j, 0, none⟩), .slice A m c] W fun e W' => (∃ s' J', AppP1 n s j t b L e s' J' ∧ Duo W0 Z W' n d s' J' x r K) ∧ Turns (fun k => ¬ Z k) W W' := by
  refine h.left (AppP1 n s j t b L) hZ fun Z' hZ' hl => (append_J hl hZ' A L m c hm hA hlen hK hp hleft hg).mono ?_
  rintro e W1 ⟨rfl, hj, ht⟩
  exact ⟨⟨_, some (j, _, _), ⟨rfl, rfl, rfl⟩, hj⟩, ht⟩
theorem Duo.appR {k : Nat} {t : TS} {b : Bool} (h : Duo W0 Z W n d s J x r (some (k, t, b))) (hZ : ∀ k, Z k → k < W.heap.size) (hn1 : 1 ≤ n) (A : Option Addr) (L : List ByteArray) (m c : Nat) (hm : L.length = m) (hnc : A = none → c = 0) (hAZ : ∀ a, A = some a → Z a.block) (hA : LAt W W.heap.size A .string L) (hlen : m ≤ 1000) (hp : r.pend.length ≤ 800000) (hleft : r.left ≤ 9223372036854775807) (hg : Good n t) :
    Calls Tryz.prog 12 #[.pointer (some ⟨k, 0, none⟩), .slice A m c] W fun e W' => (∃ s' J', AppP1 n r k t b L e s' J' ∧ Duo W0 Z W' n d s J x s' J') ∧ Turns (fun k => ¬ Z k) W W' := by
  obtain ⟨F2, hr, h2, h3⟩ := h
  refine Duo.rightOf (AppP1 n r k t b L) h2 h3 hZ ?_
  obtain ⟨g, c', vp, F, G, v, h5, h6, h7, h8⟩ := hr
  refine (refappend_walk h5 h6 h7 hn1 A L m c hm hnc hA (fun a ha hf => (h2 _ ((h8 _).2 (.inl hf))).2 (hAZ a ha)) hlen hp hleft hg).mono ?_
  rintro e W1 ⟨rfl, ⟨g2, c2, vp2, F', G', v', hd, hj, hFG, hF, hG⟩, ht⟩
  refine ⟨⟨_, some (k, _, _), ⟨rfl, rfl, rfl⟩, fun q => F' q ∨ G' q, ⟨g2, c2, vp2, F', G', v', hd, hj, hFG, fun q => Iff.rfl⟩, fun q hq => ?_⟩, ht.mono fun q hq => (h8 q).2 hq⟩
  rcases hq with e | e
  · rcases hF q e with e | e
    · exact .inl ((h8 q).2 (.inl e))
    · exact .inr e
  · rcases hG q e with e | e
    · exact .inl ((h8 q).2 (.inr e))
    · exact .inr e
end
end Go.Proofs.YtllmciiadceinaaGreatDoor
end
section
namespace Go.Proofs.YtllmciiadceinaaGreatDoor
open Go Go.RowKit Go.Shelf Wr

section
variable {W0 W W' : World} {Z F2 : Nat → Prop} {n d x : Nat} {s s' r : DS} {J K : JO}
theorem LP.step {f : Nat} {args : Array Value} {a : Value} (h : LP W0 Z W n d s J) (hZ : ∀ k, Z k → k < W.heap.size)
    (hc : ∀ gd gv F vp, DAt W F d gd gv vp n s → Calls Tryz.prog f args W fun e W' => e = .returned a ∧ (∃ F' vp', DAt W' F' d gd gv vp' n s' ∧ ∀ k, F' k → F k ∨ W.heap.size ≤ k) ∧ Turns F W W') :
    Calls Tryz.prog f args W fun e W' => e = .returned a ∧ LP W0 Z W' n d s' J ∧ Turns (fun k => ¬ Z k) W W' := by
  cases J with
  | none =>
    obtain ⟨gd, gv, F, vp, h1, h2, h3⟩ := h
    have hs := h3.size
    refine (hc gd gv F vp h1).mono ?_
    rintro e W1 ⟨rfl, ⟨F', vp', hd, hF⟩, t⟩
    refine ⟨rfl, ⟨gd, gv, F', vp', hd, fun k hk => ?_, h3.then t (fun k hk => .inr (h2 k hk).1)⟩, t.mono fun k hk => (h2 k hk).2⟩
    rcases hF k hk with q | q
    · exact h2 k q
    · exact ⟨by omega, fun hz => by have := hZ k hz; omega⟩
  | some y =>
    obtain ⟨j, t, b⟩ := y
    obtain ⟨gd, gv, F, G, vp, h1, h2, h3, h4, h5⟩ := h
    have hs := h5.size
    have hGl : ∀ k, G k → k < W.heap.size := by obtain ⟨rv, -, -, -, hl⟩ := h2; exact hl
    refine (hc gd gv F vp h1).mono ?_
    rintro e W1 ⟨rfl, ⟨F', vp', hd, hF⟩, t⟩
    refine ⟨rfl, ⟨gd, gv, F', G, vp', hd, h2.keep t (fun k hk e => h3 k e hk), fun k hk hg => ?_, fun k hk => ?_, h5.then t (fun k hk => .inr (h4 k (.inl hk)).1)⟩, t.mono fun k hk => (h4 k (.inl hk)).2⟩
    · rcases hF k hk with q | q
      · exact h3 k q hg
      · have := hGl k hg; omega
    · rcases hk with q | q
      · rcases hF k q with q | q
        · exact h4 k (.inl q)
        · exact ⟨by omega, fun hz => by have := hZ k hz; omega⟩
      · exact h4 k (.inr q)
theorem RP.step {f : Nat} {args : Array Value} {a : Value} (h : RP W F2 n x r K)
    (hc : ∀ g c F vp, RefD W F x g c vp n r → Calls Tryz.prog f args W fun e W' => e = .returned a ∧ (∃ F' g' c' vp', RefD W' F' x g' c' vp' n s' ∧ ∀ k, F' k → F k ∨ W.heap.size ≤ k) ∧ Turns F W W') :
    Calls Tryz.prog f args W fun e W' => e = .returned a ∧ (∃ F', RP W' F' n x s' K ∧ ∀ q, F' q → F2 q ∨ W.heap.size ≤ q) ∧ Turns F2 W W' := by
  cases K with
  | none =>
    obtain ⟨g, c, vp, h1⟩ := h
    refine (hc g c F2 vp h1).mono ?_
    rintro e W1 ⟨rfl, ⟨F', g', c', vp', hd, hF⟩, t⟩
    exact ⟨rfl, ⟨F', ⟨g', c', vp', hd⟩, hF⟩, t⟩
  | some y =>
    obtain ⟨k, t, b⟩ := y
    obtain ⟨g, c, vp, F, G, v, h1, h2, h3, h4⟩ := h
    refine (hc g c F vp h1).mono ?_
    rintro e W1 ⟨rfl, ⟨F', g', c', vp', hd, hF⟩, t⟩
    refine ⟨rfl, ⟨fun q => F' q ∨ G q, ⟨g', c', vp', F', G, v, hd, h2.keep t (fun q hq e => h3 q e hq), fun q hq hg => ?_, fun q => Iff.rfl⟩, fun q hq => ?_⟩, t.mono fun q hq => (h4 q).2 (.inl hq)⟩
    · rcases hF q hq with e | e
      · exact h3 q e hg
      · have := h2.lf q hg; omega
    · rcases hq with e | e
      · rcases hF q e with e | e
        · exact .inl ((h4 q).2 (.inl e))
        · exact .inr e
      · exact .inl ((h4 q).2 (.inr e))
/-- Calls that touch one disk alone. -/
theorem Duo.opL {f : Nat} {args : Array Value} {a : Value} (h : Duo W0 Z W n d s J x r K) (hZ : ∀ k, Z k → k < W.heap.size)
    (hc : ∀ gd gv F vp, DAt W F d gd gv vp n s → Calls Tryz.prog f args W fun e W' => e = .returned a ∧ (∃ F' vp', DAt W' F' d gd gv vp' n s' ∧ ∀ k, F' k → F k ∨ W.heap.size ≤ k) ∧ Turns F W W') :
    Calls Tryz.prog f args W fun e W' => e = .returned a ∧ Duo W0 Z W' n d s' J x r K ∧ Turns (fun k => ¬ Z k) W W' := by
  refine (h.left (fun e s2 J2 => e = .returned a ∧ s2 = s' ∧ J2 = J) hZ fun Z' hZ' hl => (hl.step hZ' hc).mono ?_).mono ?_
  · rintro e W1 ⟨rfl, h1, ht⟩
    exact ⟨⟨_, _, ⟨rfl, rfl, rfl⟩, h1⟩, ht⟩
  · rintro e W1 ⟨⟨s2, J2, ⟨rfl, rfl, rfl⟩, h1⟩, ht⟩
    exact ⟨rfl, h1, ht⟩
theorem Duo.opR {f : Nat} {args : Array Value} {a : Value} (h : Duo W0 Z W n d s J x r K) (hZ : ∀ k, Z k → k < W.heap.size)
    (hc : ∀ g c F vp, RefD W F x g c vp n r → Calls Tryz.prog f args W fun e W' => e = .returned a ∧ (∃ F' g' c' vp', RefD W' F' x g' c' vp' n s' ∧ ∀ k, F' k → F k ∨ W.heap.size ≤ k) ∧ Turns F W W') :
    Calls Tryz.prog f args W fun e W' => e = .returned a ∧ Duo W0 Z W' n d s J x s' K ∧ Turns (fun k => ¬ Z k) W W' := by
  refine (h.right (fun e s2 K2 => e = .returned a ∧ s2 = s' ∧ K2 = K) hZ fun F2 hr => (hr.step hc).mono ?_).mono ?_
  · rintro e W1 ⟨rfl, h1, ht⟩
    exact ⟨⟨_, _, ⟨rfl, rfl, rfl⟩, h1⟩, ht⟩
  · rintro e W1 ⟨⟨s2, J2, ⟨rfl, rfl, rfl⟩, h1⟩, ht⟩
    exact ⟨rfl, h1, ht⟩
theorem Duo.cutL (h : Duo W0 Z W n d s J x r K) (hZ : ∀ k, Z k → k < W.heap.size) (k : Int) :
    Calls Tryz.prog 29 #[.pointer (some ⟨d, 0, none⟩), .int .i64 k] W fun e W' => e = .returned (.int .i64 (s.cutE k)) ∧ Duo W0 Z W' n d (s.cut k) J x r K ∧ Turns (fun k => ¬ Z k) W W' :=
  h.opL hZ fun _ _ F vp h1 => (cut_walk h1 k).mono fun _ _ q => ⟨q.1, ⟨F, vp, q.2.1, fun _ hk => .inl hk⟩, q.2.2⟩
theorem Duo.cutR (h : Duo W0 Z W n d s J x r K) (hZ : ∀ k, Z k → k < W.heap.size) (k : Int) :
    Calls Tryz.prog 66 #[.pointer (some ⟨x, 0, none⟩), .int .i64 k] W fun e W' => e = .returned (.int .i64 (r.cutE k)) ∧ Duo W0 Z W' n d s J x (r.cut k) K ∧ Turns (fun k => ¬ Z k) W W' :=
  h.opR hZ fun g c F vp h1 => (refcutD_walk h1 k).mono fun _ _ q => ⟨q.1, ⟨F, g, c, vp, q.2.1, fun _ hk => .inl hk⟩, q.2.2⟩
theorem Duo.writeL (h : Duo W0 Z W n d s J x r K) (hZ : ∀ k, Z k → k < W.heap.size) (off : Int) (y : ByteArray) (hy : y.size ≤ 4194304) (hp : s.pend.length ≤ 1000000) (hl : s.left ≤ 9223372036854775807) :
    Calls Tryz.prog 13 #[.pointer (some ⟨d, 0, none⟩), .int .i64 off, .string y] W fun e W' => e = .returned (.int .i64 (s.writeE off y)) ∧ Duo W0 Z W' n d (s.wr off y) J x r K ∧ Turns (fun k => ¬ Z k) W W' :=
  h.opL hZ fun _ _ _ _ h1 => write_all h1 off y hy hp hl
theorem Duo.writeR (h : Duo W0 Z W n d s J x r K) (hZ : ∀ k, Z k → k < W.heap.size) (off : Int) (y : ByteArray) (hy : y.size ≤ 4194304) (hp : r.pend.length ≤ 1000000) (hl : r.left ≤ 9223372036854775807) :
    Calls Tryz.prog 16 #[.pointer (some ⟨x, 0, none⟩), .int .i64 off, .string y] W fun e W' => e = .returned (.int .i64 (r.writeE off y)) ∧ Duo W0 Z W' n d s J x (r.wr off y) K ∧ Turns (fun k => ¬ Z k) W W' :=
  h.opR hZ fun g c F vp h1 => (refwriteD_walk h1 off y hy hp hl).mono fun e W1 q => by
    obtain ⟨q1, ⟨F', vp', q2, q3⟩, q4⟩ := q
    exact ⟨q1, ⟨F', g, c, vp', q2, q3⟩, q4⟩
theorem Duo.crashL (h : Duo W0 Z W n d s J x r K) (hZ : ∀ k, Z k → k < W.heap.size) (A : Option Addr) (keep : List Int) (kn cap : Nat) (hkn : keep.length = kn) (hk : kn ≤ 1000000) (hA : LAt W W.heap.size A iv keep) (torn : Int) (hp : s.pend.length ≤ 1000000) :
    Calls Tryz.prog 30 #[.pointer (some ⟨d, 0, none⟩), .slice A kn cap, .int .i64 torn] W fun e W' => e = .returned (.int .i64 0) ∧ Duo W0 Z W' n d (s.crash keep torn) J x r K ∧ Turns (fun k => ¬ Z k) W W' :=
  h.opL hZ fun gd gv F vp h1 => (crash_walk h1 A keep kn cap hkn hk hA torn hp).mono fun e W1 q => by
    obtain ⟨q1, ⟨vp', q2⟩, q3⟩ := q
    exact ⟨q1, ⟨F, vp', q2, fun k hk => .inl hk⟩, q3⟩
theorem Duo.crashR (h : Duo W0 Z W n d s J x r K) (hZ : ∀ k, Z k → k < W.heap.size) (A : Option Addr) (keep : List Int) (kn cap : Nat) (hkn : keep.length = kn) (hk : kn ≤ 1000000) (hA : LAt W W.heap.size A iv keep) (torn : Int) (hp : r.pend.length ≤ 1000000) :
    Calls Tryz.prog 67 #[.pointer (some ⟨x, 0, none⟩), .slice A kn cap, .int .i64 torn] W fun e W' => e = .returned (.tuple #[]) ∧ Duo W0 Z W' n d s J x (r.crash keep torn) K ∧ Turns (fun k => ¬ Z k) W W' :=
  h.opR hZ fun g c F vp h1 => (refcrashD_walk h1 A keep kn cap hkn hk hA torn hp).mono fun e W1 q => by
    obtain ⟨q1, ⟨vp', q2⟩, q3⟩ := q
    exact ⟨q1, ⟨F, g, c, vp', q2, fun k hk => .inl hk⟩, q3⟩
theorem Duo.dl (h : Duo W0 Z W n d s J x r K) : ∃ Z', DL W0 Z' W n d s := by
  obtain ⟨F2, -, -, h3⟩ := h
  exact ⟨_, h3.dl⟩
theorem Duo.rd (h : Duo W0 Z W n d s J x r K) : ∃ g c vp F, RefD W F x g c vp n r := by
  obtain ⟨F2, h1, -, -⟩ := h
  obtain ⟨g, c, vp, F, h2, -⟩ := h1.rd
  exact ⟨g, c, vp, F, h2⟩
theorem Duo.reserve (h : Duo W0 Z W n d s J x r K) (hb : Below W.heap.size W W') : Duo W0 (fun q => Z q ∨ (W.heap.size ≤ q ∧ q < W'.heap.size)) W' n d s J x r K :=
  ((h.mono (Z' := fun q => Z q ∨ W.heap.size ≤ q) (fun k hk hl => by rcases hk with e | e; exact e; omega)).quiet (Turns.of_below hb)).mono fun k hk _ => by
    rcases hk with e | e
    · exact .inl e
    · exact .inr e.1
theorem Duo.vlen (h : Duo W0 Z W n d s J x r K) : s.vis.length = n := by
  obtain ⟨Z', h1⟩ := h.dl
  exact size_D h1
end

/-- The law's world at block w. -/
def WoAt (W : World) (w d x : Nat) (u v : Value) : Prop := W.heap[w]? = some (.cells #[.pointer (some ⟨d, 0, none⟩), u, .pointer (some ⟨x, 0, none⟩), v] 32 (0, 0))
abbrev WO := Option (Nat × Nat × TS × Bool)
def WO.l : WO → JO
  | none => none
  | some (j, _, t, b) => some (j, t, b)
def WO.r : WO → JO
  | none => none
  | some (_, k, t, b) => some (k, t, b)
def WO.u : WO → Value
  | none => .pointer none
  | some (j, _, _, _) => .pointer (some ⟨j, 0, none⟩)
def WO.v : WO → Value
  | none => .pointer none
  | some (_, k, _, _) => .pointer (some ⟨k, 0, none⟩)
section
variable {W0 W W' : World} {Z : Nat → Prop} {n d x w : Nat} {u v u' v' : Value} {s : DS} {o : WO}
theorem WoAt.cell (h : WoAt W w d x u v) (i : Nat) : W.cell? ⟨w, i, none⟩ = (#[.pointer (some ⟨d, 0, none⟩), u, .pointer (some ⟨x, 0, none⟩), v] : Array Value)[i]? := by
  unfold WoAt at h; simp [World.cell?, h]
theorem WoAt.free (h : WoAt W w d x u v) (i : Nat) : W.frozen? ⟨w, i, none⟩ = false := by
  unfold WoAt at h; simp [World.frozen?, h]
theorem WoAt.lt (h : WoAt W w d x u v) : w < W.heap.size := (Array.getElem?_eq_some_iff.1 h).1
theorem WoAt.turns (h : WoAt W w d x u v) {Y : Nat → Prop} (t : Turns Y W W') (hy : ¬ Y w) : WoAt W' w d x u v := (t.block w h.lt hy).trans h
theorem WoAt.put (h : WoAt W w d x u v) (u' v' : Value) : WoAt ((W.setCell ⟨w, 1, none⟩ u').setCell ⟨w, 3, none⟩ v') w d x u' v' ∧ Turns (fun k => k = w) W ((W.setCell ⟨w, 1, none⟩ u').setCell ⟨w, 3, none⟩ v') := by
  refine ⟨?_, (Turns.setCell (Z := fun k => k = w) W ⟨w, 1, none⟩ u' rfl).trans (Turns.setCell (Z := fun k => k = w) _ ⟨w, 3, none⟩ v' rfl)⟩
  unfold WoAt at h ⊢
  have e1 : (W.setCell ⟨w, 1, none⟩ u').heap[w]? = some (.cells #[.pointer (some ⟨d, 0, none⟩), u', .pointer (some ⟨x, 0, none⟩), v] 32 (0, 0)) := by
    simp only [World.setCell, Array.getElem?_modify, h]
    simp
  generalize W.setCell ⟨w, 1, none⟩ u' = w6 at e1 ⊢
  simp only [World.setCell, Array.getElem?_modify, e1]
  simp
/-- Both sides, in the same state. -/
structure Wor (W0 : World) (Z : Nat → Prop) (W : World) (n d x w : Nat) (s : DS) (o : WO) : Prop where
  duo : Duo W0 Z W n d s o.l x s o.r
  wo : WoAt W w d x o.u o.v
  zw : Z w
  zl : ∀ k, Z k → k < W.heap.size
  zb : ∀ k, Z k → W0.heap.size ≤ k
theorem Wor.quiet (h : Wor W0 Z W n d x w s o) (t : Turns (fun _ => False) W W') : Wor W0 Z W' n d x w s o :=
  ⟨h.duo.quiet t, h.wo.turns t (fun e => e), h.zw, fun k hk => Nat.lt_of_lt_of_le (h.zl k hk) t.size, h.zb⟩
def OpenO (s : DS) (o : WO) : Prop := (openE s = 0 ∧ ∃ j k t, loadW s.vis TS.zero = some t ∧ o = some (j, k, t, false)) ∨ (openE s ≠ 0 ∧ o = none)
set_option maxRecDepth 100000 in
set_option maxHeartbeats 16000000 in
theorem wopen_walk (h : Wor W0 Z W n d x w s o) (a : Addr) (hK : KAt W0) (hE : ErrAt W0 a) (hn1 : 1 ≤ n) (hp : s.pend.length ≤ 900000) (hleft : s.left ≤ 9223372036854775807) :
    Calls Tryz.prog 17 #[.pointer (some ⟨w, 0, none⟩)] W fun e W' => e = .returned (.bool true) ∧ (∃ o', OpenO s o' ∧ Wor W0 Z W' n d x w (openD s) o') ∧ Turns (fun k => Z k → k = w) W W' := by
  have c0 : W.cell? ⟨w, 0, none⟩ = some (.pointer (some ⟨d, 0, none⟩)) := h.wo.cell 0
  have HO := Lib.hid (h.duo.drop.openL h.zl a hK hE hp hleft)
  have H := Lib.hid h
  have HR := Lib.hid (fun (V : World) (J : JO) (hd : Duo W0 Z V n d (openD s) J x s none) (hz : ∀ k, Z k → k < V.heap.size) => hd.openR hz hn1 hp hleft)
  clear h hK hE hn1 hp hleft
  go_enter Tryz.func17, Tryz.ntmps17
  go_wp2_with fail
  refine HO.out.mono ?_
  rintro e W1 ⟨⟨s', J', ⟨rfl, hP⟩, hd1⟩, ht1⟩
  have hw1 := H.out.wo.turns ht1 (fun e => e H.out.zw)
  have c2 : W1.cell? ⟨w, 2, none⟩ = some (.pointer (some ⟨x, 0, none⟩)) := hw1.cell 2
  have HW1 := Lib.hid hw1
  have HT1 := Lib.hid ht1
  have HR1 := Lib.hid (HR.out W1 J' hd1 (fun k hk => Nat.lt_of_lt_of_le (H.out.zl k hk) ht1.size))
  clear hw1 ht1 hd1 HO HR c0
  have HPUT : Hid (∀ (W2 : World) (j k : Nat) (t : TS), Turns (fun k => ¬ Z k) W1 W2 → Duo W0 Z W2 n d (openD s) (some (j, t, false)) x (openD s) (some (k, t, false)) → openE s = 0 → loadW s.vis TS.zero = some t →
      (∃ o', OpenO s o' ∧ Wor W0 Z ((W2.setCell ⟨w, 1, none⟩ (.pointer (some ⟨j, 0, none⟩))).setCell ⟨w, 3, none⟩ (.pointer (some ⟨k, 0, none⟩))) n d x w (openD s) o') ∧ Turns (fun k => Z k → k = w) W ((W2.setCell ⟨w, 1, none⟩ (.pointer (some ⟨j, 0, none⟩))).setCell ⟨w, 3, none⟩ (.pointer (some ⟨k, 0, none⟩)))) := Lib.hid (fun W2 j k t ht2 hd2 he hl => by
    obtain ⟨p1, p2⟩ := (HW1.out.turns ht2 (fun e => e H.out.zw)).put (.pointer (some ⟨j, 0, none⟩)) (.pointer (some ⟨k, 0, none⟩))
    refine ⟨⟨some (j, k, t, false), .inl ⟨he, j, k, t, hl, rfl⟩, hd2.keep (p2.mono fun q e => by rw [e]; exact H.out.zw) H.out.zb, p1, H.out.zw, fun q hq => Nat.lt_of_lt_of_le (H.out.zl q hq) (Nat.le_trans HT1.out.size (Nat.le_trans ht2.size p2.size)), H.out.zb⟩, ?_⟩
    · exact ((HT1.out.mono fun q e z => (e z).elim).trans (ht2.mono fun q e z => (e z).elim)).trans (p2.mono fun q e _ => e))
  have HPUT0 : Hid (∀ (W2 : World), Turns (fun k => ¬ Z k) W1 W2 → Duo W0 Z W2 n d (openD s) none x (openD s) none → openE s ≠ 0 →
      (∃ o', OpenO s o' ∧ Wor W0 Z ((W2.setCell ⟨w, 1, none⟩ (.pointer none)).setCell ⟨w, 3, none⟩ (.pointer none)) n d x w (openD s) o') ∧ Turns (fun k => Z k → k = w) W ((W2.setCell ⟨w, 1, none⟩ (.pointer none)).setCell ⟨w, 3, none⟩ (.pointer none))) := Lib.hid (fun W2 ht2 hd2 he => by
    obtain ⟨p1, p2⟩ := (HW1.out.turns ht2 (fun e => e H.out.zw)).put (.pointer none) (.pointer none)
    refine ⟨⟨none, .inr ⟨he, rfl⟩, hd2.keep (p2.mono fun q e => by rw [e]; exact H.out.zw) H.out.zb, p1, H.out.zw, fun q hq => Nat.lt_of_lt_of_le (H.out.zl q hq) (Nat.le_trans HT1.out.size (Nat.le_trans ht2.size p2.size)), H.out.zb⟩, ?_⟩
    exact ((HT1.out.mono fun q e z => (e z).elim).trans (ht2.mono fun q e z => (e z).elim)).trans (p2.mono fun q e _ => e))
  rcases hP with ⟨he, j, t, rfl, hl, rfl⟩ | ⟨he, rfl, rfl⟩
  · have HX := Lib.hid (And.intro he hl)
    clear he hl HPUT0
    go_wp2_with fail
    refine HR1.out.mono ?_
    rintro e W2 ⟨⟨s2, K', ⟨rfl, hP2⟩, hd2⟩, ht2⟩
    rcases hP2 with ⟨-, k, t2, rfl, hl2, rfl⟩ | ⟨he2, -, -⟩
    case inr => exact absurd HX.out.1 he2
    have ht2e : t2 = t := by have := HX.out.2; rw [hl2] at this; exact Option.some.inj this
    subst ht2e
    have hw2 := HW1.out.turns ht2 (fun e => e H.out.zw)
    have b1 : W2.cell? ⟨w, 1, none⟩ = some o.u := hw2.cell 1
    have b3 : W2.cell? ⟨w, 3, none⟩ = some o.v := hw2.cell 3
    have f1 := hw2.free 1
    have f3 := hw2.free 3
    have HF := Lib.hid (HPUT.out W2 j k t2 ht2 hd2 HX.out.1 HX.out.2)
    clear HPUT hw2 ht2 hd2 hl2 HR1 c2 HX
    go_wp2_with fail
    go_ret
    exact ⟨rfl, HF.out⟩
  · obtain ⟨E, hE⟩ : ∃ E, openE s = E := ⟨_, rfl⟩
    have HX := Lib.hid he
    rw [hE] at he
    have d1 : (E == 0) = false := by simpa using he
    have d2 : (E != 0) = true := by simpa using he
    have HE := Lib.hid hE
    rw [hE]
    clear he HPUT hE
    go_wp2_with fail
    refine HR1.out.mono ?_
    rintro e W2 ⟨⟨s2, K', ⟨rfl, hP2⟩, hd2⟩, ht2⟩
    rcases hP2 with ⟨he2, -⟩ | ⟨-, rfl, rfl⟩
    case inl => exact absurd he2 HX.out
    rw [HE.out]
    have hw2 := HW1.out.turns ht2 (fun e => e H.out.zw)
    have b1 : W2.cell? ⟨w, 1, none⟩ = some o.u := hw2.cell 1
    have b3 : W2.cell? ⟨w, 3, none⟩ = some o.v := hw2.cell 3
    have f1 := hw2.free 1
    have f3 := hw2.free 3
    have HF := Lib.hid (HPUT0.out W2 ht2 hd2 HX.out)
    clear HPUT0 hw2 ht2 hd2 HR1 c2 HX
    go_wp2_with fail
    go_ret
    exact ⟨rfl, HF.out⟩
end
end Go.Proofs.YtllmciiadceinaaGreatDoor
end
section
namespace Go.Proofs.YtllmciiadceinaaGreatDoor
open Go Go.RowKit Go.Shelf Go.ChangeShapes Go.WideShapes Go.Deep Wr

set_option maxRecDepth 100000 in
set_option maxHeartbeats 16000000 in
theorem begin_walk {W0 W : World} (h0 : Turns (fun _ => False) W0 W) (a : Addr) (hK : KAt W0) (hE : ErrAt W0 a) (N : Int) (hN1 : -9223372036854775808 ≤ N) (hN2 : N ≤ 9223372036854775807) :
    Calls Tryz.prog 9 #[.int .i64 N] W fun e W' => ∃ w d x j k, e = .returned (.tuple #[.pointer (some ⟨w, 0, none⟩), .bool true]) ∧ Wor W0 (fun q => q = w) W' (sizeN N) d x w (DS.fresh (sizeN N)) (some (j, k, TS.zero, false)) := by
  have H0 := Lib.hid h0
  have HK := Lib.hid hK
  have HE := Lib.hid hE
  have HSZ := Lib.hid (jsize_walk · N hN1 hN2)
  have hnr := sizeN_range N
  obtain ⟨n, hn⟩ : ∃ n, sizeN N = n := ⟨_, rfl⟩
  rw [hn] at HSZ hnr ⊢
  clear h0 hK hE hn
  go_enter Tryz.func9, Tryz.ntmps9
  go_wp2_with (first | (go_at_call 15; refine (HSZ.out _).mono ?_; rintro e w1 ⟨rfl, rfl⟩) | fail)
  refine (new_D (W0 := W0) (Z := fun _ => False) H0.out (fun k e => e.elim) n hnr.1 (by omega)).mono ?_
  rintro e W2 ⟨⟨d, rfl, h2⟩, -⟩
  have HD2 := Lib.hid h2
  clear h2
  go_wp2_with (first | (go_at_call 15; refine (HSZ.out _).mono ?_; rintro e w1 ⟨rfl, rfl⟩) | fail)
  refine (refnewD_walk n hnr.1 (by omega)).mono ?_
  rintro e W3 ⟨⟨x, g, c, F, vp, rfl, h3, hF⟩, ht3⟩
  have hs2 := HD2.out.below.size
  have hd3 : Duo W0 (fun _ => False) W3 n d (DS.fresh n) none x (DS.fresh n) none := by
    refine ⟨F, ⟨g, c, vp, h3⟩, fun q hq => ⟨by have := hF q hq; omega, fun e => e⟩, ?_⟩
    have h4 : DL W0 (fun q => W2.heap.size ≤ q) W2 n d (DS.fresh n) := HD2.out.mono (fun k hk hl => by omega)
    exact (h4.quiet ht3).mono fun k hk _ => by rcases hk with e | e; exact e.elim; exact hF k e
  have hs3 := hd3.below.size
  obtain ⟨w, hw⟩ : ∃ w, W3.heap.size = w := ⟨_, rfl⟩
  obtain ⟨W4, hW4⟩ : ∃ W4, W3.alloc (.cells #[.pointer (some ⟨d, 0, none⟩), .pointer none, .pointer (some ⟨x, 0, none⟩), .pointer none] 32) = W4 := ⟨_, rfl⟩
  have hwor : Wor W0 (fun q => q = w) W4 n d x w (DS.fresh n) none := by
    refine ⟨?_, ?_, rfl, fun k hk => ?_, fun k hk => by omega⟩
    · rw [← hW4]
      exact (hd3.mono (Z' := fun q => q = w) (fun k hk hl => by omega)).quiet (Turns.alloc W3 _)
    · rw [← hW4, ← hw]
      exact World.alloc_heap_new W3 _
    · rw [hk, ← hW4, World.size_alloc]; omega
  have HO := Lib.hid (wopen_walk hwor a HK.out HE.out hnr.1 (by rw [show (DS.fresh n).pend = [] from rfl]; decide) (by rw [show (DS.fresh n).left = 0 from rfl]; decide))
  have HA : Hid (W3.alloc (.cells #[.pointer (some ⟨d, 0, none⟩), .pointer none, .pointer (some ⟨x, 0, none⟩), .pointer none] 32) = W4) := Lib.hid hW4
  have HWE := Lib.hid hw
  clear h3 hF ht3 hd3 hwor hW4 hw HD2
  go_wp2_with fail
  rw [HA.out, HWE.out]
  refine HO.out.mono ?_
  rintro e W5 ⟨rfl, ⟨o', ho, hwo⟩, -⟩
  obtain ⟨he, hde⟩ := sane_open n
  rw [hde] at hwo
  rcases ho with ⟨-, j, k, t, hl, rfl⟩ | ⟨hn, -⟩
  case inr => exact absurd he hn
  have hlt := (fresh_clean n).load (Good.zero (n := n))
  rw [hlt] at hl
  cases hl
  have HWO := Lib.hid hwo
  clear hwo HO he hde hlt
  go_wp2_with fail
  go_ret2
  exact ⟨w, d, x, j, k, rfl, HWO.out⟩
end Go.Proofs.YtllmciiadceinaaGreatDoor
end
section
namespace Go.Proofs.YtllmciiadceinaaGreatDoor
open Go Go.RowKit Go.Shelf Go.ChangeShapes Go.WideShapes Go.Deep Wr

/-- What is known of both sides since W1. -/
def Trk (W0 : World) (Z : Nat → Prop) (W1 : World) (n d x : Nat) (s1 : DS) (J : JO) (s2 : DS) (K : JO) (V : World) : Prop := Turns (fun k => ¬ Z k) W1 V ∧ Duo W0 Z V n d s1 J x s2 K
/-- .. and of a list of strings. -/
def TrkL (W0 : World) (Z : Nat → Prop) (W1 : World) (n d x : Nat) (s1 : DS) (J : JO) (s2 : DS) (K : JO) (L : List ByteArray) (A : Option Addr) (c : Nat) (V : World) : Prop :=
  Turns (fun k => ¬ Z k) W1 V ∧ (A = none → c = 0) ∧ LAt V V.heap.size A .string L ∧ ∃ Z', Duo W0 Z' V n d s1 J x s2 K ∧ (∀ k, Z k → Z' k) ∧ (∀ k, Z' k → k < V.heap.size) ∧ ∀ a, A = some a → Z' a.block
section
variable {W0 W1 V : World} {Z : Nat → Prop} {n d x : Nat} {s1 s2 : DS} {J K : JO} {L : List ByteArray}
theorem Trk.few {yA : Option Addr} {yl : List ByteArray} {yc q : Nat} (hv : Trk W0 Z W1 n d x s1 J s2 K V) (hz : ∀ k, Z k → k < V.heap.size) (hy : yl.length ≤ 9223372036854775807) (hA : LAt W0 W0.heap.size yA .string yl) (hq : (fewS yl).length = q) :
    Calls Tryz.prog 11 #[.slice yA yl.length yc] V fun e V' => ∃ A c, e = .returned (.slice A q c) ∧ TrkL W0 Z W1 n d x s1 J s2 K (fewS yl) A c V' := by
  have hb := hv.2.below
  refine (few_walk yA yl yc hy V ((hA.below hb).more hb.size)).mono ?_
  rintro e V1 ⟨⟨v, rfl, ho⟩, hb1⟩
  obtain ⟨A, c, rfl, -, -⟩ := ho.slice
  refine ⟨A, c, by rw [hq], hv.1.trans (Turns.of_below hb1), ho.nilcap, ho.lat, _, hv.2.reserve hb1, fun k hk => .inl hk, fun k hk => ?_, fun a ha => .inr ?_⟩
  · rcases hk with e | e
    · exact Nat.lt_of_lt_of_le (hz k e) hb1.size
    · exact e.2
  · subst ha
    exact ho.lt _ rfl
theorem TrkL.appL {j : Nat} {t : TS} {b : Bool} {A : Option Addr} {c q : Nat} (hv : TrkL W0 Z W1 n d x s1 (some (j, t, b)) s2 K L A c V) (hq : L.length = q) (hlen : q ≤ 1000) (hK : KAt W0) (hp : s1.pend.length ≤ 800000) (hleft : s1.left ≤ 9223372036854775807) (hg : Good n t) :
    Calls Tryz.prog 10 #[.pointer (some ⟨j, 0, none⟩), .slice A q c] V fun e V' => e = .returned (.int .i64 (appE n s1 t b L)) ∧ Trk W0 Z W1 n d x (appD n s1 t b L) (some (j, appT n s1 t b L, appB n s1 t b L)) s2 K V' := by
  obtain ⟨h1, h2, h3, Z', h4, h5, h6, h7⟩ := hv
  refine (h4.appL h6 A L q c hq h3 hlen hK hp hleft hg).mono ?_
  rintro e V1 ⟨⟨s', J', ⟨rfl, rfl, rfl⟩, hd⟩, ht⟩
  exact ⟨rfl, h1.trans (ht.mono fun k hk e => hk (h5 k e)), hd.mono fun k hk _ => h5 k hk⟩
theorem TrkL.appR {j : Nat} {t : TS} {b : Bool} {A : Option Addr} {c q : Nat} (hv : TrkL W0 Z W1 n d x s1 J s2 (some (j, t, b)) L A c V) (hn1 : 1 ≤ n) (hq : L.length = q) (hlen : q ≤ 1000) (hp : s2.pend.length ≤ 800000) (hleft : s2.left ≤ 9223372036854775807) (hg : Good n t) :
    Calls Tryz.prog 12 #[.pointer (some ⟨j, 0, none⟩), .slice A q c] V fun e V' => e = .returned (.int .i64 (appE n s2 t b L)) ∧ Trk W0 Z W1 n d x s1 J (appD n s2 t b L) (some (j, appT n s2 t b L, appB n s2 t b L)) V' := by
  obtain ⟨h1, h2, h3, Z', h4, h5, h6, h7⟩ := hv
  refine (h4.appR h6 hn1 A L q c hq h2 h7 h3 hlen hp hleft hg).mono ?_
  rintro e V1 ⟨⟨s', J', ⟨rfl, rfl, rfl⟩, hd⟩, ht⟩
  exact ⟨rfl, h1.trans (ht.mono fun k hk e => hk (h5 k e)), hd.mono fun k hk _ => h5 k hk⟩
end
/-- The box of a call's argument. -/
def BoAt (W : World) (b : Nat) (y : OP) : Prop := W.heap[b]? = some (.cells y.cells.toArray 62 (0, 0))
theorem BoAt.cell {W : World} {b : Nat} {y : OP} (h : BoAt W b y) (i : Nat) : W.cell? ⟨b, i, none⟩ = y.cells.toArray[i]? := by
  unfold BoAt at h; simp [World.cell?, h]
theorem BoAt.lt {W : World} {b : Nat} {y : OP} (h : BoAt W b y) : b < W.heap.size := (Array.getElem?_eq_some_iff.1 h).1
theorem BoAt.turns {W W' : World} {b : Nat} {y : OP} (h : BoAt W b y) {Y : Nat → Prop} (t : Turns Y W W') (hy : ¬ Y b) : BoAt W' b y := (t.block b h.lt hy).trans h
def GoodO (n : Nat) (o : WO) : Prop := ∀ j k t b, o = some (j, k, t, b) → Good n t
theorem GoodO.open {n : Nat} {s : DS} {o : WO} (hn : s.vis.length = n) (h : OpenO s o) : GoodO n o := by
  rintro j k t b rfl
  rcases h with ⟨-, j', k', t', hl, e⟩ | ⟨-, e⟩
  · cases e; exact load_good hn hl
  · cases e
theorem crash_bnd (s : DS) (keep : List Int) (torn : Int) (m : Nat) : Bnd m (s.crash keep torn) := by
  obtain ⟨r1, r2, r3, r4⟩ := crash_rest s keep torn
  exact ⟨by rw [r3]; exact Nat.zero_le _, by rw [r2]; omega⟩

set_option maxRecDepth 100000 in
set_option maxHeartbeats 64000000 in
theorem does_walk {W0 W : World} {Z : Nat → Prop} {n d x w : Nat} {s : DS} {o : WO} (h : Wor W0 Z W n d x w s o) (a : Addr) (hK : KAt W0) (hE : ErrAt W0 a) (hn1 : 1 ≤ n) {m : Nat} (hb : Bnd m s) (hm : m ≤ 700000) (hg : GoodO n o) (y : OP) (hy : y.ok W0) :
    Calls Tryz.prog 31 #[.pointer (some ⟨w, 0, none⟩), .agg y.cells.toArray] W fun e W' => e = .returned (.bool true) ∧ (∃ s' o', Wor W0 Z W' n d x w s' o' ∧ Bnd (m + 2) s' ∧ GoodO n o') ∧ Turns (fun k => Z k → k = w) W W' := by
  obtain ⟨b, hbe⟩ : ∃ b, W.heap.size = b := ⟨_, rfl⟩
  obtain ⟨yk, yA, yl, yc, yn, yB, yp, yd⟩ := y
  unfold OP.cells
  dsimp only
  obtain ⟨cs, hcs⟩ : ∃ cs : Array Value, #[.int .i64 yk, .slice yA yl.length yc, .int .i64 yn, .slice yB yp.length yd] = cs := ⟨_, rfl⟩
  obtain ⟨W1, hW1⟩ : ∃ W1, W.alloc (.cells cs 62) = W1 := ⟨_, rfl⟩
  obtain ⟨Z1, hZ1⟩ : ∃ Z1 : Nat → Prop, Z1 = fun k => Z k ∨ k = b := ⟨_, rfl⟩
  have hbo : BoAt W1 b ⟨yk, yA, yl, yc, yn, yB, yp, yd⟩ := by rw [← hW1, ← hbe, ← hcs]; exact World.alloc_heap_new W _
  have ht1 : Turns (fun _ => False) W W1 := by rw [← hW1]; exact Turns.alloc W _
  have hd1 : Duo W0 Z1 W1 n d s o.l x s o.r := by
    rw [hZ1]
    exact (h.duo.mono (Z' := fun k => Z k ∨ k = b) (fun k e hk => by rcases e with e | e; exact e; omega)).quiet ht1
  have hzl : ∀ k, Z1 k → k < W1.heap.size := fun k hk => by
    rw [hZ1] at hk
    rcases hk with e | e
    · exact Nat.lt_of_lt_of_le (h.zl k e) ht1.size
    · rw [e]; exact hbo.lt
  have hzw : Z1 w := by rw [hZ1]; exact .inl h.zw
  have hzb : Z1 b := by rw [hZ1]; exact .inr rfl
  have HBE := Lib.hid hbe
  have HCS := Lib.hid hcs
  have HW1 := Lib.hid hW1
  have HZZ : Hid (∀ V : World, Turns (fun k => ¬ Z1 k) W1 V → ∀ k, Z1 k → k < V.heap.size) := Lib.hid (fun V hV k hk => Nat.lt_of_lt_of_le (hzl k hk) hV.size)
  obtain ⟨u, hu⟩ : ∃ u, o.u = u := ⟨_, rfl⟩
  obtain ⟨v, hv⟩ : ∃ v, o.v = v := ⟨_, rfl⟩
  have hwo : WoAt W1 w d x u v := by rw [← hu, ← hv]; exact h.wo.turns ht1 (fun e => e)
  have HU := Lib.hid (And.intro hu hv)
  have HWV : Hid (∀ V : World, Turns (fun k => ¬ Z1 k) W1 V → WoAt V w d x u v ∧ BoAt V b ⟨yk, yA, yl, yc, yn, yB, yp, yd⟩) := Lib.hid (fun V hV => ⟨hwo.turns hV (fun e => e hzw), hbo.turns hV (fun e => e hzb)⟩)
  have HFIN : Hid (∀ (V : World) (s' : DS) (o' : WO), Trk W0 Z1 W1 n d x s' o'.l s' o'.r V → o'.u = u → o'.v = v → Wor W0 Z V n d x w s' o' ∧ Turns (fun k => Z k → k = w) W V) := Lib.hid (fun V s' o' hv hu' hv' => by
    refine ⟨⟨hv.2.mono fun k hk _ => by rw [hZ1]; exact .inl hk, ?_, h.zw, fun k hk => HZZ.out V hv.1 k (by rw [hZ1]; exact .inl hk), h.zb⟩, (ht1.mono fun k e => e.elim).trans (hv.1.mono fun k hk hz => (hk (by rw [hZ1]; exact .inl hz)).elim)⟩
    rw [hu', hv']
    exact (HWV.out V hv.1).1)
  have HT1 : Hid (Trk W0 Z1 W1 n d x s o.l s o.r W1) := Lib.hid ⟨Turns.refl _ _, hd1⟩
  have HOPEN : Hid (∀ (V : World) (s' : DS) (o' : WO), Trk W0 Z1 W1 n d x s' o'.l s' o'.r V → o'.u = u → o'.v = v → Bnd (m + 1) s' → Calls Tryz.prog 17 #[.pointer (some ⟨w, 0, none⟩)] V fun e W' => e = .returned (.bool true) ∧ (∃ s' o', Wor W0 Z W' n d x w s' o' ∧ Bnd (m + 2) s' ∧ GoodO n o') ∧ Turns (fun k => Z k → k = w) W W') := Lib.hid (fun V s' o' hv hu' hv' hb' => by
    obtain ⟨f1, f2⟩ := HFIN.out V s' o' hv hu' hv'
    refine (wopen_walk f1 a hK hE hn1 (by have := hb'.1; omega) hb'.2).mono ?_
    rintro e W2 ⟨rfl, ⟨o2, g1, g2⟩, g3⟩
    exact ⟨rfl, ⟨_, o2, g2, hb'.open, GoodO.open f1.duo.vlen g1⟩, f2.trans g3⟩)
  have HB := Lib.hid hb
  have HK := Lib.hid hK
  have HG := Lib.hid hg
  have HY := Lib.hid hy
  have HN1 := Lib.hid hn1
  clear hcs hbo ht1 hd1 hzl hzw hzb hbe hW1 hZ1 hwo hu hv h hK hE hb hg hy hn1
  have HCL : Hid (∀ V : World, Turns (fun k => ¬ Z1 k) W1 V → V.cell? ⟨b, 0, none⟩ = some (.int .i64 yk) ∧ V.cell? ⟨b, 1, none⟩ = some (.slice yA yl.length yc) ∧ V.cell? ⟨b, 2, none⟩ = some (.int .i64 yn) ∧ V.cell? ⟨b, 3, none⟩ = some (.slice yB yp.length yd)) := Lib.hid (fun V hV => by
    have hb := (HWV.out V hV).2
    rw [hb.cell 0, hb.cell 1, hb.cell 2, hb.cell 3]; exact ⟨rfl, rfl, rfl, rfl⟩)
  have HWL : Hid (∀ V : World, Turns (fun k => ¬ Z1 k) W1 V → V.cell? ⟨w, 0, none⟩ = some (.pointer (some ⟨d, 0, none⟩)) ∧ V.cell? ⟨w, 1, none⟩ = some u ∧ V.cell? ⟨w, 2, none⟩ = some (.pointer (some ⟨x, 0, none⟩)) ∧ V.cell? ⟨w, 3, none⟩ = some v) := Lib.hid (fun V hV => by
    have hb := (HWV.out V hV).1
    rw [hb.cell 0, hb.cell 1, hb.cell 2, hb.cell 3]; exact ⟨rfl, rfl, rfl, rfl⟩)
  have hpr := pickZ_range yk (n := 8) (by omega)
  obtain ⟨P, hP⟩ : ∃ P, pickZ yk 8 = P := ⟨_, rfl⟩
  have HPK := Lib.hid (pick_walk (x := yk) (n := 8) · HY.out.k1 HY.out.k2 (by omega) (by omega))
  rw [hP] at HPK hpr
  have HPN := Lib.hid (pick_walk (x := yn) (n := 5) · HY.out.n1 HY.out.n2 (by omega) (by omega))
  have hqr := pickZ_range yn (n := 5) (by omega)
  obtain ⟨pq, hpq⟩ : ∃ pq : Nat, pickZ yn 5 = (pq : Int) := ⟨(pickZ yn 5).toNat, by omega⟩
  rw [hpq] at HPN hqr
  have h3 : (P == 5) = true ∨ ((P == 5) = false ∧ (P == 6) = true) ∨ ((P == 5) = false ∧ (P == 6) = false ∧ (P == 7) = true) ∨ ((P == 5) = false ∧ (P == 6) = false ∧ (P == 7) = false) := by
    by_cases q5 : P = 5
    · left; simp [q5]
    · right
      by_cases q6 : P = 6
      · left; exact ⟨by simp [q5], by simp [q6]⟩
      · right
        by_cases q7 : P = 7
        · left; exact ⟨by simp [q5], by simp [q6], by simp [q7]⟩
        · right; exact ⟨by simp [q5], by simp [q6], by simp [q7]⟩
  have k1 := HCL.out W1 (Turns.refl _ _)
  obtain ⟨k10, k11, k12, k13⟩ := k1
  obtain ⟨w10, w11, w12, w13⟩ := HWL.out W1 (Turns.refl _ _)
  clear hP hpq hpr
  go_enter Tryz.func31, Tryz.ntmps31
  go_wp2_with fail
  try rw [HBE.out]
  rw [HCS.out, HW1.out]
  refine (HPK.out W1).mono ?_
  rintro e W2 ⟨rfl, rfl⟩
  rcases h3 with e5 | ⟨e5, e6⟩ | ⟨e5, e6, e7⟩ | ⟨e5, e6, e7⟩
  · obtain ⟨E, hE⟩ : ∃ E, s.cutE (1 + (pq : Int)) = E := ⟨_, rfl⟩
    have HC1 : Hid (∀ V, Trk W0 Z1 W1 n d x s o.l s o.r V → Calls Tryz.prog 29 #[.pointer (some ⟨d, 0, none⟩), .int .i64 (1 + (pq : Int))] V fun e V' => e = .returned (.int .i64 E) ∧ Trk W0 Z1 W1 n d x (s.cut (1 + (pq : Int))) o.l s o.r V') := Lib.hid (fun V hv => by
      rw [← hE]
      exact (hv.2.cutL (HZZ.out V hv.1) _).mono fun e V' q => ⟨q.1, hv.1.trans q.2.2, q.2.1⟩)
    have HC2 : Hid (∀ V, Trk W0 Z1 W1 n d x (s.cut (1 + (pq : Int))) o.l s o.r V → Calls Tryz.prog 66 #[.pointer (some ⟨x, 0, none⟩), .int .i64 (1 + (pq : Int))] V fun e V' => e = .returned (.int .i64 E) ∧ Trk W0 Z1 W1 n d x (s.cut (1 + (pq : Int))) o.l (s.cut (1 + (pq : Int))) o.r V') := Lib.hid (fun V hv => by
      rw [← hE]
      exact (hv.2.cutR (HZZ.out V hv.1) _).mono fun e V' q => ⟨q.1, hv.1.trans q.2.2, q.2.1⟩)
    have HSS : Hid (∀ V : World, Turns (fun k => ¬ Z1 k) W1 V → V.cell? ⟨w, 0, none⟩ = some (.pointer (some ⟨d, 0, none⟩)) ∧ V.cell? ⟨w, 2, none⟩ = some (.pointer (some ⟨x, 0, none⟩)) ∧ V.cell? ⟨b, 2, none⟩ = some (.int .i64 yn)) := Lib.hid (fun V hV => ⟨(HWL.out V hV).1, (HWL.out V hV).2.2.1, (HCL.out V hV).2.2.1⟩)
    have h0 : Trk W0 Z1 W1 n d x s o.l s o.r W1.drew := ⟨Turns.drew _, HT1.out.2.quiet (Turns.drew _)⟩
    have hs0 := HSS.out _ h0.1
    have wr1 : IntKind.i64.wrap (1 + (pq : Int)) = 1 + (pq : Int) := by rw [IntKind.wrap_i64]; omega
    clear hE
    go_wp2_with fail
    go_region_held3 (fun w' => w'.cell? ⟨w, 0, none⟩ = some (.pointer (some ⟨d, 0, none⟩)) ∧ w'.cell? ⟨w, 2, none⟩ = some (.pointer (some ⟨x, 0, none⟩)) ∧ w'.cell? ⟨b, 2, none⟩ = some (.int .i64 yn)) (first | assumption | fail)
      (first
        | (go_at_call 14; with_reducible refine (HPN.out _).mono ?_; rintro e w2 ⟨rfl, rfl⟩)
        | (go_at_call 29; refine (HC1.out _ h0).mono ?_; rintro e V1 ⟨rfl, hv1⟩; have hs1 := HSS.out _ hv1.1)
        | (go_at_call 66; refine (HC2.out _ hv1).mono ?_; rintro e V2 ⟨rfl, hv2⟩; have hs2 := HSS.out _ hv2.1)
        | fail)
    have HV2 := Lib.hid hv2
    clear hv2 hs2 hv1 hs1 h0 hs0 HC1 HC2 HSS
    go_wp2_with fail
    go_ret
    obtain ⟨f1, f2⟩ := HFIN.out _ _ o HV2.out HU.out.1 HU.out.2
    exact ⟨by simp, ⟨_, o, f1, (HB.out.cut _ (by omega)).more (by omega), HG.out⟩, f2⟩
  · obtain ⟨kn, hkn⟩ : ∃ kn : Nat, min (yp.length : Int) 20 = (kn : Int) := ⟨min yp.length 20, by omega⟩
    have hkn2 : (yp.take kn).length = kn ∧ kn ≤ 20 := ⟨by rw [List.length_take]; omega, by omega⟩
    have y3 : (0 : Int) ≤ (kn : Int) := by omega
    have y4 : (kn : Int) ≤ (yd : Int) := by have := HY.out.kcap; dsimp only at this; omega
    have hbp := HB.out.1
    have hlat : ∀ V, Below W0.heap.size W0 V → LAt V V.heap.size yB iv (yp.take kn) := fun V hV => ((HY.out.klat.below hV).more hV.size).take kn
    have HC1 : Hid (∀ V, Trk W0 Z1 W1 n d x s o.l s o.r V → Calls Tryz.prog 30 #[.pointer (some ⟨d, 0, none⟩), .slice yB kn yd, .int .i64 yn] V fun e V' => e = .returned (.int .i64 0) ∧ Trk W0 Z1 W1 n d x (s.crash (yp.take kn) yn) o.l s o.r V') := Lib.hid (fun V hv =>
      (hv.2.crashL (HZZ.out V hv.1) yB (yp.take kn) kn yd hkn2.1 (by omega) (hlat V hv.2.below) yn (by omega)).mono fun e V' q => ⟨q.1, hv.1.trans q.2.2, q.2.1⟩)
    have HC2 : Hid (∀ V, Trk W0 Z1 W1 n d x (s.crash (yp.take kn) yn) o.l s o.r V → Calls Tryz.prog 67 #[.pointer (some ⟨x, 0, none⟩), .slice yB kn yd, .int .i64 yn] V fun e V' => e = .returned (.tuple #[]) ∧ Trk W0 Z1 W1 n d x (s.crash (yp.take kn) yn) o.l (s.crash (yp.take kn) yn) o.r V') := Lib.hid (fun V hv =>
      (hv.2.crashR (HZZ.out V hv.1) yB (yp.take kn) kn yd hkn2.1 (by omega) (hlat V hv.2.below) yn (by omega)).mono fun e V' q => ⟨q.1, hv.1.trans q.2.2, q.2.1⟩)
    have HSS : Hid (∀ V : World, Turns (fun k => ¬ Z1 k) W1 V → V.cell? ⟨w, 0, none⟩ = some (.pointer (some ⟨d, 0, none⟩)) ∧ V.cell? ⟨b, 2, none⟩ = some (.int .i64 yn)) := Lib.hid (fun V hV => ⟨(HWL.out V hV).1, (HCL.out V hV).2.2.1⟩)
    have HSR : Hid (∀ V : World, Turns (fun k => ¬ Z1 k) W1 V → V.cell? ⟨w, 2, none⟩ = some (.pointer (some ⟨x, 0, none⟩)) ∧ V.cell? ⟨b, 2, none⟩ = some (.int .i64 yn)) := Lib.hid (fun V hV => ⟨(HWL.out V hV).2.2.1, (HCL.out V hV).2.2.1⟩)
    have h0 : Trk W0 Z1 W1 n d x s o.l s o.r W1.drew := ⟨Turns.drew _, HT1.out.2.quiet (Turns.drew _)⟩
    have hs0 := HSS.out _ h0.1
    clear hlat hkn2 hbp
    go_wp2_with fail
    go_region_held3 (fun w' => w'.cell? ⟨w, 0, none⟩ = some (.pointer (some ⟨d, 0, none⟩)) ∧ w'.cell? ⟨b, 2, none⟩ = some (.int .i64 yn)) (first | assumption | fail)
      (first | (go_at_call 30; refine (HC1.out _ h0).mono ?_; rintro e V1 ⟨rfl, hv1⟩; have hs1 := HSS.out _ hv1.1) | fail)
    have h1 : Trk W0 Z1 W1 n d x (s.crash (yp.take kn) yn) o.l s o.r V1.drew := ⟨hv1.1.trans (Turns.drew _), hv1.2.quiet (Turns.drew _)⟩
    have hr0 := HSR.out _ h1.1
    clear h0 hs0 hv1 hs1 HC1 HSS
    go_wp2_with fail
    go_region_held3 (fun w' => w'.cell? ⟨w, 2, none⟩ = some (.pointer (some ⟨x, 0, none⟩)) ∧ w'.cell? ⟨b, 2, none⟩ = some (.int .i64 yn)) (first | assumption | fail)
      (first | (go_at_call 67; refine (HC2.out _ h1).mono ?_; rintro e V2 ⟨rfl, hv2⟩; have hr1 := HSR.out _ hv2.1) | fail)
    have HV2 := Lib.hid hv2
    clear h1 hr0 hv2 hr1 HC2 HSR
    go_wp2_with fail
    refine (HOPEN.out _ _ o HV2.out HU.out.1 HU.out.2 (crash_bnd _ _ _ _)).mono ?_
    rintro e W3 ⟨rfl, hr⟩
    have HR := Lib.hid hr
    clear hr
    go_wp2_with fail
    go_ret
    exact ⟨rfl, HR.out⟩
  · go_wp2_with fail
    refine (HOPEN.out W1 s o HT1.out HU.out.1 HU.out.2 (HB.out.more (by omega))).mono ?_
    rintro e W3 ⟨rfl, hr⟩
    have HR := Lib.hid hr
    clear hr
    go_wp2_with fail
    go_ret
    exact ⟨rfl, HR.out⟩
  · have hyl : yl.length ≤ 9223372036854775807 := by have h1 := HY.out.lcap; have h2 := HY.out.lmax; dsimp only at h1 h2; omega
    have hfl := fewS_length yl
    have HFW : ∀ (s1 s2 : DS) (J K : JO) (L : List ByteArray) (q : Nat), fewS yl = L → L.length = q → ∀ V, Trk W0 Z1 W1 n d x s1 J s2 K V → Calls Tryz.prog 11 #[.slice yA yl.length yc] V fun e V' => ∃ A c, e = .returned (.slice A q c) ∧ TrkL W0 Z1 W1 n d x s1 J s2 K L A c V' := fun s1 s2 J K L q h1 h2 V hv => by
      subst h1
      exact hv.few (HZZ.out V hv.1) hyl HY.out.llat h2
    obtain ⟨L, hL⟩ : ∃ L, fewS yl = L := ⟨_, rfl⟩
    obtain ⟨q, hq⟩ : ∃ q, L.length = q := ⟨_, rfl⟩
    rw [hL, hq] at hfl
    have h0 : Trk W0 Z1 W1 n d x s o.l s o.r W1.drew := ⟨Turns.drew _, HT1.out.2.quiet (Turns.drew _)⟩
    rcases o with _ | ⟨j, k, t, bb⟩
    · obtain rfl : Value.pointer none = u := HU.out.1
      have HF1 := Lib.hid (HFW s s none none L q hL hq)
      have HSS : Hid (∀ V : World, Turns (fun k => ¬ Z1 k) W1 V → V.cell? ⟨w, 1, none⟩ = some (.pointer none) ∧ V.cell? ⟨b, 1, none⟩ = some (.slice yA yl.length yc)) := Lib.hid (fun V hV => ⟨(HWL.out V hV).2.1, (HCL.out V hV).2.1⟩)
      have hs0 := HSS.out _ h0.1
      clear HFW hL hyl
      go_wp2_with fail
      go_region_held3 (fun w' => w'.cell? ⟨w, 1, none⟩ = some (.pointer none) ∧ w'.cell? ⟨b, 1, none⟩ = some (.slice yA yl.length yc)) (first | assumption | fail)
        (first
          | (go_at_call 11; refine (HF1.out _ h0).mono ?_; rintro e V1 ⟨A1, c1, rfl, hv1⟩; have hs1 := HSS.out _ hv1.1)
          | (go_at_call 10; refine (appendnil_walk _ _ _ _).mono ?_; rintro e V2 ⟨rfl, rfl⟩)
          | fail)
      have HV1 := Lib.hid hv1
      clear hs0 hs1 hv1 HF1 h0 HSS
      go_wp2_with fail
      go_ret
      obtain ⟨v1, v2, v3, Z', v4, v5, v6, v7⟩ := HV1.out
      obtain ⟨f1, f2⟩ := HFIN.out _ s none ⟨v1, v4.mono fun k hk _ => v5 k hk⟩ rfl HU.out.2
      exact ⟨rfl, ⟨s, none, f1, HB.out.more (by omega), HG.out⟩, f2⟩
    · obtain rfl : Value.pointer (some ⟨j, 0, none⟩) = u := HU.out.1
      obtain rfl : Value.pointer (some ⟨k, 0, none⟩) = v := HU.out.2
      have hgd := HG.out j k t bb rfl
      have hbp := HB.out.1
      obtain ⟨E, hE⟩ : ∃ E, appE n s t bb L = E := ⟨_, rfl⟩
      obtain ⟨s9, hs9⟩ : ∃ s9, appD n s t bb L = s9 := ⟨_, rfl⟩
      obtain ⟨t9, ht9⟩ : ∃ t9, appT n s t bb L = t9 := ⟨_, rfl⟩
      obtain ⟨b9, hb9⟩ : ∃ b9, appB n s t bb L = b9 := ⟨_, rfl⟩
      have HF1 := Lib.hid (HFW s s (some (j, t, bb)) (some (k, t, bb)) L q hL hq)
      have HF2 := Lib.hid (HFW s9 s (some (j, t9, b9)) (some (k, t, bb)) L q hL hq)
      have HA1 : Hid (∀ V A c, TrkL W0 Z1 W1 n d x s (some (j, t, bb)) s (some (k, t, bb)) L A c V → Calls Tryz.prog 10 #[.pointer (some ⟨j, 0, none⟩), .slice A q c] V fun e V' => e = .returned (.int .i64 E) ∧ Trk W0 Z1 W1 n d x s9 (some (j, t9, b9)) s (some (k, t, bb)) V') := Lib.hid (fun V A c hv => by
        have h1 := hv.appL hq (by omega) HK.out (by omega) HB.out.2 hgd
        rw [hE, hs9, ht9, hb9] at h1
        exact h1)
      have HA2 : Hid (∀ V A c, TrkL W0 Z1 W1 n d x s9 (some (j, t9, b9)) s (some (k, t, bb)) L A c V → Calls Tryz.prog 12 #[.pointer (some ⟨k, 0, none⟩), .slice A q c] V fun e V' => e = .returned (.int .i64 E) ∧ Trk W0 Z1 W1 n d x s9 (some (j, t9, b9)) s9 (some (k, t9, b9)) V') := Lib.hid (fun V A c hv => by
        have h1 := hv.appR HN1.out hq (by omega) (by omega) HB.out.2 hgd
        rw [hE, hs9, ht9, hb9] at h1
        exact h1)
      have HB9 : Hid (Bnd (m + 2) s9 ∧ Good n t9) := Lib.hid (by rw [← hs9, ← ht9]; exact ⟨HB.out.app n t bb L, app_good hgd⟩)
      have HSS : Hid (∀ V : World, Turns (fun k => ¬ Z1 k) W1 V → V.cell? ⟨w, 1, none⟩ = some (.pointer (some ⟨j, 0, none⟩)) ∧ V.cell? ⟨w, 3, none⟩ = some (.pointer (some ⟨k, 0, none⟩)) ∧ V.cell? ⟨b, 1, none⟩ = some (.slice yA yl.length yc)) := Lib.hid (fun V hV => ⟨(HWL.out V hV).2.1, (HWL.out V hV).2.2.2, (HCL.out V hV).2.1⟩)
      have hs0 := HSS.out _ h0.1
      clear HFW hL hyl hE hs9 ht9 hb9 hgd hbp hq
      go_wp2_with fail
      go_region_held3 (fun w' => w'.cell? ⟨w, 1, none⟩ = some (.pointer (some ⟨j, 0, none⟩)) ∧ w'.cell? ⟨w, 3, none⟩ = some (.pointer (some ⟨k, 0, none⟩)) ∧ w'.cell? ⟨b, 1, none⟩ = some (.slice yA yl.length yc)) (first | assumption | fail)
        (first
          | (go_at_call 11; refine (HF1.out _ h0).mono ?_; rintro e V1 ⟨A1, c1, rfl, hv1⟩; have hs1 := HSS.out _ hv1.1)
          | (go_at_call 10; refine (HA1.out _ _ _ hv1).mono ?_; rintro e V2 ⟨rfl, hv2⟩; have hs2 := HSS.out _ hv2.1)
          | (go_at_call 11; refine (HF2.out _ hv2).mono ?_; rintro e V3 ⟨A3, c3, rfl, hv3⟩; have hs3 := HSS.out _ hv3.1)
          | (go_at_call 12; refine (HA2.out _ _ _ hv3).mono ?_; rintro e V4 ⟨rfl, hv4⟩; have hs4 := HSS.out _ hv4.1)
          | fail)
      have HV4 := Lib.hid hv4
      clear hs0 hs1 hs2 hs3 hs4 hv1 hv2 hv3 hv4 HF1 HF2 HA1 HA2 h0 HSS
      go_wp2_with fail
      go_ret
      obtain ⟨f1, f2⟩ := HFIN.out _ s9 (some (j, k, t9, b9)) HV4.out rfl rfl
      exact ⟨by simp, ⟨s9, some (j, k, t9, b9), f1, HB9.out.1, fun j' k' t' b' e => by cases e; exact HB9.out.2⟩, f2⟩
end Go.Proofs.YtllmciiadceinaaGreatDoor
end
section
namespace Go.Proofs.YtllmciiadceinaaGreatDoor
open Go Go.RowKit Go.Shelf Go.ChangeShapes Go.WideShapes Go.Deep Wr

section
variable {W0 W V : World} {Z : Nat → Prop} {n d x w : Nat} {s : DS} {o : WO}
theorem Wor.pending (h : Wor W0 Z W n d x w s o) (u : Turns (fun _ => False) W V) :
    Calls Tryz.prog 32 #[.pointer (some ⟨d, 0, none⟩)] V fun e V' => e = .returned (.int .i64 s.pend.length) ∧ V = V' := by
  obtain ⟨Z', h1⟩ := (h.quiet u).duo.dl
  exact pending_D h1
theorem Wor.content (h : Wor W0 Z W n d x w s o) (u : Turns (fun _ => False) W V) :
    Calls Tryz.prog 22 #[.pointer (some ⟨d, 0, none⟩)] V fun e V' => e = .returned (.string (s.read 0 n).1) ∧ V = V' := by
  obtain ⟨Z', h1⟩ := (h.quiet u).duo.dl
  exact content_D h1
theorem Wor.visible (h : Wor W0 Z W n d x w s o) (u : Turns (fun _ => False) W V) (hn1 : 1 ≤ n) (hp : s.pend.length ≤ 1000000) :
    Calls Tryz.prog 23 #[.pointer (some ⟨x, 0, none⟩)] V fun e V' => ∃ q cq, e = .returned (.slice (some ⟨q, 0, none⟩) n cq) ∧ (Go.convert 39 9 (.slice (some ⟨q, 0, none⟩) n cq)).run Tryz.prog V' = .ok (.string ⟨s.vis.toArray⟩) V' ∧ Turns (fun _ => False) V V' := by
  have hv := h.duo.vlen
  obtain ⟨g, c, vp, F, h1⟩ := (h.quiet u).duo.rd
  refine (visible_walk h1 hn1 hp).mono ?_
  rintro e V1 ⟨q, cq, rfl, hr, -, -, hb⟩
  have hc := hr.convert (P := Tryz.prog) (cap := cq) (n := n) hv 39 9 5 Tryz.underlying39 Tryz.underlying5 Tryz.underlying9
  exact ⟨q, cq, rfl, hc, Turns.of_below hb⟩
theorem Wor.log (h : Wor W0 Z W n d x w s o) : ∃ LA lc, ∀ V, Turns (fun _ => False) W V → V.cell? ⟨x, 1, none⟩ = some (.slice LA s.pend.length lc) ∧ V.cell? ⟨x, 2, none⟩ = some (.bool s.off) := by
  obtain ⟨g, c, vp, F, h1⟩ := h.duo.rd
  obtain ⟨A, cc, rfl, -, -⟩ := h1.pp.slice
  refine ⟨A, cc, fun V u => ?_⟩
  have h2 := h1.keep u (fun _ _ e => e)
  exact ⟨h2.cell 1, h2.cell 2⟩
theorem Wor.cells (h : Wor W0 Z W n d x w s o) (u : Turns (fun _ => False) W V) : V.cell? ⟨w, 0, none⟩ = some (.pointer (some ⟨d, 0, none⟩)) ∧ V.cell? ⟨w, 1, none⟩ = some o.u ∧ V.cell? ⟨w, 2, none⟩ = some (.pointer (some ⟨x, 0, none⟩)) ∧ V.cell? ⟨w, 3, none⟩ = some o.v := by
  have h1 := (h.quiet u).wo
  exact ⟨h1.cell 0, h1.cell 1, h1.cell 2, h1.cell 3⟩
variable {j k : Nat} {t : TS} {b : Bool}
theorem Wor.both (h : Wor W0 Z W n d x w s (some (j, k, t, b))) : ∃ Z', JL W0 Z' W n d s j t b ∧ ∃ g c vp F G v, RefD W F x g c vp n s ∧ RJAt W G k x v t b := by
  obtain ⟨F2, h1, -, h3⟩ := h.duo
  obtain ⟨g, c, vp, F, G, v, h4, h5, -, -⟩ := h1
  exact ⟨_, h3, g, c, vp, F, G, v, h4, h5⟩
theorem Wor.records (h : Wor W0 Z W n d x w s (some (j, k, t, b))) (u : Turns (fun _ => False) W V) (hl : t.recs.length ≤ 1000000) :
    Calls Tryz.prog 19 #[.pointer (some ⟨j, 0, none⟩)] V fun e V' => ∃ A c, e = .returned (.slice A t.recs.length c) ∧ LAt V' V'.heap.size A .string t.recs ∧ Turns (fun _ => False) V V' := by
  obtain ⟨Z', h1, -⟩ := (h.quiet u).both
  refine (records_O h1.old hl).mono ?_
  rintro e V1 ⟨⟨v', rfl, ho⟩, hb⟩
  obtain ⟨A, c, rfl, -, -⟩ := ho.slice
  exact ⟨A, c, rfl, ho.lat, Turns.of_below hb⟩
theorem Wor.klist (h : Wor W0 Z W n d x w s (some (j, k, t, b))) : ∃ A c, ∀ V, Turns (fun _ => False) W V → V.cell? ⟨k, 1, none⟩ = some (.slice A t.recs.length c) ∧ LAt V V.heap.size A .string t.recs := by
  obtain ⟨Z', -, g, c, vp, F, G, v, -, h2⟩ := h.both
  obtain ⟨A, cc, rfl, -, -⟩ := h2.rl.slice
  refine ⟨A, cc, fun V u => ?_⟩
  have h3 := h2.keep u (fun _ _ e => e)
  exact ⟨h3.cell 1, h3.rl.lat⟩
theorem Wor.roomL (h : Wor W0 Z W n d x w s (some (j, k, t, b))) (u : Turns (fun _ => False) W V) (hf : t.size ≤ n) :
    Calls Tryz.prog 20 #[.pointer (some ⟨j, 0, none⟩)] V fun e V' => e = .returned (.int .i64 ((n - t.size : Nat) : Int)) ∧ Turns (fun _ => False) V V' := by
  obtain ⟨Z', h1, -⟩ := (h.quiet u).both
  refine (room_O h1.dl h1.old hf).mono ?_
  rintro e V1 ⟨rfl, q, rfl⟩
  exact ⟨rfl, Turns.drewN V q⟩
theorem Wor.roomR (h : Wor W0 Z W n d x w s (some (j, k, t, b))) (u : Turns (fun _ => False) W V) (hf : t.size ≤ n) :
    Calls Tryz.prog 21 #[.pointer (some ⟨k, 0, none⟩)] V fun e V' => e = .returned (.int .i64 ((n - t.size : Nat) : Int)) ∧ Turns (fun _ => False) V V' := by
  obtain ⟨Z', -, g, c, vp, F, G, v, h1, h2⟩ := (h.quiet u).both
  refine (refroom_walk h2 h1 hf).mono ?_
  rintro e V1 ⟨rfl, q, rfl⟩
  exact ⟨rfl, Turns.drewN V q⟩
end
theorem read_vis {s : DS} {n : Nat} (ho : s.off = false) (hv : s.vis.length = n) : (s.read 0 n).1 = ⟨s.vis.toArray⟩ := by
  unfold DS.read
  rw [ho, if_neg (by decide), hv, if_pos (by unfold insB; simp)]
  simp only [Int.toNat_natCast, show ((0 : Int)).toNat = 0 from rfl, List.drop_zero]
  rw [List.take_of_length_le (by omega)]
end Go.Proofs.YtllmciiadceinaaGreatDoor
end
