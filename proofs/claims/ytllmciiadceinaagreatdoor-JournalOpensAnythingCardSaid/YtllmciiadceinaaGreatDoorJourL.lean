/-
  The plain laws of a journal: what Open and Append do to a disk; a group that is appended; a crash. No condition.
-/
import Derived.Test.YtllmciiadceinaaGreatDoorJourP
import Derived.Test.YtllmciiadceinaaGreatDoorDiskH
namespace Go.Proofs.YtllmciiadceinaaGreatDoor
open Go Wr

def longB (L : List ByteArray) : Bool := L.any fun r => decide (65536 < r.size)
def allZ (l : List UInt8) : Bool := l.all (· == 0)
def zerosB (k : Nat) : ByteArray := ⟨(List.replicate k (0 : UInt8)).toArray⟩
def outL (t : TS) (L : List ByteArray) : List UInt8 := storeL t.head L
/-- A group is written: behind its first byte, then its first byte. -/
def DS.grp (s : DS) (k : Nat) (out : List UInt8) : DS := ((s.wr ((k + 1 : Nat) : Int) ⟨(out.drop 1).toArray⟩).sync).wr (k : Int) ⟨(out.take 1).toArray⟩
inductive AppK where
  | broken
  | full
  | none
  | group
def appK (n : Nat) (t : TS) (brk : Bool) (L : List ByteArray) : AppK := if brk || longB L then .broken else if n < t.size + (outL t L).length then .full else if L = [] then .none else .group
def appE (n : Nat) (s : DS) (t : TS) (brk : Bool) (L : List ByteArray) : Int := match appK n t brk L with | .broken => 260 | .full => 261 | .none => 0 | .group => chkE (s.grp t.size (outL t L))
def appD (n : Nat) (s : DS) (t : TS) (brk : Bool) (L : List ByteArray) : DS := match appK n t brk L with | .group => (s.grp t.size (outL t L)).sync | _ => s
def appT (n : Nat) (s : DS) (t : TS) (brk : Bool) (L : List ByteArray) : TS := match appK n t brk L with | .group => if (s.grp t.size (outL t L)).off then t else t.adds L | _ => t
def appB (n : Nat) (s : DS) (t : TS) (brk : Bool) (L : List ByteArray) : Bool := match appK n t brk L with | .group => (s.grp t.size (outL t L)).off | _ => brk
/-- What Open clears. -/
def DS.clr (s : DS) (t : TS) : DS := s.wr (t.size : Int) (zerosB (s.vis.length - t.size))
def openE (s : DS) : Int := if s.off then 251 else match loadW s.vis TS.zero with
  | none => 262
  | some t => if allZ (s.vis.drop t.size) then 0 else chkE (s.clr t)
def openD (s : DS) : DS := if s.off then s else match loadW s.vis TS.zero with
  | none => s
  | some t => if allZ (s.vis.drop t.size) then s else (s.clr t).sync

structure Good (n : Nat) (t : TS) : Prop where
  eq : t = TS.zero.adds t.recs
  ok : ∀ r ∈ t.recs, r.size ≤ 65536
  fit : t.size ≤ n
def cont (n : Nat) (t : TS) : List UInt8 := storeL zero32 t.recs ++ List.replicate (n - t.size) 0
theorem Good.size {n : Nat} {t : TS} (h : Good n t) : t.size = (storeL zero32 t.recs).length := by
  have := congrArg TS.size h.eq
  rw [TS.adds_eq] at this
  simpa [TS.zero] using this
theorem Good.head {n : Nat} {t : TS} (h : Good n t) : t.head = headF zero32 t.recs := by
  have := congrArg TS.head h.eq
  rw [TS.adds_eq] at this
  simpa [TS.zero] using this
theorem Good.adds {n : Nat} {t : TS} (h : Good n t) {L : List ByteArray} (hL : ∀ r ∈ L, r.size ≤ 65536) (hf : t.size + (outL t L).length ≤ n) : Good n (t.adds L) := by
  rw [TS.adds_eq]
  refine ⟨?_, fun r hr => ?_, hf⟩
  · rw [TS.adds_append, ← h.eq, TS.adds_eq]
  · rcases List.mem_append.1 hr with q | q
    · exact h.ok r q
    · exact hL r q
theorem Good.zero {n : Nat} : Good n TS.zero := ⟨rfl, by simp [TS.zero], Nat.zero_le _⟩
theorem cont_length {n : Nat} {t : TS} (h : Good n t) : (cont n t).length = n := by
  unfold cont; rw [List.length_append, List.length_replicate, ← h.size]; have := h.fit; omega
theorem load_of {n : Nat} {t : TS} (h : Good n t) {rest : List UInt8} (hr : ∀ b ∈ rest.head?, b = 0) : loadW (storeL zero32 t.recs ++ rest) TS.zero = some t := by
  have := loadW_store (t := TS.zero) h.ok rest
  rw [show storeL TS.zero.head t.recs = storeL zero32 t.recs from rfl, ← h.eq] at this
  rw [this, loadW_end hr]
theorem rep_head (k : Nat) : ∀ b ∈ (List.replicate k (0 : UInt8)).head?, b = 0 := by cases k <;> simp [List.replicate_succ]
theorem cont_load {n : Nat} {t : TS} (h : Good n t) : loadW (cont n t) TS.zero = some t := load_of h (rep_head _)

theorem patch_front {α : Type} (a b x : List α) (k : Nat) : patch (a ++ b) (a.length + k) x = a ++ patch b k x := by
  unfold patch
  rw [List.take_append, List.take_of_length_le (by omega), Nat.add_sub_cancel_left, Nat.add_assoc, List.drop_append, List.drop_eq_nil_of_le (by omega), Nat.add_sub_cancel_left]
  simp
theorem patch_one {α : Type} (z : α) (b x : List α) : patch (z :: b) 1 x = z :: patch b 0 x := by
  unfold patch; simp [Nat.add_comm 1]
theorem patch_zero {α : Type} (b x : List α) : patch b 0 x = x ++ b.drop x.length := by unfold patch; simp
/-- The first byte of a group is 1. -/
theorem out_shape {t : TS} {L : List ByteArray} (hL : L ≠ []) : outL t L = 1 :: (outL t L).drop 1 := by
  cases L with
  | nil => exact (hL rfl).elim
  | cons r l => unfold outL; rw [storeL]; rfl
/-- A disk behind its records: a zero byte, the rest of a group, zeros. -/
def mid (n : Nat) (t : TS) (L : List ByteArray) : List UInt8 := storeL zero32 t.recs ++ 0 :: ((outL t L).drop 1 ++ List.replicate (n - t.size - (outL t L).length) 0)
theorem cont_zero {n : Nat} {t : TS} (h : t.size < n) : cont n t = storeL zero32 t.recs ++ 0 :: List.replicate (n - t.size - 1) 0 := by
  unfold cont; rw [show n - t.size = (n - t.size - 1) + 1 by omega, List.replicate_succ]; rfl
theorem cont_tail {n : Nat} {t : TS} (h : Good n t) (hlt : t.size < n) (x : List UInt8) : patch (cont n t) (t.size + 1) x = storeL zero32 t.recs ++ 0 :: (x ++ (List.replicate (n - t.size - 1) 0).drop x.length) := by
  rw [cont_zero hlt]
  have := patch_front (storeL zero32 t.recs) (0 :: List.replicate (n - t.size - 1) 0) x 1
  rw [← h.size, patch_one, patch_zero] at this
  exact this
theorem cont_mid {n : Nat} {t : TS} {L : List ByteArray} (h : Good n t) (hL : L ≠ []) (hf : t.size + (outL t L).length ≤ n) : patch (cont n t) (t.size + 1) ((outL t L).drop 1) = mid n t L := by
  have h1 := out_shape (t := t) hL
  have h2 : 0 < (outL t L).length := by rw [h1]; simp
  rw [cont_tail h (by omega)]
  unfold mid
  congr 3
  rw [List.drop_replicate, List.length_drop]
  congr 1
  omega
theorem mid_cont {n : Nat} {t : TS} {L : List ByteArray} (h : Good n t) (hL : L ≠ []) (_hf : t.size + (outL t L).length ≤ n) : patch (mid n t L) t.size ((outL t L).take 1) = cont n (t.adds L) := by
  have h1 := out_shape (t := t) hL
  unfold mid
  have := patch_front (storeL zero32 t.recs) (0 :: ((outL t L).drop 1 ++ List.replicate (n - t.size - (outL t L).length) 0)) ((outL t L).take 1) 0
  rw [Nat.add_zero, ← h.size] at this
  rw [this, patch_zero]
  unfold cont
  rw [TS.adds_eq]
  dsimp only
  rw [storeL_append, ← h.head, List.append_assoc]
  congr 1
  have h3 : (outL t L).take 1 = [1] := by rw [h1]; rfl
  rw [h3]
  show 1 :: ((outL t L).drop 1 ++ _) = outL t L ++ _
  conv => rhs; rw [h1]
  rw [List.cons_append]
  congr 3
  unfold outL
  omega
theorem mid_length {n : Nat} {t : TS} {L : List ByteArray} (h : Good n t) (hL : L ≠ []) (hf : t.size + (outL t L).length ≤ n) : (mid n t L).length = n := by
  have h1 := congrArg List.length (out_shape (t := t) hL)
  simp only [List.length_cons, List.length_drop] at h1
  unfold mid
  simp only [List.length_append, List.length_cons, List.length_drop, List.length_replicate]
  rw [← h.size]
  omega
theorem mid_load {n : Nat} {t : TS} {L : List ByteArray} (h : Good n t) : loadW (mid n t L) TS.zero = some t := load_of h (by simp)

theorem insB_yes {m k x : Nat} (h : k + x ≤ m) : insB m (k : Int) (x : Int) = true := by
  unfold insB; simp only [Bool.and_eq_true, decide_eq_true_eq]; omega
theorem wr_in {s : DS} {k : Nat} {x : ByteArray} (ho : s.off = false) (h : k + x.size ≤ s.vis.length) : s.wr (k : Int) x = s.write k x := by
  unfold DS.wr
  rw [if_neg (by rw [ho]; decide), if_pos (insB_yes h), Int.toNat_natCast]
theorem used0 {s : DS} (h : s.left = 0) : s.used = s := by unfold DS.used; rw [if_pos h]
theorem used1 {s : DS} (h : s.left = 1) : s.used = { s with left := 0, off := true } := by unfold DS.used; rw [if_neg (by omega), h]; rfl
theorem used2 {s : DS} {m : Nat} (h : s.left = m + 2) : s.used = { s with left := m + 1, off := false } := by unfold DS.used; rw [if_neg (by omega), h]; rfl
theorem wr_off {s : DS} {k : Int} {x : ByteArray} (ho : s.off = true) : s.wr k x = s := by unfold DS.wr; rw [if_pos ho]
theorem sync_off {s : DS} (ho : s.off = true) : s.sync = s := by unfold DS.sync; rw [if_pos ho]
theorem sync_on {s : DS} (ho : s.off = false) : s.sync = { s with dur := s.vis, pend := [] } := by unfold DS.sync; rw [if_neg (by rw [ho]; decide)]

/-- Nothing is pending, and the disk holds the records. -/
structure Clean (n : Nat) (s : DS) (t : TS) : Prop where
  off : s.off = false
  pend : s.pend = []
  dur : s.dur = cont n t
  vis : s.vis = cont n t
/-- The power has failed while a group was appended. -/
structure Half (n : Nat) (s : DS) (t : TS) (L : List ByteArray) : Prop where
  off : s.off = true
  ne : L ≠ []
  ok : ∀ r ∈ L, r.size ≤ 65536
  fit : t.size + (outL t L).length ≤ n
  len : s.vis.length = n
  st : (s.pend = [(t.size + 1, ⟨((outL t L).drop 1).toArray⟩)] ∧ s.dur = cont n t) ∨ (s.pend = [(t.size, ⟨((outL t L).take 1).toArray⟩)] ∧ s.dur = mid n t L)

theorem grp_law {n : Nat} {s : DS} {t : TS} {L : List ByteArray} (hc : Clean n s t) (hg : Good n t) (hL : L ≠ []) (ok : ∀ r ∈ L, r.size ≤ 65536) (hf : t.size + (outL t L).length ≤ n) :
    ((s.grp t.size (outL t L)).off = false ∧ Clean n (s.grp t.size (outL t L)).sync (t.adds L) ∧ (s.left ≠ 1 ∧ s.left ≠ 2) ∧ (s.grp t.size (outL t L)).sync.left = s.left - 2) ∨ ((s.grp t.size (outL t L)).off = true ∧ Half n (s.grp t.size (outL t L)).sync t L ∧ (s.left = 1 ∨ s.left = 2)) := by
  obtain ⟨off, left, dur, vis, pend⟩ := s
  obtain ⟨h1, h2, h3, h4⟩ := hc
  dsimp only at h1 h2 h3 h4
  subst h1 h2 h3 h4
  have hl1 := out_shape (t := t) hL
  have hl0 : 0 < (outL t L).length := by rw [hl1]; simp
  have hcl := cont_length hg
  have hml := mid_length hg hL hf
  have e1 := cont_mid hg hL hf
  have e2 := mid_cont hg hL hf
  unfold DS.grp
  have g1 : ∀ lf, (⟨false, lf, cont n t, cont n t, []⟩ : DS).wr ((t.size + 1 : Nat) : Int) ⟨((outL t L).drop 1).toArray⟩ = (⟨false, lf, cont n t, mid n t L, [(t.size + 1, ⟨((outL t L).drop 1).toArray⟩)]⟩ : DS).used := fun lf => by
    rw [wr_in rfl (by dsimp only; rw [hcl, ba_mk_size, List.length_drop]; omega)]
    unfold DS.write
    dsimp only
    rw [e1]; rfl
  have g2 : ∀ lf, (⟨false, lf, mid n t L, mid n t L, []⟩ : DS).wr (t.size : Int) ⟨((outL t L).take 1).toArray⟩ = (⟨false, lf, mid n t L, cont n (t.adds L), [(t.size, ⟨((outL t L).take 1).toArray⟩)]⟩ : DS).used := fun lf => by
    rw [wr_in rfl (by dsimp only; rw [hml, ba_mk_size, List.length_take]; omega)]
    unfold DS.write
    dsimp only
    rw [e2]; rfl
  rw [g1]
  match left with
  | 0 =>
    left
    rw [used0 rfl, sync_on rfl, g2, used0 rfl, sync_on rfl]
    exact ⟨rfl, ⟨rfl, rfl, rfl, rfl⟩, by dsimp only; omega, rfl⟩
  | 1 =>
    right
    rw [used1 rfl, sync_off rfl, wr_off rfl, sync_off rfl]
    exact ⟨rfl, ⟨rfl, hL, ok, hf, hml, .inl ⟨rfl, rfl⟩⟩, .inl rfl⟩
  | 2 =>
    right
    rw [used2 (m := 0) rfl, sync_on rfl, g2, used1 rfl, sync_off rfl]
    refine ⟨rfl, ⟨rfl, hL, ok, hf, ?_, .inr ⟨rfl, rfl⟩⟩, .inr rfl⟩
    exact cont_length (hg.adds ok hf)
  | m + 3 =>
    left
    rw [used2 (m := m + 1) rfl, sync_on rfl, g2, used2 (m := m) rfl, sync_on rfl]
    exact ⟨rfl, ⟨rfl, rfl, rfl, rfl⟩, by dsimp only; omega, by dsimp only; omega⟩

theorem allZ_eq {l : List UInt8} (h : allZ l = true) : l = List.replicate l.length 0 := by
  unfold allZ at h
  rw [List.all_eq_true] at h
  exact List.eq_replicate_of_mem (fun b hb => by simpa using h b hb)
theorem allZ_rep (k : Nat) : allZ (List.replicate k 0) = true := by unfold allZ; simp
/-- Open behind a crash (or on a disk that is clean). -/
theorem open_law {n : Nat} {s : DS} {t : TS} (ho : s.off = false) (hp : s.pend = []) (hv : s.vis = s.dur) (hl : s.left = 0) (hn : s.vis.length = n) (h : loadW s.vis TS.zero = some t) :
    openE s = 0 ∧ Clean n (openD s) t ∧ Good n t ∧ (openD s).left = 0 := by
  obtain ⟨L, rest, e1, e2, e3, e4⟩ := loadW_only _ _ _ _ (Nat.le_refl _) h
  have hrec : t.recs = L := by rw [e1, TS.adds_eq]; rfl
  have hg : Good n t := by
    refine ⟨by rw [hrec]; exact e1, by rw [hrec]; exact e4, ?_⟩
    have h1 : t.size = (storeL zero32 L).length := by rw [e1, TS.adds_eq]; simp [TS.zero]
    rw [h1, ← hn, e2, List.length_append]
    show (storeL TS.zero.head L).length ≤ _
    omega
  have e2' : s.vis = storeL zero32 t.recs ++ rest := by rw [e2, hrec]; rfl
  have hd : s.vis.drop t.size = rest := by rw [e2', hg.size, List.drop_left]
  have hrl : rest.length = n - t.size := by rw [← hn, ← hd, List.length_drop]
  have hfit := hg.fit
  unfold openE openD
  rw [if_neg (by rw [ho]; decide), if_neg (by rw [ho]; decide), h]
  dsimp only
  rw [hd]
  by_cases hz : allZ rest = true
  · rw [if_pos hz, if_pos hz]
    have : s.vis = cont n t := by rw [e2', allZ_eq hz, hrl]; rfl
    exact ⟨rfl, ⟨ho, hp, by rw [← hv]; exact this, this⟩, hg, hl⟩
  · rw [if_neg hz, if_neg hz]
    have hc : s.clr t = { s with pend := s.pend ++ [(t.size, zerosB (s.vis.length - t.size))], vis := cont n t } := by
      unfold DS.clr
      rw [wr_in ho (by unfold zerosB; rw [ba_mk_size, List.length_replicate]; omega)]
      unfold DS.write
      have : patch s.vis t.size (zerosB (s.vis.length - t.size)).data.toList = cont n t := by
        have := patch_front (storeL zero32 t.recs) rest (zerosB (s.vis.length - t.size)).data.toList 0
        rw [Nat.add_zero, ← hg.size, ← e2', patch_zero] at this
        rw [this]
        unfold cont zerosB
        rw [ba_mk, List.length_replicate, hn, List.drop_eq_nil_of_le (by omega), List.append_nil]
      rw [this]
      exact used0 hl
    have hs : (s.clr t).sync = { s with dur := cont n t, pend := [], vis := cont n t } := by
      rw [hc]
      exact sync_on ho
    rw [hs, hc]
    refine ⟨?_, ⟨ho, rfl, rfl, rfl⟩, hg, hl⟩
    unfold chkE
    rw [if_neg (by dsimp only; rw [ho]; decide)]
end Go.Proofs.YtllmciiadceinaaGreatDoor
