/-
  The reference's apply. Conditions: each contract's own. The reference's disk in memory; its New. Conditions: each contract's own. The reference's has. Conditions: each contract's own. The reference's disk in memory, told by the same record; its New, Cut, Write. Conditions: each contract's own. The reference's Visible, Sync, Read. Conditions: each contract's own. The reference's Crash. Conditions: each contract's own.
-/
import Derived.Test.YtllmciiadceinaaGreatDoorSumD1
section
namespace Go.Proofs.YtllmciiadceinaaGreatDoor
open Go Go.RowKit

/-- Writes applied to a content, one after the other. -/
def applyP (pend : List (Nat × ByteArray)) (d : List UInt8) : List UInt8 := pend.foldl (fun d x => patch d x.1 x.2.data.toList) d
theorem applyP_snoc (pend : List (Nat × ByteArray)) (d : List UInt8) (p : Nat) (x : ByteArray) : applyP (pend ++ [(p, x)]) d = patch (applyP pend d) p x.data.toList := by unfold applyP; rw [List.foldl_append]; rfl
theorem patch_snoc {l : List UInt8} {off : Nat} {s : List UInt8} {k : Nat} (hk : k < s.length) (hs : off + s.length ≤ l.length) : (patch l off (s.take k)).set (off + k) s[k] = patch l off (s.take (k + 1)) := by
  have h1 : (s.take k).length = k := by rw [List.length_take]; omega
  have h2 : (s.take (k + 1)).length = k + 1 := by rw [List.length_take]; omega
  refine List.ext_getElem? fun i => ?_
  rw [List.getElem?_set, patch_get (by omega), patch_get (by omega), patch_length (by omega), h1, h2]
  by_cases e : off + k = i
  · subst e
    rw [if_pos rfl, if_pos (by omega), if_pos (by omega), List.getElem?_take_of_lt (by omega), Nat.add_sub_cancel_left, List.getElem?_eq_getElem hk]
  · rw [if_neg e]
    by_cases c : off ≤ i ∧ i < off + k
    · rw [if_pos c, if_pos (by omega), List.getElem?_take_of_lt (by omega), List.getElem?_take_of_lt (by omega)]
    · rw [if_neg c, if_neg (by omega)]

set_option maxHeartbeats 2000000 in
theorem apply_walk (W : World) (g n off : Nat) (l : List UInt8) (s : ByteArray) (hr : RAt W g bv l) (hl : l.length = n) (hfit : off + s.size ≤ n) (hn : n ≤ 4194304) :
    Calls Tryz.prog 53 #[.slice (some ⟨g, 0, none⟩) n n, .int .i64 off, .string s] W fun e W' => e = .returned (.tuple #[]) ∧ RAt W' g bv (patch l off s.data.toList) ∧ Turns (fun k => k = g) W W' := by
  have HR := Lib.hid hr
  clear hr
  go_enter Tryz.func53, Tryz.ntmps53
  go_wp2_with fail
  go_loopw [6] (fun v wr => ∃ k : Nat, k ≤ s.size ∧ v = .int .i64 k ∧ RAt wr g bv (patch l off (s.data.toList.take k)) ∧ Turns (fun k => k = g) W wr) (fun v _ => s.size - (intOf v).toNat)
  case atStart => exact ⟨0, by omega, rfl, by rw [List.take_zero, patch_nil]; exact HR.out, Turns.refl _ _⟩
  case round =>
    obtain ⟨k, hk, rfl, hrk, htk⟩ := hrel
    have hsl : s.data.toList.length = s.size := by simp
    have hpl : (patch l off (s.data.toList.take k)).length = n := by rw [patch_length (by rw [List.length_take]; omega)]; exact hl
    have HT := Lib.hid htk
    by_cases hlt : k < s.size
    · have d1 : decide ((k : Int) < (s.size : Int)) = true := by simp [hlt]
      obtain ⟨p, hp⟩ : ∃ p, off + k = p := ⟨_, rfl⟩
      have w1 : IntKind.i64.wrap ((off : Int) + (k : Int)) = (p : Int) := by rw [IntKind.wrap_i64]; omega
      have w2 : IntKind.i64.wrap ((k : Int) + 1) = ((k + 1 : Nat) : Int) := by rw [IntKind.wrap_i64]; omega
      have y1 : (0 : Int) ≤ (p : Int) := by omega
      have y2 : (p : Int) < (n : Int) := by omega
      have y3 : (0 : Int) ≤ (k : Int) := by omega
      have y4 : (k : Int) < (s.size : Int) := by omega
      obtain ⟨u, c1⟩ : ∃ u, wr.cell? ⟨g, p, none⟩ = some u := ⟨_, hrk.get (i := p) (by omega)⟩
      have f1 := hrk.free p (by omega)
      have HN : Hid (RAt (wr.setCell ⟨g, p, none⟩ (bv (s.data.toList[k]'(by omega)))) g bv (patch l off (s.data.toList.take (k + 1)))) := Lib.hid (by
        have := hrk.setv p (by omega) (s.data.toList[k]'(by omega)) _ rfl
        rw [← patch_snoc (by omega) (by omega), hp]
        exact this)
      obtain ⟨y, hy⟩ : ∃ y, s.data.toList[k]'(by omega) = y := ⟨_, rfl⟩
      rw [hy] at HN
      have HY := Lib.hid (show s.data.toList[k]? = some y by rw [List.getElem?_eq_getElem (by omega), hy])
      have HW := Lib.hid (And.intro (show k + 1 ≤ s.size from hlt) hp)
      clear hy hrk hpl hsl htk hk hl hfit hp
      go_wp2_with fail
      have hyk : s[k] = y := by
        have := HY.out
        rw [List.getElem?_eq_getElem (by simpa using hlt)] at this
        exact Option.some.inj this
      refine ⟨⟨k + 1, HW.out.1, rfl, ?_, HT.out.trans (Turns.setCell wr ⟨g, p, none⟩ _ rfl)⟩, by simp [intOf]; omega⟩
      rw [hyk]
      exact HN.out
    · obtain rfl : k = s.size := by omega
      have d1 : decide ((s.size : Int) < (s.size : Int)) = false := by simp
      have HN := Lib.hid hrk
      have hta : s.data.toList.take s.size = s.data.toList := List.take_of_length_le (by omega)
      clear hrk hpl hsl htk
      go_wp2_with fail
      go_end0
      have := HN.out
      rw [hta] at this
      exact ⟨rfl, this, HT.out⟩

end Go.Proofs.YtllmciiadceinaaGreatDoor
end
section
namespace Go.Proofs.YtllmciiadceinaaGreatDoor
open Go Go.RowKit

/-- The reference's disk: its durable bytes, its log, whether it has lost its power, after how many writes it will. -/
structure RS where
  dur : List UInt8
  log : List (Nat × ByteArray)
  off : Bool
  left : Nat
structure RefAt (W : World) (F : Nat → Prop) (d g : Nat) (vp : Value) (n : Nat) (s : RS) : Prop where
  hd : W.heap[d]? = some (.cells #[.slice (some ⟨g, 0, none⟩) n n, vp, .bool s.off, .int .i64 (s.left : Int)] 67 (0, 0))
  rd : RAt W g bv s.dur
  ld : s.dur.length = n
  pp : OL W 0 100 2 wf vp s.log
  fit : ∀ x ∈ s.log, x.1 + x.2.size ≤ n
  ne : d ≠ g
  np : ∀ q, vp.ownBlock = some q → q ≠ d ∧ q ≠ g
  fd : F d ∧ F g
  fp : ∀ q, vp.ownBlock = some q → F q
  lf : ∀ k, F k → k < W.heap.size
  n64 : n ≤ 4194304

section
variable {W W' : World} {F : Nat → Prop} {d g n : Nat} {vp : Value} {s : RS}
theorem RefAt.cell (h : RefAt W F d g vp n s) (i : Nat) : W.cell? ⟨d, i, none⟩ = (#[.slice (some ⟨g, 0, none⟩) n n, vp, .bool s.off, .int .i64 (s.left : Int)] : Array Value)[i]? := by
  simp [World.cell?, h.hd]
theorem RefAt.free (h : RefAt W F d g vp n s) (i : Nat) : W.frozen? ⟨d, i, none⟩ = false := by simp [World.frozen?, h.hd]
theorem RefAt.keep {Z : Nat → Prop} (h : RefAt W F d g vp n s) (t : Turns Z W W') (hz : ∀ k, F k → ¬ Z k) : RefAt W' F d g vp n s := by
  obtain ⟨f1, f2⟩ := h.fd
  refine ⟨(t.block d (h.lf d f1) (hz d f1)).trans h.hd, ?_, h.ld, ?_, h.fit, h.ne, h.np, h.fd, h.fp, fun k hk => Nat.lt_of_lt_of_le (h.lf k hk) t.size, h.n64⟩
  · exact ⟨Nat.lt_of_lt_of_le h.rd.lt t.size, fun i x hx => (t.cell (p := ⟨g, i, none⟩) h.rd.lt (hz g f2)).trans (h.rd.cell i x hx), fun i hi => (t.frozen (p := ⟨g, i, none⟩) h.rd.lt (hz g f2)).trans (h.rd.free i hi)⟩
  · exact h.pp.keep fun q hq => t.block q (h.pp.lt q hq).2 (hz q (h.fp q hq))
end
/-- A new one. -/
def RS.fresh (n : Nat) : RS := ⟨List.replicate n 0, [], false, 0⟩
set_option maxRecDepth 20000 in
set_option maxHeartbeats 2000000 in
theorem refnew_walk {W : World} (n : Nat) (h1 : 1 ≤ n) (hn : n ≤ 4194304) :
    Calls Tryz.prog 33 #[.int .i64 n] W fun e W' => (∃ d g F vp, e = .returned (.tuple #[.pointer (some ⟨d, 0, none⟩), .int .i64 0]) ∧ RefAt W' F d g vp n (RS.fresh n) ∧ ∀ k, F k → W.heap.size ≤ k) ∧ Turns (fun _ => False) W W' := by
  have hmk := mkRow n hn
  have d1 : decide ((n : Int) < 1) = false := by simp; omega
  have d2 : decide ((4194304 : Int) < (n : Int)) = false := by simp; omega
  obtain ⟨C, hC⟩ : ∃ C, madeCells #[.int .u8 0] n = C := ⟨_, rfl⟩
  rw [hC] at hmk
  have HCL := Lib.hid (show C.toList = (List.replicate n (0 : UInt8)).map bv by rw [← hC]; exact made_bytes n)
  clear hC
  go_enter Tryz.func33, Tryz.ntmps33
  go_wp2_with fail
  go_ret2
  have z1 : (W.alloc (.cells C 5)).heap.size = W.heap.size + 1 := World.size_alloc _ _
  have r1 := RAt.alloc_new (f := bv) W C 5 HCL.out
  have hd := World.alloc_heap_new (W.alloc (.cells C 5)) (.cells #[.slice (some ⟨W.heap.size, 0, none⟩) n n, .slice none 0 0, .bool false, .int .i64 0] 67)
  rw [z1] at hd
  refine ⟨⟨W.heap.size + 1, W.heap.size, (fun k => W.heap.size ≤ k ∧ k < W.heap.size + 2), _, rfl, ⟨hd, r1.alloc _, by simp [RS.fresh], OL.nil, fun x hx => absurd hx (by simp [RS.fresh]), by omega, fun q hq => (by cases hq), ⟨⟨by omega, by omega⟩, ⟨by omega, by omega⟩⟩, fun q hq => (by cases hq), fun k hk => ?_, hn⟩, fun k hk => hk.1⟩, (Turns.alloc W _).trans (Turns.alloc _ _)⟩
  rw [World.size_alloc, z1]; omega

end Go.Proofs.YtllmciiadceinaaGreatDoor
end
section
namespace Go.Proofs.YtllmciiadceinaaGreatDoor
open Go Go.RowKit

theorem insB_fit {n o m : Nat} (h : o + m ≤ n) : insB n o m = true := by
  unfold insB
  simp only [Bool.and_eq_true, decide_eq_true_eq]
  omega
set_option maxRecDepth 20000 in
set_option maxHeartbeats 2000000 in
theorem has_walk (W : World) (A : Option Addr) (l : List Int) (n c : Nat) (x : Int) (hl : l.length = n) (hn : n ≤ 9223372036854775807) (hA : LAt W W.heap.size A iv l) :
    Calls Tryz.prog 93 #[.slice A n c, .int .i64 x] W fun e W' => e = .returned (.bool (decide (x ∈ l))) ∧ W = W' := by
  go_enter Tryz.func93, Tryz.ntmps93
  go_wp2_with fail
  go_loopw [5] (fun v wr => ∃ k : Nat, k ≤ n ∧ v = .int .i64 k ∧ ¬ x ∈ l.take k ∧ W = wr) (fun v _ => n - (intOf v).toNat)
  case atStart => exact ⟨0, by omega, rfl, by simp, rfl⟩
  case round =>
    obtain ⟨k, hk, rfl, hx, rfl⟩ := hrel
    by_cases hlt : k < n
    · have d1 : decide ((k : Int) < (n : Int)) = true := by simp [hlt]
      obtain ⟨a, rfl, hab, hac⟩ := hA.get (i := k) (by omega)
      obtain ⟨y, hy⟩ : ∃ y, l[k]'(by omega) = y := ⟨_, rfl⟩
      rw [hy] at hac
      unfold iv at hac
      have hnx : l.take (k + 1) = l.take k ++ [y] := by rw [List.take_succ_eq_append_getElem (by omega), hy]
      have hml : y ∈ l := by rw [← hy]; exact List.getElem_mem _
      have w2 : IntKind.i64.wrap ((k : Int) + 1) = ((k + 1 : Nat) : Int) := by rw [IntKind.wrap_i64]; omega
      have y3 : (0 : Int) ≤ (k : Int) := by omega
      have y4 : (k : Int) < (n : Int) := by omega
      by_cases hyx : y = x
      · have e1 : (y == x) = true := by simp [hyx]
        have HM := Lib.hid (show decide (x ∈ l) = true by rw [← hyx]; simp [hml])
        clear hA hl hx hy hnx hml hyx
        go_wp2_with fail
        go_ret
        rw [HM.out]
        exact ⟨rfl, rfl⟩
      · have e1 : (y == x) = false := by simp [hyx]
        have HN := Lib.hid (show ¬ x ∈ l.take (k + 1) by rw [hnx]; simp [hx]; exact fun q => hyx q.symm)
        clear hA hl hx hy hnx hml hyx
        go_wp2_with fail
        exact ⟨⟨k + 1, by omega, rfl, HN.out, trivial⟩, by simp [intOf]; omega⟩
    · obtain rfl : k = n := by omega
      have d1 : decide ((k : Int) < (k : Int)) = false := by simp
      have HM := Lib.hid (show decide (x ∈ l) = false by rw [List.take_of_length_le (by omega)] at hx; simp [hx])
      clear hA hl hx
      go_wp2_with fail
      go_ret
      rw [HM.out]
      exact ⟨rfl, rfl⟩

end Go.Proofs.YtllmciiadceinaaGreatDoor
end
section
namespace Go.Proofs.YtllmciiadceinaaGreatDoor
open Go Go.RowKit Go.Shelf Go.Sort

set_option maxHeartbeats 2000000 in
theorem applyC_walk (W : World) (g n c off : Nat) (l : List UInt8) (s : ByteArray) (hr : RAt W g bv l) (hl : l.length = n) (hfit : off + s.size ≤ n) (hn : n ≤ 4194304) :
    Calls Tryz.prog 53 #[.slice (some ⟨g, 0, none⟩) n c, .int .i64 off, .string s] W fun e W' => e = .returned (.tuple #[]) ∧ RAt W' g bv (patch l off s.data.toList) ∧ Turns (fun k => k = g) W W' := by
  have HR := Lib.hid hr
  clear hr
  go_enter Tryz.func53, Tryz.ntmps53
  go_wp2_with fail
  go_loopw [6] (fun v wr => ∃ k : Nat, k ≤ s.size ∧ v = .int .i64 k ∧ RAt wr g bv (patch l off (s.data.toList.take k)) ∧ Turns (fun k => k = g) W wr) (fun v _ => s.size - (intOf v).toNat)
  case atStart => exact ⟨0, by omega, rfl, by rw [List.take_zero, patch_nil]; exact HR.out, Turns.refl _ _⟩
  case round =>
    obtain ⟨k, hk, rfl, hrk, htk⟩ := hrel
    have hsl : s.data.toList.length = s.size := by simp
    have hpl : (patch l off (s.data.toList.take k)).length = n := by rw [patch_length (by rw [List.length_take]; omega)]; exact hl
    have HT := Lib.hid htk
    by_cases hlt : k < s.size
    · have d1 : decide ((k : Int) < (s.size : Int)) = true := by simp [hlt]
      obtain ⟨p, hp⟩ : ∃ p, off + k = p := ⟨_, rfl⟩
      have w1 : IntKind.i64.wrap ((off : Int) + (k : Int)) = (p : Int) := by rw [IntKind.wrap_i64]; omega
      have w2 : IntKind.i64.wrap ((k : Int) + 1) = ((k + 1 : Nat) : Int) := by rw [IntKind.wrap_i64]; omega
      have y1 : (0 : Int) ≤ (p : Int) := by omega
      have y2 : (p : Int) < (n : Int) := by omega
      have y3 : (0 : Int) ≤ (k : Int) := by omega
      have y4 : (k : Int) < (s.size : Int) := by omega
      obtain ⟨u, c1⟩ : ∃ u, wr.cell? ⟨g, p, none⟩ = some u := ⟨_, hrk.get (i := p) (by omega)⟩
      have f1 := hrk.free p (by omega)
      have HN : Hid (RAt (wr.setCell ⟨g, p, none⟩ (bv (s.data.toList[k]'(by omega)))) g bv (patch l off (s.data.toList.take (k + 1)))) := Lib.hid (by
        have := hrk.setv p (by omega) (s.data.toList[k]'(by omega)) _ rfl
        rw [← patch_snoc (by omega) (by omega), hp]
        exact this)
      obtain ⟨y, hy⟩ : ∃ y, s.data.toList[k]'(by omega) = y := ⟨_, rfl⟩
      rw [hy] at HN
      have HY := Lib.hid (show s.data.toList[k]? = some y by rw [List.getElem?_eq_getElem (by omega), hy])
      have HW := Lib.hid (And.intro (show k + 1 ≤ s.size from hlt) hp)
      clear hy hrk hpl hsl htk hk hl hfit hp
      go_wp2_with fail
      have hyk : s[k] = y := by
        have := HY.out
        rw [List.getElem?_eq_getElem (by simpa using hlt)] at this
        exact Option.some.inj this
      refine ⟨⟨k + 1, HW.out.1, rfl, ?_, HT.out.trans (Turns.setCell wr ⟨g, p, none⟩ _ rfl)⟩, by simp [intOf]; omega⟩
      rw [hyk]
      exact HN.out
    · obtain rfl : k = s.size := by omega
      have d1 : decide ((s.size : Int) < (s.size : Int)) = false := by simp
      have HN := Lib.hid hrk
      have hta : s.data.toList.take s.size = s.data.toList := List.take_of_length_le (by omega)
      clear hrk hpl hsl htk
      go_wp2_with fail
      go_end0
      have := HN.out
      rw [hta] at this
      exact ⟨rfl, this, HT.out⟩

/-- The reference's disk at block d: its durable bytes at g (a slice with room for c), its log vp; what is visible is the log applied to them. -/
structure RefD (W : World) (F : Nat → Prop) (d g c : Nat) (vp : Value) (n : Nat) (s : DS) : Prop where
  hd : W.heap[d]? = some (.cells #[.slice (some ⟨g, 0, none⟩) n c, vp, .bool s.off, .int .i64 (s.left : Int)] 67 (0, 0))
  rd : RAt W g bv s.dur
  ld : s.dur.length = n
  pp : OL W 0 100 2 wf vp s.pend
  fit : ∀ x ∈ s.pend, x.1 + x.2.size ≤ n
  ne : d ≠ g
  np : ∀ q, vp.ownBlock = some q → q ≠ d ∧ q ≠ g
  fd : F d ∧ F g
  fp : ∀ q, vp.ownBlock = some q → F q
  lf : ∀ k, F k → k < W.heap.size
  n64 : n ≤ 4194304
  app : s.vis = applyP s.pend s.dur
theorem applyP_length : ∀ (pend : List (Nat × ByteArray)) (d : List UInt8), (∀ x ∈ pend, x.1 + x.2.size ≤ d.length) → (applyP pend d).length = d.length
  | [], _, _ => rfl
  | x :: pend, d, h => by
    have hx := h x (List.mem_cons_self ..)
    have hp : (patch d x.1 x.2.data.toList).length = d.length := patch_length (by simpa using hx)
    show (applyP pend (patch d x.1 x.2.data.toList)).length = d.length
    rw [applyP_length pend _ (fun y hy => by rw [hp]; exact h y (List.mem_cons_of_mem _ hy)), hp]

section
variable {W W' : World} {F : Nat → Prop} {d g c n : Nat} {vp : Value} {s : DS}
theorem RefD.lv (h : RefD W F d g c vp n s) : s.vis.length = n := by rw [h.app, applyP_length _ _ (by rw [h.ld]; exact h.fit), h.ld]
theorem RefD.cell (h : RefD W F d g c vp n s) (i : Nat) : W.cell? ⟨d, i, none⟩ = (#[.slice (some ⟨g, 0, none⟩) n c, vp, .bool s.off, .int .i64 (s.left : Int)] : Array Value)[i]? := by
  simp [World.cell?, h.hd]
theorem RefD.free (h : RefD W F d g c vp n s) (i : Nat) : W.frozen? ⟨d, i, none⟩ = false := by simp [World.frozen?, h.hd]
theorem RefD.keep {Z : Nat → Prop} (h : RefD W F d g c vp n s) (t : Turns Z W W') (hz : ∀ k, F k → ¬ Z k) : RefD W' F d g c vp n s := by
  obtain ⟨f1, f2⟩ := h.fd
  refine ⟨(t.block d (h.lf d f1) (hz d f1)).trans h.hd, h.rd.turns t (hz g f2), h.ld, ?_, h.fit, h.ne, h.np, h.fd, h.fp, fun k hk => Nat.lt_of_lt_of_le (h.lf k hk) t.size, h.n64, h.app⟩
  exact h.pp.keep fun q hq => t.block q (h.pp.lt q hq).2 (hz q (h.fp q hq))
theorem RefD.drewN (h : RefD W F d g c vp n s) (k : Nat) : RefD (W.drewN k) F d g c vp n s := h.keep (Z := fun _ => False) ⟨rfl, rfl, rfl, Nat.le_refl _, fun _ _ _ => rfl⟩ (fun _ _ h => h)
/-- A cell of the reference's own block is written (not the slice of its bytes). -/
theorem RefD.put (h : RefD W F d g c vp n s) (i : Nat) (v : Value) (s' : DS) (vp' : Value)
    (hs : (#[.slice (some ⟨g, 0, none⟩) n c, vp, .bool s.off, .int .i64 (s.left : Int)] : Array Value).setIfInBounds i v = #[.slice (some ⟨g, 0, none⟩) n c, vp', .bool s'.off, .int .i64 (s'.left : Int)])
    (h1 : s'.dur = s.dur) (hfit : ∀ x ∈ s'.pend, x.1 + x.2.size ≤ n) (hpp : OL W 0 100 2 wf vp' s'.pend) (hnp : ∀ q, vp'.ownBlock = some q → q ≠ d ∧ q ≠ g) (hfp : ∀ q, vp'.ownBlock = some q → F q) (happ : s'.vis = applyP s'.pend s'.dur) :
    RefD (W.setCell ⟨d, i, none⟩ v) F d g c vp' n s' ∧ Turns F W (W.setCell ⟨d, i, none⟩ v) := by
  have ht : Turns (fun k => k = d) W (W.setCell ⟨d, i, none⟩ v) := Turns.setCell W _ v rfl
  refine ⟨⟨?_, ?_, by rw [h1]; exact h.ld, ?_, hfit, h.ne, hnp, h.fd, hfp, fun k hk => Nat.lt_of_lt_of_le (h.lf k hk) ht.size, h.n64, happ⟩, ht.mono (fun k hk => by rw [hk]; exact h.fd.1)⟩
  · have := h.hd
    simp only [World.setCell, Array.getElem?_modify, this]
    simp [hs]
  · rw [h1]; exact h.rd.other ⟨d, i, none⟩ h.ne v
  · exact hpp.keep fun q hq => ht.block q (hpp.lt q hq).2 (hnp q hq).1
end
theorem refnewD_walk {W : World} (n : Nat) (h1 : 1 ≤ n) (hn : n ≤ 4194304) :
    Calls Tryz.prog 33 #[.int .i64 n] W fun e W' => (∃ d g c F vp, e = .returned (.tuple #[.pointer (some ⟨d, 0, none⟩), .int .i64 0]) ∧ RefD W' F d g c vp n (DS.fresh n) ∧ ∀ k, F k → W.heap.size ≤ k) ∧ Turns (fun _ => False) W W' := by
  refine (refnew_walk n h1 hn).mono ?_
  rintro e W1 ⟨⟨d, g, F, vp, rfl, h, hF⟩, ht⟩
  exact ⟨⟨d, g, n, F, vp, rfl, ⟨h.hd, h.rd, h.ld, h.pp, h.fit, h.ne, h.np, h.fd, h.fp, h.lf, h.n64, rfl⟩, hF⟩, ht⟩
set_option maxRecDepth 20000 in
set_option maxHeartbeats 2000000 in
theorem refcutD_walk {W : World} {F : Nat → Prop} {d g c n : Nat} {vp : Value} {s : DS} (h : RefD W F d g c vp n s) (k : Int) :
    Calls Tryz.prog 66 #[.pointer (some ⟨d, 0, none⟩), .int .i64 k] W fun e W' => e = .returned (.int .i64 (s.cutE k)) ∧ RefD W' F d g c vp n (s.cut k) ∧ Turns F W W' := by
  have c2 : W.cell? ⟨d, 2, none⟩ = some (.bool s.off) := h.cell 2
  have c3 : W.cell? ⟨d, 3, none⟩ = some (.int .i64 (s.left : Int)) := h.cell 3
  have f2 := h.free 2
  have f3 := h.free 3
  have H0 := Lib.hid h
  unfold DS.cutE DS.cut
  obtain ⟨b, hb⟩ : ∃ b, s.off = b := ⟨_, rfl⟩
  rw [hb] at c2 ⊢
  clear h hb
  cases b
  · by_cases hk : k < 0
    · have d1 : decide (k < 0) = true := by simp [hk]
      simp only [Bool.false_eq_true, if_false]
      rw [if_pos hk, if_pos hk]
      go_enter Tryz.func66, Tryz.ntmps66
      go_wp2_with fail
      go_ret
      exact ⟨rfl, H0.out, Turns.refl _ _⟩
    · simp only [Bool.false_eq_true, if_false]
      rw [if_neg hk, if_neg hk]
      obtain ⟨m, rfl⟩ : ∃ m : Nat, k = m := ⟨k.toNat, by omega⟩
      rw [show ((m : Int)).toNat = m by omega]
      have hbe : ((m : Int) == 0) = decide (m = 0) := by rw [Bool.eq_iff_iff]; simp
      have h1 := H0.out.put 3 (.int .i64 (m : Int)) { s with left := m } vp rfl rfl H0.out.fit H0.out.pp H0.out.np H0.out.fp H0.out.app
      have h2 := h1.1.put 2 (.bool ((m : Int) == 0)) { s with left := m, off := decide (m = 0) } vp (by rw [hbe]; rfl) rfl H0.out.fit h1.1.pp H0.out.np H0.out.fp H0.out.app
      have H2 := Lib.hid h2.1
      have HT := Lib.hid (h1.2.trans h2.2)
      clear h1 h2 hbe
      go_enter Tryz.func66, Tryz.ntmps66
      go_wp2_with fail
      go_ret
      exact ⟨rfl, H2.out, HT.out⟩
  · rw [if_pos rfl, if_pos rfl]
    go_enter Tryz.func66, Tryz.ntmps66
    go_wp2_with fail
    go_ret
    exact ⟨rfl, H0.out, Turns.refl _ _⟩

theorem elemC : Elem Tryz.prog 65 100 2 24 := Elem.mk' (z := .agg #[.int .i64 0, .string ByteArray.empty]) Tryz.underlying65 (by kernel_rfl) rfl (by omega)
/-- One more change in the log. -/
theorem RefD.grow {W W5 : World} {F : Nat → Prop} {d g c n : Nat} {vp : Value} {s : DS} (h : RefD W F d g c vp n s) (hg : W.grownBy W5 vp.ownBlock) (q m cc : Nat) (o : Nat) (x : ByteArray) (h5 : OL W5 0 100 2 wf (.slice (some ⟨q, 0, none⟩) m cc) (s.pend ++ [(o, x)]))
    (hfit : o + x.size ≤ n) (hg' : vp.ownBlock = some q ∨ q = W.heap.size) (hgl : q < W5.heap.size) :
    RefD (W5.setCell ⟨d, 1, none⟩ (.slice (some ⟨q, 0, none⟩) m cc)) (fun k => F k ∨ (W.heap.size ≤ k ∧ k < W5.heap.size)) d g c (.slice (some ⟨q, 0, none⟩) m cc) n { s with pend := s.pend ++ [(o, x)], vis := patch s.vis o x.data.toList } ∧ Turns F W (W5.setCell ⟨d, 1, none⟩ (.slice (some ⟨q, 0, none⟩) m cc)) := by
  obtain ⟨f1, f2⟩ := h.fd
  have l1 := h.lf d f1
  have l2 := h.lf g f2
  have ht5 : Turns F W W5 := ⟨hg.os, hg.tape, hg.output, hg.size, fun k hk hf => grown_cell hg hk (fun q' e e' => hf (e' ▸ h.fp q' e))⟩
  have hgne : q ≠ d ∧ q ≠ g := by
    rcases hg' with e | e
    · exact h.np q e
    · subst e; exact ⟨by omega, by omega⟩
  have bd := grown_cell hg l1 (fun q' e => (h.np q' e).1)
  have bg := grown_cell hg l2 (fun q' e => (h.np q' e).2)
  have hz5 := ht5.size
  have hm : RefD W5 (fun k => F k ∨ (W.heap.size ≤ k ∧ k < W5.heap.size)) d g c vp n s ∨ True := .inr trivial
  have hput : Turns (fun k => k = d) W5 (W5.setCell ⟨d, 1, none⟩ (.slice (some ⟨q, 0, none⟩) m cc)) := Turns.setCell W5 _ _ rfl
  have hT := ht5.trans (hput.mono (fun k hk => by rw [hk]; exact f1))
  clear hm
  refine ⟨⟨?_, ?_, h.ld, h5.keep fun k hk => ?_, ?_, h.ne, fun k hk => ?_, ⟨.inl f1, .inl f2⟩, fun k hk => ?_, fun k hk => ?_, h.n64, ?_⟩, hT⟩
  · have h1 : W5.heap[d]? = _ := bd.trans h.hd
    simp only [World.setCell, Array.getElem?_modify, h1]
    simp
  · refine RAt.other (b := g) ?_ ⟨d, 1, none⟩ h.ne _
    exact ⟨by omega, fun i x hx => (World.cell?_of_block (a := ⟨g, i, none⟩) bg).trans (h.rd.cell i x hx), fun i hi => (World.frozen?_of_block (a := ⟨g, i, none⟩) bg).trans (h.rd.free i hi)⟩
  · cases hk; exact hput.block q hgl hgne.1
  · intro y hy
    rcases List.mem_append.1 hy with hy | hy
    · exact h.fit y hy
    · rw [List.mem_singleton.1 hy]; exact hfit
  · cases hk; exact hgne
  · cases hk
    rcases hg' with e | e
    · exact .inl (h.fp q e)
    · exact .inr ⟨Nat.le_of_eq e.symm, hgl⟩
  · rcases hk with hk | hk
    · exact Nat.lt_of_lt_of_le (h.lf k hk) hT.size
    · exact Nat.lt_of_lt_of_le hk.2 hput.size
  · show patch s.vis o x.data.toList = applyP (s.pend ++ [(o, x)]) s.dur
    rw [applyP_snoc, ← h.app]

set_option maxRecDepth 100000 in
set_option maxHeartbeats 8000000 in
theorem refwriteD_walk {W : World} {F : Nat → Prop} {d g c n : Nat} {vp : Value} {s : DS} (h : RefD W F d g c vp n s) (off : Int) (x : ByteArray) (hx : x.size ≤ 4194304) (hp : s.pend.length ≤ 1000000) (hleft : s.left ≤ 9223372036854775807) :
    Calls Tryz.prog 16 #[.pointer (some ⟨d, 0, none⟩), .int .i64 off, .string x] W fun e W' => e = .returned (.int .i64 (s.writeE off x)) ∧ (∃ F' vp', RefD W' F' d g c vp' n (s.wr off x) ∧ ∀ k, F' k → F k ∨ W.heap.size ≤ k) ∧ Turns F W W' := by
  have c0 : W.cell? ⟨d, 0, none⟩ = some (.slice (some ⟨g, 0, none⟩) n c) := h.cell 0
  have c1 : W.cell? ⟨d, 1, none⟩ = some vp := h.cell 1
  have c2 : W.cell? ⟨d, 2, none⟩ = some (.bool s.off) := h.cell 2
  have H0 := Lib.hid h
  have hn := h.n64
  have HLV := Lib.hid h.lv
  unfold DS.writeE DS.wr
  rw [h.lv]
  clear h
  obtain ⟨b, hb⟩ : ∃ b, s.off = b := ⟨_, rfl⟩
  have HBO := Lib.hid hb
  rw [hb] at c2 ⊢
  clear hb
  cases b
  · simp only [Bool.false_eq_true, if_false]
    by_cases hin : insB n off x.size = true
    · have hi := hin
      unfold insB at hi
      simp only [Bool.and_eq_true, decide_eq_true_eq] at hi
      obtain ⟨⟨⟨x1, x2⟩, x3⟩, x4⟩ := hi
      rw [hin, if_pos rfl, if_pos rfl]
      obtain ⟨o, rfl⟩ : ∃ o : Nat, off = o := ⟨off.toNat, by omega⟩
      rw [Int.toNat_natCast]
      have d1 : decide ((o : Int) < 0) = false := by simp
      have d2 : decide (n < o) = false := by simp; omega
      have w1 : IntKind.i64.wrap ((n : Int) - (o : Int)) = ((n - o : Nat) : Int) := by rw [IntKind.wrap_i64]; omega
      have d3 : decide (n - o < x.size) = false := by simp; omega
      have d4 : ¬ n < o := by omega
      have d5 : ¬ n - o < x.size := by omega
      have HFIT := Lib.hid (show o + x.size ≤ n by omega)
      have HL := Lib.hid hleft
      have HPL := Lib.hid hp
      clear hin x1 x2 x3 x4 hleft hp hx
      obtain ⟨vA, vc, hvp, -, -⟩ := H0.out.pp.slice
      have HO := Lib.hid H0.out.pp
      have HNP := Lib.hid H0.out.np
      have HDL := Lib.hid (H0.out.lf d H0.out.fd.1)
      have HA1 := Lib.hid (H0.out.keep (Z := fun _ => False) (Turns.alloc W (.cells #[.int .i64 (o : Int), .string x] 100)) (fun _ _ q => q))
      obtain ⟨LL, hLL⟩ : ∃ LL, s.left = LL := ⟨_, rfl⟩
      have HVC : Hid (∀ i, W.cell? ⟨d, i, none⟩ = (#[.slice (some ⟨g, 0, none⟩) n c, .slice vA s.pend.length vc, .bool false, .int .i64 (LL : Int)] : Array Value)[i]?) := Lib.hid (fun i => by have := H0.out.cell i; rw [hvp, HBO.out, hLL] at this; exact this)
      have HVF := Lib.hid H0.out.free
      have HLB : Hid (LL ≤ 9223372036854775807) := Lib.hid (by rw [← hLL]; exact HL.out)
      have HLL := Lib.hid hLL
      clear hLL
      subst hvp
      by_cases hl0 : LL = 0
      · have g1 : decide (0 < LL) = false := by rw [hl0]; rfl
        have g2 : decide ((0 : Int) < (LL : Int)) = false := by rw [hl0]; rfl
        have HL0 := Lib.hid hl0
        clear hl0
        go_enter Tryz.func16, Tryz.ntmps16
        go_wp2_with (first
          | (at_builtin
             go_must (refine wpList_app rfl (.tmp 38) (.tmp 42) 65 rfl elemC _ s.pend s.pend.length rfl rfl (HO.out.alloc _) (o, x) W.heap.size #[.int .i64 (o : Int), .string x] rfl ?hc rfl rfl (fun u hu => by simp [wf] at hu; rcases hu with rfl | rfl <;> rfl) (by have := HPL.out; unfold maxLen; omega) (by have := HPL.out; omega) (Nat.zero_le _) ?_)
             (case hc => exact World.alloc_heap_new _ _)
             intro g5 c5 W5 h5 hg5 hg5' hg5l hb5
             have hbd := grown_cell hg5 (k := d) (by rw [World.size_alloc]; have := HDL.out; omega) (fun q e => (HNP.out q e).1)
             have hbd2 := hbd.trans (Below.heap_alloc W (.cells #[.int .i64 (o : Int), .string x] 100) d HDL.out)
             have a1 : W5.cell? ⟨d, 1, none⟩ = some (.slice vA s.pend.length vc) := (World.cell?_of_block (a := ⟨d, 1, none⟩) hbd2).trans (HVC.out 1)
             have a2 : W5.cell? ⟨d, 2, none⟩ = some (.bool false) := (World.cell?_of_block (a := ⟨d, 2, none⟩) hbd2).trans (HVC.out 2)
             have a3 : W5.cell? ⟨d, 3, none⟩ = some (.int .i64 (LL : Int)) := (World.cell?_of_block (a := ⟨d, 3, none⟩) hbd2).trans (HVC.out 3)
             have b1 : W5.frozen? ⟨d, 1, none⟩ = false := (World.frozen?_of_block (a := ⟨d, 1, none⟩) hbd2).trans (HVF.out 1)
             have b2 : W5.frozen? ⟨d, 2, none⟩ = false := (World.frozen?_of_block (a := ⟨d, 2, none⟩) hbd2).trans (HVF.out 2)
             have b3 : W5.frozen? ⟨d, 3, none⟩ = false := (World.frozen?_of_block (a := ⟨d, 3, none⟩) hbd2).trans (HVF.out 3)
             have HG := Lib.hid (HA1.out.grow hg5 g5 _ c5 o x h5 HFIT.out hg5' hg5l)
             have HSZ : Hid (W.heap.size ≤ (W.alloc (.cells #[.int .i64 (o : Int), .string x] 100)).heap.size) := Lib.hid (by rw [World.size_alloc]; omega)
             clear hbd hbd2 h5 hg5 hg5' hg5l hb5)
          | fail)
        go_ret
        refine ⟨rfl, ⟨?F1, ?v1, ?x10, ?x20⟩, (Turns.alloc W _).trans HG.out.2⟩
        case x10 =>
          unfold DS.write DS.used
          dsimp only
          rw [if_pos (by rw [HLL.out, HL0.out])]
          exact HG.out.1
        case x20 =>
          intro k hk
          rcases hk with hk | hk
          · exact .inl hk
          · exact .inr (Nat.le_trans HSZ.out hk.1)
      · by_cases hm0 : LL - 1 = 0
        · replace hm0 : ∀ m, LL = m + 1 → m = 0 := fun m e => by omega
          obtain ⟨m, hm⟩ : ∃ m, LL = m + 1 := ⟨LL - 1, by omega⟩
          replace hm0 := hm0 m hm
          have g1 : decide (0 < LL) = true := by simp; omega
          have g2 : decide ((0 : Int) < (LL : Int)) = true := by simp; omega
          have g3 : IntKind.i64.wrap ((LL : Int) - 1) = (m : Int) := by have := HLB.out; rw [IntKind.wrap_i64]; omega
          have g6 : (0 : Int) < (LL : Int) := by omega
          have g7 : 0 < LL := by omega
          have g4 : ((m : Int) == 0) = true := by simp [hm0]
          have hm0' : m = 0 := hm0
          have HM0 := Lib.hid hm0'
          clear hm0 hm0'
          have HM := Lib.hid hm
          clear hm hl0
          go_enter Tryz.func16, Tryz.ntmps16
          go_wp2_with (first
            | (at_builtin
               go_must (refine wpList_app rfl (.tmp 38) (.tmp 42) 65 rfl elemC _ s.pend s.pend.length rfl rfl (HO.out.alloc _) (o, x) W.heap.size #[.int .i64 (o : Int), .string x] rfl ?hc rfl rfl (fun u hu => by simp [wf] at hu; rcases hu with rfl | rfl <;> rfl) (by have := HPL.out; unfold maxLen; omega) (by have := HPL.out; omega) (Nat.zero_le _) ?_)
               (case hc => exact World.alloc_heap_new _ _)
               intro g5 c5 W5 h5 hg5 hg5' hg5l hb5
               have hbd := grown_cell hg5 (k := d) (by rw [World.size_alloc]; have := HDL.out; omega) (fun q e => (HNP.out q e).1)
               have hbd2 := hbd.trans (Below.heap_alloc W (.cells #[.int .i64 (o : Int), .string x] 100) d HDL.out)
               have a1 : W5.cell? ⟨d, 1, none⟩ = some (.slice vA s.pend.length vc) := (World.cell?_of_block (a := ⟨d, 1, none⟩) hbd2).trans (HVC.out 1)
               have a2 : W5.cell? ⟨d, 2, none⟩ = some (.bool false) := (World.cell?_of_block (a := ⟨d, 2, none⟩) hbd2).trans (HVC.out 2)
               have a3 : W5.cell? ⟨d, 3, none⟩ = some (.int .i64 (LL : Int)) := (World.cell?_of_block (a := ⟨d, 3, none⟩) hbd2).trans (HVC.out 3)
               have b1 : W5.frozen? ⟨d, 1, none⟩ = false := (World.frozen?_of_block (a := ⟨d, 1, none⟩) hbd2).trans (HVF.out 1)
               have b2 : W5.frozen? ⟨d, 2, none⟩ = false := (World.frozen?_of_block (a := ⟨d, 2, none⟩) hbd2).trans (HVF.out 2)
               have b3 : W5.frozen? ⟨d, 3, none⟩ = false := (World.frozen?_of_block (a := ⟨d, 3, none⟩) hbd2).trans (HVF.out 3)
               have HG := Lib.hid (HA1.out.grow hg5 g5 _ c5 o x h5 HFIT.out hg5' hg5l)
               have HSZ : Hid (W.heap.size ≤ (W.alloc (.cells #[.int .i64 (o : Int), .string x] 100)).heap.size) := Lib.hid (by rw [World.size_alloc]; omega)
               clear hbd hbd2 h5 hg5 hg5' hg5l hb5)
            | fail)
          go_ret
          have hg := HG.out.1
          have h3 := hg.put 3 (.int .i64 (m : Int)) { s with pend := s.pend ++ [(o, x)], vis := patch s.vis o x.data.toList, left := m } _ rfl rfl hg.fit hg.pp hg.np hg.fp hg.app
          have h4 := h3.1.put 2 (.bool true) { s with pend := s.pend ++ [(o, x)], vis := patch s.vis o x.data.toList, left := m, off := true } _ rfl rfl hg.fit h3.1.pp hg.np hg.fp hg.app
          refine ⟨rfl, ⟨?F3, ?v3, ?x12, ?x22⟩, ((Turns.alloc W _).trans HG.out.2).then (h3.2.trans h4.2) (fun k hk => by
              rcases hk with hk | hk
              · exact .inl hk
              · exact .inr (Nat.le_trans HSZ.out hk.1))⟩
          case x12 =>
            unfold DS.write DS.used
            dsimp only
            rw [if_neg (by rw [HLL.out, HM.out]; omega)]
            have := h4.1
            rw [show s.left - 1 = m by rw [HLL.out, HM.out]; omega, show decide (m = 0) = true by simp [HM0.out]]
            exact this
          case x22 =>
            intro k hk
            rcases hk with hk | hk
            · exact .inl hk
            · exact .inr (Nat.le_trans HSZ.out hk.1)
        · replace hm0 : ∀ m, LL = m + 1 → m ≠ 0 := fun m e => by omega
          obtain ⟨m, hm⟩ : ∃ m, LL = m + 1 := ⟨LL - 1, by omega⟩
          replace hm0 := hm0 m hm
          have g1 : decide (0 < LL) = true := by simp; omega
          have g2 : decide ((0 : Int) < (LL : Int)) = true := by simp; omega
          have g3 : IntKind.i64.wrap ((LL : Int) - 1) = (m : Int) := by have := HLB.out; rw [IntKind.wrap_i64]; omega
          have g6 : (0 : Int) < (LL : Int) := by omega
          have g7 : 0 < LL := by omega
          have g4 : ((m : Int) == 0) = false := by simp; omega
          have hm0' : m ≠ 0 := hm0
          have HM0 := Lib.hid hm0'
          clear hm0 hm0'
          have HM := Lib.hid hm
          clear hm hl0
          go_enter Tryz.func16, Tryz.ntmps16
          go_wp2_with (first
            | (at_builtin
               go_must (refine wpList_app rfl (.tmp 38) (.tmp 42) 65 rfl elemC _ s.pend s.pend.length rfl rfl (HO.out.alloc _) (o, x) W.heap.size #[.int .i64 (o : Int), .string x] rfl ?hc rfl rfl (fun u hu => by simp [wf] at hu; rcases hu with rfl | rfl <;> rfl) (by have := HPL.out; unfold maxLen; omega) (by have := HPL.out; omega) (Nat.zero_le _) ?_)
               (case hc => exact World.alloc_heap_new _ _)
               intro g5 c5 W5 h5 hg5 hg5' hg5l hb5
               have hbd := grown_cell hg5 (k := d) (by rw [World.size_alloc]; have := HDL.out; omega) (fun q e => (HNP.out q e).1)
               have hbd2 := hbd.trans (Below.heap_alloc W (.cells #[.int .i64 (o : Int), .string x] 100) d HDL.out)
               have a1 : W5.cell? ⟨d, 1, none⟩ = some (.slice vA s.pend.length vc) := (World.cell?_of_block (a := ⟨d, 1, none⟩) hbd2).trans (HVC.out 1)
               have a2 : W5.cell? ⟨d, 2, none⟩ = some (.bool false) := (World.cell?_of_block (a := ⟨d, 2, none⟩) hbd2).trans (HVC.out 2)
               have a3 : W5.cell? ⟨d, 3, none⟩ = some (.int .i64 (LL : Int)) := (World.cell?_of_block (a := ⟨d, 3, none⟩) hbd2).trans (HVC.out 3)
               have b1 : W5.frozen? ⟨d, 1, none⟩ = false := (World.frozen?_of_block (a := ⟨d, 1, none⟩) hbd2).trans (HVF.out 1)
               have b2 : W5.frozen? ⟨d, 2, none⟩ = false := (World.frozen?_of_block (a := ⟨d, 2, none⟩) hbd2).trans (HVF.out 2)
               have b3 : W5.frozen? ⟨d, 3, none⟩ = false := (World.frozen?_of_block (a := ⟨d, 3, none⟩) hbd2).trans (HVF.out 3)
               have HG := Lib.hid (HA1.out.grow hg5 g5 _ c5 o x h5 HFIT.out hg5' hg5l)
               have HSZ : Hid (W.heap.size ≤ (W.alloc (.cells #[.int .i64 (o : Int), .string x] 100)).heap.size) := Lib.hid (by rw [World.size_alloc]; omega)
               clear hbd hbd2 h5 hg5 hg5' hg5l hb5)
            | fail)
          go_ret
          have hg := HG.out.1
          have h3 := hg.put 3 (.int .i64 (m : Int)) { s with pend := s.pend ++ [(o, x)], vis := patch s.vis o x.data.toList, left := m } _ rfl rfl hg.fit hg.pp hg.np hg.fp hg.app
          refine ⟨rfl, ⟨?F2, ?v2, ?x11, ?x21⟩, ((Turns.alloc W _).trans HG.out.2).then h3.2 (fun k hk => by
              rcases hk with hk | hk
              · exact .inl hk
              · exact .inr (Nat.le_trans HSZ.out hk.1))⟩
          case x11 =>
            unfold DS.write DS.used
            dsimp only
            rw [if_neg (by rw [HLL.out, HM.out]; omega)]
            have := h3.1
            rw [show s.left - 1 = m by rw [HLL.out, HM.out]; omega, show decide (m = 0) = s.off by rw [HBO.out]; simp [HM0.out]]
            exact this
          case x21 =>
            intro k hk
            rcases hk with hk | hk
            · exact .inl hk
            · exact .inr (Nat.le_trans HSZ.out hk.1)
    · rw [if_neg hin, if_neg hin]
      by_cases b1 : off < 0
      · have e1 : decide (off < 0) = true := by simp [b1]
        clear hin
        go_enter Tryz.func16, Tryz.ntmps16
        go_wp2_with fail
        go_ret
        exact ⟨rfl, ⟨F, _, H0.out, fun k hk => .inl hk⟩, Turns.refl _ _⟩
      · obtain ⟨o, rfl⟩ : ∃ o : Nat, off = o := ⟨off.toNat, by omega⟩
        have e1 : decide ((o : Int) < 0) = false := by simp
        by_cases b2 : n < o
        · have e2 : decide (n < o) = true := by simp [b2]
          clear hin b1
          go_enter Tryz.func16, Tryz.ntmps16
          go_wp2_with fail
          go_ret
          exact ⟨rfl, ⟨F, _, H0.out, fun k hk => .inl hk⟩, Turns.refl _ _⟩
        · have b3 : n - o < x.size := by
            rcases Nat.lt_or_ge (n - o) x.size with q | q
            · exact q
            · exfalso; apply hin; exact insB_fit (by omega)
          have w1 : IntKind.i64.wrap ((n : Int) - (o : Int)) = ((n - o : Nat) : Int) := by rw [IntKind.wrap_i64]; omega
          have e2 : decide (n < o) = false := by simp; omega
          have e3 : decide (n - o < x.size) = true := by simp [b3]
          clear hin b1
          go_enter Tryz.func16, Tryz.ntmps16
          go_wp2_with fail
          go_ret
          exact ⟨rfl, ⟨F, _, H0.out, fun k hk => .inl hk⟩, Turns.refl _ _⟩
  · rw [if_pos rfl, if_pos rfl]
    go_enter Tryz.func16, Tryz.ntmps16
    go_wp2_with fail
    go_ret
    exact ⟨rfl, ⟨F, _, H0.out, fun k hk => .inl hk⟩, Turns.refl _ _⟩

end Go.Proofs.YtllmciiadceinaaGreatDoor
end
section
namespace Go.Proofs.YtllmciiadceinaaGreatDoor
open Go Go.RowKit Go.Shelf Go.Sort

theorem elemB : Elem Tryz.prog 39 5 1 1 := Elem.mk' (z := .int .u8 0) Tryz.underlying39 (by kernel_rfl) rfl (by omega)
theorem OL.litB {B : Nat} (W : World) (hB : B ≤ W.heap.size) : OL (W.alloc (.cells #[] 5)) B 5 1 (one bv) (.slice (some ⟨W.heap.size, 0, none⟩) 0 0) [] :=
  ⟨rfl, .inr ⟨W.heap.size, 0, _, rfl, hB, World.alloc_heap_new W _, Nat.le_refl _, by unfold maxLen; omega, rfl, rfl⟩⟩
theorem RAt.cat {W : World} {g : Nat} {l : List UInt8} (h : RAt W g bv l) : ∀ j x, (l.flatMap (one bv))[j]? = some x → ∃ a, (some ⟨g, 0, none⟩ : Option Addr) = some a ∧ W.cell? (a.add j) = some x := by
  intro j x hx
  rw [flatMap_one, List.getElem?_map] at hx
  obtain ⟨y, hy, rfl⟩ := Option.map_eq_some_iff.1 hx
  exact ⟨_, rfl, by rw [show (⟨g, 0, none⟩ : Addr).add j = ⟨g, j, none⟩ by simp [Addr.add]; omega]; exact h.cell j y hy⟩
theorem applyP_take {pend : List (Nat × ByteArray)} {d : List UInt8} {k : Nat} (hk : k < pend.length) : applyP (pend.take (k + 1)) d = patch (applyP (pend.take k) d) pend[k].1 pend[k].2.data.toList := by
  rw [List.take_succ_eq_append_getElem hk]; exact applyP_snoc _ _ _ _

set_option maxRecDepth 100000 in
set_option maxHeartbeats 8000000 in
theorem visible_walk {W : World} {F : Nat → Prop} {d g c n : Nat} {vp : Value} {s : DS} (h : RefD W F d g c vp n s) (hn1 : 1 ≤ n) (hp : s.pend.length ≤ 1000000) :
    Calls Tryz.prog 23 #[.pointer (some ⟨d, 0, none⟩)] W fun e W' => ∃ q cq, e = .returned (.slice (some ⟨q, 0, none⟩) n cq) ∧ RAt W' q bv s.vis ∧ W.heap.size ≤ q ∧ n ≤ cq ∧ Below W.heap.size W W' := by
  have c0 : W.cell? ⟨d, 0, none⟩ = some (.slice (some ⟨g, 0, none⟩) n c) := h.cell 0
  obtain ⟨vA, vc, hvp, -, -⟩ := h.pp.slice
  subst hvp
  have H0 := Lib.hid h
  have hn := h.n64
  have hdl := h.lf d h.fd.1
  have c0' : (W.alloc (.cells #[] 5)).cell? ⟨d, 0, none⟩ = some (.slice (some ⟨g, 0, none⟩) n c) := (h.keep (Z := fun _ => False) (Turns.alloc W _) (fun _ _ q => q)).cell 0
  clear h
  go_enter Tryz.func23, Tryz.ntmps23
  go_wp2_with (first
    | (at_builtin
       go_must (refine wpList_cat rfl (.tmp 5) (.tmp 9) 39 rfl elemB (fun _ => rfl) _ ([] : List UInt8) rfl (OL.litB (B := W.heap.size) W (Nat.le_refl _)) (some ⟨g, 0, none⟩) s.dur n c H0.out.ld rfl (fun q => by cases q) (H0.out.rd.alloc _).cat (fun y _ u hu => by rw [List.mem_singleton.1 hu]; rfl) (by show 0 + n ≤ maxLen; unfold maxLen; omega) (by show (0 + n) * 1 ≤ _; omega) (by simp) ?_)
       intro v3 w3 h3 hg3 hb3
       obtain ⟨q, cq, hv3, hq1, hq2, hq3, -⟩ := h3.form (by rw [List.nil_append, H0.out.ld]; omega)
       rw [List.nil_append, H0.out.ld] at hv3
       rw [List.nil_append] at h3
       rw [List.nil_append, H0.out.ld] at hq3
       subst hv3
       have HQ := Lib.hid (And.intro h3 (And.intro hb3 (And.intro hq1 (And.intro hq2 hq3))))
       clear h3 hg3 hb3 hq1 hq2 hq3)
    | fail)
  have HRQ := Lib.hid (RAt.of_row (l := s.dur) (base := W.heap.size) (e := 5) (n := n) (cap := cq) (w := w3) (by
    have := HQ.out.1; unfold OL at this; rw [flatMap_one, H0.out.ld] at this; exact this))
  have HB3 := Lib.hid (((Below.refl W.heap.size W).alloc (Nat.le_refl _) (.cells #[] 5)).trans HQ.out.2.1)
  obtain ⟨m, hm⟩ : ∃ m, s.pend.length = m := ⟨_, rfl⟩
  have HM := Lib.hid hm
  have HPP := Lib.hid H0.out.pp
  rw [hm] at hp
  clear c0 c0'
  go_loopw [4] (fun v wr => ∃ k : Nat, k ≤ m ∧ v = .int .i64 (k : Int) ∧ RAt wr q bv (applyP (s.pend.take k) s.dur) ∧ Below W.heap.size W wr) (fun v _ => m - (intOf v).toNat)
  case atStart => exact ⟨0, by omega, rfl, HRQ.out, HB3.out⟩
  case round =>
    obtain ⟨k, hk, rfl, hr, hb⟩ := hrel
    have HR := Lib.hid hr
    have HB := Lib.hid hb
    have HD := Lib.hid (H0.out.keep (Turns.of_below (Z := fun _ => False) hb) (fun _ _ q => q))
    clear hr hb
    have c1 : wr.cell? ⟨d, 1, none⟩ = some (.slice vA m vc) := by rw [HD.out.cell 1, hm]; rfl
    by_cases hlt : k < m
    · have d1 : decide ((k : Int) < (m : Int)) = true := by simp [hlt]
      have hkl : k < s.pend.length := by rw [hm]; exact hlt
      obtain ⟨x, hx⟩ : ∃ x, s.pend[k]'hkl = x := ⟨_, rfl⟩
      have hxq : s.pend[k]? = some x := by rw [List.getElem?_eq_getElem hkl, hx]
      have hfit := HD.out.fit x (by rw [← hx]; exact List.getElem_mem hkl)
      have hat := applyP_take (d := s.dur) hkl
      rw [hx] at hat
      obtain ⟨o, bs⟩ := x
      have hpp := HD.out.pp
      obtain ⟨pg, c2, hpe, -, -, -, -⟩ := hpp.form (by omega)
      obtain rfl : vA = some ⟨pg, 0, none⟩ := by injection hpe
      obtain ⟨q1, q2⟩ := hpp.get2 hxq
      have hpl : (applyP (s.pend.take k) s.dur).length = n := by rw [applyP_length _ _ (fun y hy => by rw [H0.out.ld]; exact H0.out.fit y (List.mem_of_mem_take hy)), H0.out.ld]
      have hlp := hpp.lt pg rfl
      have HAT := Lib.hid hat
      dsimp only at hfit q1 q2
      have HON := Lib.hid (applyC_walk (wr.drewN 1) q n cq o _ bs (HR.out.drewN 1) hpl hfit hn)
      have y1 : (0 : Int) ≤ (k : Int) := by omega
      have y2 : (k : Int) < (m : Int) := by omega
      have w2 : IntKind.i64.wrap ((k : Int) + 1) = ((k + 1 : Nat) : Int) := by rw [IntKind.wrap_i64]; omega
      have HS0 : Hid (wr.cell? ⟨d, 1, none⟩ = some (.slice (some ⟨pg, 0, none⟩) m vc) ∧ wr.cell? ⟨pg, k * 2, none⟩ = some (.int .i64 (o : Int)) ∧ wr.cell? ⟨pg, k * 2 + 1, none⟩ = some (.string bs)) := Lib.hid ⟨c1, q1, q2⟩
      have HSN : Hid (∀ W2, Turns (fun j => j = q) (wr.drewN 1) W2 → W2.cell? ⟨d, 1, none⟩ = some (.slice (some ⟨pg, 0, none⟩) m vc) ∧ W2.cell? ⟨pg, k * 2, none⟩ = some (.int .i64 (o : Int)) ∧ W2.cell? ⟨pg, k * 2 + 1, none⟩ = some (.string bs)) := Lib.hid (fun W2 ht => by
        have hq0 := HQ.out.2.2.1
        have hdl2 := HD.out.lf d HD.out.fd.1
        have hpg := H0.out.lf pg (H0.out.fp pg rfl)
        have b1 := ht.block d hdl2 (fun e => by omega)
        have b2 := ht.block pg hlp.2 (fun e => by omega)
        exact ⟨(World.cell?_of_block (a := ⟨d, 1, none⟩) b1).trans c1, (World.cell?_of_block (a := ⟨pg, k * 2, none⟩) b2).trans q1, (World.cell?_of_block (a := ⟨pg, k * 2 + 1, none⟩) b2).trans q2⟩)
      clear hkl hx hxq hfit hat hpp hpe hpl hlp
      go_wp2_with fail
      go_region_held3 (fun w' => w'.cell? ⟨d, 1, none⟩ = some (.slice (some ⟨pg, 0, none⟩) m vc) ∧ w'.cell? ⟨pg, k * 2, none⟩ = some (.int .i64 (o : Int)) ∧ w'.cell? ⟨pg, k * 2 + 1, none⟩ = some (.string bs)) (first | exact HS0.out | exact HSN.out _ (by assumption) | fail)
        (first | (go_at_call 53; refine HON.out.mono ?_; rintro e W2 ⟨rfl, hr2, ht2⟩) | fail)
      all_goals go_wp2_with fail
      all_goals exact ⟨⟨k + 1, by omega, rfl, by rw [HAT.out]; exact hr2, ht2.below (Below.drewN' HB.out 1) (Nat.le_refl _) (fun j e => by rw [e]; exact HQ.out.2.2.1)⟩, by simp [intOf]; omega⟩
    · obtain rfl : m = k := by omega
      have d1 : decide ((m : Int) < (m : Int)) = false := by simp
      clear hlt hk
      go_wp2_with fail
      go_ret
      refine ⟨q, cq, rfl, ?_, HQ.out.2.2.1, HQ.out.2.2.2.2, HB.out⟩
      have := HR.out
      rw [← HM.out, List.take_length, ← H0.out.app] at this
      exact this

/-- The reference has other durable bytes and an empty log. -/
theorem RefD.fresh {W W1 : World} {F : Nat → Prop} {d g c n : Nat} {vp : Value} {s : DS} (h : RefD W F d g c vp n s) (t : Turns (fun _ => False) W W1) (q cq : Nat) (m : List UInt8) (hr : RAt W1 q bv m) (hm : m.length = n) (hq : W.heap.size ≤ q) :
    RefD ((W1.setCell ⟨d, 0, none⟩ (.slice (some ⟨q, 0, none⟩) n cq)).setCell ⟨d, 1, none⟩ (.slice none 0 0)) (fun k => F k ∨ k = q) d q cq (.slice none 0 0) n { s with dur := m, vis := m, pend := [] } ∧
      Turns F W ((W1.setCell ⟨d, 0, none⟩ (.slice (some ⟨q, 0, none⟩) n cq)).setCell ⟨d, 1, none⟩ (.slice none 0 0)) := by
  obtain ⟨f1, f2⟩ := h.fd
  have l1 := h.lf d f1
  have hne : d ≠ q := by omega
  have t1 : Turns (fun k => k = d) W1 (W1.setCell ⟨d, 0, none⟩ (.slice (some ⟨q, 0, none⟩) n cq)) := Turns.setCell W1 _ _ rfl
  have t2 : Turns (fun k => k = d) (W1.setCell ⟨d, 0, none⟩ (.slice (some ⟨q, 0, none⟩) n cq)) ((W1.setCell ⟨d, 0, none⟩ (.slice (some ⟨q, 0, none⟩) n cq)).setCell ⟨d, 1, none⟩ (.slice none 0 0)) := Turns.setCell _ _ _ rfl
  have hT : Turns F W _ := (t.mono (fun _ (e : False) => e.elim)).trans ((t1.trans t2).mono (fun k (e : k = d) => by rw [e]; exact f1))
  have bd := (t.block d l1 (fun e => e)).trans h.hd
  refine ⟨⟨?_, (hr.other ⟨d, 0, none⟩ hne _).other ⟨d, 1, none⟩ hne _, hm, OL.nil, fun x hx => absurd hx (by simp), hne, fun k hk => (by cases hk), ⟨.inl f1, .inr rfl⟩, fun k hk => (by cases hk), fun k hk => ?_, h.n64, rfl⟩, hT⟩
  · simp only [World.setCell, Array.getElem?_modify, bd]
    simp
  · rcases hk with hk | hk
    · exact Nat.lt_of_lt_of_le (h.lf k hk) hT.size
    · rw [hk]; exact Nat.lt_of_lt_of_le hr.lt (t1.trans t2).size

set_option maxRecDepth 100000 in
set_option maxHeartbeats 8000000 in
theorem refsyncD_walk {W : World} {F : Nat → Prop} {d g c n : Nat} {vp : Value} {s : DS} (h : RefD W F d g c vp n s) (hn1 : 1 ≤ n) (hp : s.pend.length ≤ 1000000) :
    Calls Tryz.prog 45 #[.pointer (some ⟨d, 0, none⟩)] W fun e W' => e = .returned (.int .i64 (chkE s)) ∧ (∃ F' g' c' vp', RefD W' F' d g' c' vp' n s.sync ∧ ∀ k, F' k → F k ∨ W.heap.size ≤ k) ∧ Turns F W W' := by
  have c2 : W.cell? ⟨d, 2, none⟩ = some (.bool s.off) := h.cell 2
  have H0 := Lib.hid h
  have HV := Lib.hid (visible_walk h hn1 hp)
  have HLV := Lib.hid h.lv
  unfold DS.sync chkE
  clear h
  obtain ⟨b, hb⟩ : ∃ b, s.off = b := ⟨_, rfl⟩
  have HBO := Lib.hid hb
  rw [hb] at c2 ⊢
  clear hb
  cases b
  · simp only [Bool.false_eq_true, if_false]
    go_enter Tryz.func45, Tryz.ntmps45
    go_wp2_with fail
    refine HV.out.mono ?_
    rintro e W1 ⟨q, cq, rfl, hr, hq, hcq, hb⟩
    have t : Turns (fun _ => False) W W1 := Turns.of_below hb
    have hd1 := H0.out.keep t (fun _ _ e => e)
    have a0 : W1.cell? ⟨d, 0, none⟩ = some (.slice (some ⟨g, 0, none⟩) n c) := hd1.cell 0
    have a1 : W1.cell? ⟨d, 1, none⟩ = some vp := hd1.cell 1
    have b0 := hd1.free 0
    have b1 := hd1.free 1
    have hf := H0.out.fresh t q cq s.vis hr HLV.out hq
    rw [HBO.out] at hf
    have HF := Lib.hid hf
    have HQ := Lib.hid hq
    clear t hd1 hr hq hcq hb hf
    go_wp2_with fail
    go_ret
    refine ⟨rfl, ⟨_, _, _, _, HF.out.1, fun k hk => ?_⟩, HF.out.2⟩
    rcases hk with hk | hk
    · exact .inl hk
    · exact .inr (by rw [hk]; exact HQ.out)
  · rw [if_pos rfl, if_pos rfl]
    go_enter Tryz.func45, Tryz.ntmps45
    go_wp2_with fail
    go_ret
    exact ⟨rfl, ⟨F, g, c, vp, H0.out, fun k hk => .inl hk⟩, Turns.refl _ _⟩

set_option maxRecDepth 100000 in
set_option maxHeartbeats 8000000 in
theorem refreadD_walk {W : World} {F : Nat → Prop} {d g c n : Nat} {vp : Value} {s : DS} (h : RefD W F d g c vp n s) (hn1 : 1 ≤ n) (hp : s.pend.length ≤ 1000000) (off m : Int) :
    Calls Tryz.prog 74 #[.pointer (some ⟨d, 0, none⟩), .int .i64 off, .int .i64 m] W fun e W' => e = .returned (.tuple #[.string (s.read off m).1, .int .i64 (s.read off m).2]) ∧ Below W.heap.size W W' := by
  have c0 : W.cell? ⟨d, 0, none⟩ = some (.slice (some ⟨g, 0, none⟩) n c) := h.cell 0
  have c2 : W.cell? ⟨d, 2, none⟩ = some (.bool s.off) := h.cell 2
  have HV := Lib.hid (visible_walk h hn1 hp)
  have HLV := Lib.hid h.lv
  have hn := h.n64
  unfold DS.read
  rw [h.lv]
  clear h
  obtain ⟨b, hb⟩ : ∃ b, s.off = b := ⟨_, rfl⟩
  rw [hb] at c2 ⊢
  clear hb
  cases b
  · simp only [Bool.false_eq_true, if_false]
    by_cases b1 : off < 0
    · have e1 : decide (off < 0) = true := by simp [b1]
      rw [if_neg (by unfold insB; simp; omega)]
      go_enter Tryz.func74, Tryz.ntmps74
      go_wp2_with fail
      go_ret2
      exact ⟨rfl, Below.refl _ _⟩
    · obtain ⟨o, rfl⟩ : ∃ o : Nat, off = o := ⟨off.toNat, by omega⟩
      have e1 : decide ((o : Int) < 0) = false := by simp
      by_cases b2 : m < 0
      · have e2 : decide (m < 0) = true := by simp [b2]
        rw [if_neg (by unfold insB; simp; omega)]
        go_enter Tryz.func74, Tryz.ntmps74
        go_wp2_with fail
        go_ret2
        exact ⟨rfl, Below.refl _ _⟩
      · obtain ⟨k, rfl⟩ : ∃ k : Nat, m = k := ⟨m.toNat, by omega⟩
        have e2 : decide ((k : Int) < 0) = false := by simp
        by_cases b3 : n < o
        · have e3 : decide (n < o) = true := by simp [b3]
          rw [if_neg (by unfold insB; simp; omega)]
          go_enter Tryz.func74, Tryz.ntmps74
          go_wp2_with fail
          go_ret2
          exact ⟨rfl, Below.refl _ _⟩
        · have e3 : decide (n < o) = false := by simp; omega
          have w1 : IntKind.i64.wrap ((n : Int) - (o : Int)) = ((n - o : Nat) : Int) := by rw [IntKind.wrap_i64]; omega
          by_cases b4 : n - o < k
          · have e4 : decide (n - o < k) = true := by simp [b4]
            rw [if_neg (by unfold insB; simp; omega)]
            go_enter Tryz.func74, Tryz.ntmps74
            go_wp2_with fail
            go_ret2
            exact ⟨rfl, Below.refl _ _⟩
          · have e4 : decide (n - o < k) = false := by simp; omega
            rw [if_pos (insB_fit (by omega)), Int.toNat_natCast, Int.toNat_natCast]
            have w3 : IntKind.i64.wrap ((o : Int) + (k : Int)) = ((o + k : Nat) : Int) := by rw [IntKind.wrap_i64]; omega
            obtain ⟨L, hL⟩ : ∃ L, (s.vis.drop o).take k = L := ⟨_, rfl⟩
            have hLl : L.length = k := by rw [← hL, List.length_take, List.length_drop, HLV.out]; omega
            rw [hL]
            have HL := Lib.hid hL
            clear hL
            go_enter Tryz.func74, Tryz.ntmps74
            go_wp2_with fail
            refine HV.out.mono ?_
            rintro e W1 ⟨q, cq, rfl, hr, hq, hcq, hb⟩
            have HB := Lib.hid hb
            have z1 : (0 : Int) ≤ (o : Int) := by omega
            have z2 : (o : Int) ≤ ((o + k : Nat) : Int) := by omega
            have z3 : ((o + k : Nat) : Int) ≤ (cq : Int) := by omega
            have HRR := Lib.hid hr
            clear hr hb
            by_cases hoc : o = cq
            · have hk0 : k = 0 := by omega
              subst hk0
              obtain rfl : L = [] := List.length_eq_zero_iff.1 hLl
              subst hoc
              have hcv : (Go.convert 39 9 (.slice (some ⟨q, 0, none⟩) (0 : Nat) (0 : Nat))).run Tryz.prog W1 = .ok (.string ⟨([] : List UInt8).toArray⟩) W1 :=
                run_convert_bytes_back W1 _ _ _ ⟨q, 0, none⟩ 0 [] Tryz.underlying39 Tryz.underlying5 Tryz.underlying9 (fun j hj => absurd hj (by simp))
              go_wp2_with fail
              go_ret2
              exact ⟨rfl, HB.out⟩
            · have hcv : (Go.convert 39 9 (.slice (some ⟨q, o, none⟩) k (cq - o))).run Tryz.prog W1 = .ok (.string ⟨L.toArray⟩) W1 := by
                have := run_convert_bytes_back W1 39 9 5 ⟨q, o, none⟩ (cq - o) L Tryz.underlying39 Tryz.underlying5 Tryz.underlying9 (fun j hj => by
                  have h1 := HRR.out.cell (o + j) L[j] (by
                    have : L[j]? = some L[j] := List.getElem?_eq_getElem hj
                    rw [← this, ← HL.out, List.getElem?_take_of_lt (by omega), List.getElem?_drop])
                  rw [show (⟨q, o, none⟩ : Addr).add j = ⟨q, o + j, none⟩ by simp [Addr.add]]
                  exact h1)
                rw [hLl] at this
                exact this
              have z4 : ¬ cq = o := fun e => hoc e.symm
              clear hLl
              go_wp2_with fail
              go_ret2
              exact ⟨rfl, HB.out⟩
  · rw [if_pos rfl]
    go_enter Tryz.func74, Tryz.ntmps74
    go_wp2_with fail
    go_ret2
    exact ⟨rfl, Below.refl _ _⟩

end Go.Proofs.YtllmciiadceinaaGreatDoor
end
section
namespace Go.Proofs.YtllmciiadceinaaGreatDoor
open Go Go.RowKit Go.Shelf Go.Sort

theorem OL.turns {α : Type} {w w' : World} {B : Nat} {e : TypeId} {size : Nat} {f : α → List Value} {v : Value} {l : List α} {Z : Nat → Prop} (h : OL w B e size f v l) (t : Turns Z w w') (hz : ∀ j, v.ownBlock = some j → ¬ Z j) : OL w' B e size f v l :=
  h.keep fun j hj => t.block j (h.lt j hj).2 (hz j hj)
/-- The survivors' writes, as a list. -/
def selP (pend : List (Nat × ByteArray)) (ord : List Nat) : List (Nat × ByteArray) := ord.filterMap fun i => pend[i]?
/-- They are applied, the last one torn. -/
def crashL (torn : Int) : List (Nat × ByteArray) → List UInt8 → List UInt8
  | [], d => d
  | x :: r, d => crashL torn r (patch d x.1 (if r = [] then tornS torn x.2 else x.2).data.toList)
theorem selP_nil {pend : List (Nat × ByteArray)} {ord : List Nat} (h : ∀ i ∈ ord, i < pend.length) : selP pend ord = [] ↔ ord = [] := by
  cases ord with
  | nil => simp [selP]
  | cons i r =>
    have hi := h i (List.mem_cons_self ..)
    unfold selP
    rw [List.filterMap_cons, List.getElem?_eq_getElem hi]
    simp
theorem crashF_L {pend : List (Nat × ByteArray)} {torn : Int} : ∀ {ord : List Nat} {d : List UInt8}, (∀ i ∈ ord, i < pend.length) → crashF pend torn ord d = crashL torn (selP pend ord) d
  | [], _, _ => rfl
  | i :: r, d, h => by
    have hi := h i (List.mem_cons_self ..)
    have hr : ∀ j ∈ r, j < pend.length := fun j hj => h j (List.mem_cons_of_mem _ hj)
    rw [crashF, crashF_L hr]
    have e : selP pend (i :: r) = pend[i] :: selP pend r := by unfold selP; rw [List.filterMap_cons, List.getElem?_eq_getElem hi]
    rw [e, crashL, List.getElem?_eq_getElem hi]
    dsimp only
    by_cases c : r = []
    · rw [if_pos c, if_pos ((selP_nil hr).2 c)]
    · rw [if_neg c, if_neg (fun q => c ((selP_nil hr).1 q))]
theorem ordS_lt {keep : List Int} {m : Nat} : ∀ i ∈ ordS keep m, i < m := fun i hi => by unfold ordS at hi; have := (List.mem_filter.1 hi).1; simpa using this
theorem ordS_succ (keep : List Int) (k : Nat) : ordS keep (k + 1) = ordS keep k ++ (if decide ((k : Int) ∈ keep) = true then [k] else []) := by
  unfold ordS
  rw [List.range_succ, List.filter_append]
  congr 1
  cases h : decide ((k : Int) ∈ keep) <;> simp [h]
theorem selP_succ {pend : List (Nat × ByteArray)} {keep : List Int} {k : Nat} {x : Nat × ByteArray} (hx : pend[k]? = some x) : selP pend (ordS keep (k + 1)) = selP pend (ordS keep k) ++ (if decide ((k : Int) ∈ keep) = true then [x] else []) := by
  rw [ordS_succ]
  unfold selP
  rw [List.filterMap_append]
  congr 1
  split
  · rw [List.filterMap_cons, hx]; rfl
  · rfl
theorem selP_length (pend : List (Nat × ByteArray)) (keep : List Int) (k : Nat) : (selP pend (ordS keep k)).length ≤ k := by
  have h1 : (selP pend (ordS keep k)).length ≤ (ordS keep k).length := List.length_filterMap_le _ _
  have h2 : (ordS keep k).length ≤ k := by unfold ordS; exact Nat.le_trans (List.length_filter_le _ _) (by simp)
  omega
theorem selP_mem {pend : List (Nat × ByteArray)} {ord : List Nat} {x : Nat × ByteArray} (h : x ∈ selP pend ord) : x ∈ pend := by
  unfold selP at h
  obtain ⟨i, _, hi⟩ := List.mem_filterMap.1 h
  exact List.mem_of_getElem? hi
theorem crashL_step {torn : Int} {l : List (Nat × ByteArray)} {k m o : Nat} {bs : ByteArray} {dk X : List UInt8} (hm : l.length = m) (h : crashL torn (l.drop k) dk = X) (hx : l[k]? = some (o, bs)) :
    crashL torn (l.drop (k + 1)) (patch dk o (if k + 1 = m then tornS torn bs else bs).data.toList) = X := by
  obtain ⟨hk, e⟩ := List.getElem?_eq_some_iff.1 hx
  rw [List.drop_eq_getElem_cons hk, e, crashL] at h
  rw [← h]
  by_cases c : k + 1 = m
  · rw [if_pos c, if_pos (List.drop_eq_nil_iff.2 (by omega))]
  · rw [if_neg c, if_neg (fun q => by have := List.drop_eq_nil_iff.1 q; omega)]

/-- The durable bytes are written. -/
theorem RefD.wrote {W W' : World} {F : Nat → Prop} {d g c n : Nat} {vp : Value} {s : DS} (h : RefD W F d g c vp n s) (m : List UInt8) (hm : m.length = n) (hr : RAt W' g bv m) (t : Turns (fun k => k = g) W W') : RefD W' F d g c vp n { s with dur := m, vis := applyP s.pend m } :=
  ⟨(t.block d (h.lf d h.fd.1) h.ne).trans h.hd, hr, hm, h.pp.keep fun q hq => t.block q (h.pp.lt q hq).2 (h.np q hq).2, h.fit, h.ne, h.np, h.fd, h.fp, fun k hk => Nat.lt_of_lt_of_le (h.lf k hk) t.size, h.n64, rfl⟩

set_option maxRecDepth 100000 in
set_option maxHeartbeats 16000000 in
theorem refcrashD_walk {W : World} {F : Nat → Prop} {d g c n : Nat} {vp : Value} {s : DS} (h : RefD W F d g c vp n s) (A : Option Addr) (keep : List Int) (kn cap : Nat) (hkn : keep.length = kn) (hk : kn ≤ 1000000) (hA : LAt W W.heap.size A iv keep) (torn : Int) (hp : s.pend.length ≤ 1000000) :
    Calls Tryz.prog 67 #[.pointer (some ⟨d, 0, none⟩), .slice A kn cap, .int .i64 torn] W fun e W' => e = .returned (.tuple #[]) ∧ (∃ vp', RefD W' F d g c vp' n (s.crash keep torn)) ∧ Turns F W W' := by
  obtain ⟨vA, vc, hvp, -, -⟩ := h.pp.slice
  subst hvp
  have H0 := Lib.hid h
  obtain ⟨M, hM⟩ : ∃ M, s.pend.length = M := ⟨_, rfl⟩
  have HM := Lib.hid hM
  have HKN := Lib.hid hkn
  have HA := Lib.hid hA
  rw [hM] at hp
  clear h hkn hA
  go_enter Tryz.func67, Tryz.ntmps67
  go_wp2_with fail
  go_loopw [6, 7] (fun u v wr => ∃ (k m : Nat) (oA : Option Addr) (oc : Nat), k ≤ M ∧ v = .int .i64 (k : Int) ∧ u = .slice oA m oc ∧ m ≤ k ∧ OL wr W.heap.size 100 2 wf (.slice oA m oc) (selP s.pend (ordS keep k)) ∧ Below W.heap.size W wr) (fun _ v _ => M - (intOf v).toNat)
  case atStart => exact ⟨0, 0, none, 0, by omega, rfl, rfl, by omega, OL.nil, Below.refl _ _⟩
  case round =>
    obtain ⟨k, m, oA, oc, hkM, rfl, rfl, hmk, ho, hb⟩ := hrel
    have HO := Lib.hid ho
    have HB := Lib.hid hb
    have HD := Lib.hid (H0.out.keep (Turns.of_below (Z := fun _ => False) hb) (fun _ _ q => q))
    have HLEN := Lib.hid ho.len.1
    clear ho hb
    have c1 : wr.cell? ⟨d, 1, none⟩ = some (.slice vA M vc) := by rw [HD.out.cell 1, hM]; rfl
    by_cases hlt : k < M
    · have d1 : decide ((k : Int) < (M : Int)) = true := by simp [hlt]
      have hkl : k < s.pend.length := by rw [hM]; exact hlt
      obtain ⟨x, hx⟩ : ∃ x, s.pend[k]'hkl = x := ⟨_, rfl⟩
      have hxq : s.pend[k]? = some x := by rw [List.getElem?_eq_getElem hkl, hx]
      obtain ⟨o, bs⟩ := x
      have hpp := HD.out.pp
      obtain ⟨pg, c2, hpe, -, -, -, -⟩ := hpp.form (by omega)
      obtain rfl : vA = some ⟨pg, 0, none⟩ := by injection hpe
      obtain ⟨q1, q2⟩ := hpp.get2 hxq
      dsimp only at q1 q2
      have HSEL := Lib.hid (selP_succ (keep := keep) hxq)
      have y1 : (0 : Int) ≤ (k : Int) := by omega
      have y2 : (k : Int) < (M : Int) := by omega
      have w2 : IntKind.i64.wrap ((k : Int) + 1) = ((k + 1 : Nat) : Int) := by rw [IntKind.wrap_i64]; omega
      have HH := Lib.hid (has_walk wr A keep kn cap (k : Int) HKN.out (by omega) ((HA.out.below HB.out).more HB.out.size))
      obtain ⟨kb, hkb⟩ : ∃ kb, decide ((k : Int) ∈ keep) = kb := ⟨_, rfl⟩
      rw [hkb] at HH HSEL
      clear hkl hx hxq hpp hpe hkb
      cases kb
      · go_wp2_with (first | (go_at_call 93; refine HH.out.mono ?_; rintro e W2 ⟨rfl, rfl⟩) | fail)
        exact ⟨⟨k + 1, m, oA, oc, by omega, rfl, rfl, by omega, by rw [HSEL.out, if_neg (by simp), List.append_nil]; exact HO.out, HB.out⟩, by simp [intOf]; omega⟩
      · have ho := HO.out
        have hbs := HB.out.size
        go_wp2_with (first
          | (go_at_call 93; refine HH.out.mono ?_; rintro e W2 ⟨rfl, rfl⟩)
          | (at_builtin
             go_must (refine wpList_app rfl (.tmp 22) (.tmp 30) 65 rfl elemC _ (selP s.pend (ordS keep k)) m HLEN.out.symm rfl (ho.alloc _) (o, bs) _ #[.int .i64 (o : Int), .string bs] rfl ?hc rfl rfl (fun u hu => by simp [wf] at hu; rcases hu with rfl | rfl <;> rfl) (by have := HLEN.out; unfold maxLen; omega) (by have := HLEN.out; omega) (by simp; omega) ?_)
             (case hc => exact World.alloc_heap_new _ _)
             intro g5 c5 W5 h5 hg5 hg5' hg5l hb5
             have HQ := Lib.hid (And.intro h5 hb5)
             clear h5 hg5 hg5' hg5l hb5)
          | fail)
        exact ⟨⟨k + 1, m + 1, some ⟨g5, 0, none⟩, c5, by omega, rfl, rfl, by omega, by rw [HSEL.out, if_pos trivial]; exact HQ.out.1, (HB.out.alloc HB.out.size _).trans (HQ.out.2.mono (Nat.le_refl _))⟩, by simp [intOf]; omega⟩
    · obtain rfl : M = k := by omega
      have d1 : decide ((M : Int) < (M : Int)) = false := by simp
      clear hlt hkM
      have hwr : RefD wr F d g c (.slice vA s.pend.length vc) n { s with dur := s.dur, vis := applyP s.pend s.dur } := by rw [← H0.out.app]; exact HD.out
      have HWR := Lib.hid hwr
      have HTR := Lib.hid (Turns.of_below (Z := F) HB.out)
      obtain ⟨L, hL⟩ : ∃ L, selP s.pend (ordS keep M) = L := ⟨_, rfl⟩
      rw [hL] at HO HLEN
      have HLM : Hid (∀ y ∈ L, y ∈ s.pend) := Lib.hid (fun y hy => by rw [← hL] at hy; exact selP_mem hy)
      have HLL := Lib.hid hL
      clear hwr hL
      go_wp2_with fail
      clear c1 d1
      obtain ⟨wo, rfl⟩ : ∃ wo : World, wo = wr := ⟨_, rfl⟩
      go_loopw [8, 9] (fun v _ wq => ∃ (j : Nat) (dk : List UInt8), j ≤ m ∧ v = .int .i64 (j : Int) ∧ RefD wq F d g c (.slice vA s.pend.length vc) n { s with dur := dk, vis := applyP s.pend dk } ∧ OL wq W.heap.size 100 2 wf (.slice oA m oc) L ∧ Hid (crashL torn (L.drop j) dk = crashL torn L s.dur) ∧ Turns F W wq) (fun v _ _ => m - (intOf v).toNat)
      case atStart => exact ⟨0, s.dur, by omega, rfl, HWR.out, HO.out, Lib.hid rfl, HTR.out⟩
      case round =>
        obtain ⟨j, dk, hjm, rfl, hD, ho, HF, ht⟩ := hrel
        have HDq := Lib.hid hD
        have HOq := Lib.hid ho
        have HTq := Lib.hid ht
        clear hD ho ht HWR HTR HO
        by_cases hlt : j < m
        · have d1 : decide ((j : Int) < (m : Int)) = true := by simp [hlt]
          have hjl : j < L.length := by rw [← HLEN.out]; exact hlt
          obtain ⟨x, hx⟩ : ∃ x, L[j]'hjl = x := ⟨_, rfl⟩
          have hxq : L[j]? = some x := by rw [List.getElem?_eq_getElem hjl, hx]
          have hfit := H0.out.fit x (HLM.out x (by rw [← hx]; exact List.getElem_mem hjl))
          obtain ⟨o, bs⟩ := x
          obtain ⟨lg, c2, hpe, hlb, hll, -, -⟩ := HOq.out.form (by omega)
          obtain rfl : oA = some ⟨lg, 0, none⟩ := by injection hpe
          obtain ⟨q1, q2⟩ := HOq.out.get2 hxq
          dsimp only at hfit q1 q2
          have c0 : wr.cell? ⟨d, 0, none⟩ = some (.slice (some ⟨g, 0, none⟩) n c) := HDq.out.cell 0
          have HFIT := Lib.hid hfit
          have HXQ := Lib.hid hxq
          have hst := crashL_step HLEN.out.symm HF.out hxq
          obtain ⟨q, hq⟩ : ∃ q, m = q + 1 := ⟨m - 1, by omega⟩
          have y1 : (0 : Int) ≤ (j : Int) := by omega
          have y2 : (j : Int) < (m : Int) := by omega
          have w2 : IntKind.i64.wrap ((j : Int) + 1) = ((j + 1 : Nat) : Int) := by rw [IntKind.wrap_i64]; omega
          have w3 : IntKind.i64.wrap ((m : Int) - 1) = (q : Int) := by rw [IntKind.wrap_i64]; omega
          obtain ⟨y, hy⟩ : ∃ y, (if j + 1 = m then tornS torn bs else bs) = y := ⟨_, rfl⟩
          have hys : y.size ≤ bs.size := by rw [← hy]; split; exact tornS_le _ _; exact Nat.le_refl _
          have hcase : (j ≠ q ∧ y = bs) ∨ (j = q ∧ torn < 0 ∧ y = bs) ∨ (j = q ∧ 0 ≤ torn ∧ torn < bs.size ∧ y = bs.extract 0 torn.toNat) ∨ (j = q ∧ (bs.size : Int) ≤ torn ∧ y = bs) := by
            by_cases c1 : j + 1 = m
            · rw [if_pos c1] at hy
              unfold tornS at hy
              by_cases c2 : 0 ≤ torn
              · rw [if_pos c2] at hy
                by_cases c3 : torn < bs.size
                · rw [Nat.min_eq_left (by omega)] at hy
                  exact .inr (.inr (.inl ⟨by omega, c2, c3, hy.symm⟩))
                · rw [Nat.min_eq_right (by omega)] at hy
                  exact .inr (.inr (.inr ⟨by omega, by omega, by rw [← hy]; simp⟩))
              · rw [if_neg c2] at hy
                exact .inr (.inl ⟨by omega, by omega, hy.symm⟩)
            · rw [if_neg c1] at hy
              exact .inl ⟨by omega, hy.symm⟩
          rw [hy] at hst
          have HST := Lib.hid hst
          have HYS := Lib.hid hys
          have HON := Lib.hid (applyC_walk (wr.drewN 1) g n c o dk y (HDq.out.rd.drewN 1) HDq.out.ld (by omega) HDq.out.n64)
          have HS0 : Hid (wr.cell? ⟨d, 0, none⟩ = some (.slice (some ⟨g, 0, none⟩) n c) ∧ wr.cell? ⟨lg, j * 2, none⟩ = some (.int .i64 (o : Int))) := Lib.hid ⟨c0, q1⟩
          have HSN : Hid (∀ W2, Turns (fun i => i = g) (wr.drewN 1) W2 → W2.cell? ⟨d, 0, none⟩ = some (.slice (some ⟨g, 0, none⟩) n c) ∧ W2.cell? ⟨lg, j * 2, none⟩ = some (.int .i64 (o : Int))) := Lib.hid (fun W2 ht => by
            have hg := H0.out.lf g H0.out.fd.2
            have b1 := ht.block d (HDq.out.lf d HDq.out.fd.1) HDq.out.ne
            have b2 := ht.block lg hll (fun e => by omega)
            exact ⟨(World.cell?_of_block (a := ⟨d, 0, none⟩) b1).trans c0, (World.cell?_of_block (a := ⟨lg, j * 2, none⟩) b2).trans q1⟩)
          clear hjl hx hxq hfit hpe hy hys hst hq
          rcases hcase with ⟨e1, e2⟩ | ⟨e1, e2, e3⟩ | ⟨e1, e2, e3, e4⟩ | ⟨e1, e2, e3⟩
          · have b1 : ((j : Int) == (q : Int)) = false := by simp; omega
            subst e2
            clear e1
            go_wp2_with fail
            go_region_held3 (fun w' => w'.cell? ⟨d, 0, none⟩ = some (.slice (some ⟨g, 0, none⟩) n c) ∧ w'.cell? ⟨lg, j * 2, none⟩ = some (.int .i64 (o : Int))) (first | exact HS0.out | exact HSN.out _ (by assumption) | fail) (first | (go_at_call 53; refine HON.out.mono ?_; rintro e W2 ⟨rfl, hr2, ht2⟩) | fail)
            all_goals go_wp2_with fail
            all_goals exact ⟨⟨j + 1, _, by omega, rfl, (HDq.out.drewN 1).wrote _ (by rw [patch_length (by have h1 : dk.length = n := HDq.out.ld; have h2 := HFIT.out; have h3 := HYS.out; simp at h3 ⊢; omega)]; exact HDq.out.ld) hr2 ht2, (HOq.out.drewN 1).turns ht2 (fun i e q => by have h1 := (HOq.out.lt i e).1; have h2 := H0.out.lf g H0.out.fd.2; omega), HST, HTq.out.trans ((Turns.drew (Z := F) _).trans (ht2.mono (fun i e => by rw [e]; exact H0.out.fd.2)))⟩, by simp [intOf]; omega⟩
          · have b1 : ((j : Int) == (q : Int)) = true := by simp; omega
            have b2 : decide (0 ≤ torn) = false := by simp; omega
            subst e3
            clear e1
            go_wp2_with fail
            go_region_held3 (fun w' => w'.cell? ⟨d, 0, none⟩ = some (.slice (some ⟨g, 0, none⟩) n c) ∧ w'.cell? ⟨lg, j * 2, none⟩ = some (.int .i64 (o : Int))) (first | exact HS0.out | exact HSN.out _ (by assumption) | fail) (first | (go_at_call 53; refine HON.out.mono ?_; rintro e W2 ⟨rfl, hr2, ht2⟩) | fail)
            all_goals go_wp2_with fail
            all_goals exact ⟨⟨j + 1, _, by omega, rfl, (HDq.out.drewN 1).wrote _ (by rw [patch_length (by have h1 : dk.length = n := HDq.out.ld; have h2 := HFIT.out; have h3 := HYS.out; simp at h3 ⊢; omega)]; exact HDq.out.ld) hr2 ht2, (HOq.out.drewN 1).turns ht2 (fun i e q => by have h1 := (HOq.out.lt i e).1; have h2 := H0.out.lf g H0.out.fd.2; omega), HST, HTq.out.trans ((Turns.drew (Z := F) _).trans (ht2.mono (fun i e => by rw [e]; exact H0.out.fd.2)))⟩, by simp [intOf]; omega⟩
          · have b1 : ((j : Int) == (q : Int)) = true := by simp; omega
            obtain ⟨tn, rfl⟩ : ∃ tn : Nat, torn = tn := ⟨torn.toNat, by omega⟩
            have b2 : decide (0 ≤ (tn : Int)) = true := by simp
            have b3 : decide ((tn : Int) < (bs.size : Int)) = true := by simp; omega
            have b4 : decide (tn < bs.size) = true := by simp; omega
            have b5 : tn < bs.size := by omega
            have y5 : (0 : Int) ≤ (tn : Int) := by omega
            have y6 : (tn : Int) ≤ (bs.size : Int) := by omega
            rw [show ((tn : Int)).toNat = tn by omega] at e4
            subst e4
            clear e1
            go_wp2_with fail
            go_region_held3 (fun w' => w'.cell? ⟨d, 0, none⟩ = some (.slice (some ⟨g, 0, none⟩) n c) ∧ w'.cell? ⟨lg, j * 2, none⟩ = some (.int .i64 (o : Int))) (first | exact HS0.out | exact HSN.out _ (by assumption) | fail) (first | (go_at_call 53; refine HON.out.mono ?_; rintro e W2 ⟨rfl, hr2, ht2⟩) | fail)
            all_goals go_wp2_with fail
            all_goals exact ⟨⟨j + 1, _, by omega, rfl, (HDq.out.drewN 1).wrote _ (by rw [patch_length (by have h1 : dk.length = n := HDq.out.ld; have h2 := HFIT.out; have h3 := HYS.out; simp at h3 ⊢; omega)]; exact HDq.out.ld) hr2 ht2, (HOq.out.drewN 1).turns ht2 (fun i e q => by have h1 := (HOq.out.lt i e).1; have h2 := H0.out.lf g H0.out.fd.2; omega), HST, HTq.out.trans ((Turns.drew (Z := F) _).trans (ht2.mono (fun i e => by rw [e]; exact H0.out.fd.2)))⟩, by simp [intOf]; omega⟩
          · have b1 : ((j : Int) == (q : Int)) = true := by simp; omega
            obtain ⟨tn, rfl⟩ : ∃ tn : Nat, torn = tn := ⟨torn.toNat, by omega⟩
            have b2 : decide (0 ≤ (tn : Int)) = true := by simp
            have b3 : decide ((tn : Int) < (bs.size : Int)) = false := by simp; omega
            have b4 : decide (tn < bs.size) = false := by simp; omega
            have b5 : ¬ tn < bs.size := by omega
            subst e3
            clear e1
            go_wp2_with fail
            go_region_held3 (fun w' => w'.cell? ⟨d, 0, none⟩ = some (.slice (some ⟨g, 0, none⟩) n c) ∧ w'.cell? ⟨lg, j * 2, none⟩ = some (.int .i64 (o : Int))) (first | exact HS0.out | exact HSN.out _ (by assumption) | fail) (first | (go_at_call 53; refine HON.out.mono ?_; rintro e W2 ⟨rfl, hr2, ht2⟩) | fail)
            all_goals go_wp2_with fail
            all_goals exact ⟨⟨j + 1, _, by omega, rfl, (HDq.out.drewN 1).wrote _ (by rw [patch_length (by have h1 : dk.length = n := HDq.out.ld; have h2 := HFIT.out; have h3 := HYS.out; simp at h3 ⊢; omega)]; exact HDq.out.ld) hr2 ht2, (HOq.out.drewN 1).turns ht2 (fun i e q => by have h1 := (HOq.out.lt i e).1; have h2 := H0.out.lf g H0.out.fd.2; omega), HST, HTq.out.trans ((Turns.drew (Z := F) _).trans (ht2.mono (fun i e => by rw [e]; exact H0.out.fd.2)))⟩, by simp [intOf]; omega⟩
        · obtain rfl : m = j := by omega
          have d1 : decide ((m : Int) < (m : Int)) = false := by simp
          have hfin := HF.out
          rw [List.drop_of_length_le (by rw [← HLEN.out]; exact Nat.le_refl _), crashL] at hfin
          have hX : crashF s.pend torn (ordS keep s.pend.length) s.dur = dk := by
            rw [crashF_L ordS_lt, HM.out, HLL.out, hfin]
          have HX := Lib.hid hX
          clear hfin hX hlt hjm
          have a1 : wr.cell? ⟨d, 1, none⟩ = some (.slice vA s.pend.length vc) := HDq.out.cell 1
          have a2 : wr.cell? ⟨d, 2, none⟩ = some (.bool s.off) := HDq.out.cell 2
          have a3 : wr.cell? ⟨d, 3, none⟩ = some (.int .i64 (s.left : Int)) := HDq.out.cell 3
          have f1 := HDq.out.free 1
          have f2 := HDq.out.free 2
          have f3 := HDq.out.free 3
          have h1 := HDq.out.put 1 (.slice none 0 0) { off := s.off, left := s.left, dur := dk, vis := dk, pend := [] } (.slice none 0 0) rfl rfl (fun x hx => absurd hx (by simp)) OL.nil (fun q e => by cases e) (fun q e => by cases e) rfl
          have h2 := h1.1.put 2 (.bool false) { off := false, left := s.left, dur := dk, vis := dk, pend := [] } (.slice none 0 0) rfl rfl h1.1.fit OL.nil (fun q e => by cases e) (fun q e => by cases e) rfl
          have h3 := h2.1.put 3 (.int .i64 0) { off := false, left := 0, dur := dk, vis := dk, pend := [] } (.slice none 0 0) rfl rfl h1.1.fit OL.nil (fun q e => by cases e) (fun q e => by cases e) rfl
          have H3 := Lib.hid h3.1
          have HT3 := Lib.hid (HTq.out.trans ((h1.2.trans h2.2).trans h3.2))
          clear h1 h2 h3
          go_wp2_with fail
          go_end0
          refine ⟨rfl, ⟨.slice none 0 0, ?_⟩, HT3.out⟩
          unfold DS.crash
          rw [HX.out]
          exact H3.out

end Go.Proofs.YtllmciiadceinaaGreatDoor
end
