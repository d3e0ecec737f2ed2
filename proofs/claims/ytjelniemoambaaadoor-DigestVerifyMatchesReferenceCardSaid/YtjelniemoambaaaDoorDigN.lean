/-
  The contract of package digest's VerifyExtension. Conditions: the table's variable holds the table; a bound on the strings' lengths.
-/
import Derived.Test.YtjelniemoambaaaDoorDigM
namespace Go.Proofs.YtjelniemoambaaaDoor
open Go Go.RowKit Go.Shelf
attribute [local go_sem] Oper.semAt_some

theorem str_sha (a : ByteArray) (l : List UInt8) : (a.toList == sha l) = decide (a = shaS l) := by
  rw [← str_eq, show (shaS l).toList = sha l from ByteArray.toList_mk _]
set_option maxHeartbeats 4000000 in
theorem vext_no (old root : ByteArray) (m n : Int) (A : Option Addr) (p : List ByteArray) (cap : Nat) (hp : p.length ≤ 1000) (h : m < 0 ∨ n < m ∨ allB p = false ∨ old.size ≠ 32 ∨ root.size ≠ 32) (w : World) (hA : LAt w w.heap.size A .string p) :
    Calls Tryd.prog 23 #[.string old, .int .i64 m, .string root, .int .i64 n, .slice A p.length cap] w fun e w' => e = .returned (.bool false) ∧ w = w' := by
  have HA := Lib.hid hA
  clear hA
  by_cases h1 : m < 0
  · clear h
    go_enter Tryd.func23, Tryd.ntmps23
    go_wp2_with fail
    go_ret
    exact ⟨rfl, rfl⟩
  · have q1 : decide (m < 0) = false := by simp; omega
    by_cases h2 : n < m
    · clear h
      go_enter Tryd.func23, Tryd.ntmps23
      go_wp2_with fail
      go_ret
      exact ⟨rfl, rfl⟩
    · have q2 : decide (n < m) = false := by simp; omega
      obtain ⟨b1, hb1⟩ : ∃ b, allB p = b := ⟨_, rfl⟩
      obtain ⟨b2, hb2⟩ : ∃ b, decide (old.size = 32) = b := ⟨_, rfl⟩
      obtain ⟨b3, hb3⟩ : ∃ b, decide (root.size = 32) = b := ⟨_, rfl⟩
      have hbb : b1 = false ∨ b2 = false ∨ b3 = false := by
        rcases h with h | h | h | h | h
        · omega
        · omega
        · exact .inl (by rw [← hb1]; exact h)
        · exact .inr (.inl (by rw [← hb2]; simp [h]))
        · exact .inr (.inr (by rw [← hb3]; simp [h]))
      have H1 := Lib.hid hb1
      have H2 := Lib.hid hb2
      have H3 := Lib.hid hb3
      clear h hb1 hb2 hb3
      cases b1
      · clear hbb
        go_enter Tryd.func23, Tryd.ntmps23
        go_wp2_with (go_at_call 45; refine (all_walk A p cap (by omega) _ HA.out).mono ?_; rw [H1.out]; rintro e w' ⟨rfl, rfl⟩)
        go_ret
        exact ⟨rfl, rfl⟩
      · cases b2
        · clear hbb
          go_enter Tryd.func23, Tryd.ntmps23
          go_wp2_with (first
            | (go_at_call 45; refine (all_walk A p cap (by omega) _ HA.out).mono ?_; rw [H1.out]; rintro e w' ⟨rfl, rfl⟩)
            | (go_at_call 51; refine (isDigest_walk _ _).mono ?_; rw [H2.out]; rintro e w' ⟨rfl, rfl⟩))
          go_ret
          exact ⟨rfl, rfl⟩
        · obtain rfl : b3 = false := by rcases hbb with h | h | h; (· cases h); (· cases h); (· exact h)
          clear hbb
          go_enter Tryd.func23, Tryd.ntmps23
          go_wp2_with (first
            | (go_at_call 45; refine (all_walk A p cap (by omega) _ HA.out).mono ?_; rw [H1.out]; rintro e w' ⟨rfl, rfl⟩)
            | (go_at_call_of 51 (Value.string old); refine (isDigest_walk _ _).mono ?_; rw [H2.out]; rintro e w' ⟨rfl, rfl⟩)
            | (go_at_call_of 51 (Value.string root); refine (isDigest_walk _ _).mono ?_; rw [H3.out]; rintro e w' ⟨rfl, rfl⟩))
          go_ret
          exact ⟨rfl, rfl⟩

set_option maxHeartbeats 4000000 in
theorem vext_zero (old root : ByteArray) (n : Int) (A : Option Addr) (p : List ByteArray) (cap : Nat) (hp : p.length ≤ 1000) (hn : 0 ≤ n) (hall : allB p = true) (ho : old.size = 32) (hr : root.size = 32) (w : World) (hA : LAt w w.heap.size A .string p) (hK : KAt w) :
    Calls Tryd.prog 23 #[.string old, .int .i64 0, .string root, .int .i64 n, .slice A p.length cap] w fun e w' => e = .returned (.bool (decide (p = []) && decide (old = shaS []))) ∧ Below w.heap.size w w' := by
  have HA := Lib.hid hA
  have H1 := Lib.hid hall
  have H2 := Lib.hid (show decide (old.size = 32) = true by simp [ho])
  have H3 := Lib.hid (show decide (root.size = 32) = true by simp [hr])
  have HK := Lib.hid hK
  have q2 : decide (n < 0) = false := by simp; omega
  obtain ⟨np, hnp⟩ : ∃ np, p.length = np := ⟨_, rfl⟩
  have HNP := Lib.hid (show (p = []) = (np = 0) by rw [← hnp]; simp)
  have hall2 : ∀ w' : World, w = w' → Calls Tryd.prog 45 #[.slice A np cap] w' fun e w'' => e = .returned (.bool true) ∧ w' = w'' := fun w' e => by
    subst e
    have := all_walk A p cap (by omega) w HA.out
    rw [hnp, H1.out] at this; exact this
  rw [hnp]
  clear hA hall ho hr hK hnp
  go_enter Tryd.func23, Tryd.ntmps23
  go_wp2_with (first
    | (go_at_call 45; refine (hall2 _ rfl).mono ?_; rintro e w' ⟨rfl, rfl⟩)
    | (go_at_call_of 51 (Value.string old); refine (isDigest_walk _ _).mono ?_; rw [H2.out]; rintro e w' ⟨rfl, rfl⟩)
    | (go_at_call_of 51 (Value.string root); refine (isDigest_walk _ _).mono ?_; rw [H3.out]; rintro e w' ⟨rfl, rfl⟩)
    | (go_at_call 30; refine (sum_walk ⟨#[]⟩ (by decide) _ HK.out).mono ?_; rintro e w1 ⟨rfl, hb1⟩))
  · go_ret
    refine ⟨?_, hb1⟩
    have h0 : np = 0 := by assumption
    rw [show decide (p = []) = true by rw [decide_eq_true_eq, HNP.out]; exact h0, Bool.true_and, ← str_sha]
    rfl
  · go_ret
    refine ⟨?_, Below.refl _ _⟩
    have h0 : ¬ np = 0 := by assumption
    rw [show decide (p = []) = false by rw [decide_eq_false_iff_not, HNP.out]; exact h0]
    rfl

set_option maxHeartbeats 4000000 in
theorem vext_eq (old root : ByteArray) (n : Int) (A : Option Addr) (p : List ByteArray) (cap : Nat) (hp : p.length ≤ 1000) (hn : 1 ≤ n) (hall : allB p = true) (ho : old.size = 32) (hr : root.size = 32) (w : World) (hA : LAt w w.heap.size A .string p) :
    Calls Tryd.prog 23 #[.string old, .int .i64 n, .string root, .int .i64 n, .slice A p.length cap] w fun e w' => e = .returned (.bool (decide (p = []) && decide (old = root))) ∧ w = w' := by
  have HA := Lib.hid hA
  have H1 := Lib.hid hall
  have H2 := Lib.hid (show decide (old.size = 32) = true by simp [ho])
  have H3 := Lib.hid (show decide (root.size = 32) = true by simp [hr])
  have q1 : decide (n < 0) = false := by simp; omega
  have q2 : decide (n < n) = false := by simp
  have q3 : (n == 0) = false := by simp; omega
  obtain ⟨np, hnp⟩ : ∃ np, p.length = np := ⟨_, rfl⟩
  have HNP := Lib.hid (show (p = []) = (np = 0) by rw [← hnp]; simp)
  have hall2 : ∀ w' : World, w = w' → Calls Tryd.prog 45 #[.slice A np cap] w' fun e w'' => e = .returned (.bool true) ∧ w' = w'' := fun w' e => by
    subst e
    have := all_walk A p cap (by omega) w HA.out
    rw [hnp, H1.out] at this; exact this
  rw [hnp]
  clear hA hall ho hr hnp
  go_enter Tryd.func23, Tryd.ntmps23
  go_wp2_with (first
    | (go_at_call 45; refine (hall2 _ rfl).mono ?_; rintro e w' ⟨rfl, rfl⟩)
    | (go_at_call_of 51 (Value.string old); refine (isDigest_walk _ _).mono ?_; rw [H2.out]; rintro e w' ⟨rfl, rfl⟩)
    | (go_at_call_of 51 (Value.string root); refine (isDigest_walk _ _).mono ?_; rw [H3.out]; rintro e w' ⟨rfl, rfl⟩))
  · go_ret
    refine ⟨?_, rfl⟩
    have h0 : np = 0 := by assumption
    rw [show decide (p = []) = true by rw [decide_eq_true_eq, HNP.out]; exact h0, Bool.true_and, ← str_eq]
    rfl
  · go_ret
    refine ⟨?_, rfl⟩
    have h0 : ¬ np = 0 := by assumption
    rw [show decide (p = []) = false by rw [decide_eq_false_iff_not, HNP.out]; exact h0]
    rfl

theorem any_snoc (ws : List (ByteArray × Bool)) (x : ByteArray) (b : Bool) : (ws ++ [(x, b)]).any (·.2) = (ws.any (·.2) || b) := by simp

def fstF (L : List (ByteArray × Bool)) (z : ByteArray) (pre : List (Fin L.length)) : ByteArray := pre.foldl (fun out i => if L[i.val].2 then joinS L[i.val] out else out) z
theorem fstF_snoc (L : List (ByteArray × Bool)) (z : ByteArray) (pre : List (Fin L.length)) (i : Fin L.length) : fstF L z (pre ++ [i]) = if (L.get i).2 then joinS (L.get i) (fstF L z pre) else fstF L z pre := by unfold fstF; rw [List.foldl_append]; rfl
theorem fstF_all (L : List (ByteArray × Bool)) (z : ByteArray) (xs : List (Fin L.length)) (h : xs.map Fin.val = (List.range L.length).reverse) : fstF L z xs = fstS L z := fold_back L (fun x a => if x.2 then joinS x a else a) z xs h
theorem fstF_size {L : List (ByteArray × Bool)} {z : ByteArray} (hz : z.size = 32) (pre : List (Fin L.length)) : (fstF L z pre).size = 32 := by
  have h : ∀ (pre : List (Fin L.length)) (y : ByteArray), y.size = 32 → (pre.foldl (fun out i => if L[i.val].2 then joinS L[i.val] out else out) y).size = 32 := by
    intro pre
    induction pre with
    | nil => intro y hy; exact hy
    | cons x pre ih => intro y hy; exact ih _ (by dsimp only; split; (· exact joinS_size _ _); (· exact hy))
  exact h pre z hz

set_option maxRecDepth 100000 in
set_option maxHeartbeats 8000000 in
theorem vext_yes (old root : ByteArray) (n m : Nat) (A : Option Addr) (p : List ByteArray) (cap : Nat) (hp : p.length ≤ 1000) (hcap : p.length ≤ cap) (h0 : 1 ≤ m) (h : m < n) (hn : n ≤ 9223372036854775807) (hall : allB p = true) (ho : old.size = 32) (hr : root.size = 32) (w : World) (hA : LAt w w.heap.size A .string p) (hK : KAt w) :
    Calls Tryd.prog 23 #[.string old, .int .i64 m, .string root, .int .i64 n, .slice A p.length cap] w fun e w' => e = .returned (.bool (veR old root (seS n m p))) ∧ Below w.heap.size w w' := by
  have q1 : decide ((m : Int) < 0) = false := by simp
  have q2 : decide (n < m) = false := by simp; omega
  have q3 : ((m : Int) == 0) = false := by simp; omega
  have q4 : ((m : Int) == (n : Int)) = false := by simp; omega
  obtain ⟨res, hres⟩ : ∃ res, veR old root (seS n m p) = res := ⟨_, rfl⟩
  rw [hres]
  have HRES := Lib.hid hres
  have HALL := Lib.hid hall
  have hds : ∀ x ∈ p, x.size = 32 := fun x hx => by have := List.all_eq_true.1 hall x hx; simpa using this
  have HDS := Lib.hid hds
  have HA := Lib.hid hA
  have HK := Lib.hid hK
  have H2 := Lib.hid (show decide (old.size = 32) = true by simp [ho])
  have H3 := Lib.hid (show decide (root.size = 32) = true by simp [hr])
  have HO32 := Lib.hid ho
  clear hres hall hA hK hds ho hr
  refine (callsIn_wide (n := 3)).1 ?_
  refine callsIn_of_wp_marks Tryd.func23 rfl trivial ?_ rfl
  simp only [Tryd.ntmps23, List.size_toArray, List.length_cons, List.length_nil, Nat.reduceAdd, Nat.reduceSub, Array.replicate_succ, Array.replicate_zero, List.push_toArray, List.append_toArray, List.nil_append, List.cons_append]
  refine wpIn_wide.2 ?_
  go_wp2_with (first
    | (go_at_call 45; refine (all_walk A p cap (by omega) _ HA.out).mono ?_; rw [HALL.out]; rintro e w' ⟨rfl, rfl⟩)
    | (go_at_call_of 51 (Value.string old); refine (isDigest_walk _ _).mono ?_; rw [H2.out]; rintro e w' ⟨rfl, rfl⟩)
    | (go_at_call_of 51 (Value.string root); refine (isDigest_walk _ _).mono ?_; rw [H3.out]; rintro e w' ⟨rfl, rfl⟩))
  go_loopw [1, 3, 4, 11, 12] (fun v1 v3 v4 v11 v12 wr => ∃ (n' m' np : Nat) (p' : List ByteArray) (ws : List (ByteArray × Bool)) (wh : Bool), p'.length = np ∧ v3 = .int .i64 n' ∧ v1 = .int .i64 m' ∧ 1 ≤ m' ∧ m' ≤ n' ∧ n' ≤ 9223372036854775807 ∧ v4 = .slice A np cap ∧ LAt wr w.heap.size A .string p' ∧ (∀ x ∈ p', x.size = 32) ∧
      seS n m p = (seS n' m' p').map (fun y => (ws ++ y.1, y.2)) ∧ (∀ x ∈ ws, x.1.size = 32) ∧ ws.length + np = p.length ∧ v12 = .bool wh ∧ ws.any (·.2) = !wh ∧ SideL wr w.heap.size v11 ws ∧ Below w.heap.size w wr) (fun _ v _ _ _ _ => (intOf v).toNat)
  case atStart => exact ⟨n, m, p.length, p, [], true, rfl, rfl, rfl, h0, by omega, hn, rfl, HA.out, HDS.out, by simp, by simp, by simp, rfl, rfl, OL.nil, Below.refl _ _⟩
  case round =>
    obtain ⟨n', m', np, p', ws, wh, hnp, rfl, rfl, hm1, hm', hn', rfl, hA, hds, hst, hws, hlen, rfl, hwh, ho, hB⟩ := hrel
    have HNP := Lib.hid hnp
    have HD := Lib.hid hds
    have HST := Lib.hid hst
    have HWS := Lib.hid hws
    have HWH := Lib.hid hwh
    have HB := Lib.hid hB
    have HKW := Lib.hid (HK.out.below hB)
    have hbs := hB.size
    clear hnp hds hst hws hwh hB
    by_cases h1 : m' = n'
    · -- the end
      subst h1
      have d0 : decide (m' < m') = false := by simp
      have hst := HST.out
      rw [seS_one p' (Nat.le_refl _)] at hst
      have HST := Lib.hid hst
      clear hst
      obtain ⟨A11, c11, rfl, -, -⟩ := ho.slice
      have hAl : ∀ a, A11 = some a → a.block < wr.heap.size := fun a ha => by subst ha; exact (ho.lt a.block rfl).2
      have HO := Lib.hid ho
      have HAL := Lib.hid hAl
      have HA0 := Lib.hid hA
      clear ho hA hAl
      by_cases hbad : wh = false ∧ np ≠ 1
      · obtain ⟨rfl, hn1⟩ := hbad
        have d1 : ((np : Int) != 1) = true := by simp; omega
        have hr : res = false := by
          rw [← HRES.out, HST.out]
          have h1 := HWH.out
          have h2 := HNP.out
          simp only [Option.map_some, List.append_nil, veR, h1]
          match p', h2 with
          | [r], h => simp at h; omega
          | [], h => rfl
          | _ :: _ :: _, h => rfl
        have HR := Lib.hid hr
        clear hr
        go_wp2_with fail
        refine ⟨_, results_tmp rfl _ _ _, ?_, ?_⟩
        · rw [HR.out]; rfl
        · exact (HB.out.alloc hbs _).alloc (by simp; omega) _
      cases wh
      case' false =>
        have hn1 : np = 1 := by
          rcases Nat.decEq np 1 with h | h
          · exact (hbad ⟨rfl, h⟩).elim
          · exact h
        obtain ⟨r, rfl⟩ : ∃ r, p' = [r] := by
          have := HNP.out
          match p', this with
          | [r], _ => exact ⟨r, rfl⟩
          | [], h => simp at h; omega
          | _ :: _ :: _, h => simp at h; omega
        subst hn1
        obtain ⟨a, rfl, hab, hac⟩ := HA0.out.get (i := 0) (by simp)
        have hac : wr.cell? a = some (.string r) := by simpa [Addr.add] using hac
        obtain ⟨w6, hw6⟩ : ∃ w6, (wr.alloc (.cells #[.string old] 9)).alloc (.cells #[.string old] 9) = w6 := ⟨_, rfl⟩
        have x17 : Boxed w6 wr.heap.size 9 (.string old) := by rw [← hw6]; exact (Boxed.new wr _ _).alloc _
        have x18 : Boxed w6 (wr.heap.size + 1) 9 (.string old) := by
          have := Boxed.new (wr.alloc (.cells #[.string old] 9)) 9 (.string old)
          rw [World.size_alloc, hw6] at this; exact this
        have hbl : Below wr.heap.size wr w6 := by rw [← hw6]; exact ((Below.refl _ _).alloc (Nat.le_refl _) _).alloc (by simp) _
        have hs6 : w6.heap.size = wr.heap.size + 2 := by rw [← hw6]; simp
        have hac6 : w6.cell? a = some (.string r) := (hbl.cell (p := a) (by omega)).trans hac
        have c17 := x17.cell
        have f17 := x17.frozen
        have y17 := x17.set (.string r)
        have y18 : Boxed (w6.setCell ⟨wr.heap.size, 0, none⟩ (.string r)) (wr.heap.size + 1) 9 (.string old) := (Below.heap_setCell _ _ _ _ (by show wr.heap.size + 1 ≠ wr.heap.size; omega)).trans x18
        have c18 := y18.cell
        have f18 := y18.frozen
        have hac7 : (w6.setCell ⟨wr.heap.size, 0, none⟩ (.string r)).cell? a = some (.string r) := (World.cell?_setCell_other _ _ _ _ (fun e => by have := congrArg Addr.block e; simp at this; omega)).trans hac6
        have hac8 : ((w6.setCell ⟨wr.heap.size, 0, none⟩ (.string r)).setCell ⟨wr.heap.size + 1, 0, none⟩ (.string r)).cell? a = some (.string r) := (World.cell?_setCell_other _ _ _ _ (fun e => by have := congrArg Addr.block e; simp at this; omega)).trans hac7
        have HW6 := Lib.hid hw6
        have Y17 := Lib.hid y17
        have Y18 := Lib.hid y18
        have HBL := Lib.hid hbl
        have HS6 := Lib.hid hs6
        clear hw6 x17 x18 y17 y18 hbl hac hs6 hbad
        go_wp2_with fail
        rw [HW6.out]
        go_region_held3 (fun w' => w'.cell? a = some (.string r)) (first | exact hac6 | exact hac7 | exact hac8 | go_keep) (fail)
        have hz : r.size = 32 := HD.out r (by simp)
        have hres : res = (true && decide (fstS ws r = old) && decide (sndS ws r = root)) := by
          rw [← HRES.out, HST.out]
          have h1 := HWH.out
          simp only [Option.map_some, List.append_nil, veR, h1]
          simp
        have HR := Lib.hid hres
        have X17 : Hid (Boxed ((w6.setCell ⟨wr.heap.size, 0, none⟩ (.string r)).setCell ⟨wr.heap.size + 1, 0, none⟩ (.string r)).drew wr.heap.size 9 (.string r)) := Lib.hid (Y17.out.other (B' := wr.heap.size + 1) (by omega) (.string r))
        have X18 : Hid (Boxed ((w6.setCell ⟨wr.heap.size, 0, none⟩ (.string r)).setCell ⟨wr.heap.size + 1, 0, none⟩ (.string r)).drew (wr.heap.size + 1) 9 (.string r)) := Lib.hid (Y18.out.set (.string r))
        have HBL : Hid (Below wr.heap.size wr ((w6.setCell ⟨wr.heap.size, 0, none⟩ (.string r)).setCell ⟨wr.heap.size + 1, 0, none⟩ (.string r)).drew) := Lib.hid ((((HBL.out).setCell (p := ⟨wr.heap.size, 0, none⟩) (Nat.le_refl _) _).setCell (p := ⟨wr.heap.size + 1, 0, none⟩) (by show wr.heap.size ≤ wr.heap.size + 1; omega) _).drew)
        have hs8 : ((w6.setCell ⟨wr.heap.size, 0, none⟩ (.string r)).setCell ⟨wr.heap.size + 1, 0, none⟩ (.string r)).drew.heap.size = wr.heap.size + 2 := by
          have := HS6.out; simp [World.setCell] at this ⊢; omega
        have HS8 := Lib.hid hs8
        clear hres hac6 hac7 hac8 c17 c18 f17 f18 hs8 HW6 HS6 Y17 Y18 HA0 hab
        generalize ((w6.setCell ⟨wr.heap.size, 0, none⟩ (.string r)).setCell ⟨wr.heap.size + 1, 0, none⟩ (.string r)).drew = w8 at X17 X18 HBL HS8 ⊢
        obtain ⟨z, hzz⟩ : ∃ z, r = z := ⟨_, rfl⟩
        rw [hzz] at hz HR X17 X18
        have HZZ := Lib.hid hzz
        clear hzz
      case' true =>
        clear hbad
        obtain ⟨bn, hbn⟩ : ∃ b, decide (np = 0) = b := ⟨_, rfl⟩
        have e0 : ((np : Int) == 0) = bn := by rw [← hbn]; by_cases h : np = 0 <;> simp [h]
        have hz := HO32.out
        have hres : res = (bn && decide (fstS ws old = old) && decide (sndS ws old = root)) := by
          rw [← HRES.out, HST.out, ← hbn]
          have h1 := HWH.out
          have h2 := HNP.out
          simp only [Option.map_some, List.append_nil, veR, h1]
          rw [show decide (p' = []) = decide (np = 0) by rw [← h2]; simp]
          rfl
        obtain ⟨z, hzz⟩ : ∃ z, old = z := ⟨_, rfl⟩
        have hres : res = (bn && decide (fstS ws z = old) && decide (sndS ws z = root)) := by rw [← hzz]; exact hres
        obtain ⟨w8, hw8⟩ : ∃ w8, (wr.alloc (.cells #[.string old] 9)).alloc (.cells #[.string old] 9) = w8 := ⟨_, rfl⟩
        have X17 : Hid (Boxed w8 wr.heap.size 9 (.string z)) := Lib.hid (by rw [← hw8, ← hzz]; exact (Boxed.new wr _ _).alloc _)
        have X18 : Hid (Boxed w8 (wr.heap.size + 1) 9 (.string z)) := Lib.hid (by
          have := Boxed.new (wr.alloc (.cells #[.string old] 9)) 9 (.string old)
          rw [World.size_alloc, hw8, hzz] at this; exact this)
        have HBL : Hid (Below wr.heap.size wr w8) := Lib.hid (by rw [← hw8]; exact ((Below.refl _ _).alloc (Nat.le_refl _) _).alloc (by simp) _)
        have HS8 : Hid (w8.heap.size = wr.heap.size + 2) := Lib.hid (by rw [← hw8]; simp)
        have HR := Lib.hid hres
        have HZZ := Lib.hid hzz
        have HW8 := Lib.hid hw8
        rw [hzz] at hz
        clear hres hw8 HA0 hbn hzz
        cases bn
      all_goals
        have hs8 := HS8.out
        obtain ⟨w9, hw9⟩ : ∃ w9, w8.alloc (.cells #[.slice A11 ws.length c11] 54) = w9 := ⟨_, rfl⟩
        have x17 : Boxed w9 wr.heap.size 9 (.string z) := by rw [← hw9]; exact X17.out.alloc _
        have x18 : Boxed w9 (wr.heap.size + 1) 9 (.string z) := by rw [← hw9]; exact X18.out.alloc _
        have x1 : Boxed w9 (wr.heap.size + 2) 54 (.slice A11 ws.length c11) := by
          have := Boxed.new w8 54 (.slice A11 ws.length c11)
          rw [hs8, hw9] at this; exact this
        have hbl9 : Below wr.heap.size wr w9 := by rw [← hw9]; exact HBL.out.alloc (by omega) _
        have hs9 : w9.heap.size = wr.heap.size + 3 := by rw [← hw9]; simp; omega
        have hB9 : Below w.heap.size w w9 := HB.out.trans (hbl9.mono hbs)
        have hS9 : SAt w9 w9.heap.size A11 ws := (HO.out.below hbl9 (Nat.le_refl _)).sat
        have hAl9 : ∀ a, A11 = some a → a.block < wr.heap.size + 3 := fun a ha => by have := HAL.out a ha; omega
        have X17 := Lib.hid x17
        have X18 := Lib.hid x18
        have X1 := Lib.hid x1
        have HB9 := Lib.hid hB9
        have HS9 := Lib.hid hS9
        have HL9 := Lib.hid hs9
        have HW9 := Lib.hid hw9
        clear x17 x18 x1 hbl9 hs9 hB9 hS9 hw9
        go_wp2_with (go_at_call 47; refine (backP_any _ _ _ _).mono ?_; rintro e w5 ⟨rfl, rfl⟩)
        first | rw [HW8.out, HW9.out] | rw [HW9.out]
        have hl9 := HL9.out
        refine (wpIn_wide (n := 3)).1 ?_
        refine wp_rangeZB (gf := 63) (lb := #[.pointer (some ⟨wr.heap.size + 2, 0, none⟩)]) rfl (enters_of Tryd.func63 (by kernel_rfl) rfl)
          (backP_iter A11 ws c11 (wr.heap.size + 2) (by omega) w9 X1.out HS9.out) (Below.refl _ _) (fun k hk => hk.elim) (fun _ => rfl) (fun h k => h.trans k)
          (fun W o => KpB.put (n := wr.heap.size + 3) (by omega) hAl9 (by omega) W o)
          (fun pre W => Boxed W wr.heap.size 9 (.string (fstF ws z pre)) ∧ Boxed W (wr.heap.size + 1) 9 (.string (joinF ws z pre)) ∧ Below w.heap.size w W)
          (fun _ _ _ => False)
          (fun s A B h t => ⟨t.boxed h.1 (not_books (by omega)), t.boxed h.2.1 (not_books (by omega)), t.below h.2.2 (Nat.le_refl _) (far_books (by omega))⟩)
          (fun _ _ _ _ h _ => h.elim)
          ⟨X17.out, X18.out, HB9.out⟩ ?_ (fun b x W => SideAt b (ws.get x) W) (fun b x A B h1 h2 h3 h4 => h3.turns h1 h2 h4)
          (fun A B h1 h2 => KpB.of_below (n := wr.heap.size + 3) (by omega) hAl9 (by omega) h2) ?_ ?_ ?_ ?_
        rotate_left
        · intro l x W b K hWb hb hK
          dsimp only [encB, sideV]
          gi_wp2
          refine hK _ ⟨?_, ?_⟩ ?_ ?_
          · subst hWb; simp
          · subst hWb; simp
          · subst hWb; exact (Below.refl _ _).alloc (Nat.le_refl _) _
          · subst hWb; simp
        · rintro l0 pre x b W hb hbW ⟨hx1, hx2, hB⟩ hsd hlt2
          have hys := fstF_size (L := ws) hz pre
          have hys2 := joinF_size (L := ws) hz pre
          have hsn := fstF_snoc ws z pre x
          have hsn2 : joinF ws z (pre ++ [x]) = joinS (ws.get x) (joinF ws z pre) := joinF_snoc ws z pre x
          have hzs := HWS.out (ws.get x) (List.get_mem ws x)
          obtain ⟨y, hy⟩ : ∃ y, fstF ws z pre = y := ⟨_, rfl⟩
          obtain ⟨y2, hy2⟩ : ∃ y, joinF ws z pre = y := ⟨_, rfl⟩
          rw [hy] at hx1 hys hsn
          rw [hy2] at hx2 hys2 hsn2
          obtain ⟨v, hv⟩ : ∃ v, ws.get x = v := ⟨_, rfl⟩
          rw [hv] at hsd hsn hsn2 hzs
          have c0 := hsd.1
          have c1 := hsd.2
          have c2 := hx1.cell
          have c3 := hx2.cell
          have HSN := Lib.hid hsn
          have HSN2 := Lib.hid hsn2
          have HKV := Lib.hid (HK.out.below hB)
          have HX1 := Lib.hid hx1
          have HX2 := Lib.hid hx2
          have HSD := Lib.hid hsd
          have HBW := Lib.hid hB
          clear hy hy2 hv hsn hsn2 hx1 hx2 hB hsd
          obtain ⟨v1, v2⟩ := v
          have hzs : v1.size = 32 := hzs
          cases v2
          · gi_wp2_with fail
            refine ⟨trivial, CallsIn.mono (F := Fence.wide) (n := 0) (callsIn_wide.2 (join_walk (v1, false) y2 W (by show v1.size + _ ≤ _; omega) HKV.out)) ?_⟩
            rintro e W2 ⟨rfl, hb2⟩
            have hx1 : Boxed W2 wr.heap.size 9 (.string y) := (hb2.block _ (by omega)).trans HX1.out
            have hx2 : Boxed W2 (wr.heap.size + 1) 9 (.string y2) := (hb2.block _ (by omega)).trans HX2.out
            have c4 := hx2.cell
            have f4 := hx2.frozen
            have HY1 := Lib.hid (hx1.other (B' := wr.heap.size + 1) (by omega) (.string (joinS (v1, false) y2)))
            have HY2 := Lib.hid (hx2.set (.string (joinS (v1, false) y2)))
            have hs2 := hb2.size
            have HBL2 := Lib.hid hb2
            clear hx1 hx2 c0 c1 c2 c3 hb2
            gi_wp2_with fail
            have hu : But (wr.heap.size + 1) W (W2.setCell ⟨wr.heap.size + 1, 0, none⟩ (.string (joinS (v1, false) y2))) := (But.of_below (g := wr.heap.size + 1) HBL2.out).setCell (p := ⟨wr.heap.size + 1, 0, none⟩) (.inl rfl) _
            refine ⟨⟨hu.size, fun j _ hj hj2 _ => (hu.block j (Array.getElem?_eq_some_iff.1 hj2).1 (by omega)).trans hj2⟩, ⟨hu.block _ (by omega) (by omega), fun a ha => by have := HAL.out a ha; exact hu.block _ (by omega) (by omega)⟩, ?_, ?_, HBW.out.trans (hu.below (by omega) (by have := HBW.out.size; omega))⟩
            · rw [HSN.out]; exact HY1.out
            · rw [HSN2.out]; exact HY2.out
          · gi_wp2_with fail
            refine ⟨trivial, CallsIn.mono (F := Fence.wide) (n := 0) (callsIn_wide.2 (join_walk (v1, true) y W (by show v1.size + _ ≤ _; omega) HKV.out)) ?_⟩
            rintro e W2 ⟨rfl, hb2⟩
            have hx1 : Boxed W2 wr.heap.size 9 (.string y) := (hb2.block _ (by omega)).trans HX1.out
            have hx2 : Boxed W2 (wr.heap.size + 1) 9 (.string y2) := (hb2.block _ (by omega)).trans HX2.out
            have c4 := hx1.cell
            have f4 := hx1.frozen
            obtain ⟨W3, hW3⟩ : ∃ W3, W2.setCell ⟨wr.heap.size, 0, none⟩ (.string (joinS (v1, true) y)) = W3 := ⟨_, rfl⟩
            have hu : But wr.heap.size W W3 := by rw [← hW3]; exact (But.of_below (g := wr.heap.size) hb2).setCell (p := ⟨wr.heap.size, 0, none⟩) (.inl rfl) _
            have hy1 : Boxed W3 wr.heap.size 9 (.string (joinS (v1, true) y)) := by rw [← hW3]; exact hx1.set _
            have hy2 : Boxed W3 (wr.heap.size + 1) 9 (.string y2) := by rw [← hW3]; exact hx2.other (by omega) _
            have hsd3 : SideAt b (v1, true) W3 := ⟨(World.cell?_of_block (a := ⟨b, 0, none⟩) (hu.block b hbW (by omega))).trans HSD.out.1, (World.cell?_of_block (a := ⟨b, 1, none⟩) (hu.block b hbW (by omega))).trans HSD.out.2⟩
            have hK3 : KAt W3 := HKV.out.but hu (by have := HK.out.lt; have := HBW.out.size; have h9 := HB.out.size; omega)
            have HK3 := Lib.hid hK3
            have HY1 := Lib.hid hy1
            have HU := Lib.hid hu
            have hs3 := hu.size
            have d0 := hsd3.1
            have d1 := hsd3.2
            have d2 := hy2.cell
            have HY2 := Lib.hid hy2
            clear hu hy1 hy2 hsd3 hK3 hx1 hx2 c0 c1 c2 c3 hb2
            gi_wp2_with fail
            clear hW3 c4 f4
            refine ⟨trivial, CallsIn.mono (F := Fence.wide) (n := 0) (callsIn_wide.2 (join_walk (v1, true) y2 W3 (by show v1.size + _ ≤ _; omega) HK3.out)) ?_⟩
            rintro e W4 ⟨rfl, hb4⟩
            have hx1 : Boxed W4 wr.heap.size 9 (.string (joinS (v1, true) y)) := (hb4.block _ (by omega)).trans HY1.out
            have hx2 : Boxed W4 (wr.heap.size + 1) 9 (.string y2) := (hb4.block _ (by omega)).trans HY2.out
            have c4 := hx2.cell
            have f4 := hx2.frozen
            have HZ1 := Lib.hid (hx1.other (B' := wr.heap.size + 1) (by omega) (.string (joinS (v1, true) y2)))
            have HZ2 := Lib.hid (hx2.set (.string (joinS (v1, true) y2)))
            have HB4 := Lib.hid hb4
            have hs4 := hb4.size
            clear hx1 hx2 d0 d1 d2 hb4
            gi_wp2_with fail
            have hu2 : But (wr.heap.size + 1) W3 (W4.setCell ⟨wr.heap.size + 1, 0, none⟩ (.string (joinS (v1, true) y2))) := (But.of_below (g := wr.heap.size + 1) HB4.out).setCell (p := ⟨wr.heap.size + 1, 0, none⟩) (.inl rfl) _
            have hblk : ∀ k, k < W.heap.size → k ≠ wr.heap.size → k ≠ wr.heap.size + 1 → (W4.setCell ⟨wr.heap.size + 1, 0, none⟩ (.string (joinS (v1, true) y2))).heap[k]? = W.heap[k]? := fun k h1 h2 h3 => (hu2.block k (by omega) h3).trans (HU.out.block k h1 h2)
            refine ⟨⟨Nat.le_trans hs3 hu2.size, fun j _ hj hj2 _ => (hblk j (Array.getElem?_eq_some_iff.1 hj2).1 (by omega) (by omega)).trans hj2⟩, ⟨hblk _ (by omega) (by omega) (by omega), fun a ha => by have := HAL.out a ha; exact hblk _ (by omega) (by omega) (by omega)⟩, ?_, ?_, (HBW.out.trans (HU.out.below (by omega) (by have := HBW.out.size; omega))).trans (hu2.below (by omega) (by have := HBW.out.size; omega))⟩
            · rw [HSN.out]; exact HZ1.out
            · rw [HSN2.out]; exact HZ2.out
        · rintro xs W hS ⟨hx1, hx2, hB⟩ hK
          rw [fstF_all _ _ _ hS] at hx1
          rw [joinF_all _ _ _ hS] at hx2
          obtain ⟨y, hy⟩ : ∃ y, fstS ws z = y := ⟨_, rfl⟩
          obtain ⟨y2, hy2⟩ : ∃ y, ws.foldr joinS z = y := ⟨_, rfl⟩
          have hr := HR.out
          rw [show sndS ws z = ws.foldr joinS z from rfl, hy, hy2, ← str_eq, ← str_eq] at hr
          rw [hy] at hx1
          rw [hy2] at hx2
          obtain ⟨b1, hb1⟩ : ∃ b, (y.toList == old.toList) = b := ⟨_, rfl⟩
          rw [hb1] at hr
          have HR := Lib.hid hr
          have c0 := hx1.cell
          have c1 := hx2.cell
          have HBW := Lib.hid hB
          have HKK := Lib.hid hK
          clear hx1 hx2 hB hK hS hy hy2 hr
          cases b1
          all_goals
            go_wp2_with fail
            refine ⟨by simp, .inl ⟨_, _, rfl, run_takeDeferred HKK.out, ?_⟩⟩
            refine ⟨_, results_tmp rfl _ _ _, ?_, (Turns.putObj (Z := fun k => k = w9.heap.size) W _ _ rfl).below HBW.out (Nat.le_refl _) (fun k hk => by have := HBW.out.size; omega)⟩
            rw [HR.out]
            first | rfl | (simp; done)
        · rintro c pre W _ h _
          exact h.elim
    · -- {{
      have d0 : decide (m' < n') = true := by simp; omega
      have h1' : m' < n' := by omega
      rcases nil_or_snoc p' with rfl | ⟨p2, x, rfl⟩
      · obtain rfl : np = 0 := HNP.out.symm
        have hr : res = false := by rw [← HRES.out, HST.out, seS_nil h1']; rfl
        have HR := Lib.hid hr
        clear hr
        go_wp2_with (go_at_call 46; refine (take_none _ _ _).mono ?_; rintro e w4 ⟨rfl, rfl⟩)
        refine ⟨_, results_tmp rfl _ _ _, ?_, HB.out⟩
        rw [HR.out]; rfl
      · have hA2 := hA.take p2.length
        rw [List.take_left] at hA2
        have hds2 : ∀ y ∈ p2, y.size = 32 := fun y hy => HD.out y (List.mem_append_left _ hy)
        have hxs : x.size = 32 := HD.out x (by simp)
        obtain ⟨m2, hm2⟩ : ∃ m2, p2.length = m2 := ⟨_, rfl⟩
        have hnp2 : np = m2 + 1 := by rw [← HNP.out, List.length_append, hm2]; rfl
        obtain ⟨k0, k1, k2⟩ := leftN_ok (n := n') (by omega)
        obtain ⟨k, hk⟩ : ∃ k, leftN n' = k := ⟨_, rfl⟩
        rw [hk] at k0 k1 k2
        have hT := take_some A p2 x cap (by omega) (by omega) wr (hA.more hbs)
        rw [hm2] at hT
        subst hnp2
        have HT := Lib.hid hT
        have HA2 := Lib.hid hA2
        have HD2 := Lib.hid hds2
        have HX := Lib.hid hxs
        have HM2 := Lib.hid hm2
        have HKK := Lib.hid hk
        clear hT hA2 hds2 hxs hm2 hk hA
        by_cases hik : m' ≤ k
        · have hst2 := seS_left p2 x (n := n') (m := m') hm1 h1' (by rw [HKK.out]; exact hik)
          rw [HKK.out] at hst2
          have HST2 := Lib.hid hst2
          clear hst2
          have e1 : decide (k < m') = false := by simp; omega
          go_wp2_with fail
          refine HT.out.mono ?_
          rintro e w3 ⟨rfl, nq, rfl⟩
          have HB := Lib.hid (Below.drewN' HB.out nq)
          have HKW := Lib.hid (show KAt (wr.drewN nq) from HKW.out)
          have HA2 : Hid (LAt (wr.drewN nq) w.heap.size _ _ _) := HA2
          have HO := Lib.hid (ho.drewN nq)
          have hbs : w.heap.size ≤ (wr.drewN nq).heap.size := hbs
          clear ho HT
          generalize wr.drewN nq = wz at HB HKW HA2 HO hbs ⊢
          go_wp2_with (first
            | (go_at_call 40; refine (left_walk n' (by omega) (by omega) _).mono ?_; rw [HKK.out]; rintro e w' ⟨rfl, rfl⟩)
            | (at_builtin; refine wpList_app rfl (.tmp 81) (.tmp 87) 54 rfl elemSide _ ws ws.length rfl rfl (HO.out.alloc _) (x, false) wz.heap.size #[.string x, .bool false] rfl ?hc rfl rfl (by simp [sideC, Value.oneCell']) (by unfold maxLen; omega) (by omega) (by simp; omega) ?_; (case hc => exact World.alloc_heap_new _ _); intro g5 c5 w5 h5 hg5 hg5' hg5l hb5))
          have hZ5 : Below w.heap.size wz w5 := ((Below.refl _ _).alloc hbs _).trans hb5
          go_roundw
          case rel =>
           refine ⟨k, m', m2, p2, ws ++ [(x, false)], wh, HM2.out, rfl, rfl, hm1, hik, by omega, rfl, HA2.out.below hZ5, HD2.out, ?_, ?_, by simp; omega, rfl, by rw [any_snoc, HWH.out, Bool.or_false], by first | exact h5 | (rw [List.length_append]; exact h5), HB.out.trans hZ5⟩
           · rw [HST.out, HST2.out, Option.map_map]
             congr 1
             funext y
             simp
           · intro y hy
             rcases List.mem_append.1 hy with h | h
             · exact HWS.out y h
             · rw [List.mem_singleton.1 h]; exact HX.out
          case measure => simp [intOf]; omega
        · have hst2 := seS_right p2 x (n := n') (m := m') hm1 h1' (by rw [HKK.out]; exact hik)
          rw [HKK.out] at hst2
          obtain ⟨j, hj⟩ : ∃ j, m' - k = j := ⟨_, rfl⟩
          have hji : (m' : Int) - (k : Int) = (j : Int) := by omega
          obtain ⟨n2, hn2⟩ : ∃ n2, n' - k = n2 := ⟨_, rfl⟩
          have hn2i : (n' : Int) - (k : Int) = (n2 : Int) := by omega
          rw [hj, hn2] at hst2
          have HJ := Lib.hid hj
          have HN2 := Lib.hid hn2
          have HST2 := Lib.hid hst2
          clear hst2 hj hn2
          have e1 : decide (k < m') = true := by simp; omega
          go_wp2_with fail
          refine HT.out.mono ?_
          rintro e w3 ⟨rfl, nq, rfl⟩
          have HB := Lib.hid (Below.drewN' HB.out nq)
          have HKW := Lib.hid (show KAt (wr.drewN nq) from HKW.out)
          have HA2 : Hid (LAt (wr.drewN nq) w.heap.size _ _ _) := HA2
          have HO := Lib.hid (ho.drewN nq)
          have hbs : w.heap.size ≤ (wr.drewN nq).heap.size := hbs
          clear ho HT
          generalize wr.drewN nq = wz at HB HKW HA2 HO hbs ⊢
          go_wp2_with (first
            | (go_at_call 40; refine (left_walk n' (by omega) (by omega) _).mono ?_; rw [HKK.out]; rintro e w' ⟨rfl, rfl⟩)
            | (at_builtin; refine wpList_app rfl (.tmp 81) (.tmp 87) 54 rfl elemSide _ ws ws.length rfl rfl (HO.out.alloc _) (x, true) wz.heap.size #[.string x, .bool true] rfl ?hc rfl rfl (by simp [sideC, Value.oneCell']) (by unfold maxLen; omega) (by omega) (by simp; omega) ?_; (case hc => exact World.alloc_heap_new _ _); intro g5 c5 w5 h5 hg5 hg5' hg5l hb5))
          have hZ5 : Below w.heap.size wz w5 := ((Below.refl _ _).alloc hbs _).trans hb5
          go_roundw
          case rel =>
           refine ⟨n2, j, m2, p2, ws ++ [(x, true)], false, HM2.out, rfl, rfl, by have := HJ.out; omega, by have := HJ.out; have := HN2.out; omega, by have := HN2.out; omega, rfl, HA2.out.below hZ5, HD2.out, ?_, ?_, by simp; omega, rfl, by rw [any_snoc]; simp, by first | exact h5 | (rw [List.length_append]; exact h5), HB.out.trans hZ5⟩
           · rw [HST.out, HST2.out, Option.map_map]
             congr 1
             funext y
             simp
           · intro y hy
             rcases List.mem_append.1 hy with h | h
             · exact HWS.out y h
             · rw [List.mem_singleton.1 h]; exact HX.out
          case measure => simp [intOf]; have := HN2.out; omega
      -- }}

theorem vext_walk (old root : ByteArray) (m n : Int) (A : Option Addr) (p : List ByteArray) (np cap : Nat) (hnp : p.length = np) (hp : np ≤ 1000) (hcap : np ≤ cap) (hn : n ≤ 9223372036854775807) (w : World) (hA : LAt w w.heap.size A .string p) (hK : KAt w) :
    Calls Tryd.prog 23 #[.string old, .int .i64 m, .string root, .int .i64 n, .slice A np cap] w fun e w' => e = .returned (.bool (verE old m root n p)) ∧ Below w.heap.size w w' := by
  subst hnp
  unfold verE
  by_cases h : m < 0 ∨ n < m ∨ allB p = false ∨ old.size ≠ 32 ∨ root.size ≠ 32
  · rw [if_pos h]
    refine (vext_no old root m n A p cap hp h w hA).mono ?_
    rintro e w' ⟨rfl, rfl⟩
    exact ⟨rfl, Below.refl _ _⟩
  · rw [if_neg h]
    have h1 : ¬ m < 0 := fun e => h (.inl e)
    have h2 : ¬ n < m := fun e => h (.inr (.inl e))
    have h3 : allB p = true := by
      cases e : allB p with
      | true => rfl
      | false => exact (h (.inr (.inr (.inl e)))).elim
    have h4 : old.size = 32 := Decidable.byContradiction fun e => h (.inr (.inr (.inr (.inl e))))
    have h5 : root.size = 32 := Decidable.byContradiction fun e => h (.inr (.inr (.inr (.inr e))))
    by_cases h6 : m = 0
    · subst h6
      rw [if_pos rfl]
      exact vext_zero old root n A p cap hp (by omega) h3 h4 h5 w hA hK
    · rw [if_neg h6]
      by_cases h7 : m = n
      · subst h7
        rw [if_pos rfl]
        refine (vext_eq old root m A p cap hp (by omega) h3 h4 h5 w hA).mono ?_
        rintro e w' ⟨rfl, rfl⟩
        exact ⟨rfl, Below.refl _ _⟩
      · rw [if_neg h7]
        obtain ⟨n, rfl⟩ : ∃ k : Nat, n = k := ⟨n.toNat, by omega⟩
        obtain ⟨m, rfl⟩ : ∃ k : Nat, m = k := ⟨m.toNat, by omega⟩
        rw [Int.toNat_natCast, Int.toNat_natCast]
        exact vext_yes old root n m A p cap hp hcap (by omega) (by omega) (by omega) h3 h4 h5 w hA hK

end Go.Proofs.YtjelniemoambaaaDoor
