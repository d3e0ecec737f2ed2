/-
  The contract of package digest's Verify. Conditions: the table's variable holds the table; a bound on the strings' lengths.
-/
import Derived.Test.YtjelniemoambaaaDoorDigL
namespace Go.Proofs.YtjelniemoambaaaDoor
open Go Go.RowKit Go.Shelf
attribute [local go_sem] Oper.semAt_some

abbrev SideL (w : World) (B : Nat) (v : Value) (l : List (ByteArray × Bool)) : Prop := OL w B 58 2 sideC v l
theorem OL.sat {w : World} {B : Nat} {A : Option Addr} {n cap : Nat} {l : List (ByteArray × Bool)} (h : SideL w B (.slice A n cap) l) : SAt w w.heap.size A l := by
  intro i x hx
  have hi : i < l.length := (List.getElem?_eq_some_iff.1 hx).1
  obtain ⟨g, c, he, hg, hgl, -, -⟩ := h.form (by omega)
  cases he
  have key : ∀ j, j < 2 → w.cell? ⟨g, i * 2 + j, none⟩ = (sideC x)[j]? := by
    intro j hj
    rw [World.ownsRow.cellAt h (i * 2 + j) (by omega)]
    have h1 : (l.flatMap sideC)[i * 2 + j]? = (sideC x)[j]? := by
      have hfl : ∀ y, (sideC y).length = 2 := fun _ => rfl
      have h2 := flatMap_take (l := l) hfl i
      have h3 : l = l.take i ++ x :: l.drop (i + 1) := by
        have e := (List.getElem?_eq_some_iff.1 hx).2
        rw [← e]; simp
      have h4 : ((l.take i).flatMap sideC).length = i * 2 := by rw [flatMap_length hfl, List.length_take]; congr 1; omega
      conv => lhs; rw [h3]
      rw [List.flatMap_append, List.flatMap_cons, List.getElem?_append_right (by omega), h4, Nat.add_sub_cancel_left, List.getElem?_append_left (by rw [hfl]; exact hj)]
    exact h1
  refine ⟨g, rfl, hgl, ?_, ?_⟩
  · have := key 0 (by decide); simpa [sideC] using this
  · have := key 1 (by decide); simpa [sideC] using this

/-- Sides put together from the last one on. -/
def joinF (L : List (ByteArray × Bool)) (z : ByteArray) (pre : List (Fin L.length)) : ByteArray := pre.foldl (fun out i => joinS L[i.val] out) z
theorem joinF_snoc (L : List (ByteArray × Bool)) (z : ByteArray) (pre : List (Fin L.length)) (i : Fin L.length) : joinF L z (pre ++ [i]) = joinS L[i.val] (joinF L z pre) := by unfold joinF; rw [List.foldl_append]; rfl
theorem joinF_all (L : List (ByteArray × Bool)) (z : ByteArray) (xs : List (Fin L.length)) (h : xs.map Fin.val = (List.range L.length).reverse) : joinF L z xs = L.foldr joinS z := fold_back L joinS z xs h
theorem joinF_size {L : List (ByteArray × Bool)} {z : ByteArray} (hz : z.size = 32) (pre : List (Fin L.length)) : (joinF L z pre).size = 32 := by
  rcases nil_or_snoc pre with rfl | ⟨p, x, rfl⟩
  · exact hz
  · rw [joinF_snoc]; exact joinS_size _ _
def SideAt (b : Nat) (x : ByteArray × Bool) (W : World) : Prop := W.cell? ⟨b, 0, none⟩ = some (.string x.1) ∧ W.cell? ⟨b, 1, none⟩ = some (.bool x.2)
theorem SideAt.turns {b : Nat} {x : ByteArray × Bool} {w A B : World} (h : SideAt b x A) (hb : w.heap.size + 2 ≤ b) (hA : b < A.heap.size) (t : Turns (fun k => (fun _ => False) k ∨ books w k) A B) : SideAt b x B := by
  have hz : ¬ ((fun _ => False) b ∨ books w b) := by
    rintro (e | e | e)
    · exact e
    · omega
    · omega
  exact ⟨(t.cell (p := ⟨b, 0, none⟩) hA hz).trans h.1, (t.cell (p := ⟨b, 1, none⟩) hA hz).trans h.2⟩
theorem KpB.of_below {b1 n : Nat} {A : Option Addr} {U V : World} (hb : b1 < n) (hA : ∀ a, A = some a → a.block < n) (hn : n ≤ U.heap.size) (h : Below U.heap.size U V) : KpB b1 A U V :=
  ⟨h.block _ (by omega), fun a ha => h.block _ (by have := hA a ha; omega)⟩
theorem KpB.put {b1 n k : Nat} {A : Option Addr} (hb : b1 < n) (hA : ∀ a, A = some a → a.block < n) (hk : n ≤ k) (W : World) (o : Obj) : KpB b1 A W (W.putObj k o) :=
  ⟨World.putObj_heap_other (by omega), fun a ha => World.putObj_heap_other (by have := hA a ha; omega)⟩

set_option maxHeartbeats 2000000 in
theorem verify_no (root s : ByteArray) (n i : Int) (A : Option Addr) (p : List ByteArray) (cap : Nat) (hp : p.length ≤ 1000) (h : i < 0 ∨ n ≤ i ∨ allB p = false) (w : World) (hA : LAt w w.heap.size A .string p) :
    Calls Tryd.prog 21 #[.string root, .int .i64 n, .int .i64 i, .string s, .slice A p.length cap] w fun e w' => e = .returned (.bool false) ∧ w = w' := by
  have HA := Lib.hid hA
  clear hA
  by_cases h1 : i < 0
  · clear h
    go_enter Tryd.func21, Tryd.ntmps21
    go_wp2_with fail
    go_ret
    exact ⟨rfl, rfl⟩
  · have q1 : decide (i < 0) = false := by simp; omega
    by_cases h2 : n ≤ i
    · clear h
      go_enter Tryd.func21, Tryd.ntmps21
      go_wp2_with fail
      go_ret
      exact ⟨rfl, rfl⟩
    · have q2 : decide (n ≤ i) = false := by simp; omega
      have h3 : allB p = false := by rcases h with h | h | h; (· omega); (· omega); (· exact h)
      have H3 := Lib.hid h3
      clear h h3
      go_enter Tryd.func21, Tryd.ntmps21
      go_wp2_with (go_at_call 45; refine (all_walk A p cap (by omega) _ HA.out).mono ?_; rw [H3.out]; rintro e w' ⟨rfl, rfl⟩)
      go_ret
      exact ⟨rfl, rfl⟩

set_option maxRecDepth 100000 in
set_option maxHeartbeats 4000000 in
theorem verify_yes (root s : ByteArray) (n i : Nat) (A : Option Addr) (p : List ByteArray) (cap : Nat) (hp : p.length ≤ 1000) (hcap : p.length ≤ cap) (hs : s.size ≤ 100000) (h : i < n) (hn : n ≤ 9223372036854775807) (hall : allB p = true) (w : World) (hA : LAt w w.heap.size A .string p) (hK : KAt w) :
    Calls Tryd.prog 21 #[.string root, .int .i64 n, .int .i64 i, .string s, .slice A p.length cap] w fun e w' => e = .returned (.bool (match stS n i p with | none => false | some (ws, rest) => decide (rest = []) && decide (ws.foldr joinS (leafS s) = root))) ∧ Below w.heap.size w w' := by
  have q1 : decide ((i : Int) < 0) = false := by simp
  have q2 : decide (n ≤ i) = false := by simp; omega
  obtain ⟨res, hres⟩ : ∃ res, (match stS n i p with | none => false | some (ws, rest) => decide (rest = []) && decide (ws.foldr joinS (leafS s) = root)) = res := ⟨_, rfl⟩
  rw [hres]
  have HRES := Lib.hid hres
  have HALL := Lib.hid hall
  have hds : ∀ x ∈ p, x.size = 32 := fun x hx => by have := List.all_eq_true.1 hall x hx; simpa using this
  have HDS := Lib.hid hds
  have HA := Lib.hid hA
  have HK := Lib.hid hK
  clear hres hall hA hK hds
  refine (callsIn_wide (n := 3)).1 ?_
  refine callsIn_of_wp_marks Tryd.func21 rfl trivial ?_ rfl
  simp only [Tryd.ntmps21, List.size_toArray, List.length_cons, List.length_nil, Nat.reduceAdd, Nat.reduceSub, Array.replicate_succ, Array.replicate_zero, List.push_toArray, List.append_toArray, List.nil_append, List.cons_append]
  refine wpIn_wide.2 ?_
  go_wp2_with (go_at_call 45; refine (all_walk A p cap (by omega) _ HA.out).mono ?_; rw [HALL.out]; rintro e w' ⟨rfl, rfl⟩)
  go_loopw [1, 2, 4, 11] (fun v1 v2 v4 v11 wr => ∃ (n' i' np : Nat) (p' : List ByteArray) (ws : List (ByteArray × Bool)), p'.length = np ∧ v1 = .int .i64 n' ∧ v2 = .int .i64 i' ∧ i' < n' ∧ n' ≤ 9223372036854775807 ∧ v4 = .slice A np cap ∧ LAt wr w.heap.size A .string p' ∧ (∀ x ∈ p', x.size = 32) ∧
      stS n i p = (stS n' i' p').map (fun y => (ws ++ y.1, y.2)) ∧ (∀ x ∈ ws, x.1.size = 32) ∧ ws.length + np = p.length ∧ SideL wr w.heap.size v11 ws ∧ Below w.heap.size w wr) (fun v _ _ _ _ => (intOf v).toNat)
  case atStart => exact ⟨n, i, p.length, p, [], rfl, rfl, rfl, h, hn, rfl, HA.out, HDS.out, by simp, by simp, by simp, OL.nil, Below.refl _ _⟩
  case round =>
    obtain ⟨n', i', np, p', ws, hnp, rfl, rfl, hi', hn', rfl, hA, hds, hst, hws, hlen, ho, hB⟩ := hrel
    have HNP := Lib.hid hnp
    have HD := Lib.hid hds
    have HST := Lib.hid hst
    have HWS := Lib.hid hws
    have HB := Lib.hid hB
    have HKW := Lib.hid (HK.out.below hB)
    have hbs := hB.size
    clear hnp hds hst hws hB
    by_cases h1 : n' ≤ 1
    · -- the end
      have d0 : decide ((1 : Int) < (n' : Int)) = false := by simp; omega
      have hi0 : i' = 0 := by omega
      have hst := HST.out
      rw [stS_one i' p' h1] at hst
      have HST := Lib.hid hst
      clear hst hi0
      obtain ⟨A11, c11, rfl, -, -⟩ := ho.slice
      have hAl : ∀ a, A11 = some a → a.block < wr.heap.size := fun a ha => by subst ha; exact (ho.lt a.block rfl).2
      have HO := Lib.hid ho
      have HAL := Lib.hid hAl
      clear ho hA hAl
      go_wp2_with (first
        | (go_at_call 29; refine (leaf_walk s _ (by omega) HKW.out).mono ?_; rintro e w4 ⟨rfl, hb4⟩; have hz4 := hb4.size)
        | (go_at_call 47; refine (backP_any _ _ _ _).mono ?_; rintro e w5 ⟨rfl, rfl⟩))
      obtain ⟨w7, hw7⟩ : ∃ w7, (w4.alloc (.cells #[.string (leafS s)] 9)).alloc (.cells #[.slice A11 ws.length c11] 54) = w7 := ⟨_, rfl⟩
      have x0 : Boxed w7 w4.heap.size 9 (.string (leafS s)) := by rw [← hw7]; exact (Boxed.new w4 _ _).alloc _
      have x1 : Boxed w7 (w4.heap.size + 1) 54 (.slice A11 ws.length c11) := by
        have := Boxed.new (w4.alloc (.cells #[.string (leafS s)] 9)) 54 (.slice A11 ws.length c11)
        rw [World.size_alloc, hw7] at this; exact this
      have hbl : Below w4.heap.size w4 w7 := by rw [← hw7]; exact ((Below.refl _ _).alloc (Nat.le_refl _) _).alloc (by simp) _
      have hs7 : w7.heap.size = w4.heap.size + 2 := by rw [← hw7]; simp
      have hB7 : Below w.heap.size w w7 := (HB.out.trans (hb4.mono hbs)).trans (hbl.mono (by omega))
      have hS7 : SAt w7 w7.heap.size A11 ws := ((HO.out.below hb4 (Nat.le_refl _)).below hbl (Nat.le_refl _)).sat
      have hAl7 : ∀ a, A11 = some a → a.block < w4.heap.size + 2 := fun a ha => by have := HAL.out a ha; omega
      rw [hw7]
      clear hw7 hbl hb4
      refine (wpIn_wide (n := 3)).1 ?_
      refine wp_rangeZB (gf := 63) (lb := #[.pointer (some ⟨w4.heap.size + 1, 0, none⟩)]) rfl (enters_of Tryd.func63 (by kernel_rfl) rfl)
        (backP_iter A11 ws c11 (w4.heap.size + 1) (by omega) w7 x1 hS7) (Below.refl _ _) (fun k hk => hk.elim) (fun _ => rfl) (fun h k => h.trans k)
        (fun W o => KpB.put (n := w4.heap.size + 2) (by omega) hAl7 (by omega) W o)
        (fun pre W => Boxed W w4.heap.size 9 (.string (joinF ws (leafS s) pre)) ∧ Below w.heap.size w W)
        (fun _ _ _ => False)
        (fun s A B h t => ⟨t.boxed h.1 (not_books (by omega)), t.below h.2 (Nat.le_refl _) (far_books (by omega))⟩)
        (fun _ _ _ _ h _ => h.elim)
        ⟨x0, hB7⟩ ?F (fun b x W => SideAt b (ws.get x) W) (fun b x A B h1 h2 h3 h4 => h3.turns h1 h2 h4)
        (fun A B h1 h2 => KpB.of_below (n := w4.heap.size + 2) (by omega) hAl7 (by omega) h2) ?assign ?body ?done ?stop
      case assign =>
        intro l x W b K hWb hb hK
        dsimp only [encB, sideV]
        gi_wp2
        refine hK _ ⟨?_, ?_⟩ ?_ ?_
        · subst hWb; simp
        · subst hWb; simp
        · subst hWb; exact (Below.refl _ _).alloc (Nat.le_refl _) _
        · subst hWb; simp
      case body =>
        rintro l0 pre x b W hb hbW ⟨hbx, hB⟩ hsd hlt2
        have hys := joinF_size (L := ws) (leafS_size s) pre
        have hsn : joinF ws (leafS s) (pre ++ [x]) = joinS (ws.get x) (joinF ws (leafS s) pre) := joinF_snoc ws (leafS s) pre x
        have hzs := HWS.out (ws.get x) (List.get_mem ws x)
        obtain ⟨y, hy⟩ : ∃ y, joinF ws (leafS s) pre = y := ⟨_, rfl⟩
        rw [hy] at hbx hys hsn
        obtain ⟨z, hz⟩ : ∃ z, ws.get x = z := ⟨_, rfl⟩
        rw [hz] at hsd hsn hzs
        have c0 := hsd.1
        have c1 := hsd.2
        have c2 := hbx.cell
        have HSN := Lib.hid hsn
        have HKV := Lib.hid (HK.out.below hB)
        have HBB := Lib.hid hbx
        have HBW := Lib.hid hB
        clear hy hz hsn hbx hB hsd x0 x1 hS7 hB7
        gi_wp2_with fail
        refine ⟨trivial, CallsIn.mono (F := Fence.wide) (n := 0) (callsIn_wide.2 (join_walk z y W (by omega) HKV.out)) ?_⟩
        rintro e W2 ⟨rfl, hb2⟩
        have hbx : Boxed W2 w4.heap.size 9 (.string y) := (hb2.block _ (by omega)).trans HBB.out
        have c3 := hbx.cell
        have f3 := hbx.frozen
        have HBX := Lib.hid (hbx.set (.string (joinS z y)))
        have hs2 := hb2.size
        have HBL := Lib.hid hb2
        clear hbx c0 c1 c2 hb2
        gi_wp2_with fail
        have hu : But w4.heap.size W (W2.setCell ⟨w4.heap.size, 0, none⟩ (.string (joinS z y))) := (But.of_below (g := w4.heap.size) HBL.out).setCell (p := ⟨w4.heap.size, 0, none⟩) (.inl rfl) _
        refine ⟨⟨hu.size, fun j _ hj hj2 _ => (hu.block j (Array.getElem?_eq_some_iff.1 hj2).1 (by omega)).trans hj2⟩, ⟨hu.block _ (by omega) (by omega), fun a ha => by have := HAL.out a ha; exact hu.block _ (by omega) (by omega)⟩, ?_, HBW.out.trans (hu.below (by omega) (by have := HBW.out.size; omega))⟩
        rw [HSN.out]
        exact HBX.out
      case done =>
        rintro xs W hS ⟨hb, hB⟩ hK
        rw [joinF_all _ _ _ hS] at hb
        obtain ⟨y, hy⟩ : ∃ y, ws.foldr joinS (leafS s) = y := ⟨_, rfl⟩
        rw [hy] at hb
        have hres : res = (decide (p' = []) && decide (y = root)) := by rw [← HRES.out, HST.out, ← hy]; simp
        have HR := Lib.hid hres
        have c0 := hb.cell
        have HBW := Lib.hid hB
        have HKK := Lib.hid hK
        clear hb hB hK hS hy hres x0 x1 hS7 hB7
        have hnp := HNP.out
        have HNP2 := Lib.hid (show (p' = []) = (np = 0) by rw [← hnp]; simp)
        clear hnp
        have hKW : W.heap[w4.heap.size + 2]? = some (Obj.deferred (some [])) := by rw [← hs7]; exact HKK.out
        go_wp2_with fail
        · refine ⟨by simp, .inl ⟨_, _, rfl, run_takeDeferred hKW, ?_⟩⟩
          refine ⟨_, results_tmp rfl _ _ _, ?_, ?_⟩
          · rw [HR.out]
            have h0 : np = 0 := by assumption
            rw [show decide (p' = []) = true by rw [decide_eq_true_eq, HNP2.out]; exact h0, Bool.true_and, ← str_eq]
            rfl
          · exact (Turns.putObj (Z := fun k => k = w4.heap.size + 2) W _ _ rfl).below HBW.out (Nat.le_refl _) (fun k hk => by have := HBW.out.size; omega)
        · refine ⟨by simp, .inl ⟨_, _, rfl, run_takeDeferred hKW, ?_⟩⟩
          refine ⟨_, results_tmp rfl _ _ _, ?_, ?_⟩
          · rw [HR.out]
            have h0 : ¬ np = 0 := by assumption
            rw [show decide (p' = []) = false by rw [decide_eq_false_iff_not, HNP2.out]; exact h0]
            rfl
          · exact (Turns.putObj (Z := fun k => k = w4.heap.size + 2) W _ _ rfl).below HBW.out (Nat.le_refl _) (fun k hk => by have := HBW.out.size; omega)
      case stop =>
        rintro c pre W _ h _
        exact h.elim
    · -- {{
      have d0 : decide ((1 : Int) < (n' : Int)) = true := by simp; omega
      rcases nil_or_snoc p' with rfl | ⟨p2, x, rfl⟩
      · obtain rfl : np = 0 := HNP.out.symm
        have hr : res = false := by rw [← HRES.out, HST.out, stS_nil i' (by omega)]; rfl
        have HR := Lib.hid hr
        clear hr
        go_wp2_with (go_at_call 46; refine (take_none _ _ _).mono ?_; rintro e w4 ⟨rfl, rfl⟩)
        refine ⟨_, results_tmp rfl _ _ _, ?_, HB.out⟩
        rw [HR.out]; rfl
      · have hA2 := hA.take p2.length
        rw [List.take_left] at hA2
        have hds2 : ∀ y ∈ p2, y.size = 32 := fun y hy => HD.out y (List.mem_append_left _ hy)
        have hxs : x.size = 32 := HD.out x (by simp)
        obtain ⟨m2, hm2⟩ : ∃ m2, p2.length = m2 := ⟨_, rfl⟩
        have hnp2 : np = m2 + 1 := by rw [← HNP.out, List.length_append, hm2]; rfl
        obtain ⟨k0, k1, k2⟩ := leftN_ok (n := n') (by omega)
        obtain ⟨k, hk⟩ : ∃ k, leftN n' = k := ⟨_, rfl⟩
        rw [hk] at k0 k1 k2
        have hT := take_some A p2 x cap (by omega) (by omega) wr (hA.more hbs)
        rw [hm2] at hT
        subst hnp2
        have HT := Lib.hid hT
        have HA2 := Lib.hid hA2
        have HD2 := Lib.hid hds2
        have HX := Lib.hid hxs
        have HM2 := Lib.hid hm2
        have HKK := Lib.hid hk
        clear hT hA2 hds2 hxs hm2 hk hA
        by_cases hik : i' < k
        · have hst2 := stS_left p2 x (n := n') (i := i') (by omega) (by rw [HKK.out]; exact hik)
          rw [HKK.out] at hst2
          have HST2 := Lib.hid hst2
          clear hst2
          have e1 : decide (k ≤ i') = false := by simp; omega
          go_wp2_with fail
          refine HT.out.mono ?_
          rintro e w3 ⟨rfl, nq, rfl⟩
          have HB := Lib.hid (Below.drewN' HB.out nq)
          have HKW := Lib.hid (show KAt (wr.drewN nq) from HKW.out)
          have HA2 : Hid (LAt (wr.drewN nq) w.heap.size _ _ _) := HA2
          have HO := Lib.hid (ho.drewN nq)
          have hbs : w.heap.size ≤ (wr.drewN nq).heap.size := hbs
          clear ho HT
          generalize wr.drewN nq = wz at HB HKW HA2 HO hbs ⊢

          go_wp2_with (first
            | (go_at_call 40; refine (left_walk n' (by omega) (by omega) _).mono ?_; rw [HKK.out]; rintro e w' ⟨rfl, rfl⟩)
            | (at_builtin; refine wpList_app rfl (.tmp 44) (.tmp 50) 54 rfl elemSide _ ws ws.length rfl rfl (HO.out.alloc _) (x, false) wz.heap.size #[.string x, .bool false] rfl ?hc rfl rfl (by simp [sideC, Value.oneCell']) (by unfold maxLen; omega) (by omega) (by simp; omega) ?_; (case hc => exact World.alloc_heap_new _ _); intro g5 c5 w5 h5 hg5 hg5' hg5l hb5))
          have hZ5 : Below w.heap.size wz w5 := ((Below.refl _ _).alloc hbs _).trans hb5
          go_roundw
          case rel =>
           refine ⟨k, i', m2, p2, ws ++ [(x, false)], HM2.out, rfl, rfl, hik, by omega, rfl, HA2.out.below hZ5, HD2.out, ?_, ?_, by simp; omega, by first | exact h5 | (rw [List.length_append]; exact h5), HB.out.trans hZ5⟩
           · rw [HST.out, HST2.out, Option.map_map]
             congr 1
             funext y
             simp
           · intro y hy
             rcases List.mem_append.1 hy with h | h
             · exact HWS.out y h
             · rw [List.mem_singleton.1 h]; exact HX.out
          case measure => simp [intOf]; omega
        · have hst2 := stS_right p2 x (n := n') (i := i') (by omega) (by rw [HKK.out]; exact hik)
          rw [HKK.out] at hst2
          obtain ⟨j, hj⟩ : ∃ j, i' - k = j := ⟨_, rfl⟩
          have hji : (i' : Int) - (k : Int) = (j : Int) := by omega
          obtain ⟨n2, hn2⟩ : ∃ n2, n' - k = n2 := ⟨_, rfl⟩
          have hn2i : (n' : Int) - (k : Int) = (n2 : Int) := by omega
          rw [hj, hn2] at hst2
          have HJ := Lib.hid hj
          have HN2 := Lib.hid hn2
          have HST2 := Lib.hid hst2
          clear hst2 hj hn2
          have e1 : decide (k ≤ i') = true := by simp; omega
          go_wp2_with fail
          refine HT.out.mono ?_
          rintro e w3 ⟨rfl, nq, rfl⟩
          have HB := Lib.hid (Below.drewN' HB.out nq)
          have HKW := Lib.hid (show KAt (wr.drewN nq) from HKW.out)
          have HA2 : Hid (LAt (wr.drewN nq) w.heap.size _ _ _) := HA2
          have HO := Lib.hid (ho.drewN nq)
          have hbs : w.heap.size ≤ (wr.drewN nq).heap.size := hbs
          clear ho HT
          generalize wr.drewN nq = wz at HB HKW HA2 HO hbs ⊢

          go_wp2_with (first
            | (go_at_call 40; refine (left_walk n' (by omega) (by omega) _).mono ?_; rw [HKK.out]; rintro e w' ⟨rfl, rfl⟩)
            | (at_builtin; refine wpList_app rfl (.tmp 44) (.tmp 50) 54 rfl elemSide _ ws ws.length rfl rfl (HO.out.alloc _) (x, true) wz.heap.size #[.string x, .bool true] rfl ?hc rfl rfl (by simp [sideC, Value.oneCell']) (by unfold maxLen; omega) (by omega) (by simp; omega) ?_; (case hc => exact World.alloc_heap_new _ _); intro g5 c5 w5 h5 hg5 hg5' hg5l hb5))
          have hZ5 : Below w.heap.size wz w5 := ((Below.refl _ _).alloc hbs _).trans hb5
          go_roundw
          case rel =>
           refine ⟨n2, j, m2, p2, ws ++ [(x, true)], HM2.out, rfl, rfl, by have := HJ.out; have := HN2.out; omega, by have := HN2.out; omega, rfl, HA2.out.below hZ5, HD2.out, ?_, ?_, by simp; omega, by first | exact h5 | (rw [List.length_append]; exact h5), HB.out.trans hZ5⟩
           · rw [HST.out, HST2.out, Option.map_map]
             congr 1
             funext y
             simp
           · intro y hy
             rcases List.mem_append.1 hy with h | h
             · exact HWS.out y h
             · rw [List.mem_singleton.1 h]; exact HX.out
          case measure => simp [intOf]; have := HN2.out; omega
      -- }}

theorem verify_walk (root s : ByteArray) (n i : Int) (A : Option Addr) (p : List ByteArray) (np cap : Nat) (hnp : p.length = np) (hp : np ≤ 1000) (hcap : np ≤ cap) (hs : s.size ≤ 100000) (hn : n ≤ 9223372036854775807) (w : World) (hA : LAt w w.heap.size A .string p) (hK : KAt w) :
    Calls Tryd.prog 21 #[.string root, .int .i64 n, .int .i64 i, .string s, .slice A np cap] w fun e w' => e = .returned (.bool (verB root n i s p)) ∧ Below w.heap.size w w' := by
  subst hnp
  unfold verB
  by_cases h : i < 0 ∨ n ≤ i ∨ allB p = false
  · rw [if_pos h]
    refine (verify_no root s n i A p cap hp h w hA).mono ?_
    rintro e w' ⟨rfl, rfl⟩
    exact ⟨rfl, Below.refl _ _⟩
  · rw [if_neg h]
    have h1 : ¬ i < 0 := fun e => h (.inl e)
    have h2 : ¬ n ≤ i := fun e => h (.inr (.inl e))
    have h3 : allB p = true := by
      cases e : allB p with
      | true => rfl
      | false => exact (h (.inr (.inr e))).elim
    obtain ⟨n, rfl⟩ : ∃ k : Nat, n = k := ⟨n.toNat, by omega⟩
    obtain ⟨i, rfl⟩ : ∃ k : Nat, i = k := ⟨i.toNat, by omega⟩
    rw [Int.toNat_natCast, Int.toNat_natCast]
    exact verify_yes root s n i A p cap hp hcap hs (by omega) (by omega) h3 w hA hK

end Go.Proofs.YtjelniemoambaaaDoor
