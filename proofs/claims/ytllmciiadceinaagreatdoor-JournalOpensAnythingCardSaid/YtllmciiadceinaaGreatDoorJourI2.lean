/-
  The contract of Append. Conditions: the package's variables hold what they hold; bounds.
-/
import Derived.Test.YtllmciiadceinaaGreatDoorJourI
namespace Go.Proofs.YtllmciiadceinaaGreatDoor
open Go Go.RowKit Go.Shelf Wr

set_option maxRecDepth 100000 in
set_option maxHeartbeats 8000000 in
theorem append_all {W : World} {F G : Nat → Prop} {j d gd gv n : Nat} {vp : Value} {s : DS} {t : TS} {brk : Bool} (hd : DAt W F d gd gv vp n s) (hj : JAt W G j d t brk) (hFG : ∀ k, F k → ¬ G k) (A : Option Addr) (L : List ByteArray) (m c : Nat) (hm : L.length = m) (hA : LAt W W.heap.size A .string L)
    (hlen : m ≤ 1000) (hK : KAt W) (hp : s.pend.length ≤ 800000) (hleft : s.left ≤ 9223372036854775807) (hg : Good n t) (ht34 : t.recs.length * 34 ≤ t.size) :
    Calls Tryz.prog 10 #[.pointer (some ⟨j, 0, none⟩), .slice A m c] W (AppendR W F G j d gd gv n s t brk L) := by
  have hn := hd.n64
  have hfit := hg.fit
  obtain ⟨rv, hT, hGj, hGr, hGl⟩ := hj
  obtain ⟨Ar, cr, rfl, -, -⟩ := hT.own.slice
  have c0 := hT.c0
  have c1 := hT.c1
  have c2 := hT.c2
  have c3 : W.cell? ⟨j, 3, none⟩ = some (.pointer (some ⟨d, 0, none⟩)) := hT.ex 0 _ rfl
  have c4 : W.cell? ⟨j, 4, none⟩ = some (.bool brk) := hT.ex 1 _ rfl
  have HT := Lib.hid hT
  have HD := Lib.hid hd
  have HA := Lib.hid hA
  have HM := Lib.hid hm
  have HK := Lib.hid hK
  have HG := Lib.hid hg
  have HFG := Lib.hid hFG
  have HGG := Lib.hid (And.intro hGj (And.intro hGr hGl))
  have HC := Lib.hid (contains_walk A L m c hm (by omega) W hA)
  clear hT hd hA hK hFG hGj hGr hGl hm
  by_cases hbl : (brk || longB L) = true
  · have hR : AppendR W F G j d gd gv n s t brk L (.returned (.int .i64 260)) W := by
      have hk : appK n t brk L = .broken := by unfold appK; rw [if_pos hbl]
      unfold AppendR appE appD appT appB
      rw [hk]
      exact ⟨rfl, ⟨F, vp, G, HD.out, ⟨_, HT.out, HGG.out.1, HGG.out.2.1, HGG.out.2.2⟩, fun k q => .inl q, fun k q => .inl q, HFG.out⟩, Turns.refl _ _⟩
    have HR := Lib.hid hR
    clear hR
    cases brk with
    | true =>
      clear hbl
      go_enter Tryz.func10, Tryz.ntmps10
      go_wp2_with fail
      go_ret
      exact HR.out
    | false =>
      have hlg : longB L = true := by simpa using hbl
      rw [hlg] at HC
      clear hbl hlg
      go_enter Tryz.func10, Tryz.ntmps10
      go_wp2_with (first | (go_at_call 35; refine HC.out.mono ?_; rintro e w1 ⟨rfl, rfl⟩) | fail)
      go_ret
      exact HR.out
  · obtain ⟨rfl, hlg⟩ : brk = false ∧ longB L = false := by simpa using hbl
    rw [hlg] at HC
    have HLG := Lib.hid hlg
    clear hbl hlg
    go_enter Tryz.func10, Tryz.ntmps10
    go_wp2_with (first | (go_at_call 35; refine HC.out.mono ?_; rintro e w1 ⟨rfl, rfl⟩) | fail)
    obtain ⟨h, hh⟩ : ∃ h, W.heap.size = h := ⟨_, rfl⟩
    have hT1 := TapeAt.fresh HT.out.own
    rw [hh] at hT1
    rw [hh]
    obtain ⟨W1, hW1⟩ : ∃ W1, W.alloc (.cells #[.slice Ar t.recs.length cr, .string t.head, .int .i64 (t.size : Int)] 72) = W1 := ⟨_, rfl⟩
    have hu1 : Below h W W1 := by rw [← hW1, ← hh]; exact (Below.refl _ _).alloc (Nat.le_refl _) _
    have hs1 : W1.heap.size = h + 1 := by rw [← hW1, ← hh]; exact World.size_alloc ..
    rw [hW1] at hT1
    rw [hW1]
    clear hW1
    have hrl : t.recs.length ≤ 1000000 := by omega
    refine (clone_walk hT1.own hrl).mono ?_
    rintro e w2 ⟨⟨v2, rfl, ho2⟩, hb2⟩
    obtain ⟨A2, q2, rfl, -, -⟩ := ho2.slice
    have hT2 := hT1.keep (Turns.of_below (Z := fun _ => False) hb2) (fun e => e) (fun _ _ e => e)
    rw [hs1] at ho2 hb2
    have e0 := hT2.c0
    have f0 := hT2.fr 0
    have hT3 := hT2.set0 (ho2.base (B' := h) (by omega)) (fun g hg e => by have := (ho2.lt g hg).1; omega)
    have hsz2 := hb2.size
    have hb3 : Below h W (w2.setCell ⟨h, 0, none⟩ (.slice A2 t.recs.length q2)) := (hu1.trans (hb2.mono (by omega))).setCell (p := ⟨h, 0, none⟩) (Nat.le_refl _) _
    have HT3 := Lib.hid hT3
    have HB3 := Lib.hid hb3
    have HH := Lib.hid hh
    clear hT1 hT2 hT3 hb3 ho2 hb2 hu1 hs1 hh
    go_wp2_with fail
    have hw3s : (w2.setCell ⟨h, 0, none⟩ (.slice A2 t.recs.length q2)).heap.size = w2.heap.size := World.size_setCell ..
    generalize w2.setCell ⟨h, 0, none⟩ (.slice A2 t.recs.length q2) = w3 at HT3 HB3 hw3s ⊢
    have hBD := BD.new (B := h) w3 (by rw [← HH.out]; exact HB3.out.size)
    have hlt3 := HT3.out.lt
    rw [hw3s] at hBD hlt3
    obtain ⟨bb, hbb⟩ : ∃ bb, w2.heap.size = bb := ⟨_, rfl⟩
    rw [hbb] at hBD hlt3 hw3s ⊢
    have hne : h ≠ bb := by omega
    have hT4 := HT3.out.keep (Turns.alloc (Z := fun _ => False) w3 (.cells #[.pointer none, .slice none 0 0] 78)) (fun e => e) (fun _ _ e => e)
    have hB4 : Below h W (w3.alloc (.cells #[.pointer none, .slice none 0 0] 78)) := HB3.out.alloc (by omega) _
    have HT4 := Lib.hid hT4
    have HB4 := Lib.hid hB4
    have HBD := Lib.hid hBD
    have HOK : Hid (∀ r ∈ L, r.size ≤ 65536) := Lib.hid (fun r hr => by
      have := HLG.out
      unfold longB at this
      rw [List.any_eq_false] at this
      have := this r hr
      simpa using this)
    have HNE := Lib.hid hne
    have hbh : h ≤ bb := by omega
    clear hT4 hB4 hBD e0 f0 hsz2 hbb hw3s hlt3 hne
    generalize w3.alloc (.cells #[.pointer none, .slice none 0 0] 78) = w4 at HT4 HB4 HBD ⊢
    go_loopw [9, 33, 34, 35, 36, 37, 38, 39, 40] (fun v9 v33 v34 v35 v36 v37 v38 v39 v40 wr => ∃ (k : Nat) (rv' : Value), k ≤ m ∧ v33 = .int .i64 k ∧ Hid (TapeAt wr h rv' h (t.adds (L.take k)) []) ∧ Hid (BD wr h bb (storeL t.head (L.take k))) ∧ Hid (Below h W wr)) (fun _ v _ _ _ _ _ _ _ _ => m - (intOf v).toNat)
    case atStart => exact ⟨0, _, Nat.zero_le _, rfl, HT4, HBD, HB4⟩
    case round =>
      obtain ⟨k, rv', hk, rfl, hT, hB, hBe⟩ := hrel
      by_cases hlt : k < m
      · have d1 : decide ((k : Int) < (m : Int)) = true := by simp [hlt]
        have hkl : k < L.length := by rw [HM.out]; exact hlt
        obtain ⟨a, rfl, hal, hac0⟩ := HA.out.get hkl
        have hac := (hBe.out.cell (p := a.add k) (by rw [addr_add_block, ← HH.out]; exact hal)).trans hac0
        have htk : L.take (k + 1) = L.take k ++ [L[k]] := List.take_succ_eq_append_getElem hkl
        have hxs := HOK.out _ (List.getElem_mem hkl)
        obtain ⟨x, hx⟩ : ∃ x, L[k] = x := ⟨_, rfl⟩
        rw [hx] at hac htk hxs
        have hst := store_snoc t (L.take k) x
        rw [← htk] at hst
        have hle := storeL_le t.head (L.take k) (fun r hr => HOK.out r (List.mem_of_mem_take hr))
        rw [List.length_take, HM.out, Nat.min_eq_left hk] at hle
        have hKw : KAt wr := HK.out.below (by rw [HH.out]; exact hBe.out)
        have HADD := Lib.hid (jadd_walk hT.out (by rw [← HH.out]; exact hBe.out.size) x hxs (by rw [adds_head]; exact headF_size HG.out.head32 _) hKw (by rw [adds_recs, List.length_append, List.length_take]; omega) (by rw [adds_size]; omega))
        have hrl2 : (recL (t.adds (L.take k)).head x).length ≤ 65600 := by have := recL_length (t.adds (L.take k)).head x; have := putL_length x; have := putI_len9 hxs; omega
        have HW : Hid (∀ rv5 w5, TapeAt w5 h rv5 h ((t.adds (L.take k)).add x) [] → Turns (fun q => q = h ∨ rv'.ownBlock = some q) wr w5 → Calls Tryz.prog 37 #[.pointer (some ⟨bb, 0, none⟩), .string ⟨(recL (t.adds (L.take k)).head x).toArray⟩] w5 fun e w6 =>
            (∃ z, e = .returned (.tuple #[.int .i64 z, .nilIface])) ∧ TapeAt w6 h rv5 h (t.adds (L.take (k + 1))) [] ∧ BD w6 h bb (storeL t.head (L.take (k + 1))) ∧ Below h W w6) := Lib.hid (fun rv5 w5 h5 u5 => by
          have hB5 : BD w5 h bb (storeL t.head (L.take k)) := hB.out.keep u5 (fun e => by
              rcases e with e | e
              · exact HNE.out e.symm
              · obtain ⟨cur, hc⟩ := own_kind hT.out.own bb e
                obtain ⟨p, v, hb, -⟩ := hB.out.shape
                rw [hb] at hc
                injection hc with hc
                injection hc with e1 e2 e3
                exact absurd e2 (by decide)) (fun q cs fz e hq => by
              rcases e with e | e
              · rw [e] at hq; exact hT.out.nby cs fz hq
              · obtain ⟨cur, hc⟩ := own_kind hT.out.own q e
                rw [hc] at hq
                injection hq with hq
                injection hq with e1 e2 e3
                exact absurd e2 (by decide))
          have hBe5 : Below h W w5 := u5.below hBe.out (by rw [HH.out]; exact Nat.le_refl _) (fun q e => by
              rcases e with e | e
              · omega
              · exact (hT.out.own.lt q e).1)
          refine (bd_write hB5 ⟨(recL (t.adds (L.take k)).head x).toArray⟩ (by rw [ba_mk_size]; omega) (by rw [← HH.out]; exact hBe5.size)).mono ?_
          rintro e w6 ⟨rfl, hB6, hbe6, hok6⟩
          obtain ⟨p, v, hb5, -⟩ := hB5.shape
          refine ⟨⟨_, rfl⟩, ?_, ?_, hBe5.trans hbe6⟩
          · rw [hst.2]; exact h5.others hok6 hb5 HNE.out
          · rw [hst.1]; exact hB6)
        have z1 : (0 : Int) ≤ (k : Int) := by omega
        have z2 : (k : Int) < (m : Int) := by omega
        clear hx htk hst hle hKw hrl2 hkl hal hac0 hxs
        go_wp2_with (first | (go_at_call 38; refine HADD.out.mono ?_; rintro e w5 ⟨rfl, ⟨rv5, h5, -⟩, u5⟩) | (go_at_call 37; refine (HW.out _ _ h5 u5).mono ?_; rintro e w6 ⟨⟨z, rfl⟩, h6, hB6, hBe6⟩) | fail)
        exact ⟨⟨k + 1, rv5, by omega, by go_num, Lib.hid h6, Lib.hid hB6, Lib.hid hBe6⟩, by simp only [intOf]; omega⟩
      · have d1 : decide ((k : Int) < (m : Int)) = false := by simp; omega
        obtain rfl : k = m := by omega
        have htl : L.take k = L := List.take_of_length_le (by rw [HM.out]; exact Nat.le_refl _)
        rw [htl] at hT hB
        clear HT4 HB4 HBD HT3 HB3 htl
        have hMle := storeL_le t.head L HOK.out
        rw [HM.out] at hMle
        have HSTR := Lib.hid (bd_string hB.out (by rw [← HH.out]; exact hBe.out.size))
        obtain ⟨X, hX⟩ : ∃ X : ByteArray, ⟨(storeL t.head L).toArray⟩ = X := ⟨_, rfl⟩
        obtain ⟨M, hM⟩ : ∃ M, (storeL t.head L).length = M := ⟨_, rfl⟩
        have hXs : X.size = M := by rw [← hX, ← hM]; exact ba_mk_size _
        rw [hX] at HSTR
        rw [hM] at hMle
        have HX := Lib.hid (And.intro hX hM)
        have HROOM : Hid (∀ w7, Below h W w7 → Calls Tryz.prog 20 #[.pointer (some ⟨j, 0, none⟩)] w7 fun e W' => e = .returned (.int .i64 ((n - t.size : Nat) : Int)) ∧ ∃ k, W' = w7.drewN k) := Lib.hid (fun w7 hb => by
          have hu : Turns (fun _ => False) W w7 := Turns.of_below (by rw [HH.out]; exact hb)
          have hJ : JAt W G j d t false := ⟨_, HT.out, HGG.out.1, HGG.out.2.1, HGG.out.2.2⟩
          exact room_walk (hJ.keep hu (fun _ _ e => e)) (HD.out.keep hu (fun _ _ e => e)) hfit)
        have HKEEP : Hid (∀ w' E, Below h W w' → appE n s t false L = E → appD n s t false L = s → appT n s t false L = t → appB n s t false L = false → AppendR W F G j d gd gv n s t false L (.returned (.int .i64 E)) w') := Lib.hid (fun w' E hb h1 h2 h3 h4 => by
          have hu : Turns (fun _ => False) W w' := Turns.of_below (by rw [HH.out]; exact hb)
          have hJ : JAt W G j d t false := ⟨_, HT.out, HGG.out.1, HGG.out.2.1, HGG.out.2.2⟩
          unfold AppendR
          rw [h1, h2, h3, h4]
          exact ⟨rfl, ⟨F, vp, G, HD.out.keep hu (fun _ _ e => e), hJ.keep hu (fun _ _ e => e), fun k q => .inl q, fun k q => .inl q, HFG.out⟩, hu.mono fun k q => q.elim⟩)
        have hk0 : ¬ (false || longB L) = true := by rw [HLG.out]; decide
        obtain ⟨q, hq⟩ : ∃ q, t.size = q := ⟨_, rfl⟩
        have HQ := Lib.hid hq
        rw [hq] at c2 hfit ht34 HROOM
        obtain ⟨rm, hrm⟩ : ∃ rm, n - q = rm := ⟨_, rfl⟩
        rw [hrm] at HROOM
        clear hX hq
        by_cases hfull : n < q + M
        · have hk : appK n t false L = .full := by unfold appK outL; rw [if_neg hk0, HX.out.2, HQ.out, if_pos hfull]
          have HR := Lib.hid (fun w' hb => HKEEP.out w' 261 hb (by unfold appE; rw [hk]) (by unfold appD; rw [hk]) (by unfold appT; rw [hk]) (by unfold appB; rw [hk]))
          have d2 : decide ((rm : Int) < (M : Int)) = true := by simp; omega
          have d3 : decide (rm < M) = true := by simp; omega
          clear hk hk0 hfull hrm hM
          go_wp2_with (first | (go_at_call 39; refine HSTR.out.mono ?_; rintro e w7 ⟨rfl, hbe7, hok7⟩; have HB7 := Lib.hid (hBe.out.trans hbe7); clear hbe7 hok7) | (go_at_call 20; refine (HROOM.out _ HB7.out).mono ?_; rintro e w8 ⟨rfl, k8, rfl⟩) | fail)
          go_ret
          exact HR.out _ (Below.drewN' HB7.out k8)
        · have d2 : decide ((rm : Int) < (M : Int)) = false := by simp; omega
          have d3 : decide (rm < M) = false := by simp; omega
          by_cases hL : L = []
          · have hk : appK n t false L = .none := by unfold appK outL; rw [if_neg hk0, HX.out.2, HQ.out, if_neg hfull, if_pos hL]
            have HR := Lib.hid (fun w' hb => HKEEP.out w' 0 hb (by unfold appE; rw [hk]) (by unfold appD; rw [hk]) (by unfold appT; rw [hk]) (by unfold appB; rw [hk]))
            have hXe : X = ⟨#[]⟩ := by rw [← HX.out.1, hL]; rfl
            have hXt3 : X.toList = [] := by rw [hXe]; exact ByteArray.toList_mk _
            have hXt : (X.toList == []) = true := by rw [hXt3]; rfl
            have hXt2 : (!X.toList.isEmpty) = false := by rw [hXt3]; rfl
            clear hk hk0 hfull hrm hM hXe hL
            go_wp2_with (first | (go_at_call 39; refine HSTR.out.mono ?_; rintro e w7 ⟨rfl, hbe7, hok7⟩; have HB7 := Lib.hid (hBe.out.trans hbe7); clear hbe7 hok7) | (go_at_call 20; refine (HROOM.out _ HB7.out).mono ?_; rintro e w8 ⟨rfl, k8, rfl⟩) | fail)
            go_ret
            exact HR.out _ (Below.drewN' HB7.out k8)
          · have hk : appK n t false L = .group := by unfold appK outL; rw [if_neg hk0, HX.out.2, HQ.out, if_neg hfull, if_neg hL]
            have HK2 := Lib.hid hk
            have HL := Lib.hid hL
            have hM0 : 0 < M := by
              rw [← HX.out.2]
              have := congrArg List.length (out_shape (t := t) hL)
              unfold outL at this
              rw [this]; simp
            have hXl : X.toList = X.data.toList := ByteArray.toList_mk _
            have hXn : X.toList ≠ [] := fun e => by
              rw [hXl] at e
              have := ba_length X
              rw [e] at this
              simp at this
              omega
            have hXt : (X.toList == []) = false := by simpa using hXn
            have hXt2 : (!X.toList.isEmpty) = true := by simpa using hXn
            have HXN := Lib.hid hXn
            clear hk hk0 hXl hXn hL hM
            go_wp2_with (first | (go_at_call 39; refine HSTR.out.mono ?_; rintro e w7 ⟨rfl, hbe7, hok7⟩; have HB7 := Lib.hid (hBe.out.trans hbe7); have HT7 := Lib.hid (show TapeAt w7 h rv' h (t.adds L) [] by obtain ⟨pp, vv, hbb, -⟩ := hB.out.shape; exact hT.out.others hok7 hbb HNE.out); clear hbe7 hok7) | (go_at_call 20; refine (HROOM.out _ HB7.out).mono ?_; rintro e w8 ⟨rfl, k8, rfl⟩) | fail)
            have hBA : Below h W (w7.drewN k8) := Below.drewN' HB7.out k8
            have hTA : TapeAt (w7.drewN k8) h rv' h (t.adds L) [] := HT7.out.keep (Turns.drewN (Z := fun _ => False) w7 k8) (fun e => e) (fun _ _ e => e)
            generalize w7.drewN k8 = wA at hBA hTA ⊢
            obtain ⟨A7, q7, rfl, -, -⟩ := hTA.own.slice
            have hjl : j < h := by rw [← HH.out]; exact HGG.out.2.2 j HGG.out.1
            have c2A : wA.cell? ⟨j, 2, none⟩ = some (.int .i64 (q : Int)) := (hBA.cell (p := ⟨j, 2, none⟩) hjl).trans c2
            have c3A : wA.cell? ⟨j, 3, none⟩ = some (.pointer (some ⟨d, 0, none⟩)) := (hBA.cell (p := ⟨j, 3, none⟩) hjl).trans c3
            obtain ⟨X1, hX1⟩ : ∃ X1, X.extract 1 M = X1 := ⟨_, rfl⟩
            obtain ⟨X2, hX2⟩ : ∃ X2, X.extract 0 1 = X2 := ⟨_, rfl⟩
            have g1 : X1 = ⟨((outL t L).drop 1).toArray⟩ := by
              have := Lib.extract_from X 1
              rw [hXs, hX1] at this
              rw [this, ← HX.out.1]; rfl
            have g2 : X2 = ⟨((outL t L).take 1).toArray⟩ := by
              have := Lib.extract_upto X 1
              rw [hX2] at this
              rw [this, ← HX.out.1]; rfl
            have hol : (outL t L).length = M := HX.out.2
            have s1 : X1.size = M - 1 := by rw [g1, ba_mk_size, List.length_drop, hol]
            have s2 : X2.size = 1 := by rw [g2, ba_mk_size, List.length_take, hol]; omega
            have hMb : M ≤ 4194304 := by omega
            have hlv := HD.out.lv
            have hseq := seq_grp (s := s) (k := q) (x1 := X1) (x2 := X2) (by omega) (by omega)
            rw [g1, g2] at hseq
            rw [show (((s.wr ((q + 1 : Nat) : Int) ⟨((outL t L).drop 1).toArray⟩).sync).wr (q : Int) ⟨((outL t L).take 1).toArray⟩) = s.grp t.size (outL t L) by rw [HQ.out]; rfl, ← g1, ← g2] at hseq
            have w1 : IntKind.i64.wrap ((q : Int) + 1) = (q : Int) + 1 := by rw [IntKind.wrap_i64]; omega
            have z1 : (1 : Int) ≤ (M : Int) := by omega
            have z2 : 1 ≤ M := by omega
            have hmf : ∀ (fn : Fn) (first cap : Array Value) (w : World), (Instr.makeFunc fn first cap).run Tryz.prog w = .ok (.func fn first cap) w := fun _ _ _ _ => rfl
            have HW1 := Lib.hid (fun w => writing_walk w j ((q : Int) + 1) X1)
            have HW2 := Lib.hid (fun w => writing_walk w j (q : Int) X2)
            have HKB : Hid (∀ a b, Below a.heap.size a b → (a.cell? ⟨j, 2, none⟩ = some (.int .i64 (q : Int)) ∧ a.cell? ⟨j, 3, none⟩ = some (.pointer (some ⟨d, 0, none⟩))) → (b.cell? ⟨j, 2, none⟩ = some (.int .i64 (q : Int)) ∧ b.cell? ⟨j, 3, none⟩ = some (.pointer (some ⟨d, 0, none⟩)))) := Lib.hid (fun a b hb hs =>
              ⟨(hb.cell (p := ⟨j, 2, none⟩) (cell_lt hs.1)).trans hs.1, (hb.cell (p := ⟨j, 3, none⟩) (cell_lt hs.2)).trans hs.2⟩)
            have hjF : ¬ F j := fun e => HFG.out j e HGG.out.1
            have HKD : Hid (∀ a b, DLeft a F b d gd gv n (s.grp t.size (outL t L)).sync → (a.cell? ⟨j, 2, none⟩ = some (.int .i64 (q : Int)) ∧ a.cell? ⟨j, 3, none⟩ = some (.pointer (some ⟨d, 0, none⟩))) → (b.cell? ⟨j, 2, none⟩ = some (.int .i64 (q : Int)) ∧ b.cell? ⟨j, 3, none⟩ = some (.pointer (some ⟨d, 0, none⟩)))) := Lib.hid (fun a b hb hs =>
              ⟨(hb.2.cell (p := ⟨j, 2, none⟩) (cell_lt hs.1) hjF).trans hs.1, (hb.2.cell (p := ⟨j, 3, none⟩) (cell_lt hs.2) hjF).trans hs.2⟩)
            have HFD : Hid (∀ p5 q5 r5 p6 q6 r6 w9 w10, WAt w9 (.wr p5 q5 r5) j ((q : Int) + 1) X1 → (∀ b, (CallV.wr p5 q5 r5).blk b → wA.drew.heap.size ≤ b) → Below wA.drew.heap.size wA.drew w9 → WAt w10 (.wr p6 q6 r6) j (q : Int) X2 → (∀ b, (CallV.wr p6 q6 r6).blk b → w9.heap.size ≤ b) → Below w9.heap.size w9 w10 →
                Calls Tryz.prog 40 #[.slice (some ⟨w10.heap.size, 0, none⟩) 4 4] (w10.alloc (.cells #[.func (.func 72) #[] #[.pointer (some ⟨p5, 0, none⟩), .pointer (some ⟨q5, 0, none⟩), .pointer (some ⟨r5, 0, none⟩)], .func (.func 42) #[.pointer (some ⟨d, 0, none⟩)] #[], .func (.func 72) #[] #[.pointer (some ⟨p6, 0, none⟩), .pointer (some ⟨q6, 0, none⟩), .pointer (some ⟨r6, 0, none⟩)], .func (.func 42) #[.pointer (some ⟨d, 0, none⟩)] #[]] 85)) fun e W' =>
                  e = .returned (.int .i64 (chkE (s.grp t.size (outL t L)))) ∧ DLeft (w10.alloc (.cells #[.func (.func 72) #[] #[.pointer (some ⟨p5, 0, none⟩), .pointer (some ⟨q5, 0, none⟩), .pointer (some ⟨r5, 0, none⟩)], .func (.func 42) #[.pointer (some ⟨d, 0, none⟩)] #[], .func (.func 72) #[] #[.pointer (some ⟨p6, 0, none⟩), .pointer (some ⟨q6, 0, none⟩), .pointer (some ⟨r6, 0, none⟩)], .func (.func 42) #[.pointer (some ⟨d, 0, none⟩)] #[]] 85)) F W' d gd gv n (s.grp t.size (outL t L)).sync) := Lib.hid (fun p5 q5 r5 p6 q6 r6 w9 w10 hv5 hl5 hb5 hv6 hl6 hb6 => by
              have hnew := World.alloc_heap_new w10 (.cells #[.func (.func 72) #[] #[.pointer (some ⟨p5, 0, none⟩), .pointer (some ⟨q5, 0, none⟩), .pointer (some ⟨r5, 0, none⟩)], .func (.func 42) #[.pointer (some ⟨d, 0, none⟩)] #[], .func (.func 72) #[] #[.pointer (some ⟨p6, 0, none⟩), .pointer (some ⟨q6, 0, none⟩), .pointer (some ⟨r6, 0, none⟩)], .func (.func 42) #[.pointer (some ⟨d, 0, none⟩)] #[]] 85)
              have hua : Turns (fun _ => False) W wA := Turns.of_below (by rw [HH.out]; exact hBA)
              have hu9 : Turns (fun _ => False) wA w9 := (Turns.drew wA).trans (Turns.of_below hb5)
              have hu10 : Turns (fun _ => False) w9 (w10.alloc (.cells #[.func (.func 72) #[] #[.pointer (some ⟨p5, 0, none⟩), .pointer (some ⟨q5, 0, none⟩), .pointer (some ⟨r5, 0, none⟩)], .func (.func 42) #[.pointer (some ⟨d, 0, none⟩)] #[], .func (.func 72) #[] #[.pointer (some ⟨p6, 0, none⟩), .pointer (some ⟨q6, 0, none⟩), .pointer (some ⟨r6, 0, none⟩)], .func (.func 42) #[.pointer (some ⟨d, 0, none⟩)] #[]] 85)) := (Turns.of_below hb6).trans (Turns.alloc w10 _)
              have huA := hu9.trans hu10
              have hlf := HD.out.lf
              have i1 := hua.size
              have i2 := hb5.size
              have i3 := hb6.size
              have i4 : wA.drew.heap.size = wA.heap.size := rfl
              have := first_disk (HD.out.keep (hua.trans huA) (fun _ _ e => e)) w10.heap.size 4 [.wr p5 q5 r5, .sy d, .wr p6 q6 r6, .sy d] [.wr ((q : Int) + 1) X1, .sy, .wr (q : Int) X2, .sy] rfl (by omega) rfl (fun k v hk => by
                  match k, hk with
                  | 0, hk => cases hk; rw [Lib.cell_of_heap hnew]; rfl
                  | 1, hk => cases hk; rw [Lib.cell_of_heap hnew]; rfl
                  | 2, hk => cases hk; rw [Lib.cell_of_heap hnew]; rfl
                  | 3, hk => cases hk; rw [Lib.cell_of_heap hnew]; rfl
                  | k + 4, hk => simp at hk) (fun hf => by have := hlf _ hf; omega) j ((huA.cell (p := ⟨j, 3, none⟩) (cell_lt c3A) (fun e => e)).trans c3A) hjF (fun k v o hk ho => by
                  match k, hk, ho with
                  | 0, hk, ho => cases hk; cases ho; exact ⟨hv5.keep hu10 (fun _ _ e => e), fun b hb hf => by have := hlf _ hf; have := hl5 b hb; omega, by omega⟩
                  | 1, hk, ho => cases hk; cases ho; rfl
                  | 2, hk, ho => cases hk; cases ho; exact ⟨hv6.keep (Turns.alloc (Z := fun _ => False) w10 _) (fun _ _ e => e), fun b hb hf => by have := hlf _ hf; have := hl6 b hb; omega, by omega⟩
                  | 3, hk, ho => cases hk; cases ho; rfl
                  | k + 4, hk, ho => simp at hk) (by omega) hleft
              rw [hseq] at this
              exact this)
            have HS := Lib.hid (And.intro s1 s2)
            clear g1 g2 hol hseq s1 s2
            go_wp2_with fail
            go_region_held3 (fun w' => w'.cell? ⟨j, 2, none⟩ = some (.int .i64 (q : Int)) ∧ w'.cell? ⟨j, 3, none⟩ = some (.pointer (some ⟨d, 0, none⟩))) (first | exact ⟨c2A, c3A⟩ | exact HKB.out _ _ (by assumption) (by assumption) | exact HKD.out _ _ (by assumption) (by assumption) | go_keep | fail)
              (first | (go_at_call 41; (with_reducible refine (HW1.out _).mono ?_); rintro e w9 ⟨p5, q5, r5, rfl, hv5, hl5, hb5⟩) | (go_at_call 41; (with_reducible refine (HW2.out _).mono ?_); rintro e w10 ⟨p6, q6, r6, rfl, hv6, hl6, hb6⟩) | (go_at_call 40; refine (HFD.out _ _ _ _ _ _ _ _ hv5 hl5 hb5 hv6 hl6 hb6).mono ?_; rintro e w11 ⟨rfl, hd11⟩) | fail)
            all_goals
              have hV : Turns (fun _ => False) wA (w10.alloc (.cells #[.func (.func 72) #[] #[.pointer (some ⟨p5, 0, none⟩), .pointer (some ⟨q5, 0, none⟩), .pointer (some ⟨r5, 0, none⟩)], .func (.func 42) #[.pointer (some ⟨d, 0, none⟩)] #[], .func (.func 72) #[] #[.pointer (some ⟨p6, 0, none⟩), .pointer (some ⟨q6, 0, none⟩), .pointer (some ⟨r6, 0, none⟩)], .func (.func 42) #[.pointer (some ⟨d, 0, none⟩)] #[]] 85)) := (((Turns.drew wA).trans (Turns.of_below hb5)).trans (Turns.of_below hb6)).trans (Turns.alloc w10 _)
              obtain ⟨hTj, hTh, hU, F', vp', hd', hF', hm7⟩ := app_tail HH.out HT.out hjF (fun g hg e => HFG.out g e (HGG.out.2.1 g hg)) (fun k e => by rw [← HH.out]; exact HD.out.lf k e) hBA hTA hV hd11
              have HTJ := Lib.hid hTj
              have HTH := Lib.hid hTh
              have HU := Lib.hid hU
              have HD11 := Lib.hid hd'
              have HF11 := Lib.hid hF'
              have HM7 := Lib.hid hm7
              have HTA := Lib.hid hTA
              clear hV hd11 hTA hBA HFD HKB HKD HW1 HW2 hv5 hl5 hb5 hv6 hl6 hb6 hd' hF' hU hm7 w1 c2A c3A HB7 HT7 hT hB hBe HROOM HKEEP HSTR
              rcases Bool.eq_false_or_eq_true (s.grp t.size (outL t L)).off with ho | ho
              · have hE : chkE (s.grp t.size (outL t L)) = 251 := by unfold chkE; rw [if_pos ho]
                have HO := Lib.hid ho
                have a4 := hTj.ex 1 _ rfl
                have b4 := hTj.fr 4
                rw [hE]
                clear hE ho hTj hTh
                go_wp2_with fail
                go_ret
                exact append_fail HGG.out HFG.out HK2.out HO.out HTJ.out HU.out HD11.out HF11.out (by rw [HH.out]; exact HM7.out)
              · have hE : chkE (s.grp t.size (outL t L)) = 0 := by unfold chkE; rw [if_neg (by rw [ho]; decide)]
                have HO := Lib.hid ho
                have a0 := hTj.c0
                have a1 := hTj.c1
                have a2 := hTj.c2
                have b0 := hTj.fr 0
                have b1 := hTj.fr 1
                have b2 := hTj.fr 2
                have e0 := hTh.c0
                have e1 := hTh.c1
                have e2 := hTh.c2
                rw [hE]
                clear hE ho hTj hTh
                go_wp2_with fail
                go_ret
                exact append_done HH.out HGG.out HFG.out HK2.out HO.out HTJ.out HTH.out (fun g hg => (HTA.out.own.lt g hg).2) HU.out HD11.out HF11.out (fun k e => by rw [← HH.out]; exact HD.out.lf k e) (by rw [HH.out]; exact HM7.out)
end Go.Proofs.YtllmciiadceinaaGreatDoor
