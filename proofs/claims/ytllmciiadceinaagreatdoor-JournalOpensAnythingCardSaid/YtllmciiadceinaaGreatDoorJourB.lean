/-
  The contract of (*tape).load. Conditions: the content has at most 4194304 bytes; the package's variables hold what they hold.
-/
import Derived.Test.YtllmciiadceinaaGreatDoorJourA
namespace Go.Proofs.YtllmciiadceinaaGreatDoor
open Go Go.RowKit Go.Shelf Wr

theorem strR_eq (s : ByteArray) (k : Nat) (hk : k ≤ s.size) : Wr.strR s k = match strL (s.data.toList.drop k) with
    | some (r, n) => .tuple #[.string r, .int .i64 ((k + n : Nat) : Int), .int .i64 0]
    | none => .tuple #[.string ⟨#[]⟩, .int .i64 0, .int .i64 10] := by
  unfold Wr.strR strL
  cases decI (s.data.toList.drop k) with
  | none => rfl
  | some zc =>
    obtain ⟨z, c⟩ := zc
    simp only
    have hl : (s.data.toList.drop k).length = s.size - k := by rw [List.length_drop, ba_length]
    by_cases h : 0 ≤ unzig z ∧ unzig z ≤ 65536 ∧ k + c + (unzig z).toNat ≤ s.size
    · rw [if_pos h, if_pos ⟨h.1, h.2.1, by rw [hl]; omega⟩]
      simp only
      rw [show k + (c + (unzig z).toNat) = k + c + (unzig z).toNat by omega]
      congr 4
      apply ba_ext
      rw [Lib.extract_data, List.drop_drop, Nat.add_sub_cancel_left]
    · rw [if_neg h, if_neg (fun q => h ⟨q.1, q.2.1, by have := q.2.2; rw [hl] at this; omega⟩)]

/-- Is the record stored so? -/
theorem rec_eq (s : ByteArray) (k : Nat) (m : List UInt8) (hm : s.data.toList.drop k = 1 :: m) (hd r : ByteArray) (n : Nat) (hs : strL m = some (r, n)) (_hn : k + 1 + n + 32 ≤ s.size) :
    (⟨(recL hd r).toArray⟩ = s.extract k (k + 1 + n + 32)) ↔ (m.drop n).take 32 = (chainS hd r).data.toList := by
  obtain ⟨h1, h2, h3⟩ := strL_only hs
  have he : (s.extract k (k + 1 + n + 32)).data.toList = 1 :: (m.take (n + 32)) := by
    rw [Lib.extract_data, hm, show k + 1 + n + 32 - k = (n + 32) + 1 by omega, List.take_succ_cons]
  have ht : m.take (n + 32) = putL r ++ (m.drop n).take 32 := by
    rw [List.take_add]
    congr 1
    conv => lhs; rw [h3]
    rw [h2, List.take_left]
  constructor
  · intro h
    have := congrArg (fun x : ByteArray => x.data.toList) h
    simp only at this
    rw [he, ht] at this
    unfold recL at this
    rw [ba_mk] at this
    exact (List.append_cancel_left (List.cons.inj this).2).symm
  · intro h
    apply ba_ext
    rw [he, ht, ba_mk, h]
    rfl

def szOf (b : Nat) (w : World) : Nat := match w.cell? ⟨b, 2, none⟩ with | some (.int _ n) => n.toNat | _ => 0
theorem TapeAt.sz {W : World} {b B : Nat} {rv : Value} {t : TS} {xs : List Value} (h : TapeAt W b rv B t xs) : szOf b W = t.size := by unfold szOf; rw [h.c2]; exact Int.toNat_natCast _

/-- How load ends. -/
def LoadP (a : Addr) (b B : Nat) (xs : List Value) (R : Option TS) (e : Ending) (W' : World) : Prop := match R with
      | some t' => e = .returned (.tuple #[]) ∧ ∃ rv', TapeAt W' b rv' B t' xs
      | none => e = .panicked [{ v := errV a, recovered := false }]
theorem at_drop {s : ByteArray} {q Y : Nat} (h : q < s.size) (hy : s[q].toNat = Y) : s.data.toList.drop q = UInt8.ofNat Y :: s.data.toList.drop (q + 1) := by
  have h' : q < s.data.toList.length := by rw [ba_length]; exact h
  rw [← List.getElem_cons_drop h', ← hy]
  congr 1
  simp
  rfl

set_option maxRecDepth 100000 in
set_option maxHeartbeats 8000000 in
theorem load_walk {W : World} {B b : Nat} {rv : Value} {t : TS} {xs : List Value} {a : Addr} (s : ByteArray) (h : TapeAt W b rv B t xs) (hB : B ≤ W.heap.size) (hbB : B ≤ b) (hs : s.size ≤ 4194304) (ht : t.size ≤ s.size) (hh : t.head.size = 32) (hl : t.recs.length * 34 ≤ t.size) (hK : KAt W) (hE : ErrAt W a) (hg1 : 3 < B) (_hg2 : 0 < B) :
    Calls Tryz.prog 78 #[.pointer (some ⟨b, 0, none⟩), .string s] W fun e W' => Turns (fun k => B ≤ k) W W' ∧ LoadP a b B xs (loadW (s.data.toList.drop t.size) t) e W' := by
  obtain ⟨R, hR⟩ : ∃ R, loadW (s.data.toList.drop t.size) t = R := ⟨_, rfl⟩
  rw [hR]
  have HK := Lib.hid hK
  have HE := Lib.hid hE
  have H0 := Lib.hid h
  have HR0 := Lib.hid hR
  clear h hK hE hR
  go_enter Tryz.func78, Tryz.ntmps78
  go_wp2_with fail
  go_loopw [4, 5, 6, 7] (fun v4 v5 v6 v7 wr => ∃ (rv' : Value) (t' : TS), Hid (TapeAt wr b rv' B t' xs) ∧ Hid (loadW (s.data.toList.drop t'.size) t' = R) ∧ Hid (Turns (fun k => B ≤ k) W wr) ∧ t'.size ≤ s.size ∧ t'.head.size = 32 ∧ t'.recs.length * 34 ≤ t'.size) (fun _ _ _ _ wr => s.size - szOf b wr)
  case atStart => exact ⟨rv, t, H0, HR0, Lib.hid (Turns.refl _ _), ht, hh, hl⟩
  case round =>
    obtain ⟨rv', t', hT, hRR, hU, hq, hh', hl'⟩ := hrel
    have c2 := hT.out.c2
    obtain ⟨q, hqe⟩ : ∃ q, t'.size = q := ⟨_, rfl⟩
    rw [hqe] at c2 hq hl'
    have HQ := Lib.hid hqe
    clear hqe H0 HR0 ht hl hh
    by_cases hlt : q < s.size
    · have d1 : decide ((q : Int) < (s.size : Int)) = true := by simp [hlt]
      obtain ⟨Y, hy⟩ : ∃ Y, s[q].toNat = Y := ⟨_, rfl⟩
      have hY : Y < 256 := by rw [← hy]; exact UInt8.toNat_lt _
      have HD := Lib.hid (at_drop hlt hy)
      by_cases hy0 : Y = 0
      · subst hy0
        have hf : R = some t' := by
          rw [← hRR.out, HQ.out, HD.out]; exact loadW_end (by simp)
        have HF := Lib.hid hf
        clear hf
        go_wp2_with fail
        go_end0
        refine ⟨hU.out, ?_⟩
        rw [HF.out]
        exact ⟨rfl, _, hT.out⟩
      · have hEw : ErrAt wr a := (hU.out.cell (p := ⟨0, 0, none⟩) (cell_lt HE.out) (by show ¬ B ≤ 0; omega)).trans HE.out
        have HEW := Lib.hid hEw
        clear hEw
        by_cases hy1 : Y = 1
        · subst hy1
          have hsw : ∀ w : World, Calls Tryz.prog 101 #[.string s, .int .i64 ((q : Int) + 1)] w fun e w' => e = .returned (match strL (s.data.toList.drop (q + 1)) with
              | some (r, n) => .tuple #[.string r, .int .i64 ((q + 1 + n : Nat) : Int), .int .i64 0]
              | none => .tuple #[.string ⟨#[]⟩, .int .i64 0, .int .i64 10]) ∧ w = w' := fun w => by
            have h := Wr.string_walk s (q + 1) (by omega) (by omega) w
            rw [strR_eq s (q + 1) (by omega)] at h
            exact h
          have HSW := Lib.hid hsw
          have w1 : IntKind.i64.wrap ((q : Int) + 1) = (q : Int) + 1 := by rw [IntKind.wrap_i64]; omega
          clear hsw
          cases hst : strL (s.data.toList.drop (q + 1)) with
          | none =>
            rw [hst] at HSW
            simp only at HSW
            have hf : R = none := by
              rw [← hRR.out, HQ.out, HD.out]
              show loadW (1 :: _) _ = _
              rw [loadW_step, hst]
            have HF := Lib.hid hf
            clear hf hst
            go_wp2_with (first | (go_at_call 100; first | (refine (check_yes _).mono ?_; rintro e w2 ⟨rfl, rfl⟩) | (refine (check_no _ a HEW.out).mono ?_; rintro e w3 ⟨rfl, rfl⟩)) | (go_at_call 101; refine (HSW.out _).mono ?_; rintro e w4 ⟨rfl, rfl⟩))
            refine ⟨rfl, hU.out, ?_⟩
            rw [HF.out]
            rfl
          | some x =>
            obtain ⟨r, n⟩ := x
            rw [hst] at HSW
            simp only at HSW
            obtain ⟨g1, g2, g3⟩ := strL_only hst
            have hln : n ≤ s.size - (q + 1) := by
              have h := congrArg List.length g3
              rw [List.length_drop, List.length_append, List.length_drop, List.length_drop, ba_length, ← g2] at h
              omega
            have hn0 : 0 < n := by rw [g2, putL_length]; have := (putI_len9 g1).2; omega
            have hlr : loadW (1 :: s.data.toList.drop (q + 1)) t' = if ((s.data.toList.drop (q + 1)).drop n).take 32 = (chainS t'.head r).data.toList then loadW ((s.data.toList.drop (q + 1)).drop (n + 32)) (t'.add r) else none := by
              rw [loadW_step, hst]
            obtain ⟨N, hN⟩ : ∃ N, q + 1 + n = N := ⟨_, rfl⟩
            simp only [hN] at HSW
            have w2 : IntKind.i64.wrap ((N : Int) + 32) = ((N + 32 : Nat) : Int) := by rw [IntKind.wrap_i64]; omega
            by_cases hN32 : N + 32 ≤ s.size
            · have d2 : decide (((N + 32 : Nat) : Int) ≤ (s.size : Int)) = true := by simp; omega
              have d2' : decide ((N : Int) + 32 ≤ (s.size : Int)) = true := by simp; omega
              have d2n : decide (N + 32 ≤ s.size) = true := by simp; omega
              have hreq := rec_eq s q _ HD.out t'.head r n hst (by omega)
              rw [show q + 1 + n + 32 = N + 32 by omega] at hreq
              have HT1 : Hid (TapeAt (wr.drewN 1) b rv' B t' xs) := Lib.hid (hT.out.keep (Z := fun _ => False) ⟨rfl, rfl, rfl, Nat.le_refl _, fun _ _ _ => rfl⟩ (fun e => e) (fun _ _ e => e))
              have hKw : KAt wr := fun j v hv => (hU.out.cell (p := ⟨3, 0 + j, none⟩) (cell_lt (HK.out j v hv)) (by show ¬ B ≤ 3; omega)).trans (HK.out j v hv)
              have HADD := Lib.hid (jadd_walk HT1.out (by show B ≤ wr.heap.size; have := hU.out.size; omega) r g1 hh' (fun j v hv => hKw j v hv) (by omega) (by rw [HQ.out]; omega))
              have hZ : ∀ k, (k = b ∨ rv'.ownBlock = some k) → B ≤ k := fun k hk => by
                rcases hk with rfl | hk
                · exact hbB
                · exact (hT.out.own.lt k hk).1
              have HU6 : Hid (∀ w6, Turns (fun k => k = b ∨ rv'.ownBlock = some k) (wr.drewN 1) w6 → Turns (fun k => B ≤ k) W w6) := Lib.hid (fun w6 h6 =>
                (hU.out.trans (⟨rfl, rfl, rfl, Nat.le_refl _, fun _ _ _ => rfl⟩ : Turns (fun k => B ≤ k) wr (wr.drewN 1))).trans (h6.mono hZ))
              have HE6 : Hid (∀ w6, Turns (fun k => k = b ∨ rv'.ownBlock = some k) (wr.drewN 1) w6 → ErrAt w6 a) := Lib.hid (fun w6 h6 =>
                ((HU6.out w6 h6).cell (p := ⟨0, 0, none⟩) (cell_lt HE.out) (by show ¬ B ≤ 0; omega)).trans HE.out)
              have b1 : (0 : Int) ≤ (N : Int) + 32 := by omega
              have b2 : (N : Int) + 32 ≤ (s.size : Int) := by omega
              have b3 : (q : Int) ≤ (N : Int) + 32 := by omega
              have hsl : (Int.toNat ((N : Int) + 32)) = N + 32 := by omega
              obtain ⟨cp, hcp⟩ : ∃ x, s.extract q (N + 32) = x := ⟨_, rfl⟩
              obtain ⟨rc, hrc⟩ : ∃ x : ByteArray, (⟨(recL t'.head r).toArray⟩ : ByteArray) = x := ⟨_, rfl⟩
              rw [hcp, hrc] at hreq
              rw [hrc] at HADD
              have HTS : Hid ((t'.add r).size = N + 32 ∧ (t'.add r).recs.length = t'.recs.length + 1) := Lib.hid (by
                refine ⟨?_, by simp [TS.add]⟩
                show t'.size + (recL t'.head r).length = _
                rw [recL_length, ← g2, HQ.out]
                omega)
              clear hKw hst g2 g3
              by_cases hok : rc = cp
              · have hR2 : loadW ((s.data.toList.drop (q + 1)).drop (n + 32)) (t'.add r) = R := by
                  rw [← hRR.out, HQ.out, HD.out]
                  show _ = loadW (1 :: _) _
                  rw [hlr, if_pos (hreq.1 hok)]
                have heq : (rc.toList == cp.toList) = true := by rw [hok]; simp
                have HR2 := Lib.hid hR2
                clear hlr hreq hok hR2
                go_wp2_with (first | (go_at_call 100; refine (check_yes _).mono ?_; rintro e w2 ⟨rfl, rfl⟩) | (go_at_call 101; refine (HSW.out _).mono ?_; rintro e w4 ⟨rfl, rfl⟩))
                refine wp_region_held_drew (S := fun _ => True) (by kernel_rfl) trivial (fun hHeld => ?_)
                refine wpAnyH_take (i := 0) (oi := { dst := some 51, op := Op.move (Operand.tmp 0), type := 124, pos := "journal.go:59", after := #[], guard := none }) (v := ?_) rfl (by kernel_rfl) (by kernel_rfl) (by kernel_rfl) (fun _ _ _ h => h) (Or.inl ⟨by rfl, ?_⟩) (by assumption) ?_
                rotate_left
                · intro w hSw; (try dsimp only at hSw); go_simp <;> with_reducible rfl
                try simp only [Act.put, List.setIfInBounds_toArray, List.set_cons_zero, List.set_cons_succ]
                refine wpAnyH_take (i := 1) (oi := { dst := some 52, op := Op.move (Operand.tmp 5), type := 9, pos := "journal.go:59", after := #[], guard := none }) (v := ?_) rfl (by kernel_rfl) (by kernel_rfl) (by kernel_rfl) (fun _ _ _ h => h) (Or.inl ⟨by rfl, ?_⟩) (by assumption) ?_
                rotate_left
                · intro w hSw; (try dsimp only at hSw); go_simp <;> with_reducible rfl
                try simp only [Act.put, List.setIfInBounds_toArray, List.set_cons_zero, List.set_cons_succ]
                refine wpAnyH_take (i := 3) (oi := { dst := some 54, op := Op.move (Operand.tmp 1), type := 9, pos := "journal.go:59", after := #[], guard := none }) (v := ?_) rfl (by kernel_rfl) (by kernel_rfl) (by kernel_rfl) (fun _ _ _ h => h) (Or.inl ⟨by rfl, ?_⟩) (by assumption) ?_
                rotate_left
                · intro w hSw; (try dsimp only at hSw); go_simp <;> with_reducible rfl
                try simp only [Act.put, List.setIfInBounds_toArray, List.set_cons_zero, List.set_cons_succ]
                refine wpAnyH_take (i := 4) (oi := { dst := some 55, op := Op.move (Operand.tmp 4), type := 3, pos := "journal.go:59", after := #[], guard := none }) (v := ?_) rfl (by kernel_rfl) (by kernel_rfl) (by kernel_rfl) (fun _ _ _ h => h) (Or.inl ⟨by rfl, ?_⟩) (by assumption) ?_
                rotate_left
                · intro w hSw; (try dsimp only at hSw); go_simp <;> with_reducible rfl
                try simp only [Act.put, List.setIfInBounds_toArray, List.set_cons_zero, List.set_cons_succ]
                refine wpAnyH_take (i := 5) (oi := { dst := some 56, op := Op.move (Operand.tmp 6), type := 3, pos := "journal.go:59", after := #[], guard := none }) (v := ?_) rfl (by kernel_rfl) (by kernel_rfl) (by kernel_rfl) (fun _ _ _ h => h) (Or.inl ⟨by rfl, ?_⟩) (by assumption) ?_
                rotate_left
                · intro w hSw; (try dsimp only at hSw); go_simp <;> with_reducible rfl
                try simp only [Act.put, List.setIfInBounds_toArray, List.set_cons_zero, List.set_cons_succ]
                refine wpAnyH_take (i := 6) (oi := { dst := some 57, op := Op.binOp BinOp.add 3 (Operand.tmp 56) (Operand.const (Value.int IntKind.i64 32)) 3, type := 3, pos := "journal.go:59", after := #[{ on := 5, ground := Ground.data }], guard := none }) (v := ?_) rfl (by kernel_rfl) (by kernel_rfl) (by kernel_rfl) (fun _ _ _ h => h) (Or.inl ⟨by rfl, ?_⟩) (by assumption) ?_
                rotate_left
                · intro w hSw; (try dsimp only at hSw); go_simp <;> with_reducible rfl
                try simp only [Act.put, List.setIfInBounds_toArray, List.set_cons_zero, List.set_cons_succ]
                refine wpAnyH_take (i := 7) (oi := { dst := some 58, op := Op.slice 9 (Operand.tmp 54) (some (Operand.tmp 55)) (some (Operand.tmp 57)) none, type := 9, pos := "journal.go:59", after := #[{ on := 3, ground := Ground.data }, { on := 4, ground := Ground.data }, { on := 6, ground := Ground.data }], guard := none }) (v := ?_) rfl (by kernel_rfl) (by kernel_rfl) (by kernel_rfl) (fun _ _ _ h => h) (Or.inl ⟨by rfl, ?_⟩) (by assumption) ?_
                rotate_left
                · intro w hSw; (try dsimp only at hSw); go_simp <;> with_reducible rfl
                try simp only [Act.put, List.setIfInBounds_toArray, List.set_cons_zero, List.set_cons_succ]
                refine wpAnyH_ready (rs := [2]) (by kernel_rfl) (by simp) ?_
                refine AllReadyH.cons (o := { dst := some 53, op := Op.call { callee := Callee.value (Operand.func 38), args := #[Operand.tmp 51, Operand.tmp 52], argTypes := #[124, 9] }, type := 9, pos := "journal.go:59", after := #[{ on := 0, ground := Ground.data }, { on := 1, ground := Ground.data }], guard := none }) rfl (fun K hK => ?_) ?_
                · go_simp
                  go_at_call 38
                  refine HADD.out.mono ?_
                  rintro e w6 ⟨rfl, ⟨rv6, hT6, -⟩, hu6⟩
                  refine hK.out _ _ (trivial) (fun hHeld => ?_)
                  clear hK K
                  try simp only [Act.put, List.setIfInBounds_toArray, List.set_cons_zero, List.set_cons_succ]
                  refine wpAnyH_take (i := 8) (oi := { dst := some 59, op := Op.binOp BinOp.eql 9 (Operand.tmp 53) (Operand.tmp 58) 9, type := 4, pos := "journal.go:59", after := #[{ on := 2, ground := Ground.data }, { on := 7, ground := Ground.data }], guard := none }) (v := ?_) rfl (by kernel_rfl) (by kernel_rfl) (by kernel_rfl) (fun _ _ _ h => h) (Or.inl ⟨by rfl, ?_⟩) (by assumption) ?_
                  rotate_left
                  · intro w hSw; (try dsimp only at hSw); go_simp <;> with_reducible rfl
                  try simp only [Act.put, List.setIfInBounds_toArray, List.set_cons_zero, List.set_cons_succ]
                  refine wpAnyH_ready (rs := [9]) (by kernel_rfl) (by simp) ?_
                  refine AllReadyH.cons (o := { dst := some 60, op := Op.call { callee := Callee.value (Operand.func 100), args := #[Operand.tmp 59], argTypes := #[4] }, type := 0, pos := "journal.go:59", after := #[{ on := 8, ground := Ground.data }, { on := 2, ground := Ground.chain }], guard := none }) rfl (fun K hK => ?_) ?_
                  · go_simp
                    go_at_call 100
                    refine (check_yes _).mono ?_
                    rintro e w7 ⟨rfl, rfl⟩
                    refine hK.out _ _ (trivial) (fun hHeld => ?_)
                    clear hK K
                    try simp only [Act.put, List.setIfInBounds_toArray, List.set_cons_zero, List.set_cons_succ]
                    refine wpAnyH_done (by kernel_rfl) ?_ _
                    go_wp2_with fail
                    obtain ⟨s1, s2⟩ := HTS.out
                    refine ⟨⟨rv6, t'.add r, Lib.hid hT6, Lib.hid ?_, Lib.hid (HU6.out _ hu6), by omega, chainS_size _ _, by omega⟩, ?_⟩
                    · rw [s1, ← HR2.out, List.drop_drop]
                      congr 2
                      omega
                    · rw [hT6.sz, hT.out.sz, s1, HQ.out]
                      omega
                  exact AllReadyH.nil
                exact AllReadyH.nil
              · have hf : R = none := by
                  rw [← hRR.out, HQ.out, HD.out]
                  show loadW (1 :: _) _ = _
                  rw [hlr, if_neg (fun e => hok (hreq.2 e))]
                have heq : (rc.toList == cp.toList) = false := by rw [str_eq]; simp [hok]
                have HF := Lib.hid hf
                clear hlr hreq hok hf
                go_wp2_with (first | (go_at_call 100; refine (check_yes _).mono ?_; rintro e w2 ⟨rfl, rfl⟩) | (go_at_call 101; refine (HSW.out _).mono ?_; rintro e w4 ⟨rfl, rfl⟩))
                refine wp_region_held_drew (S := fun _ => True) (by kernel_rfl) trivial (fun hHeld => ?_)
                refine wpAnyH_take (i := 0) (oi := { dst := some 51, op := Op.move (Operand.tmp 0), type := 124, pos := "journal.go:59", after := #[], guard := none }) (v := ?_) rfl (by kernel_rfl) (by kernel_rfl) (by kernel_rfl) (fun _ _ _ h => h) (Or.inl ⟨by rfl, ?_⟩) (by assumption) ?_
                rotate_left
                · intro w hSw; (try dsimp only at hSw); go_simp <;> with_reducible rfl
                try simp only [Act.put, List.setIfInBounds_toArray, List.set_cons_zero, List.set_cons_succ]
                refine wpAnyH_take (i := 1) (oi := { dst := some 52, op := Op.move (Operand.tmp 5), type := 9, pos := "journal.go:59", after := #[], guard := none }) (v := ?_) rfl (by kernel_rfl) (by kernel_rfl) (by kernel_rfl) (fun _ _ _ h => h) (Or.inl ⟨by rfl, ?_⟩) (by assumption) ?_
                rotate_left
                · intro w hSw; (try dsimp only at hSw); go_simp <;> with_reducible rfl
                try simp only [Act.put, List.setIfInBounds_toArray, List.set_cons_zero, List.set_cons_succ]
                refine wpAnyH_take (i := 3) (oi := { dst := some 54, op := Op.move (Operand.tmp 1), type := 9, pos := "journal.go:59", after := #[], guard := none }) (v := ?_) rfl (by kernel_rfl) (by kernel_rfl) (by kernel_rfl) (fun _ _ _ h => h) (Or.inl ⟨by rfl, ?_⟩) (by assumption) ?_
                rotate_left
                · intro w hSw; (try dsimp only at hSw); go_simp <;> with_reducible rfl
                try simp only [Act.put, List.setIfInBounds_toArray, List.set_cons_zero, List.set_cons_succ]
                refine wpAnyH_take (i := 4) (oi := { dst := some 55, op := Op.move (Operand.tmp 4), type := 3, pos := "journal.go:59", after := #[], guard := none }) (v := ?_) rfl (by kernel_rfl) (by kernel_rfl) (by kernel_rfl) (fun _ _ _ h => h) (Or.inl ⟨by rfl, ?_⟩) (by assumption) ?_
                rotate_left
                · intro w hSw; (try dsimp only at hSw); go_simp <;> with_reducible rfl
                try simp only [Act.put, List.setIfInBounds_toArray, List.set_cons_zero, List.set_cons_succ]
                refine wpAnyH_take (i := 5) (oi := { dst := some 56, op := Op.move (Operand.tmp 6), type := 3, pos := "journal.go:59", after := #[], guard := none }) (v := ?_) rfl (by kernel_rfl) (by kernel_rfl) (by kernel_rfl) (fun _ _ _ h => h) (Or.inl ⟨by rfl, ?_⟩) (by assumption) ?_
                rotate_left
                · intro w hSw; (try dsimp only at hSw); go_simp <;> with_reducible rfl
                try simp only [Act.put, List.setIfInBounds_toArray, List.set_cons_zero, List.set_cons_succ]
                refine wpAnyH_take (i := 6) (oi := { dst := some 57, op := Op.binOp BinOp.add 3 (Operand.tmp 56) (Operand.const (Value.int IntKind.i64 32)) 3, type := 3, pos := "journal.go:59", after := #[{ on := 5, ground := Ground.data }], guard := none }) (v := ?_) rfl (by kernel_rfl) (by kernel_rfl) (by kernel_rfl) (fun _ _ _ h => h) (Or.inl ⟨by rfl, ?_⟩) (by assumption) ?_
                rotate_left
                · intro w hSw; (try dsimp only at hSw); go_simp <;> with_reducible rfl
                try simp only [Act.put, List.setIfInBounds_toArray, List.set_cons_zero, List.set_cons_succ]
                refine wpAnyH_take (i := 7) (oi := { dst := some 58, op := Op.slice 9 (Operand.tmp 54) (some (Operand.tmp 55)) (some (Operand.tmp 57)) none, type := 9, pos := "journal.go:59", after := #[{ on := 3, ground := Ground.data }, { on := 4, ground := Ground.data }, { on := 6, ground := Ground.data }], guard := none }) (v := ?_) rfl (by kernel_rfl) (by kernel_rfl) (by kernel_rfl) (fun _ _ _ h => h) (Or.inl ⟨by rfl, ?_⟩) (by assumption) ?_
                rotate_left
                · intro w hSw; (try dsimp only at hSw); go_simp <;> with_reducible rfl
                try simp only [Act.put, List.setIfInBounds_toArray, List.set_cons_zero, List.set_cons_succ]
                refine wpAnyH_ready (rs := [2]) (by kernel_rfl) (by simp) ?_
                refine AllReadyH.cons (o := { dst := some 53, op := Op.call { callee := Callee.value (Operand.func 38), args := #[Operand.tmp 51, Operand.tmp 52], argTypes := #[124, 9] }, type := 9, pos := "journal.go:59", after := #[{ on := 0, ground := Ground.data }, { on := 1, ground := Ground.data }], guard := none }) rfl (fun K hK => ?_) ?_
                · go_simp
                  go_at_call 38
                  refine HADD.out.mono ?_
                  rintro e w6 ⟨rfl, ⟨rv6, hT6, -⟩, hu6⟩
                  refine hK.out _ _ (trivial) (fun hHeld => ?_)
                  clear hK K
                  try simp only [Act.put, List.setIfInBounds_toArray, List.set_cons_zero, List.set_cons_succ]
                  refine wpAnyH_take (i := 8) (oi := { dst := some 59, op := Op.binOp BinOp.eql 9 (Operand.tmp 53) (Operand.tmp 58) 9, type := 4, pos := "journal.go:59", after := #[{ on := 2, ground := Ground.data }, { on := 7, ground := Ground.data }], guard := none }) (v := ?_) rfl (by kernel_rfl) (by kernel_rfl) (by kernel_rfl) (fun _ _ _ h => h) (Or.inl ⟨by rfl, ?_⟩) (by assumption) ?_
                  rotate_left
                  · intro w hSw; (try dsimp only at hSw); go_simp <;> with_reducible rfl
                  try simp only [Act.put, List.setIfInBounds_toArray, List.set_cons_zero, List.set_cons_succ]
                  refine wpAnyH_ready (rs := [9]) (by kernel_rfl) (by simp) ?_
                  refine AllReadyH.cons (o := { dst := some 60, op := Op.call { callee := Callee.value (Operand.func 100), args := #[Operand.tmp 59], argTypes := #[4] }, type := 0, pos := "journal.go:59", after := #[{ on := 8, ground := Ground.data }, { on := 2, ground := Ground.chain }], guard := none }) rfl (fun K hK => ?_) ?_
                  · go_simp
                    go_at_call 100
                    refine (check_no _ a (HE6.out _ hu6)).mono ?_
                    rintro e w7 ⟨rfl, rfl⟩
                    go_wp2_with fail
                    refine ⟨rfl, HU6.out _ hu6, ?_⟩
                    rw [HF.out]
                    rfl
                  exact AllReadyH.nil
                exact AllReadyH.nil
            · have d2 : decide (((N + 32 : Nat) : Int) ≤ (s.size : Int)) = false := by simp; omega
              have d2' : decide ((N : Int) + 32 ≤ (s.size : Int)) = false := by simp; omega
              have d2n : decide (N + 32 ≤ s.size) = false := by simp; omega
              have hf : R = none := by
                rw [← hRR.out, HQ.out, HD.out]
                show loadW (1 :: _) _ = _
                rw [hlr, if_neg]
                intro e
                have h := congrArg List.length e
                rw [chainL_length, List.length_take, List.length_drop, List.length_drop, ba_length] at h
                omega
              have HF := Lib.hid hf
              clear hf hlr hst
              go_wp2_with (first | (go_at_call 100; first | (refine (check_yes _).mono ?_; rintro e w2 ⟨rfl, rfl⟩) | (refine (check_no _ a HEW.out).mono ?_; rintro e w3 ⟨rfl, rfl⟩)) | (go_at_call 101; refine (HSW.out _).mono ?_; rintro e w4 ⟨rfl, rfl⟩))
              refine ⟨rfl, hU.out, ?_⟩
              rw [HF.out]
              rfl
        · have hf : R = none := by
            rw [← hRR.out, HQ.out, HD.out]
            refine loadW_bad (fun e => hy0 ?_) (fun e => hy1 ?_)
            · have := congrArg UInt8.toNat e; simpa [Nat.mod_eq_of_lt hY] using this
            · have := congrArg UInt8.toNat e; simpa [Nat.mod_eq_of_lt hY] using this
          have HF := Lib.hid hf
          have dq : ((Y : Int) == 1) = false := by simp; omega
          have dq' : decide ((Y : Int) = 1) = false := by simp; omega
          have dq'' : decide (Y = 1) = false := by simp; omega
          clear hf
          go_wp2_with (first | (go_at_call 100; refine (check_no _ a HEW.out).mono ?_; rintro e w2 ⟨rfl, rfl⟩))
          refine ⟨rfl, hU.out, ?_⟩
          rw [HF.out]
          rfl
    · have d1 : decide ((q : Int) < (s.size : Int)) = false := by simp; omega
      have hf : R = some t' := by
        rw [← hRR.out, HQ.out, List.drop_eq_nil_of_le (by rw [ba_length]; omega)]; exact loadW_end (by simp)
      have HF := Lib.hid hf
      clear hf
      go_wp2_with fail
      go_end0
      refine ⟨hU.out, ?_⟩
      rw [HF.out]
      exact ⟨rfl, _, hT.out⟩
end Go.Proofs.YtllmciiadceinaaGreatDoor
