/-
  The contract of the digest laws' fixed examples. Condition: the table's variable holds the table.
-/
import Derived.Test.YtjelniemoambaaaDoorFacts
namespace Go.Proofs.YtjelniemoambaaaDoor
open Go Go.RowKit Go.Shelf

/-- How memory stands inside sane. -/
structure SaneSt (w : World) (A : Option Addr) (v2 v4 : Value) (W : World) : Prop where
  l : LAt W W.heap.size A .string abc
  p : StrL W w.heap.size v2 [nodeS (leafS sA) (leafS sB)]
  x : StrL W w.heap.size v4 [leafS sB, leafS sC]
  k : KAt W
  b : Below w.heap.size w W
theorem SaneSt.below {w W W' : World} {A : Option Addr} {v2 v4 : Value} (h : SaneSt w A v2 v4 W) (hb : Below W.heap.size W W') : SaneSt w A v2 v4 W' :=
  ⟨(h.l.below hb).more hb.size, h.p.below hb (Nat.le_refl _), h.x.below hb (Nat.le_refl _), h.k.below hb, h.b.trans (hb.mono h.b.size)⟩
theorem SaneSt.drewN {w W : World} {A : Option Addr} {v2 v4 : Value} (h : SaneSt w A v2 v4 W) (n : Nat) : SaneSt w A v2 v4 (W.drewN n) :=
  h.below (Below.drewN' (Below.refl _ _) n)

theorem tl_hexE : ((⟨(hexL (sha [])).toArray⟩ : ByteArray).toList == hexE) = true := by rw [ByteArray.toList_mk, fact_e]; simp
theorem tl_hexA : ((⟨(hexL (sha [97, 98, 99])).toArray⟩ : ByteArray).toList == hexA) = true := by rw [ByteArray.toList_mk, fact_a]; simp

set_option maxRecDepth 100000 in
set_option maxHeartbeats 8000000 in
theorem sane_walk (w : World) (hK : KAt w) :
    Calls Tryd.prog 12 #[] w fun e w' => e = .returned (.bool true) ∧ Below w.heap.size w w' := by
  have HK := Lib.hid hK
  clear hK
  go_enter Tryd.func12, Tryd.ntmps12
  go_wp2_with fail
  obtain ⟨W0, hW0⟩ : ∃ W0, w.alloc (.cells #[.string ⟨#[97]⟩, .string ⟨#[98]⟩, .string ⟨#[99]⟩] 9) = W0 := ⟨_, rfl⟩
  have hb0 : Below w.heap.size w W0 := by rw [← hW0]; exact (Below.refl _ _).alloc (Nat.le_refl _) _
  have hs0 : W0.heap.size = w.heap.size + 1 := by rw [← hW0]; simp
  have hA0 : LAt W0 W0.heap.size (some ⟨w.heap.size, 0, none⟩) .string abc := by
    intro i x hx
    refine ⟨_, rfl, by show w.heap.size < _; omega, ?_⟩
    rw [← hW0]
    match i with
    | 0 => simp [abc] at hx; subst hx; simp [Addr.add, sA]
    | 1 => simp [abc] at hx; subst hx; simp [Addr.add, sB]
    | 2 => simp [abc] at hx; subst hx; simp [Addr.add, sC]
    | i + 3 => simp [abc] at hx
  have hk0 : KAt W0 := HK.out.below hb0
  have hsz : ∀ s ∈ abc, s.size ≤ 100000 := by
    intro s hs
    simp [abc] at hs
    rcases hs with rfl | rfl | rfl <;> decide
  rw [hW0]
  have H0 := Lib.hid (And.intro hb0 (And.intro hs0 (And.intro hA0 hk0)))
  have HSZ := Lib.hid hsz
  clear hb0 hs0 hA0 hk0 hsz hW0
  refine (proof_yes (some ⟨w.heap.size, 0, none⟩) abc 3 2 (by decide) (by decide) (by decide) (by unfold maxLen; decide) HSZ.out W0 H0.out.2.2.1 H0.out.2.2.2).mono ?_
  rintro e w1 ⟨⟨v2, rfl, hp⟩, hb1⟩
  rw [proof_abc] at hp
  have H1 := Lib.hid (And.intro hp hb1)
  clear hp hb1
  go_wp2_with fail
  refine (ext_yes (some ⟨w.heap.size, 0, none⟩) abc 3 1 (by decide) (by decide) (by decide) (by decide) (by unfold maxLen; decide) HSZ.out w1 ((H0.out.2.2.1.below H1.out.2).more H1.out.2.size) (H0.out.2.2.2.below H1.out.2)).mono ?_
  rintro e w2 ⟨⟨v4, rfl, hx⟩, hb2⟩
  rw [ext_abc] at hx
  have hst : SaneSt w (some ⟨w.heap.size, 0, none⟩) v2 v4 w2 := by
    obtain ⟨a1, a2, a3, a4⟩ := H0.out
    obtain ⟨b1, b2⟩ := H1.out
    have hs1 := b2.size
    refine ⟨(((a3.below b2).more b2.size).below hb2).more hb2.size, ((b1.below hb2 (Nat.le_refl _)).base (by omega)), hx.base (by omega), (a4.below b2).below hb2, (a1.trans (b2.mono (by omega))).trans (hb2.mono (by omega))⟩
  have HST := Lib.hid hst
  obtain ⟨g2, c2, he2, -, -, hc2, -⟩ := hst.p.form (by decide)
  obtain ⟨g4, c4, he4, -, -, hc4, -⟩ := hst.x.form (by decide)
  subst he2
  subst he4
  clear hx hb2 H1 H0 hst
  go_wp2_with fail
  refine (proof_no (some ⟨w.heap.size, 0, none⟩) abc 3 3 (.inr (by decide)) w2).mono ?_
  rintro e w' ⟨rfl, rfl⟩
  go_wp2_with fail
  refine (root_walk (some ⟨w.heap.size, 0, none⟩) abc 3 (by decide) HSZ.out w2 HST.out.l HST.out.k).mono ?_
  rintro e w3 ⟨rfl, hb3⟩
  have HST := Lib.hid (HST.out.below hb3)
  clear hb3
  obtain ⟨R, hR⟩ : ∃ R, rootS abc = R := ⟨_, rfl⟩
  rw [hR]
  have HR := Lib.hid hR
  clear hR
  go_wp2_with fail
  refine (sum_walk ⟨#[]⟩ (by decide) w3 HST.out.k).mono ?_
  rintro e w4 ⟨rfl, hb4⟩
  have HST := Lib.hid (HST.out.below hb4)
  clear hb4
  go_wp2_with fail
  refine (hex_walk ⟨(sha []).toArray⟩ (by rw [ba_mk_size, sha_length]; decide) w4).mono ?_
  rintro e w' ⟨rfl, n5, rfl⟩
  have HST := Lib.hid (HST.out.drewN n5)
  generalize w4.drewN n5 = w5 at HST ⊢
  have q0 := tl_hexE
  rw [← ba_mk (sha [])] at q0
  obtain ⟨E0, hE0⟩ : ∃ E0 : ByteArray, (⟨(hexL (⟨(sha []).toArray⟩ : ByteArray).data.toList).toArray⟩ : ByteArray) = E0 := ⟨_, rfl⟩
  rw [hE0] at q0 ⊢
  clear hE0
  unfold hexE at q0
  go_wp2_with fail
  refine (sum_walk ⟨#[97, 98, 99]⟩ (by decide) w5 HST.out.k).mono ?_
  rintro e w6 ⟨rfl, hb6⟩
  have HST := Lib.hid (HST.out.below hb6)
  clear hb6
  go_wp2_with fail
  refine (hex_walk ⟨(sha [97, 98, 99]).toArray⟩ (by rw [ba_mk_size, sha_length]; decide) w6).mono ?_
  rintro e w' ⟨rfl, n7, rfl⟩
  have HST := Lib.hid (HST.out.drewN n7)
  generalize w6.drewN n7 = w7 at HST ⊢
  have q1 := tl_hexA
  rw [← ba_mk (sha [97, 98, 99])] at q1
  obtain ⟨E1, hE1⟩ : ∃ E1 : ByteArray, (⟨(hexL (⟨(sha [97, 98, 99]).toArray⟩ : ByteArray).data.toList).toArray⟩ : ByteArray) = E1 := ⟨_, rfl⟩
  rw [hE1] at q1 ⊢
  clear hE1
  unfold hexA at q1
  go_wp2_with fail
  refine (verify_walk R sC 3 2 (some ⟨g2, 0, none⟩) [nodeS (leafS sA) (leafS sB)] 1 c2 rfl (by decide) hc2 (by decide) (by decide) w7 HST.out.p.lat HST.out.k).mono ?_
  rintro e w8 ⟨rfl, hb8⟩
  have HST := Lib.hid (HST.out.below hb8)
  rw [show verB R 3 2 sC [nodeS (leafS sA) (leafS sB)] = true by rw [← HR.out, ← proof_abc]; exact ver_c]
  clear hb8
  go_wp2_with fail
  refine (verify_walk R sD 3 2 (some ⟨g2, 0, none⟩) [nodeS (leafS sA) (leafS sB)] 1 c2 rfl (by decide) hc2 (by decide) (by decide) w8 HST.out.p.lat HST.out.k).mono ?_
  rintro e w9 ⟨rfl, hb9⟩
  have HST := Lib.hid (HST.out.below hb9)
  rw [show verB R 3 2 sD [nodeS (leafS sA) (leafS sB)] = false by rw [← HR.out, ← proof_abc]; exact ver_d]
  clear hb9
  go_wp2_with fail
  refine (root_at (some ⟨w.heap.size, 0, none⟩) [sA] 1 3 rfl (by decide) (fun s hs => HSZ.out s (by simp [abc] at hs ⊢; exact .inl hs)) w9 (HST.out.l.take 1) HST.out.k).mono ?_
  rintro e w10 ⟨rfl, hb10⟩
  have HST := Lib.hid (HST.out.below hb10)
  clear hb10
  obtain ⟨R1, hR1⟩ : ∃ R1, rootS [sA] = R1 := ⟨_, rfl⟩
  rw [hR1]
  have HR1 := Lib.hid hR1
  clear hR1
  go_wp2_with fail
  refine (vext_walk R1 R 1 3 (some ⟨g4, 0, none⟩) [leafS sB, leafS sC] 2 c4 rfl (by decide) hc4 (by decide) w10 HST.out.x.lat HST.out.k).mono ?_
  rintro e w11 ⟨rfl, hb11⟩
  have HST := Lib.hid (HST.out.below hb11)
  rw [show verE R1 1 R 3 [leafS sB, leafS sC] = true by rw [← HR.out, ← HR1.out, ← ext_abc]; exact ext_ok]
  clear hb11
  go_wp2_with fail
  refine (root_at (some ⟨w.heap.size, 0, none⟩) [sA, sB] 2 3 rfl (by decide) (fun s hs => HSZ.out s (by simp [abc] at hs ⊢; rcases hs with h | h; (· exact .inl h); (· exact .inr (.inl h)))) w11 (HST.out.l.take 2) HST.out.k).mono ?_
  rintro e w12 ⟨rfl, hb12⟩
  have HST := Lib.hid (HST.out.below hb12)
  clear hb12
  obtain ⟨R2, hR2⟩ : ∃ R2, rootS [sA, sB] = R2 := ⟨_, rfl⟩
  rw [hR2]
  have HR2 := Lib.hid hR2
  clear hR2
  go_wp2_with fail
  refine (vext_walk R2 R 1 3 (some ⟨g4, 0, none⟩) [leafS sB, leafS sC] 2 c4 rfl (by decide) hc4 (by decide) w12 HST.out.x.lat HST.out.k).mono ?_
  rintro e w13 ⟨rfl, hb13⟩
  have HST := Lib.hid (HST.out.below hb13)
  rw [show verE R2 1 R 3 [leafS sB, leafS sC] = false by rw [← HR.out, ← HR2.out, ← ext_abc]; exact ext_ab]
  clear hb13
  go_wp2_with fail
  go_ret
  exact ⟨rfl, HST.out.b⟩

end Go.Proofs.YtjelniemoambaaaDoor
