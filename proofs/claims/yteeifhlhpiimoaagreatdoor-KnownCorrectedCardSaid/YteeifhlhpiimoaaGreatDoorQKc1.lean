/-
  The law KnownCorrected returns true. Conditions: its arguments lie in memory; the table of powers stands.
-/
import Derived.Test.YteeifhlhpiimoaaGreatDoorQAa
import Derived.Test.YteeifhlhpiimoaaGreatDoorQKc0
import Derived.Test.YteeifhlhpiimoaaGreatDoorQKc2
import Derived.Test.YteeifhlhpiimoaaGreatDoorQAp
import Derived.Test.YteeifhlhpiimoaaGreatDoorQAq
namespace Go.Proofs.YteeifhlhpiimoaaGreatDoor
open Go Go.RowKit Go.Shelf Wr
attribute [local go_sem] Oper.semAt_some
theorem shared1 {α : Type} {F G : α → Prop} {Z : Prop} (h : (∀ a, F a → G a) → Z) (k : ∀ a, F a → G a) : Z := h k
theorem shared2 {α β : Type} {F G : α → β → Prop} {Z : Prop} (h : (∀ a b, F a b → G a b) → Z) (k : ∀ a b, F a b → G a b) : Z := h k
theorem shared3 {α β γ : Type} {F G : α → β → γ → Prop} {Z : Prop} (h : (∀ a b c, F a b c → G a b c) → Z) (k : ∀ a b c, F a b c → G a b c) : Z := h k
theorem shared4 {α β γ δ : Type} {F G : α → β → γ → δ → Prop} {Z : Prop} (h : (∀ a b c d, F a b c d → G a b c d) → Z) (k : ∀ a b c d, F a b c d → G a b c d) : Z := h k
theorem shared5 {α β γ δ ε : Type} {F G : α → β → γ → δ → ε → Prop} {Z : Prop} (h : (∀ a b c d e, F a b c d e → G a b c d e) → Z) (k : ∀ a b c d e, F a b c d e → G a b c d e) : Z := h k
theorem shared6 {α β γ δ ε ζ : Type} {F G : α → β → γ → δ → ε → ζ → Prop} {Z : Prop} (h : (∀ a b c d e f, F a b c d e f → G a b c d e f) → Z) (k : ∀ a b c d e f, F a b c d e f → G a b c d e f) : Z := h k
theorem shared7 {α β γ δ ε ζ η : Type} {F G : α → β → γ → δ → ε → ζ → η → Prop} {Z : Prop} (h : (∀ a b c d e f g, F a b c d e f g → G a b c d e f g) → Z) (k : ∀ a b c d e f g, F a b c d e f g → G a b c d e f g) : Z := h k
theorem shared8 {α β γ δ ε ζ η θ : Type} {F G : α → β → γ → δ → ε → ζ → η → θ → Prop} {Z : Prop} (h : (∀ a b c d e f g h, F a b c d e f g h → G a b c d e f g h) → Z) (k : ∀ a b c d e f g h, F a b c d e f g h → G a b c d e f g h) : Z := h k
theorem toList_mk (l : List UInt8) : (⟨l.toArray⟩ : ByteArray).toList = l := by rw [ByteArray.toList_eq]
theorem empty_ne {W : World} {g b : Nat} {T T' : TypeId} {e : Ent} (h1 : W.heap[g]? = some (.cells #[] T (0, 0))) (h2 : W.heap[b]? = some (.cells e.cells.toArray T' (0, 0))) (q : g = b) : False := by
  subst q
  rw [h1] at h2
  injection h2 with h2
  injection h2 with h2 _ _
  have := congrArg Array.size h2
  simp [Ent.cells] at this
theorem nil_cells (j : Nat) (v : Value) (h : (#[.slice none 0 0, .slice none 0 0, .slice none 0 0, .slice none 0 0, .slice none 0 0, .slice none 0 0, .slice none 0 0, .slice none 0 0, .slice none 0 0] : Array Value)[j]? = some v) : v = .slice none 0 0 := by
  have hj : j < 9 := (Array.getElem?_eq_some_iff.1 h).1
  have h9 : j = 0 ∨ j = 1 ∨ j = 2 ∨ j = 3 ∨ j = 4 ∨ j = 5 ∨ j = 6 ∨ j = 7 ∨ j = 8 := by omega
  rcases h9 with rfl | rfl | rfl | rfl | rfl | rfl | rfl | rfl | rfl <;> (simp at h; exact h.symm)
theorem bas_set {V V' : World} {b : Nat} {B : Bas} (h : BasAt V (Old V) B) (hb : V.heap[b]? = some (.cells #[.slice none 0 0, .slice none 0 0, .slice none 0 0, .slice none 0 0, .slice none 0 0, .slice none 0 0, .slice none 0 0, .slice none 0 0, .slice none 0 0] 36 (0, 0))) (ht : Turns (fun k => k = b) V V') : BasAt V' (Old V') B := by
  refine ⟨fun i hi => fun j e he => ?_, h.cap, h.none_⟩
  obtain ⟨g, hA, hY, hr⟩ := h.at_ i hi j e he
  have hne : g ≠ b := by
    rintro rfl
    have h0 := hr 0 (.int .i64 e.kind) rfl
    have h1 : (#[.slice none 0 0, .slice none 0 0, .slice none 0 0, .slice none 0 0, .slice none 0 0, .slice none 0 0, .slice none 0 0, .slice none 0 0, .slice none 0 0] : Array Value)[j * 18 + 0]? = some (.int .i64 e.kind) := by simpa [World.cell?, hb] using h0
    cases nil_cells _ _ h1
  refine ⟨g, hA, Nat.lt_of_lt_of_le hY ht.size, fun k v hv => ?_⟩
  exact (World.cell?_of_block (w := V) (a := ⟨g, j * 18 + k, none⟩) (ht.block g hY hne)).trans (hr k v hv)
theorem uB {U V W : World} (h : Hid (Below U.heap.size U V)) (hb : Below V.heap.size V W) : Hid (Below U.heap.size U W) := Lib.hid (h.out.trans (hb.mono h.out.size))
theorem uA {V W : World} {N : Nat} {v : Value} {l : List Ent} (h : Hid (OL V N 33 18 Ent.cells v l)) (hb : Below V.heap.size V W) : Hid (OL W N 33 18 Ent.cells v l) := Lib.hid (h.out.below hb (Nat.le_refl _))
theorem u4 {V W : World} {b : Nat} {cs : Array Value} {T : TypeId} (h : Hid (V.heap[b]? = some (.cells cs T (0, 0)))) (hb : Below V.heap.size V W) : Hid (W.heap[b]? = some (.cells cs T (0, 0))) := Lib.hid (below_at2 hb h.out)
theorem u8 {V W : World} {b n : Nat} {cs : Array Value} {T : TypeId} (h : Hid (V.heap[b]? = some (.cells cs T (0, 0)) ∧ n ≤ b)) (hb : Below V.heap.size V W) : Hid (W.heap[b]? = some (.cells cs T (0, 0)) ∧ n ≤ b) := Lib.hid ⟨below_at2 hb h.out.1, h.out.2⟩
theorem uC {V W : World} {B : Bas} {P : Prop} (h : Hid (BasAt V (Old V) B ∧ P)) (hb : Below V.heap.size V W) : Hid (BasAt W (Old W) B ∧ P) := Lib.hid ⟨h.out.1.below hb, h.out.2⟩
theorem g8 {V W : World} {N b n : Nat} {v : Value} {l : List Ent} {cs : Array Value} (hg : V.grownBy W v.ownBlock) (ha : Hid (OL V N 33 18 Ent.cells v l)) (h : Hid (V.heap[b]? = some (.cells cs 36 (0, 0)) ∧ n ≤ b)) : Hid (W.heap[b]? = some (.cells cs 36 (0, 0)) ∧ n ≤ b) := Lib.hid ⟨(hg.block _ (cells_lt h.out.1) (fun q => ol_ne ha.out h.out.1 (by decide) q.symm)).trans h.out.1, h.out.2⟩
theorem lay0 {U W : World} (h : Hid (Below U.heap.size U W)) : ∃ V g, W.alloc (.cells #[] 33) = V ∧ W.heap.size = g ∧ Below W.heap.size W V ∧ Hid (OL V U.heap.size 33 18 Ent.cells (.slice (some ⟨g, 0, none⟩) 0 0) []) ∧ Hid (V.heap[g]? = some (.cells #[] 33 (0, 0))) := ⟨_, _, rfl, rfl, below_new _ _, Lib.hid (OL.lit0E W h.out.size), Lib.hid (World.alloc_heap_new _ _)⟩
theorem lay8 {U W : World} (h : Hid (Below U.heap.size U W)) : ∃ V b, W.alloc (.cells #[.slice none 0 0, .slice none 0 0, .slice none 0 0, .slice none 0 0, .slice none 0 0, .slice none 0 0, .slice none 0 0, .slice none 0 0, .slice none 0 0] 36) = V ∧ W.heap.size = b ∧ Below W.heap.size W V ∧ Hid (V.heap[b]? = some (.cells #[.slice none 0 0, .slice none 0 0, .slice none 0 0, .slice none 0 0, .slice none 0 0, .slice none 0 0, .slice none 0 0, .slice none 0 0, .slice none 0 0] 36 (0, 0)) ∧ U.heap.size ≤ b) := ⟨_, _, rfl, rfl, below_new _ _, Lib.hid ⟨World.alloc_heap_new _ _, h.out.size⟩⟩
set_option maxRecDepth 100000 in
set_option maxHeartbeats 8000000 in
theorem kcorr_walk (w : World) (hp : Pow10 w) (l1 : List Six) (A1 : Option Addr) (n1 c1 : Nat) (wv fv : Int) (gv : Bool) (dv : Int) (hn1 : l1.length = n1) (hm1 : n1 ≤ maxLen) (ho1 : ∀ y ∈ l1, y.Ok) (hw : I64 wv) (hf : I64 fv) (hd : I64 dv) (hA1 : SixAt w A1 l1) :
    Calls Tryz.prog 4 #[.slice A1 n1 c1, .int .i64 wv, .int .i64 fv, .bool gv, .int .i64 dv] w (ValP w true) := by
  have HP := Lib.hid hp
  have IE := fun e : Ent => Lib.hid (ientry (e := e))
  have IS := fun e : Ent => Lib.hid (show (Tryz.prog.info? 33).map (·.size) = some e.cells.toArray.size from ientry (e := e))
  have IB := fun B : Bas => Lib.hid (ibase B)
  have S1 := Lib.hid (fun W (h : Below w.heap.size w W) => some_walk l1 A1 n1 c1 hn1 hm1 ho1 W (hA1.below h))
  obtain ⟨L, hL⟩ : ∃ L, (l1.take 30).map someE = L := ⟨_, rfl⟩
  have HLT : Hid (L.length ≤ 30 ∧ ∀ e ∈ L, Texts e ∧ validE e = true ∧ 1 ≤ e.ver ∧ e.ver ≤ 3) := Lib.hid ⟨by rw [← hL]; simp; omega, fun e he => by rw [← hL] at he; obtain ⟨y, _, rfl⟩ := List.mem_map.1 he; exact ⟨some_texts y, some_valid y, some_ver y⟩⟩
  rw [hL] at S1
  obtain ⟨a, ha⟩ : ∃ a, L.length = a := ⟨_, rfl⟩
  have HLA := Lib.hid ha
  have ha30 : a ≤ 30 := by rw [← ha]; exact HLT.out.1
  by_cases h0 : a = 0
  · subst h0
    clear hp hn1 hm1 ho1 hw hf hd hA1 hL ha ha30
    go_enter Tryz.func4, Tryz.ntmps4
    go_wp2_with (first
      | (go_at_call 11; refine (sane_walk _ HP.out).mono ?_; rintro e2 w1 ⟨rfl, hb⟩; have HB1 := Lib.hid hb; clear hb)
      | (go_at_call 12; refine (S1.out w1 HB1.out).mono ?_; rintro e2 w2 ⟨v10, rfl, ho, hb⟩; have HB2 := Lib.hid (HB1.out.trans (hb.mono HB1.out.size)); obtain ⟨AL, cL, rfl, -, -⟩ := ho.slice; rw [HLA.out]; clear hb ho)
      | fail)
    go_ret
    exact ⟨rfl, HB2.out⟩
  have r1 := pickZ_range wv (n := (a : Int)) (by omega)
  have r2 := pickZ_range fv (n := 40) (by omega)
  have r3 := pickZ_range dv (n := 50) (by omega)
  obtain ⟨p, hp1⟩ : ∃ p : Nat, pickZ wv (a : Int) = (p : Int) := ⟨(pickZ wv (a : Int)).toNat, by omega⟩
  obtain ⟨d, hp2⟩ : ∃ p, pickZ fv 40 = p := ⟨_, rfl⟩
  obtain ⟨day, hp3⟩ : ∃ p, pickZ dv 50 = p := ⟨_, rfl⟩
  rw [hp1] at r1
  rw [hp2] at r2
  rw [hp3] at r3
  have PK : ∀ (x n p : Int), I64 x → 1 ≤ n → n ≤ 100 → pickZ x n = p → ∀ W, Calls Tryz.prog 13 #[.int .i64 x, .int .i64 n] W fun e W' => e = .returned (.int .i64 p) ∧ W = W' := fun x n p hx h1 h2 hp W => by rw [← hp]; exact pick19_walk W x n hx.1 hx.2 h1 (by omega)
  have P1 := Lib.hid (PK wv a p hw (by omega) (by omega) hp1)
  have P2 := Lib.hid (PK fv 40 d hf (by omega) (by omega) hp2)
  have P3 := Lib.hid (PK dv 50 day hd (by omega) (by omega) hp3)
  obtain ⟨e0, he0⟩ : ∃ e, L[p]? = some e := ⟨_, List.getElem?_eq_getElem (by omega)⟩
  have hem := List.mem_of_getElem? he0
  have hT0 := HLT.out.2 e0 hem
  have hval : validE (corrE e0 d gv) = true := corr_valid hT0.2.1 (by omega) (by omega)
  have HWC : Hid (∀ e ∈ ([] ++ L) ++ [corrE e0 d gv], e.Wire) := Lib.hid fun e he => by
    rw [List.nil_append] at he
    rcases List.mem_append.1 he with q | q
    · exact (HLT.out.2 e q).1.wire
    · rw [List.mem_singleton.1 q]
      have t := hT0.1
      exact (⟨t.ln, t.ld, t.hn, t.hd, t.rn, t.rd, t.text⟩ : Texts (corrE e0 d gv)).wire
  have HVER : Hid (∀ x ∈ L, x.ver < (corrE e0 d gv).ver) := Lib.hid fun x hx => by have := (HLT.out.2 x hx).2.2.2; show x.ver < 9; omega
  have HVAL := Lib.hid hval
  have HDAY : Hid ((corrE e0 d gv).day = d ∧ (corrE e0 d gv).gone = gv) := Lib.hid ⟨rfl, rfl⟩
  have z1 : (0 : Int) ≤ (p : Int) := by omega
  have z2 : (p : Int) < (a : Int) := by omega
  have d0 : ((a : Int) == 0) = false := by simp; omega
  have HA0 : Hid (0 < a) := Lib.hid (by omega)
  have HE0 := Lib.hid he0
  obtain ⟨ec, hec⟩ : ∃ x, corrE e0 d gv = x := ⟨_, rfl⟩
  rw [hec] at HWC HVER HVAL HDAY
  have HEC := Lib.hid hec
  clear hp hn1 hm1 ho1 hw hf hd hA1 hL ha PK hp1 hp2 hp3 r1 r2 r3 he0 hem hT0 hval hec h0
  go_enter Tryz.func4, Tryz.ntmps4
  go_wp2_with (first
    | (go_at_call 11; refine (sane_walk _ HP.out).mono ?_; rintro e2 w1 ⟨rfl, hb⟩; have HB1 := Lib.hid hb; clear hb)
    | (go_at_call 12; refine (S1.out w1 HB1.out).mono ?_; rintro e2 w2 ⟨v10, rfl, ho, hb⟩
       have HB2 := Lib.hid (HB1.out.trans (hb.mono HB1.out.size))
       obtain ⟨gL, cL, rfl, hgN, -, -, -⟩ := ho.form (by rw [HLA.out]; exact HA0.out)
       rw [HLA.out] at ho ⊢
       have HOL := Lib.hid ho
       have HR0 := Lib.hid (ho.row HE0.out)
       clear hb ho HB1 S1 hgN)
    | (go_at_call 13; (with_reducible refine (P1.out _).mono ?_); rintro e2 W2 ⟨rfl, rfl⟩; clear P1)
    | (go_at_call 13; (with_reducible refine (P2.out _).mono ?_); rintro e2 W2 ⟨rfl, rfl⟩; clear P2)
    | (go_at_call 13; (with_reducible refine (P3.out _).mono ?_); rintro e2 W2 ⟨rfl, rfl⟩; clear P3)
    | ((with_reducible refine wpList_load_mid rfl 33 (.tmp 34) rfl gL (p * 18) ?hx e0.cells _ HR0.out Tryz.underlying33 rfl (IE _).out ?_); (case hx => first | rfl | simp [Addr.add]))
    | ((with_reducible refine store_new rfl (.tmp 13) (.tmp 35) rfl rfl e0 ?hx ?hy (IS _).out ?hold ?_); (case hx => rfl); (case hy => rfl); (case hold => rfl); intro w5 he5 hb5 hs5
       obtain ⟨b13, hb13⟩ : ∃ q, w2.heap.size = q := ⟨_, rfl⟩
       have E13 := Lib.hid hb13
       rw [hb13] at he5 ⊢
       have x2 := he5.cell (i := 2) rfl
       have f2 := he5.free 2
       have he6 := he5.setc (e' := { e0 with ver := 9 }) 2 (.int .i64 9) rfl
       obtain ⟨w6, hw6⟩ : ∃ W, w5.setCell ⟨b13, 2, none⟩ (.int .i64 9) = W := ⟨_, rfl⟩
       rw [hw6] at he6
       have x3 := he6.cell (i := 3) rfl
       have f3 := he6.free 3
       have he7 := he6.setc (e' := { e0 with ver := 9, day := d }) 3 (.int .i64 d) rfl
       obtain ⟨w7, hw7⟩ : ∃ W, w6.setCell ⟨b13, 3, none⟩ (.int .i64 d) = W := ⟨_, rfl⟩
       rw [hw7] at he7
       have x4 := he7.cell (i := 4) rfl
       have f4 := he7.free 4
       have he8 : EntAt (w7.setCell ⟨b13, 4, none⟩ (.bool gv)) b13 (corrE e0 d gv) := he7.setc 4 (.bool gv) rfl
       obtain ⟨w8, hw8⟩ : ∃ W, w7.setCell ⟨b13, 4, none⟩ (.bool gv) = W := ⟨_, rfl⟩
       rw [hw8, HEC.out] at he8
       have hle := Nat.le_of_eq hb13
       have hb8 : Below w2.heap.size w2 w8 := by rw [← hw8, ← hw7, ← hw6]; exact Below.setCell (p := ⟨b13, 4, none⟩) (Below.setCell (p := ⟨b13, 3, none⟩) (Below.setCell (p := ⟨b13, 2, none⟩) hb5 hle _) hle _) hle _
       have ho8 := HOL.out.below hb8 (Nat.le_refl _)
       have HE8 := Lib.hid he8
       have C1 := Lib.hid (knownOf_walk L day (some ⟨gL, 0, none⟩) a cL HLA.out (by omega) w8 (EAt.of_ol (Y := Old w8) ho8 (fun b e => by have := (ho8.lt b (by rw [e]; rfl)).2; exact this)) (fun e he => (HLT.out.2 e he).1.wire) (HP.out.below (HB2.out.trans (hb8.mono HB2.out.size))))
       have HO8 := Lib.hid ho8
       have HB8 := Lib.hid (HB2.out.trans (hb8.mono HB2.out.size))
       clear he5 hb5 hs5 hb13 he6 he7 he8 hle hb8 ho8 HOL HB2 HR0)
    | (go_at_call 15; (with_reducible refine C1.out.mono ?_); rintro e2 w9 ⟨B1, rfl, hB, hI, hb⟩
       have HBS := Lib.hid hB
       have HI1 := Lib.hid hI
       have HB9 := Lib.hid (HB8.out.trans (hb.mono HB8.out.size))
       have HO9 := Lib.hid (HO8.out.below hb (Nat.le_refl _))
       have HE9 := Lib.hid (below_at2 hb HE8.out)
       clear hB hI hb C1 HB8 HO8 HE8 hw6 hw7 hw8 x2 f2 x3 f3 x4 f4)
    | ((with_reducible refine store_newB rfl (.tmp 14) (.tmp 46) rfl rfl B1 ?hx ?hy ?hold ?_); (case hx => rfl); (case hy => rfl); (case hold => rfl); intro w10 hs10 hb10
       obtain ⟨b14, hb14⟩ : ∃ q, w9.heap.size = q := ⟨_, rfl⟩
       have E14 := Lib.hid hb14
       rw [hb14] at hs10 ⊢
       have H14 : Hid (w10.drew.heap[b14]? = some (.cells B1.cells.toArray 36 (0, 0))) := Lib.hid hs10
       have HB1 : Hid (BasAt w10.drew (Old w10.drew) B1) := Lib.hid (HBS.out.below (Below.drew hb10))
       have HOL : Hid (OL w10.drew w1.heap.size 33 18 Ent.cells (.slice (some ⟨gL, 0, none⟩) a cL) L) := Lib.hid (HO9.out.below (Below.drew hb10) (Nat.le_refl _))
       have HE10 : Hid (w10.drew.heap[b13]? = some (.cells ec.cells.toArray 33 (0, 0))) := Lib.hid (below_at2 (Below.drew hb10) HE9.out)
       have HSS : Hid (∀ W, Below w10.drew.heap.size w10.drew W → World.rangeAt W b13 0 ec.cells) := Lib.hid fun W h => range_of (below_at2 h HE10.out)
       have HBW : Hid (Below w.heap.size w w10.drew) := Lib.hid (Below.drew (HB9.out.trans (hb10.mono HB9.out.size)))
       have HPQ := Lib.hid (HP.out.below HBW.out)
       clear hs10 hb14 hb10 HBS HB9 HO9 HE9)
    | fail)
  refine wp_region_noPanic ?_
  refine wp_region_held_drew (S := fun U => World.rangeAt U b13 0 ec.cells) (by kernel_rfl) (HSS.out w10.drew (Below.refl _ _)) (fun hHeld => ?_)
  obtain ⟨U0, hU0⟩ : ∃ U, w10.drew = U := ⟨_, rfl⟩
  rw [hU0] at HSS HOL HPQ H14 HB1 HBW HE10 hHeld ⊢
  clear hU0
  have HBQ : Hid (Below U0.heap.size U0 U0) := Lib.hid (Below.refl _ _)
  refine tk 1 ?_
  refine tk 6 ?_
  refine tl 3 rfl (yieldsIf_load_mid (by rfl) 33 (.tmp 13) rfl b13 0 (by rfl) ec.cells _ (fun w hw => hw) Tryz.underlying33 rfl (IE _).out) ?_
  apply shared8
  intro N0
  apply shared7
  intro N1
  apply shared5
  intro N2
  apply shared4
  intro N3
  apply shared4
  intro N4
  apply shared4
  intro N5
  apply shared3
  intro N6
  apply shared3
  intro N7
  apply shared3
  intro N8
  ·
   refine rd [0, 4, 8] ?_
   refine rc (fun K hK => ?_) ?_
   ·
    go_simp
    obtain ⟨V0, g0, q1, q2, hb, ha, hr⟩ := lay0 HBQ
    rw [q1, q2]
    have HBQ := uB HBQ hb
    try have HA := uA HA hb
    try have HR := u4 HR hb
    try have H4 := u4 H4 hb
    try have H8 := u8 H8 hb
    try have HC := uC HC hb
    have HA := ha
    have HR := hr
    clear q1 q2 hb ha hr
    refine kk hK (HSS.out _ HBQ.out) (fun hHeld => ?_)
    clear hK K
    refine rd [2, 4, 8] ?_
    refine rc (fun K hK => ?_) ?_
    ·
     refine step_cat (by rfl) (.tmp 47) (.tmp 48) 25 (by rfl) elemEnt (fun _ => rfl) _ [] (by rfl) HA.out (some ⟨gL, 0, none⟩) L a cL HLA.out (by rfl) (fun h => by cases h) ((HOL.out.below HBQ.out (Nat.le_refl _)).cats) (fun x _ => one_cells' x) (by have := HLT.out.1; have := HLA.out; unfold maxLen; simp; omega) (by have := HLT.out.1; have := HLA.out; simp; omega) HBQ.out.size ?_
     intro v49 V2 h2 hg hb
     have HBQ := Lib.hid (HBQ.out.trans hb)
     try have H4 := Lib.hid ((hg.block _ (cells_lt H4.out) (fun q => empty_ne HR.out H4.out (Option.some.inj q).symm)).trans H4.out)
     try have H8 := g8 hg HA H8
     have HA := Lib.hid h2
     have HR := Lib.hid trivial
     clear h2 hg hb
     refine kk hK (HSS.out _ HBQ.out) (fun hHeld => ?_)
     clear hK K
     refine rd [4, 8] ?_
     refine rc (fun K hK => ?_) ?_
     ·
      refine step_build_ent (by rfl) (.tmp 50) (by rfl) ec (by rfl) ?_
      intro b4 V4 hq hb h4
      rw [← hq] at hb
      have HBQ := uB HBQ hb
      try have HA := uA HA hb
      try have HR := u4 HR hb
      try have H4 := u4 H4 hb
      try have H8 := u8 H8 hb
      try have HC := uC HC hb
      have H4 := Lib.hid h4
      clear h4 hb hq
      refine kk hK (HSS.out _ HBQ.out) (fun hHeld => ?_)
      clear hK K
      have HX := (And.intro HBQ (And.intro HA (And.intro HR (And.intro H4 hHeld))))
      exact N3 V4 g0 v49 b4 HX
     refine rc (fun K hK => ?_) ?_
     ·
      go_simp
      obtain ⟨V8, b8, q1, q2, hb, h8⟩ := lay8 HBQ
      rw [q1, q2]
      have HBQ := uB HBQ hb
      try have HA := uA HA hb
      try have HR := u4 HR hb
      try have H4 := u4 H4 hb
      try have H8 := u8 H8 hb
      try have HC := uC HC hb
      have H8 := h8
      clear q1 q2 hb h8
      refine kk hK (HSS.out _ HBQ.out) (fun hHeld => ?_)
      clear hK K
      have HX := (And.intro HBQ (And.intro HA (And.intro HR (And.intro H8 hHeld))))
      exact N4 V8 g0 v49 b8 HX
     exact AllReadyH.nil
    refine rc (fun K hK => ?_) ?_
    ·
     refine step_build_ent (by rfl) (.tmp 50) (by rfl) ec (by rfl) ?_
     intro b4 V4 hq hb h4
     rw [← hq] at hb
     have HBQ := uB HBQ hb
     try have HA := uA HA hb
     try have HR := u4 HR hb
     try have H4 := u4 H4 hb
     try have H8 := u8 H8 hb
     try have HC := uC HC hb
     have H4 := Lib.hid h4
     clear h4 hb hq
     refine kk hK (HSS.out _ HBQ.out) (fun hHeld => ?_)
     clear hK K
     have HX := (And.intro HBQ (And.intro HA (And.intro HR (And.intro H4 hHeld))))
     exact N6 V4 g0 b4 HX
    refine rc (fun K hK => ?_) ?_
    ·
     go_simp
     obtain ⟨V8, b8, q1, q2, hb, h8⟩ := lay8 HBQ
     rw [q1, q2]
     have HBQ := uB HBQ hb
     try have HA := uA HA hb
     try have HR := u4 HR hb
     try have H4 := u4 H4 hb
     try have H8 := u8 H8 hb
     try have HC := uC HC hb
     have H8 := h8
     clear q1 q2 hb h8
     refine kk hK (HSS.out _ HBQ.out) (fun hHeld => ?_)
     clear hK K
     have HX := (And.intro HBQ (And.intro HA (And.intro HR (And.intro H8 hHeld))))
     exact N7 V8 g0 b8 HX
    exact AllReadyH.nil
   refine rc (fun K hK => ?_) ?_
   ·
    refine step_build_ent (by rfl) (.tmp 50) (by rfl) ec (by rfl) ?_
    intro b4 V4 hq hb h4
    rw [← hq] at hb
    have HBQ := uB HBQ hb
    try have HA := uA HA hb
    try have HR := u4 HR hb
    try have H4 := u4 H4 hb
    try have H8 := u8 H8 hb
    try have HC := uC HC hb
    have H4 := Lib.hid h4
    clear h4 hb hq
    refine kk hK (HSS.out _ HBQ.out) (fun hHeld => ?_)
    clear hK K
    refine rd [0, 8] ?_
    refine rc (fun K hK => ?_) ?_
    ·
     go_simp
     obtain ⟨V0, g0, q1, q2, hb, ha, hr⟩ := lay0 HBQ
     rw [q1, q2]
     have HBQ := uB HBQ hb
     try have HA := uA HA hb
     try have HR := u4 HR hb
     try have H4 := u4 H4 hb
     try have H8 := u8 H8 hb
     try have HC := uC HC hb
     have HA := ha
     have HR := hr
     clear q1 q2 hb ha hr
     refine kk hK (HSS.out _ HBQ.out) (fun hHeld => ?_)
     clear hK K
     exact N6 V0 g0 b4 ⟨HBQ, HA, HR, H4, hHeld⟩
    refine rc (fun K hK => ?_) ?_
    ·
     go_simp
     obtain ⟨V8, b8, q1, q2, hb, h8⟩ := lay8 HBQ
     rw [q1, q2]
     have HBQ := uB HBQ hb
     try have HA := uA HA hb
     try have HR := u4 HR hb
     try have H4 := u4 H4 hb
     try have H8 := u8 H8 hb
     try have HC := uC HC hb
     have H8 := h8
     clear q1 q2 hb h8
     refine kk hK (HSS.out _ HBQ.out) (fun hHeld => ?_)
     clear hK K
     have HX := (And.intro HBQ (And.intro H4 (And.intro H8 hHeld)))
     exact N8 V8 b4 b8 HX
    exact AllReadyH.nil
   refine rc (fun K hK => ?_) ?_
   ·
    go_simp
    obtain ⟨V8, b8, q1, q2, hb, h8⟩ := lay8 HBQ
    rw [q1, q2]
    have HBQ := uB HBQ hb
    try have HA := uA HA hb
    try have HR := u4 HR hb
    try have H4 := u4 H4 hb
    try have H8 := u8 H8 hb
    try have HC := uC HC hb
    have H8 := h8
    clear q1 q2 hb h8
    refine kk hK (HSS.out _ HBQ.out) (fun hHeld => ?_)
    clear hK K
    refine rd [0, 4] ?_
    refine rc (fun K hK => ?_) ?_
    ·
     go_simp
     obtain ⟨V0, g0, q1, q2, hb, ha, hr⟩ := lay0 HBQ
     rw [q1, q2]
     have HBQ := uB HBQ hb
     try have HA := uA HA hb
     try have HR := u4 HR hb
     try have H4 := u4 H4 hb
     try have H8 := u8 H8 hb
     try have HC := uC HC hb
     have HA := ha
     have HR := hr
     clear q1 q2 hb ha hr
     refine kk hK (HSS.out _ HBQ.out) (fun hHeld => ?_)
     clear hK K
     exact N7 V0 g0 b8 ⟨HBQ, HA, HR, H8, hHeld⟩
    refine rc (fun K hK => ?_) ?_
    ·
     refine step_build_ent (by rfl) (.tmp 50) (by rfl) ec (by rfl) ?_
     intro b4 V4 hq hb h4
     rw [← hq] at hb
     have HBQ := uB HBQ hb
     try have HA := uA HA hb
     try have HR := u4 HR hb
     try have H4 := u4 H4 hb
     try have H8 := u8 H8 hb
     try have HC := uC HC hb
     have H4 := Lib.hid h4
     clear h4 hb hq
     refine kk hK (HSS.out _ HBQ.out) (fun hHeld => ?_)
     clear hK K
     exact N8 V4 b4 b8 ⟨HBQ, H4, H8, hHeld⟩
    exact AllReadyH.nil
   exact AllReadyH.nil
  ·
   rintro XN8 b4 b8 ⟨HBQ, H4, H8, hHeld⟩
   refine rd [0] ?_
   refine rc (fun K hK => ?_) ?_
   ·
    go_simp
    obtain ⟨V0, g0, q1, q2, hb, ha, hr⟩ := lay0 HBQ
    rw [q1, q2]
    have HBQ := uB HBQ hb
    try have HA := uA HA hb
    try have HR := u4 HR hb
    try have H4 := u4 H4 hb
    try have H8 := u8 H8 hb
    try have HC := uC HC hb
    have HA := ha
    have HR := hr
    clear q1 q2 hb ha hr
    refine kk hK (HSS.out _ HBQ.out) (fun hHeld => ?_)
    clear hK K
    have HX := (And.intro HBQ (And.intro HA (And.intro HR (And.intro H4 (And.intro H8 hHeld)))))
    exact N5 V0 g0 b4 b8 HX
   exact AllReadyH.nil
  ·
   rintro XN7 g0 b8 ⟨HBQ, HA, HR, H8, hHeld⟩
   refine rd [2, 4] ?_
   refine rc (fun K hK => ?_) ?_
   ·
    refine step_cat (by rfl) (.tmp 47) (.tmp 48) 25 (by rfl) elemEnt (fun _ => rfl) _ [] (by rfl) HA.out (some ⟨gL, 0, none⟩) L a cL HLA.out (by rfl) (fun h => by cases h) ((HOL.out.below HBQ.out (Nat.le_refl _)).cats) (fun x _ => one_cells' x) (by have := HLT.out.1; have := HLA.out; unfold maxLen; simp; omega) (by have := HLT.out.1; have := HLA.out; simp; omega) HBQ.out.size ?_
    intro v49 V2 h2 hg hb
    have HBQ := Lib.hid (HBQ.out.trans hb)
    try have H4 := Lib.hid ((hg.block _ (cells_lt H4.out) (fun q => empty_ne HR.out H4.out (Option.some.inj q).symm)).trans H4.out)
    try have H8 := g8 hg HA H8
    have HA := Lib.hid h2
    have HR := Lib.hid trivial
    clear h2 hg hb
    refine kk hK (HSS.out _ HBQ.out) (fun hHeld => ?_)
    clear hK K
    exact N4 V2 g0 v49 b8 ⟨HBQ, HA, HR, H8, hHeld⟩
   refine rc (fun K hK => ?_) ?_
   ·
    refine step_build_ent (by rfl) (.tmp 50) (by rfl) ec (by rfl) ?_
    intro b4 V4 hq hb h4
    rw [← hq] at hb
    have HBQ := uB HBQ hb
    try have HA := uA HA hb
    try have HR := u4 HR hb
    try have H4 := u4 H4 hb
    try have H8 := u8 H8 hb
    try have HC := uC HC hb
    have H4 := Lib.hid h4
    clear h4 hb hq
    refine kk hK (HSS.out _ HBQ.out) (fun hHeld => ?_)
    clear hK K
    exact N5 V4 g0 b4 b8 ⟨HBQ, HA, HR, H4, H8, hHeld⟩
   exact AllReadyH.nil
  ·
   rintro XN6 g0 b4 ⟨HBQ, HA, HR, H4, hHeld⟩
   refine rd [2, 8] ?_
   refine rc (fun K hK => ?_) ?_
   ·
    refine step_cat (by rfl) (.tmp 47) (.tmp 48) 25 (by rfl) elemEnt (fun _ => rfl) _ [] (by rfl) HA.out (some ⟨gL, 0, none⟩) L a cL HLA.out (by rfl) (fun h => by cases h) ((HOL.out.below HBQ.out (Nat.le_refl _)).cats) (fun x _ => one_cells' x) (by have := HLT.out.1; have := HLA.out; unfold maxLen; simp; omega) (by have := HLT.out.1; have := HLA.out; simp; omega) HBQ.out.size ?_
    intro v49 V2 h2 hg hb
    have HBQ := Lib.hid (HBQ.out.trans hb)
    try have H4 := Lib.hid ((hg.block _ (cells_lt H4.out) (fun q => empty_ne HR.out H4.out (Option.some.inj q).symm)).trans H4.out)
    try have H8 := g8 hg HA H8
    have HA := Lib.hid h2
    have HR := Lib.hid trivial
    clear h2 hg hb
    refine kk hK (HSS.out _ HBQ.out) (fun hHeld => ?_)
    clear hK K
    exact N3 V2 g0 v49 b4 ⟨HBQ, HA, HR, H4, hHeld⟩
   refine rc (fun K hK => ?_) ?_
   ·
    go_simp
    obtain ⟨V8, b8, q1, q2, hb, h8⟩ := lay8 HBQ
    rw [q1, q2]
    have HBQ := uB HBQ hb
    try have HA := uA HA hb
    try have HR := u4 HR hb
    try have H4 := u4 H4 hb
    try have H8 := u8 H8 hb
    try have HC := uC HC hb
    have H8 := h8
    clear q1 q2 hb h8
    refine kk hK (HSS.out _ HBQ.out) (fun hHeld => ?_)
    clear hK K
    exact N5 V8 g0 b4 b8 ⟨HBQ, HA, HR, H4, H8, hHeld⟩
   exact AllReadyH.nil
  ·
   rintro XN5 g0 b4 b8 ⟨HBQ, HA, HR, H4, H8, hHeld⟩
   refine rd [2] ?_
   refine rc (fun K hK => ?_) ?_
   ·
    refine step_cat (by rfl) (.tmp 47) (.tmp 48) 25 (by rfl) elemEnt (fun _ => rfl) _ [] (by rfl) HA.out (some ⟨gL, 0, none⟩) L a cL HLA.out (by rfl) (fun h => by cases h) ((HOL.out.below HBQ.out (Nat.le_refl _)).cats) (fun x _ => one_cells' x) (by have := HLT.out.1; have := HLA.out; unfold maxLen; simp; omega) (by have := HLT.out.1; have := HLA.out; simp; omega) HBQ.out.size ?_
    intro v49 V2 h2 hg hb
    have HBQ := Lib.hid (HBQ.out.trans hb)
    try have H4 := Lib.hid ((hg.block _ (cells_lt H4.out) (fun q => empty_ne HR.out H4.out (Option.some.inj q).symm)).trans H4.out)
    try have H8 := g8 hg HA H8
    have HA := Lib.hid h2
    have HR := Lib.hid trivial
    clear h2 hg hb
    refine kk hK (HSS.out _ HBQ.out) (fun hHeld => ?_)
    clear hK K
    have HX := (And.intro HBQ (And.intro HA (And.intro HR (And.intro H4 (And.intro H8 hHeld)))))
    exact N2 V2 g0 v49 b4 b8 HX
   exact AllReadyH.nil
  ·
   rintro XN4 g0 v49 b8 ⟨HBQ, HA, HR, H8, hHeld⟩
   refine rd [4] ?_
   refine rc (fun K hK => ?_) ?_
   ·
    refine step_build_ent (by rfl) (.tmp 50) (by rfl) ec (by rfl) ?_
    intro b4 V4 hq hb h4
    rw [← hq] at hb
    have HBQ := uB HBQ hb
    try have HA := uA HA hb
    try have HR := u4 HR hb
    try have H4 := u4 H4 hb
    try have H8 := u8 H8 hb
    try have HC := uC HC hb
    have H4 := Lib.hid h4
    clear h4 hb hq
    refine kk hK (HSS.out _ HBQ.out) (fun hHeld => ?_)
    clear hK K
    exact N2 V4 g0 v49 b4 b8 ⟨HBQ, HA, HR, H4, H8, hHeld⟩
   exact AllReadyH.nil
  ·
   rintro XN3 g0 v49 b4 ⟨HBQ, HA, HR, H4, hHeld⟩
   refine rd [5, 8] ?_
   refine rc (fun K hK => ?_) ?_
   ·
    refine step_app (by rfl) (.tmp 49) (.tmp 51) 25 (by rfl) elemEnt v49 ([] ++ L) a (by simpa using HLA.out) (by rfl) HA.out ec b4 ec.cells.toArray (by rfl) H4.out (by simp) rfl (one_cells' _) (by have := HLT.out.1; unfold maxLen; simp; omega) (by have := HLT.out.1; simp; omega) HBQ.out.size ?_
    intro g5 c5 V5 h5 hg _ _ hb
    have HBQ := Lib.hid (HBQ.out.trans hb)
    try have H8 := g8 hg HA H8
    have HA := Lib.hid h5
    have H4 := Lib.hid trivial
    clear h5 hg hb
    refine kk hK (HSS.out _ HBQ.out) (fun hHeld => ?_)
    clear hK K
    refine rd [7, 8] ?_
    refine rc (fun K hK => ?_) ?_
    ·
     go_simp
     have hof := knownOf_walk (([] ++ L) ++ [ec]) day (some ⟨g5, 0, none⟩) (a + 1) c5 (by have := HLA.out; simp; omega) (by have := HLT.out.1; have := HLA.out; omega) V5 (EAt.of_ol (Y := Old V5) HA.out (fun b e => by have := (HA.out.lt b (by rw [e]; rfl)).2; exact this)) HWC.out (HPQ.out.below HBQ.out)
     (with_reducible refine hof.mono ?_)
     clear hof
     rintro r V7 ⟨B2, rfl, hB, hI, hb⟩
     have HBQ := uB HBQ hb
     try have HA := uA HA hb
     try have HR := u4 HR hb
     try have H4 := u4 H4 hb
     try have H8 := u8 H8 hb
     try have HC := uC HC hb
     have HC := Lib.hid (And.intro hB hI)
     clear hB hI hb
     refine kk hK (HSS.out _ HBQ.out) (fun hHeld => ?_)
     clear hK K
     refine rd [8] ?_
     refine rc (fun K hK => ?_) ?_
     ·
      go_simp
      obtain ⟨V8, b8, q1, q2, hb, h8⟩ := lay8 HBQ
      rw [q1, q2]
      have HBQ := uB HBQ hb
      try have HA := uA HA hb
      try have HR := u4 HR hb
      try have H4 := u4 H4 hb
      try have H8 := u8 H8 hb
      try have HC := uC HC hb
      have H8 := h8
      clear q1 q2 hb h8
      refine kk hK (HSS.out _ HBQ.out) (fun hHeld => ?_)
      clear hK K
      have HX := (And.intro HBQ (And.intro HA (And.intro HR (And.intro H4 (And.intro HC (And.intro H8 hHeld))))))
      exact N0 V8 g0 v49 b4 g5 c5 B2 b8 HX
     exact AllReadyH.nil
    refine rc (fun K hK => ?_) ?_
    ·
     go_simp
     obtain ⟨V8, b8, q1, q2, hb, h8⟩ := lay8 HBQ
     rw [q1, q2]
     have HBQ := uB HBQ hb
     try have HA := uA HA hb
     try have HR := u4 HR hb
     try have H4 := u4 H4 hb
     try have H8 := u8 H8 hb
     try have HC := uC HC hb
     have H8 := h8
     clear q1 q2 hb h8
     refine kk hK (HSS.out _ HBQ.out) (fun hHeld => ?_)
     clear hK K
     have HX := (And.intro HBQ (And.intro HA (And.intro HR (And.intro H4 (And.intro H8 hHeld)))))
     exact N1 V8 g0 v49 b4 g5 c5 b8 HX
    exact AllReadyH.nil
   refine rc (fun K hK => ?_) ?_
   ·
    go_simp
    obtain ⟨V8, b8, q1, q2, hb, h8⟩ := lay8 HBQ
    rw [q1, q2]
    have HBQ := uB HBQ hb
    try have HA := uA HA hb
    try have HR := u4 HR hb
    try have H4 := u4 H4 hb
    try have H8 := u8 H8 hb
    try have HC := uC HC hb
    have H8 := h8
    clear q1 q2 hb h8
    refine kk hK (HSS.out _ HBQ.out) (fun hHeld => ?_)
    clear hK K
    exact N2 V8 g0 v49 b4 b8 ⟨HBQ, HA, HR, H4, H8, hHeld⟩
   exact AllReadyH.nil
  ·
   rintro XN2 g0 v49 b4 b8 ⟨HBQ, HA, HR, H4, H8, hHeld⟩
   refine rd [5] ?_
   refine rc (fun K hK => ?_) ?_
   ·
    refine step_app (by rfl) (.tmp 49) (.tmp 51) 25 (by rfl) elemEnt v49 ([] ++ L) a (by simpa using HLA.out) (by rfl) HA.out ec b4 ec.cells.toArray (by rfl) H4.out (by simp) rfl (one_cells' _) (by have := HLT.out.1; unfold maxLen; simp; omega) (by have := HLT.out.1; simp; omega) HBQ.out.size ?_
    intro g5 c5 V5 h5 hg _ _ hb
    have HBQ := Lib.hid (HBQ.out.trans hb)
    try have H8 := g8 hg HA H8
    have HA := Lib.hid h5
    have H4 := Lib.hid trivial
    clear h5 hg hb
    refine kk hK (HSS.out _ HBQ.out) (fun hHeld => ?_)
    clear hK K
    exact N1 V5 g0 v49 b4 g5 c5 b8 ⟨HBQ, HA, HR, H4, H8, hHeld⟩
   exact AllReadyH.nil
  ·
   rintro XN1 g0 v49 b4 g5 c5 b8 ⟨HBQ, HA, HR, H4, H8, hHeld⟩
   refine rd [7] ?_
   refine rc (fun K hK => ?_) ?_
   ·
    go_simp
    have hof := knownOf_walk (([] ++ L) ++ [ec]) day (some ⟨g5, 0, none⟩) (a + 1) c5 (by have := HLA.out; simp; omega) (by have := HLT.out.1; have := HLA.out; omega) XN1 (EAt.of_ol (Y := Old XN1) HA.out (fun b e => by have := (HA.out.lt b (by rw [e]; rfl)).2; exact this)) HWC.out (HPQ.out.below HBQ.out)
    (with_reducible refine hof.mono ?_)
    clear hof
    rintro r V7 ⟨B2, rfl, hB, hI, hb⟩
    have HBQ := uB HBQ hb
    try have HA := uA HA hb
    try have HR := u4 HR hb
    try have H4 := u4 H4 hb
    try have H8 := u8 H8 hb
    try have HC := uC HC hb
    have HC := Lib.hid (And.intro hB hI)
    clear hB hI hb
    refine kk hK (HSS.out _ HBQ.out) (fun hHeld => ?_)
    clear hK K
    exact N0 V7 g0 v49 b4 g5 c5 B2 b8 ⟨HBQ, HA, HR, H4, HC, H8, hHeld⟩
   exact AllReadyH.nil
  ·
   rintro XN0 g0 v49 b4 g5 c5 B2 b8 ⟨HBQ, HA, HR, H4, HC, H8, hHeld⟩
   refine rd [9] ?_
   refine rc (fun K hK => ?_) ?_
   ·
    refine step_store_row (by rfl) 36 (.tmp 15) (.tmp 54) (by rfl) (by rfl) b8 B2.cells.toArray _ (by rfl) (by rfl) (ibase9) H8.out.1 (by rfl) (by simp [Bas.cells, Value.oneCell']) ?_
    intro V9 h9 ht
    have HBZ := Lib.hid (ht.below HBQ.out (Nat.le_refl _) fun k hk => by have := H8.out.2; omega)
    have H15 := Lib.hid h9
    have HC := Lib.hid (And.intro (bas_set HC.out.1 H8.out.1 ht) HC.out.2)
    clear h9 ht
    refine kk hK (HSS.out _ HBZ.out) (fun hHeld => ?_)
    clear hK K
    refine dn ?_
    clear hHeld
    have HE13 := Lib.hid (below_at2 HBZ.out HE10.out)
    have HK14 := Lib.hid (below_at2 HBZ.out H14.out)
    have HR14 := Lib.hid (range_of (cs := B1.cells) HK14.out)
    have HR15 := Lib.hid (range_of (cs := B2.cells) H15.out)
    have HK15 := Lib.hid H15.out
    have HBY := Lib.hid (HBW.out.trans (HBZ.out.mono HBW.out.size))
    have HYA := Lib.hid (HB1.out.below HBZ.out)
    have HYB := Lib.hid HC.out.1
    have HI2 : Hid (∀ j, j < 9 → B2.ls j = knownL (L ++ [ec]) day j) := Lib.hid fun j hj => by have := HC.out.2 j hj; rw [List.nil_append] at this; exact this
    have HPZ := Lib.hid (HP.out.below HBY.out)
    have x3 : V9.cell? ⟨b13, 3, none⟩ = some (.int .i64 d) := by rw [← HDAY.out.1]; exact cells_i HE13.out (i := 3) rfl
    clear HSS HOL HPQ H14 HB1 HBW HBQ HBZ H15 HC H8 HA HR H4 HE10
    by_cases hlt : day < d
    · have d1 : decide (day < d) = true := by simp [hlt]
      have hs : sameB B1 B2 = true := (sameB_iff B1 B2).2 fun j hj => by rw [HI1.out j hj, HI2.out j hj]; exact corr_early (l := L) (e := ec) (by rw [HDAY.out.1]; exact hlt) j
      have CS := Lib.hid (same_walk B1 B2 V9 HYA.out HYB.out)
      rw [hs] at CS
      clear hs hlt
      go_wp2_with (first
        | ((with_reducible refine wpList_load_midw ?hw 36 (.tmp 14) rfl b14 0 ?hx B1.cells _ HR14.out Tryz.underlying36 rfl (IB B1).out ?_); (case hw => rfl); (case hx => rfl))
        | ((with_reducible refine wpList_load_midw ?hw 36 (.tmp 15) rfl b8 0 ?hx B2.cells _ HR15.out Tryz.underlying36 rfl (IB B2).out ?_); (case hw => rfl); (case hx => rfl))
        | (go_at_call 14; (with_reducible refine CS.out.mono ?_); rintro e2 wE ⟨rfl, hb⟩; have HBE := Lib.hid hb; clear hb CS)
        | fail)
      go_ret
      exact ⟨rfl, HBY.out.trans (HBE.out.mono HBY.out.size)⟩
    have d1 : decide (day < d) = false := by simp; omega
    have HOK : Hid (okD day ec = true) := Lib.hid (okD_iff.2 ⟨HVAL.out, by rw [HDAY.out.1]; omega⟩)
    have LS1 := Lib.hid (lists19_walk B1 V9)
    clear hlt
    go_wp2_with (first
      | ((with_reducible refine wpList_load_midw ?hw 36 (.tmp 14) rfl b14 0 ?hx B1.cells _ HR14.out Tryz.underlying36 rfl (IB B1).out ?_); (case hw => rfl); (case hx => rfl))
      | (go_at_call 16; (with_reducible refine LS1.out.mono ?_); rintro e2 wA ⟨bL1, rfl, hb, -, h1⟩
         have HBA := Lib.hid hb
         have HL1 := Lib.hid h1
         have HR15 := Lib.hid (range_of (cs := B2.cells) (below_at2 hb HK15.out))
         have LS2 := Lib.hid (lists19_walk B2 wA)
         clear hb h1 LS1)
      | ((with_reducible refine wpList_load_midw ?hw 36 (.tmp 15) rfl b8 0 ?hx B2.cells _ HR15.out Tryz.underlying36 rfl (IB B2).out ?_); (case hw => rfl); (case hx => rfl))
      | (go_at_call 16; (with_reducible refine LS2.out.mono ?_); rintro e2 W0 ⟨bL2, rfl, hb, -, h1⟩
         have HBB := Lib.hid (HBA.out.trans (hb.mono HBA.out.size))
         have HL2 := Lib.hid h1
         have HL1 := Lib.hid (below_at2 hb HL1.out)
         clear hb h1 LS2 HBA)
      | fail)
    have HX : Hid (∀ W, Below W0.heap.size W0 W → ∀ i, i < 9 → W.cell? ⟨bL1, i, none⟩ = some (.slice (B1.ad i) (B1.ls i).length (B1.cp i)) ∧ W.cell? ⟨bL2, i, none⟩ = some (.slice (B2.ad i) (B2.ls i).length (B2.cp i)) ∧ World.rangeAt W b13 0 ec.cells) := Lib.hid fun W h i hi => ⟨cells_i (below_at2 h HL1.out) (B1.cell_at hi), cells_i (below_at2 h HL2.out) (B2.cell_at hi), range_of (below_at2 h (below_at2 HBB.out HE13.out))⟩
    have HY1 := Lib.hid (HYA.out.below HBB.out)
    have HY2 := Lib.hid (HYB.out.below HBB.out)
    have HPW := Lib.hid (HPZ.out.below HBB.out)
    have HBW0 := Lib.hid (HBY.out.trans (HBB.out.mono HBY.out.size))
    have HLN : Hid (∀ j, (knownL (L ++ [ec]) day j).length ≤ 31 ∧ (knownL L day j).length ≤ 31) := Lib.hid fun j => by have h1 := known_len (L ++ [ec]) day j; have h2 := known_len L day j; have := HLT.out.1; rw [List.length_append, List.length_singleton] at h1; omega
    have HTX : Hid (∀ x ∈ L ++ [ec], x.Small) := Lib.hid fun x hx => by have := HWC.out x (by rw [List.nil_append]; exact hx); exact this.small
    have HEM : Hid (ec ∈ L ++ [ec]) := Lib.hid (by simp)
    obtain ⟨se, hse⟩ : ∃ s : ByteArray, (⟨(keyE ec).toArray⟩ : ByteArray) = s := ⟨_, rfl⟩
    have HSE := Lib.hid hse
    have HKK : Hid (∀ x, x ∈ L ++ [ec] → ∀ W, Below W0.heap.size W0 W → Calls Tryz.prog 17 #[x.val] W fun e W' => e = .returned (.string ⟨(keyE x).toArray⟩) ∧ Below W.heap.size W W') := Lib.hid fun x hx W h => key_walk _ (HTX.out _ hx) W (HPW.out.below h)
    have HKE := Lib.hid (HKK.out ec HEM.out)
    rw [hse] at HKE
    have HB0 : Hid (Below W0.heap.size W0 W0) := Lib.hid (Below.refl _ _)
    clear hse HE13 HK14 HK15 HR14 HR15 HBY HYA HYB HPZ HL1 HL2 HBB x3 d1
    obtain ⟨cf, hcf⟩ : ∃ cf : Nat → Nat, (fun i => cntE (knownL (L ++ [ec]) day) ec i) = cf := ⟨_, rfl⟩
    have HCF : Hid (∀ i, cf i = cntE (knownL (L ++ [ec]) day) ec i) := Lib.hid fun i => by rw [← hcf]
    have HC0 : Hid (cf 0 = 0) := Lib.hid (by rw [HCF.out]; rfl)
    clear hcf
    go_loopw [18, 19, 20, 21] (fun tv xv _ _ wr => ∃ i : Nat, tv = .int .i64 ((cf i : Nat) : Int) ∧ xv = .int .i64 (i : Int) ∧ i ≤ 9 ∧ Hid (Below W0.heap.size W0 wr)) (fun _ x _ _ _ => 9 - (intOf x).toNat)
    case atStart => exact ⟨0, by rw [HC0.out]; rfl, rfl, by omega, HB0⟩
    case round =>
      clear HB0
      obtain ⟨i, rfl, rfl, hi, HB⟩ := hrel
      by_cases h9 : i < 9
      · have d2 : decide ((i : Int) < 9) = true := by simp; omega
        have z3 : (0 : Int) ≤ (i : Int) := by omega
        have z4 : (i : Int) < 9 := by omega
        have wk1 : IntKind.i64.wrap ((i : Int) + 1) = ((i + 1 : Nat) : Int) := by rw [IntKind.wrap_i64]; omega
        obtain ⟨ma, hma⟩ : ∃ l, B2.ls i = l := ⟨_, rfl⟩
        obtain ⟨mb, hmb⟩ : ∃ l, B1.ls i = l := ⟨_, rfl⟩
        have HMA := Lib.hid (hma.symm.trans (HI2.out i h9))
        have HMB := Lib.hid (hmb.symm.trans (HI1.out i h9))
        obtain ⟨na, hna⟩ : ∃ n, ma.length = n := ⟨_, rfl⟩
        obtain ⟨nb, hnb⟩ : ∃ n, mb.length = n := ⟨_, rfl⟩
        obtain ⟨Aa, hAa⟩ : ∃ A, B2.ad i = A := ⟨_, rfl⟩
        obtain ⟨Ab, hAb⟩ : ∃ A, B1.ad i = A := ⟨_, rfl⟩
        obtain ⟨ca, hca⟩ : ∃ A, B2.cp i = A := ⟨_, rfl⟩
        obtain ⟨cb, hcb⟩ : ∃ A, B1.cp i = A := ⟨_, rfl⟩
        have HXI : Hid (∀ W, Below W0.heap.size W0 W → W.cell? ⟨bL2, i, none⟩ = some (.slice Aa na ca) ∧ W.cell? ⟨bL1, i, none⟩ = some (.slice Ab nb cb) ∧ World.rangeAt W b13 0 ec.cells) := Lib.hid fun W h => by
          have := HX.out W h i h9
          rw [hma, hmb, hna, hnb, hAa, hAb, hca, hcb] at this
          exact ⟨this.2.1, this.1, this.2.2⟩
        have HEA : Hid (EAt W0 (Old W0) Aa ma) := Lib.hid (by have := HY2.out.at_ i h9; rw [hAa, hma] at this; exact this)
        have HEB : Hid (EAt W0 (Old W0) Ab mb) := Lib.hid (by have := HY1.out.at_ i h9; rw [hAb, hmb] at this; exact this)
        have HNA := Lib.hid hna
        have HNB := Lib.hid hnb
        have HN31 : Hid (na ≤ 31 ∧ nb ≤ 31) := Lib.hid (by have := HLN.out i; rw [← hna, ← hnb, HMA.out, HMB.out]; exact this)
        have HI9 := Lib.hid h9
        obtain ⟨t0, ht0⟩ : ∃ t, cf i = t := ⟨_, rfl⟩
        have HT0 : Hid (cf (i + 1) = t0 + ma.countP (fun x => eqE x ec)) := Lib.hid (by rw [← ht0, HCF.out, HCF.out, HMA.out]; rfl)
        have HT9 : Hid (t0 ≤ 279) := Lib.hid (by rw [← ht0, HCF.out]; have := cntE_le (knownL (L ++ [ec]) day) ec 31 (fun j => (HLN.out j).1) i; omega)
        rw [ht0]
        clear hma hmb hna hnb hAa hAb hca hcb h9 ht0
        go_wp2_with fail
        obtain ⟨wo, rfl⟩ : ∃ wo : World, wo = wr := ⟨_, rfl⟩
        go_loopw [18, 20] (fun tv kv wr => ∃ k : Nat, tv = .int .i64 ((t0 + (ma.take k).countP (fun x => eqE x ec) : Nat) : Int) ∧ kv = .int .i64 (k : Int) ∧ k ≤ na ∧ Hid (Below W0.heap.size W0 wr)) (fun _ x _ => na - (intOf x).toNat)
        case atStart => exact ⟨0, rfl, rfl, Nat.zero_le _, HB⟩
        case round =>
          clear HB
          obtain ⟨k, rfl, rfl, hk, HBV0⟩ := hrel
          have xa : wr.cell? ⟨bL2, i, none⟩ = some (.slice Aa na ca) := (HXI.out wr HBV0.out).1
          by_cases hkn : k < na
          · obtain ⟨x, hx⟩ : ∃ e, ma[k]? = some e := ⟨_, List.getElem?_eq_getElem (by rw [HNA.out]; exact hkn)⟩
            obtain ⟨bx, hA, hYx, hrg⟩ := HEA.out k x hx
            subst hA
            have d3 : decide (k < na) = true := by simp [hkn]
            have z5 : (0 : Int) ≤ (k : Int) := by omega
            have z6 : (k : Int) < (na : Int) := by omega
            have wk2 : IntKind.i64.wrap ((k : Int) + 1) = ((k + 1 : Nat) : Int) := by have := HN31.out; rw [IntKind.wrap_i64]; omega
            obtain ⟨tc, htc⟩ : ∃ t, t0 + (ma.take k).countP (fun x => eqE x ec) = t := ⟨_, rfl⟩
            have htl : tc ≤ 400 := by
              have h1 : (ma.take k).countP (fun x => eqE x ec) ≤ (ma.take k).length := List.countP_le_length
              rw [List.length_take] at h1
              have := HT9.out; have := HN31.out; omega
            have wt : IntKind.i64.wrap ((tc : Int) + 1) = ((tc + 1 : Nat) : Int) := by rw [IntKind.wrap_i64]; omega
            have HSS2 : Hid (∀ W, Below W0.heap.size W0 W → W.cell? ⟨bL2, i, none⟩ = some (.slice (some ⟨bx, 0, none⟩) na ca) ∧ W.cell? ⟨bL1, i, none⟩ = some (.slice Ab nb cb) ∧ World.rangeAt W b13 0 ec.cells ∧ World.rangeAt W bx (k * 18) x.cells) := Lib.hid fun W h => ⟨(HXI.out W h).1, (HXI.out W h).2.1, (HXI.out W h).2.2, fun j v hv => (h.cell (p := ⟨bx, k * 18 + j, none⟩) hYx).trans (hrg j v hv)⟩
            have HXM : Hid (x ∈ ma) := Lib.hid (List.mem_of_getElem? hx)
            have HKN := Lib.hid hkn
            obtain ⟨qe, hqe⟩ : ∃ q, eqE x ec = q := ⟨_, rfl⟩
            have HQE := Lib.hid hqe
            have HEQ : Hid (∀ W, (binOp .eql 33 (.agg x.cells.toArray) (.agg ec.cells.toArray)).run Tryz.prog W = .ok (.bool qe) W) := Lib.hid (fun W => by rw [← hqe]; exact eql_ents x _ W)
            have HTC : Hid (t0 + (ma.take (k + 1)).countP (fun x => eqE x ec) = if qe = true then tc + 1 else tc) := Lib.hid (by
              rw [List.take_add_one, hx, Option.toList_some, List.countP_append, ← Nat.add_assoc, htc, List.countP_cons, List.countP_nil, hqe]
              cases qe <;> simp)
            have HBV : Hid (Below W0.heap.size W0 wr.drew) := Lib.hid (Below.drew HBV0.out)
            rw [htc]
            clear hx hYx hrg hkn htc htl hqe
            go_wp2_with fail
            refine wp_region_noPanic ?_
            refine wp_region_held_drew (S := fun U => U.cell? ⟨bL2, i, none⟩ = some (.slice (some ⟨bx, 0, none⟩) na ca) ∧ U.cell? ⟨bL1, i, none⟩ = some (.slice Ab nb cb) ∧ World.rangeAt U b13 0 ec.cells ∧ World.rangeAt U bx (k * 18) x.cells) (by kernel_rfl) (HSS2.out wr.drew HBV.out) (fun hHeld => ?_)
            obtain ⟨U0, hU0⟩ : ∃ U, wr.drew = U := ⟨_, rfl⟩
            rw [hU0] at HBV hHeld ⊢
            clear hU0
            refine tk 0 ?_
            refine tk 1 ?_
            refine tk 2 ?_
            refine tk 3 ?_
            refine tk 4 ?_
            refine tk 5 ?_
            refine tl 6 rfl (yieldsIf_load_mid (by rfl) 33 (.tmp 89) rfl bx (k * 18) (by rfl) x.cells _ (fun w hw => hw.2.2.2) Tryz.underlying33 rfl (IE x).out) ?_
            refine tl 7 rfl (yieldsIf_load_mid (by rfl) 33 (.tmp 13) rfl b13 0 (by rfl) ec.cells _ (fun w hw => hw.2.2.1) Tryz.underlying33 rfl (IE _).out) ?_
            refine tl 8 rfl (yields_eql (by rfl) 33 33 (.tmp 90) (.tmp 91) (by rfl) (.agg x.cells.toArray) (.agg ec.cells.toArray) (by rfl) (by rfl) qe (fun w => guard_eql _ _ _ _ w) HEQ.out) ?_
            refine dn ?_
            clear hHeld
            cases qe
            · have hne : x ≠ ec := fun h => by have := HQE.out; rw [(eqE_iff x _).2 h] at this; cases this
              have hca := corr_after (j := i) HOK.out HVER.out (by rw [← HMA.out]; exact HXM.out) hne
              have hxl := (known_mem.1 hca.2).1
              have HXL : Hid (x ∈ L ++ [ec]) := Lib.hid (by have := (effD_ok _ _ _ hxl).1; simp [this])
              obtain ⟨sx, hsx⟩ : ∃ s : ByteArray, (⟨(keyE x).toArray⟩ : ByteArray) = s := ⟨_, rfl⟩
              have HKX := Lib.hid (HKK.out x HXL.out)
              rw [hsx] at HKX
              have qs : (sx.toList == se.toList) = false := by
                rw [← hsx, ← HSE.out, toList_mk, toList_mk]
                simpa using hca.1
              have HIN : Hid (∀ W, Below W0.heap.size W0 W → Calls Tryz.prog 18 #[.slice Ab nb cb, x.val] W (ValP W true)) := Lib.hid fun W h => by
                have := in_walk mb x Ab nb cb HNB.out (by have := HN31.out; omega) W (HEB.out.below h)
                rw [decide_eq_true (by rw [HMB.out]; exact hca.2)] at this
                exact this
              clear hne hca hxl hsx
              go_wp2_with fail
              have HBV := Lib.hid (Below.drew HBV.out)
              refine wp_region_noPanic ?_
              refine wp_region_held_drew (S := fun U => U.cell? ⟨bL2, i, none⟩ = some (.slice (some ⟨bx, 0, none⟩) na ca) ∧ U.cell? ⟨bL1, i, none⟩ = some (.slice Ab nb cb) ∧ World.rangeAt U b13 0 ec.cells ∧ World.rangeAt U bx (k * 18) x.cells) (by kernel_rfl) (HSS2.out U0.drew HBV.out) (fun hHeld => ?_)
              obtain ⟨U1, hU1⟩ : ∃ U, U0.drew = U := ⟨_, rfl⟩
              rw [hU1] at HBV hHeld ⊢
              clear hU1
              refine tk 0 ?_
              refine tk 1 ?_
              refine tk 2 ?_
              refine tk 3 ?_
              refine tk 4 ?_
              refine tk 5 ?_
              refine tl 6 rfl (yieldsIf_load_mid (by rfl) 33 (.tmp 100) rfl bx (k * 18) (by rfl) x.cells _ (fun w hw => hw.2.2.2) Tryz.underlying33 rfl (IE x).out) ?_
              refine tl 8 rfl (yieldsIf_load_mid (by rfl) 33 (.tmp 13) rfl b13 0 (by rfl) ec.cells _ (fun w hw => hw.2.2.1) Tryz.underlying33 rfl (IE _).out) ?_
              refine rd [7] ?_
              refine rc (fun K hK => ?_) ?_
              ·
               go_simp
               (with_reducible refine (HKX.out _ HBV.out).mono ?_)
               rintro r Va ⟨rfl, hb⟩
               have HBV := Lib.hid (HBV.out.trans (hb.mono HBV.out.size))
               clear hb
               refine kk hK (HSS2.out _ HBV.out) (fun hHeld => ?_)
               clear hK K
               refine rd [9] ?_
               refine rc (fun K hK => ?_) ?_
               ·
                go_simp
                (with_reducible refine (HKE.out _ HBV.out).mono ?_)
                rintro r Vb ⟨rfl, hb⟩
                have HBV := Lib.hid (HBV.out.trans (hb.mono HBV.out.size))
                clear hb
                refine kk hK (HSS2.out _ HBV.out) (fun hHeld => ?_)
                clear hK K
                refine tk 10 ?_
                refine tk 11 ?_
                refine tk 12 ?_
                refine tk 13 ?_
                refine tk 14 ?_
                refine tk 15 ?_
                refine tk 16 ?_
                refine tk 17 ?_
                refine tk 18 ?_
                refine tk 19 ?_
                refine tk 20 ?_
                refine tk 21 ?_
                refine tl 22 rfl (yieldsIf_load_mid (by rfl) 33 (.tmp 116) rfl bx (k * 18) (by rfl) x.cells _ (fun w hw => hw.2.2.2) Tryz.underlying33 rfl (IE x).out) ?_
                refine rd [23] ?_
                refine rc (fun K hK => ?_) ?_
                ·
                 go_simp
                 (with_reducible refine (HIN.out _ HBV.out).mono ?_)
                 rintro r Vc ⟨rfl, hb⟩
                 have HBV := Lib.hid (HBV.out.trans (hb.mono HBV.out.size))
                 clear hb
                 refine kk hK (HSS2.out _ HBV.out) (fun hHeld => ?_)
                 clear hK K
                 refine tk 24 ?_
                 refine tk 25 ?_
                 refine dn ?_
                 clear hHeld
                 go_wp2_with fail
                 go_roundw
                 case rel => exact ⟨k + 1, by rw [HTC.out]; rfl, rfl, HKN.out, HBV⟩
                 case measure => simp [intOf]; have := HKN.out; omega
                exact AllReadyH.nil
               exact AllReadyH.nil
              exact AllReadyH.nil
            · go_wp2_with fail
              go_roundw
              case rel => exact ⟨k + 1, by rw [HTC.out]; rfl, rfl, HKN.out, HBV⟩
              case measure => simp [intOf]; have := HKN.out; omega
          · have d3 : decide (k < na) = false := by simp; omega
            obtain rfl : na = k := by omega
            have HTE : Hid (t0 + (ma.take na).countP (fun x => eqE x ec) = cf (i + 1)) := Lib.hid (by rw [HT0.out, List.take_of_length_le (by rw [HNA.out]; exact Nat.le_refl _)])
            rw [HTE.out]
            go_wp2_with fail
            obtain ⟨wp, rfl⟩ : ∃ wp : World, wp = wr := ⟨_, rfl⟩
            clear xa d3
            go_loopw [21] (fun kv wr => ∃ k : Nat, kv = .int .i64 (k : Int) ∧ k ≤ nb ∧ Hid (Below W0.heap.size W0 wr)) (fun x _ => nb - (intOf x).toNat)
            case atStart => exact ⟨0, rfl, Nat.zero_le _, HBV0⟩
            case round =>
              clear HBV0
              obtain ⟨k, rfl, hk, HBV0⟩ := hrel
              have xb : wr.cell? ⟨bL1, i, none⟩ = some (.slice Ab nb cb) := (HXI.out wr HBV0.out).2.1
              by_cases hkn : k < nb
              · obtain ⟨x, hx⟩ : ∃ e, mb[k]? = some e := ⟨_, List.getElem?_eq_getElem (by rw [HNB.out]; exact hkn)⟩
                obtain ⟨bx, hA, hYx, hrg⟩ := HEB.out k x hx
                subst hA
                have d3 : decide (k < nb) = true := by simp [hkn]
                have z5 : (0 : Int) ≤ (k : Int) := by omega
                have z6 : (k : Int) < (nb : Int) := by omega
                have wk2 : IntKind.i64.wrap ((k : Int) + 1) = ((k + 1 : Nat) : Int) := by have := HN31.out; rw [IntKind.wrap_i64]; omega
                have HSS2 : Hid (∀ W, Below W0.heap.size W0 W → W.cell? ⟨bL2, i, none⟩ = some (.slice Aa na ca) ∧ W.cell? ⟨bL1, i, none⟩ = some (.slice (some ⟨bx, 0, none⟩) nb cb) ∧ World.rangeAt W b13 0 ec.cells ∧ World.rangeAt W bx (k * 18) x.cells) := Lib.hid fun W h => ⟨(HXI.out W h).1, (HXI.out W h).2.1, (HXI.out W h).2.2, fun j v hv => (h.cell (p := ⟨bx, k * 18 + j, none⟩) hYx).trans (hrg j v hv)⟩
                have hxm : x ∈ knownL L day i := by rw [← HMB.out]; exact List.mem_of_getElem? hx
                have hxl := (effD_ok _ _ _ (known_mem.1 hxm).1).1
                have HXL : Hid (x ∈ L ++ [ec]) := Lib.hid (by simp [hxl])
                have HKN := Lib.hid hkn
                obtain ⟨sx, hsx⟩ : ∃ s : ByteArray, (⟨(keyE x).toArray⟩ : ByteArray) = s := ⟨_, rfl⟩
                have HKX := Lib.hid (HKK.out x HXL.out)
                rw [hsx] at HKX
                have HBV : Hid (Below W0.heap.size W0 wr.drew) := Lib.hid (Below.drew HBV0.out)
                have hways : ((sx.toList == se.toList) = true) ∨ ((sx.toList == se.toList) = false ∧ Hid (∀ W, Below W0.heap.size W0 W → Calls Tryz.prog 18 #[.slice Aa na ca, x.val] W (ValP W true))) := by
                  rw [← hsx, ← HSE.out, toList_mk, toList_mk]
                  by_cases hq : keyE x = keyE ec
                  · exact .inl (by simp [hq])
                  · refine .inr ⟨by simp [hq], Lib.hid fun W h => ?_⟩
                    have := in_walk ma x Aa na ca HNA.out (by have := HN31.out; omega) W (HEA.out.below h)
                    rw [decide_eq_true (by rw [HMA.out]; exact corr_before HOK.out HVER.out hxm hq)] at this
                    exact this
                clear hx hYx hrg hkn hxm hxl hsx
                rcases hways with qs | ⟨qs, HIN⟩
                · go_wp2_with fail
                  refine wp_region_noPanic ?_
                  refine wp_region_held_drew (S := fun U => U.cell? ⟨bL2, i, none⟩ = some (.slice Aa na ca) ∧ U.cell? ⟨bL1, i, none⟩ = some (.slice (some ⟨bx, 0, none⟩) nb cb) ∧ World.rangeAt U b13 0 ec.cells ∧ World.rangeAt U bx (k * 18) x.cells) (by kernel_rfl) (HSS2.out wr.drew HBV.out) (fun hHeld => ?_)
                  obtain ⟨U0, hU0⟩ : ∃ U, wr.drew = U := ⟨_, rfl⟩
                  rw [hU0] at HBV hHeld ⊢
                  clear hU0
                  refine tk 0 ?_
                  refine tk 1 ?_
                  refine tk 2 ?_
                  refine tk 3 ?_
                  refine tk 4 ?_
                  refine tk 5 ?_
                  refine tl 6 rfl (yieldsIf_load_mid (by rfl) 33 (.tmp 135) rfl bx (k * 18) (by rfl) x.cells _ (fun w hw => hw.2.2.2) Tryz.underlying33 rfl (IE x).out) ?_
                  refine tl 8 rfl (yieldsIf_load_mid (by rfl) 33 (.tmp 13) rfl b13 0 (by rfl) ec.cells _ (fun w hw => hw.2.2.1) Tryz.underlying33 rfl (IE _).out) ?_
                  refine rd [7] ?_
                  refine rc (fun K hK => ?_) ?_
                  ·
                   go_simp
                   (with_reducible refine (HKX.out _ HBV.out).mono ?_)
                   rintro r Va ⟨rfl, hb⟩
                   have HBV := Lib.hid (HBV.out.trans (hb.mono HBV.out.size))
                   clear hb
                   refine kk hK (HSS2.out _ HBV.out) (fun hHeld => ?_)
                   clear hK K
                   refine rd [9] ?_
                   refine rc (fun K hK => ?_) ?_
                   ·
                    go_simp
                    (with_reducible refine (HKE.out _ HBV.out).mono ?_)
                    rintro r Vb ⟨rfl, hb⟩
                    have HBV := Lib.hid (HBV.out.trans (hb.mono HBV.out.size))
                    clear hb
                    refine kk hK (HSS2.out _ HBV.out) (fun hHeld => ?_)
                    clear hK K
                    refine tk 10 ?_
                    refine tk 11 ?_
                    refine tn 12 ?_
                    refine tn 13 ?_
                    refine tn 14 ?_
                    refine tn 15 ?_
                    refine tn 16 ?_
                    refine tn 17 ?_
                    refine tn 18 ?_
                    refine tn 19 ?_
                    refine tn 20 ?_
                    refine tn 21 ?_
                    refine tn 22 ?_
                    refine tn 23 ?_
                    refine tn 24 ?_
                    refine tk 25 ?_
                    refine dn ?_
                    clear hHeld
                    go_wp2_with fail
                    go_round
                    case rel => exact ⟨k + 1, rfl, HKN.out, HBV⟩
                    case measure => simp [intOf]; have := HKN.out; omega
                   exact AllReadyH.nil
                  exact AllReadyH.nil
                · go_wp2_with fail
                  refine wp_region_noPanic ?_
                  refine wp_region_held_drew (S := fun U => U.cell? ⟨bL2, i, none⟩ = some (.slice Aa na ca) ∧ U.cell? ⟨bL1, i, none⟩ = some (.slice (some ⟨bx, 0, none⟩) nb cb) ∧ World.rangeAt U b13 0 ec.cells ∧ World.rangeAt U bx (k * 18) x.cells) (by kernel_rfl) (HSS2.out wr.drew HBV.out) (fun hHeld => ?_)
                  obtain ⟨U0, hU0⟩ : ∃ U, wr.drew = U := ⟨_, rfl⟩
                  rw [hU0] at HBV hHeld ⊢
                  clear hU0
                  refine tk 0 ?_
                  refine tk 1 ?_
                  refine tk 2 ?_
                  refine tk 3 ?_
                  refine tk 4 ?_
                  refine tk 5 ?_
                  refine tl 6 rfl (yieldsIf_load_mid (by rfl) 33 (.tmp 135) rfl bx (k * 18) (by rfl) x.cells _ (fun w hw => hw.2.2.2) Tryz.underlying33 rfl (IE x).out) ?_
                  refine tl 8 rfl (yieldsIf_load_mid (by rfl) 33 (.tmp 13) rfl b13 0 (by rfl) ec.cells _ (fun w hw => hw.2.2.1) Tryz.underlying33 rfl (IE _).out) ?_
                  refine rd [7] ?_
                  refine rc (fun K hK => ?_) ?_
                  ·
                   go_simp
                   (with_reducible refine (HKX.out _ HBV.out).mono ?_)
                   rintro r Va ⟨rfl, hb⟩
                   have HBV := Lib.hid (HBV.out.trans (hb.mono HBV.out.size))
                   clear hb
                   refine kk hK (HSS2.out _ HBV.out) (fun hHeld => ?_)
                   clear hK K
                   refine rd [9] ?_
                   refine rc (fun K hK => ?_) ?_
                   ·
                    go_simp
                    (with_reducible refine (HKE.out _ HBV.out).mono ?_)
                    rintro r Vb ⟨rfl, hb⟩
                    have HBV := Lib.hid (HBV.out.trans (hb.mono HBV.out.size))
                    clear hb
                    refine kk hK (HSS2.out _ HBV.out) (fun hHeld => ?_)
                    clear hK K
                    refine tk 10 ?_
                    refine tk 11 ?_
                    refine tk 12 ?_
                    refine tk 13 ?_
                    refine tk 14 ?_
                    refine tk 15 ?_
                    refine tk 16 ?_
                    refine tk 17 ?_
                    refine tk 18 ?_
                    refine tk 19 ?_
                    refine tk 20 ?_
                    refine tk 21 ?_
                    refine tl 22 rfl (yieldsIf_load_mid (by rfl) 33 (.tmp 151) rfl bx (k * 18) (by rfl) x.cells _ (fun w hw => hw.2.2.2) Tryz.underlying33 rfl (IE x).out) ?_
                    refine rd [23] ?_
                    refine rc (fun K hK => ?_) ?_
                    ·
                     go_simp
                     (with_reducible refine (HIN.out _ HBV.out).mono ?_)
                     rintro r Vc ⟨rfl, hb⟩
                     have HBV := Lib.hid (HBV.out.trans (hb.mono HBV.out.size))
                     clear hb
                     refine kk hK (HSS2.out _ HBV.out) (fun hHeld => ?_)
                     clear hK K
                     refine tk 24 ?_
                     refine tk 25 ?_
                     refine dn ?_
                     clear hHeld
                     go_wp2_with fail
                     go_round
                     case rel => exact ⟨k + 1, rfl, HKN.out, HBV⟩
                     case measure => simp [intOf]; have := HKN.out; omega
                    exact AllReadyH.nil
                   exact AllReadyH.nil
                  exact AllReadyH.nil
              · have d3 : decide (k < nb) = false := by simp; omega
                go_wp2_with fail
                go_roundw
                case rel => exact ⟨i + 1, rfl, rfl, HI9.out, HBV0⟩
                case measure => simp [intOf]; have := HI9.out; omega
      · have d2 : decide ((i : Int) < 9) = false := by simp; omega
        obtain rfl : i = 9 := by omega
        have ht := corr_there HOK.out HVER.out
        rw [← HCF.out, HDAY.out.2] at ht
        have HB9 := Lib.hid (HBW0.out.trans (HB.out.mono HBW0.out.size))
        have hg : (gv = true ∧ cf 9 = 0) ∨ (gv = false ∧ cf 9 = 1) := by
          cases gv
          · exact .inr ⟨rfl, by simpa using ht⟩
          · exact .inl ⟨rfl, by simpa using ht⟩
        obtain ⟨t9, ht9⟩ : ∃ t, cf 9 = t := ⟨_, rfl⟩
        rw [ht9] at hg ⊢
        clear ht ht9
        rcases hg with ⟨hg, rfl⟩ | ⟨hg, rfl⟩
        all_goals
          simp only [hg]
          go_wp2_with fail
          go_ret
          exact ⟨rfl, HB9.out⟩
   exact AllReadyH.nil
end Go.Proofs.YteeifhlhpiimoaaGreatDoor
