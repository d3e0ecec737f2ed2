/-
  The law DiskCrashBytes answers true for all arguments. Conditions: the arguments are such as the row reads.
-/
import Derived.Test.YtmpjoncemgangaaDiskLawCut
namespace Go.Proofs.Ytmpjoncemgangaa
open Go Go.RowKit Go.Shelf Go.Sort

def boolV (b : Bool) : Value := .bool b
set_option maxRecDepth 100000 in
theorem open_boolsAt {H : Type} {enc : TypeId × Value → H} {W : World} {base : Nat} {sp : Nat → Bool} {held : Bool} {b0 : Nat} {r : Reach} {v : Value} {d : DataW H} {p : List MemPlace}
    (hv : Value.okWide Try.prog W r b0 58 v) (h : DataW.Trod enc Try.prog W base sp held 58 v d p) :
    ∃ (A : Option Addr) (l : List Bool) (cap : Nat), v = .slice A l.length cap ∧ l.length ≤ cap ∧ cap ≤ maxLen ∧ LAt W W.heap.size A boolV l := by
  obtain ⟨A, l, cap, e, h1, h2, h3, -⟩ := open_rowsAt (one boolV) (fun _ => True) Try.underlying58 1 (by kernel_rfl) (by decide) (fun n cs x hl ht => by
    obtain ⟨b, e, _⟩ := DataW.trod_bool Try.underlying4 ht
    exact ⟨b, e, trivial⟩) hv h
  refine ⟨A, l, cap, e, h1, h2, fun i x hx => ?_⟩
  obtain ⟨a, ea, hl, hc⟩ := h3 i x hx
  have := hc 0 (boolV x) rfl
  rw [Nat.mul_one, Nat.add_zero] at this
  exact ⟨a, ea, hl, this⟩
/-- Does the i-th write survive? -/
def keptB (keep : List Bool) (i : Nat) : Bool := keep.getD i false
/-- The last survivor of the first k writes. -/
def lastK (f : Nat → Bool) : Nat → Int
  | 0 => -1
  | k + 1 => if f k then (k : Int) else lastK f k
def ordK (f : Nat → Bool) (k : Nat) : List Nat := (List.range k).filter f
theorem ordK_succ (f : Nat → Bool) (k : Nat) : ordK f (k + 1) = ordK f k ++ (if f k then [k] else []) := by
  unfold ordK; rw [List.range_succ, List.filter_append]; congr 1; cases h : f k <;> simp [h]
/-- A write applied, the last survivor's bytes torn. -/
def stepL (pend : List (Nat × ByteArray)) (torn last : Int) (d : List UInt8) (i : Nat) : List UInt8 :=
  stepO (fun d (x : Nat × ByteArray) => patch d x.1 (if (i : Int) = last then tornS torn x.2 else x.2).data.toList) d pend[i]?
theorem foldl_congr {α β : Type} {g h : β → α → β} : ∀ (l : List α) (d : β), (∀ x ∈ l, ∀ d, g d x = h d x) → l.foldl g d = l.foldl h d
  | [], _, _ => rfl
  | x :: l, d, hx => by rw [List.foldl_cons, List.foldl_cons, hx x (List.mem_cons_self ..), foldl_congr l _ (fun y hy => hx y (List.mem_cons_of_mem _ hy))]
theorem crashF_snoc (pend : List (Nat × ByteArray)) (torn : Int) (i : Nat) : ∀ (L : List Nat) (d : List UInt8), crashF pend torn (L ++ [i]) d = stepO (fun d (x : Nat × ByteArray) => patch d x.1 (tornS torn x.2).data.toList) (L.foldl (fun d j => stepO (fun d (x : Nat × ByteArray) => patch d x.1 x.2.data.toList) d pend[j]?) d) pend[i]?
  | [], d => by
    rw [List.nil_append, crashF, crashF]
    cases pend[i]? <;> simp [stepO]
  | j :: L, d => by
    rw [List.cons_append, crashF, crashF_snoc pend torn i L, List.foldl_cons]
    congr 2
    cases pend[j]? with
    | none => rfl
    | some x => simp [stepO]
theorem crashF_last (pend : List (Nat × ByteArray)) (torn : Int) (f : Nat → Bool) (d : List UInt8) : ∀ k, crashF pend torn (ordK f k) d = (ordK f k).foldl (stepL pend torn (lastK f k)) d
  | 0 => rfl
  | k + 1 => by
    rw [ordK_succ, lastK]
    by_cases h : f k
    · rw [if_pos h, if_pos h, crashF_snoc, List.foldl_append, List.foldl_cons, List.foldl_nil]
      have e : (ordK f k).foldl (fun d j => stepO (fun d (x : Nat × ByteArray) => patch d x.1 x.2.data.toList) d pend[j]?) d = (ordK f k).foldl (stepL pend torn (k : Int)) d := foldl_congr _ _ fun j hj d => by
        have hjk : j < k := by unfold ordK at hj; have := (List.mem_filter.1 hj).1; simpa using this
        unfold stepL
        simp only [show ¬ ((j : Int) = (k : Int)) by omega, if_false]
      rw [e]
      simp only [stepL, if_true]
    · rw [if_neg h, if_neg h, List.append_nil]; exact crashF_last pend torn f d k
theorem ordS_rev (f : Nat → Bool) (k : Nat) : ordS ((ordK f k).reverse.map fun (i : Nat) => (i : Int)) k = ordK f k := by
  unfold ordS ordK
  refine List.filter_congr fun i hi => ?_
  have hik : i < k := by simpa using hi
  rw [Bool.eq_iff_iff]
  simp only [decide_eq_true_eq, List.mem_map, List.mem_reverse, List.mem_filter, List.mem_range]
  constructor
  · rintro ⟨j, ⟨_, hj⟩, e⟩
    have : j = i := by omega
    rw [← this]; exact hj
  · intro hf; exact ⟨i, ⟨hik, hf⟩, rfl⟩
theorem stepL_more (pend : List (Nat × ByteArray)) (x : Nat × ByteArray) (torn last : Int) (d : List UInt8) (f : Nat → Bool) : (ordK f pend.length).foldl (stepL (pend ++ [x]) torn last) d = (ordK f pend.length).foldl (stepL pend torn last) d :=
  foldl_congr _ _ fun j hj d => by
    have hjk : j < pend.length := by unfold ordK at hj; have := (List.mem_filter.1 hj).1; simpa using this
    unfold stepL
    rw [List.getElem?_append_left hjk]
theorem ordK_length (f : Nat → Bool) (k : Nat) : (ordK f k).length ≤ k := by unfold ordK; exact Nat.le_trans (List.length_filter_le _ _) (by simp)
theorem patch_full {l s : List UInt8} (h : s.length = l.length) : patch l 0 s = s := by
  unfold patch; rw [List.take_zero, List.nil_append, Nat.zero_add, h, List.drop_length, List.append_nil]
theorem OL.lit1 {B : Nat} (W : World) (y : Int) (hB : B ≤ W.heap.size) : OL (W.alloc (.cells #[.int .i64 y] 3)) B 3 1 (one iv) (.slice (some ⟨W.heap.size, 0, none⟩) 1 1) [y] :=
  ⟨rfl, .inr ⟨W.heap.size, 1, _, rfl, hB, World.alloc_heap_new W _, Nat.le_refl _, by unfold maxLen; omega, rfl, rfl⟩⟩
theorem OL.cap0 {α : Type} {w : World} {B : Nat} {e : TypeId} {size : Nat} {f : α → List Value} {A : Option Addr} {n c : Nat} {l : List α} (h : OL w B e size f (.slice A n c) l) (hA : A = none) : c = 0 := by
  rcases h.2 with ⟨he, _⟩ | ⟨g, cap, cur, he, _⟩
  · injection he
  · injection he with e1 _ _; rw [hA] at e1; cases e1
theorem OL.cat {w : World} {B : Nat} {e : TypeId} {A : Option Addr} {n c : Nat} {l : List Int} (h : OL w B e 1 (one iv) (.slice A n c) l) (o : Obj) : ∀ j x, (l.flatMap (one iv))[j]? = some x → ∃ a, A = some a ∧ (w.alloc o).cell? (a.add j) = some x := by
  intro j x hx
  rw [flatMap_one, List.getElem?_map] at hx
  obtain ⟨y, hy, rfl⟩ := Option.map_eq_some_iff.1 hx
  exact ((h.lat.below ((Below.refl _ w).alloc (Nat.le_refl _) o)) j y hy).imp fun a q => ⟨q.1, q.2.2⟩
theorem lcut_torn {torn : Int} (h : 0 ≤ torn) (x : ByteArray) : lcut x torn.toNat = tornS torn x := by unfold lcut tornS; rw [if_pos h, Nat.min_comm]

set_option maxRecDepth 100000 in
set_option maxHeartbeats 16000000 in
theorem crashBytes_walk (W : World) (z : Int) (A : Option Addr) (l : List WR) (cap : Nat) (kA : Option Addr) (keep : List Bool) (kcap : Nat) (torn : Int) (h1 : -9223372036854775808 ≤ z) (h2 : z ≤ 9223372036854775807) (hA : CAt W W.heap.size A 3 WR.cells l) (hok : ∀ y ∈ l, y.ok) (hK : LAt W W.heap.size kA boolV keep) :
    Calls Try.prog 8 #[.int .i64 z, .slice A l.length cap, .slice kA keep.length kcap, .int .i64 torn] W fun e W' => e = .returned (.bool true) ∧ Below W.heap.size W W' := by
  have HKE := Lib.hid hK
  clear hK
  obtain ⟨q1, q2⟩ := pickZ_range z (n := 100) (by omega)
  have HP := Lib.hid (pick_walk (x := z) (n := 100) · h1 h2 (by omega) (by omega))
  obtain ⟨n, hn⟩ : ∃ n : Nat, 1 + pickZ z 100 = n := ⟨(1 + pickZ z 100).toNat, by omega⟩
  obtain ⟨q, hq⟩ : ∃ q, pickZ z 100 = q := ⟨_, rfl⟩
  rw [hq] at HP q1 q2 hn
  have w1 : IntKind.i64.wrap (1 + q) = (n : Int) := by rw [IntKind.wrap_i64]; omega
  have hn1 : 1 ≤ n := by omega
  have hn2 : n ≤ 100 := by omega
  have hmk := mkRow n (by omega)
  obtain ⟨C, hC⟩ : ∃ C, madeCells #[.int .u8 0] n = C := ⟨_, rfl⟩
  rw [hC] at hmk
  have HCL := Lib.hid (show C.toList = (List.replicate n (0 : UInt8)).map bv by rw [← hC]; exact made_bytes n)
  clear hC
  have HA := Lib.hid hA
  have HOK := Lib.hid hok
  clear hn hq hA hok
  go_enter Try.func8, Try.ntmps8
  go_wp2_with fail
  refine (sane_walk W).mono ?_
  rintro e W1 ⟨rfl, hb⟩
  have HB := Lib.hid hb
  clear hb
  go_wp2_with fail
  refine (HP.out W1).mono ?_
  rintro e W2 ⟨rfl, rfl⟩
  go_wp2_with fail
  refine (new_L (W0 := W) (Z := fun _ => False) (Turns.of_below HB.out) (fun _ e => e.elim) n hn1 (by omega)).mono ?_
  rintro e W2 ⟨⟨d, gd, gv, rfl, h⟩, -⟩
  have HL := Lib.hid ((h.mono (Z' := fun k => k = W2.heap.size) (fun k e hk => by omega)).quiet (Turns.alloc W2 (.cells C 5)))
  have HR := Lib.hid (RAt.alloc_new (f := bv) W2 C 5 HCL.out)
  have HSZ := Lib.hid h.size
  clear h
  go_wp2_with fail
  obtain ⟨gb, hgb⟩ : ∃ gb, W2.heap.size = gb := ⟨_, rfl⟩
  rw [hgb] at HL HR HSZ ⊢
  obtain ⟨W3, hW3⟩ : ∃ W3, W2.alloc (.cells C 5) = W3 := ⟨_, rfl⟩
  rw [hW3] at HL HR ⊢
  clear hgb hW3 hmk
  go_loopw [13] (fun v wr => ∃ (k : Nat) (L : List UInt8), k ≤ n ∧ v = .int .i64 (k : Int) ∧ Lives W (fun j => j = gb) wr d gd gv n (DS.fresh n) ∧ Hid (L.length = n) ∧ RAt wr gb bv L) (fun v _ => n - (intOf v).toNat)
  case atStart => exact ⟨0, List.replicate n 0, by omega, rfl, HL.out, Lib.hid (by simp), HR.out⟩
  case round =>
    obtain ⟨k, L, hk, rfl, hL, HLL, hr⟩ := hrel
    have HLk := Lib.hid hL
    have HRk := Lib.hid hr
    clear hL hr HL HR
    by_cases hlt : k < n
    · have d1 : decide ((k : Int) < (n : Int)) = true := by simp [hlt]
      have hkL : k < L.length := by rw [HLL.out]; exact hlt
      obtain ⟨u, c1⟩ : ∃ u, wr.cell? ⟨gb, k, none⟩ = some u := ⟨_, HRk.out.get hkL⟩
      have f1 := HRk.out.free k hkL
      have y1 : (0 : Int) ≤ (k : Int) := by omega
      have y2 : (k : Int) < (n : Int) := by omega
      have w2 : IntKind.i64.wrap ((k : Int) + 1) = ((k + 1 : Nat) : Int) := by rw [IntKind.wrap_i64]; omega
      have hs1 := HRk.out.setv k hkL (UInt8.ofNat (48 + k % 10)) (.int .u8 (48 + (k : Int) % 10)) (by unfold bv; congr 1; simp; omega)
      have HS1 := Lib.hid hs1
      clear hkL hs1
      go_wp2_with fail
      exact ⟨⟨k + 1, L.set k (UInt8.ofNat (48 + k % 10)), by omega, rfl, HLk.out.keep (Turns.setCell wr ⟨gb, k, none⟩ _ rfl) (fun j e => by have := HSZ.out; omega), Lib.hid (by rw [List.length_set]; exact HLL.out), HS1.out⟩, by simp [intOf]; omega⟩
    · obtain rfl : n = k := by omega
      have d1 : decide ((n : Int) < (n : Int)) = false := by simp
      clear hlt
      have hcv := HRk.out.convert (P := Try.prog) (cap := n) HLL.out 40 9 5 Try.underlying40 Try.underlying5 Try.underlying9
      obtain ⟨T, hT⟩ : ∃ T : ByteArray, ⟨L.toArray⟩ = T := ⟨_, rfl⟩
      rw [hT] at hcv
      have HTL : Hid (T.data.toList = L) := Lib.hid (by rw [← hT])
      have HTF : Hid (0 + T.size ≤ n) := Lib.hid (by have h1 := congrArg List.length HTL.out; have h2 := HLL.out; simp at h1; omega)
      have HCf : Hid ((DS.fresh n).Calm n 0) := Lib.hid (DS.Calm.fresh n)
      have hst : ((DS.fresh n).wr (0 : Nat) T).sync = ⟨false, 0, L, L, []⟩ := by
        rw [(HCf.out.step HTF.out).sync.2.1, HCf.out.wr HTF.out]
        have hp : patch (DS.fresh n).vis 0 T.data.toList = L := by rw [HTL.out]; exact patch_full (by rw [HLL.out]; simp [DS.fresh])
        rw [hp]; rfl
      have HST := Lib.hid hst
      clear hT hst
      go_wp2_with fail
      refine (write_L HLk.out (fun j e => by rw [e]; exact HRk.out.lt) (0 : Nat) T (by have := HTF.out; omega) (Nat.zero_le _) (Nat.zero_le _)).mono ?_
      rw [HCf.out.writeE HTF.out]
      rintro e W4 ⟨rfl, hl, ht⟩
      have HL4 := Lib.hid hl
      have HR4 := Lib.hid (HRk.out.turns ht (fun e => e rfl))
      clear hl ht HLk HRk hcv
      go_wp2_with fail
      refine (sync_L HL4.out).mono ?_
      rw [(HCf.out.step HTF.out).sync.1, HST.out]
      rintro e W5 ⟨rfl, hl, ht⟩
      have HL5 := Lib.hid hl
      have HR5 := Lib.hid (HR4.out.turns ht (fun e => e rfl))
      clear hl ht HL4 HR4
      obtain ⟨K, hK⟩ : ∃ K, min l.length 20 = K := ⟨_, rfl⟩
      have HK20 : Hid (K ≤ 20 ∧ K ≤ l.length ∧ (l.length ≤ K ∨ K = 20)) := Lib.hid (by omega)
      have HKB : Hid (LAt W5 W.heap.size kA boolV keep) := Lib.hid (HKE.out.below HL5.out.below)
      clear hK d1
      go_wp2_with fail
      go_loopw [14, 15] (fun u v wr => ∃ k : Nat, k ≤ K ∧ v = .int .i64 (k : Int) ∧ u = .int .i64 (lastK (keptB keep) k) ∧ W5 = wr) (fun _ v _ => K - (intOf v).toNat)
      case atStart => exact ⟨0, by omega, rfl, rfl, rfl⟩
      case round =>
        obtain ⟨k, hk, rfl, rfl, rfl⟩ := hrel
        by_cases hlt : k < K
        · have hl1 : k < l.length := by have := HK20.out; omega
          have d1 : decide ((k : Int) < (l.length : Int)) = true := by simp [hl1]
          have d2 : decide ((k : Int) < 20) = true := by have := HK20.out; simp; omega
          have w2 : IntKind.i64.wrap ((k : Int) + 1) = ((k + 1 : Nat) : Int) := by have := HK20.out; rw [IntKind.wrap_i64]; omega
          by_cases hkk : k < keep.length
          · have d3 : decide ((k : Int) < (keep.length : Int)) = true := by simp [hkk]
            obtain ⟨a, rfl, hab, hac⟩ := HKB.out.get hkk
            unfold boolV at hac
            have y1 : (0 : Int) ≤ (k : Int) := by omega
            have y2 : (k : Int) < (keep.length : Int) := by omega
            obtain ⟨kb, hkb⟩ : ∃ kb, keep[k] = kb := ⟨_, rfl⟩
            rw [hkb] at hac
            have HF : Hid (keptB keep k = kb) := Lib.hid (by unfold keptB; rw [List.getD_eq_getElem?_getD, List.getElem?_eq_getElem hkk, hkb]; rfl)
            clear hkb
            cases kb
            · go_wp2_with fail
              exact ⟨⟨k + 1, by omega, rfl, by rw [lastK, HF.out]; rfl, trivial⟩, by simp [intOf]; omega⟩
            · go_wp2_with fail
              exact ⟨⟨k + 1, by omega, rfl, by rw [lastK, HF.out]; rfl, trivial⟩, by simp [intOf]; omega⟩
          · have d3 : decide ((k : Int) < (keep.length : Int)) = false := by simp; omega
            have HF : Hid (keptB keep k = false) := Lib.hid (by unfold keptB; rw [List.getD_eq_getElem?_getD, List.getElem?_eq_none (by omega)]; rfl)
            go_wp2_with fail
            exact ⟨⟨k + 1, by omega, rfl, by rw [lastK, HF.out]; rfl, trivial⟩, by simp [intOf]; omega⟩
        · obtain rfl : K = k := by omega
          obtain ⟨last, hlast⟩ : ∃ last, lastK (keptB keep) K = last := ⟨_, rfl⟩
          have HLAST := Lib.hid hlast
          rw [hlast]
          clear hlast hlt hk
          by_cases hl2 : K < l.length
          · have d1 : decide ((K : Int) < (l.length : Int)) = true := by simp [hl2]
            have d2 : decide ((K : Int) < 20) = false := by have := HK20.out; simp; omega
            obtain ⟨B, hB⟩ : ∃ B, W5.heap.size = B := ⟨_, rfl⟩
            have HLB : Hid (gb < B ∧ B ≤ W5.heap.size) := Lib.hid ⟨by rw [← hB]; exact HR5.out.lt, by omega⟩
            clear hB
            go_wp2_with fail
            go_loopw [16, 17, 18, 19] (fun u v _ _ wr => ∃ (k m : Nat) (s : DS) (oA : Option Addr) (oc : Nat), u = .slice oA m oc ∧ k ≤ K ∧ v = .int .i64 (k : Int) ∧ Lives W (fun j => j = gb ∨ (Value.slice oA m oc).ownBlock = some j) wr d gd gv n s ∧ Hid (s.Calm n k ∧ s.dur = L ∧ s.pend.length = k ∧ m = (ordK (keptB keep) k).length) ∧
              RAt wr gb bv ((ordK (keptB keep) k).foldl (stepL s.pend torn last) L) ∧ Hid (((ordK (keptB keep) k).foldl (stepL s.pend torn last) L).length = n) ∧ OL wr B 3 1 (one iv) (.slice oA m oc) ((ordK (keptB keep) k).reverse.map fun (i : Nat) => (i : Int)) ∧ B ≤ wr.heap.size) (fun _ v _ _ _ => K - (intOf v).toNat)
            case atStart => exact ⟨0, 0, ⟨false, 0, L, L, []⟩, none, 0, rfl, by omega, rfl, HL5.out.mono (fun j e _ => by rcases e with e | e; exact e; cases e), Lib.hid ⟨⟨rfl, rfl, Nat.le_refl _, HLL.out⟩, rfl, rfl, rfl⟩, HR5.out, HLL, OL.nil, HLB.out.2⟩
            case round =>
              obtain ⟨k, m, s, oA, oc, rfl, hk, rfl, hL, HCC, hr, HLW, ho, hB2⟩ := hrel
              have HLk := Lib.hid hL
              have HLS := Lib.hid hL.size
              have HRk := Lib.hid hr
              have HO := Lib.hid ho
              have HB2 := Lib.hid hB2
              have HC := Lib.hid HCC.out.1
              clear hL hr HL5 HR5 ho hB2
              by_cases hlk : k < K
              · have hlt : k < l.length := by have := HK20.out; omega
                have hlt2 : k < 20 := by have := HK20.out; omega
                replace d1 : decide ((k : Int) < (l.length : Int)) = true := by simp [hlt]
                have d2 : decide ((k : Int) < 20) = true := by simp; omega
                obtain ⟨a, rfl, hab, hac⟩ := (HA.out.below HLk.out.below).get hlt
                obtain ⟨y, hy⟩ : ∃ y, l[k] = y := ⟨_, rfl⟩
                rw [hy] at hac
                have HY := Lib.hid (HOK.out y (by rw [← hy]; exact List.getElem_mem hlt))
                obtain ⟨yo, ys, yb⟩ := y
                have c0 := hac 0 _ rfl
                have c1 := hac 1 _ rfl
                have c2 := hac 2 _ rfl
                rw [Nat.add_zero] at c0
                rw [add_field a (k * 3) 0] at c1
                rw [add_field a (k * 3) 1] at c2
                rw [Nat.zero_add] at c1
                have y1 : (0 : Int) ≤ (k : Int) := by omega
                have y2 : (k : Int) < (l.length : Int) := by omega
                have w2 : IntKind.i64.wrap ((k : Int) + 1) = ((k + 1 : Nat) : Int) := by rw [IntKind.wrap_i64]; omega
                clear hac
                clear hy
                go_wp2_with fail
                obtain ⟨pr1, pr2⟩ := pickZ_range yo (n := ((n + 1 : Nat) : Int)) (by omega)
                obtain ⟨p, hp⟩ : ∃ p : Nat, pickZ yo ((n + 1 : Nat) : Int) = (p : Int) := ⟨(pickZ yo ((n + 1 : Nat) : Int)).toNat, by omega⟩
                have hys := HY.out.2.2
                unfold maxLen at hys
                refine (fits_walk wr yo ys yb n p HY.out.1 HY.out.2.1 (by dsimp only at hys; omega) (by omega) hp).mono ?_
                rw [hp] at pr1 pr2
                obtain ⟨x, hx⟩ : ∃ x, lcut ys (n - p) = x := ⟨_, rfl⟩
                rw [hx]
                have HFIT : Hid (p + x.size ≤ n) := Lib.hid (by have := lcut_size ys (n - p); rw [hx] at this; omega)
                have HXP := Lib.hid (And.intro hp hx)
                clear hp hx pr1 pr2 hys c0 c1 c2
                rintro e W4 ⟨rfl, hb4⟩
                have HL6 := Lib.hid (((HLk.out.quiet (Turns.of_below hb4)).mono (Z' := fun j => (j = gb ∨ (Value.slice oA m oc).ownBlock = some j) ∨ j = W4.heap.size) (fun j e hj => by rcases e with e | e; exact e; omega)).quiet (Turns.alloc W4 (.cells #[.int .i64 (p : Int), .string x, .bool yb] 53)))
                have HT6 := Lib.hid ((Turns.of_below (Z := fun _ => False) hb4).trans (Turns.alloc W4 (.cells #[.int .i64 (p : Int), .string x, .bool yb] 53)))
                have HWB := Lib.hid hb4.size
                go_wp2_with fail
                obtain ⟨w, hw⟩ : ∃ w, W4.heap.size = w := ⟨_, rfl⟩
                obtain ⟨W6, hW6⟩ : ∃ W6, W4.alloc (.cells #[.int .i64 (p : Int), .string x, .bool yb] 53) = W6 := ⟨_, rfl⟩
                have HC6 : Hid (RecAt W6 w p x yb) := Lib.hid (by
                  rw [← hW6, ← hw]
                  exact ⟨by rw [World.size_alloc]; omega, by simp, by simp, by simp⟩)
                rw [hw] at HL6 HWB ⊢
                rw [hW6] at HL6 HT6 ⊢
                have HR6 : Hid (RAt W6 gb bv ((ordK (keptB keep) k).foldl (stepL s.pend torn last) L)) := Lib.hid (HRk.out.turns HT6.out (fun e => e))
                have HGW : Hid (gb < w) := Lib.hid (Nat.lt_of_lt_of_le HRk.out.lt HWB.out)
                clear HRk
                have HO6 := Lib.hid (HO.out.turns HT6.out (fun _ _ e => e))
                have HBW : Hid (B ≤ w) := Lib.hid (Nat.le_trans HB2.out HWB.out)
                clear hw hW6 hb4 HLk HT6 HO
                have d0 := HC6.out.c0
                have d1' := HC6.out.c1
                have d2' := HC6.out.c2
                go_wp2_with fail
                refine (write_L HL6.out (fun j e => by rcases e with (e | e) | e; (rw [e]; exact HR6.out.lt); exact (HO6.out.lt j e).2; (rw [e]; exact HC6.out.lt)) p x (by have := HFIT.out; omega) (by have := HC.out.pend; omega) (by rw [HC.out.left]; omega)).mono ?_
                rw [HC.out.writeE HFIT.out]
                rintro e W7 ⟨rfl, hl, ht⟩
                have HR7 := Lib.hid (HR6.out.turns ht (fun e => e (.inl (.inl rfl))))
                have HC7 := Lib.hid (HC6.out.turns ht (fun e => e (.inr rfl)))
                have HO7 := Lib.hid (HO6.out.turns ht (fun j e q => q (.inl (.inr e))))
                have HL7 := Lib.hid hl
                have HS7 : Hid (B ≤ W7.heap.size) := Lib.hid (by have := ht.size; have := HC6.out.lt; have := HBW.out; omega)
                have HKB7 : Hid (LAt W7 W.heap.size kA boolV keep) := Lib.hid (HKE.out.below hl.below)
                clear hl ht HL6 HR6 HC6 HO6 d0 d1' d2'
                have hpe : (s.wr p x).pend = s.pend ++ [(p, x)] := by rw [HC.out.wr HFIT.out]
                have hdu : (s.wr p x).dur = L := by rw [HC.out.wr HFIT.out]; exact HCC.out.2.1
                have HPE := Lib.hid hpe
                have hfold : (ordK (keptB keep) k).foldl (stepL (s.wr p x).pend torn last) L = (ordK (keptB keep) k).foldl (stepL s.pend torn last) L := by
                  rw [hpe]
                  have := stepL_more s.pend (p, x) torn last L (keptB keep)
                  rw [HCC.out.2.2.1] at this
                  exact this
                have HFO := Lib.hid hfold
                have HCN : Hid ((s.wr p x).Calm n (k + 1) ∧ (s.wr p x).dur = L ∧ (s.wr p x).pend.length = k + 1) := Lib.hid ⟨HC.out.step HFIT.out, hdu, by rw [hpe, List.length_append, HCC.out.2.2.1]; rfl⟩
                clear hpe hdu hfold
                have d0 := HC7.out.c0
                have d1' := HC7.out.c1
                by_cases hkk : k < keep.length
                · have d3 : decide ((k : Int) < (keep.length : Int)) = true := by simp [hkk]
                  obtain ⟨a2, rfl, hab2, hac⟩ := HKB7.out.get hkk
                  unfold boolV at hac
                  have y5 : (0 : Int) ≤ (k : Int) := by omega
                  have y6 : (k : Int) < (keep.length : Int) := by omega
                  obtain ⟨kb, hkb⟩ : ∃ kb, keep[k] = kb := ⟨_, rfl⟩
                  rw [hkb] at hac
                  have HF : Hid (keptB keep k = kb) := Lib.hid (by unfold keptB; rw [List.getD_eq_getElem?_getD, List.getElem?_eq_getElem hkk, hkb]; rfl)
                  clear hkb
                  cases kb
                  · go_wp2_with fail
                    exact ⟨⟨k + 1, m, s.wr p x, oA, oc, rfl, by omega, rfl, HL7.out.mono (fun j e _ => .inl e), Lib.hid ⟨HCN.out.1, HCN.out.2.1, HCN.out.2.2, by rw [ordK_succ, HF.out, if_neg (by simp), List.append_nil]; exact HCC.out.2.2.2⟩, by rw [ordK_succ, HF.out, if_neg (by simp), List.append_nil, HFO.out]; exact HR7.out, by rw [ordK_succ, HF.out, if_neg (by simp), List.append_nil, HFO.out]; exact HLW, by rw [ordK_succ, HF.out, if_neg (by simp), List.append_nil]; exact HO7.out, HS7.out⟩, by simp [intOf]; omega⟩
                  · have HML : Hid (((ordK (keptB keep) k).reverse.map fun (i : Nat) => (i : Int)).length = m) := Lib.hid (by rw [List.length_map, List.length_reverse]; exact HCC.out.2.2.2.symm)
                    have HML2 : Hid ((ordK (keptB keep) k).length = m) := Lib.hid HCC.out.2.2.2.symm
                    have hm20 : m ≤ 20 := by have h1 := ordK_length (keptB keep) k; rw [HML2.out] at h1; omega
                    by_cases hkl : (k : Int) = last
                    · have g1 : ((k : Int) == last) = true := by simp [hkl]
                      by_cases ht0 : 0 ≤ torn
                      · obtain ⟨tn, rfl⟩ : ∃ tn : Nat, torn = tn := ⟨torn.toNat, by omega⟩
                        have g2 : decide (0 ≤ (tn : Int)) = true := by simp
                        have HST3 : Hid (∀ D : List UInt8, stepO (fun d (y : Nat × ByteArray) => patch d y.1 (if (k : Int) = last then tornS (tn : Int) y.2 else y.2).data.toList) D (some (p, x)) = patch D p (lcut x tn).data.toList) := Lib.hid (fun D => by
                          have := lcut_torn ht0 x
                          rw [Int.toNat_natCast] at this
                          simp only [stepO, hkl, if_true, this])
                        have HXF : Hid (p + (lcut x tn).size ≤ n) := Lib.hid (by have h1 := tornS_le (tn : Int) x; have := lcut_torn ht0 x; rw [Int.toNat_natCast] at this; rw [this]; have := HFIT.out; omega)
                        clear hkl ht0
                        go_wp2_with (first
                          | (at_builtin
                             go_must (refine wpList_cat rfl (.tmp 113) (.tmp 114) 37 rfl elemI (fun _ => rfl) _ [(k : Int)] rfl (OL.lit1 (B := W7.heap.size) W7 (k : Int) (Nat.le_refl _)) oA ((ordK (keptB keep) k).reverse.map fun (i : Nat) => (i : Int)) m oc HML.out rfl HO7.out.cap0 (HO7.out.cat _) (fun y _ u hu => by rw [List.mem_singleton.1 hu]; rfl) (by show 1 + m ≤ maxLen; unfold maxLen; omega) (by show (1 + m) * 8 ≤ _; omega) (by simp) ?_)
                             intro v3 w3 h3 hg3 hb3
                             obtain ⟨rA, rc, hv3, -, -⟩ := h3.slice
                             rw [show ([(k : Int)] ++ (ordK (keptB keep) k).reverse.map fun (i : Nat) => (i : Int)).length = m + 1 by rw [List.length_append, HML.out]; simp; omega] at hv3
                             subst hv3
                             have HA3 := Lib.hid (And.intro h3 hb3)
                             have hc8 := (HC7.out.turns ((Turns.alloc (Z := fun j => W7.heap.size ≤ j) W7 (.cells #[.int .i64 (k : Int)] 3)).trans ⟨hb3.os, hb3.tape, hb3.output, hb3.size, fun j _ hz => hb3.block j (by omega)⟩) (fun e => by have := HC7.out.lt; omega))
                             have HC8 := Lib.hid hc8
                             clear d0 d1' hg3 hb3 h3
                             have d0 := hc8.c0
                             have d1' := hc8.c1
                             clear hc8)
                          | fail)
                        have ht8 : Turns (fun j => W7.heap.size ≤ j) W7 w3 := (Turns.alloc (Z := fun j => W7.heap.size ≤ j) W7 (.cells #[.int .i64 (k : Int)] 3)).trans ⟨HA3.out.2.os, HA3.out.2.tape, HA3.out.2.output, HA3.out.2.size, fun j _ hz => HA3.out.2.block j (by omega)⟩
                        have HR8 := Lib.hid (HR7.out.turns ht8 (fun e => by have := HR7.out.lt; omega))
                        have HL8 := Lib.hid ((HL7.out.mono (Z' := fun j => ((j = gb ∨ j = w) ∨ W7.heap.size ≤ j)) (fun j e hj => by
                          rcases e with (e | e) | e
                          · exact .inl (.inl e)
                          · exact .inr e
                          · omega)).keep (ht8.mono (fun j e => .inr e)) (fun j e => by
                          have h2 := HSZ.out; have h3 := HLS.out; have h4 := HWB.out; have h5 := HLB.out.1; have h6 := HS7.out; have h7 := HBW.out
                          rcases e with (e | e) | e
                          · rw [e]; omega
                          · rw [e]; omega
                          · omega))
                        have HS8 : Hid (W7.heap.size ≤ w3.heap.size) := Lib.hid ht8.size
                        clear ht8 HL7 HR7 HC7
                        refine (lcut_walk w3 x tn (by have := HFIT.out; omega)).mono ?_
                        rintro e w4 ⟨rfl, rfl⟩
                        go_wp2_with fail
                        refine (put_walk w3 gb n p ((ordK (keptB keep) k).foldl (stepL s.pend (tn : Int) last) L) (lcut x tn) HR8.out HLW.out HXF.out (by omega)).mono ?_
                        rintro e W9 ⟨rfl, hr, ht⟩
                        have HR9 := Lib.hid hr
                        have HL9 := Lib.hid (HL8.out.keep (ht.mono (fun j e => .inl (.inl e))) (fun j e => by
                          have h2 := HSZ.out; have h3 := HLS.out; have h4 := HWB.out; have h5 := HLB.out.1; have h6 := HS7.out; have h7 := HBW.out
                          rcases e with (e | e) | e
                          · rw [e]; omega
                          · rw [e]; omega
                          · omega))
                        have HO9 := Lib.hid (HA3.out.1.turns ht (fun j e q => by have h1 := (HA3.out.1.lt j e).1; have h2 := HS7.out; have h3 := HLB.out.1; omega))
                        have HB9 : Hid (B ≤ W9.heap.size) := Lib.hid (by have := ht.size; have := HS7.out; have := HS8.out; omega)
                        clear hr ht HR8 HL8
                        go_wp2_with fail
                        have hfin : (ordK (keptB keep) (k + 1)).foldl (stepL (s.wr p x).pend (tn : Int) last) L = patch ((ordK (keptB keep) k).foldl (stepL s.pend (tn : Int) last) L) p ((lcut x tn)).data.toList := by
                          rw [ordK_succ, HF.out, if_pos rfl, List.foldl_append, HFO.out, List.foldl_cons, List.foldl_nil]
                          unfold stepL
                          rw [HPE.out, List.getElem?_append_right (by rw [HCC.out.2.2.1]; exact Nat.le_refl _), HCC.out.2.2.1, Nat.sub_self, List.getElem?_cons_zero]
                          exact HST3.out _
                        refine ⟨⟨k + 1, m + 1, s.wr p x, rA, rc, rfl, by omega, rfl, ?_, Lib.hid ⟨HCN.out.1, HCN.out.2.1, HCN.out.2.2, ?_⟩, ?_, Lib.hid ?_, ?_, HB9.out⟩, by simp [intOf]; omega⟩
                        · refine HL9.out.mono (fun j e _ => ?_)
                          rcases e with e | e
                          · exact .inl (.inl e)
                          · exact .inr (HA3.out.1.lt j e).1
                        · rw [ordK_succ, HF.out, if_pos rfl, List.length_append, HML2.out]; rfl
                        · rw [hfin]; exact HR9.out
                        · rw [hfin, patch_length (by rw [HLW.out]; have := HXF.out; simpa using this)]; exact HLW.out
                        · rw [ordK_succ, HF.out, if_pos rfl, List.reverse_append]
                          exact HO9.out.base (B' := B) HS7.out
                      · have g2 : decide (0 ≤ torn) = false := by simp; omega
                        have HST3 : Hid (∀ D : List UInt8, stepO (fun d (y : Nat × ByteArray) => patch d y.1 (if (k : Int) = last then tornS torn y.2 else y.2).data.toList) D (some (p, x)) = patch D p x.data.toList) := Lib.hid (fun D => by
                          simp only [stepO, hkl, if_true, tornS, if_neg ht0])
                        have HXF := HFIT
                        clear hkl ht0
                        go_wp2_with (first
                          | (at_builtin
                             go_must (refine wpList_cat rfl (.tmp 113) (.tmp 114) 37 rfl elemI (fun _ => rfl) _ [(k : Int)] rfl (OL.lit1 (B := W7.heap.size) W7 (k : Int) (Nat.le_refl _)) oA ((ordK (keptB keep) k).reverse.map fun (i : Nat) => (i : Int)) m oc HML.out rfl HO7.out.cap0 (HO7.out.cat _) (fun y _ u hu => by rw [List.mem_singleton.1 hu]; rfl) (by show 1 + m ≤ maxLen; unfold maxLen; omega) (by show (1 + m) * 8 ≤ _; omega) (by simp) ?_)
                             intro v3 w3 h3 hg3 hb3
                             obtain ⟨rA, rc, hv3, -, -⟩ := h3.slice
                             rw [show ([(k : Int)] ++ (ordK (keptB keep) k).reverse.map fun (i : Nat) => (i : Int)).length = m + 1 by rw [List.length_append, HML.out]; simp; omega] at hv3
                             subst hv3
                             have HA3 := Lib.hid (And.intro h3 hb3)
                             have hc8 := (HC7.out.turns ((Turns.alloc (Z := fun j => W7.heap.size ≤ j) W7 (.cells #[.int .i64 (k : Int)] 3)).trans ⟨hb3.os, hb3.tape, hb3.output, hb3.size, fun j _ hz => hb3.block j (by omega)⟩) (fun e => by have := HC7.out.lt; omega))
                             have HC8 := Lib.hid hc8
                             clear d0 d1' hg3 hb3 h3
                             have d0 := hc8.c0
                             have d1' := hc8.c1
                             clear hc8)
                          | fail)
                        have ht8 : Turns (fun j => W7.heap.size ≤ j) W7 w3 := (Turns.alloc (Z := fun j => W7.heap.size ≤ j) W7 (.cells #[.int .i64 (k : Int)] 3)).trans ⟨HA3.out.2.os, HA3.out.2.tape, HA3.out.2.output, HA3.out.2.size, fun j _ hz => HA3.out.2.block j (by omega)⟩
                        have HR8 := Lib.hid (HR7.out.turns ht8 (fun e => by have := HR7.out.lt; omega))
                        have HL8 := Lib.hid ((HL7.out.mono (Z' := fun j => ((j = gb ∨ j = w) ∨ W7.heap.size ≤ j)) (fun j e hj => by
                          rcases e with (e | e) | e
                          · exact .inl (.inl e)
                          · exact .inr e
                          · omega)).keep (ht8.mono (fun j e => .inr e)) (fun j e => by
                          have h2 := HSZ.out; have h3 := HLS.out; have h4 := HWB.out; have h5 := HLB.out.1; have h6 := HS7.out; have h7 := HBW.out
                          rcases e with (e | e) | e
                          · rw [e]; omega
                          · rw [e]; omega
                          · omega))
                        have HS8 : Hid (W7.heap.size ≤ w3.heap.size) := Lib.hid ht8.size
                        clear ht8 HL7 HR7 HC7
                        refine (put_walk w3 gb n p ((ordK (keptB keep) k).foldl (stepL s.pend torn last) L) x HR8.out HLW.out HXF.out (by omega)).mono ?_
                        rintro e W9 ⟨rfl, hr, ht⟩
                        have HR9 := Lib.hid hr
                        have HL9 := Lib.hid (HL8.out.keep (ht.mono (fun j e => .inl (.inl e))) (fun j e => by
                          have h2 := HSZ.out; have h3 := HLS.out; have h4 := HWB.out; have h5 := HLB.out.1; have h6 := HS7.out; have h7 := HBW.out
                          rcases e with (e | e) | e
                          · rw [e]; omega
                          · rw [e]; omega
                          · omega))
                        have HO9 := Lib.hid (HA3.out.1.turns ht (fun j e q => by have h1 := (HA3.out.1.lt j e).1; have h2 := HS7.out; have h3 := HLB.out.1; omega))
                        have HB9 : Hid (B ≤ W9.heap.size) := Lib.hid (by have := ht.size; have := HS7.out; have := HS8.out; omega)
                        clear hr ht HR8 HL8
                        go_wp2_with fail
                        have hfin : (ordK (keptB keep) (k + 1)).foldl (stepL (s.wr p x).pend torn last) L = patch ((ordK (keptB keep) k).foldl (stepL s.pend torn last) L) p (x).data.toList := by
                          rw [ordK_succ, HF.out, if_pos rfl, List.foldl_append, HFO.out, List.foldl_cons, List.foldl_nil]
                          unfold stepL
                          rw [HPE.out, List.getElem?_append_right (by rw [HCC.out.2.2.1]; exact Nat.le_refl _), HCC.out.2.2.1, Nat.sub_self, List.getElem?_cons_zero]
                          exact HST3.out _
                        refine ⟨⟨k + 1, m + 1, s.wr p x, rA, rc, rfl, by omega, rfl, ?_, Lib.hid ⟨HCN.out.1, HCN.out.2.1, HCN.out.2.2, ?_⟩, ?_, Lib.hid ?_, ?_, HB9.out⟩, by simp [intOf]; omega⟩
                        · refine HL9.out.mono (fun j e _ => ?_)
                          rcases e with e | e
                          · exact .inl (.inl e)
                          · exact .inr (HA3.out.1.lt j e).1
                        · rw [ordK_succ, HF.out, if_pos rfl, List.length_append, HML2.out]; rfl
                        · rw [hfin]; exact HR9.out
                        · rw [hfin, patch_length (by rw [HLW.out]; have := HXF.out; simpa using this)]; exact HLW.out
                        · rw [ordK_succ, HF.out, if_pos rfl, List.reverse_append]
                          exact HO9.out.base (B' := B) HS7.out
                    · have g1 : ((k : Int) == last) = false := by simp [hkl]
                      have HST3 : Hid (∀ D : List UInt8, stepO (fun d (y : Nat × ByteArray) => patch d y.1 (if (k : Int) = last then tornS torn y.2 else y.2).data.toList) D (some (p, x)) = patch D p x.data.toList) := Lib.hid (fun D => by
                        simp only [stepO, hkl, if_false])
                      have HXF := HFIT
                      clear hkl
                      go_wp2_with (first
                        | (at_builtin
                           go_must (refine wpList_cat rfl (.tmp 113) (.tmp 114) 37 rfl elemI (fun _ => rfl) _ [(k : Int)] rfl (OL.lit1 (B := W7.heap.size) W7 (k : Int) (Nat.le_refl _)) oA ((ordK (keptB keep) k).reverse.map fun (i : Nat) => (i : Int)) m oc HML.out rfl HO7.out.cap0 (HO7.out.cat _) (fun y _ u hu => by rw [List.mem_singleton.1 hu]; rfl) (by show 1 + m ≤ maxLen; unfold maxLen; omega) (by show (1 + m) * 8 ≤ _; omega) (by simp) ?_)
                           intro v3 w3 h3 hg3 hb3
                           obtain ⟨rA, rc, hv3, -, -⟩ := h3.slice
                           rw [show ([(k : Int)] ++ (ordK (keptB keep) k).reverse.map fun (i : Nat) => (i : Int)).length = m + 1 by rw [List.length_append, HML.out]; simp; omega] at hv3
                           subst hv3
                           have HA3 := Lib.hid (And.intro h3 hb3)
                           have hc8 := (HC7.out.turns ((Turns.alloc (Z := fun j => W7.heap.size ≤ j) W7 (.cells #[.int .i64 (k : Int)] 3)).trans ⟨hb3.os, hb3.tape, hb3.output, hb3.size, fun j _ hz => hb3.block j (by omega)⟩) (fun e => by have := HC7.out.lt; omega))
                           have HC8 := Lib.hid hc8
                           clear d0 d1' hg3 hb3 h3
                           have d0 := hc8.c0
                           have d1' := hc8.c1
                           clear hc8)
                        | fail)
                      have ht8 : Turns (fun j => W7.heap.size ≤ j) W7 w3 := (Turns.alloc (Z := fun j => W7.heap.size ≤ j) W7 (.cells #[.int .i64 (k : Int)] 3)).trans ⟨HA3.out.2.os, HA3.out.2.tape, HA3.out.2.output, HA3.out.2.size, fun j _ hz => HA3.out.2.block j (by omega)⟩
                      have HR8 := Lib.hid (HR7.out.turns ht8 (fun e => by have := HR7.out.lt; omega))
                      have HL8 := Lib.hid ((HL7.out.mono (Z' := fun j => ((j = gb ∨ j = w) ∨ W7.heap.size ≤ j)) (fun j e hj => by
                        rcases e with (e | e) | e
                        · exact .inl (.inl e)
                        · exact .inr e
                        · omega)).keep (ht8.mono (fun j e => .inr e)) (fun j e => by
                        have h2 := HSZ.out; have h3 := HLS.out; have h4 := HWB.out; have h5 := HLB.out.1; have h6 := HS7.out; have h7 := HBW.out
                        rcases e with (e | e) | e
                        · rw [e]; omega
                        · rw [e]; omega
                        · omega))
                      have HS8 : Hid (W7.heap.size ≤ w3.heap.size) := Lib.hid ht8.size
                      clear ht8 HL7 HR7 HC7
                      refine (put_walk w3 gb n p ((ordK (keptB keep) k).foldl (stepL s.pend torn last) L) x HR8.out HLW.out HXF.out (by omega)).mono ?_
                      rintro e W9 ⟨rfl, hr, ht⟩
                      have HR9 := Lib.hid hr
                      have HL9 := Lib.hid (HL8.out.keep (ht.mono (fun j e => .inl (.inl e))) (fun j e => by
                        have h2 := HSZ.out; have h3 := HLS.out; have h4 := HWB.out; have h5 := HLB.out.1; have h6 := HS7.out; have h7 := HBW.out
                        rcases e with (e | e) | e
                        · rw [e]; omega
                        · rw [e]; omega
                        · omega))
                      have HO9 := Lib.hid (HA3.out.1.turns ht (fun j e q => by have h1 := (HA3.out.1.lt j e).1; have h2 := HS7.out; have h3 := HLB.out.1; omega))
                      have HB9 : Hid (B ≤ W9.heap.size) := Lib.hid (by have := ht.size; have := HS7.out; have := HS8.out; omega)
                      clear hr ht HR8 HL8
                      go_wp2_with fail
                      have hfin : (ordK (keptB keep) (k + 1)).foldl (stepL (s.wr p x).pend torn last) L = patch ((ordK (keptB keep) k).foldl (stepL s.pend torn last) L) p (x).data.toList := by
                        rw [ordK_succ, HF.out, if_pos rfl, List.foldl_append, HFO.out, List.foldl_cons, List.foldl_nil]
                        unfold stepL
                        rw [HPE.out, List.getElem?_append_right (by rw [HCC.out.2.2.1]; exact Nat.le_refl _), HCC.out.2.2.1, Nat.sub_self, List.getElem?_cons_zero]
                        exact HST3.out _
                      refine ⟨⟨k + 1, m + 1, s.wr p x, rA, rc, rfl, by omega, rfl, ?_, Lib.hid ⟨HCN.out.1, HCN.out.2.1, HCN.out.2.2, ?_⟩, ?_, Lib.hid ?_, ?_, HB9.out⟩, by simp [intOf]; omega⟩
                      · refine HL9.out.mono (fun j e _ => ?_)
                        rcases e with e | e
                        · exact .inl (.inl e)
                        · exact .inr (HA3.out.1.lt j e).1
                      · rw [ordK_succ, HF.out, if_pos rfl, List.length_append, HML2.out]; rfl
                      · rw [hfin]; exact HR9.out
                      · rw [hfin, patch_length (by rw [HLW.out]; have := HXF.out; simpa using this)]; exact HLW.out
                      · rw [ordK_succ, HF.out, if_pos rfl, List.reverse_append]
                        exact HO9.out.base (B' := B) HS7.out
                · have d3 : decide ((k : Int) < (keep.length : Int)) = false := by simp; omega
                  have HF : Hid (keptB keep k = false) := Lib.hid (by unfold keptB; rw [List.getD_eq_getElem?_getD, List.getElem?_eq_none (by omega)]; rfl)
                  go_wp2_with fail
                  exact ⟨⟨k + 1, m, s.wr p x, oA, oc, rfl, by omega, rfl, HL7.out.mono (fun j e _ => .inl e), Lib.hid ⟨HCN.out.1, HCN.out.2.1, HCN.out.2.2, by rw [ordK_succ, HF.out, if_neg (by simp), List.append_nil]; exact HCC.out.2.2.2⟩, by rw [ordK_succ, HF.out, if_neg (by simp), List.append_nil, HFO.out]; exact HR7.out, by rw [ordK_succ, HF.out, if_neg (by simp), List.append_nil, HFO.out]; exact HLW, by rw [ordK_succ, HF.out, if_neg (by simp), List.append_nil]; exact HO7.out, HS7.out⟩, by simp [intOf]; omega⟩
              · obtain rfl : K = k := by omega
                clear hlk hk
                obtain ⟨X, hX⟩ : ∃ X, (ordK (keptB keep) K).foldl (stepL s.pend torn last) L = X := ⟨_, rfl⟩
                have HM : Hid (((ordK (keptB keep) K).reverse.map fun (i : Nat) => (i : Int)).length = m) := Lib.hid (by rw [List.length_map, List.length_reverse]; exact HCC.out.2.2.2.symm)
                have HM20 : Hid (m ≤ 1000000) := Lib.hid (by have h1 := ordK_length (keptB keep) K; have := HK20.out; rw [HCC.out.2.2.2]; omega)
                have hcr : s.crash ((ordK (keptB keep) K).reverse.map fun (i : Nat) => (i : Int)) torn = ⟨false, 0, X, X, []⟩ := by
                  unfold DS.crash
                  rw [HCC.out.2.2.1, ordS_rev, crashF_last, HLAST.out, HCC.out.2.1, hX]
                have HCR := Lib.hid hcr
                rw [hX] at HRk HLW
                have hcv := HRk.out.convert (P := Try.prog) (cap := n) HLW.out 40 9 5 Try.underlying40 Try.underlying5 Try.underlying9
                clear hX hcr
                go_wp2_with fail
                refine (crash_L HLk.out oA ((ordK (keptB keep) K).reverse.map fun (i : Nat) => (i : Int)) m oc HM.out HM20.out HO.out.lat torn (by rw [HCC.out.2.2.1]; have := HK20.out; omega)).mono ?_
                rw [HCR.out]
                rintro e W7 ⟨rfl, hl, ht⟩
                have HL7 := Lib.hid hl
                have HR7 := Lib.hid (HRk.out.turns ht (fun e => e (.inl rfl)))
                clear hl ht hcv HLk HRk
                have HC5 : Hid (DS.Calm ⟨false, 0, X, X, []⟩ n 0) := Lib.hid ⟨rfl, rfl, Nat.le_refl _, HLW.out⟩
                go_wp2_with fail
                refine (read_L HL7.out 0 n).mono ?_
                rw [HC5.out.read]
                rintro e W9 ⟨rfl, rfl⟩
                have hcv := HR7.out.convert (P := Try.prog) (cap := n) HLW.out 40 9 5 Try.underlying40 Try.underlying5 Try.underlying9
                obtain ⟨T2, hT2⟩ : ∃ T2 : ByteArray, ⟨X.toArray⟩ = T2 := ⟨_, rfl⟩
                rw [hT2] at hcv ⊢
                clear hT2
                go_wp2_with fail
                go_ret
                exact ⟨rfl, HL7.out.below⟩
          · have d1 : decide ((K : Int) < (l.length : Int)) = false := by simp; omega
            obtain ⟨B, hB⟩ : ∃ B, W5.heap.size = B := ⟨_, rfl⟩
            have HLB : Hid (gb < B ∧ B ≤ W5.heap.size) := Lib.hid ⟨by rw [← hB]; exact HR5.out.lt, by omega⟩
            clear hB
            go_wp2_with fail
            go_loopw [16, 17, 18, 19] (fun u v _ _ wr => ∃ (k m : Nat) (s : DS) (oA : Option Addr) (oc : Nat), u = .slice oA m oc ∧ k ≤ K ∧ v = .int .i64 (k : Int) ∧ Lives W (fun j => j = gb ∨ (Value.slice oA m oc).ownBlock = some j) wr d gd gv n s ∧ Hid (s.Calm n k ∧ s.dur = L ∧ s.pend.length = k ∧ m = (ordK (keptB keep) k).length) ∧
              RAt wr gb bv ((ordK (keptB keep) k).foldl (stepL s.pend torn last) L) ∧ Hid (((ordK (keptB keep) k).foldl (stepL s.pend torn last) L).length = n) ∧ OL wr B 3 1 (one iv) (.slice oA m oc) ((ordK (keptB keep) k).reverse.map fun (i : Nat) => (i : Int)) ∧ B ≤ wr.heap.size) (fun _ v _ _ _ => K - (intOf v).toNat)
            case atStart => exact ⟨0, 0, ⟨false, 0, L, L, []⟩, none, 0, rfl, by omega, rfl, HL5.out.mono (fun j e _ => by rcases e with e | e; exact e; cases e), Lib.hid ⟨⟨rfl, rfl, Nat.le_refl _, HLL.out⟩, rfl, rfl, rfl⟩, HR5.out, HLL, OL.nil, HLB.out.2⟩
            case round =>
              obtain ⟨k, m, s, oA, oc, rfl, hk, rfl, hL, HCC, hr, HLW, ho, hB2⟩ := hrel
              have HLk := Lib.hid hL
              have HLS := Lib.hid hL.size
              have HRk := Lib.hid hr
              have HO := Lib.hid ho
              have HB2 := Lib.hid hB2
              have HC := Lib.hid HCC.out.1
              clear hL hr HL5 HR5 ho hB2
              by_cases hlk : k < K
              · have hlt : k < l.length := by have := HK20.out; omega
                have hlt2 : k < 20 := by have := HK20.out; omega
                replace d1 : decide ((k : Int) < (l.length : Int)) = true := by simp [hlt]
                have d2 : decide ((k : Int) < 20) = true := by simp; omega
                obtain ⟨a, rfl, hab, hac⟩ := (HA.out.below HLk.out.below).get hlt
                obtain ⟨y, hy⟩ : ∃ y, l[k] = y := ⟨_, rfl⟩
                rw [hy] at hac
                have HY := Lib.hid (HOK.out y (by rw [← hy]; exact List.getElem_mem hlt))
                obtain ⟨yo, ys, yb⟩ := y
                have c0 := hac 0 _ rfl
                have c1 := hac 1 _ rfl
                have c2 := hac 2 _ rfl
                rw [Nat.add_zero] at c0
                rw [add_field a (k * 3) 0] at c1
                rw [add_field a (k * 3) 1] at c2
                rw [Nat.zero_add] at c1
                have y1 : (0 : Int) ≤ (k : Int) := by omega
                have y2 : (k : Int) < (l.length : Int) := by omega
                have w2 : IntKind.i64.wrap ((k : Int) + 1) = ((k + 1 : Nat) : Int) := by rw [IntKind.wrap_i64]; omega
                clear hac
                clear hy
                go_wp2_with fail
                obtain ⟨pr1, pr2⟩ := pickZ_range yo (n := ((n + 1 : Nat) : Int)) (by omega)
                obtain ⟨p, hp⟩ : ∃ p : Nat, pickZ yo ((n + 1 : Nat) : Int) = (p : Int) := ⟨(pickZ yo ((n + 1 : Nat) : Int)).toNat, by omega⟩
                have hys := HY.out.2.2
                unfold maxLen at hys
                refine (fits_walk wr yo ys yb n p HY.out.1 HY.out.2.1 (by dsimp only at hys; omega) (by omega) hp).mono ?_
                rw [hp] at pr1 pr2
                obtain ⟨x, hx⟩ : ∃ x, lcut ys (n - p) = x := ⟨_, rfl⟩
                rw [hx]
                have HFIT : Hid (p + x.size ≤ n) := Lib.hid (by have := lcut_size ys (n - p); rw [hx] at this; omega)
                have HXP := Lib.hid (And.intro hp hx)
                clear hp hx pr1 pr2 hys c0 c1 c2
                rintro e W4 ⟨rfl, hb4⟩
                have HL6 := Lib.hid (((HLk.out.quiet (Turns.of_below hb4)).mono (Z' := fun j => (j = gb ∨ (Value.slice oA m oc).ownBlock = some j) ∨ j = W4.heap.size) (fun j e hj => by rcases e with e | e; exact e; omega)).quiet (Turns.alloc W4 (.cells #[.int .i64 (p : Int), .string x, .bool yb] 53)))
                have HT6 := Lib.hid ((Turns.of_below (Z := fun _ => False) hb4).trans (Turns.alloc W4 (.cells #[.int .i64 (p : Int), .string x, .bool yb] 53)))
                have HWB := Lib.hid hb4.size
                go_wp2_with fail
                obtain ⟨w, hw⟩ : ∃ w, W4.heap.size = w := ⟨_, rfl⟩
                obtain ⟨W6, hW6⟩ : ∃ W6, W4.alloc (.cells #[.int .i64 (p : Int), .string x, .bool yb] 53) = W6 := ⟨_, rfl⟩
                have HC6 : Hid (RecAt W6 w p x yb) := Lib.hid (by
                  rw [← hW6, ← hw]
                  exact ⟨by rw [World.size_alloc]; omega, by simp, by simp, by simp⟩)
                rw [hw] at HL6 HWB ⊢
                rw [hW6] at HL6 HT6 ⊢
                have HR6 : Hid (RAt W6 gb bv ((ordK (keptB keep) k).foldl (stepL s.pend torn last) L)) := Lib.hid (HRk.out.turns HT6.out (fun e => e))
                have HGW : Hid (gb < w) := Lib.hid (Nat.lt_of_lt_of_le HRk.out.lt HWB.out)
                clear HRk
                have HO6 := Lib.hid (HO.out.turns HT6.out (fun _ _ e => e))
                have HBW : Hid (B ≤ w) := Lib.hid (Nat.le_trans HB2.out HWB.out)
                clear hw hW6 hb4 HLk HT6 HO
                have d0 := HC6.out.c0
                have d1' := HC6.out.c1
                have d2' := HC6.out.c2
                go_wp2_with fail
                refine (write_L HL6.out (fun j e => by rcases e with (e | e) | e; (rw [e]; exact HR6.out.lt); exact (HO6.out.lt j e).2; (rw [e]; exact HC6.out.lt)) p x (by have := HFIT.out; omega) (by have := HC.out.pend; omega) (by rw [HC.out.left]; omega)).mono ?_
                rw [HC.out.writeE HFIT.out]
                rintro e W7 ⟨rfl, hl, ht⟩
                have HR7 := Lib.hid (HR6.out.turns ht (fun e => e (.inl (.inl rfl))))
                have HC7 := Lib.hid (HC6.out.turns ht (fun e => e (.inr rfl)))
                have HO7 := Lib.hid (HO6.out.turns ht (fun j e q => q (.inl (.inr e))))
                have HL7 := Lib.hid hl
                have HS7 : Hid (B ≤ W7.heap.size) := Lib.hid (by have := ht.size; have := HC6.out.lt; have := HBW.out; omega)
                have HKB7 : Hid (LAt W7 W.heap.size kA boolV keep) := Lib.hid (HKE.out.below hl.below)
                clear hl ht HL6 HR6 HC6 HO6 d0 d1' d2'
                have hpe : (s.wr p x).pend = s.pend ++ [(p, x)] := by rw [HC.out.wr HFIT.out]
                have hdu : (s.wr p x).dur = L := by rw [HC.out.wr HFIT.out]; exact HCC.out.2.1
                have HPE := Lib.hid hpe
                have hfold : (ordK (keptB keep) k).foldl (stepL (s.wr p x).pend torn last) L = (ordK (keptB keep) k).foldl (stepL s.pend torn last) L := by
                  rw [hpe]
                  have := stepL_more s.pend (p, x) torn last L (keptB keep)
                  rw [HCC.out.2.2.1] at this
                  exact this
                have HFO := Lib.hid hfold
                have HCN : Hid ((s.wr p x).Calm n (k + 1) ∧ (s.wr p x).dur = L ∧ (s.wr p x).pend.length = k + 1) := Lib.hid ⟨HC.out.step HFIT.out, hdu, by rw [hpe, List.length_append, HCC.out.2.2.1]; rfl⟩
                clear hpe hdu hfold
                have d0 := HC7.out.c0
                have d1' := HC7.out.c1
                by_cases hkk : k < keep.length
                · have d3 : decide ((k : Int) < (keep.length : Int)) = true := by simp [hkk]
                  obtain ⟨a2, rfl, hab2, hac⟩ := HKB7.out.get hkk
                  unfold boolV at hac
                  have y5 : (0 : Int) ≤ (k : Int) := by omega
                  have y6 : (k : Int) < (keep.length : Int) := by omega
                  obtain ⟨kb, hkb⟩ : ∃ kb, keep[k] = kb := ⟨_, rfl⟩
                  rw [hkb] at hac
                  have HF : Hid (keptB keep k = kb) := Lib.hid (by unfold keptB; rw [List.getD_eq_getElem?_getD, List.getElem?_eq_getElem hkk, hkb]; rfl)
                  clear hkb
                  cases kb
                  · go_wp2_with fail
                    exact ⟨⟨k + 1, m, s.wr p x, oA, oc, rfl, by omega, rfl, HL7.out.mono (fun j e _ => .inl e), Lib.hid ⟨HCN.out.1, HCN.out.2.1, HCN.out.2.2, by rw [ordK_succ, HF.out, if_neg (by simp), List.append_nil]; exact HCC.out.2.2.2⟩, by rw [ordK_succ, HF.out, if_neg (by simp), List.append_nil, HFO.out]; exact HR7.out, by rw [ordK_succ, HF.out, if_neg (by simp), List.append_nil, HFO.out]; exact HLW, by rw [ordK_succ, HF.out, if_neg (by simp), List.append_nil]; exact HO7.out, HS7.out⟩, by simp [intOf]; omega⟩
                  · have HML : Hid (((ordK (keptB keep) k).reverse.map fun (i : Nat) => (i : Int)).length = m) := Lib.hid (by rw [List.length_map, List.length_reverse]; exact HCC.out.2.2.2.symm)
                    have HML2 : Hid ((ordK (keptB keep) k).length = m) := Lib.hid HCC.out.2.2.2.symm
                    have hm20 : m ≤ 20 := by have h1 := ordK_length (keptB keep) k; rw [HML2.out] at h1; omega
                    by_cases hkl : (k : Int) = last
                    · have g1 : ((k : Int) == last) = true := by simp [hkl]
                      by_cases ht0 : 0 ≤ torn
                      · obtain ⟨tn, rfl⟩ : ∃ tn : Nat, torn = tn := ⟨torn.toNat, by omega⟩
                        have g2 : decide (0 ≤ (tn : Int)) = true := by simp
                        have HST3 : Hid (∀ D : List UInt8, stepO (fun d (y : Nat × ByteArray) => patch d y.1 (if (k : Int) = last then tornS (tn : Int) y.2 else y.2).data.toList) D (some (p, x)) = patch D p (lcut x tn).data.toList) := Lib.hid (fun D => by
                          have := lcut_torn ht0 x
                          rw [Int.toNat_natCast] at this
                          simp only [stepO, hkl, if_true, this])
                        have HXF : Hid (p + (lcut x tn).size ≤ n) := Lib.hid (by have h1 := tornS_le (tn : Int) x; have := lcut_torn ht0 x; rw [Int.toNat_natCast] at this; rw [this]; have := HFIT.out; omega)
                        clear hkl ht0
                        go_wp2_with (first
                          | (at_builtin
                             go_must (refine wpList_cat rfl (.tmp 113) (.tmp 114) 37 rfl elemI (fun _ => rfl) _ [(k : Int)] rfl (OL.lit1 (B := W7.heap.size) W7 (k : Int) (Nat.le_refl _)) oA ((ordK (keptB keep) k).reverse.map fun (i : Nat) => (i : Int)) m oc HML.out rfl HO7.out.cap0 (HO7.out.cat _) (fun y _ u hu => by rw [List.mem_singleton.1 hu]; rfl) (by show 1 + m ≤ maxLen; unfold maxLen; omega) (by show (1 + m) * 8 ≤ _; omega) (by simp) ?_)
                             intro v3 w3 h3 hg3 hb3
                             obtain ⟨rA, rc, hv3, -, -⟩ := h3.slice
                             rw [show ([(k : Int)] ++ (ordK (keptB keep) k).reverse.map fun (i : Nat) => (i : Int)).length = m + 1 by rw [List.length_append, HML.out]; simp; omega] at hv3
                             subst hv3
                             have HA3 := Lib.hid (And.intro h3 hb3)
                             have hc8 := (HC7.out.turns ((Turns.alloc (Z := fun j => W7.heap.size ≤ j) W7 (.cells #[.int .i64 (k : Int)] 3)).trans ⟨hb3.os, hb3.tape, hb3.output, hb3.size, fun j _ hz => hb3.block j (by omega)⟩) (fun e => by have := HC7.out.lt; omega))
                             have HC8 := Lib.hid hc8
                             clear d0 d1' hg3 hb3 h3
                             have d0 := hc8.c0
                             have d1' := hc8.c1
                             clear hc8)
                          | fail)
                        have ht8 : Turns (fun j => W7.heap.size ≤ j) W7 w3 := (Turns.alloc (Z := fun j => W7.heap.size ≤ j) W7 (.cells #[.int .i64 (k : Int)] 3)).trans ⟨HA3.out.2.os, HA3.out.2.tape, HA3.out.2.output, HA3.out.2.size, fun j _ hz => HA3.out.2.block j (by omega)⟩
                        have HR8 := Lib.hid (HR7.out.turns ht8 (fun e => by have := HR7.out.lt; omega))
                        have HL8 := Lib.hid ((HL7.out.mono (Z' := fun j => ((j = gb ∨ j = w) ∨ W7.heap.size ≤ j)) (fun j e hj => by
                          rcases e with (e | e) | e
                          · exact .inl (.inl e)
                          · exact .inr e
                          · omega)).keep (ht8.mono (fun j e => .inr e)) (fun j e => by
                          have h2 := HSZ.out; have h3 := HLS.out; have h4 := HWB.out; have h5 := HLB.out.1; have h6 := HS7.out; have h7 := HBW.out
                          rcases e with (e | e) | e
                          · rw [e]; omega
                          · rw [e]; omega
                          · omega))
                        have HS8 : Hid (W7.heap.size ≤ w3.heap.size) := Lib.hid ht8.size
                        clear ht8 HL7 HR7 HC7
                        refine (lcut_walk w3 x tn (by have := HFIT.out; omega)).mono ?_
                        rintro e w4 ⟨rfl, rfl⟩
                        go_wp2_with fail
                        refine (put_walk w3 gb n p ((ordK (keptB keep) k).foldl (stepL s.pend (tn : Int) last) L) (lcut x tn) HR8.out HLW.out HXF.out (by omega)).mono ?_
                        rintro e W9 ⟨rfl, hr, ht⟩
                        have HR9 := Lib.hid hr
                        have HL9 := Lib.hid (HL8.out.keep (ht.mono (fun j e => .inl (.inl e))) (fun j e => by
                          have h2 := HSZ.out; have h3 := HLS.out; have h4 := HWB.out; have h5 := HLB.out.1; have h6 := HS7.out; have h7 := HBW.out
                          rcases e with (e | e) | e
                          · rw [e]; omega
                          · rw [e]; omega
                          · omega))
                        have HO9 := Lib.hid (HA3.out.1.turns ht (fun j e q => by have h1 := (HA3.out.1.lt j e).1; have h2 := HS7.out; have h3 := HLB.out.1; omega))
                        have HB9 : Hid (B ≤ W9.heap.size) := Lib.hid (by have := ht.size; have := HS7.out; have := HS8.out; omega)
                        clear hr ht HR8 HL8
                        go_wp2_with fail
                        have hfin : (ordK (keptB keep) (k + 1)).foldl (stepL (s.wr p x).pend (tn : Int) last) L = patch ((ordK (keptB keep) k).foldl (stepL s.pend (tn : Int) last) L) p ((lcut x tn)).data.toList := by
                          rw [ordK_succ, HF.out, if_pos rfl, List.foldl_append, HFO.out, List.foldl_cons, List.foldl_nil]
                          unfold stepL
                          rw [HPE.out, List.getElem?_append_right (by rw [HCC.out.2.2.1]; exact Nat.le_refl _), HCC.out.2.2.1, Nat.sub_self, List.getElem?_cons_zero]
                          exact HST3.out _
                        refine ⟨⟨k + 1, m + 1, s.wr p x, rA, rc, rfl, by omega, rfl, ?_, Lib.hid ⟨HCN.out.1, HCN.out.2.1, HCN.out.2.2, ?_⟩, ?_, Lib.hid ?_, ?_, HB9.out⟩, by simp [intOf]; omega⟩
                        · refine HL9.out.mono (fun j e _ => ?_)
                          rcases e with e | e
                          · exact .inl (.inl e)
                          · exact .inr (HA3.out.1.lt j e).1
                        · rw [ordK_succ, HF.out, if_pos rfl, List.length_append, HML2.out]; rfl
                        · rw [hfin]; exact HR9.out
                        · rw [hfin, patch_length (by rw [HLW.out]; have := HXF.out; simpa using this)]; exact HLW.out
                        · rw [ordK_succ, HF.out, if_pos rfl, List.reverse_append]
                          exact HO9.out.base (B' := B) HS7.out
                      · have g2 : decide (0 ≤ torn) = false := by simp; omega
                        have HST3 : Hid (∀ D : List UInt8, stepO (fun d (y : Nat × ByteArray) => patch d y.1 (if (k : Int) = last then tornS torn y.2 else y.2).data.toList) D (some (p, x)) = patch D p x.data.toList) := Lib.hid (fun D => by
                          simp only [stepO, hkl, if_true, tornS, if_neg ht0])
                        have HXF := HFIT
                        clear hkl ht0
                        go_wp2_with (first
                          | (at_builtin
                             go_must (refine wpList_cat rfl (.tmp 113) (.tmp 114) 37 rfl elemI (fun _ => rfl) _ [(k : Int)] rfl (OL.lit1 (B := W7.heap.size) W7 (k : Int) (Nat.le_refl _)) oA ((ordK (keptB keep) k).reverse.map fun (i : Nat) => (i : Int)) m oc HML.out rfl HO7.out.cap0 (HO7.out.cat _) (fun y _ u hu => by rw [List.mem_singleton.1 hu]; rfl) (by show 1 + m ≤ maxLen; unfold maxLen; omega) (by show (1 + m) * 8 ≤ _; omega) (by simp) ?_)
                             intro v3 w3 h3 hg3 hb3
                             obtain ⟨rA, rc, hv3, -, -⟩ := h3.slice
                             rw [show ([(k : Int)] ++ (ordK (keptB keep) k).reverse.map fun (i : Nat) => (i : Int)).length = m + 1 by rw [List.length_append, HML.out]; simp; omega] at hv3
                             subst hv3
                             have HA3 := Lib.hid (And.intro h3 hb3)
                             have hc8 := (HC7.out.turns ((Turns.alloc (Z := fun j => W7.heap.size ≤ j) W7 (.cells #[.int .i64 (k : Int)] 3)).trans ⟨hb3.os, hb3.tape, hb3.output, hb3.size, fun j _ hz => hb3.block j (by omega)⟩) (fun e => by have := HC7.out.lt; omega))
                             have HC8 := Lib.hid hc8
                             clear d0 d1' hg3 hb3 h3
                             have d0 := hc8.c0
                             have d1' := hc8.c1
                             clear hc8)
                          | fail)
                        have ht8 : Turns (fun j => W7.heap.size ≤ j) W7 w3 := (Turns.alloc (Z := fun j => W7.heap.size ≤ j) W7 (.cells #[.int .i64 (k : Int)] 3)).trans ⟨HA3.out.2.os, HA3.out.2.tape, HA3.out.2.output, HA3.out.2.size, fun j _ hz => HA3.out.2.block j (by omega)⟩
                        have HR8 := Lib.hid (HR7.out.turns ht8 (fun e => by have := HR7.out.lt; omega))
                        have HL8 := Lib.hid ((HL7.out.mono (Z' := fun j => ((j = gb ∨ j = w) ∨ W7.heap.size ≤ j)) (fun j e hj => by
                          rcases e with (e | e) | e
                          · exact .inl (.inl e)
                          · exact .inr e
                          · omega)).keep (ht8.mono (fun j e => .inr e)) (fun j e => by
                          have h2 := HSZ.out; have h3 := HLS.out; have h4 := HWB.out; have h5 := HLB.out.1; have h6 := HS7.out; have h7 := HBW.out
                          rcases e with (e | e) | e
                          · rw [e]; omega
                          · rw [e]; omega
                          · omega))
                        have HS8 : Hid (W7.heap.size ≤ w3.heap.size) := Lib.hid ht8.size
                        clear ht8 HL7 HR7 HC7
                        refine (put_walk w3 gb n p ((ordK (keptB keep) k).foldl (stepL s.pend torn last) L) x HR8.out HLW.out HXF.out (by omega)).mono ?_
                        rintro e W9 ⟨rfl, hr, ht⟩
                        have HR9 := Lib.hid hr
                        have HL9 := Lib.hid (HL8.out.keep (ht.mono (fun j e => .inl (.inl e))) (fun j e => by
                          have h2 := HSZ.out; have h3 := HLS.out; have h4 := HWB.out; have h5 := HLB.out.1; have h6 := HS7.out; have h7 := HBW.out
                          rcases e with (e | e) | e
                          · rw [e]; omega
                          · rw [e]; omega
                          · omega))
                        have HO9 := Lib.hid (HA3.out.1.turns ht (fun j e q => by have h1 := (HA3.out.1.lt j e).1; have h2 := HS7.out; have h3 := HLB.out.1; omega))
                        have HB9 : Hid (B ≤ W9.heap.size) := Lib.hid (by have := ht.size; have := HS7.out; have := HS8.out; omega)
                        clear hr ht HR8 HL8
                        go_wp2_with fail
                        have hfin : (ordK (keptB keep) (k + 1)).foldl (stepL (s.wr p x).pend torn last) L = patch ((ordK (keptB keep) k).foldl (stepL s.pend torn last) L) p (x).data.toList := by
                          rw [ordK_succ, HF.out, if_pos rfl, List.foldl_append, HFO.out, List.foldl_cons, List.foldl_nil]
                          unfold stepL
                          rw [HPE.out, List.getElem?_append_right (by rw [HCC.out.2.2.1]; exact Nat.le_refl _), HCC.out.2.2.1, Nat.sub_self, List.getElem?_cons_zero]
                          exact HST3.out _
                        refine ⟨⟨k + 1, m + 1, s.wr p x, rA, rc, rfl, by omega, rfl, ?_, Lib.hid ⟨HCN.out.1, HCN.out.2.1, HCN.out.2.2, ?_⟩, ?_, Lib.hid ?_, ?_, HB9.out⟩, by simp [intOf]; omega⟩
                        · refine HL9.out.mono (fun j e _ => ?_)
                          rcases e with e | e
                          · exact .inl (.inl e)
                          · exact .inr (HA3.out.1.lt j e).1
                        · rw [ordK_succ, HF.out, if_pos rfl, List.length_append, HML2.out]; rfl
                        · rw [hfin]; exact HR9.out
                        · rw [hfin, patch_length (by rw [HLW.out]; have := HXF.out; simpa using this)]; exact HLW.out
                        · rw [ordK_succ, HF.out, if_pos rfl, List.reverse_append]
                          exact HO9.out.base (B' := B) HS7.out
                    · have g1 : ((k : Int) == last) = false := by simp [hkl]
                      have HST3 : Hid (∀ D : List UInt8, stepO (fun d (y : Nat × ByteArray) => patch d y.1 (if (k : Int) = last then tornS torn y.2 else y.2).data.toList) D (some (p, x)) = patch D p x.data.toList) := Lib.hid (fun D => by
                        simp only [stepO, hkl, if_false])
                      have HXF := HFIT
                      clear hkl
                      go_wp2_with (first
                        | (at_builtin
                           go_must (refine wpList_cat rfl (.tmp 113) (.tmp 114) 37 rfl elemI (fun _ => rfl) _ [(k : Int)] rfl (OL.lit1 (B := W7.heap.size) W7 (k : Int) (Nat.le_refl _)) oA ((ordK (keptB keep) k).reverse.map fun (i : Nat) => (i : Int)) m oc HML.out rfl HO7.out.cap0 (HO7.out.cat _) (fun y _ u hu => by rw [List.mem_singleton.1 hu]; rfl) (by show 1 + m ≤ maxLen; unfold maxLen; omega) (by show (1 + m) * 8 ≤ _; omega) (by simp) ?_)
                           intro v3 w3 h3 hg3 hb3
                           obtain ⟨rA, rc, hv3, -, -⟩ := h3.slice
                           rw [show ([(k : Int)] ++ (ordK (keptB keep) k).reverse.map fun (i : Nat) => (i : Int)).length = m + 1 by rw [List.length_append, HML.out]; simp; omega] at hv3
                           subst hv3
                           have HA3 := Lib.hid (And.intro h3 hb3)
                           have hc8 := (HC7.out.turns ((Turns.alloc (Z := fun j => W7.heap.size ≤ j) W7 (.cells #[.int .i64 (k : Int)] 3)).trans ⟨hb3.os, hb3.tape, hb3.output, hb3.size, fun j _ hz => hb3.block j (by omega)⟩) (fun e => by have := HC7.out.lt; omega))
                           have HC8 := Lib.hid hc8
                           clear d0 d1' hg3 hb3 h3
                           have d0 := hc8.c0
                           have d1' := hc8.c1
                           clear hc8)
                        | fail)
                      have ht8 : Turns (fun j => W7.heap.size ≤ j) W7 w3 := (Turns.alloc (Z := fun j => W7.heap.size ≤ j) W7 (.cells #[.int .i64 (k : Int)] 3)).trans ⟨HA3.out.2.os, HA3.out.2.tape, HA3.out.2.output, HA3.out.2.size, fun j _ hz => HA3.out.2.block j (by omega)⟩
                      have HR8 := Lib.hid (HR7.out.turns ht8 (fun e => by have := HR7.out.lt; omega))
                      have HL8 := Lib.hid ((HL7.out.mono (Z' := fun j => ((j = gb ∨ j = w) ∨ W7.heap.size ≤ j)) (fun j e hj => by
                        rcases e with (e | e) | e
                        · exact .inl (.inl e)
                        · exact .inr e
                        · omega)).keep (ht8.mono (fun j e => .inr e)) (fun j e => by
                        have h2 := HSZ.out; have h3 := HLS.out; have h4 := HWB.out; have h5 := HLB.out.1; have h6 := HS7.out; have h7 := HBW.out
                        rcases e with (e | e) | e
                        · rw [e]; omega
                        · rw [e]; omega
                        · omega))
                      have HS8 : Hid (W7.heap.size ≤ w3.heap.size) := Lib.hid ht8.size
                      clear ht8 HL7 HR7 HC7
                      refine (put_walk w3 gb n p ((ordK (keptB keep) k).foldl (stepL s.pend torn last) L) x HR8.out HLW.out HXF.out (by omega)).mono ?_
                      rintro e W9 ⟨rfl, hr, ht⟩
                      have HR9 := Lib.hid hr
                      have HL9 := Lib.hid (HL8.out.keep (ht.mono (fun j e => .inl (.inl e))) (fun j e => by
                        have h2 := HSZ.out; have h3 := HLS.out; have h4 := HWB.out; have h5 := HLB.out.1; have h6 := HS7.out; have h7 := HBW.out
                        rcases e with (e | e) | e
                        · rw [e]; omega
                        · rw [e]; omega
                        · omega))
                      have HO9 := Lib.hid (HA3.out.1.turns ht (fun j e q => by have h1 := (HA3.out.1.lt j e).1; have h2 := HS7.out; have h3 := HLB.out.1; omega))
                      have HB9 : Hid (B ≤ W9.heap.size) := Lib.hid (by have := ht.size; have := HS7.out; have := HS8.out; omega)
                      clear hr ht HR8 HL8
                      go_wp2_with fail
                      have hfin : (ordK (keptB keep) (k + 1)).foldl (stepL (s.wr p x).pend torn last) L = patch ((ordK (keptB keep) k).foldl (stepL s.pend torn last) L) p (x).data.toList := by
                        rw [ordK_succ, HF.out, if_pos rfl, List.foldl_append, HFO.out, List.foldl_cons, List.foldl_nil]
                        unfold stepL
                        rw [HPE.out, List.getElem?_append_right (by rw [HCC.out.2.2.1]; exact Nat.le_refl _), HCC.out.2.2.1, Nat.sub_self, List.getElem?_cons_zero]
                        exact HST3.out _
                      refine ⟨⟨k + 1, m + 1, s.wr p x, rA, rc, rfl, by omega, rfl, ?_, Lib.hid ⟨HCN.out.1, HCN.out.2.1, HCN.out.2.2, ?_⟩, ?_, Lib.hid ?_, ?_, HB9.out⟩, by simp [intOf]; omega⟩
                      · refine HL9.out.mono (fun j e _ => ?_)
                        rcases e with e | e
                        · exact .inl (.inl e)
                        · exact .inr (HA3.out.1.lt j e).1
                      · rw [ordK_succ, HF.out, if_pos rfl, List.length_append, HML2.out]; rfl
                      · rw [hfin]; exact HR9.out
                      · rw [hfin, patch_length (by rw [HLW.out]; have := HXF.out; simpa using this)]; exact HLW.out
                      · rw [ordK_succ, HF.out, if_pos rfl, List.reverse_append]
                        exact HO9.out.base (B' := B) HS7.out
                · have d3 : decide ((k : Int) < (keep.length : Int)) = false := by simp; omega
                  have HF : Hid (keptB keep k = false) := Lib.hid (by unfold keptB; rw [List.getD_eq_getElem?_getD, List.getElem?_eq_none (by omega)]; rfl)
                  go_wp2_with fail
                  exact ⟨⟨k + 1, m, s.wr p x, oA, oc, rfl, by omega, rfl, HL7.out.mono (fun j e _ => .inl e), Lib.hid ⟨HCN.out.1, HCN.out.2.1, HCN.out.2.2, by rw [ordK_succ, HF.out, if_neg (by simp), List.append_nil]; exact HCC.out.2.2.2⟩, by rw [ordK_succ, HF.out, if_neg (by simp), List.append_nil, HFO.out]; exact HR7.out, by rw [ordK_succ, HF.out, if_neg (by simp), List.append_nil, HFO.out]; exact HLW, by rw [ordK_succ, HF.out, if_neg (by simp), List.append_nil]; exact HO7.out, HS7.out⟩, by simp [intOf]; omega⟩
              · obtain rfl : K = k := by omega
                clear hlk hk
                obtain ⟨X, hX⟩ : ∃ X, (ordK (keptB keep) K).foldl (stepL s.pend torn last) L = X := ⟨_, rfl⟩
                have HM : Hid (((ordK (keptB keep) K).reverse.map fun (i : Nat) => (i : Int)).length = m) := Lib.hid (by rw [List.length_map, List.length_reverse]; exact HCC.out.2.2.2.symm)
                have HM20 : Hid (m ≤ 1000000) := Lib.hid (by have h1 := ordK_length (keptB keep) K; have := HK20.out; rw [HCC.out.2.2.2]; omega)
                have hcr : s.crash ((ordK (keptB keep) K).reverse.map fun (i : Nat) => (i : Int)) torn = ⟨false, 0, X, X, []⟩ := by
                  unfold DS.crash
                  rw [HCC.out.2.2.1, ordS_rev, crashF_last, HLAST.out, HCC.out.2.1, hX]
                have HCR := Lib.hid hcr
                rw [hX] at HRk HLW
                have hcv := HRk.out.convert (P := Try.prog) (cap := n) HLW.out 40 9 5 Try.underlying40 Try.underlying5 Try.underlying9
                clear hX hcr
                go_wp2_with fail
                refine (crash_L HLk.out oA ((ordK (keptB keep) K).reverse.map fun (i : Nat) => (i : Int)) m oc HM.out HM20.out HO.out.lat torn (by rw [HCC.out.2.2.1]; have := HK20.out; omega)).mono ?_
                rw [HCR.out]
                rintro e W7 ⟨rfl, hl, ht⟩
                have HL7 := Lib.hid hl
                have HR7 := Lib.hid (HRk.out.turns ht (fun e => e (.inl rfl)))
                clear hl ht hcv HLk HRk
                have HC5 : Hid (DS.Calm ⟨false, 0, X, X, []⟩ n 0) := Lib.hid ⟨rfl, rfl, Nat.le_refl _, HLW.out⟩
                go_wp2_with fail
                refine (read_L HL7.out 0 n).mono ?_
                rw [HC5.out.read]
                rintro e W9 ⟨rfl, rfl⟩
                have hcv := HR7.out.convert (P := Try.prog) (cap := n) HLW.out 40 9 5 Try.underlying40 Try.underlying5 Try.underlying9
                obtain ⟨T2, hT2⟩ : ∃ T2 : ByteArray, ⟨X.toArray⟩ = T2 := ⟨_, rfl⟩
                rw [hT2] at hcv ⊢
                clear hT2
                go_wp2_with fail
                go_ret
                exact ⟨rfl, HL7.out.below⟩

end Go.Proofs.Ytmpjoncemgangaa
