/-
  What Append's walk stands on: a builder, a tape, what Append leaves. Conditions: each law's own.
-/
import Derived.Test.YtllmciiadceinaaGreatDoorJourH
import Derived.Lib.OthersKept
import Derived.Shelf.Strings.BuilderK
namespace Go.Proofs.YtllmciiadceinaaGreatDoor
open Go Go.RowKit Go.Shelf Wr

/-- A builder at block b that holds the bytes l. -/
def BD (W : World) (B b : Nat) (l : List UInt8) : Prop := Lib.IsBuilderF 78 5 B b (Lib.byteCells l) W
theorem BD.shape {W : World} {B b : Nat} {l : List UInt8} (h : BD W B b l) : ∃ p v, W.heap[b]? = some (.cells #[p, v] 78 (0, 0)) ∧ ∀ g, v.ownBlock = some g → ∃ c fz, W.heap[g]? = some (.cells c 5 fz) := by
  rcases h with h | h <;>
  · obtain ⟨hB, v, hbk, hown, hne⟩ := h
    exact ⟨_, v, hbk, Lib.ownsRowF_kind hown⟩
theorem BD.keep {Z : Nat → Prop} {W W' : World} {B b : Nat} {l : List UInt8} (h : BD W B b l) (u : Turns Z W W') (hb : ¬ Z b) (hz : ∀ k cs fz, Z k → W.heap[k]? ≠ some (.cells cs 5 fz)) : BD W' B b l := by
  have aux : ∀ p, Lib.BuilderAtF 78 5 B b p (Lib.byteCells l) W → Lib.BuilderAtF 78 5 B b p (Lib.byteCells l) W' := by
    rintro p ⟨hB, v, hbk, hown, hne⟩
    refine ⟨hB, v, (u.block b (heap_lt' hbk) hb).trans hbk, ?_, hne⟩
    refine ⟨hown.1, ?_⟩
    rcases hown.2 with hn | ⟨g, cap, cur, fz, hv, hbg, hg, r⟩
    · exact .inl hn
    · exact .inr ⟨g, cap, cur, fz, hv, hbg, (u.block g (heap_lt' hg) (fun q => hz g cur fz q hg)).trans hg, r⟩
  rcases h with h | h
  · exact .inl (aux _ h)
  · exact .inr (aux _ h)
where heap_lt' {W : World} {b : Nat} {o : Obj} (h : W.heap[b]? = some o) : b < W.heap.size := (Array.getElem?_eq_some_iff.1 h).1
theorem BD.new (W : World) {B : Nat} (hB : B ≤ W.heap.size) : BD (W.alloc (.cells #[.pointer none, .slice none 0 0] 78)) B W.heap.size [] := by
  refine .inl ⟨hB, .slice none 0 0, World.alloc_heap_new W _, World.ownsRowF_nil _ _ _ _, by simp [Value.ownBlock]⟩
/-- A string is written. -/
theorem bd_write {W : World} {B b : Nat} {l : List UInt8} (h : BD W B b l) (s : ByteArray) (hl : l.length + s.size ≤ 1000000000) (hB : B ≤ W.heap.size) :
    Calls Tryz.prog 37 #[.pointer (some ⟨b, 0, none⟩), .string s] W fun e W' => e = .returned (.tuple #[.int .i64 s.size, .nilIface]) ∧ BD W' B b (l ++ s.data.toList) ∧ Below B W W' ∧ Lib.OthersKept 5 (some b) W W' := by
  refine (Any.Builder_WriteString_k { Tryz.lays156 with } Tryz.Builder_Extra_156 B b (Lib.byteCells l) s W h (by rw [Lib.byteCells_length]; omega) hB).mono ?_
  rintro e W' ⟨rfl, h1, h2, h3⟩
  refine ⟨rfl, .inr ?_, h2, h3⟩
  have : Lib.byteCells l ++ Lib.strCells s = Lib.byteCells (l ++ s.data.toList) := by unfold Lib.byteCells Lib.strCells; simp
  rw [← this]
  exact h1
theorem bd_string {W : World} {B b : Nat} {l : List UInt8} (h : BD W B b l) (hB : B ≤ W.heap.size) :
    Calls Tryz.prog 39 #[.pointer (some ⟨b, 0, none⟩)] W fun e W' => e = .returned (.string ⟨l.toArray⟩) ∧ Below B W W' ∧ Lib.OthersKept 5 (some b) W W' := by
  refine (Tryz.Builder_String_any_k B b l W h hB).mono ?_
  rintro e W' ⟨rfl, h1, h2, h3⟩
  exact ⟨rfl, h2, h3⟩
theorem own_kind {W : World} {B : Nat} {rv : Value} {l : List ByteArray} (h : OL W B 9 1 (one .string) rv l) : ∀ g, rv.ownBlock = some g → ∃ cur, W.heap[g]? = some (.cells cur 9 (0, 0)) := by
  intro g hg
  rcases h.2 with ⟨rfl, _⟩ | ⟨g', cap, cur, rfl, hb, h1, r⟩
  · cases hg
  · cases hg; exact ⟨cur, h1⟩
/-- A tape beside a builder that is written. -/
theorem TapeAt.others {W W' : World} {b B bb : Nat} {rv : Value} {t : TS} {xs : List Value} (h : TapeAt W b rv B t xs) (ok : Lib.OthersKept 5 (some bb) W W') {p v : Value} (hbb : W.heap[bb]? = some (.cells #[p, v] 78 (0, 0))) (hne : b ≠ bb) : TapeAt W' b rv B t xs := by
  obtain ⟨o, ho⟩ : ∃ o, W.heap[b]? = some o := ⟨_, Array.getElem?_eq_getElem h.lt⟩
  have hb : W'.heap[b]? = W.heap[b]? := by rw [ho]; exact ok b o ho (fun e => hne (Option.some.inj e)) (fun c fz e => h.nby c fz (by rw [ho, e]))
  have hg : ∀ g, rv.ownBlock = some g → W'.heap[g]? = W.heap[g]? := fun g hgg => by
    obtain ⟨cur, hc⟩ := own_kind h.own g hgg
    rw [hc]
    refine ok g _ hc (fun e => ?_) (fun c fz e => by injection e with e1 e2 e3; exact absurd e2 (by decide))
    cases e
    rw [hbb] at hc
    injection hc with hc
    injection hc with e1 e2 e3
    exact absurd e2 (by decide)
  have u : Turns (fun k => ¬ (k = b ∨ rv.ownBlock = some k)) W W' → TapeAt W' b rv B t xs := fun u => h.keep u (fun e => e (.inl rfl)) (fun g hgg e => e (.inr hgg))
  exact ⟨(World.cell?_of_block (a := ⟨b, 0, none⟩) hb).trans h.c0, (World.cell?_of_block (a := ⟨b, 1, none⟩) hb).trans h.c1, (World.cell?_of_block (a := ⟨b, 2, none⟩) hb).trans h.c2, fun i => (World.frozen?_of_block (a := ⟨b, i, none⟩) hb).trans (h.fr i),
    h.own.keep hg, h.ne, fun i v hv => (World.cell?_of_block (a := ⟨b, 3 + i, none⟩) hb).trans (h.ex i v hv), fun cs fz q => h.nby cs fz (hb.symm.trans q)⟩

theorem headF_size {h : ByteArray} (hh : h.size = 32) (l : List ByteArray) : (headF h l).size = 32 := by
  induction l generalizing h with
  | nil => exact hh
  | cons r l ih => exact ih (chainS_size _ _)
theorem adds_head (t : TS) (l : List ByteArray) : (t.adds l).head = headF t.head l := by rw [TS.adds_eq]
theorem adds_size (t : TS) (l : List ByteArray) : (t.adds l).size = t.size + (storeL t.head l).length := by rw [TS.adds_eq]
theorem adds_recs (t : TS) (l : List ByteArray) : (t.adds l).recs = t.recs ++ l := by rw [TS.adds_eq]
theorem storeL_le (h : ByteArray) (l : List ByteArray) (ok : ∀ r ∈ l, r.size ≤ 65536) : (storeL h l).length ≤ l.length * 65600 ∧ l.length * 34 ≤ (storeL h l).length := by
  induction l generalizing h with
  | nil => simp [storeL]
  | cons r l ih =>
    have h1 := ih (chainS h r) (fun x hx => ok x (by simp [hx]))
    have h2 := recL_length h r
    have h3 := putL_length r
    have h4 := putI_len9 (ok r (by simp))
    have h5 := ok r (by simp)
    rw [storeL, List.length_append, List.length_cons]
    omega
theorem Good.head32 {n : Nat} {t : TS} (h : Good n t) : t.head.size = 32 := by rw [h.head]; exact headF_size rfl _
theorem store_snoc (t : TS) (l : List ByteArray) (x : ByteArray) : storeL t.head (l ++ [x]) = storeL t.head l ++ recL (t.adds l).head x ∧ t.adds (l ++ [x]) = (t.adds l).add x := by
  refine ⟨?_, ?_⟩
  · rw [storeL_append, storeL, storeL, adds_head, List.append_nil]
  · rw [TS.adds_append]; rfl
theorem TapeAt.setR {W : World} {b B B' : Nat} {rv rv' : Value} {t : TS} {xs : List Value} {l : List ByteArray} (h : TapeAt W b rv B t xs) (ho : OL W B' 9 1 (one .string) rv' l) (hne : ∀ g, rv'.ownBlock = some g → g ≠ b) : TapeAt (W.setCell ⟨b, 0, none⟩ rv') b rv' B' { t with recs := l } xs :=
  ⟨World.cell?_setCell_same _ _ _ (by rw [h.c0]), by rw [World.cell?_setCell_other _ _ _ _ (fun q => by injection q; omega)]; exact h.c1, by rw [World.cell?_setCell_other _ _ _ _ (fun q => by injection q; omega)]; exact h.c2, fun i => by rw [World.frozen?_setCell]; exact h.fr i,
   ho.keep fun g hg => (Turns.setCell (Z := fun k => k = b) W ⟨b, 0, none⟩ _ rfl).block g (ho.lt g hg).2 (hne g hg), hne, fun i v hv => by rw [World.cell?_setCell_other _ _ _ _ (fun q => by injection q; omega)]; exact h.ex i v hv, fun cs fz q => by obtain ⟨cs', q'⟩ := setCell_kind q; exact h.nby cs' fz q'⟩
theorem TapeAt.set0 {W : World} {b B B' : Nat} {rv rv' : Value} {t : TS} {xs : List Value} (h : TapeAt W b rv B t xs) (ho : OL W B' 9 1 (one .string) rv' t.recs) (hne : ∀ g, rv'.ownBlock = some g → g ≠ b) : TapeAt (W.setCell ⟨b, 0, none⟩ rv') b rv' B' t xs := h.setR ho hne
/-- A tape is written whole. -/
theorem TapeAt.put {W : World} {b B B' : Nat} {rv rv' : Value} {t t' : TS} {xs : List Value} (h : TapeAt W b rv B t xs) (ho : OL W B' 9 1 (one .string) rv' t'.recs) (hne : ∀ g, rv'.ownBlock = some g → g ≠ b) :
    TapeAt (((W.setCell ⟨b, 0, none⟩ rv').setCell ⟨b, 1, none⟩ (.string t'.head)).setCell ⟨b, 2, none⟩ (.int .i64 (t'.size : Int))) b rv' B' t' xs := ((h.setR ho hne).set1 t'.head).set2 t'.size
/-- The journal is broken. -/
theorem TapeAt.set4 {W : World} {b B : Nat} {rv x y : Value} {t : TS} (h : TapeAt W b rv B t [x, y]) (z : Value) : TapeAt (W.setCell ⟨b, 4, none⟩ z) b rv B t [x, z] := by
  refine ⟨by rw [World.cell?_setCell_other _ _ _ _ (fun q => by injection q; omega)]; exact h.c0, by rw [World.cell?_setCell_other _ _ _ _ (fun q => by injection q; omega)]; exact h.c1, by rw [World.cell?_setCell_other _ _ _ _ (fun q => by injection q; omega)]; exact h.c2, fun i => by rw [World.frozen?_setCell]; exact h.fr i,
   h.own.keep fun g hg => (Turns.setCell (Z := fun k => k = b) W ⟨b, 4, none⟩ _ rfl).block g (h.own.lt g hg).2 (h.ne g hg), h.ne, fun i v hv => ?_, fun cs fz q => by obtain ⟨cs', q'⟩ := setCell_kind q; exact h.nby cs' fz q'⟩
  match i, hv with
  | 0, hv => rw [World.cell?_setCell_other _ _ _ _ (fun q => by injection q; omega)]; exact h.ex 0 _ hv
  | 1, hv => cases hv; exact World.cell?_setCell_same _ _ _ (by rw [show (⟨b, 4, none⟩ : Addr) = ⟨b, 3 + 1, none⟩ from rfl, h.ex 1 _ rfl])
  | i + 2, hv => simp at hv
/-- A tape that has just been laid. -/
theorem TapeAt.fresh {W : World} {A : Option Addr} {k c : Nat} {t : TS} (h : OL W 0 9 1 (one .string) (.slice A k c) t.recs) : TapeAt (W.alloc (.cells #[.slice A k c, .string t.head, .int .i64 (t.size : Int)] 72)) W.heap.size (.slice A k c) 0 t [] := by
  have hn := World.alloc_heap_new W (.cells #[.slice A k c, .string t.head, .int .i64 (t.size : Int)] 72)
  refine ⟨by rw [Lib.cell_of_heap hn]; rfl, by rw [Lib.cell_of_heap hn]; rfl, by rw [Lib.cell_of_heap hn]; rfl, fun i => by simp only [World.frozen?, hn]; simp, h.alloc _, fun g hg e => ?_, fun i v hv => by simp at hv, fun cs fz q => ?_⟩
  · have := (h.lt g hg).2; omega
  · rw [hn] at q
    injection q with q
    injection q with e1 e2 e3
    exact absurd e2 (by decide)

theorem wr_vis {s : DS} {k : Nat} {x : ByteArray} (h : k + x.size ≤ s.vis.length) : (s.wr (k : Int) x).vis.length = s.vis.length := by
  by_cases ho : s.off = true
  · rw [wr_off ho]
  · rw [wr_in (by simpa using ho) h]
    have : (patch s.vis k x.data.toList).length = s.vis.length := patch_length (by rw [ba_length]; exact h)
    unfold DS.write DS.used
    dsimp only
    split <;> exact this
theorem sync_vis (s : DS) : s.sync.vis = s.vis := by unfold DS.sync; split <;> rfl
theorem sync_keepsoff (s : DS) : s.sync.off = s.off := by unfold DS.sync; split <;> rfl
theorem writeE_in {s : DS} {k : Nat} {x : ByteArray} (h : k + x.size ≤ s.vis.length) : s.writeE (k : Int) x = if s.off then 251 else 0 := by
  unfold DS.writeE; rw [if_pos (insB_yes h)]
theorem seq_grp {s : DS} {k : Nat} {x1 x2 : ByteArray} (h1 : k + 1 + x1.size ≤ s.vis.length) (h2 : k + x2.size ≤ s.vis.length) :
    seqS [.wr ((k : Int) + 1) x1, .sy, .wr (k : Int) x2, .sy] s = (chkE (((s.wr ((k + 1 : Nat) : Int) x1).sync).wr (k : Int) x2), (((s.wr ((k + 1 : Nat) : Int) x1).sync).wr (k : Int) x2).sync) := by
  rw [show ((k : Int) + 1) = ((k + 1 : Nat) : Int) by omega]
  have e1 := writeE_in h1
  have v1 := wr_vis h1
  unfold seqS DOp.err DOp.run
  dsimp only
  by_cases ho : s.off = true
  · rw [if_pos ho] at e1
    rw [if_neg (by rw [e1]; decide), e1, wr_off ho, sync_off ho, wr_off ho, sync_off ho]
    unfold chkE; rw [if_pos ho]
  · rw [if_neg ho] at e1
    rw [if_pos e1]
    obtain ⟨s1, hs1⟩ : ∃ s1, s.wr ((k + 1 : Nat) : Int) x1 = s1 := ⟨_, rfl⟩
    rw [hs1] at v1 ⊢
    unfold seqS DOp.err DOp.run
    dsimp only
    by_cases ho1 : s1.off = true
    · have : chkE s1 = 251 := by unfold chkE; rw [if_pos ho1]
      rw [if_neg (by rw [this]; decide), sync_off ho1, wr_off ho1, sync_off ho1]
    · have : chkE s1 = 0 := by unfold chkE; rw [if_neg ho1]
      rw [if_pos this]
      have e2 := writeE_in (s := s1.sync) (k := k) (x := x2) (by rw [sync_vis, v1]; exact h2)
      rw [sync_keepsoff, if_neg ho1] at e2
      unfold seqS DOp.err DOp.run
      dsimp only
      rw [if_pos e2]
      unfold seqS DOp.err DOp.run
      dsimp only
      split
      · rename_i hh; rw [hh]; rfl
      · rfl

/-- What Append leaves. -/
def AppendR (W : World) (F G : Nat → Prop) (j d gd gv n : Nat) (s : DS) (t : TS) (brk : Bool) (L : List ByteArray) (e : Ending) (W' : World) : Prop :=
  e = .returned (.int .i64 (appE n s t brk L)) ∧ (∃ F' vp' G', DAt W' F' d gd gv vp' n (appD n s t brk L) ∧ JAt W' G' j d (appT n s t brk L) (appB n s t brk L) ∧ (∀ k, F' k → F k ∨ W.heap.size ≤ k) ∧ (∀ k, G' k → G k ∨ W.heap.size ≤ k) ∧ ∀ k, F' k → ¬ G' k) ∧ Turns (fun k => F k ∨ G k) W W'

/-- What is known behind the calls of Append's group. -/
theorem app_tail {W wA V w11 : World} {F : Nat → Prop} {j d gd gv n h k7 q7 : Nat} {rv : Value} {A7 : Option Addr} {t t2 : TS} {brk : Bool} {s' : DS} (hh : W.heap.size = h) (hT : TapeAt W j rv 0 t [.pointer (some ⟨d, 0, none⟩), .bool brk]) (hjF : ¬ F j) (hrF : ∀ g, rv.ownBlock = some g → ¬ F g) (hlf : ∀ k, F k → k < h)
    (hB : Below h W wA) (hTA : TapeAt wA h (.slice A7 k7 q7) h t2 []) (hV : Turns (fun _ => False) wA V) (hd : DLeft V F w11 d gd gv n s') :
    TapeAt w11 j rv 0 t [.pointer (some ⟨d, 0, none⟩), .bool brk] ∧ TapeAt w11 h (.slice A7 k7 q7) h t2 [] ∧ Turns F W w11 ∧ ∃ F' vp', DAt w11 F' d gd gv vp' n s' ∧ (∀ k, F' k → F k ∨ wA.heap.size ≤ k) ∧ h ≤ wA.heap.size := by
  obtain ⟨⟨F', vp', hd', hF'⟩, ht⟩ := hd
  have hWA : Turns (fun _ => False) W wA := Turns.of_below (by rw [hh]; exact hB)
  have hU : Turns F W w11 := ((hWA.trans hV).mono fun k q => q.elim).trans ht
  have hUA : Turns F wA w11 := (hV.mono fun k q => q.elim).trans ht
  refine ⟨hT.keep hU hjF hrF, hTA.keep hUA (fun e => by have := hlf h e; omega) (fun g hg e => by have := hlf g e; have := (hTA.own.lt g hg).1; omega), hU, F', vp', hd', fun k hk => ?_, ?_⟩
  · rcases hF' k hk with q | q
    · exact .inl q
    · exact .inr (Nat.le_trans hV.size q)
  · rw [← hh]; exact hWA.size
theorem append_fail {W w11 : World} {F G F' : Nat → Prop} {j d gd gv n m7 : Nat} {rv vp' : Value} {t : TS} {s : DS} {L : List ByteArray} (hG : G j ∧ (∀ g, rv.ownBlock = some g → G g) ∧ ∀ k, G k → k < W.heap.size) (hFG : ∀ k, F k → ¬ G k) (hk : appK n t false L = .group) (ho : (s.grp t.size (outL t L)).off = true)
    (hT : TapeAt w11 j rv 0 t [.pointer (some ⟨d, 0, none⟩), .bool false]) (hU : Turns F W w11) (hd : DAt w11 F' d gd gv vp' n (s.grp t.size (outL t L)).sync) (hF' : ∀ k, F' k → F k ∨ m7 ≤ k) (hm : W.heap.size ≤ m7) :
    AppendR W F G j d gd gv n s t false L (.returned (.int .i64 251)) (w11.setCell ⟨j, 4, none⟩ (.bool true)) := by
  have hjF' : ∀ k, F' k → ¬ G k := fun k hk hg => by
    rcases hF' k hk with q | q
    · exact hFG k q hg
    · have := hG.2.2 k hg; omega
  have hu : Turns (fun k => k = j) w11 (w11.setCell ⟨j, 4, none⟩ (.bool true)) := Turns.setCell w11 _ _ rfl
  have hsz := hU.size
  unfold AppendR appE appD appT appB
  rw [hk]
  dsimp only
  rw [if_pos ho, ho]
  refine ⟨by unfold chkE; rw [if_pos ho], ⟨F', vp', G, hd.keep hu (fun k hk e => hjF' k hk (by rw [e]; exact hG.1)), ⟨rv, hT.set4 _, hG.1, hG.2.1, fun k hk => ?_⟩, fun k hk => ?_, fun k hk => .inl hk, hjF'⟩, (hU.mono fun k q => .inl q).trans (hu.mono fun k e => .inr (by rw [e]; exact hG.1))⟩
  · have := hG.2.2 k hk; have := hu.size; omega
  · rcases hF' k hk with q | q
    · exact .inl q
    · exact .inr (by omega)
theorem append_done {W w11 : World} {F G F' : Nat → Prop} {j d gd gv n m7 h k7 q7 : Nat} {rv vp' : Value} {A7 : Option Addr} {t : TS} {s : DS} {L : List ByteArray} (hh : W.heap.size = h) (hG : G j ∧ (∀ g, rv.ownBlock = some g → G g) ∧ ∀ k, G k → k < W.heap.size) (hFG : ∀ k, F k → ¬ G k) (hk : appK n t false L = .group) (ho : (s.grp t.size (outL t L)).off = false)
    (hT : TapeAt w11 j rv 0 t [.pointer (some ⟨d, 0, none⟩), .bool false]) (hTh : TapeAt w11 h (.slice A7 k7 q7) h (t.adds L) []) (hlt : ∀ g, (Value.slice A7 k7 q7).ownBlock = some g → g < m7) (hU : Turns F W w11) (hd : DAt w11 F' d gd gv vp' n (s.grp t.size (outL t L)).sync) (hF' : ∀ k, F' k → F k ∨ m7 ≤ k) (hlf : ∀ k, F k → k < h) (hm : W.heap.size ≤ m7) :
    AppendR W F G j d gd gv n s t false L (.returned (.int .i64 0)) (((w11.setCell ⟨j, 0, none⟩ (.slice A7 k7 q7)).setCell ⟨j, 1, none⟩ (.string (t.adds L).head)).setCell ⟨j, 2, none⟩ (.int .i64 ((t.adds L).size : Int))) := by
  have hjl : j < h := by rw [← hh]; exact hG.2.2 j hG.1
  have hne : ∀ g, (Value.slice A7 k7 q7).ownBlock = some g → g ≠ j := fun g hg e => by have := (hTh.own.lt g hg).1; omega
  have hput := hT.put hTh.own hne
  have hu : Turns (fun k => k = j) w11 (((w11.setCell ⟨j, 0, none⟩ (.slice A7 k7 q7)).setCell ⟨j, 1, none⟩ (.string (t.adds L).head)).setCell ⟨j, 2, none⟩ (.int .i64 ((t.adds L).size : Int))) :=
    ((Turns.setCell (Z := fun k => k = j) w11 ⟨j, 0, none⟩ _ rfl).trans (Turns.setCell (Z := fun k => k = j) _ ⟨j, 1, none⟩ _ rfl)).trans (Turns.setCell (Z := fun k => k = j) _ ⟨j, 2, none⟩ _ rfl)
  have hsz := hU.size
  have hus := hu.size
  have hjF' : ∀ k, F' k → k ≠ j := fun k hk e => by
    rcases hF' k hk with q | q
    · exact hFG k q (by rw [e]; exact hG.1)
    · omega
  unfold AppendR appE appD appT appB
  rw [hk]
  dsimp only
  rw [if_neg (by rw [ho]; decide), ho]
  refine ⟨by unfold chkE; rw [if_neg (by rw [ho]; decide)], ⟨F', vp', fun k => k = j ∨ (Value.slice A7 k7 q7).ownBlock = some k, hd.keep hu (fun k hk e => hjF' k hk e), ⟨_, ⟨hput.c0, hput.c1, hput.c2, hput.fr, hput.own.base (Nat.zero_le _), hput.ne, hput.ex, hput.nby⟩, .inl rfl, fun g hg => .inr hg, fun k hk => ?_⟩, fun k hk => ?_, fun k hk => ?_, fun k hk hg => ?_⟩, (hU.mono fun k q => .inl q).trans (hu.mono fun k e => .inr (by rw [e]; exact hG.1))⟩
  · rcases hk with rfl | hk
    · omega
    · have := (hTh.own.lt k hk).2; omega
  · rcases hF' k hk with q | q
    · exact .inl q
    · exact .inr (by omega)
  · rcases hk with rfl | hk
    · exact .inl hG.1
    · exact .inr (by rw [hh]; exact (hTh.own.lt k hk).1)
  · rcases hg with hg | hg
    · exact hjF' k hk hg
    · rcases hF' k hk with q | q
      · have := hlf k q; have := (hTh.own.lt k hg).1; omega
      · have := hlt k hg; omega
end Go.Proofs.YtllmciiadceinaaGreatDoor
