/-
  The contract of Open. Conditions: the package's variables hold what they hold; bounds.
-/
import Derived.Test.YtllmciiadceinaaGreatDoorJourF
import Derived.Test.YtllmciiadceinaaGreatDoorShelf
namespace Go.Proofs.YtllmciiadceinaaGreatDoor
open Go Go.RowKit Go.Shelf Wr

/-- A journal at block j, on the disk at block d; all its blocks are G's. -/
def JAt (W : World) (G : Nat → Prop) (j d : Nat) (t : TS) (brk : Bool) : Prop :=
  ∃ rv, TapeAt W j rv 0 t [.pointer (some ⟨d, 0, none⟩), .bool brk] ∧ G j ∧ (∀ g, rv.ownBlock = some g → G g) ∧ (∀ k, G k → k < W.heap.size)
theorem JAt.keep {Z : Nat → Prop} {W W' : World} {G : Nat → Prop} {j d : Nat} {t : TS} {brk : Bool} (h : JAt W G j d t brk) (u : Turns Z W W') (hz : ∀ k, G k → ¬ Z k) : JAt W' G j d t brk := by
  obtain ⟨rv, h1, h2, h3, h4⟩ := h
  exact ⟨rv, h1.keep u (hz j h2) (fun g hg => hz g (h3 g hg)), h2, h3, fun k hk => Nat.lt_of_lt_of_le (h4 k hk) u.size⟩
theorem TapeAt.base {W : World} {b B : Nat} {rv : Value} {t : TS} {xs : List Value} (h : TapeAt W b rv B t xs) : TapeAt W b rv 0 t xs := ⟨h.c0, h.c1, h.c2, h.fr, h.own.base (Nat.zero_le _), h.ne, h.ex, h.nby⟩
/-- A journal whose blocks are all new. -/
theorem JAt.new {W W' : World} {j d B : Nat} {rv : Value} {t : TS} {brk : Bool} (h : TapeAt W j rv B t [.pointer (some ⟨d, 0, none⟩), .bool brk]) (hj : B ≤ j) (u : Turns (fun _ => False) W W') : ∃ G, JAt W' G j d t brk ∧ ∀ k, G k → B ≤ k ∧ k < W.heap.size := by
  refine ⟨fun k => k = j ∨ rv.ownBlock = some k, ?_, fun k hk => ?_⟩
  · exact JAt.keep (Z := fun _ => False) ⟨rv, h.base, .inl rfl, fun g hg => .inr hg, fun k hk => by rcases hk with rfl | hk; exact h.lt; exact (h.own.lt k hk).2⟩ u (fun _ _ q => q)
  · rcases hk with rfl | hk
    · exact ⟨hj, h.lt⟩
    · exact h.own.lt k hk
def OpenR (W : World) (F : Nat → Prop) (d gd gv n : Nat) (s : DS) (e : Ending) (W' : World) : Prop :=
  (∃ F' vp', DAt W' F' d gd gv vp' n (openD s) ∧ (∀ k, F' k → F k ∨ W.heap.size ≤ k) ∧
    ((openE s = 0 ∧ ∃ j G t, e = .returned (.tuple #[.pointer (some ⟨j, 0, none⟩), .int .i64 0]) ∧ loadW s.vis TS.zero = some t ∧ JAt W' G j d t false ∧ ∀ k, G k → W.heap.size ≤ k ∧ ¬ F' k) ∨
     (openE s ≠ 0 ∧ e = .returned (.tuple #[.pointer none, .int .i64 (openE s)])))) ∧ Turns F W W'

theorem Turns.drewN {Z : Nat → Prop} (A : World) (k : Nat) : Turns Z A (A.drewN k) := ⟨rfl, rfl, rfl, Nat.le_refl _, fun _ _ _ => rfl⟩
theorem trim_walk (s : ByteArray) (w : World) (hs : s.size ≤ 4194304) : Calls Tryz.prog 55 #[.string s, .string ⟨#[0]⟩] w fun e w' => e = .returned (.string ⟨(Lib.trimB s.data.toList 0).toArray⟩) ∧ Turns (fun _ => False) w w' := by
  refine (Tryz.strings_Trim_one s 0 (by decide) w (by omega)).mono ?_
  rintro e w' ⟨rfl, h⟩
  refine ⟨rfl, ?_⟩
  rcases h with rfl | rfl
  · exact Turns.refl _ _
  · exact Turns.drew _
theorem load_fit {l : List UInt8} {t : TS} (h : loadW l TS.zero = some t) : t.size ≤ l.length := by
  obtain ⟨L, rest, e1, e2, e3, e4⟩ := loadW_only _ _ _ _ (Nat.le_refl _) h
  rw [e1, TS.adds_eq, e2, List.length_append]
  show 0 + _ ≤ _
  omega

set_option maxRecDepth 100000 in
set_option maxHeartbeats 8000000 in
theorem open_all {W : World} {F : Nat → Prop} {d gd gv n : Nat} {vp : Value} {s : DS} (h : DAt W F d gd gv vp n s) (a : Addr) (hK : KAt W) (hE : ErrAt W a) (hp : s.pend.length ≤ 900000) (hleft : s.left ≤ 9223372036854775807) :
    Calls Tryz.prog 25 #[.pointer (some ⟨d, 0, none⟩)] W (OpenR W F d gd gv n s) := by
  have hn := h.n64
  have HD := Lib.hid h
  have HS := Lib.hid (size_walk h)
  have HR := Lib.hid (read_walk h 0 n)
  have hlv := h.lv
  clear h
  by_cases ho : s.off = true
  · have hrd : s.read 0 n = (ByteArray.empty, 251) := by unfold DS.read; rw [if_pos ho]
    rw [hrd] at HR
    have hoe : openE s = 251 := by unfold openE; rw [if_pos ho]
    have hod : openD s = s := by unfold openD; rw [if_pos ho]
    unfold OpenR
    rw [hoe, hod]
    clear hrd hoe hod ho hlv
    go_enter Tryz.func25, Tryz.ntmps25
    go_wp2_with (first | (go_at_call 51; refine HS.out.mono ?_; rintro e w1 ⟨rfl, rfl⟩) | (go_at_call 52; refine HR.out.mono ?_; rintro e w2 ⟨rfl, rfl⟩) | fail)
    go_ret2
    exact ⟨⟨F, vp, HD.out, fun k hk => .inl hk, .inr ⟨by decide, rfl⟩⟩, Turns.refl _ _⟩
  · have ho' : s.off = false := by simpa using ho
    have hrd : s.read 0 n = (⟨s.vis.toArray⟩, 0) := by
      unfold DS.read
      rw [if_neg ho, hlv, if_pos (by have := insB_yes (m := n) (k := 0) (x := n) (by omega); exact this)]
      congr 2
      rw [Int.toNat_zero, List.drop_zero, Int.toNat_natCast, List.take_of_length_le (by omega)]
    rw [hrd] at HR
    have hsz : (⟨s.vis.toArray⟩ : ByteArray).size = n := by rw [ba_mk_size]; exact hlv
    have HJ := Lib.hid (jopen_walk (W := W) ⟨d, 0, none⟩ a ⟨s.vis.toArray⟩ (by omega) hK hE)
    rw [show (⟨s.vis.toArray⟩ : ByteArray).data.toList = s.vis from rfl] at HJ
    cases hR : loadW s.vis TS.zero with
    | none =>
      rw [hR] at HJ
      have hoe : openE s = 262 := by unfold openE; rw [if_neg ho, hR]
      have hod : openD s = s := by unfold openD; rw [if_neg ho, hR]
      unfold OpenR
      rw [hoe, hod]
      obtain ⟨X, hX⟩ : ∃ X : ByteArray, ⟨s.vis.toArray⟩ = X := ⟨_, rfl⟩
      rw [hX] at HR HJ hsz
      unfold OpenP at HJ
      dsimp only at HJ
      clear hrd hoe hod ho hlv hR hX hsz ho'
      go_enter Tryz.func25, Tryz.ntmps25
      go_wp2_with (first | (go_at_call 51; refine HS.out.mono ?_; rintro e w1 ⟨rfl, rfl⟩) | (go_at_call 52; refine HR.out.mono ?_; rintro e w2 ⟨rfl, rfl⟩) | (go_at_call 54; refine HJ.out.mono ?_; rintro e w3 ⟨hb3, rfl⟩) | fail)
      go_ret2
      have ht := Turns.of_below (Z := fun _ => False) hb3
      exact ⟨⟨F, vp, HD.out.keep ht (fun _ _ q => q), fun k hk => .inl hk, .inr ⟨by decide, rfl⟩⟩, ht.mono fun k q => q.elim⟩
    | some t =>
      rw [hR] at HJ
      have hfit := load_fit hR
      rw [hlv] at hfit
      have HRR := Lib.hid hR
      have HX : Hid (∀ k, (⟨s.vis.toArray⟩ : ByteArray).extract k n = ⟨(s.vis.drop k).toArray⟩) := Lib.hid (fun k => by
        have := Lib.extract_from ⟨s.vis.toArray⟩ k
        rw [hsz] at this; exact this)
      obtain ⟨X, hX⟩ : ∃ X : ByteArray, ⟨s.vis.toArray⟩ = X := ⟨_, rfl⟩
      rw [hX] at HR HJ hsz HX
      unfold OpenP at HJ
      dsimp only at HJ
      obtain ⟨q, hq⟩ : ∃ q, t.size = q := ⟨_, rfl⟩
      have hXq := HX.out q
      obtain ⟨Y, hY⟩ : ∃ Y : ByteArray, ⟨(s.vis.drop q).toArray⟩ = Y := ⟨_, rfl⟩
      rw [hY] at hXq
      have hYs : Y.size ≤ 4194304 := by rw [← hY, ba_mk_size, List.length_drop]; omega
      have HT := Lib.hid (trim_walk Y · hYs)
      rw [show Y.data.toList = s.vis.drop q by rw [← hY]] at HT
      have hoe : openE s = if allZ (s.vis.drop q) then 0 else chkE (s.clr t) := by unfold openE; rw [if_neg ho, hR, ← hq]
      have hod : openD s = if allZ (s.vis.drop q) then s else (s.clr t).sync := by unfold openD; rw [if_neg ho, hR, ← hq]
      unfold OpenR
      rw [hq] at hfit
      have HQ := Lib.hid hq
      clear hX hq hY hrd hlv ho hR
      by_cases hz : allZ (s.vis.drop q) = true
      · rw [if_pos hz] at hoe hod
        rw [hoe, hod]
        rw [trimB_nil.2 hz] at HT
        clear hz hoe hod
        go_enter Tryz.func25, Tryz.ntmps25
        go_wp2_with (first | (go_at_call 51; refine HS.out.mono ?_; rintro e w1 ⟨rfl, rfl⟩) | (go_at_call 52; refine HR.out.mono ?_; rintro e w2 ⟨rfl, rfl⟩) | (go_at_call 54; refine HJ.out.mono ?_; rintro e w3 ⟨hb3, j, rv, rfl, hj, hT3⟩; have hc2 := hT3.c2; rw [HQ.out] at hc2; have HT3 := Lib.hid hT3; have HB3 := Lib.hid hb3; clear hT3 hb3) | (go_at_call 55; refine (HT.out _).mono ?_; rintro e w4 ⟨rfl, ht4⟩; have HT4 := Lib.hid ht4; clear ht4) | fail)
        go_ret2
        have ht : Turns (fun _ => False) W w4 := (Turns.of_below HB3.out).trans HT4.out
        obtain ⟨G, hG, hGl⟩ := JAt.new HT3.out hj HT4.out
        exact ⟨⟨F, vp, HD.out.keep ht (fun _ _ q => q), fun k hk => .inl hk, .inl ⟨trivial, j, G, t, rfl, HRR.out, hG, fun k hk => ⟨(hGl k hk).1, fun hf => by have := HD.out.lf k hf; have := (hGl k hk).1; omega⟩⟩⟩, ht.mono fun k q => q.elim⟩
      · rw [if_neg hz] at hoe hod
        rw [hoe, hod]
        obtain ⟨T, hT⟩ : ∃ T : ByteArray, ⟨(Lib.trimB (s.vis.drop q) 0).toArray⟩ = T := ⟨_, rfl⟩
        rw [hT] at HT
        have htl : T.toList = T.data.toList := ByteArray.toList_mk _
        have hne : T.toList = [] → False := fun e => hz (trimB_nil.1 (by rw [htl, ← hT] at e; exact e))
        clear htl
        have hne1 : (T.toList == []) = false := by simpa using hne
        have hne2 : (!T.toList.isEmpty) = true := by simpa using hne
        have HNE := Lib.hid hne
        clear hz hT hne hoe hod
        go_enter Tryz.func25, Tryz.ntmps25
        go_wp2_with (first | (go_at_call 51; refine HS.out.mono ?_; rintro e w1 ⟨rfl, rfl⟩) | (go_at_call 52; refine HR.out.mono ?_; rintro e w2 ⟨rfl, rfl⟩) | (go_at_call 54; refine HJ.out.mono ?_; rintro e w3 ⟨hb3, j, rv, rfl, hj, hT3⟩; have hc2 := hT3.c2; rw [HQ.out] at hc2; have HT3 := Lib.hid hT3; have HB3 := Lib.hid hb3; clear hT3 hb3) | (go_at_call 55; refine (HT.out _).mono ?_; rintro e w4 ⟨rfl, ht4⟩; have HT4 := Lib.hid ht4; clear ht4) | fail)
        have c4 : w4.cell? ⟨j, 2, none⟩ = some (.int .i64 (q : Int)) := (HT4.out.cell (p := ⟨j, 2, none⟩) HT3.out.lt (fun e => e)).trans hc2
        have hjF : ¬ F j := fun hf => by have := HD.out.lf j hf; omega
        have c3 : w4.cell? ⟨j, 3, none⟩ = some (.pointer (some ⟨d, 0, none⟩)) := (HT4.out.cell (p := ⟨j, 3, none⟩) HT3.out.lt (fun e => e)).trans (HT3.out.ex 0 _ rfl)
        have jlt : j < w4.heap.size := cell_lt c4
        have hu4 : Turns (fun _ => False) W w4 := (Turns.of_below HB3.out).trans HT4.out
        obtain ⟨m, hm⟩ : ∃ m, n - q = m := ⟨_, rfl⟩
        have w1 : IntKind.i64.wrap ((n : Int) - (q : Int)) = (m : Int) := by rw [IntKind.wrap_i64]; omega
        have hmk := mkRow m (by omega)
        have hmf : ∀ (fn : Fn) (first cap : Array Value) (w : World), (Instr.makeFunc fn first cap).run Tryz.prog w = .ok (.func fn first cap) w := fun _ _ _ _ => rfl
        obtain ⟨C, hC⟩ : ∃ C, madeCells #[.int .u8 0] m = C := ⟨_, rfl⟩
        have hCl := made_bytes m
        rw [hC] at hmk hCl
        obtain ⟨Z, hZ⟩ : ∃ Z, zerosB m = Z := ⟨_, rfl⟩
        have hr4 : RAt (w4.alloc (.cells C 5)) w4.heap.size bv (List.replicate m (0 : UInt8)) := RAt.alloc_new w4 C _ hCl
        have cv : (Go.convert 39 9 (.slice (some ⟨w4.heap.size, 0, none⟩) m m)).run Tryz.prog (w4.alloc (.cells C 5)) = .ok (.string Z) (w4.alloc (.cells C 5)) := by
          rw [← hZ]; exact hr4.convert (P := Tryz.prog) (cap := m) (by simp) 39 9 5 Tryz.underlying39 Tryz.underlying5 Tryz.underlying9
        have cv' : (Go.convert 39 9 (.slice (some ⟨w4.heap.size, 0, none⟩) m m)).run Tryz.prog (w4.alloc (.cells C 5)).drew = .ok (.string Z) (w4.alloc (.cells C 5)).drew := by
          rw [← hZ]; exact hr4.drew.convert (P := Tryz.prog) (cap := m) (by simp) 39 9 5 Tryz.underlying39 Tryz.underlying5 Tryz.underlying9
        have hZs : Z.size = m := by rw [← hZ]; unfold zerosB; rw [ba_mk_size, List.length_replicate]
        have HWR := Lib.hid (fun w => writing_walk w j (q : Int) Z)
        have HK5 : Hid (∀ w5, Below (w4.alloc (.cells C 5)).drew.heap.size (w4.alloc (.cells C 5)).drew w5 → w5.cell? ⟨j, 2, none⟩ = some (.int .i64 (q : Int))) := Lib.hid (fun w5 hb => by
          rw [hb.cell (p := ⟨j, 2, none⟩) (by show j < (w4.alloc _).heap.size; rw [World.size_alloc]; omega)]
          exact (Turns.cell (Z := fun _ => False) ((Turns.alloc w4 (.cells C 5)).trans (Turns.drew _)) (p := ⟨j, 2, none⟩) jlt (fun e => e)).trans c4)
        have HU5 : Hid (∀ w5, Below (w4.alloc (.cells C 5)).drew.heap.size (w4.alloc (.cells C 5)).drew w5 → ∀ o, Turns (fun _ => False) w4 (w5.alloc o)) := Lib.hid (fun w5 hb o =>
          (((Turns.alloc w4 (.cells C 5)).trans (Turns.drew _)).trans (Turns.of_below hb)).trans (Turns.alloc w5 o))
        have HK7 : Hid (∀ w5 o w7, Below (w4.alloc (.cells C 5)).drew.heap.size (w4.alloc (.cells C 5)).drew w5 → DLeft (w5.alloc o) F w7 d gd gv n (s.clr t).sync → w7.cell? ⟨j, 2, none⟩ = some (.int .i64 (q : Int))) := Lib.hid (fun w5 o w7 hb hd => by
          have hu := HU5.out w5 hb o
          rw [hd.2.cell (p := ⟨j, 2, none⟩) (Nat.lt_of_lt_of_le jlt hu.size) hjF]
          exact (hu.cell (p := ⟨j, 2, none⟩) jlt (fun e => e)).trans c4)
        have hseq : seqS [.wr (q : Int) Z, .sy] s = (chkE (s.clr t), (s.clr t).sync) := by
          have hcl : s.clr t = s.wr (q : Int) Z := by unfold DS.clr; rw [HQ.out, HD.out.lv, hm, hZ]
          have h0 : s.writeE (q : Int) Z = 0 := by unfold DS.writeE; rw [if_neg (by rw [ho']; decide), HD.out.lv, hZs, if_pos (insB_yes (by omega))]
          rw [hcl]
          unfold seqS DOp.err DOp.run
          dsimp only
          rw [if_pos h0]
          unfold seqS DOp.err DOp.run
          dsimp only
          split
          · rename_i hh; rw [hh]; rfl
          · rfl
        have HFD : Hid (∀ p5 q5 r5 w5, WAt w5 (.wr p5 q5 r5) j (q : Int) Z → (∀ b, (CallV.wr p5 q5 r5).blk b → (w4.alloc (.cells C 5)).drew.heap.size ≤ b) → Below (w4.alloc (.cells C 5)).drew.heap.size (w4.alloc (.cells C 5)).drew w5 →
            Calls Tryz.prog 40 #[.slice (some ⟨w5.heap.size, 0, none⟩) 2 2] (w5.alloc (.cells #[.func (.func 72) #[] #[.pointer (some ⟨p5, 0, none⟩), .pointer (some ⟨q5, 0, none⟩), .pointer (some ⟨r5, 0, none⟩)], .func (.func 42) #[.pointer (some ⟨d, 0, none⟩)] #[]] 85)) fun e W' =>
              e = .returned (.int .i64 (chkE (s.clr t))) ∧ DLeft (w5.alloc (.cells #[.func (.func 72) #[] #[.pointer (some ⟨p5, 0, none⟩), .pointer (some ⟨q5, 0, none⟩), .pointer (some ⟨r5, 0, none⟩)], .func (.func 42) #[.pointer (some ⟨d, 0, none⟩)] #[]] 85)) F W' d gd gv n (s.clr t).sync) := Lib.hid (fun p5 q5 r5 w5 hv hb5 hb => by
          have hu := HU5.out w5 hb (.cells #[.func (.func 72) #[] #[.pointer (some ⟨p5, 0, none⟩), .pointer (some ⟨q5, 0, none⟩), .pointer (some ⟨r5, 0, none⟩)], .func (.func 42) #[.pointer (some ⟨d, 0, none⟩)] #[]] 85)
          have hnew := World.alloc_heap_new w5 (.cells #[.func (.func 72) #[] #[.pointer (some ⟨p5, 0, none⟩), .pointer (some ⟨q5, 0, none⟩), .pointer (some ⟨r5, 0, none⟩)], .func (.func 42) #[.pointer (some ⟨d, 0, none⟩)] #[]] 85)
          have hbs := hb.size
          have hsz4 : (w4.alloc (.cells C 5)).drew.heap.size = w4.heap.size + 1 := World.size_alloc ..
          have hlf := HD.out.lf
          have hss := hu4.size
          have := first_disk (HD.out.keep (hu4.trans hu) (fun _ _ e => e)) w5.heap.size 2 [.wr p5 q5 r5, .sy d] [.wr (q : Int) Z, .sy] rfl (by omega) rfl (fun k v hk => by
              match k, hk with
              | 0, hk => cases hk; rw [Lib.cell_of_heap hnew]; rfl
              | 1, hk => cases hk; rw [Lib.cell_of_heap hnew]; rfl
              | k + 2, hk => simp at hk) (fun hf => by have := hlf _ hf; omega) j ((hu.cell (p := ⟨j, 3, none⟩) jlt (fun e => e)).trans c3) hjF (fun k v o hk ho => by
              match k, hk, ho with
              | 0, hk, ho => cases hk; cases ho; exact ⟨hv.keep (Turns.alloc (Z := fun _ => False) w5 _) (fun _ _ e => e), fun b hb hf => by have := hlf _ hf; have := hb5 b hb; omega, by omega⟩
              | 1, hk, ho => cases hk; cases ho; rfl
              | k + 2, hk, ho => simp at hk) hp hleft
          rw [hseq] at this
          exact this)
        clear hseq hCl hC hr4 hZ
        go_wp2_with fail
        have hS0 : w4.drew.cell? ⟨j, 2, none⟩ = some (.int .i64 (q : Int)) := c4
        refine wp_region_noPanic ?_
        refine wp_region_held_drew (S := fun w' => w'.cell? ⟨j, 2, none⟩ = some (.int .i64 (q : Int))) (by kernel_rfl) hS0 (fun hHeld => ?_)
        refine wpAnyH_take (i := 0) (oi := { dst := some 37, op := Op.move (Operand.tmp 6), type := 28, pos := "journal.go:104", after := #[], guard := none }) (v := ?_) rfl (by kernel_rfl) (by kernel_rfl) (by kernel_rfl) (fun _ _ _ h => h) (Or.inl ⟨by rfl, ?_⟩) (by assumption) ?_
        rotate_left
        · intro w hSw; (try dsimp only at hSw); go_simp <;> with_reducible rfl
        try simp only [Act.put, List.setIfInBounds_toArray, List.set_cons_zero, List.set_cons_succ]
        refine wpAnyH_take (i := 1) (oi := { dst := some 38, op := Op.move (Operand.tmp 6), type := 28, pos := "journal.go:104", after := #[], guard := none }) (v := ?_) rfl (by kernel_rfl) (by kernel_rfl) (by kernel_rfl) (fun _ _ _ h => h) (Or.inl ⟨by rfl, ?_⟩) (by assumption) ?_
        rotate_left
        · intro w hSw; (try dsimp only at hSw); go_simp <;> with_reducible rfl
        try simp only [Act.put, List.setIfInBounds_toArray, List.set_cons_zero, List.set_cons_succ]
        refine wpAnyH_take (i := 2) (oi := { dst := some 39, op := Op.nilCheck (Operand.tmp 38), type := 0, pos := "journal.go:104", after := #[{ on := 1, ground := Ground.data }], guard := none }) (v := ?_) rfl (by kernel_rfl) (by kernel_rfl) (by kernel_rfl) (fun _ _ _ h => h) (Or.inl ⟨by rfl, ?_⟩) (by assumption) ?_
        rotate_left
        · intro w hSw; (try dsimp only at hSw); go_simp <;> with_reducible rfl
        try simp only [Act.put, List.setIfInBounds_toArray, List.set_cons_zero, List.set_cons_succ]
        refine wpAnyH_take (i := 3) (oi := { dst := some 40, op := Op.fieldAddr 74 (Operand.tmp 39) 0, type := 0, pos := "journal.go:104", after := #[{ on := 2, ground := Ground.data }], guard := none }) (v := ?_) rfl (by kernel_rfl) (by kernel_rfl) (by kernel_rfl) (fun _ _ _ h => h) (Or.inl ⟨by rfl, ?_⟩) (by assumption) ?_
        rotate_left
        · intro w hSw; (try dsimp only at hSw); go_simp <;> with_reducible rfl
        try simp only [Act.put, List.setIfInBounds_toArray, List.set_cons_zero, List.set_cons_succ]
        refine wpAnyH_take (i := 4) (oi := { dst := some 41, op := Op.fieldAddr 72 (Operand.tmp 40) 2, type := 0, pos := "journal.go:104", after := #[{ on := 3, ground := Ground.data }], guard := none }) (v := ?_) rfl (by kernel_rfl) (by kernel_rfl) (by kernel_rfl) (fun _ _ _ h => h) (Or.inl ⟨by rfl, ?_⟩) (by assumption) ?_
        rotate_left
        · intro w hSw; (try dsimp only at hSw); go_simp <;> with_reducible rfl
        try simp only [Act.put, List.setIfInBounds_toArray, List.set_cons_zero, List.set_cons_succ]
        refine wpAnyH_take (i := 5) (oi := { dst := some 42, op := Op.load 3 (Operand.tmp 41), type := 3, pos := "journal.go:104", after := #[{ on := 4, ground := Ground.data }], guard := none }) (v := ?_) rfl (by kernel_rfl) (by kernel_rfl) (by kernel_rfl) (fun _ _ _ h => h) (Or.inl ⟨by rfl, ?_⟩) (by assumption) ?_
        rotate_left
        · intro w hSw; (try dsimp only at hSw); go_simp <;> with_reducible rfl
        try simp only [Act.put, List.setIfInBounds_toArray, List.set_cons_zero, List.set_cons_succ]
        refine wpAnyH_take (i := 6) (oi := { dst := some 43, op := Op.move (Operand.tmp 4), type := 9, pos := "journal.go:104", after := #[], guard := none }) (v := ?_) rfl (by kernel_rfl) (by kernel_rfl) (by kernel_rfl) (fun _ _ _ h => h) (Or.inl ⟨by rfl, ?_⟩) (by assumption) ?_
        rotate_left
        · intro w hSw; (try dsimp only at hSw); go_simp <;> with_reducible rfl
        try simp only [Act.put, List.setIfInBounds_toArray, List.set_cons_zero, List.set_cons_succ]
        refine wpAnyH_take (i := 7) (oi := { dst := some 44, op := Op.call { callee := Callee.builtin Builtin.len, args := #[Operand.tmp 43], argTypes := #[9] }, type := 3, pos := "journal.go:104", after := #[{ on := 6, ground := Ground.data }], guard := none }) (v := ?_) rfl (by kernel_rfl) (by kernel_rfl) (by kernel_rfl) (fun _ _ _ h => h) (Or.inl ⟨by rfl, ?_⟩) (by assumption) ?_
        rotate_left
        · intro w hSw; (try dsimp only at hSw); go_simp <;> with_reducible rfl
        try simp only [Act.put, List.setIfInBounds_toArray, List.set_cons_zero, List.set_cons_succ]
        refine wpAnyH_take (i := 8) (oi := { dst := some 45, op := Op.move (Operand.tmp 6), type := 28, pos := "journal.go:104", after := #[], guard := none }) (v := ?_) rfl (by kernel_rfl) (by kernel_rfl) (by kernel_rfl) (fun _ _ _ h => h) (Or.inl ⟨by rfl, ?_⟩) (by assumption) ?_
        rotate_left
        · intro w hSw; (try dsimp only at hSw); go_simp <;> with_reducible rfl
        try simp only [Act.put, List.setIfInBounds_toArray, List.set_cons_zero, List.set_cons_succ]
        refine wpAnyH_take (i := 9) (oi := { dst := some 46, op := Op.nilCheck (Operand.tmp 45), type := 0, pos := "journal.go:104", after := #[{ on := 8, ground := Ground.data }], guard := none }) (v := ?_) rfl (by kernel_rfl) (by kernel_rfl) (by kernel_rfl) (fun _ _ _ h => h) (Or.inl ⟨by rfl, ?_⟩) (by assumption) ?_
        rotate_left
        · intro w hSw; (try dsimp only at hSw); go_simp <;> with_reducible rfl
        try simp only [Act.put, List.setIfInBounds_toArray, List.set_cons_zero, List.set_cons_succ]
        refine wpAnyH_take (i := 10) (oi := { dst := some 47, op := Op.fieldAddr 74 (Operand.tmp 46) 0, type := 0, pos := "journal.go:104", after := #[{ on := 9, ground := Ground.data }], guard := none }) (v := ?_) rfl (by kernel_rfl) (by kernel_rfl) (by kernel_rfl) (fun _ _ _ h => h) (Or.inl ⟨by rfl, ?_⟩) (by assumption) ?_
        rotate_left
        · intro w hSw; (try dsimp only at hSw); go_simp <;> with_reducible rfl
        try simp only [Act.put, List.setIfInBounds_toArray, List.set_cons_zero, List.set_cons_succ]
        refine wpAnyH_take (i := 11) (oi := { dst := some 48, op := Op.fieldAddr 72 (Operand.tmp 47) 2, type := 0, pos := "journal.go:104", after := #[{ on := 10, ground := Ground.data }], guard := none }) (v := ?_) rfl (by kernel_rfl) (by kernel_rfl) (by kernel_rfl) (fun _ _ _ h => h) (Or.inl ⟨by rfl, ?_⟩) (by assumption) ?_
        rotate_left
        · intro w hSw; (try dsimp only at hSw); go_simp <;> with_reducible rfl
        try simp only [Act.put, List.setIfInBounds_toArray, List.set_cons_zero, List.set_cons_succ]
        refine wpAnyH_take (i := 12) (oi := { dst := some 49, op := Op.load 3 (Operand.tmp 48), type := 3, pos := "journal.go:104", after := #[{ on := 11, ground := Ground.data }], guard := none }) (v := ?_) rfl (by kernel_rfl) (by kernel_rfl) (by kernel_rfl) (fun _ _ _ h => h) (Or.inl ⟨by rfl, ?_⟩) (by assumption) ?_
        rotate_left
        · intro w hSw; (try dsimp only at hSw); go_simp <;> with_reducible rfl
        try simp only [Act.put, List.setIfInBounds_toArray, List.set_cons_zero, List.set_cons_succ]
        refine wpAnyH_take (i := 13) (oi := { dst := some 50, op := Op.binOp BinOp.sub 3 (Operand.tmp 44) (Operand.tmp 49) 3, type := 3, pos := "journal.go:104", after := #[{ on := 7, ground := Ground.data }, { on := 12, ground := Ground.data }], guard := none }) (v := ?_) rfl (by kernel_rfl) (by kernel_rfl) (by kernel_rfl) (fun _ _ _ h => h) (Or.inl ⟨by rfl, ?_⟩) (by assumption) ?_
        rotate_left
        · intro w hSw; (try dsimp only at hSw); go_simp <;> with_reducible rfl
        try simp only [Act.put, List.setIfInBounds_toArray, List.set_cons_zero, List.set_cons_succ]
        refine wpAnyH_take (i := 17) (oi := { dst := some 54, op := Op.move (Operand.tmp 0), type := 27, pos := "journal.go:104", after := #[], guard := none }) (v := ?_) rfl (by kernel_rfl) (by kernel_rfl) (by kernel_rfl) (fun _ _ _ h => h) (Or.inl ⟨by rfl, ?_⟩) (by assumption) ?_
        rotate_left
        · intro w hSw; (try dsimp only at hSw); go_simp <;> with_reducible rfl
        try simp only [Act.put, List.setIfInBounds_toArray, List.set_cons_zero, List.set_cons_succ]
        refine wpAnyH_take (i := 18) (oi := { dst := some 55, op := Op.makeFunc (Fn.func 42) #[Operand.tmp 54] #[], type := 85, pos := "journal.go:104", after := #[{ on := 17, ground := Ground.data }], guard := none }) (v := ?_) rfl (by kernel_rfl) (by kernel_rfl) (by kernel_rfl) (fun _ _ _ h => h) (Or.inl ⟨by rfl, ?_⟩) (by assumption) ?_
        rotate_left
        · intro w hSw; (try dsimp only at hSw); go_simp <;> with_reducible rfl
        try simp only [Act.put, List.setIfInBounds_toArray, List.set_cons_zero, List.set_cons_succ]
        refine wpAnyH_ready (rs := [14]) (by kernel_rfl) (by simp) ?_
        refine AllReadyH.cons (o := { dst := some 51, op := Op.makeSlice 39 (Operand.tmp 50) (Operand.tmp 50), type := 39, pos := "journal.go:104", after := #[{ on := 13, ground := Ground.data }, { on := 13, ground := Ground.data }], guard := none }) rfl (fun K hK => ?_) ?_
        · go_simp
          refine hK.out _ _ (by go_keep) (fun hHeld => ?_)
          clear hK K
          try simp only [Act.put, List.setIfInBounds_toArray, List.set_cons_zero, List.set_cons_succ]
          refine wpAnyH_ready (rs := [15]) (by kernel_rfl) (by simp) ?_
          refine AllReadyH.cons (o := { dst := some 52, op := Op.convert 39 9 (Operand.tmp 51), type := 9, pos := "journal.go:104", after := #[{ on := 14, ground := Ground.data }], guard := none }) rfl (fun K hK => ?_) ?_
          · go_simp
            refine hK.out _ _ (by assumption) (fun hHeld => ?_)
            clear hK K
            try simp only [Act.put, List.setIfInBounds_toArray, List.set_cons_zero, List.set_cons_succ]
            refine wpAnyH_ready (rs := [16]) (by kernel_rfl) (by simp) ?_
            refine AllReadyH.cons (o := { dst := some 53, op := Op.call { callee := Callee.value (Operand.func 41), args := #[Operand.tmp 37, Operand.tmp 42, Operand.tmp 52], argTypes := #[28, 3, 9] }, type := 85, pos := "journal.go:104", after := #[{ on := 0, ground := Ground.data }, { on := 5, ground := Ground.data }, { on := 15, ground := Ground.data }], guard := none }) rfl (fun K hK => ?_) ?_
            · go_simp
              go_at_call 41
              refine (HWR.out _).mono ?_
              rintro e w5 ⟨p5, q5, r5, rfl, hv5, hvl5, hb5⟩
              refine hK.out _ _ (HK5.out _ hb5) (fun hHeld => ?_)
              clear hK K
              try simp only [Act.put, List.setIfInBounds_toArray, List.set_cons_zero, List.set_cons_succ]
              refine wpAnyH_ready (rs := [19]) (by kernel_rfl) (by simp) ?_
              refine AllReadyH.cons (o := { dst := some 56, op := Op.buildSlice 127 2 #[(0, Operand.tmp 53), (1, Operand.tmp 55)], type := 127, pos := "journal.go:104", after := #[{ on := 16, ground := Ground.data }, { on := 18, ground := Ground.data }], guard := none }) rfl (fun K hK => ?_) ?_
              · go_simp
                refine hK.out _ _ (by go_keep) (fun hHeld => ?_)
                clear hK K
                try simp only [Act.put, List.setIfInBounds_toArray, List.set_cons_zero, List.set_cons_succ]
                refine wpAnyH_ready (rs := [20]) (by kernel_rfl) (by simp) ?_
                refine AllReadyH.cons (o := { dst := some 57, op := Op.call { callee := Callee.value (Operand.func 40), args := #[Operand.tmp 56], argTypes := #[127] }, type := 33, pos := "journal.go:104", after := #[{ on := 19, ground := Ground.data }, { on := 16, ground := Ground.chain }], guard := none }) rfl (fun K hK => ?_) ?_
                · go_simp
                  go_at_call 40
                  refine (HFD.out _ _ _ _ hv5 hvl5 hb5).mono ?_
                  rintro e w7 ⟨rfl, hd7⟩
                  refine hK.out _ _ (HK7.out _ _ _ hb5 hd7) (fun hHeld => ?_)
                  clear hK K
                  try simp only [Act.put, List.setIfInBounds_toArray, List.set_cons_zero, List.set_cons_succ]
                  refine wpAnyH_take (i := 21) (oi := { dst := some 5, op := Op.assign (Operand.tmp 57), type := 33, pos := "journal.go:104", after := #[{ on := 20, ground := Ground.data }, { on := 20, ground := Ground.chain }, { on := 0, ground := Ground.phase }, { on := 1, ground := Ground.phase }, { on := 2, ground := Ground.phase }, { on := 3, ground := Ground.phase }, { on := 4, ground := Ground.phase }, { on := 5, ground := Ground.phase }, { on := 6, ground := Ground.phase }, { on := 7, ground := Ground.phase }, { on := 8, ground := Ground.phase }, { on := 9, ground := Ground.phase }, { on := 10, ground := Ground.phase }, { on := 11, ground := Ground.phase }, { on := 12, ground := Ground.phase }, { on := 13, ground := Ground.phase }, { on := 14, ground := Ground.phase }, { on := 15, ground := Ground.phase }, { on := 16, ground := Ground.phase }, { on := 17, ground := Ground.phase }, { on := 18, ground := Ground.phase }, { on := 19, ground := Ground.phase }, { on := 20, ground := Ground.phase }], guard := none }) (v := ?_) rfl (by kernel_rfl) (by kernel_rfl) (by kernel_rfl) (fun _ _ _ h => h) (Or.inl ⟨by rfl, ?_⟩) (by assumption) ?_
                  rotate_left
                  · intro w hSw; (try dsimp only at hSw); go_simp <;> with_reducible rfl
                  try simp only [Act.put, List.setIfInBounds_toArray, List.set_cons_zero, List.set_cons_succ]
                  refine wpAnyH_done (by kernel_rfl) ?_ _
                  refine NoPanic.normal ?_
                  have hu := HU5.out w5 hb5 (.cells #[.func (.func 72) #[] #[.pointer (some ⟨p5, 0, none⟩), .pointer (some ⟨q5, 0, none⟩), .pointer (some ⟨r5, 0, none⟩)], .func (.func 42) #[.pointer (some ⟨d, 0, none⟩)] #[]] 85)
                  have hE01 : chkE (s.clr t) = 0 ∨ chkE (s.clr t) = 251 := by unfold chkE; split <;> simp
                  obtain ⟨⟨F', vp', hd', hF'⟩, ht7⟩ := hd7
                  have htt : Turns F W w7 := ((hu4.trans hu).mono fun k q => q.elim).trans ht7
                  obtain ⟨G, hG, hGl⟩ := JAt.new HT3.out hj HT4.out
                  have hlf := HD.out.lf
                  have hG7 : JAt w7 G j d t false := hG.keep ((hu.mono fun k q => q.elim).trans ht7) (fun k hk hf => by have := hlf k hf; have := (hGl k hk).1; omega)
                  have hs1 := (hu4.trans hu).size
                  have hs3 := (HT4.out.trans hu).size
                  have HFF : Hid (∀ k, F' k → F k ∨ W.heap.size ≤ k) := Lib.hid (fun k hk => by
                    rcases hF' k hk with q | q
                    · exact .inl q
                    · exact .inr (by omega))
                  have HGG : Hid (∀ k, G k → W.heap.size ≤ k ∧ ¬ F' k) := Lib.hid (fun k hk => ⟨(hGl k hk).1, fun hf => by
                    have h1 := hGl k hk
                    rcases hF' k hf with q | q
                    · have := hlf k q; omega
                    · omega⟩)
                  have HD7 := Lib.hid hd'
                  have HT7 := Lib.hid htt
                  have HG7 := Lib.hid hG7
                  clear hd' htt hG7 hF' ht7 hG hGl hlf hu HFD HK7 HU5 HK5 hv5 hvl5 hb5 hs1 hs3 hne1 hne2 c4 c3 hc2
                  rcases hE01 with hE | hE
                  · rw [hE]
                    go_wp2_with fail
                    go_ret2
                    exact ⟨⟨F', vp', HD7.out, HFF.out, .inl ⟨hE, j, G, t, rfl, HRR.out, HG7.out, HGG.out⟩⟩, HT7.out⟩
                  · rw [hE]
                    have HE := Lib.hid hE
                    clear hE
                    go_wp2_with fail
                    go_ret2
                    exact ⟨⟨F', vp', HD7.out, HFF.out, .inr ⟨by rw [HE.out]; decide, by rw [HE.out]; rfl⟩⟩, HT7.out⟩
                exact AllReadyH.nil
              exact AllReadyH.nil
            exact AllReadyH.nil
          exact AllReadyH.nil
        exact AllReadyH.nil
end Go.Proofs.YtllmciiadceinaaGreatDoor
