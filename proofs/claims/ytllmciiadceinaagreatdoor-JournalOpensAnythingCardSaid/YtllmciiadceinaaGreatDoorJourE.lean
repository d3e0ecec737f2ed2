/-
  The contracts of first (calls one after the other, up to the first error), of writing and the call that it makes. Conditions: each contract's own.
-/
import Derived.Test.YtllmciiadceinaaGreatDoorJourD
import Derived.Test.YtllmciiadceinaaGreatDoorDiskI
namespace Go.Proofs.YtllmciiadceinaaGreatDoor
open Go Go.RowKit Go.Shelf Wr

/-- A call that first is given: a write (its three boxes), a sync. -/
inductive CallV where
  | wr (p q r : Nat)
  | sy (d : Nat)
def CallV.val : CallV → Value
  | .wr p q r => .func (.func 72) #[] #[.pointer (some ⟨p, 0, none⟩), .pointer (some ⟨q, 0, none⟩), .pointer (some ⟨r, 0, none⟩)]
  | .sy d => .func (.func 42) #[.pointer (some ⟨d, 0, none⟩)] #[]
def CallV.fn : CallV → Nat
  | .wr .. => 72
  | .sy _ => 42
def CallV.args : CallV → Array Value
  | .wr p q r => #[.pointer (some ⟨p, 0, none⟩), .pointer (some ⟨q, 0, none⟩), .pointer (some ⟨r, 0, none⟩)]
  | .sy d => #[.pointer (some ⟨d, 0, none⟩)]
def FirstP (Q : Int → World → Prop) (e : Ending) (W' : World) : Prop := ∃ k : Int, e = .returned (.int .i64 k) ∧ Q k W'
def StepP (I : World → Prop) (Q : Int → World → Prop) (e : Ending) (W' : World) : Prop := ∃ k : Int, e = .returned (.int .i64 k) ∧ ((k = 0 ∧ I W') ∨ (k ≠ 0 ∧ Q k W'))

set_option maxRecDepth 100000 in
set_option maxHeartbeats 4000000 in
theorem first_walk {W : World} (g n : Nat) (l : List CallV) (hn : l.length = n) (hb : n ≤ 100) (I : Nat → World → Prop) (Q : Int → World → Prop) (h0 : I 0 W)
    (hc : ∀ i w, I i w → ∀ k v, l[k]? = some v → w.cell? ⟨g, k, none⟩ = some v.val)
    (hs : ∀ i w v, I i w → l[i]? = some v → Calls Tryz.prog v.fn v.args w (StepP (I (i + 1)) Q))
    (he : ∀ w, I n w → Q 0 w) :
    Calls Tryz.prog 40 #[.slice (some ⟨g, 0, none⟩) n n] W (FirstP Q) := by
  have H0 := Lib.hid h0
  have HC := Lib.hid hc
  have HS := Lib.hid hs
  have HE := Lib.hid he
  have HN := Lib.hid hn
  clear h0 hc hs he hn
  go_enter Tryz.func40, Tryz.ntmps40
  go_wp2_with fail
  go_loopw [4, 5, 8, 9, 10, 11, 12, 13, 14, 15, 17] (fun v4 v5 v8 v9 v10 v11 v12 v13 v14 v15 v17 wr => ∃ k : Nat, k ≤ n ∧ v8 = .int .i64 k ∧ Hid (I k wr)) (fun _ _ v _ _ _ _ _ _ _ _ _ => n - (intOf v).toNat)
  case atStart => exact ⟨0, Nat.zero_le _, rfl, H0⟩
  case round =>
    obtain ⟨k, hk, rfl, hI⟩ := hrel
    by_cases hlt : k < n
    · have d1 : decide ((k : Int) < (n : Int)) = true := by simp [hlt]
      obtain ⟨v, hv⟩ : ∃ v, l[k]? = some v := ⟨_, List.getElem?_eq_getElem (by rw [HN.out]; exact hlt)⟩
      have c0 := HC.out k wr hI.out k v hv
      have HST := Lib.hid (HS.out k wr v hI.out hv)
      have z1 : (0 : Int) ≤ (k : Int) := by omega
      have z2 : (k : Int) < (n : Int) := by omega
      clear hv
      cases v with
      | wr p q r =>
        unfold CallV.val at c0
        unfold CallV.fn CallV.args at HST
        dsimp only at c0 HST
        go_wp2_with (first | (go_at_call 72; refine HST.out.mono ?_; rintro e W1 ⟨x, rfl, hx⟩) | fail)
        · go_ret
          rcases hx with ⟨h0, h⟩ | ⟨h0, h⟩
          · rename_i hne
            simp [h0] at hne
          · exact ⟨x, rfl, h⟩
        · refine ⟨⟨k + 1, by omega, by go_num, ?_⟩, by simp only [intOf]; omega⟩
          rcases hx with ⟨h0, h⟩ | ⟨h0, h⟩
          · exact Lib.hid h
          · rename_i hne
            simp [h0] at hne
      | sy d =>
        unfold CallV.val at c0
        unfold CallV.fn CallV.args at HST
        dsimp only at c0 HST
        go_wp2_with (first | (go_at_call 42; refine HST.out.mono ?_; rintro e W1 ⟨x, rfl, hx⟩) | fail)
        · go_ret
          rcases hx with ⟨h0, h⟩ | ⟨h0, h⟩
          · rename_i hne
            simp [h0] at hne
          · exact ⟨x, rfl, h⟩
        · refine ⟨⟨k + 1, by omega, by go_num, ?_⟩, by simp only [intOf]; omega⟩
          rcases hx with ⟨h0, h⟩ | ⟨h0, h⟩
          · exact Lib.hid h
          · rename_i hne
            simp [h0] at hne
    · have d1 : decide ((k : Int) < (n : Int)) = false := by simp; omega
      obtain rfl : k = n := by omega
      have HQ := Lib.hid (HE.out wr hI.out)
      go_wp2_with fail
      go_ret
      exact ⟨0, rfl, HQ.out⟩

/-- The boxes of a write that is to be called. -/
def WAt (W : World) (v : CallV) (j : Nat) (k : Int) (x : ByteArray) : Prop := match v with
  | .wr p q r => W.heap[p]? = some (.cells #[.pointer (some ⟨j, 0, none⟩)] 28 (0, 0)) ∧ W.heap[q]? = some (.cells #[.int .i64 k] 3 (0, 0)) ∧ W.heap[r]? = some (.cells #[.string x] 9 (0, 0))
  | .sy _ => False
/-- Its blocks. -/
def CallV.blk : CallV → Nat → Prop
  | .wr p q r => fun k => k = p ∨ k = q ∨ k = r
  | .sy _ => fun _ => False
theorem heap_lt {W : World} {b : Nat} {o : Obj} (h : W.heap[b]? = some o) : b < W.heap.size := (Array.getElem?_eq_some_iff.1 h).1
theorem WAt.keep {Z : Nat → Prop} {W W' : World} {v : CallV} {j : Nat} {k : Int} {x : ByteArray} (h : WAt W v j k x) (t : Turns Z W W') (hz : ∀ b, v.blk b → ¬ Z b) : WAt W' v j k x := by
  cases v with
  | wr p q r =>
    obtain ⟨h1, h2, h3⟩ := h
    exact ⟨(t.block p (heap_lt h1) (hz p (.inl rfl))).trans h1, (t.block q (heap_lt h2) (hz q (.inr (.inl rfl)))).trans h2, (t.block r (heap_lt h3) (hz r (.inr (.inr rfl)))).trans h3⟩
  | sy d => exact h.elim
theorem WAt.lt {W : World} {v : CallV} {j : Nat} {k : Int} {x : ByteArray} (h : WAt W v j k x) : ∀ b, v.blk b → b < W.heap.size := by
  cases v with
  | wr p q r =>
    obtain ⟨h1, h2, h3⟩ := h
    rintro b (rfl | rfl | rfl)
    · exact heap_lt h1
    · exact heap_lt h2
    · exact heap_lt h3
  | sy d => exact h.elim
theorem three_alloc (W : World) (A B C : Obj) : ((W.alloc A).alloc B).alloc C = ((W.alloc A).alloc B).alloc C ∧ Below W.heap.size W (((W.alloc A).alloc B).alloc C) ∧ (((W.alloc A).alloc B).alloc C).heap[W.heap.size]? = some A ∧ (((W.alloc A).alloc B).alloc C).heap[W.heap.size + 1]? = some B ∧ (((W.alloc A).alloc B).alloc C).heap[W.heap.size + 1 + 1]? = some C := by
  have n1 := World.alloc_heap_new W A
  have n2 := World.alloc_heap_new (W.alloc A) B
  have n3 := World.alloc_heap_new ((W.alloc A).alloc B) C
  have z1 : (W.alloc A).heap.size = W.heap.size + 1 := World.size_alloc ..
  have z2 : ((W.alloc A).alloc B).heap.size = W.heap.size + 1 + 1 := by rw [World.size_alloc, z1]
  rw [z1] at n2
  rw [z2] at n3
  refine ⟨rfl, (((Below.refl _ W).alloc (Nat.le_refl _) A).alloc (by omega) B).alloc (by omega) C, ?_, ?_, n3⟩
  · rw [Below.heap_alloc _ _ _ (by omega), Below.heap_alloc _ _ _ (by omega)]; exact n1
  · rw [Below.heap_alloc _ _ _ (by omega)]; exact n2
def MadeP (W : World) (j : Nat) (k : Int) (x : ByteArray) (e : Ending) (W' : World) : Prop := ∃ p q r : Nat, e = .returned (.func (.func 72) #[] #[.pointer (some ⟨p, 0, none⟩), .pointer (some ⟨q, 0, none⟩), .pointer (some ⟨r, 0, none⟩)]) ∧ WAt W' (.wr p q r) j k x ∧ (∀ b, (CallV.wr p q r).blk b → W.heap.size ≤ b) ∧ Below W.heap.size W W'

set_option maxHeartbeats 2000000 in
theorem writing_walk (W : World) (j : Nat) (k : Int) (x : ByteArray) : Calls Tryz.prog 41 #[.pointer (some ⟨j, 0, none⟩), .int .i64 k, .string x] W (MadeP W j k x) := by
  have hmf : ∀ (fn : Fn) (first cap : Array Value) (w : World), (Instr.makeFunc fn first cap).run Tryz.prog w = .ok (.func fn first cap) w := fun _ _ _ _ => rfl
  go_enter Tryz.func41, Tryz.ntmps41
  go_wp2_with fail
  go_ret
  obtain ⟨-, hb, h1, h2, h3⟩ := three_alloc W (.cells #[.pointer (some ⟨j, 0, none⟩)] 28) (.cells #[.int .i64 k] 3) (.cells #[.string x] 9)
  exact ⟨W.heap.size, W.heap.size + 1, W.heap.size + 1 + 1, rfl, ⟨h1, h2, h3⟩, by rintro b (rfl | rfl | rfl) <;> omega, hb⟩

set_option maxRecDepth 100000 in
set_option maxHeartbeats 4000000 in
theorem wcall_walk {W : World} {F : Nat → Prop} {d gd gv n : Nat} {vp : Value} {s : DS} (h : DAt W F d gd gv vp n s) (v : CallV) (j : Nat) (k : Int) (x : ByteArray) (hv : WAt W v j k x) (hj : W.cell? ⟨j, 3, none⟩ = some (.pointer (some ⟨d, 0, none⟩)))
    (hF : ∀ b, v.blk b ∨ b = j → ¬ F b) (hx : x.size ≤ 4194304) (hp : s.pend.length ≤ 1000000) (hleft : s.left ≤ 9223372036854775807) :
    Calls Tryz.prog v.fn v.args W fun e W' => e = .returned (.int .i64 (s.writeE k x)) ∧ (∃ F' vp', DAt W' F' d gd gv vp' n (s.wr k x) ∧ ∀ k, F' k → F k ∨ W.heap.size ≤ k) ∧ Turns F W W' := by
  cases v with
  | sy d => exact hv.elim
  | wr p q r =>
    obtain ⟨h1, h2, h3⟩ := hv
    have c0 : W.cell? ⟨p, 0, none⟩ = some (.pointer (some ⟨j, 0, none⟩)) := by simp [World.cell?, h1]
    have c1 : W.cell? ⟨q, 0, none⟩ = some (.int .i64 k) := by simp [World.cell?, h2]
    have c2 : W.cell? ⟨r, 0, none⟩ = some (.string x) := by simp [World.cell?, h3]
    have lp := heap_lt h1
    have lq := heap_lt h2
    have lr := heap_lt h3
    have lj := cell_lt hj
    have HW := Lib.hid (write_all (h.drewN 1) k x hx hp hleft)
    have HK : Hid (∀ W', Turns F (W.drewN 1) W' → W'.cell? ⟨p, 0, none⟩ = some (.pointer (some ⟨j, 0, none⟩)) ∧ W'.cell? ⟨q, 0, none⟩ = some (.int .i64 k) ∧ W'.cell? ⟨r, 0, none⟩ = some (.string x) ∧ W'.cell? ⟨j, 3, none⟩ = some (.pointer (some ⟨d, 0, none⟩))) := Lib.hid (fun W' t =>
      ⟨(t.cell (p := ⟨p, 0, none⟩) lp (hF p (.inl (.inl rfl)))).trans c0, (t.cell (p := ⟨q, 0, none⟩) lq (hF q (.inl (.inr (.inl rfl))))).trans c1, (t.cell (p := ⟨r, 0, none⟩) lr (hF r (.inl (.inr (.inr rfl))))).trans c2, (t.cell (p := ⟨j, 3, none⟩) lj (hF j (.inr rfl))).trans hj⟩)
    unfold CallV.fn CallV.args
    dsimp only
    clear h1 h2 h3 h hF lp lq lr lj
    go_enter Tryz.func72, Tryz.ntmps72
    go_wp2_with fail
    go_region_held3 (fun w' => w'.cell? ⟨p, 0, none⟩ = some (.pointer (some ⟨j, 0, none⟩)) ∧ w'.cell? ⟨q, 0, none⟩ = some (.int .i64 k) ∧ w'.cell? ⟨r, 0, none⟩ = some (.string x) ∧ w'.cell? ⟨j, 3, none⟩ = some (.pointer (some ⟨d, 0, none⟩))) (first | exact ⟨c0, c1, c2, hj⟩ | exact HK.out _ (by assumption) | fail)
      (first | (go_at_call 13; refine HW.out.mono ?_; rintro e W1 ⟨rfl, hd, ht⟩) | fail)
    go_wp2_with fail
    go_ret
    exact ⟨rfl, hd, (show Turns F W (W.drewN 1) from ⟨rfl, rfl, rfl, Nat.le_refl _, fun _ _ _ => rfl⟩).trans ht⟩
end Go.Proofs.YtllmciiadceinaaGreatDoor
