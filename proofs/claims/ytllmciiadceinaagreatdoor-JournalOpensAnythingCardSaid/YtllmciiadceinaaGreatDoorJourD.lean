/-
  The contract of package journal's open. Conditions: the content has at most 4194304 bytes; the package's variables hold what they hold.
-/
import Derived.Test.YtllmciiadceinaaGreatDoorJourC
namespace Go.Proofs.YtllmciiadceinaaGreatDoor
open Go Go.RowKit Go.Shelf Wr

def zeroC : Array Value := ((List.replicate 32 (0 : UInt8)).map bv).toArray
theorem mk32 (W : World) : (Instr.makeSlice 39 (.int .i64 32) (.int .i64 32)).run Tryz.prog W = .ok (.slice (some ⟨W.heap.size, 0, none⟩) 32 32) (W.alloc (.cells zeroC 5)) := by kernel_rfl
theorem zero_new (W : World) : RAt (W.alloc (.cells zeroC 5)) W.heap.size bv (List.replicate 32 (0 : UInt8)) := RAt.alloc_new W zeroC _ rfl
theorem zero_conv (W : World) : (Go.convert 39 9 (.slice (some ⟨W.heap.size, 0, none⟩) 32 32)).run Tryz.prog (W.alloc (.cells zeroC 5)) = .ok (.string zero32) (W.alloc (.cells zeroC 5)) :=
  (zero_new W).convert (P := Tryz.prog) (cap := 32) (by simp) 39 9 5 Tryz.underlying39 Tryz.underlying5 Tryz.underlying9

theorem four_alloc (W : World) (A B C D : Obj) : ∃ W4, (((W.alloc A).alloc B).alloc C).alloc D = W4 ∧ W4.heap.size = W.heap.size + 4 ∧ Below W.heap.size W W4 ∧ W4.heap[W.heap.size]? = some A ∧ W4.heap[W.heap.size + 1]? = some B ∧ W4.heap[W.heap.size + 1 + 1 + 1]? = some D := by
  have n1 := World.alloc_heap_new W A
  have n2 := World.alloc_heap_new (W.alloc A) B
  have n4 := World.alloc_heap_new (((W.alloc A).alloc B).alloc C) D
  have z1 : (W.alloc A).heap.size = W.heap.size + 1 := World.size_alloc ..
  have z2 : ((W.alloc A).alloc B).heap.size = W.heap.size + 1 + 1 := by rw [World.size_alloc, z1]
  have z3 : (((W.alloc A).alloc B).alloc C).heap.size = W.heap.size + 1 + 1 + 1 := by rw [World.size_alloc, z2]
  rw [z1] at n2
  rw [z3] at n4
  refine ⟨_, rfl, by rw [World.size_alloc, z3], ?_, ?_, ?_, n4⟩
  · exact ((((Below.refl _ W).alloc (Nat.le_refl _) A).alloc (by omega) B).alloc (by omega) C).alloc (by omega) D
  · rw [Below.heap_alloc _ _ _ (by omega), Below.heap_alloc _ _ _ (by omega), Below.heap_alloc _ _ _ (by omega)]; exact n1
  · rw [Below.heap_alloc _ _ _ (by omega), Below.heap_alloc _ _ _ (by omega)]; exact n2

/-- How open ends. -/
def OpenP (d : Addr) (B : Nat) (R : Option TS) (e : Ending) (W' : World) : Prop := match R with
  | some t => ∃ j rv, e = .returned (.tuple #[.pointer (some ⟨j, 0, none⟩), .int .i64 0]) ∧ B ≤ j ∧ TapeAt W' j rv B t [.pointer (some d), .bool false]
  | none => e = .returned (.tuple #[.pointer none, .int .i64 262])

set_option maxRecDepth 100000 in
set_option maxHeartbeats 8000000 in
theorem jopen_walk {W : World} (d a : Addr) (s : ByteArray) (hs : s.size ≤ 4194304) (hK : KAt W) (hE : ErrAt W a) :
    Calls Tryz.prog 54 #[.pointer (some d), .string s] W fun e W' => Below W.heap.size W W' ∧ OpenP d W.heap.size (loadW s.data.toList TS.zero) e W' := by
  obtain ⟨R, hR⟩ : ∃ R, loadW s.data.toList TS.zero = R := ⟨_, rfl⟩
  rw [hR]
  have HR := Lib.hid hR
  clear hR
  have hmf : ∀ (fn : Fn) (first cap : Array Value) (w : World), (Instr.makeFunc fn first cap).run Tryz.prog w = .ok (.func fn first cap) w := fun _ _ _ _ => rfl
  have hmk := mk32
  have hcv := zero_conv ((W.alloc (.cells #[.pointer none] 28)).alloc (.cells #[.int .i64 0] 33))
  rw [World.size_alloc, World.size_alloc] at hcv
  have HK := Lib.hid hK
  have HE := Lib.hid hE
  clear hK hE
  go_enter_defers Tryz.func54, Tryz.ntmps54
  go_wp2_with fail
  obtain ⟨h, hh⟩ : ∃ h, W.heap.size = h := ⟨_, rfl⟩
  have hW4 := four_alloc W (.cells #[.pointer (some ⟨h + 1 + 1 + 1, 0, none⟩)] 28) (.cells #[.int .i64 0] 33) (.cells zeroC 5) (.cells #[.slice none 0 0, .string zero32, .int .i64 0, .pointer (some d), .bool false] 74)
  rw [hh] at hW4
  rw [hh]
  obtain ⟨W4, e4, s4, hb4, x0, x1, x3⟩ := hW4
  rw [e4]
  clear e4 hcv hmk
  have gK : 3 < h := by rw [← hh]; exact cell_lt (HK.out 0 _ rfl)
  have gE : 0 < h := by rw [← hh]; exact cell_lt HE.out
  have hK4 : KAt W4 := fun j v hv => (hb4.cell (p := ⟨3, 0 + j, none⟩) gK).trans (HK.out j v hv)
  have hE4 : ErrAt W4 a := (hb4.cell (p := ⟨0, 0, none⟩) gE).trans HE.out
  have hT : TapeAt W4 (h + 1 + 1 + 1) (.slice none 0 0) (h + 1 + 1 + 1) TS.zero [.pointer (some d), .bool false] := by
    refine ⟨by simp [World.cell?, x3], by simp [World.cell?, x3]; rfl, by simp [World.cell?, x3]; rfl, fun i => by simp [World.frozen?, x3], OL.nil, fun g q => by simp [Value.ownBlock] at q, fun i v hv => ?_, fun cs fz q => by rw [x3] at q; simp at q⟩
    match i with
    | 0 => simp [World.cell?, x3] at hv ⊢; exact hv
    | 1 => simp [World.cell?, x3] at hv ⊢; exact hv
    | i + 2 => simp at hv
  have HLD := Lib.hid (load_walk (a := a) s hT (by omega) (Nat.le_refl _) hs (Nat.zero_le _) rfl (Nat.zero_le _) hK4 hE4 (by omega) (by omega))
  refine HLD.out.mono ?_
  rw [show loadW (List.drop TS.zero.size s.data.toList) TS.zero = loadW s.data.toList TS.zero from by simp [TS.zero]]
  rintro e W5 ⟨hu5, hp5⟩
  have y0 : W5.heap[h]? = some (.cells #[.pointer (some ⟨h + 1 + 1 + 1, 0, none⟩)] 28 (0, 0)) := (hu5.block h (by omega) (by show ¬ h + 1 + 1 + 1 ≤ h; omega)).trans x0
  have y1 : W5.heap[h + 1]? = some (.cells #[.int .i64 0] 33 (0, 0)) := (hu5.block (h + 1) (by omega) (by show ¬ h + 1 + 1 + 1 ≤ h + 1; omega)).trans x1
  have hb5 : Below h W W5 := hu5.below hb4 (by omega) (fun k hk => by omega)
  have hE5 : ErrAt W5 a := (hb5.cell (p := ⟨0, 0, none⟩) gE).trans HE.out
  have c0 : W5.cell? ⟨h, 0, none⟩ = some (.pointer (some ⟨h + 1 + 1 + 1, 0, none⟩)) := by simp [World.cell?, y0]
  have f0 : W5.frozen? ⟨h, 0, none⟩ = false := by simp [World.frozen?, y0]
  have c1 : W5.cell? ⟨h + 1, 0, none⟩ = some (.int .i64 0) := by simp [World.cell?, y1]
  have f1 : W5.frozen? ⟨h + 1, 0, none⟩ = false := by simp [World.frozen?, y1]
  rw [HR.out] at hp5
  have HB5 := Lib.hid hb5
  have HH := Lib.hid hh
  have HE5 := Lib.hid hE5
  clear HLD hT x0 x1 x3 hK4 hE4 hu5 hb4 y0 y1 hb5 hE5 HR HK HE hh gK gE
  cases R with
  | none =>
    cases hp5
    go_wp2_with fail
    refine leaves_cons (f := 76) (args := #[.pointer (some ⟨h, 0, none⟩), .pointer (some ⟨h + 1, 0, none⟩)]) (by simp) (by simp [go_sem]) ?_
    refine (catch_walk ⟨h, 0, none⟩ ⟨h + 1, 0, none⟩ a [] W5 HE5.out _ _ c0 f0 c1 f1 (by simp)).mono ?_
    rintro e u' w'' ⟨rfl, rfl, rfl⟩
    have z0 : ((W5.setCell ⟨h, 0, none⟩ (.pointer none)).setCell ⟨h + 1, 0, none⟩ (.int .i64 262)).cell? ⟨h, 0, none⟩ = some (.pointer none) := by
      rw [World.cell?_setCell_other _ _ _ _ (fun q => by injection q; omega)]; exact World.cell?_setCell_same _ _ _ (by rw [c0])
    have z1 : ((W5.setCell ⟨h, 0, none⟩ (.pointer none)).setCell ⟨h + 1, 0, none⟩ (.int .i64 262)).cell? ⟨h + 1, 0, none⟩ = some (.int .i64 262) :=
      World.cell?_setCell_same _ _ _ (by rw [World.cell?_setCell_other _ _ _ _ (fun q => by injection q; omega), c1])
    refine ⟨.tuple #[.pointer none, .int .i64 262], ?_, ?_, rfl⟩
    · simp [results, Tryz.results54, go_sem, z0, z1]
    · rw [HH.out]
      exact (HB5.out.setCell (p := ⟨h, 0, none⟩) (Nat.le_refl _) _).setCell (p := ⟨h + 1, 0, none⟩) (by show h ≤ h + 1; omega) _
  | some t =>
    obtain ⟨rfl, rv, hT5⟩ := hp5
    have HT5 := Lib.hid hT5
    clear hT5
    go_wp2_with fail
    refine leaves_cons (f := 76) (args := #[.pointer (some ⟨h, 0, none⟩), .pointer (some ⟨h + 1, 0, none⟩)]) (by simp) (by simp [go_sem]) ?_
    refine (catch_idle ⟨h, 0, none⟩ ⟨h + 1, 0, none⟩ _).mono ?_
    rintro e u' w'' ⟨rfl, rfl, rfl⟩
    have z0 : ((W5.setCell ⟨h, 0, none⟩ (.pointer (some ⟨h + 1 + 1 + 1, 0, none⟩))).setCell ⟨h + 1, 0, none⟩ (.int .i64 0)).cell? ⟨h, 0, none⟩ = some (.pointer (some ⟨h + 1 + 1 + 1, 0, none⟩)) := by
      rw [World.cell?_setCell_other _ _ _ _ (fun q => by injection q; omega)]; exact World.cell?_setCell_same _ _ _ (by rw [c0])
    have z1 : ((W5.setCell ⟨h, 0, none⟩ (.pointer (some ⟨h + 1 + 1 + 1, 0, none⟩))).setCell ⟨h + 1, 0, none⟩ (.int .i64 0)).cell? ⟨h + 1, 0, none⟩ = some (.int .i64 0) :=
      World.cell?_setCell_same _ _ _ (by rw [World.cell?_setCell_other _ _ _ _ (fun q => by injection q; omega), c1])
    refine ⟨.tuple #[.pointer (some ⟨h + 1 + 1 + 1, 0, none⟩), .int .i64 0], ?_, ?_, ⟨_, rv, rfl, ?_, ?_⟩⟩
    · simp [results, Tryz.results54, go_sem, z0, z1]
    · rw [HH.out]
      exact (HB5.out.setCell (p := ⟨h, 0, none⟩) (Nat.le_refl _) _).setCell (p := ⟨h + 1, 0, none⟩) (by show h ≤ h + 1; omega) _
    · rw [HH.out]; omega
    · have hu : Turns (fun k => k = h ∨ k = h + 1) W5 ((W5.setCell ⟨h, 0, none⟩ (.pointer (some ⟨h + 1 + 1 + 1, 0, none⟩))).setCell ⟨h + 1, 0, none⟩ (.int .i64 0)) :=
        (Turns.setCell W5 ⟨h, 0, none⟩ _ (Or.inl rfl)).trans (Turns.setCell _ ⟨h + 1, 0, none⟩ _ (Or.inr rfl))
      have hk := HT5.out.keep hu (by omega) (fun g hg q => by have := (HT5.out.own.lt g hg).1; omega)
      refine ⟨hk.c0, hk.c1, hk.c2, hk.fr, hk.own.base (by rw [HH.out]; omega), hk.ne, hk.ex, hk.nby⟩
end Go.Proofs.YtllmciiadceinaaGreatDoor
