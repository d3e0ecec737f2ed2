/-
  The contracts of errors.Is at the package's error, of open's deferred function, of open. Conditions: the variable holds an error.
-/
import Derived.Test.YtllmciiadceinaaGreatDoorJourB
import Derived.LaidEql
import Derived.Stop.Asserts
import Derived.RowKitTokens
import Derived.Recover
namespace Go.Proofs.YtllmciiadceinaaGreatDoor
open Go Go.RowKit Go.Shelf Go.Extern.Stop Go.Stop Go.Extern Wr

theorem Tryz.isTypeOf (v : Value) (w : World) : (Extern.ReflectliteType.typeOf #[.iface 222 v]).run Tryz.prog w = .ok (.iface 171 (.agg #[.pointer (some ⟨5, 222, none⟩)])) w := by kernel_rfl
/-- The model's entry for the type's method. -/
def cmpE : Array Value → Sem Value := Extern.ReflectliteType.method fun t => do Extern.Rtype.noPackHeld "Comparable" t; pure (.bool (← typeInfo t).comparable)
theorem Tryz.isComparable (w : World) : (cmpE #[.agg #[.pointer (some ⟨5, 222, none⟩)]]).run Tryz.prog w = .ok (.bool true) w := by kernel_rfl
theorem Tryz.isMethodComparable (v : Value) (w : World) : (Go.method 355 171 v "Comparable").run Tryz.prog w = .ok (171, v) w := by kernel_rfl
theorem Tryz.isComp : (Tryz.prog.info? 222).map (·.comparable) = some true := by kernel_rfl
theorem Tryz.isSize : (Tryz.prog.info? 244).map (·.size) = some 1 := by kernel_rfl

set_option maxRecDepth 100000 in
set_option maxHeartbeats 4000000 in
/-- errors.Is(x, x), x a pointer to an errors.errorString. -/
theorem is_same (a : Addr) (w : World) :
    Calls Tryz.prog 77 #[errV a, errV a] w fun e w' => e = .returned (.bool true) ∧ w' = w := by
  unfold errV
  obtain ⟨i, hi, hcmp⟩ := Option.map_eq_some_iff.1 Tryz.isComp
  obtain ⟨j, hj, hjs⟩ := Option.map_eq_some_iff.1 Tryz.isSize
  have h8 := @run_callFunc_extern Tryz.prog 98 _ Extern.ReflectliteType.typeOf Tryz.func98 (by kernel_rfl) (by kernel_rfl) (by kernel_rfl) (by kernel_rfl)
  have h32 := @run_callFunc_extern Tryz.prog 171 _ cmpE Tryz.func171 (by kernel_rfl) (by kernel_rfl) (by kernel_rfl) (by kernel_rfl)
  have tT := Tryz.isTypeOf
  have cT := Tryz.isComparable
  have mR := Tryz.isMethodComparable
  have heq := run_eql_iface_ptr_same (P := Tryz.prog) w a Tryz.underlying80 Tryz.underlying222 hi hcmp hj
  go_enter Tryz.func77, Tryz.ntmps77
  go_wp2
  refine wp_loop_rounds 1 ?_
  rw [rounds_succ]
  go_wp2
  go_ret
  exact ⟨rfl, rfl⟩
theorem Tryz.isErr (v : Value) (xT : TypeId) (w : World) : (Instr.typeAssert (.iface 222 v) xT 80 true).run Tryz.prog w = .ok (.tuple #[.iface 222 v, .bool true]) w := run_typeAssert_hasB Tryz.underlying80 (by kernel_rfl) v xT w

set_option maxRecDepth 100000 in
set_option maxHeartbeats 4000000 in
theorem catch_walk (pj pe : Addr) (a : Addr) (older : List PanicEntry) (w : World) (hE : ErrAt w a) (vj ve : Value) (hj : w.cell? pj = some vj) (hjf : w.frozen? pj = false) (he : w.cell? pe = some ve) (hef : w.frozen? pe = false) (hne : pj.block ≠ pe.block) :
    CallsD Tryz.prog 76 #[.pointer (some pj), .pointer (some pe)] (.panicking ({ v := errV a, recovered := false } :: older)) w fun e u' w' =>
      e = .returned (.tuple #[]) ∧ u' = .panicking ({ v := errV a, recovered := true } :: older) ∧ w' = (w.setCell pj (.pointer none)).setCell pe (.int .i64 262) := by
  have hT := Tryz.isErr
  refine callsD_of_wpS Tryz.func76 rfl fun c₀ cs hu => ?_
  apply wpS_seq
  apply wpS_region
  unfold errV at hu ⊢
  simp [wpOpsS, go_sem, recoverD, hu, Tryz.ntmps76, Exit.thenS, hT]
  refine wpS_of_wp ?_
  simp [Array.replicate, List.replicate]
  have hIs := Lib.hid (fun w => is_same a w)
  unfold ErrAt errV at hE
  unfold errV at hIs
  have hje : ∀ v, (w.setCell pj v).cell? pe = some ve := fun v => by rw [World.cell?_setCell_other _ _ _ _ (fun q => hne (congrArg Addr.block q))]; exact he
  refine Code.wp_mono (Q := fun e a' w' => e = .normal ∧ a'.defers = [] ∧ w' = (w.setCell pj (.pointer none)).setCell pe (.int .i64 262)) ?_ ?_
  · rintro e a' w' ⟨rfl, h2, rfl⟩
    exact ⟨h2, _, rfl, .tuple #[], results_none rfl _ _ _, rfl, rfl, rfl⟩
  clear hu hT hne cs c₀ older
  go_wp2_with (first | (go_at_call 77; refine (hIs.out _).mono ?_; rintro e w2 ⟨rfl, rfl⟩))

set_option maxRecDepth 100000 in
set_option maxHeartbeats 4000000 in
theorem catch_idle (pj pe : Addr) (w : World) : CallsD Tryz.prog 76 #[.pointer (some pj), .pointer (some pe)] .returning w fun e u' w' => e = .returned (.tuple #[]) ∧ u' = .returning ∧ w' = w := by
  have hT : ∀ w, (Instr.typeAssert .nilIface 20 80 true).run Tryz.prog w = .ok (.tuple #[.nilIface, .bool false]) w := fun w => by kernel_rfl
  refine callsD_of_wpS Tryz.func76 rfl fun c₀ cs hu => ?_
  apply wpS_seq
  apply wpS_region
  simp [wpOpsS, go_sem, recoverD, hu, Tryz.ntmps76, Exit.thenS, hT]
  refine wpS_of_wp ?_
  simp [Array.replicate, List.replicate]
  refine Code.wp_mono (Q := fun e a' w' => e = .normal ∧ a'.defers = [] ∧ w' = w) ?_ ?_
  · rintro e a' w' ⟨rfl, h2, rfl⟩
    refine ⟨h2, .returning, ?_, .tuple #[], results_none rfl _ _ _, rfl, rfl, rfl⟩
    cases c₀
    simp_all
  clear hu hT cs c₀
  go_wp2_with fail
end Go.Proofs.YtllmciiadceinaaGreatDoor
