/-
  The contracts of errors.Is at the package's error, of open's deferred function, of open. Conditions: the variable holds an error.
-/
import Derived.Test.YtllmciiadceinaaDoorJourB
import Derived.LaidEql
import Derived.Stop.Asserts
import Derived.RowKitTokens
import Derived.Recover
namespace Go.Proofs.YtllmciiadceinaaDoor
open Go Go.RowKit Go.Shelf Go.Extern.Stop Go.Stop Go.Extern Wr

theorem Tryd.isTypeOf (v : Value) (w : World) : (Extern.ReflectliteType.typeOf #[.iface 155 v]).run Tryd.prog w = .ok (.iface 112 (.agg #[.pointer (some ⟨5, 155, none⟩)])) w := by kernel_rfl
/-- The model's entry for the type's method. -/
def cmpE : Array Value → Sem Value := Extern.ReflectliteType.method fun t => do Extern.Rtype.noPackHeld "Comparable" t; pure (.bool (← typeInfo t).comparable)
theorem Tryd.isComparable (w : World) : (cmpE #[.agg #[.pointer (some ⟨5, 155, none⟩)]]).run Tryd.prog w = .ok (.bool true) w := by kernel_rfl
theorem Tryd.isMethodComparable (v : Value) (w : World) : (Go.method 288 112 v "Comparable").run Tryd.prog w = .ok (110, v) w := by kernel_rfl
theorem Tryd.isComp : (Tryd.prog.info? 155).map (·.comparable) = some true := by kernel_rfl
theorem Tryd.isSize : (Tryd.prog.info? 177).map (·.size) = some 1 := by kernel_rfl

set_option maxRecDepth 100000 in
set_option maxHeartbeats 4000000 in
/-- errors.Is(x, x), x a pointer to an errors.errorString. -/
theorem is_same (a : Addr) (w : World) :
    Calls Tryd.prog 39 #[errV a, errV a] w fun e w' => e = .returned (.bool true) ∧ w' = w := by
  unfold errV
  obtain ⟨i, hi, hcmp⟩ := Option.map_eq_some_iff.1 Tryd.isComp
  obtain ⟨j, hj, hjs⟩ := Option.map_eq_some_iff.1 Tryd.isSize
  have h8 := @run_callFunc_extern Tryd.prog 55 _ Extern.ReflectliteType.typeOf Tryd.func55 (by kernel_rfl) (by kernel_rfl) (by kernel_rfl) (by kernel_rfl)
  have h32 := @run_callFunc_extern Tryd.prog 110 _ cmpE Tryd.func110 (by kernel_rfl) (by kernel_rfl) (by kernel_rfl) (by kernel_rfl)
  have tT := Tryd.isTypeOf
  have cT := Tryd.isComparable
  have mR := Tryd.isMethodComparable
  have heq := run_eql_iface_ptr_same (P := Tryd.prog) w a Tryd.underlying69 Tryd.underlying155 hi hcmp hj
  go_enter Tryd.func39, Tryd.ntmps39
  go_wp2
  refine wp_loop_rounds 1 ?_
  rw [rounds_succ]
  go_wp2
  go_ret
  exact ⟨rfl, rfl⟩
theorem Tryd.isErr (v : Value) (xT : TypeId) (w : World) : (Instr.typeAssert (.iface 155 v) xT 69 true).run Tryd.prog w = .ok (.tuple #[.iface 155 v, .bool true]) w := run_typeAssert_hasB Tryd.underlying69 (by kernel_rfl) v xT w

set_option maxRecDepth 100000 in
set_option maxHeartbeats 4000000 in
theorem catch_walk (pj pe : Addr) (a : Addr) (older : List PanicEntry) (w : World) (hE : ErrAt w a) (vj ve : Value) (hj : w.cell? pj = some vj) (hjf : w.frozen? pj = false) (he : w.cell? pe = some ve) (hef : w.frozen? pe = false) (hne : pj.block ≠ pe.block) :
    CallsD Tryd.prog 38 #[.pointer (some pj), .pointer (some pe)] (.panicking ({ v := errV a, recovered := false } :: older)) w fun e u' w' =>
      e = .returned (.tuple #[]) ∧ u' = .panicking ({ v := errV a, recovered := true } :: older) ∧ w' = (w.setCell pj (.pointer none)).setCell pe (.int .i64 262) := by
  have hT := Tryd.isErr
  refine callsD_of_wpS Tryd.func38 rfl fun c₀ cs hu => ?_
  apply wpS_seq
  apply wpS_region
  unfold errV at hu ⊢
  simp [wpOpsS, go_sem, recoverD, hu, Tryd.ntmps38, Exit.thenS, hT]
  refine wpS_of_wp ?_
  simp [Array.replicate, List.replicate]
  have hIs := Lib.hid (fun w => is_same a w)
  unfold ErrAt errV at hE
  unfold errV at hIs
  have hje : ∀ v, (w.setCell pj v).cell? pe = some ve := fun v => by rw [World.cell?_setCell_other _ _ _ _ (fun q => hne (congrArg Addr.block q))]; exact he
  refine Code.wp_mono (Q := fun e a' w' => e = .normal ∧ a'.defers = [] ∧ w' = (w.setCell pj (.pointer none)).setCell pe (.int .i64 262)) ?_ ?_
  · rintro e a' w' ⟨rfl, h2, rfl⟩
    exact ⟨h2, _, rfl, .tuple #[], results_none rfl _ _ _, rfl, rfl, rfl⟩
  clear hu hT hne cs c₀ older
  go_wp2_with (first | (go_at_call 39; refine (hIs.out _).mono ?_; rintro e w2 ⟨rfl, rfl⟩))

set_option maxRecDepth 100000 in
set_option maxHeartbeats 4000000 in
theorem catch_idle (pj pe : Addr) (w : World) : CallsD Tryd.prog 38 #[.pointer (some pj), .pointer (some pe)] .returning w fun e u' w' => e = .returned (.tuple #[]) ∧ u' = .returning ∧ w' = w := by
  have hT : ∀ w, (Instr.typeAssert .nilIface 20 69 true).run Tryd.prog w = .ok (.tuple #[.nilIface, .bool false]) w := fun w => by kernel_rfl
  refine callsD_of_wpS Tryd.func38 rfl fun c₀ cs hu => ?_
  apply wpS_seq
  apply wpS_region
  simp [wpOpsS, go_sem, recoverD, hu, Tryd.ntmps38, Exit.thenS, hT]
  refine wpS_of_wp ?_
  simp [Array.replicate, List.replicate]
  refine Code.wp_mono (Q := fun e a' w' => e = .normal ∧ a'.defers = [] ∧ w' = w) ?_ ?_
  · rintro e a' w' ⟨rfl, h2, rfl⟩
    refine ⟨h2, .returning, ?_, .tuple #[], results_none rfl _ _ _, rfl, rfl, rfl⟩
    cases c₀
    simp_all
  clear hu hT cs c₀
  go_wp2_with fail
end Go.Proofs.YtllmciiadceinaaDoor
