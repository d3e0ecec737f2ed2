/-
  JournalReopens: for every input the law returns true, and each argument reads afterwards as before. Condition: the listed package-level variables read as the program's text lays them (the card ties that).
-/
import Derived.Test.YtllmciiadceinaaDoorCards
import Derived.Test.YtllmciiadceinaaDoorTie
import Derived.Test.YtllmciiadceinaaDoorRow
import Derived.Test.YtllmciiadceinaaDoorJourQ
import Derived.Deep.DeepHandedRow
import Derived.Lib.LaidTab
import Derived.Lay
namespace Go.Proofs.YtllmciiadceinaaDoor.lawJournalReopens
open Go.ChangeShapes Go.WideShapes Go.ChangeAt Go.RowKit
open Go.ChangeMaps (open_string)

theorem own : ownKnob Tryd.prog.godebug = none := by kernel_rfl
theorem laidOut : laidOutB Tryd.prog = true := by kernel_rfl
theorem reads_ok : ∀ t ∈ Tryd.f4.params.toList, Tryd.prog.readableRec t = true ∧ t < Tryd.prog.types.size := by
  have h : (Tryd.f4.params.toList.all fun t => Tryd.prog.readableRec t && decide (t < Tryd.prog.types.size)) = true := by kernel_rfl
  intro t ht
  have := List.all_eq_true.1 h t ht
  simpa using this

theorem star : "*" ++ "errors.errorString" = "*errors.errorString" := by decide
theorem rowErr (u : TypeId) (h : Tryd.prog.typeName? 3 u = some "*errors.errorString") : u = 155 :=
  typeName_ptr_named (nm := "errors.errorString") (by rw [star]; kernel_rfl) (by kernel_rfl) (by decide) u (by rw [star]; exact h)
set_option maxRecDepth 100000 in
/-- What the listed variables hold. -/
theorem facts {W : World} (h : laidMetH Tryd.prog Rows.journalReopensRow.laid W) : KAt W ∧ ∃ a, ErrAt W a := by
  have h' : laidMet Tryd.prog Rows.journalReopensRow.laid W := h
  obtain ⟨ps, ⟨g0, t0, cs0, f0, p0, q0, hg0, ht0, hv0, hd0, ⟨g1, t1, cs1, f1, p1, q1, hg1, ht1, hv1, hd1, ⟨g2, t2, cs2, f2, p2, q2, hg2, ht2, hv2, hd2, -, e2⟩, e1⟩, e0⟩, -, hrows⟩ := h'
  obtain rfl := Option.some.inj ((by kernel_rfl : Tryd.prog.globalNamed "yardstick/digest.round" = some 4).symm.trans hg1)
  obtain rfl := Option.some.inj ((by kernel_rfl : Tryd.prog.globalNamed "yardstick/journal.errDamaged" = some 0).symm.trans hg2)
  obtain rfl := Option.some.inj ((by kernel_rfl : (Tryd.prog.globals[4]?).map (·.type) = some 147).symm.trans ht1)
  obtain rfl := Option.some.inj ((by kernel_rfl : (Tryd.prog.globals[0]?).map (·.type) = some 69).symm.trans ht2)
  subst e2
  subst e1
  subst e0
  refine ⟨?_, ?_⟩
  · have hc : cs1.toList = (shaK.map fun (n : Nat) => (n : Int)).map fun z => Value.int .u32 z :=
      Lib.cells_of_tab (n := 64) (k := .u32) (zs := shaK.map fun (n : Nat) => (n : Int)) Tryd.underlying147 Tryd.underlying137 (by kernel_rfl) (by kernel_rfl) hd1
    have hT : Lib.TabIs Tryd.prog W "yardstick/digest.round" .u32 (shaK.map fun (n : Nat) => (n : Int)) := by
      unfold Lib.TabIs
      rw [hv1, ← hc]
    intro j v hv
    rw [List.getElem?_map] at hv
    obtain ⟨x, hx, rfl⟩ := Option.map_eq_some_iff.1 hv
    have hj : j < shaK.length := (List.getElem?_eq_some_iff.1 hx).1
    have := hT.cell (g := 4) (by kernel_rfl) j (by simpa using hj)
    rw [Nat.zero_add, this]
    simp [List.getD_eq_getElem?_getD, List.getElem?_map, hx, wv]
  · obtain ⟨l2⟩ := cs2
    have ok2 : ∀ u v, l2 = [.iface u v] → Value.okWide Tryd.prog W .any 0 u v := fun u v e => by
      subst e
      exact (hrows 0 0 (by simp [MemPlace.row])).2 u v (by simpa using World.var?_cell hg2 hv2 0)
    obtain ⟨a, s, rfl, -⟩ := errorString_of_trod Tryd.underlying69 rowErr Tryd.underlying155 Tryd.underlying177 rfl rfl Tryd.underlying9 (by kernel_rfl) (by kernel_rfl) hd2 ok2
    exact ⟨a, show W.cell? ⟨0, 0, none⟩ = some (.iface 155 (.pointer (some a))) from by simpa using World.var?_cell hg2 hv2 0⟩

set_option maxRecDepth 100000 in
theorem contract (H : Type) (enc : TypeId × Value → H) (W : World) (base : Nat) (args : Array Value) (ds gs : List (DataW H)) (before : List MemPlace)
    (hval : ∀ (j : Nat) t v, Tryd.f4.params[j]? = some t → args[j]? = some v → Value.okWide Tryd.prog W .any base t v)
    (hW : DataW.Whole enc Tryd.prog Tryd.f4.params.toList Rows.journalReopensSpec.vars false W args.toList ds gs before) (hL : laidMetH Tryd.prog Rows.journalReopensRow.laid W) :
    Calls Tryd.prog 4 args W fun e W' => ∃ v, e = .returned v ∧ Rows.journalReopensSpec.post enc Tryd.prog Tryd.f4 false true false false W args v W' := by
  have hW' := hW
  obtain ⟨p, q, hA0, hV, rfl, hfz, hnd⟩ := hW
  have hA : DataW.TrodAll enc Tryd.prog W 0 (fun _ => true) true Tryd.f4.params.toList args.toList ds p := hA0
  rw [Tryd.params4] at hA hval
  obtain ⟨v0, vs0, d0, ds0, p0, q0, hargs, rfl, rfl, h0, r0⟩ := trodAll_cons hA
  obtain ⟨v1, vs1, d1, ds1, p1, q1, rfl, rfl, rfl, h1, r1⟩ := trodAll_cons r0
  obtain ⟨rfl, rfl, rfl⟩ := trodAll_nil r1
  obtain rfl : args = #[v0, v1] := by cases args; simp_all
  obtain ⟨rfl, rfl⟩ := trodVars_none hV
  obtain ⟨n, rfl, _, _, w0⟩ := open_int Tryd.underlying3 (hval 0 3 v0 rfl rfl) h0
  have c0 := bounds_i64 w0
  obtain ⟨lA, l, lc, rfl, lw1, lwc, lw2, lw3⟩ := open_groupsAt Tryd.underlying43 Tryd.underlying22 Tryd.underlying9 (by kernel_rfl) (by kernel_rfl) (hval 1 43 v1 rfl rfl) h1
  unfold maxLen at lwc
  obtain ⟨hk, a, he⟩ := facts hL
  refine (reopens_law W a hk he n c0.1 c0.2 lA l lc (by omega) lw2 lw3).mono fun e W' ⟨he, hb⟩ => ?_
  subst he
  exact ⟨_, rfl, law_post laidOut reads_ok rfl Tryd.underlying4 rfl hW' rfl hb⟩

def wargs : Array Value := #[.int .i64 0, .slice none 0 0]
noncomputable def laidWorld (os : Os) : World := World.laidAll Tryd.prog os Rows.journalReopensRow.laid
theorem laid_met (os : Os) : laidMet Tryd.prog Rows.journalReopensRow.laid ((laidWorld os).forCall (fun _ _ => 0) ⟨#[], wargs, []⟩).memory :=
  laidMet_laidAll wargs (by kernel_rfl) (by kernel_rfl)
theorem reads (os : Os) {H : Type} (enc : TypeId × Value → H) : ∃ places, DataW.whole enc Tryd.prog ((laidWorld os).forCall (fun _ _ => 0) ⟨#[], wargs, []⟩).memory Tryd.f4.params.toList Rows.journalReopensSpec.vars false wargs.toList 8 = some ([.lit (.int .i64 0), .nil], [], places) :=
  ⟨[], by kernel_rfl⟩

set_option maxRecDepth 100000 in
theorem lifted (os : Os) (started : os.Started) (H : Type) (enc : TypeId × Value → H) (F : Stop.Interp) :
    ReturnsInHanded {} Tryd.checked os 4 .any ((OpenSpec.ofChange Rows.journalReopensSpec).preRow enc Tryd.prog Tryd.f4 Rows.journalReopensRow.domain false Rows.journalReopensRow.laid) (((OpenSpec.ofChange Rows.journalReopensSpec).at F).post enc Tryd.prog Tryd.f4 false true false false) := by
  obtain ⟨places, hx⟩ := reads os enc
  refine returnsInHanded_of_row (C := Tryd.checked) (s := OpenSpec.ofChange Rows.journalReopensSpec) own started (by kernel_rfl) Tryd.func4
    (witness_row_at (enc := enc) (C := Tryd.checked) false (laidWorld os) wargs (World.laidAll_os _ _ _) (by kernel_rfl) (by kernel_rfl) (by kernel_rfl)
      (OpenSpec.preRow_of_cond 8 hx (by kernel_rfl) (fun k hk => by cases hk) (by kernel_rfl) (laid_met os))) ?_
  intro W base args ds gs before hval hW _ _ _ hL _ _
  exact contract H enc W base args ds gs before hval hW hL

theorem said : Rows.JournalReopensSaid :=
  OpenClaim.holds_of_cond 4 Tryd.f4 rfl rfl rfl rfl rfl rfl rfl ⟨rfl, rfl, rfl, rfl, rfl⟩ rfl rfl rfl rfl rfl (by kernel_rfl) Tryd.func4 (by kernel_rfl)
    (of_decide_eq_true (by kernel_rfl)) (by unfold Func.isWrapper; rw [if_neg (of_decide_eq_false (by kernel_rfl))]; exact ⟨rfl, rfl⟩)
    (fun os started H enc _ F => by rw [OpenClaim.pre_eq_preRow]; exact lifted os started H enc F)

theorem plain (f : FuncId) (fn : Func) (hf : Tryd.pinned.checked.prog.funcNamed "yardstick/yardsticklaw26.JournalReopens" = some f) (hfn : Tryd.pinned.checked.prog.funcs[f]? = some fn) :
    true = Tryd.pinned.checked.prog.looks [] ∧ ∀ (j : Nat) t, fn.params[j]? = some t → Tryd.pinned.checked.prog.wantsStandIn t = false := by
  obtain rfl : f = 4 := Option.some.inj ((show Tryd.prog.funcNamed "yardstick/yardsticklaw26.JournalReopens" = some 4 by kernel_rfl).symm.trans hf) |>.symm
  obtain rfl : fn = Tryd.f4 := (Option.some.inj (Tryd.func4.symm.trans hfn)).symm
  refine ⟨by kernel_rfl, fun j t ht => ?_⟩
  have h : (Tryd.f4.params.toList.all fun t => Tryd.prog.wantsStandIn t == false) = true := by kernel_rfl
  have h2 := List.all_eq_true.1 h t (Array.mem_toList_iff.2 (Array.mem_of_getElem? ht))
  have h3 : Tryd.prog.wantsStandIn t = false := by simpa using h2
  exact h3

/-- THE CARD. -/
theorem card : Rows.JournalReopensCardSaid :=
  Claim7.holds_tied_plain_at .later [] _ _ _ _ said (fun _ h => by cases h) (by kernel_rfl) (fun _ h => by cases h) journalReopens_row_tie rfl ⟨rfl, rfl⟩ (by kernel_rfl) rfl plain (by kernel_rfl)

end Go.Proofs.YtllmciiadceinaaDoor.lawJournalReopens
