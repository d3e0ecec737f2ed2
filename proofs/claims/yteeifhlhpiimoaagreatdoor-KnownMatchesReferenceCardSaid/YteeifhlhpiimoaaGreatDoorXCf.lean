/-
  The closed facts of the row of KnownMatchesReference hold, one by one. No condition.
-/
import Derived.Test.YteeifhlhpiimoaaGreatDoorCards
import Derived.Test.YteeifhlhpiimoaaGreatDoorTie
import Derived.Stop.LaidErr
import Derived.Deep.DeepHandedRow
import Derived.Lib.LaidTab
import Derived.Lay
set_option maxHeartbeats 4000000
set_option maxRecDepth 100000
open Go.Act renaming put→sV
open Go.Addr renaming add→jy
open Go.OpenSpec renaming ofChange→NU
open Go.Proofs.Tryz renaming checked→Uo,f8→sW,func8→UC,prog→ah
open List renaming setIfInBounds_toArray→ta,set_cons_succ→tc,set_cons_zero→td
namespace Go.Proofs.YteeifhlhpiimoaaGreatDoor.lawKnownMatchesReference
open Go.ChangeShapes Go.WideShapes Go.ChangeAt Go.RowKit
open Go.ChangeMaps (open_string)
theorem aie:joinedFacts Tryz.pinned.checked.prog 8 sW (NU Rows.knownMatchesReferenceSpec).bare Rows.knownMatchesReferenceRow=true:=by
 unfold joinedFacts;simp only[Bool.and_eq_true]
 repeat' apply And.intro
 all_goals (as_aux_lemma=>kernel_rfl)
end Go.Proofs.YteeifhlhpiimoaaGreatDoor.lawKnownMatchesReference
