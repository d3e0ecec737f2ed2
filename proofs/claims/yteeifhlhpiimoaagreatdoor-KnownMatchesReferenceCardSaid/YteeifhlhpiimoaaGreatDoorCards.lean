/-
  DERIVED. GIVEN WITH THE SEED: THE CARDS: each row of YteeifhlhpiimoaaGreatDoorRows.lean that lists a variable, with what it lists TIED to the program's text (the seventh form; the later family's looks); each row that meets fmt, with fmt's text TOLD by the authors' own Lean function (tested against real Go, not proved from fmt's source: count such statements apart). THE CARD IS WHAT COUNTS. Prove the row's statement (the work); the ties are given (YteeifhlhpiimoaaGreatDoorTie.lean); close each card by the builder's one call (the guide's Derived/Test/ToyasCard.lean, 'card_holds'). Laid BY PROGRAM, IN A SANDBOX (cutbox-door.mjs). By AI agents, Wed Nov 11 2026. No macro, syntax, notation, axiom, sorry.
-/
import Derived.Test.YteeifhlhpiimoaaGreatDoorRows
import GoSem.ClaimSeven
namespace Go.Proofs.YteeifhlhpiimoaaGreatDoor
namespace Rows

/-- THE TIED CARD OF 'yardsticklaw19.KnownOrder'. -/
def knownOrderCard : Claim7 := { stood := { row := knownOrderRow, standIns := [], harness := (true, "8d16eca9ffea2c641f274ab8444123660859b1ca4d303c8151f353421c581466"), looks := true }, kinds := [], alts := [], laidByText := true, laidKinds := [.data, .data, .data, .data, .sentinel, .sentinel, .pinned], laidTests := true, laidLooks := .later }
def KnownOrderCardSaid : Prop := Claim7.holds Tryz.pinned (.plain (OpenSpec.ofChange knownOrderSpec)) knownOrderCard

/-- THE TIED CARD OF 'yardsticklaw19.KnownCorrected'. -/
def knownCorrectedCard : Claim7 := { stood := { row := knownCorrectedRow, standIns := [], harness := (true, "8d16eca9ffea2c641f274ab8444123660859b1ca4d303c8151f353421c581466"), looks := true }, kinds := [], alts := [], laidByText := true, laidKinds := [.data, .data, .data, .data, .sentinel, .sentinel, .pinned], laidTests := true, laidLooks := .later }
def KnownCorrectedCardSaid : Prop := Claim7.holds Tryz.pinned (.plain (OpenSpec.ofChange knownCorrectedSpec)) knownCorrectedCard

/-- THE TIED CARD OF 'yardsticklaw19.KnownEffect'. -/
def knownEffectCard : Claim7 := { stood := { row := knownEffectRow, standIns := [], harness := (true, "8d16eca9ffea2c641f274ab8444123660859b1ca4d303c8151f353421c581466"), looks := true }, kinds := [], alts := [], laidByText := true, laidKinds := [.data, .data, .data, .data, .sentinel, .sentinel, .pinned], laidTests := true, laidLooks := .later }
def KnownEffectCardSaid : Prop := Claim7.holds Tryz.pinned (.plain (OpenSpec.ofChange knownEffectSpec)) knownEffectCard

/-- THE TIED CARD OF 'yardsticklaw19.KnownKeys'. -/
def knownKeysCard : Claim7 := { stood := { row := knownKeysRow, standIns := [], harness := (true, "8d16eca9ffea2c641f274ab8444123660859b1ca4d303c8151f353421c581466"), looks := true }, kinds := [], alts := [], laidByText := true, laidKinds := [.data, .data, .data, .data, .sentinel, .sentinel, .pinned], laidTests := true, laidLooks := .later }
def KnownKeysCardSaid : Prop := Claim7.holds Tryz.pinned (.plain (OpenSpec.ofChange knownKeysSpec)) knownKeysCard

/-- THE TIED CARD OF 'yardsticklaw19.KnownOthers'. -/
def knownOthersCard : Claim7 := { stood := { row := knownOthersRow, standIns := [], harness := (true, "8d16eca9ffea2c641f274ab8444123660859b1ca4d303c8151f353421c581466"), looks := true }, kinds := [], alts := [], laidByText := true, laidKinds := [.data, .data, .data, .data, .sentinel, .sentinel, .pinned], laidTests := true, laidLooks := .later }
def KnownOthersCardSaid : Prop := Claim7.holds Tryz.pinned (.plain (OpenSpec.ofChange knownOthersSpec)) knownOthersCard

/-- THE TIED CARD OF 'yardsticklaw19.KnownMatchesReference'. -/
def knownMatchesReferenceCard : Claim7 := { stood := { row := knownMatchesReferenceRow, standIns := [], harness := (true, "8d16eca9ffea2c641f274ab8444123660859b1ca4d303c8151f353421c581466"), looks := true }, kinds := [], alts := [], laidByText := true, laidKinds := [.data, .data, .data, .data, .sentinel, .sentinel, .pinned], laidTests := true, laidLooks := .later }
def KnownMatchesReferenceCardSaid : Prop := Claim7.holds Tryz.pinned (.plain (OpenSpec.ofChange knownMatchesReferenceSpec)) knownMatchesReferenceCard

/-- THE TIED CARD OF 'yardsticklaw19.KnownSpans'. -/
def knownSpansCard : Claim7 := { stood := { row := knownSpansRow, standIns := [], harness := (true, "8d16eca9ffea2c641f274ab8444123660859b1ca4d303c8151f353421c581466"), looks := true }, kinds := [], alts := [], laidByText := true, laidKinds := [.data, .data, .data, .data, .sentinel, .sentinel, .pinned], laidTests := true, laidLooks := .later }
def KnownSpansCardSaid : Prop := Claim7.holds Tryz.pinned (.plain (OpenSpec.ofChange knownSpansSpec)) knownSpansCard

/-- THE TIED CARD OF 'yardsticklaw19.KnownLate'. -/
def knownLateCard : Claim7 := { stood := { row := knownLateRow, standIns := [], harness := (true, "8d16eca9ffea2c641f274ab8444123660859b1ca4d303c8151f353421c581466"), looks := true }, kinds := [], alts := [], laidByText := true, laidKinds := [.data, .data, .data, .data, .sentinel, .sentinel, .pinned], laidTests := true, laidLooks := .later }
def KnownLateCardSaid : Prop := Claim7.holds Tryz.pinned (.plain (OpenSpec.ofChange knownLateSpec)) knownLateCard

/-- THE SECOND FORM's CARD OF 'yardsticklaw19.KnownOrder'. -/
def knownOrderUptoCard : Claim7 := { stood := { row := knownOrderUptoRow, standIns := [], harness := (true, "8d16eca9ffea2c641f274ab8444123660859b1ca4d303c8151f353421c581466"), looks := true }, kinds := [], alts := [], laidByText := true, laidKinds := [.data, .data, .data, .data, .sentinel, .sentinel, .pinned], laidTests := true, laidLooks := .later }
def KnownOrderUptoCardSaid : Prop := Claim7.holds Tryz.pinned (.plain (OpenSpec.upto knownOrderSpec)) knownOrderUptoCard

/-- THE SECOND FORM's CARD OF 'yardsticklaw19.KnownCorrected'. -/
def knownCorrectedUptoCard : Claim7 := { stood := { row := knownCorrectedUptoRow, standIns := [], harness := (true, "8d16eca9ffea2c641f274ab8444123660859b1ca4d303c8151f353421c581466"), looks := true }, kinds := [], alts := [], laidByText := true, laidKinds := [.data, .data, .data, .data, .sentinel, .sentinel, .pinned], laidTests := true, laidLooks := .later }
def KnownCorrectedUptoCardSaid : Prop := Claim7.holds Tryz.pinned (.plain (OpenSpec.upto knownCorrectedSpec)) knownCorrectedUptoCard

/-- THE SECOND FORM's CARD OF 'yardsticklaw19.KnownEffect'. -/
def knownEffectUptoCard : Claim7 := { stood := { row := knownEffectUptoRow, standIns := [], harness := (true, "8d16eca9ffea2c641f274ab8444123660859b1ca4d303c8151f353421c581466"), looks := true }, kinds := [], alts := [], laidByText := true, laidKinds := [.data, .data, .data, .data, .sentinel, .sentinel, .pinned], laidTests := true, laidLooks := .later }
def KnownEffectUptoCardSaid : Prop := Claim7.holds Tryz.pinned (.plain (OpenSpec.upto knownEffectSpec)) knownEffectUptoCard

/-- THE SECOND FORM's CARD OF 'yardsticklaw19.KnownKeys'. -/
def knownKeysUptoCard : Claim7 := { stood := { row := knownKeysUptoRow, standIns := [], harness := (true, "8d16eca9ffea2c641f274ab8444123660859b1ca4d303c8151f353421c581466"), looks := true }, kinds := [], alts := [], laidByText := true, laidKinds := [.data, .data, .data, .data, .sentinel, .sentinel, .pinned], laidTests := true, laidLooks := .later }
def KnownKeysUptoCardSaid : Prop := Claim7.holds Tryz.pinned (.plain (OpenSpec.upto knownKeysSpec)) knownKeysUptoCard

/-- THE SECOND FORM's CARD OF 'yardsticklaw19.KnownOthers'. -/
def knownOthersUptoCard : Claim7 := { stood := { row := knownOthersUptoRow, standIns := [], harness := (true, "8d16eca9ffea2c641f274ab8444123660859b1ca4d303c8151f353421c581466"), looks := true }, kinds := [], alts := [], laidByText := true, laidKinds := [.data, .data, .data, .data, .sentinel, .sentinel, .pinned], laidTests := true, laidLooks := .later }
def KnownOthersUptoCardSaid : Prop := Claim7.holds Tryz.pinned (.plain (OpenSpec.upto knownOthersSpec)) knownOthersUptoCard

/-- THE SECOND FORM's CARD OF 'yardsticklaw19.KnownMatchesReference'. -/
def knownMatchesReferenceUptoCard : Claim7 := { stood := { row := knownMatchesReferenceUptoRow, standIns := [], harness := (true, "8d16eca9ffea2c641f274ab8444123660859b1ca4d303c8151f353421c581466"), looks := true }, kinds := [], alts := [], laidByText := true, laidKinds := [.data, .data, .data, .data, .sentinel, .sentinel, .pinned], laidTests := true, laidLooks := .later }
def KnownMatchesReferenceUptoCardSaid : Prop := Claim7.holds Tryz.pinned (.plain (OpenSpec.upto knownMatchesReferenceSpec)) knownMatchesReferenceUptoCard

/-- THE SECOND FORM's CARD OF 'yardsticklaw19.KnownSpans'. -/
def knownSpansUptoCard : Claim7 := { stood := { row := knownSpansUptoRow, standIns := [], harness := (true, "8d16eca9ffea2c641f274ab8444123660859b1ca4d303c8151f353421c581466"), looks := true }, kinds := [], alts := [], laidByText := true, laidKinds := [.data, .data, .data, .data, .sentinel, .sentinel, .pinned], laidTests := true, laidLooks := .later }
def KnownSpansUptoCardSaid : Prop := Claim7.holds Tryz.pinned (.plain (OpenSpec.upto knownSpansSpec)) knownSpansUptoCard

/-- THE SECOND FORM's CARD OF 'yardsticklaw19.KnownLate'. -/
def knownLateUptoCard : Claim7 := { stood := { row := knownLateUptoRow, standIns := [], harness := (true, "8d16eca9ffea2c641f274ab8444123660859b1ca4d303c8151f353421c581466"), looks := true }, kinds := [], alts := [], laidByText := true, laidKinds := [.data, .data, .data, .data, .sentinel, .sentinel, .pinned], laidTests := true, laidLooks := .later }
def KnownLateUptoCardSaid : Prop := Claim7.holds Tryz.pinned (.plain (OpenSpec.upto knownLateSpec)) knownLateUptoCard
end Rows
end Go.Proofs.YteeifhlhpiimoaaGreatDoor
