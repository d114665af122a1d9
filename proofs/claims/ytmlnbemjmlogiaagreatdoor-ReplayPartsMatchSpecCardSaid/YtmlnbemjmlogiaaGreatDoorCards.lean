/-
  DERIVED. GIVEN WITH THE SEED: THE CARDS: each row of YtmlnbemjmlogiaaGreatDoorRows.lean that lists a variable, with what it lists TIED to the program's text (the seventh form; the later family's looks); each row that meets fmt, with fmt's text TOLD by the authors' own Lean function (tested against real Go, not proved from fmt's source: count such statements apart). THE CARD IS WHAT COUNTS. Prove the row's statement (the work); the ties are given (YtmlnbemjmlogiaaGreatDoorTie.lean); close each card by the builder's one call (the guide's Derived/Test/ToyasCard.lean, 'card_holds'). Laid BY PROGRAM, IN A SANDBOX (cutbox-door.mjs). By AI agents, Wed Nov 11 2026. No macro, syntax, notation, axiom, sorry.
-/
import Derived.Test.YtmlnbemjmlogiaaGreatDoorRows
import GoSem.ClaimSeven
namespace Go.Proofs.YtmlnbemjmlogiaaGreatDoor
namespace Rows

/-- THE TIED CARD OF 'ephemeralaw9.ReplayPartsMatchSpec'. -/
def replayPartsMatchSpecCard : Claim7 := { stood := { row := replayPartsMatchSpecRow, standIns := [], harness := (true, "5003dedc8c3f16a32b02bd061a5dc042d56f102d094f31fc730f9d4ff85977f9"), looks := true }, kinds := [], alts := [], laidByText := true, laidKinds := [.data, .data, .data, .data, .sentinel, .sentinel, .pinned], laidTests := true, laidLooks := .later }
def ReplayPartsMatchSpecCardSaid : Prop := Claim7.holds Tryz.pinned (.plain (OpenSpec.ofChange replayPartsMatchSpecSpec)) replayPartsMatchSpecCard

/-- THE SECOND FORM's CARD OF 'ephemeralaw9.ReplayPartsMatchSpec'. -/
def replayPartsMatchSpecUptoCard : Claim7 := { stood := { row := replayPartsMatchSpecUptoRow, standIns := [], harness := (true, "5003dedc8c3f16a32b02bd061a5dc042d56f102d094f31fc730f9d4ff85977f9"), looks := true }, kinds := [], alts := [], laidByText := true, laidKinds := [.data, .data, .data, .data, .sentinel, .sentinel, .pinned], laidTests := true, laidLooks := .later }
def ReplayPartsMatchSpecUptoCardSaid : Prop := Claim7.holds Tryz.pinned (.plain (OpenSpec.upto replayPartsMatchSpecSpec)) replayPartsMatchSpecUptoCard
end Rows
end Go.Proofs.YtmlnbemjmlogiaaGreatDoor
