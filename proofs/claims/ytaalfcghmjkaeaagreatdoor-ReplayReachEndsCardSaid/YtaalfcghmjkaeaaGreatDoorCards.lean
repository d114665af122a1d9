/-
  DERIVED. GIVEN WITH THE SEED: THE CARDS: each row of YtaalfcghmjkaeaaGreatDoorRows.lean that lists a variable, with what it lists TIED to the program's text (the seventh form; the later family's looks); each row that meets fmt, with fmt's text TOLD by the authors' own Lean function (tested against real Go, not proved from fmt's source: count such statements apart). THE CARD IS WHAT COUNTS. Prove the row's statement (the work); the ties are given (YtaalfcghmjkaeaaGreatDoorTie.lean); close each card by the builder's one call (the guide's Derived/Test/ToyasCard.lean, 'card_holds'). Laid BY PROGRAM, IN A SANDBOX (cutbox-door.mjs). By AI agents, Wed Nov 11 2026. No macro, syntax, notation, axiom, sorry.
-/
import Derived.Test.YtaalfcghmjkaeaaGreatDoorRows
import GoSem.ClaimSeven
namespace Go.Proofs.YtaalfcghmjkaeaaGreatDoor
namespace Rows

/-- THE TIED CARD OF 'ephemeralaw9.ReplayLikenessIsEven'. -/
def replayLikenessIsEvenCard : Claim7 := { stood := { row := replayLikenessIsEvenRow, standIns := [], harness := (true, "79e4b50b0b673517e38b5555ff455c861f7b62315049a781a28ea1754b2a9041"), looks := true }, kinds := [], alts := [], laidByText := true, laidKinds := [.data, .data, .data, .data, .sentinel, .sentinel, .pinned], laidTests := true, laidLooks := .later }
def ReplayLikenessIsEvenCardSaid : Prop := Claim7.holds Tryz.pinned (.plain (OpenSpec.ofChange replayLikenessIsEvenSpec)) replayLikenessIsEvenCard

/-- THE TIED CARD OF 'ephemeralaw9.ReplayReachEnds'. -/
def replayReachEndsCard : Claim7 := { stood := { row := replayReachEndsRow, standIns := [], harness := (true, "79e4b50b0b673517e38b5555ff455c861f7b62315049a781a28ea1754b2a9041"), looks := true }, kinds := [], alts := [], laidByText := true, laidKinds := [.data, .data, .data, .data, .sentinel, .sentinel, .pinned], laidTests := true, laidLooks := .later }
def ReplayReachEndsCardSaid : Prop := Claim7.holds Tryz.pinned (.plain (OpenSpec.ofChange replayReachEndsSpec)) replayReachEndsCard

/-- THE SECOND FORM's CARD OF 'ephemeralaw9.ReplayLikenessIsEven'. -/
def replayLikenessIsEvenUptoCard : Claim7 := { stood := { row := replayLikenessIsEvenUptoRow, standIns := [], harness := (true, "79e4b50b0b673517e38b5555ff455c861f7b62315049a781a28ea1754b2a9041"), looks := true }, kinds := [], alts := [], laidByText := true, laidKinds := [.data, .data, .data, .data, .sentinel, .sentinel, .pinned], laidTests := true, laidLooks := .later }
def ReplayLikenessIsEvenUptoCardSaid : Prop := Claim7.holds Tryz.pinned (.plain (OpenSpec.upto replayLikenessIsEvenSpec)) replayLikenessIsEvenUptoCard

/-- THE SECOND FORM's CARD OF 'ephemeralaw9.ReplayReachEnds'. -/
def replayReachEndsUptoCard : Claim7 := { stood := { row := replayReachEndsUptoRow, standIns := [], harness := (true, "79e4b50b0b673517e38b5555ff455c861f7b62315049a781a28ea1754b2a9041"), looks := true }, kinds := [], alts := [], laidByText := true, laidKinds := [.data, .data, .data, .data, .sentinel, .sentinel, .pinned], laidTests := true, laidLooks := .later }
def ReplayReachEndsUptoCardSaid : Prop := Claim7.holds Tryz.pinned (.plain (OpenSpec.upto replayReachEndsSpec)) replayReachEndsUptoCard
end Rows
end Go.Proofs.YtaalfcghmjkaeaaGreatDoor
