/-
  DERIVED. GIVEN WITH THE SEED: THE CARDS: each row of YtklnopamfncfgaaGreatDoorRows.lean that lists a variable, with what it lists TIED to the program's text (the seventh form; the later family's looks); each row that meets fmt, with fmt's text TOLD by the authors' own Lean function (tested against real Go, not proved from fmt's source: count such statements apart). THE CARD IS WHAT COUNTS. Prove the row's statement (the work); the ties are given (YtklnopamfncfgaaGreatDoorTie.lean); close each card by the builder's one call (the guide's Derived/Test/ToyasCard.lean, 'card_holds'). Laid BY PROGRAM, IN A SANDBOX (cutbox-door.mjs). By AI agents, Wed Nov 11 2026. No macro, syntax, notation, axiom, sorry.
-/
import Derived.Test.YtklnopamfncfgaaGreatDoorRows
import GoSem.ClaimSeven
namespace Go.Proofs.YtklnopamfncfgaaGreatDoor
namespace Rows

/-- THE TIED CARD OF 'ephemeralaw9.ReplayTextsMatchSpec'. -/
def replayTextsMatchSpecCard : Claim7 := { stood := { row := replayTextsMatchSpecRow, standIns := [], harness := (true, "242d3c48a44f6a23d77db9ebbfee4c5a0ca3f32061e96b1a289ceaa0a99f525c"), looks := true }, kinds := [], alts := [], laidByText := true, laidKinds := [.data, .data, .data, .data, .sentinel, .sentinel, .pinned], laidTests := true, laidLooks := .later }
def ReplayTextsMatchSpecCardSaid : Prop := Claim7.holds Tryz.pinned (.plain (OpenSpec.ofChange replayTextsMatchSpecSpec)) replayTextsMatchSpecCard

/-- THE TIED CARD OF 'ephemeralaw9.ReplayTextsComeBack'. -/
def replayTextsComeBackCard : Claim7 := { stood := { row := replayTextsComeBackRow, standIns := [], harness := (true, "242d3c48a44f6a23d77db9ebbfee4c5a0ca3f32061e96b1a289ceaa0a99f525c"), looks := true }, kinds := [], alts := [], laidByText := true, laidKinds := [.data, .data, .data, .data, .sentinel, .sentinel, .pinned], laidTests := true, laidLooks := .later }
def ReplayTextsComeBackCardSaid : Prop := Claim7.holds Tryz.pinned (.plain (OpenSpec.ofChange replayTextsComeBackSpec)) replayTextsComeBackCard

/-- THE TIED CARD OF 'ephemeralaw8.IndexWithoutMatchSpec'. -/
def indexWithoutMatchSpecCard : Claim7 := { stood := { row := indexWithoutMatchSpecRow, standIns := [], harness := (true, "242d3c48a44f6a23d77db9ebbfee4c5a0ca3f32061e96b1a289ceaa0a99f525c"), looks := true }, kinds := [], alts := [], laidByText := true, laidKinds := [.data, .data, .data, .data, .sentinel, .sentinel, .pinned], laidTests := true, laidLooks := .later }
def IndexWithoutMatchSpecCardSaid : Prop := Claim7.holds Tryz.pinned (.plain (OpenSpec.ofChange indexWithoutMatchSpecSpec)) indexWithoutMatchSpecCard

/-- THE TIED CARD OF 'ephemeralaw12.DeskWebsMatchSpec'. -/
def deskWebsMatchSpecCard : Claim7 := { stood := { row := deskWebsMatchSpecRow, standIns := [], harness := (true, "242d3c48a44f6a23d77db9ebbfee4c5a0ca3f32061e96b1a289ceaa0a99f525c"), looks := true }, kinds := [], alts := [], laidByText := true, laidKinds := [.data, .data, .data, .data, .sentinel, .sentinel, .pinned], laidTests := true, laidLooks := .later }
def DeskWebsMatchSpecCardSaid : Prop := Claim7.holds Tryz.pinned (.plain (OpenSpec.ofChange deskWebsMatchSpecSpec)) deskWebsMatchSpecCard

/-- THE SECOND FORM's CARD OF 'ephemeralaw9.ReplayTextsMatchSpec'. -/
def replayTextsMatchSpecUptoCard : Claim7 := { stood := { row := replayTextsMatchSpecUptoRow, standIns := [], harness := (true, "242d3c48a44f6a23d77db9ebbfee4c5a0ca3f32061e96b1a289ceaa0a99f525c"), looks := true }, kinds := [], alts := [], laidByText := true, laidKinds := [.data, .data, .data, .data, .sentinel, .sentinel, .pinned], laidTests := true, laidLooks := .later }
def ReplayTextsMatchSpecUptoCardSaid : Prop := Claim7.holds Tryz.pinned (.plain (OpenSpec.upto replayTextsMatchSpecSpec)) replayTextsMatchSpecUptoCard

/-- THE SECOND FORM's CARD OF 'ephemeralaw9.ReplayTextsComeBack'. -/
def replayTextsComeBackUptoCard : Claim7 := { stood := { row := replayTextsComeBackUptoRow, standIns := [], harness := (true, "242d3c48a44f6a23d77db9ebbfee4c5a0ca3f32061e96b1a289ceaa0a99f525c"), looks := true }, kinds := [], alts := [], laidByText := true, laidKinds := [.data, .data, .data, .data, .sentinel, .sentinel, .pinned], laidTests := true, laidLooks := .later }
def ReplayTextsComeBackUptoCardSaid : Prop := Claim7.holds Tryz.pinned (.plain (OpenSpec.upto replayTextsComeBackSpec)) replayTextsComeBackUptoCard

/-- THE SECOND FORM's CARD OF 'ephemeralaw8.IndexWithoutMatchSpec'. -/
def indexWithoutMatchSpecUptoCard : Claim7 := { stood := { row := indexWithoutMatchSpecUptoRow, standIns := [], harness := (true, "242d3c48a44f6a23d77db9ebbfee4c5a0ca3f32061e96b1a289ceaa0a99f525c"), looks := true }, kinds := [], alts := [], laidByText := true, laidKinds := [.data, .data, .data, .data, .sentinel, .sentinel, .pinned], laidTests := true, laidLooks := .later }
def IndexWithoutMatchSpecUptoCardSaid : Prop := Claim7.holds Tryz.pinned (.plain (OpenSpec.upto indexWithoutMatchSpecSpec)) indexWithoutMatchSpecUptoCard

/-- THE SECOND FORM's CARD OF 'ephemeralaw12.DeskWebsMatchSpec'. -/
def deskWebsMatchSpecUptoCard : Claim7 := { stood := { row := deskWebsMatchSpecUptoRow, standIns := [], harness := (true, "242d3c48a44f6a23d77db9ebbfee4c5a0ca3f32061e96b1a289ceaa0a99f525c"), looks := true }, kinds := [], alts := [], laidByText := true, laidKinds := [.data, .data, .data, .data, .sentinel, .sentinel, .pinned], laidTests := true, laidLooks := .later }
def DeskWebsMatchSpecUptoCardSaid : Prop := Claim7.holds Tryz.pinned (.plain (OpenSpec.upto deskWebsMatchSpecSpec)) deskWebsMatchSpecUptoCard
end Rows
end Go.Proofs.YtklnopamfncfgaaGreatDoor
