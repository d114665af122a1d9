/-
  DERIVED. GIVEN WITH THE SEED: THE CARDS: each row of YtejhjdpafdpjlaaGreatDoorRows.lean that lists a variable, with what it lists TIED to the program's text (the seventh form; the later family's looks); each row that meets fmt, with fmt's text TOLD by the authors' own Lean function (tested against real Go, not proved from fmt's source: count such statements apart). THE CARD IS WHAT COUNTS. Prove the row's statement (the work); the ties are given (YtejhjdpafdpjlaaGreatDoorTie.lean); close each card by the builder's one call (the guide's Derived/Test/ToyasCard.lean, 'card_holds'). Laid BY PROGRAM, IN A SANDBOX (cutbox-door.mjs). By AI agents, Wed Nov 11 2026. No macro, syntax, notation, axiom, sorry.
-/
import Derived.Test.YtejhjdpafdpjlaaGreatDoorRows
import GoSem.ClaimSeven
namespace Go.Proofs.YtejhjdpafdpjlaaGreatDoor
namespace Rows

/-- THE TIED CARD OF 'ephemeralaw8.IndexCollapsedMatchSpec'. -/
def indexCollapsedMatchSpecCard : Claim7 := { stood := { row := indexCollapsedMatchSpecRow, standIns := [], harness := (true, "ffd73736736a6be355e1316dda8f26ead50f25ec60b74af1c2e6d5e98ee51089"), looks := true }, kinds := [], alts := [], laidByText := true, laidKinds := [.data, .data, .data, .data, .pinned], laidTests := true, laidLooks := .later }
def IndexCollapsedMatchSpecCardSaid : Prop := Claim7.holds Tryz.pinned (.plain (OpenSpec.ofChange indexCollapsedMatchSpecSpec)) indexCollapsedMatchSpecCard

/-- THE TIED CARD OF 'ephemeralaw8.IndexReadsMatchSpec'. -/
def indexReadsMatchSpecCard : Claim7 := { stood := { row := indexReadsMatchSpecRow, standIns := [], harness := (true, "ffd73736736a6be355e1316dda8f26ead50f25ec60b74af1c2e6d5e98ee51089"), looks := true }, kinds := [], alts := [], laidByText := true, laidKinds := [.data, .data, .data, .data, .sentinel, .sentinel, .pinned], laidTests := true, laidLooks := .later }
def IndexReadsMatchSpecCardSaid : Prop := Claim7.holds Tryz.pinned (.plain (OpenSpec.ofChange indexReadsMatchSpecSpec)) indexReadsMatchSpecCard

/-- THE TIED CARD OF 'ephemeralaw8.IndexTextsComeBack'. -/
def indexTextsComeBackCard : Claim7 := { stood := { row := indexTextsComeBackRow, standIns := [], harness := (true, "ffd73736736a6be355e1316dda8f26ead50f25ec60b74af1c2e6d5e98ee51089"), looks := true }, kinds := [], alts := [], laidByText := true, laidKinds := [.data, .data, .data, .data, .sentinel, .sentinel, .pinned], laidTests := true, laidLooks := .later }
def IndexTextsComeBackCardSaid : Prop := Claim7.holds Tryz.pinned (.plain (OpenSpec.ofChange indexTextsComeBackSpec)) indexTextsComeBackCard

/-- THE TIED CARD OF 'ephemeralaw8.IndexPartsSuffice'. -/
def indexPartsSufficeCard : Claim7 := { stood := { row := indexPartsSufficeRow, standIns := [], harness := (true, "ffd73736736a6be355e1316dda8f26ead50f25ec60b74af1c2e6d5e98ee51089"), looks := true }, kinds := [], alts := [], laidByText := true, laidKinds := [.data, .data, .data, .data, .sentinel, .sentinel, .pinned], laidTests := true, laidLooks := .later }
def IndexPartsSufficeCardSaid : Prop := Claim7.holds Tryz.pinned (.plain (OpenSpec.ofChange indexPartsSufficeSpec)) indexPartsSufficeCard

/-- THE SECOND FORM's CARD OF 'ephemeralaw8.IndexCollapsedMatchSpec'. -/
def indexCollapsedMatchSpecUptoCard : Claim7 := { stood := { row := indexCollapsedMatchSpecUptoRow, standIns := [], harness := (true, "ffd73736736a6be355e1316dda8f26ead50f25ec60b74af1c2e6d5e98ee51089"), looks := true }, kinds := [], alts := [], laidByText := true, laidKinds := [.data, .data, .data, .data, .pinned], laidTests := true, laidLooks := .later }
def IndexCollapsedMatchSpecUptoCardSaid : Prop := Claim7.holds Tryz.pinned (.plain (OpenSpec.upto indexCollapsedMatchSpecSpec)) indexCollapsedMatchSpecUptoCard

/-- THE SECOND FORM's CARD OF 'ephemeralaw8.IndexReadsMatchSpec'. -/
def indexReadsMatchSpecUptoCard : Claim7 := { stood := { row := indexReadsMatchSpecUptoRow, standIns := [], harness := (true, "ffd73736736a6be355e1316dda8f26ead50f25ec60b74af1c2e6d5e98ee51089"), looks := true }, kinds := [], alts := [], laidByText := true, laidKinds := [.data, .data, .data, .data, .sentinel, .sentinel, .pinned], laidTests := true, laidLooks := .later }
def IndexReadsMatchSpecUptoCardSaid : Prop := Claim7.holds Tryz.pinned (.plain (OpenSpec.upto indexReadsMatchSpecSpec)) indexReadsMatchSpecUptoCard

/-- THE SECOND FORM's CARD OF 'ephemeralaw8.IndexTextsComeBack'. -/
def indexTextsComeBackUptoCard : Claim7 := { stood := { row := indexTextsComeBackUptoRow, standIns := [], harness := (true, "ffd73736736a6be355e1316dda8f26ead50f25ec60b74af1c2e6d5e98ee51089"), looks := true }, kinds := [], alts := [], laidByText := true, laidKinds := [.data, .data, .data, .data, .sentinel, .sentinel, .pinned], laidTests := true, laidLooks := .later }
def IndexTextsComeBackUptoCardSaid : Prop := Claim7.holds Tryz.pinned (.plain (OpenSpec.upto indexTextsComeBackSpec)) indexTextsComeBackUptoCard

/-- THE SECOND FORM's CARD OF 'ephemeralaw8.IndexPartsSuffice'. -/
def indexPartsSufficeUptoCard : Claim7 := { stood := { row := indexPartsSufficeUptoRow, standIns := [], harness := (true, "ffd73736736a6be355e1316dda8f26ead50f25ec60b74af1c2e6d5e98ee51089"), looks := true }, kinds := [], alts := [], laidByText := true, laidKinds := [.data, .data, .data, .data, .sentinel, .sentinel, .pinned], laidTests := true, laidLooks := .later }
def IndexPartsSufficeUptoCardSaid : Prop := Claim7.holds Tryz.pinned (.plain (OpenSpec.upto indexPartsSufficeSpec)) indexPartsSufficeUptoCard
end Rows
end Go.Proofs.YtejhjdpafdpjlaaGreatDoor
