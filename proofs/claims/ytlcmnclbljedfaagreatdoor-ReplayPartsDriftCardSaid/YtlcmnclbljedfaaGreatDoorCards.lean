/-
  DERIVED. GIVEN WITH THE SEED: THE CARDS: each row of YtlcmnclbljedfaaGreatDoorRows.lean that lists a variable, with what it lists TIED to the program's text (the seventh form; the later family's looks); each row that meets fmt, with fmt's text TOLD by the authors' own Lean function (tested against real Go, not proved from fmt's source: count such statements apart). THE CARD IS WHAT COUNTS. Prove the row's statement (the work); the ties are given (YtlcmnclbljedfaaGreatDoorTie.lean); close each card by the builder's one call (the guide's Derived/Test/ToyasCard.lean, 'card_holds'). Laid BY PROGRAM, IN A SANDBOX (cutbox-door.mjs). By AI agents, Wed Nov 11 2026. No macro, syntax, notation, axiom, sorry.
-/
import Derived.Test.YtlcmnclbljedfaaGreatDoorRows
import GoSem.ClaimSeven
namespace Go.Proofs.YtlcmnclbljedfaaGreatDoor
namespace Rows

/-- THE TIED CARD OF 'ephemeralaw9.ReplayPartsDrift'. -/
def replayPartsDriftCard : Claim7 := { stood := { row := replayPartsDriftRow, standIns := [], harness := (true, "d952e5ea0a114d8d2a69db1208db695c4fee5743dc7f7acca24f61c9560a206b"), looks := true }, kinds := [], alts := [], laidByText := true, laidKinds := [.data, .data, .data, .data, .sentinel, .sentinel, .pinned], laidTests := true, laidLooks := .later }
def ReplayPartsDriftCardSaid : Prop := Claim7.holds Tryz.pinned (.plain (OpenSpec.ofChange replayPartsDriftSpec)) replayPartsDriftCard

/-- THE TIED CARD OF 'ephemeralaw9.ReplayStoresMatchSpec'. -/
def replayStoresMatchSpecCard : Claim7 := { stood := { row := replayStoresMatchSpecRow, standIns := [], harness := (true, "d952e5ea0a114d8d2a69db1208db695c4fee5743dc7f7acca24f61c9560a206b"), looks := true }, kinds := [], alts := [], laidByText := true, laidKinds := [.data, .data, .data, .data, .sentinel, .sentinel, .pinned], laidTests := true, laidLooks := .later }
def ReplayStoresMatchSpecCardSaid : Prop := Claim7.holds Tryz.pinned (.plain (OpenSpec.ofChange replayStoresMatchSpecSpec)) replayStoresMatchSpecCard

/-- THE TIED CARD OF 'ephemeralaw9.ReplayPartsMatchSpec'. -/
def replayPartsMatchSpecCard : Claim7 := { stood := { row := replayPartsMatchSpecRow, standIns := [], harness := (true, "d952e5ea0a114d8d2a69db1208db695c4fee5743dc7f7acca24f61c9560a206b"), looks := true }, kinds := [], alts := [], laidByText := true, laidKinds := [.data, .data, .data, .data, .sentinel, .sentinel, .pinned], laidTests := true, laidLooks := .later }
def ReplayPartsMatchSpecCardSaid : Prop := Claim7.holds Tryz.pinned (.plain (OpenSpec.ofChange replayPartsMatchSpecSpec)) replayPartsMatchSpecCard

/-- THE TIED CARD OF 'ephemeralaw8.IndexOfFilesPoint'. -/
def indexOfFilesPointCard : Claim7 := { stood := { row := indexOfFilesPointRow, standIns := [], harness := (true, "d952e5ea0a114d8d2a69db1208db695c4fee5743dc7f7acca24f61c9560a206b"), looks := true }, kinds := [], alts := [], laidByText := true, laidKinds := [.data, .data, .data, .data, .sentinel, .sentinel, .pinned], laidTests := true, laidLooks := .later }
def IndexOfFilesPointCardSaid : Prop := Claim7.holds Tryz.pinned (.plain (OpenSpec.ofChange indexOfFilesPointSpec)) indexOfFilesPointCard

/-- THE TIED CARD OF 'ephemeralaw8.IndexOfFilesMatchSpec'. -/
def indexOfFilesMatchSpecCard : Claim7 := { stood := { row := indexOfFilesMatchSpecRow, standIns := [], harness := (true, "d952e5ea0a114d8d2a69db1208db695c4fee5743dc7f7acca24f61c9560a206b"), looks := true }, kinds := [], alts := [], laidByText := true, laidKinds := [.data, .data, .data, .data, .sentinel, .sentinel, .pinned], laidTests := true, laidLooks := .later }
def IndexOfFilesMatchSpecCardSaid : Prop := Claim7.holds Tryz.pinned (.plain (OpenSpec.ofChange indexOfFilesMatchSpecSpec)) indexOfFilesMatchSpecCard

/-- THE SECOND FORM's CARD OF 'ephemeralaw9.ReplayPartsDrift'. -/
def replayPartsDriftUptoCard : Claim7 := { stood := { row := replayPartsDriftUptoRow, standIns := [], harness := (true, "d952e5ea0a114d8d2a69db1208db695c4fee5743dc7f7acca24f61c9560a206b"), looks := true }, kinds := [], alts := [], laidByText := true, laidKinds := [.data, .data, .data, .data, .sentinel, .sentinel, .pinned], laidTests := true, laidLooks := .later }
def ReplayPartsDriftUptoCardSaid : Prop := Claim7.holds Tryz.pinned (.plain (OpenSpec.upto replayPartsDriftSpec)) replayPartsDriftUptoCard

/-- THE SECOND FORM's CARD OF 'ephemeralaw9.ReplayStoresMatchSpec'. -/
def replayStoresMatchSpecUptoCard : Claim7 := { stood := { row := replayStoresMatchSpecUptoRow, standIns := [], harness := (true, "d952e5ea0a114d8d2a69db1208db695c4fee5743dc7f7acca24f61c9560a206b"), looks := true }, kinds := [], alts := [], laidByText := true, laidKinds := [.data, .data, .data, .data, .sentinel, .sentinel, .pinned], laidTests := true, laidLooks := .later }
def ReplayStoresMatchSpecUptoCardSaid : Prop := Claim7.holds Tryz.pinned (.plain (OpenSpec.upto replayStoresMatchSpecSpec)) replayStoresMatchSpecUptoCard

/-- THE SECOND FORM's CARD OF 'ephemeralaw9.ReplayPartsMatchSpec'. -/
def replayPartsMatchSpecUptoCard : Claim7 := { stood := { row := replayPartsMatchSpecUptoRow, standIns := [], harness := (true, "d952e5ea0a114d8d2a69db1208db695c4fee5743dc7f7acca24f61c9560a206b"), looks := true }, kinds := [], alts := [], laidByText := true, laidKinds := [.data, .data, .data, .data, .sentinel, .sentinel, .pinned], laidTests := true, laidLooks := .later }
def ReplayPartsMatchSpecUptoCardSaid : Prop := Claim7.holds Tryz.pinned (.plain (OpenSpec.upto replayPartsMatchSpecSpec)) replayPartsMatchSpecUptoCard

/-- THE SECOND FORM's CARD OF 'ephemeralaw8.IndexOfFilesPoint'. -/
def indexOfFilesPointUptoCard : Claim7 := { stood := { row := indexOfFilesPointUptoRow, standIns := [], harness := (true, "d952e5ea0a114d8d2a69db1208db695c4fee5743dc7f7acca24f61c9560a206b"), looks := true }, kinds := [], alts := [], laidByText := true, laidKinds := [.data, .data, .data, .data, .sentinel, .sentinel, .pinned], laidTests := true, laidLooks := .later }
def IndexOfFilesPointUptoCardSaid : Prop := Claim7.holds Tryz.pinned (.plain (OpenSpec.upto indexOfFilesPointSpec)) indexOfFilesPointUptoCard

/-- THE SECOND FORM's CARD OF 'ephemeralaw8.IndexOfFilesMatchSpec'. -/
def indexOfFilesMatchSpecUptoCard : Claim7 := { stood := { row := indexOfFilesMatchSpecUptoRow, standIns := [], harness := (true, "d952e5ea0a114d8d2a69db1208db695c4fee5743dc7f7acca24f61c9560a206b"), looks := true }, kinds := [], alts := [], laidByText := true, laidKinds := [.data, .data, .data, .data, .sentinel, .sentinel, .pinned], laidTests := true, laidLooks := .later }
def IndexOfFilesMatchSpecUptoCardSaid : Prop := Claim7.holds Tryz.pinned (.plain (OpenSpec.upto indexOfFilesMatchSpecSpec)) indexOfFilesMatchSpecUptoCard
end Rows
end Go.Proofs.YtlcmnclbljedfaaGreatDoor
