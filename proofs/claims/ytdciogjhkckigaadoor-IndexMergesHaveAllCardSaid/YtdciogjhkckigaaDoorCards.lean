/-
  DERIVED. GIVEN WITH THE SEED: THE CARDS: each row of YtdciogjhkckigaaDoorRows.lean that lists a variable, with what it lists TIED to the program's text (the seventh form; the later family's looks); each row that meets fmt, with fmt's text TOLD by the authors' own Lean function (tested against real Go, not proved from fmt's source: count such statements apart). THE CARD IS WHAT COUNTS. Prove the row's statement (the work); the ties are given (YtdciogjhkckigaaDoorTie.lean); close each card by the builder's one call (the guide's Derived/Test/ToyasCard.lean, 'card_holds'). Laid BY PROGRAM, IN A SANDBOX (cutbox-door.mjs). By AI agents, Wed Nov 11 2026. No macro, syntax, notation, axiom, sorry.
-/
import Derived.Test.YtdciogjhkckigaaDoorRows
import GoSem.ClaimSeven
namespace Go.Proofs.YtdciogjhkckigaaDoor
namespace Rows

/-- THE TIED CARD OF 'ephemeralaw8.IndexLivesAddUp'. -/
def indexLivesAddUpCard : Claim7 := { stood := { row := indexLivesAddUpRow, standIns := [], harness := (true, "d2ab725b88f8d715f7515f408e9a7933492e28ecc02a53bbe230adf34128f40f"), looks := false }, kinds := [], alts := [], laidByText := true, laidKinds := [.data, .pinned], laidTests := true, laidLooks := .later }
def IndexLivesAddUpCardSaid : Prop := Claim7.holds Tryd.pinned (.plain (OpenSpec.ofChange indexLivesAddUpSpec)) indexLivesAddUpCard

/-- THE TIED CARD OF 'ephemeralaw8.IndexChangedStays'. -/
def indexChangedStaysCard : Claim7 := { stood := { row := indexChangedStaysRow, standIns := [], harness := (true, "d2ab725b88f8d715f7515f408e9a7933492e28ecc02a53bbe230adf34128f40f"), looks := false }, kinds := [], alts := [], laidByText := true, laidKinds := [.data, .pinned], laidTests := true, laidLooks := .later }
def IndexChangedStaysCardSaid : Prop := Claim7.holds Tryd.pinned (.plain (OpenSpec.ofChange indexChangedStaysSpec)) indexChangedStaysCard

/-- THE TIED CARD OF 'ephemeralaw8.IndexPrefixPages'. -/
def indexPrefixPagesCard : Claim7 := { stood := { row := indexPrefixPagesRow, standIns := [], harness := (true, "d2ab725b88f8d715f7515f408e9a7933492e28ecc02a53bbe230adf34128f40f"), looks := false }, kinds := [], alts := [], laidByText := true, laidKinds := [.data, .pinned], laidTests := true, laidLooks := .later }
def IndexPrefixPagesCardSaid : Prop := Claim7.holds Tryd.pinned (.plain (OpenSpec.ofChange indexPrefixPagesSpec)) indexPrefixPagesCard

/-- THE TIED CARD OF 'ephemeralaw8.IndexNearIsNearest'. -/
def indexNearIsNearestCard : Claim7 := { stood := { row := indexNearIsNearestRow, standIns := [], harness := (true, "d2ab725b88f8d715f7515f408e9a7933492e28ecc02a53bbe230adf34128f40f"), looks := false }, kinds := [], alts := [], laidByText := true, laidKinds := [.data, .pinned], laidTests := true, laidLooks := .later }
def IndexNearIsNearestCardSaid : Prop := Claim7.holds Tryd.pinned (.plain (OpenSpec.ofChange indexNearIsNearestSpec)) indexNearIsNearestCard

/-- THE TIED CARD OF 'ephemeralaw8.IndexPrefixesMatchSpec'. -/
def indexPrefixesMatchSpecCard : Claim7 := { stood := { row := indexPrefixesMatchSpecRow, standIns := [], harness := (true, "d2ab725b88f8d715f7515f408e9a7933492e28ecc02a53bbe230adf34128f40f"), looks := false }, kinds := [], alts := [], laidByText := true, laidKinds := [.data, .pinned], laidTests := true, laidLooks := .later }
def IndexPrefixesMatchSpecCardSaid : Prop := Claim7.holds Tryd.pinned (.plain (OpenSpec.ofChange indexPrefixesMatchSpecSpec)) indexPrefixesMatchSpecCard

/-- THE TIED CARD OF 'ephemeralaw8.IndexFindsMatchSpec'. -/
def indexFindsMatchSpecCard : Claim7 := { stood := { row := indexFindsMatchSpecRow, standIns := [], harness := (true, "d2ab725b88f8d715f7515f408e9a7933492e28ecc02a53bbe230adf34128f40f"), looks := false }, kinds := [], alts := [], laidByText := true, laidKinds := [.data, .pinned], laidTests := true, laidLooks := .later }
def IndexFindsMatchSpecCardSaid : Prop := Claim7.holds Tryd.pinned (.plain (OpenSpec.ofChange indexFindsMatchSpecSpec)) indexFindsMatchSpecCard

/-- THE TIED CARD OF 'ephemeralaw9.ReplayDaysAddUp'. -/
def replayDaysAddUpCard : Claim7 := { stood := { row := replayDaysAddUpRow, standIns := [], harness := (true, "d2ab725b88f8d715f7515f408e9a7933492e28ecc02a53bbe230adf34128f40f"), looks := false }, kinds := [], alts := [], laidByText := true, laidKinds := [.data, .pinned], laidTests := true, laidLooks := .later }
def ReplayDaysAddUpCardSaid : Prop := Claim7.holds Tryd.pinned (.plain (OpenSpec.ofChange replayDaysAddUpSpec)) replayDaysAddUpCard

/-- THE TIED CARD OF 'ephemeralaw9.ReplayDaysMatchSpec'. -/
def replayDaysMatchSpecCard : Claim7 := { stood := { row := replayDaysMatchSpecRow, standIns := [], harness := (true, "d2ab725b88f8d715f7515f408e9a7933492e28ecc02a53bbe230adf34128f40f"), looks := false }, kinds := [], alts := [], laidByText := true, laidKinds := [.data, .pinned], laidTests := true, laidLooks := .later }
def ReplayDaysMatchSpecCardSaid : Prop := Claim7.holds Tryd.pinned (.plain (OpenSpec.ofChange replayDaysMatchSpecSpec)) replayDaysMatchSpecCard

/-- THE TIED CARD OF 'ephemeralaw8.IndexMergesMatchSpec'. -/
def indexMergesMatchSpecCard : Claim7 := { stood := { row := indexMergesMatchSpecRow, standIns := [], harness := (true, "d2ab725b88f8d715f7515f408e9a7933492e28ecc02a53bbe230adf34128f40f"), looks := false }, kinds := [], alts := [], laidByText := true, laidKinds := [.data, .pinned], laidTests := true, laidLooks := .later }
def IndexMergesMatchSpecCardSaid : Prop := Claim7.holds Tryd.pinned (.plain (OpenSpec.ofChange indexMergesMatchSpecSpec)) indexMergesMatchSpecCard

/-- THE TIED CARD OF 'ephemeralaw8.IndexMergesHaveAll'. -/
def indexMergesHaveAllCard : Claim7 := { stood := { row := indexMergesHaveAllRow, standIns := [], harness := (true, "d2ab725b88f8d715f7515f408e9a7933492e28ecc02a53bbe230adf34128f40f"), looks := false }, kinds := [], alts := [], laidByText := true, laidKinds := [.data, .pinned], laidTests := true, laidLooks := .later }
def IndexMergesHaveAllCardSaid : Prop := Claim7.holds Tryd.pinned (.plain (OpenSpec.ofChange indexMergesHaveAllSpec)) indexMergesHaveAllCard

/-- THE TIED CARD OF 'ephemeralaw8.IndexChecksMatchSpec'. -/
def indexChecksMatchSpecCard : Claim7 := { stood := { row := indexChecksMatchSpecRow, standIns := [], harness := (true, "d2ab725b88f8d715f7515f408e9a7933492e28ecc02a53bbe230adf34128f40f"), looks := false }, kinds := [], alts := [], laidByText := true, laidKinds := [.data, .data, .data, .data, .pinned], laidTests := true, laidLooks := .later }
def IndexChecksMatchSpecCardSaid : Prop := Claim7.holds Tryd.pinned (.plain (OpenSpec.ofChange indexChecksMatchSpecSpec)) indexChecksMatchSpecCard

/-- THE SECOND FORM's CARD OF 'ephemeralaw8.IndexLivesAddUp'. -/
def indexLivesAddUpUptoCard : Claim7 := { stood := { row := indexLivesAddUpUptoRow, standIns := [], harness := (true, "d2ab725b88f8d715f7515f408e9a7933492e28ecc02a53bbe230adf34128f40f"), looks := false }, kinds := [], alts := [], laidByText := true, laidKinds := [.data, .pinned], laidTests := true, laidLooks := .later }
def IndexLivesAddUpUptoCardSaid : Prop := Claim7.holds Tryd.pinned (.plain (OpenSpec.upto indexLivesAddUpSpec)) indexLivesAddUpUptoCard

/-- THE SECOND FORM's CARD OF 'ephemeralaw8.IndexChangedStays'. -/
def indexChangedStaysUptoCard : Claim7 := { stood := { row := indexChangedStaysUptoRow, standIns := [], harness := (true, "d2ab725b88f8d715f7515f408e9a7933492e28ecc02a53bbe230adf34128f40f"), looks := false }, kinds := [], alts := [], laidByText := true, laidKinds := [.data, .pinned], laidTests := true, laidLooks := .later }
def IndexChangedStaysUptoCardSaid : Prop := Claim7.holds Tryd.pinned (.plain (OpenSpec.upto indexChangedStaysSpec)) indexChangedStaysUptoCard

/-- THE SECOND FORM's CARD OF 'ephemeralaw8.IndexPrefixPages'. -/
def indexPrefixPagesUptoCard : Claim7 := { stood := { row := indexPrefixPagesUptoRow, standIns := [], harness := (true, "d2ab725b88f8d715f7515f408e9a7933492e28ecc02a53bbe230adf34128f40f"), looks := false }, kinds := [], alts := [], laidByText := true, laidKinds := [.data, .pinned], laidTests := true, laidLooks := .later }
def IndexPrefixPagesUptoCardSaid : Prop := Claim7.holds Tryd.pinned (.plain (OpenSpec.upto indexPrefixPagesSpec)) indexPrefixPagesUptoCard

/-- THE SECOND FORM's CARD OF 'ephemeralaw8.IndexNearIsNearest'. -/
def indexNearIsNearestUptoCard : Claim7 := { stood := { row := indexNearIsNearestUptoRow, standIns := [], harness := (true, "d2ab725b88f8d715f7515f408e9a7933492e28ecc02a53bbe230adf34128f40f"), looks := false }, kinds := [], alts := [], laidByText := true, laidKinds := [.data, .pinned], laidTests := true, laidLooks := .later }
def IndexNearIsNearestUptoCardSaid : Prop := Claim7.holds Tryd.pinned (.plain (OpenSpec.upto indexNearIsNearestSpec)) indexNearIsNearestUptoCard

/-- THE SECOND FORM's CARD OF 'ephemeralaw8.IndexPrefixesMatchSpec'. -/
def indexPrefixesMatchSpecUptoCard : Claim7 := { stood := { row := indexPrefixesMatchSpecUptoRow, standIns := [], harness := (true, "d2ab725b88f8d715f7515f408e9a7933492e28ecc02a53bbe230adf34128f40f"), looks := false }, kinds := [], alts := [], laidByText := true, laidKinds := [.data, .pinned], laidTests := true, laidLooks := .later }
def IndexPrefixesMatchSpecUptoCardSaid : Prop := Claim7.holds Tryd.pinned (.plain (OpenSpec.upto indexPrefixesMatchSpecSpec)) indexPrefixesMatchSpecUptoCard

/-- THE SECOND FORM's CARD OF 'ephemeralaw8.IndexFindsMatchSpec'. -/
def indexFindsMatchSpecUptoCard : Claim7 := { stood := { row := indexFindsMatchSpecUptoRow, standIns := [], harness := (true, "d2ab725b88f8d715f7515f408e9a7933492e28ecc02a53bbe230adf34128f40f"), looks := false }, kinds := [], alts := [], laidByText := true, laidKinds := [.data, .pinned], laidTests := true, laidLooks := .later }
def IndexFindsMatchSpecUptoCardSaid : Prop := Claim7.holds Tryd.pinned (.plain (OpenSpec.upto indexFindsMatchSpecSpec)) indexFindsMatchSpecUptoCard

/-- THE SECOND FORM's CARD OF 'ephemeralaw9.ReplayDaysAddUp'. -/
def replayDaysAddUpUptoCard : Claim7 := { stood := { row := replayDaysAddUpUptoRow, standIns := [], harness := (true, "d2ab725b88f8d715f7515f408e9a7933492e28ecc02a53bbe230adf34128f40f"), looks := false }, kinds := [], alts := [], laidByText := true, laidKinds := [.data, .pinned], laidTests := true, laidLooks := .later }
def ReplayDaysAddUpUptoCardSaid : Prop := Claim7.holds Tryd.pinned (.plain (OpenSpec.upto replayDaysAddUpSpec)) replayDaysAddUpUptoCard

/-- THE SECOND FORM's CARD OF 'ephemeralaw9.ReplayDaysMatchSpec'. -/
def replayDaysMatchSpecUptoCard : Claim7 := { stood := { row := replayDaysMatchSpecUptoRow, standIns := [], harness := (true, "d2ab725b88f8d715f7515f408e9a7933492e28ecc02a53bbe230adf34128f40f"), looks := false }, kinds := [], alts := [], laidByText := true, laidKinds := [.data, .pinned], laidTests := true, laidLooks := .later }
def ReplayDaysMatchSpecUptoCardSaid : Prop := Claim7.holds Tryd.pinned (.plain (OpenSpec.upto replayDaysMatchSpecSpec)) replayDaysMatchSpecUptoCard

/-- THE SECOND FORM's CARD OF 'ephemeralaw8.IndexMergesMatchSpec'. -/
def indexMergesMatchSpecUptoCard : Claim7 := { stood := { row := indexMergesMatchSpecUptoRow, standIns := [], harness := (true, "d2ab725b88f8d715f7515f408e9a7933492e28ecc02a53bbe230adf34128f40f"), looks := false }, kinds := [], alts := [], laidByText := true, laidKinds := [.data, .pinned], laidTests := true, laidLooks := .later }
def IndexMergesMatchSpecUptoCardSaid : Prop := Claim7.holds Tryd.pinned (.plain (OpenSpec.upto indexMergesMatchSpecSpec)) indexMergesMatchSpecUptoCard

/-- THE SECOND FORM's CARD OF 'ephemeralaw8.IndexMergesHaveAll'. -/
def indexMergesHaveAllUptoCard : Claim7 := { stood := { row := indexMergesHaveAllUptoRow, standIns := [], harness := (true, "d2ab725b88f8d715f7515f408e9a7933492e28ecc02a53bbe230adf34128f40f"), looks := false }, kinds := [], alts := [], laidByText := true, laidKinds := [.data, .pinned], laidTests := true, laidLooks := .later }
def IndexMergesHaveAllUptoCardSaid : Prop := Claim7.holds Tryd.pinned (.plain (OpenSpec.upto indexMergesHaveAllSpec)) indexMergesHaveAllUptoCard

/-- THE SECOND FORM's CARD OF 'ephemeralaw8.IndexChecksMatchSpec'. -/
def indexChecksMatchSpecUptoCard : Claim7 := { stood := { row := indexChecksMatchSpecUptoRow, standIns := [], harness := (true, "d2ab725b88f8d715f7515f408e9a7933492e28ecc02a53bbe230adf34128f40f"), looks := false }, kinds := [], alts := [], laidByText := true, laidKinds := [.data, .data, .data, .data, .pinned], laidTests := true, laidLooks := .later }
def IndexChecksMatchSpecUptoCardSaid : Prop := Claim7.holds Tryd.pinned (.plain (OpenSpec.upto indexChecksMatchSpecSpec)) indexChecksMatchSpecUptoCard
end Rows
end Go.Proofs.YtdciogjhkckigaaDoor
