/-
  DERIVED. GIVEN WITH THE SEED: THE CARDS: each row of YtejhjdpafdpjlaaDoorRows.lean that lists a variable, with what it lists TIED to the program's text (the seventh form; the later family's looks); each row that meets fmt, with fmt's text TOLD by the authors' own Lean function (tested against real Go, not proved from fmt's source: count such statements apart). THE CARD IS WHAT COUNTS. Prove the row's statement (the work); the ties are given (YtejhjdpafdpjlaaDoorTie.lean); close each card by the builder's one call (the guide's Derived/Test/ToyasCard.lean, 'card_holds'). Laid BY PROGRAM, IN A SANDBOX (cutbox-door.mjs). By AI agents, Wed Nov 11 2026. No macro, syntax, notation, axiom, sorry.
-/
import Derived.Test.YtejhjdpafdpjlaaDoorRows
import GoSem.ClaimSeven
namespace Go.Proofs.YtejhjdpafdpjlaaDoor
namespace Rows

/-- THE TIED CARD OF 'ephemeralaw8.IndexPartsMatchSpec'. -/
def indexPartsMatchSpecCard : Claim7 := { stood := { row := indexPartsMatchSpecRow, standIns := [], harness := (true, "d4949333e78f92664da32c291a7e85b2002bbe43dac2c47ff0606df68e22a2c7"), looks := false }, kinds := [], alts := [], laidByText := true, laidKinds := [.data, .data, .data, .data, .pinned], laidTests := true, laidLooks := .later }
def IndexPartsMatchSpecCardSaid : Prop := Claim7.holds Tryd.pinned (.plain (OpenSpec.ofChange indexPartsMatchSpecSpec)) indexPartsMatchSpecCard

/-- THE TIED CARD OF 'ephemeralaw8.IndexCollapsedFiner'. -/
def indexCollapsedFinerCard : Claim7 := { stood := { row := indexCollapsedFinerRow, standIns := [], harness := (true, "d4949333e78f92664da32c291a7e85b2002bbe43dac2c47ff0606df68e22a2c7"), looks := false }, kinds := [], alts := [], laidByText := true, laidKinds := [.data, .data, .data, .data, .pinned], laidTests := true, laidLooks := .later }
def IndexCollapsedFinerCardSaid : Prop := Claim7.holds Tryd.pinned (.plain (OpenSpec.ofChange indexCollapsedFinerSpec)) indexCollapsedFinerCard

/-- THE SECOND FORM's CARD OF 'ephemeralaw8.IndexPartsMatchSpec'. -/
def indexPartsMatchSpecUptoCard : Claim7 := { stood := { row := indexPartsMatchSpecUptoRow, standIns := [], harness := (true, "d4949333e78f92664da32c291a7e85b2002bbe43dac2c47ff0606df68e22a2c7"), looks := false }, kinds := [], alts := [], laidByText := true, laidKinds := [.data, .data, .data, .data, .pinned], laidTests := true, laidLooks := .later }
def IndexPartsMatchSpecUptoCardSaid : Prop := Claim7.holds Tryd.pinned (.plain (OpenSpec.upto indexPartsMatchSpecSpec)) indexPartsMatchSpecUptoCard

/-- THE SECOND FORM's CARD OF 'ephemeralaw8.IndexCollapsedFiner'. -/
def indexCollapsedFinerUptoCard : Claim7 := { stood := { row := indexCollapsedFinerUptoRow, standIns := [], harness := (true, "d4949333e78f92664da32c291a7e85b2002bbe43dac2c47ff0606df68e22a2c7"), looks := false }, kinds := [], alts := [], laidByText := true, laidKinds := [.data, .data, .data, .data, .pinned], laidTests := true, laidLooks := .later }
def IndexCollapsedFinerUptoCardSaid : Prop := Claim7.holds Tryd.pinned (.plain (OpenSpec.upto indexCollapsedFinerSpec)) indexCollapsedFinerUptoCard
end Rows
end Go.Proofs.YtejhjdpafdpjlaaDoor
