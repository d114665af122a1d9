/- A part of the proof: lemmas and contracts of functions. -/
import Derived.Test.YtlcmnclbljedfaaGreatDoorIxL26A
set_option linter.all false
namespace Go.Proofs.YtlcmnclbljedfaaGreatDoor
open Go Go.Ab Go.ChangeShapes Go.WideShapes Go.ChangeAt Go.RowKit
set_option maxRecDepth 100000
theorem zgG:false=Rows.replayPartsDriftRow.goesBy Tryz.pinned.checked.prog:=by kernel_rfl
end Go.Proofs.YtlcmnclbljedfaaGreatDoor
