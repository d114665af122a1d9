/- A part of the proof: lemmas and contracts of functions. -/
import Derived.Test.YtaalfcghmjkaeaaGreatDoorIxL32A
set_option linter.all false
namespace Go.Proofs.YtaalfcghmjkaeaaGreatDoor
open Go Go.Ab Go.ChangeShapes Go.WideShapes Go.ChangeAt Go.RowKit
set_option maxRecDepth 100000
def zin:false=Rows.replayReachEndsRow.goesBy Tryz.pinned.checked.prog:=by kernel_rfl
end Go.Proofs.YtaalfcghmjkaeaaGreatDoor
