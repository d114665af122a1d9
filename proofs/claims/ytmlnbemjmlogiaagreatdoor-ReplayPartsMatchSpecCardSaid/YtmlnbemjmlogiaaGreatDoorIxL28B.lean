/- Lemmas. -/
import Derived.Test.YtmlnbemjmlogiaaGreatDoorIxL28A
set_option linter.all false
set_option maxRecDepth 100000
namespace Go.Proofs.YtmlnbemjmlogiaaGreatDoor
open Go Go.Ab Go.ChangeAt Go.ChangeShapes Go.RowKit Go.WideShapes
def zkB:false=Rows.replayPartsMatchSpecRow.goesBy Tryz.pinned.checked.prog:=by kernel_rfl
end Go.Proofs.YtmlnbemjmlogiaaGreatDoor
