/- For every store, key, time and drift the part that the program tells is the one that the reference tells (PartOf is as specified), with all errors. -/
import Derived.Test.YtmlnbemjmlogiaaGreatDoorIxL28B
set_option linter.all false
set_option maxRecDepth 100000
namespace Go.Proofs.YtmlnbemjmlogiaaGreatDoor
open Go Go.Ab Go.ChangeAt Go.ChangeShapes Go.Proofs.Tryz Go.RowKit Go.WideShapes
def replayPartsMatchSpec_holds:Rows.ReplayPartsMatchSpecCardSaid:=
 Claim7.holds_tied_plain_at .later [] [.data,.data,.data,.data,.sentinel,.sentinel,.pinned] true _ true zkA (fun _ h=>by cases h) (by kernel_rfl) (fun _ h=>by cases h) replayPartsMatchSpec_row_tie rfl ⟨rfl,rfl⟩ (by kernel_rfl) rfl
  (fun f fn aw ix=>by
   obtain rfl:f=3:=yo ((show prog.funcNamed Rows.replayPartsMatchSpecRow.func=some 3 by kernel_rfl).symm.trans aw) |>.symm;obtain rfl:fn=f3:=(yo (func3.symm.trans ix)).symm;exact⟨by kernel_rfl,fun j t bv=>by
    rw[params3]at bv;have hm:t∈[26,9,3,3]:=by simpa using BQ bv
    have kv:([26,9,3,3].all fun u=>!prog.wantsStandIn u)=true:=by kernel_rfl
    exact(show prog.wantsStandIn t=false by simpa using hJ.1 kv t hm)⟩)
  zkB
#print axioms replayPartsMatchSpec_holds
end Go.Proofs.YtmlnbemjmlogiaaGreatDoor
