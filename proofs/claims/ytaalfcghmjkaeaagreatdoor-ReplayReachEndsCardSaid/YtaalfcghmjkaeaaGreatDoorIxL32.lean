/- What is reached begins with the key, goes over at most so many hops, comes to no key twice but at the end, and ends at what is nearest of its last key: for every input of the row. -/
import Derived.Test.YtaalfcghmjkaeaaGreatDoorIxL32B
set_option linter.all false
namespace Go.Proofs.YtaalfcghmjkaeaaGreatDoor
open Go Go.Ab Go.ChangeShapes Go.WideShapes Go.ChangeAt Go.RowKit Go.Proofs.Tryz
set_option maxRecDepth 100000
def replayReachEnds_holds:Rows.ReplayReachEndsCardSaid:=
 Claim7.holds_tied_plain_at .later [] [.data,.data,.data,.data,.sentinel,.sentinel,.pinned] true _ true zim (fun _ h=>by cases h) (by kernel_rfl) (fun _ h=>by cases h) replayReachEnds_row_tie rfl ⟨rfl,rfl⟩ (by kernel_rfl) rfl
  (fun f fn ay hL=>by
   obtain rfl:f=4:=qX ((show prog.funcNamed Rows.replayReachEndsRow.func=some 4 by kernel_rfl).symm.trans ay) |>.symm;obtain rfl:fn=f4:=(qX (func4.symm.trans hL)).symm;exact⟨by kernel_rfl,fun j t ba=>by
    rw[params4]at ba;have hm:t∈[26,9,3,3,3]:=by simpa using xF ba
    have fM:([26,9,3,3,3].all fun u=>!prog.wantsStandIn u)=true:=by kernel_rfl
    exact(show prog.wantsStandIn t=false by simpa using fm.1 fM t hm)⟩)
  zin
#print axioms replayReachEnds_holds
end Go.Proofs.YtaalfcghmjkaeaaGreatDoor
