/- The law ReplayPartsDrift: the row and its card. -/
import Derived.Test.YtlcmnclbljedfaaGreatDoorIxL26B
set_option linter.all false
namespace Go.Proofs.YtlcmnclbljedfaaGreatDoor
open Go Go.Ab Go.ChangeShapes Go.WideShapes Go.ChangeAt Go.RowKit
set_option maxRecDepth 100000
theorem replayPartsDrift_holds:Rows.ReplayPartsDriftCardSaid:=
 Claim7.holds_tied_plain_at .later [] [.data,.data,.data,.data,.sentinel,.sentinel,.pinned] true _ true zgr (fun _ h=>by cases h) (by kernel_rfl) (fun _ h=>by cases h) replayPartsDrift_row_tie rfl ⟨rfl,rfl⟩ (by kernel_rfl) rfl
  (fun f fn hf hfn=>by
   obtain rfl:f=3:=Option.some.inj ((show Tryz.prog.funcNamed Rows.replayPartsDriftRow.func=some 3 by kernel_rfl).symm.trans hf) |>.symm
   obtain rfl:fn=Tryz.f3:=(Option.some.inj (Tryz.func3.symm.trans hfn)).symm
   exact⟨by kernel_rfl,fun j t ht=>by
    rw[Tryz.params3] at ht
    have hm:t∈[26,9,3,3]:=by simpa using Array.mem_of_getElem? ht
    have hall:([26,9,3,3].all fun u=>!Tryz.prog.wantsStandIn u)=true:=by kernel_rfl
    exact(show Tryz.prog.wantsStandIn t=false by simpa using List.all_eq_true.1 hall t hm)⟩)
  zgG
#print axioms replayPartsDrift_holds
end Go.Proofs.YtlcmnclbljedfaaGreatDoor
