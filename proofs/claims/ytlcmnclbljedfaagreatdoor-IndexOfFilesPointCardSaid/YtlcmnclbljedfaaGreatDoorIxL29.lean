/- The law IndexOfFilesPoint: the row and its card. -/
import Derived.Test.YtlcmnclbljedfaaGreatDoorIxL29B
set_option linter.all false
namespace Go.Proofs.YtlcmnclbljedfaaGreatDoor
open Go Go.Ab Go.ChangeShapes Go.WideShapes Go.ChangeAt Go.RowKit
set_option maxRecDepth 100000
theorem indexOfFilesPoint_holds:Rows.IndexOfFilesPointCardSaid:=
 Claim7.holds_tied_plain_at .later [] [.data,.data,.data,.data,.sentinel,.sentinel,.pinned] true _ true indexOfFilesPoint_said (fun _ h=>by cases h) (by kernel_rfl) (fun _ h=>by cases h) indexOfFilesPoint_row_tie rfl ⟨rfl,rfl⟩ (by kernel_rfl) rfl
  (fun f fn hf hfn=>by
   obtain rfl:f=6:=Option.some.inj ((show Tryz.prog.funcNamed Rows.indexOfFilesPointRow.func=some 6 by kernel_rfl).symm.trans hf) |>.symm
   obtain rfl:fn=Tryz.f6:=(Option.some.inj (Tryz.func6.symm.trans hfn)).symm
   exact ⟨by kernel_rfl,fun j t ht=>by
    rw [Tryz.params6] at ht
    have hm:t∈[9,49]:=by simpa using Array.mem_of_getElem? ht
    have hall:([9,49].all fun u=>!Tryz.prog.wantsStandIn u)=true:=by kernel_rfl
    exact (show Tryz.prog.wantsStandIn t=false by simpa using List.all_eq_true.1 hall t hm)⟩)
  indexOfFilesPoint_goes
#print axioms indexOfFilesPoint_holds
end Go.Proofs.YtlcmnclbljedfaaGreatDoor
