/- A part of the proof: lemmas and contracts of functions. -/
import Derived.Test.YtdciogjhkckigaaDoorIxW
namespace Go.Proofs.YtdciogjhkckigaaDoor
open Go Go.Ab
set_option maxRecDepth 100000
set_option maxHeartbeats 4000000

theorem replay_checkParts0 : ACalls Tryd.prog 76 [.one .nil] (.x (.one (.int .i64 0))) := by
  refine ACalls.of mixed (fn := Tryd.f76) (by kernel_rfl) (by kernel_rfl) rfl (by kernel_rfl) (by simp [Tryd.f76]) (fun hok => ?_)
  simp -implicitDefEqProofs +contextual [-Bool.and_eq_false_imp, Bool.and_eq_false_iff]
  refine ALoopS.of Unit (fun _ => [(8, .x (.one .nil)), (9, .x (.one (.int .i64 0))), (10, .x (.one (.int .i64 0)))]) (fun _ => True) (fun _ => 0) () trivial ?_ ?_
  · simp
  intro _ _
  simp -implicitDefEqProofs +contextual [-Bool.and_eq_false_imp, Bool.and_eq_false_iff]
abbrev view0 : XV := .agg [.bool false, .nil, .str [], .int .i64 0, .int .i64 0, .str [], .str [], .str [], .int .i64 0, .int .i64 0, .bool false, .nil, .nil, .int .i64 0]
theorem replay_Complete0 : ACalls Tryd.prog 56 [view0] (.tup [.agg [.int .i64 1, .int .i64 1], .one (.int .i64 0)]) := by
  refine ACalls.of mixed (fn := Tryd.f56) (by kernel_rfl) (by kernel_rfl) rfl (by kernel_rfl) (by simp [Tryd.f56]) (fun hok => ?_)
  simp -implicitDefEqProofs +contextual [-Bool.and_eq_false_imp, Bool.and_eq_false_iff]
  refine ACallK.of replay_checkParts0 ?_
  simp -implicitDefEqProofs +contextual [-Bool.and_eq_false_imp, Bool.and_eq_false_iff]
  refine ALoopS.of Unit (fun _ => [(1, .box view0.cells), (2, .box [.int .i64 0, .int .i64 0]), (5, .x (.one (.int .i64 0))), (18, .x (.one .nil)), (19, .x (.one (.int .i64 0))), (20, .x (.one (.int .i64 0)))]) (fun _ => True) (fun _ => 0) () trivial ?_ ?_
  · simp
  intro _ _
  simp -implicitDefEqProofs +contextual [-Bool.and_eq_false_imp, Bool.and_eq_false_iff]
theorem law9_awake : ACalls Tryd.prog 30 [] (.x (.one (.bool true))) := by
  refine ACalls.of mixed (fn := Tryd.f30) (by kernel_rfl) (by kernel_rfl) rfl (by kernel_rfl) (by simp [Tryd.f30]) (fun hok => ?_)
  simp -implicitDefEqProofs +contextual [-Bool.and_eq_false_imp, Bool.and_eq_false_iff]
  refine ACallK.of replay_Complete0 ?_
  simp -implicitDefEqProofs +contextual [-Bool.and_eq_false_imp, Bool.and_eq_false_iff]

theorem lawDays (l : List Entry) (k : List UInt8) (a b : Int) : ACalls Tryd.prog 10 [entries l, .one (.str k), .one (.int .i64 a), .one (.int .i64 b)] (.x (.one (.bool true))) := by
  refine ACalls.of mixed (fn := Tryd.f10) (by kernel_rfl) (by kernel_rfl) rfl (by kernel_rfl) (by simp [Tryd.f10]) (fun hok => ?_)
  simp -implicitDefEqProofs +contextual [-Bool.and_eq_false_imp, Bool.and_eq_false_iff]
  refine ACallK.of (replay_Days l k a b) ?_
  simp -implicitDefEqProofs +contextual [-Bool.and_eq_false_imp, Bool.and_eq_false_iff]
  refine ACallK.of (ref9_Days l k a b) ?_
  simp -implicitDefEqProofs +contextual [-Bool.and_eq_false_imp, Bool.and_eq_false_iff]
  refine ACallK.of (slices_EqualD _ _) ?_
  simp -implicitDefEqProofs +contextual [-Bool.and_eq_false_imp, Bool.and_eq_false_iff]
  refine ACallGS.of (fun _ => law9_awake) rfl ?_
  simp -implicitDefEqProofs +contextual [-Bool.and_eq_false_imp, Bool.and_eq_false_iff]
end Go.Proofs.YtdciogjhkckigaaDoor
