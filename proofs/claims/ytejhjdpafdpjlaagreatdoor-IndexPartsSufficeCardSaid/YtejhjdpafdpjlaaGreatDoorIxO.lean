/- A part of the proof: lemmas and contracts of functions. -/
import Derived.Test.YtejhjdpafdpjlaaGreatDoorIxN
namespace Go.Proofs.YtejhjdpafdpjlaaGreatDoor
open Go Go.Ab
set_option linter.unusedSectionVars false
variable [Amb]
set_option maxRecDepth 100000
set_option maxHeartbeats 4000000

@[simp] theorem row_flat (e : Entry) : e.row.all CV.flat = true := rfl
/-! ### Near -/
def nearF (l : List Entry) (k : List UInt8) (t way : Int) : Int :=
  if keyF l k ≠ 0 then keyF l k else if inB 1 3 way = false then 4 else if momentB t = false then 1 else 0
def nearO (l : List Entry) (k : List UInt8) (t way : Int) : Option Entry := if nearF l k t way = 0 then nearL (withKey l k) t way else none

theorem index_Near (l : List Entry) (k : List UInt8) (t way : Int) : ACalls Tryz.prog 21 [entries l, .one (.str k), .one (.int .i64 t), .one (.int .i64 way)]
    (.tup [.agg ((nearO l k t way).getD zeroE).row, .one (.bool (nearO l k t way).isSome), .one (.int .i64 (nearF l k t way))]) := by
  refine ACalls.of mixed (fn := Tryz.f21) (by kernel_rfl) (by kernel_rfl) rfl (by kernel_rfl) (by simp [Tryz.f21]) (fun hok => ?_)
  have hO : nearO l k t way = if nearF l k t way = 0 then nearL (withKey l k) t way else none := rfl
  generalize hF : nearF l k t way = F at hO
  unfold nearF at hF
  simp -implicitDefEqProofs +contextual [-Bool.and_eq_false_imp, Bool.and_eq_false_iff]
  refine ACallK.of (index_checkKey l k) ?_
  simp -implicitDefEqProofs +contextual [-Bool.and_eq_false_imp, Bool.and_eq_false_iff]
  refine ⟨fun h => ?_, fun h => ACallK.of (index_within _ _ _) ?_⟩
  · rw [if_pos h] at hF
    subst hF
    rw [hO, if_neg h]
    exact ⟨rfl, rfl, rfl⟩
  rw [if_neg (by simp [h])] at hF
  obtain ⟨h1, h2⟩ := keyF_ok h
  have hs := entriesF_short h1
  obtain ⟨ht, _⟩ := withKey_times k h1
  have hle := withKey_le l k
  simp -implicitDefEqProofs +contextual [-Bool.and_eq_false_imp, Bool.and_eq_false_iff]
  refine ⟨fun h3 => ?_, fun h3 => ACallK.of (isMoment _) ?_⟩
  · rw [if_pos h3] at hF
    subst hF
    rw [hO]
    exact ⟨rfl, rfl, rfl⟩
  rw [if_neg (by simp [h3])] at hF
  simp -implicitDefEqProofs +contextual [-Bool.and_eq_false_imp, Bool.and_eq_false_iff]
  refine ⟨fun h4 => ?_, fun h4 => ACallK.of (index_of' l k (entriesF_sorted h1).1 hs) ?_⟩
  · rw [if_pos h4] at hF
    subst hF
    rw [hO]
    exact ⟨rfl, rfl, rfl⟩
  rw [if_neg (by simp [h4])] at hF
  subst hF
  rw [hO, if_pos rfl]
  simp only [inB, momentB, Bool.and_eq_true, decide_eq_true_eq] at h3 h4
  simp -implicitDefEqProofs +contextual [-Bool.and_eq_false_imp, Bool.and_eq_false_iff]
  refine ACallK.of (index_near _ t way (by omega) ht h4 (by omega)) ?_
  simp -implicitDefEqProofs +contextual [-Bool.and_eq_false_imp, Bool.and_eq_false_iff]

end Go.Proofs.YtejhjdpafdpjlaaGreatDoor
