/- A part of the proof: lemmas and contracts of functions. -/
import Derived.Test.YtejhjdpafdpjlaaGreatDoorIxT
namespace Go.Proofs.YtejhjdpafdpjlaaGreatDoor
open Go Go.Ab
set_option linter.unusedSectionVars false
variable [Amb]
set_option maxRecDepth 100000
set_option maxHeartbeats 4000000

theorem index_Changed1 (a b : Entry) : ACalls Tryz.prog 30 [.agg a.row, .agg b.row] (.x (.one (.bool (a.digest == b.digest)))) := by
  refine ACalls.of mixed (fn := Tryz.f30) (by kernel_rfl) (by kernel_rfl) rfl (by kernel_rfl) (by simp [Tryz.f30]) (fun hok => ?_)
  simp -implicitDefEqProofs +contextual [-Bool.and_eq_false_imp, Bool.and_eq_false_iff]

theorem index_firsts (l : List Entry) (hb : l.length ≤ 3000) : ACalls Tryz.prog 24 [entries l, funcV 30] (.x (entries (firstsP none l))) := by
  refine ACalls.of mixed (fn := Tryz.f24) (by kernel_rfl) (by kernel_rfl) rfl (by kernel_rfl) (by simp [Tryz.f24]) (fun hok => ?_)
  simp -implicitDefEqProofs +contextual [-Bool.and_eq_false_imp, Bool.and_eq_false_iff]
  refine ALoopS.of Nat (fun i => [(0, .x (entries l)), (1, .x (funcV 30)), (5, .own 30 9 ((firstsP none (l.take i)).map Entry.row)), (8, .x (entries l)), (9, .x (.one (.int .i64 l.length))), (10, .x (.one (.int .i64 i)))]) (fun i => i ≤ l.length) (fun i => l.length - i) 0 (Nat.zero_le _) ?_ ?_
  · simp [firstsP]
  intro i hi
  by_cases hlt : i < l.length
  · have hwr : IntKind.i64.wrap ((i : Int) + 1) = (i : Int) + 1 := wrapS _ (by omega)
    have hst := firstsP_snoc (l.take i) l[i] none
    rw [← List.take_succ_eq_append_getElem hlt] at hst
    have hle : (firstsP none (l.take i)).length ≤ 3000 := by
      have := (firstsP_sub (l.take i) none).length_le
      rw [List.length_take] at this; omega
    obtain ⟨P, eP⟩ : ∃ P, P = firstsP none (l.take i) := ⟨_, rfl⟩
    rw [← eP] at hst hle ⊢
    by_cases h0 : i = 0
    · have g0 : (i = 0) = True := eq_true h0
      have g1 : ((i : Int) = 0) = True := eq_true (by omega)
      have g2 : ((i : Int) == 0) = true := by simp [h0]
      rw [show lastO none (l.take i) = none by rw [h0]; rfl] at hst
      have hw0 : (IntKind.i64.wrap ((i : Int) - 1)).toNat = i := by rw [wrapS _ (by omega)]; omega
      simp -implicitDefEqProofs [hlt, g0, g1, g2, hw0]
      refine ACallGS.of (fun h => by cases h) (r := .x (.one (.bool false))) rfl ?_
      have hk : keeps none l[i] = true := rfl
      rw [if_pos hk] at hst
      simp -implicitDefEqProofs +contextual [-Bool.and_eq_false_imp, Bool.and_eq_false_iff, hlt]
      refine ⟨⟨by omega, by unfold maxLen; omega⟩, Again.of (i + 1) hlt (by omega) ?_⟩
      simp [hst, hwr]
    · have g0 : (i = 0) = False := eq_false h0
      have g1 : ((i : Int) = 0) = False := eq_false (by omega)
      have g2 : ((i : Int) == 0) = false := by simp [h0]
      have hw : IntKind.i64.wrap ((i : Int) - 1) = ((i - 1 : Nat) : Int) := by rw [wrapS _ (by omega)]; omega
      have hi1 : i - 1 < l.length := by omega
      have hlo : lastO none (l.take i) = some l[i - 1] := by
        rw [lastO_eq _ _ (by rw [ne_eq, List.take_eq_nil_iff]; rintro (h | h); exact h0 h; rw [h] at hlt; cases hlt), List.length_take, Nat.min_eq_left (by omega), List.getElem?_take_of_lt (by omega), List.getElem?_eq_getElem hi1]
      rw [hlo] at hst
      simp -implicitDefEqProofs [hlt, g0, g1, g2, hw, hi1]
      refine ACallGS.of (fun _ => index_Changed1 _ _) rfl ?_
      by_cases hk : keeps (some l[i - 1]) l[i] = true
      · rw [if_pos hk] at hst
        simp [keeps] at hk
        simp -implicitDefEqProofs +contextual [-Bool.and_eq_false_imp, Bool.and_eq_false_iff, hlt]
        refine ⟨fun _ => ⟨⟨by omega, by unfold maxLen; omega⟩, Again.of (i + 1) hlt (by omega) (by simp [hst, hwr])⟩, fun h1 h2 => ?_⟩
        rcases hk with hk | hk
        · exact absurd h1 hk
        · exact absurd h2 hk
      · rw [if_neg hk] at hst
        simp [keeps] at hk
        simp -implicitDefEqProofs +contextual [-Bool.and_eq_false_imp, Bool.and_eq_false_iff, hlt, hk.1, hk.2]
        exact Again.of (i + 1) hlt (by omega) (by simp [hst, hwr])
  · rw [List.take_of_length_le (by omega)]
    simp -implicitDefEqProofs [hlt]

theorem index_Changed (l : List Entry) : ACalls Tryz.prog 10 [entries l] (.tup [entries (changedL l), .one (.int .i64 (entriesF l))]) := by
  refine ACalls.of mixed (fn := Tryz.f10) (by kernel_rfl) (by kernel_rfl) rfl (by kernel_rfl) (by simp [Tryz.f10]) (fun hok => ?_)
  simp -implicitDefEqProofs +contextual [-Bool.and_eq_false_imp, Bool.and_eq_false_iff]
  refine ACallK.of (index_checkEntries l) ?_
  unfold changedL
  simp -implicitDefEqProofs +contextual [-Bool.and_eq_false_imp, Bool.and_eq_false_iff]
  intro h
  rw [if_pos h]
  refine ACallK.of (index_firsts l (entriesF_short h)) ?_
  simp -implicitDefEqProofs +contextual [-Bool.and_eq_false_imp, Bool.and_eq_false_iff, h]

theorem livesN_le : ∀ (n : Nat) (l : List Entry), (livesN n l).length ≤ l.length
  | 0, _ => by simp [livesN]
  | n + 1, [] => by simp [livesN]
  | n + 1, e :: r => by
    have hp := withKey_pos e r
    have ih := livesN_le n ((e :: r).drop (withKey (e :: r) e.key).length)
    rw [List.length_drop] at ih
    simp only [livesN, List.length_cons] at ih ⊢
    omega
theorem livesL_le (l : List Entry) : (livesL l).length ≤ l.length := livesN_le _ _
end Go.Proofs.YtejhjdpafdpjlaaGreatDoor
