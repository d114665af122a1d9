/- A part of the proof: lemmas and contracts of functions. -/
import Derived.Test.YtejhjdpafdpjlaaGreatDoorIxU
namespace Go.Proofs.YtejhjdpafdpjlaaGreatDoor
open Go Go.Ab
set_option linter.unusedSectionVars false
variable [Amb]
set_option maxRecDepth 100000
set_option maxHeartbeats 4000000

theorem ref8_Changed (l : List Entry) : ACalls Tryz.prog 11 [entries l] (.tup [entries (changedL l), .one (.int .i64 (entriesF l))]) := by
  refine ACalls.of mixed (fn := Tryz.f11) (by kernel_rfl) (by kernel_rfl) rfl (by kernel_rfl) (by simp [Tryz.f11]) (fun hok => ?_)
  simp -implicitDefEqProofs +contextual [-Bool.and_eq_false_imp, Bool.and_eq_false_iff]
  refine ACallK.of (ref8_checkEntries l) ?_
  unfold changedL
  by_cases he : entriesF l = 0
  · have hb := entriesF_short he
    rw [if_pos he, he]
    simp -implicitDefEqProofs +contextual [-Bool.and_eq_false_imp, Bool.and_eq_false_iff, he]
    refine ALoopS.of Nat (fun i => [(0, .x (entries l)), (5, .own 30 9 ((firstsP none (l.take i)).map Entry.row)), (6, .x (.one (.int .i64 i)))]) (fun i => i ≤ l.length) (fun i => l.length - i) 0 (Nat.zero_le _) ?_ ?_
    · simp [firstsP]
    intro i hi
    by_cases hlt : i < l.length
    · have hwr : IntKind.i64.wrap ((i : Int) + 1) = (i : Int) + 1 := wrapS _ (by omega)
      have hst := firstsP_snoc (l.take i) l[i] none
      rw [← List.take_succ_eq_append_getElem hlt] at hst
      have hle : (firstsP none (l.take i)).length ≤ 3000 := by
        have := (firstsP_sub (l.take i) none).length_le
        rw [List.length_take] at this; omega
      obtain ⟨P, eP⟩ : ∃ P, P = firstsP none (l.take i) := ⟨_, rfl⟩
      rw [← eP] at hst hle ⊢
      by_cases h0 : i = 0
      · have g0 : (i = 0) = True := eq_true h0
        have g1 : ((i : Int) = 0) = True := eq_true (by omega)
        have g2 : ((i : Int) == 0) = true := by simp [h0]
        rw [show lastO none (l.take i) = none by rw [h0]; rfl] at hst
        have hw0 : (IntKind.i64.wrap ((i : Int) - 1)).toNat = i := by rw [wrapS _ (by omega)]; omega
        have hk : keeps none l[i] = true := rfl
        rw [if_pos hk] at hst
        simp -implicitDefEqProofs [hlt, g0, g1, g2, hw0, hwr]
        refine ⟨⟨by omega, by unfold maxLen; omega⟩, Again.of (i + 1) hlt (by omega) ?_⟩
        simp [hst, hwr]
      · have g0 : (i = 0) = False := eq_false h0
        have g1 : ((i : Int) = 0) = False := eq_false (by omega)
        have g2 : ((i : Int) == 0) = false := by simp [h0]
        have hw : IntKind.i64.wrap ((i : Int) - 1) = ((i - 1 : Nat) : Int) := by rw [wrapS _ (by omega)]; omega
        have hi1 : i - 1 < l.length := by omega
        have hlo : lastO none (l.take i) = some l[i - 1] := by
          rw [lastO_eq _ _ (by rw [ne_eq, List.take_eq_nil_iff]; rintro (h | h); exact h0 h; rw [h] at hlt; cases hlt), List.length_take, Nat.min_eq_left (by omega), List.getElem?_take_of_lt (by omega), List.getElem?_eq_getElem hi1]
        rw [hlo] at hst
        by_cases hkey : l[i].key = l[i - 1].key
        · by_cases hdg : l[i].digest = l[i - 1].digest
          · rw [if_neg (by simp [keeps, hkey, hdg])] at hst
            simp -implicitDefEqProofs [hlt, g0, g1, g2, hw, hi1, hkey, hdg, hwr]
            exact Again.of (i + 1) hlt (by omega) (by simp [hst])
          · have hk0 : keeps (some l[i - 1]) l[i] = true := by
              simp only [keeps, Bool.or_eq_true, decide_eq_true_eq]
              exact Or.inr fun h => hdg h.symm
            rw [if_pos hk0] at hst
            have hdg' : (l[i].digest = l[i - 1].digest) = False := eq_false hdg
            simp -implicitDefEqProofs [hlt, g0, g1, g2, hw, hi1, hkey, hdg', hwr]
            refine ⟨⟨by omega, by unfold maxLen; omega⟩, Again.of (i + 1) hlt (by omega) (by simp [hst])⟩
        · have hk0 : keeps (some l[i - 1]) l[i] = true := by
            simp only [keeps, Bool.or_eq_true, decide_eq_true_eq]
            exact Or.inl fun h => hkey h.symm
          rw [if_pos hk0] at hst
          have hkey' : (l[i].key = l[i - 1].key) = False := eq_false hkey
          simp -implicitDefEqProofs [hlt, g0, g1, g2, hw, hi1, hkey', hwr]
          refine ⟨⟨by omega, by unfold maxLen; omega⟩, Again.of (i + 1) hlt (by omega) (by simp [hst])⟩
    · rw [List.take_of_length_le (by omega)]
      simp -implicitDefEqProofs [hlt]
  · rw [if_neg he]
    simp -implicitDefEqProofs +contextual [-Bool.and_eq_false_imp, Bool.and_eq_false_iff, he]
end Go.Proofs.YtejhjdpafdpjlaaGreatDoor
