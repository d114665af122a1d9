/- A part of the proof: lemmas and contracts of functions. -/
import Derived.Test.YtejhjdpafdpjlaaDoorIxCl
import Derived.Test.YtejhjdpafdpjlaaDoorIxDU
namespace Go.Proofs.YtejhjdpafdpjlaaDoor
open Go Go.Ab
set_option linter.unusedSectionVars false
variable [Amb] [HasPow10 Tryd.prog]
set_option maxRecDepth 100000
set_option maxHeartbeats 4000000

abbrev collC (d : Int) : CV := .clo 29 [.ref [.int .i64 d]]
theorem index_Collapsed1 (a b : Entry) (d : Int) (h1 : 1 ≤ d) (h2 : d ≤ 14) (ha : momentB a.time = true) (hb : momentB b.time = true) :
    ACalls Tryd.prog 29 [.agg a.row, .agg b.row, .one (.ref [.int .i64 d])] (.x (.one (.bool (stampF d a == stampF d b)))) := by
  refine ACalls.of mixed (fn := Tryd.f29) (by kernel_rfl) (by kernel_rfl) rfl (by kernel_rfl) (by simp [Tryd.f29]) (fun hok => ?_)
  have g1 : (0 ≤ d) = True := eq_true (by omega)
  have g2 : (d ≤ 14) = True := eq_true h2
  simp -implicitDefEqProofs [g1, g2]
  refine ACallK.of (index_Stamp _ ha) ?_
  simp -implicitDefEqProofs [g1, g2]
  refine ACallK.of (index_Stamp _ hb) ?_
  simp -implicitDefEqProofs [g1, g2, stampF]

theorem index_firstsC (l : List Entry) (d : Int) (h1 : 1 ≤ d) (h2 : d ≤ 14) (hm : ∀ x ∈ l, momentB x.time = true) (hb : l.length ≤ 3000) :
    ACalls Tryd.prog 28 [entries l, .one (collC d)] (.x (entries (firstsF (stampF d) none l))) := by
  refine ACalls.of mixed (fn := Tryd.f28) (by kernel_rfl) (by kernel_rfl) rfl (by kernel_rfl) (by simp [Tryd.f28]) (fun hok => ?_)
  simp -implicitDefEqProofs +contextual [-Bool.and_eq_false_imp, Bool.and_eq_false_iff]
  refine ALoopS.of Nat (fun i => [(0, .x (entries l)), (1, .x (.one (collC d))), (5, .own 40 9 ((firstsF (stampF d) none (l.take i)).map Entry.row)), (8, .x (entries l)), (9, .x (.one (.int .i64 l.length))), (10, .x (.one (.int .i64 i)))]) (fun i => i ≤ l.length) (fun i => l.length - i) 0 (Nat.zero_le _) ?_ ?_
  · simp [firstsF]
  intro i hi
  by_cases hlt : i < l.length
  · have hwr : IntKind.i64.wrap ((i : Int) + 1) = (i : Int) + 1 := wrapS _ (by omega)
    have hst := firstsF_snoc (stampF d) (l.take i) l[i] none
    rw [← List.take_succ_eq_append_getElem hlt] at hst
    have hle := firstsF_le (stampF d) l i hb
    obtain ⟨P, eP⟩ : ∃ P, P = firstsF (stampF d) none (l.take i) := ⟨_, rfl⟩
    rw [← eP] at hst hle ⊢
    by_cases h0 : i = 0
    · have g0 : (i = 0) = True := eq_true h0
      have g1 : ((i : Int) = 0) = True := eq_true (by omega)
      have g2 : ((i : Int) == 0) = true := by simp [h0]
      rw [show lastO none (l.take i) = none by rw [h0]; rfl] at hst
      have hw0 : (IntKind.i64.wrap ((i : Int) - 1)).toNat = i := by rw [wrapS _ (by omega)]; omega
      simp -implicitDefEqProofs [hlt, g0, g1, g2, hw0]
      refine ACallGS.of (fun h => by cases h) (r := .x (.one (.bool false))) rfl ?_
      have hk : keepsF (stampF d) none l[i] = true := rfl
      rw [if_pos hk] at hst
      simp -implicitDefEqProofs +contextual [-Bool.and_eq_false_imp, Bool.and_eq_false_iff, hlt]
      refine ⟨⟨by omega, by unfold maxLen; omega⟩, Again.of (i + 1) hlt (by omega) ?_⟩
      simp [hst, hwr]
    · have g0 : (i = 0) = False := eq_false h0
      have g1 : ((i : Int) = 0) = False := eq_false (by omega)
      have g2 : ((i : Int) == 0) = false := by simp [h0]
      have hw : IntKind.i64.wrap ((i : Int) - 1) = ((i - 1 : Nat) : Int) := by rw [wrapS _ (by omega)]; omega
      obtain ⟨hi1, hlo⟩ := lastO_take l i h0 hlt
      rw [hlo] at hst
      simp -implicitDefEqProofs [hlt, g0, g1, g2, hw, hi1]
      refine ACallGS.of (fun _ => index_Collapsed1 _ _ d h1 h2 (hm _ (List.getElem_mem hi1)) (hm _ (List.getElem_mem hlt))) rfl ?_
      by_cases hk : keepsF (stampF d) (some l[i - 1]) l[i] = true
      · rw [if_pos hk] at hst
        simp [keepsF] at hk
        simp -implicitDefEqProofs +contextual [-Bool.and_eq_false_imp, Bool.and_eq_false_iff, hlt]
        refine ⟨fun _ => ⟨⟨by omega, by unfold maxLen; omega⟩, Again.of (i + 1) hlt (by omega) (by simp [hst, hwr])⟩, fun h1 h2 => ?_⟩
        rcases hk with hk | hk
        · exact absurd h1 hk
        · exact absurd h2 hk
      · rw [if_neg hk] at hst
        simp [keepsF] at hk
        simp -implicitDefEqProofs +contextual [-Bool.and_eq_false_imp, Bool.and_eq_false_iff, hlt, hk.1, hk.2]
        exact Again.of (i + 1) hlt (by omega) (by simp [hst, hwr])
  · rw [List.take_of_length_le (by omega)]
    simp -implicitDefEqProofs [hlt]

theorem index_Collapsed (l : List Entry) (d : Int) : ACalls Tryd.prog 11 [entries l, .one (.int .i64 d)] (.tup [entries (collL l d), .one (.int .i64 (collE l d))]) := by
  refine ACalls.of mixed (fn := Tryd.f11) (by kernel_rfl) (by kernel_rfl) rfl (by kernel_rfl) (by simp [Tryd.f11]) (fun hok => ?_)
  simp -implicitDefEqProofs +contextual [-Bool.and_eq_false_imp, Bool.and_eq_false_iff]
  refine ACallK.of (index_checkEntries l) ?_
  by_cases he : entriesF l = 0
  · by_cases hd : 1 ≤ d ∧ d ≤ 14
    · have hc : collE l d = 0 := by unfold collE; rw [if_pos he, if_pos hd]
      have hl : collL l d = firstsF (stampF d) none l := by unfold collL; rw [if_pos hc]
      rw [hc, hl]
      simp -implicitDefEqProofs +contextual [-Bool.and_eq_false_imp, Bool.and_eq_false_iff, he]
      refine ACallK.of (index_within _ _ _) ?_
      have hw : inB 1 14 d = true := by simp [inB, hd.1, hd.2]
      simp -implicitDefEqProofs +contextual [-Bool.and_eq_false_imp, Bool.and_eq_false_iff, hw]
      refine ACallK.of (index_firstsC l d hd.1 hd.2 (fun x hx => entry_moment ((entriesF_sorted he).2 x hx)) (entriesF_short he)) ?_
      simp -implicitDefEqProofs +contextual [-Bool.and_eq_false_imp, Bool.and_eq_false_iff, hw]
    · have hc : collE l d = 1 := by unfold collE; rw [if_pos he, if_neg hd]
      have hl : collL l d = [] := by unfold collL; rw [if_neg (by omega)]
      rw [hc, hl]
      simp -implicitDefEqProofs +contextual [-Bool.and_eq_false_imp, Bool.and_eq_false_iff, he]
      refine ACallK.of (index_within _ _ _) ?_
      have hw : inB 1 14 d = false := by simp [inB]; omega
      simp -implicitDefEqProofs +contextual [-Bool.and_eq_false_imp, Bool.and_eq_false_iff, hw]
  · have hc : collE l d = entriesF l := by unfold collE; rw [if_neg he]
    have hl : collL l d = [] := by unfold collL; rw [if_neg (by omega)]
    rw [hc, hl]
    simp -implicitDefEqProofs +contextual [-Bool.and_eq_false_imp, Bool.and_eq_false_iff, he]
end Go.Proofs.YtejhjdpafdpjlaaDoor
