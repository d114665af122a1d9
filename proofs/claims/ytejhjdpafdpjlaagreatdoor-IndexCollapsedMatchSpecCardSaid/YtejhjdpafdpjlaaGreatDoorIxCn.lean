/- A part of the proof: lemmas and contracts of functions. -/
import Derived.Test.YtejhjdpafdpjlaaGreatDoorIxCm
import Derived.Test.YtejhjdpafdpjlaaGreatDoorIxDY
namespace Go.Proofs.YtejhjdpafdpjlaaGreatDoor
open Go Go.Ab
set_option linter.unusedSectionVars false
variable [Amb] [HasPow10 Tryz.prog]
set_option maxRecDepth 100000
set_option maxHeartbeats 4000000

theorem ref8_Collapsed (l : List Entry) (d : Int) : ACalls Tryz.prog 8 [entries l, .one (.int .i64 d)] (.tup [entries (collL l d), .one (.int .i64 (collE l d))]) := by
  refine ACalls.of mixed (fn := Tryz.f8) (by kernel_rfl) (by kernel_rfl) rfl (by kernel_rfl) (by simp [Tryz.f8]) (fun hok => ?_)
  simp -implicitDefEqProofs +contextual [-Bool.and_eq_false_imp, Bool.and_eq_false_iff]
  refine ACallK.of (ref8_checkEntries l) ?_
  by_cases he : entriesF l = 0
  · by_cases hd : 1 ≤ d ∧ d ≤ 14
    · have hc : collE l d = 0 := by unfold collE; rw [if_pos he, if_pos hd]
      have hl : collL l d = firstsF (stampF d) none l := by unfold collL; rw [if_pos hc]
      have hb := entriesF_short he
      have hm : ∀ x ∈ l, momentB x.time = true := fun x hx => entry_moment ((entriesF_sorted he).2 x hx)
      rw [hc, hl]
      simp -implicitDefEqProofs +contextual [-Bool.and_eq_false_imp, Bool.and_eq_false_iff, he]
      refine ACallK.of (ref8_within _ _ _) ?_
      have hw : inB 1 14 d = true := by simp [inB, hd.1, hd.2]
      simp -implicitDefEqProofs +contextual [-Bool.and_eq_false_imp, Bool.and_eq_false_iff, hw]
      refine ALoopS.of Nat (fun i => [(0, .x (entries l)), (1, .x (.one (.int .i64 d))), (7, .own 30 9 ((firstsF (stampF d) none (l.take i)).map Entry.row)), (8, .x (.one (.int .i64 i)))]) (fun i => i ≤ l.length) (fun i => l.length - i) 0 (Nat.zero_le _) ?_ ?_
      · simp [firstsF]
      intro i hi
      have k1 : (0 ≤ d) = True := eq_true (by omega)
      have k2 : (d ≤ 14) = True := eq_true hd.2
      by_cases hlt : i < l.length
      · have hwr : IntKind.i64.wrap ((i : Int) + 1) = (i : Int) + 1 := wrapS _ (by omega)
        have hst := firstsF_snoc (stampF d) (l.take i) l[i] none
        rw [← List.take_succ_eq_append_getElem hlt] at hst
        have hle := firstsF_le (stampF d) l i hb
        obtain ⟨P, eP⟩ : ∃ P, P = firstsF (stampF d) none (l.take i) := ⟨_, rfl⟩
        rw [← eP] at hst hle ⊢
        by_cases h0 : i = 0
        · have g0 : (i = 0) = True := eq_true h0
          have g1 : ((i : Int) = 0) = True := eq_true (by omega)
          have g2 : ((i : Int) == 0) = true := by simp [h0]
          rw [show lastO none (l.take i) = none by rw [h0]; rfl] at hst
          have hw0 : (IntKind.i64.wrap ((i : Int) - 1)).toNat = i := by rw [wrapS _ (by omega)]; omega
          simp -implicitDefEqProofs [hlt, g0, g1, g2, hw0, k1, k2]
          refine ACallGS.of (fun h => by cases h) (r := .x (.one (.str []))) rfl ?_
          simp -implicitDefEqProofs [hlt, g0, g1, g2, hw0, k1, k2]
          refine ACallGS.of (fun h => by cases h) (r := .x (.one (.str []))) rfl ?_
          have hk : keepsF (stampF d) none l[i] = true := rfl
          rw [if_pos hk] at hst
          simp -implicitDefEqProofs +contextual [-Bool.and_eq_false_imp, Bool.and_eq_false_iff, hlt]
          refine ⟨⟨by omega, by unfold maxLen; omega⟩, Again.of (i + 1) hlt (by omega) ?_⟩
          simp [hst, hwr]
        · have g0 : (i = 0) = False := eq_false h0
          have g1 : ((i : Int) = 0) = False := eq_false (by omega)
          have g2 : ((i : Int) == 0) = false := by simp [h0]
          have hw : IntKind.i64.wrap ((i : Int) - 1) = ((i - 1 : Nat) : Int) := by rw [wrapS _ (by omega)]; omega
          obtain ⟨hi1, hlo⟩ := lastO_take l i h0 hlt
          rw [hlo] at hst
          have hmi := hm _ (List.getElem_mem hlt)
          have hmj := hm _ (List.getElem_mem hi1)
          by_cases hkey : l[i].key = l[i - 1].key
          · have hkey' : l[i - 1].key = l[i].key := hkey.symm
            simp -implicitDefEqProofs [hlt, g0, g1, g2, hw, hi1, hkey, k1, k2]
            refine ACallGS.of (fun _ => ref8_digitsOf _ hmi) rfl ?_
            simp -implicitDefEqProofs [hlt, g0, g1, g2, hw, hi1, hkey, k1, k2]
            refine ACallGS.of (fun _ => ref8_digitsOf _ hmj) rfl ?_
            by_cases hk : stampF d l[i - 1] = stampF d l[i]
            · rw [if_neg (by simp [keepsF, hkey, hk])] at hst
              have hk' : (List.take d.toNat (stampL l[i].time) = List.take d.toNat (stampL l[i - 1].time)) = True := eq_true hk.symm
              simp -implicitDefEqProofs [hlt, g0, g1, g2, hw, hi1, hkey, k1, k2, hk', hwr]
              exact Again.of (i + 1) hlt (by omega) (by simp [hst])
            · rw [if_pos (by simp [keepsF, hk])] at hst
              have hk' : (List.take d.toNat (stampL l[i].time) = List.take d.toNat (stampL l[i - 1].time)) = False := eq_false fun h => hk h.symm
              simp -implicitDefEqProofs [hlt, g0, g1, g2, hw, hi1, hkey, k1, k2, hk', hwr]
              refine ⟨⟨by omega, by unfold maxLen; omega⟩, Again.of (i + 1) hlt (by omega) (by simp [hst])⟩
          · have hk0 : keepsF (stampF d) (some l[i - 1]) l[i] = true := by
              simp only [keepsF, Bool.or_eq_true, decide_eq_true_eq]
              exact Or.inl fun h => hkey h.symm
            rw [if_pos hk0] at hst
            have hkey' : (l[i].key = l[i - 1].key) = False := eq_false hkey
            simp -implicitDefEqProofs [hlt, g0, g1, g2, hw, hi1, hkey', k1, k2]
            refine ACallGS.of (fun h => absurd (by simpa using h) hkey) (r := .x (.one (.str []))) rfl ?_
            simp -implicitDefEqProofs [hlt, g0, g1, g2, hw, hi1, hkey', k1, k2]
            refine ACallGS.of (fun h => absurd (by simpa using h) hkey) (r := .x (.one (.str []))) rfl ?_
            simp -implicitDefEqProofs [hlt, g0, g1, g2, hw, hi1, hkey', k1, k2, hwr]
            refine ⟨⟨by omega, by unfold maxLen; omega⟩, Again.of (i + 1) hlt (by omega) (by simp [hst])⟩
      · rw [List.take_of_length_le (by omega)]
        simp -implicitDefEqProofs [hlt]
    · have hc : collE l d = 1 := by unfold collE; rw [if_pos he, if_neg hd]
      have hl : collL l d = [] := by unfold collL; rw [if_neg (by omega)]
      rw [hc, hl]
      simp -implicitDefEqProofs +contextual [-Bool.and_eq_false_imp, Bool.and_eq_false_iff, he]
      refine ACallK.of (ref8_within _ _ _) ?_
      have hw : inB 1 14 d = false := by simp [inB]; omega
      simp -implicitDefEqProofs +contextual [-Bool.and_eq_false_imp, Bool.and_eq_false_iff, hw]
  · have hc : collE l d = entriesF l := by unfold collE; rw [if_neg he]
    have hl : collL l d = [] := by unfold collL; rw [if_neg (by omega)]
    rw [hc, hl]
    simp -implicitDefEqProofs +contextual [-Bool.and_eq_false_imp, Bool.and_eq_false_iff, he]
end Go.Proofs.YtejhjdpafdpjlaaGreatDoor
