/- A part of the proof: lemmas and contracts of functions. -/
import Derived.Test.YtdciogjhkckigaaDoorIxT
namespace Go.Proofs.YtdciogjhkckigaaDoor
open Go Go.Ab
set_option maxRecDepth 100000
set_option maxHeartbeats 4000000

theorem index_Changed1 (a b : Entry) : ACalls Tryd.prog 40 [.agg a.row, .agg b.row] (.x (.one (.bool (a.digest == b.digest)))) := by
  refine ACalls.of mixed (fn := Tryd.f40) (by kernel_rfl) (by kernel_rfl) rfl (by kernel_rfl) (by simp [Tryd.f40]) (fun hok => ?_)
  simp -implicitDefEqProofs +contextual [-Bool.and_eq_false_imp, Bool.and_eq_false_iff]

theorem index_firsts (l : List Entry) (hb : l.length ≤ 3000) : ACalls Tryd.prog 39 [entries l, funcV 40] (.x (entries (firstsP none l))) := by
  refine ACalls.of mixed (fn := Tryd.f39) (by kernel_rfl) (by kernel_rfl) rfl (by kernel_rfl) (by simp [Tryd.f39]) (fun hok => ?_)
  simp -implicitDefEqProofs +contextual [-Bool.and_eq_false_imp, Bool.and_eq_false_iff]
  refine ALoopS.of Nat (fun i => [(0, .x (entries l)), (1, .x (funcV 40)), (5, .own 33 9 ((firstsP none (l.take i)).map Entry.row)), (8, .x (entries l)), (9, .x (.one (.int .i64 l.length))), (10, .x (.one (.int .i64 i)))]) (fun i => i ≤ l.length) (fun i => l.length - i) 0 (Nat.zero_le _) ?_ ?_
  · simp [firstsP]
  intro i hi
  by_cases hlt : i < l.length
  · have hwr : IntKind.i64.wrap ((i : Int) + 1) = (i : Int) + 1 := wrapS _ (by omega)
    have hst := firstsP_snoc (l.take i) l[i] none
    rw [← List.take_succ_eq_append_getElem hlt] at hst
    have hle : (firstsP none (l.take i)).length ≤ 3000 := by
      have := (firstsP_sub (l.take i) none).length_le
      rw [List.length_take] at this; omega
    obtain ⟨P, eP⟩ : ∃ P, P = firstsP none (l.take i) := ⟨_, rfl⟩
    rw [← eP] at hst hle ⊢
    by_cases h0 : i = 0
    · have g0 : (i = 0) = True := eq_true h0
      have g1 : ((i : Int) = 0) = True := eq_true (by omega)
      have g2 : ((i : Int) == 0) = true := by simp [h0]
      rw [show lastO none (l.take i) = none by rw [h0]; rfl] at hst
      have hw0 : (IntKind.i64.wrap ((i : Int) - 1)).toNat = i := by rw [wrapS _ (by omega)]; omega
      simp -implicitDefEqProofs [hlt, g0, g1, g2, hw0]
      refine ACallGS.of (fun h => by cases h) (r := .x (.one (.bool false))) rfl ?_
      have hk : keeps none l[i] = true := rfl
      rw [if_pos hk] at hst
      simp -implicitDefEqProofs +contextual [-Bool.and_eq_false_imp, Bool.and_eq_false_iff, hlt]
      refine ⟨⟨by omega, by unfold maxLen; omega⟩, Again.of (i + 1) hlt (by omega) ?_⟩
      simp [hst, hwr]
    · have g0 : (i = 0) = False := eq_false h0
      have g1 : ((i : Int) = 0) = False := eq_false (by omega)
      have g2 : ((i : Int) == 0) = false := by simp [h0]
      have hw : IntKind.i64.wrap ((i : Int) - 1) = ((i - 1 : Nat) : Int) := by rw [wrapS _ (by omega)]; omega
      have hi1 : i - 1 < l.length := by omega
      have hlo : lastO none (l.take i) = some l[i - 1] := by
        rw [lastO_eq _ _ (by rw [ne_eq, List.take_eq_nil_iff]; rintro (h | h); exact h0 h; rw [h] at hlt; cases hlt), List.length_take, Nat.min_eq_left (by omega), List.getElem?_take_of_lt (by omega), List.getElem?_eq_getElem hi1]
      rw [hlo] at hst
      simp -implicitDefEqProofs [hlt, g0, g1, g2, hw, hi1]
      refine ACallGS.of (fun _ => index_Changed1 _ _) rfl ?_
      by_cases hk : keeps (some l[i - 1]) l[i] = true
      · rw [if_pos hk] at hst
        simp [keeps] at hk
        simp -implicitDefEqProofs +contextual [-Bool.and_eq_false_imp, Bool.and_eq_false_iff, hlt]
        refine ⟨fun _ => ⟨⟨by omega, by unfold maxLen; omega⟩, Again.of (i + 1) hlt (by omega) (by simp [hst, hwr])⟩, fun h1 h2 => ?_⟩
        rcases hk with hk | hk
        · exact absurd h1 hk
        · exact absurd h2 hk
      · rw [if_neg hk] at hst
        simp [keeps] at hk
        simp -implicitDefEqProofs +contextual [-Bool.and_eq_false_imp, Bool.and_eq_false_iff, hlt, hk.1, hk.2]
        exact Again.of (i + 1) hlt (by omega) (by simp [hst, hwr])
  · rw [List.take_of_length_le (by omega)]
    simp -implicitDefEqProofs [hlt]

theorem index_Changed (l : List Entry) : ACalls Tryd.prog 16 [entries l] (.tup [entries (changedL l), .one (.int .i64 (entriesF l))]) := by
  refine ACalls.of mixed (fn := Tryd.f16) (by kernel_rfl) (by kernel_rfl) rfl (by kernel_rfl) (by simp [Tryd.f16]) (fun hok => ?_)
  simp -implicitDefEqProofs +contextual [-Bool.and_eq_false_imp, Bool.and_eq_false_iff]
  refine ACallK.of (index_checkEntries l) ?_
  unfold changedL
  simp -implicitDefEqProofs +contextual [-Bool.and_eq_false_imp, Bool.and_eq_false_iff]
  intro h
  rw [if_pos h]
  refine ACallK.of (index_firsts l (entriesF_short h)) ?_
  simp -implicitDefEqProofs +contextual [-Bool.and_eq_false_imp, Bool.and_eq_false_iff, h]

theorem livesN_le : ∀ (n : Nat) (l : List Entry), (livesN n l).length ≤ l.length
  | 0, _ => by simp [livesN]
  | n + 1, [] => by simp [livesN]
  | n + 1, e :: r => by
    have hp := withKey_pos e r
    have ih := livesN_le n ((e :: r).drop (withKey (e :: r) e.key).length)
    rw [List.length_drop] at ih
    simp only [livesN, List.length_cons] at ih ⊢
    omega
theorem livesL_le (l : List Entry) : (livesL l).length ≤ l.length := livesN_le _ _
theorem lawChanged (l : List Entry) : ACalls Tryd.prog 4 [entries l] (.x (.one (.bool true))) := by
  refine ACalls.of mixed (fn := Tryd.f4) (by kernel_rfl) (by kernel_rfl) rfl (by kernel_rfl) (by simp [Tryd.f4]) (fun hok => ?_)
  simp -implicitDefEqProofs +contextual [-Bool.and_eq_false_imp, Bool.and_eq_false_iff]
  refine ACallK.of (index_Changed l) ?_
  by_cases h : entriesF l = 0
  · obtain ⟨hso, _⟩ := entriesF_sorted h
    have hx0 : changedL l = firstsP none l := by unfold changedL; rw [if_pos h]
    have hx1 : entriesF (firstsP none l) = 0 := entriesF_sub h (firstsP_sub l none)
    have hx2 : changedL (firstsP none l) = firstsP none l := by unfold changedL; rw [if_pos hx1, firstsP_twice]
    have hle := lives_firsts l.length l (Nat.le_refl _) hso
    obtain ⟨x, ex⟩ : ∃ x, x = firstsP none l := ⟨_, rfl⟩
    rw [hx0, h]
    rw [← ex] at hx1 hx2 hle ⊢
    simp -implicitDefEqProofs +contextual [-Bool.and_eq_false_imp, Bool.and_eq_false_iff]
    refine ACallK.of (index_Changed x) ?_
    rw [hx2, hx1]
    simp -implicitDefEqProofs +contextual [-Bool.and_eq_false_imp, Bool.and_eq_false_iff]
    refine ACallGS.of (fun _ => slices_Equal x x) rfl ?_
    simp -implicitDefEqProofs +contextual [-Bool.and_eq_false_imp, Bool.and_eq_false_iff]
    refine ACallK.of (index_Lives l) ?_
    rw [if_pos h, h]
    simp -implicitDefEqProofs +contextual [-Bool.and_eq_false_imp, Bool.and_eq_false_iff]
    refine ACallK.of (index_Lives x) ?_
    rw [if_pos hx1, hx1]
    obtain ⟨A, eA⟩ : ∃ A, A = livesL l := ⟨_, rfl⟩
    obtain ⟨B, eB⟩ : ∃ B, B = livesL x := ⟨_, rfl⟩
    rw [← eA, ← eB] at hle
    rw [← eA, ← eB]
    have hlen := hle.length
    simp -implicitDefEqProofs +contextual [-Bool.and_eq_false_imp, Bool.and_eq_false_iff, hlen]
    have hAl : A.length ≤ 3000 := by
      have := livesL_le l
      have := entriesF_short h
      rw [eA]; omega
    refine ALoopS.of Nat (fun i => [(6, .x (lives A)), (7, .x (lives B)), (9, .x (.one (.int .i64 i)))]) (fun i => i ≤ A.length) (fun i => A.length - i) 0 (Nat.zero_le _) ?_ ?_
    · simp
    intro i hi
    by_cases hlt : i < A.length
    · have hltB : i < B.length := by omega
      obtain ⟨q1, q2, q3, q4⟩ := hle.at hlt hltB
      have hwr : IntKind.i64.wrap ((i : Int) + 1) = (i : Int) + 1 := wrapS _ (by omega)
      have g1 : (A[i].many < B[i].many) = False := eq_false (by omega)
      simp -implicitDefEqProofs [Life.row, hlt, hltB, q1, q2, q3, g1]
      exact Again.of (i + 1) hlt (by omega) (by simp [hwr])
    · simp -implicitDefEqProofs [hlt]
      refine ACallK.of law8_awake ?_
      simp -implicitDefEqProofs +contextual [-Bool.and_eq_false_imp, Bool.and_eq_false_iff]
  · rw [show changedL l = [] by unfold changedL; rw [if_neg h]]
    simp -implicitDefEqProofs +contextual [-Bool.and_eq_false_imp, Bool.and_eq_false_iff, h]
    refine ACallGS.of (fun _ => law8_awake) rfl ?_
    simp -implicitDefEqProofs +contextual [-Bool.and_eq_false_imp, Bool.and_eq_false_iff]
end Go.Proofs.YtdciogjhkckigaaDoor
