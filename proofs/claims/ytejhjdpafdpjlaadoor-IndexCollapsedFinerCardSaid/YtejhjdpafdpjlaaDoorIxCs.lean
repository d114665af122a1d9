/- A part of the proof: lemmas and contracts of functions. -/
import Derived.Test.YtejhjdpafdpjlaaDoorIxCm
import Derived.Test.YtejhjdpafdpjlaaDoorIxJ
namespace Go.Proofs.YtejhjdpafdpjlaaDoor
open Go Go.Ab
set_option linter.unusedSectionVars false
variable [Amb] [HasPow10 Tryd.prog]
set_option maxRecDepth 100000
set_option maxHeartbeats 4000000

theorem lawFiner (l : List Entry) (d : Int) : ACalls Tryd.prog 4 [entries l, .one (.int .i64 d)] (.x (.one (.bool true))) := by
  refine ACalls.of mixed (fn := Tryd.f4) (by kernel_rfl) (by kernel_rfl) rfl (by kernel_rfl) (by simp [Tryd.f4]) (fun hok => ?_)
  simp -implicitDefEqProofs
  refine ACallK.of (index_Collapsed l d) ?_
  by_cases h : collE l d = 0
  · have he : entriesF l = 0 := by
      unfold collE at h
      split at h
      · assumption
      · exact h
    have hd : 1 ≤ d ∧ d ≤ 14 := by
      unfold collE at h
      rw [if_pos he] at h
      split at h
      · assumption
      · cases h
    have hx0 : collL l d = firstsF (stampF d) none l := by unfold collL; rw [if_pos h]
    have hx1 : entriesF (firstsF (stampF d) none l) = 0 := entriesF_sub he (firstsF_sub _ l none)
    have hc1 : collE (firstsF (stampF d) none l) d = 0 := by unfold collE; rw [if_pos hx1, if_pos hd]
    have hx2 : collL (firstsF (stampF d) none l) d = firstsF (stampF d) none l := by unfold collL; rw [if_pos hc1, firstsF_twice]
    have hc2 : collE l 14 = 0 := by unfold collE; rw [if_pos he]; rfl
    have hz0 : collL l 14 = firstsF (stampF 14) none l := by unfold collL; rw [if_pos hc2]
    have hfine := firstsF_finer (f := stampF d) (g := stampF 14) (fun a b hab => by
      unfold stampF at hab ⊢
      rw [List.take_of_length_le (by simp), List.take_of_length_le (by simp)] at hab
      rw [hab]) l none
    have hnext := firstsF_next (stampF 14) (firstsF (stampF 14) none l) none (firstsF_twice _ l none)
    have hzl := (firstsF_sub (stampF 14) l none).length_le
    have hb := entriesF_short he
    rw [h, hx0]
    obtain ⟨x, ex⟩ : ∃ x, x = firstsF (stampF d) none l := ⟨_, rfl⟩
    obtain ⟨z, ez⟩ : ∃ z, z = firstsF (stampF 14) none l := ⟨_, rfl⟩
    rw [← ex] at hx1 hx2 hc1 hfine ⊢
    rw [← ez] at hfine hnext hzl hz0
    simp -implicitDefEqProofs
    refine ACallK.of (index_Collapsed x d) ?_
    rw [hx2, hc1]
    simp -implicitDefEqProofs
    refine ACallGS.of (fun _ => slices_Equal x x) rfl ?_
    simp -implicitDefEqProofs
    refine ACallK.of (index_Collapsed l 14) ?_
    rw [hz0, hc2]
    have hf1 : (z.length < x.length) = False := eq_false (by omega)
    have hf2 : ((z.length : Int) < x.length) = False := eq_false (by omega)
    simp -implicitDefEqProofs [hf1, hf2]
    refine ALoopS.of Nat (fun i => [(8, .x (entries z)), (9, .x (.one (.int .i64 i)))]) (fun i => 1 ≤ i) (fun i => z.length - i) 1 (Nat.le_refl _) ?_ ?_
    · simp
    intro i hi
    by_cases hlt : i < z.length
    · have hwr : IntKind.i64.wrap ((i : Int) + 1) = (i : Int) + 1 := wrapS _ (by omega)
      have hw : IntKind.i64.wrap ((i : Int) - 1) = ((i - 1 : Nat) : Int) := by rw [wrapS _ (by omega)]; omega
      have hi1 : i - 1 < z.length := by omega
      have hk : keepsF (stampF 14) (some z[i - 1]) z[i] = true := by
        have := hnext (i - 1) (by omega)
        have e : i - 1 + 1 = i := by omega
        simpa only [e] using this
      by_cases hkey : z[i].key = z[i - 1].key
      · have ht : (z[i].time = z[i - 1].time) = False := eq_false fun ht => by
          simp only [keepsF, Bool.or_eq_true, decide_eq_true_eq] at hk
          rcases hk with hk | hk
          · exact hk hkey.symm
          · exact hk (by unfold stampF; rw [ht])
        simp -implicitDefEqProofs [hlt, hi1, hw, hwr, hkey, ht]
        exact Again.of (i + 1) (by omega) (by omega) (by simp)
      · have hkey' : (z[i].key = z[i - 1].key) = False := eq_false hkey
        simp -implicitDefEqProofs [hlt, hi1, hw, hwr, hkey']
        exact Again.of (i + 1) (by omega) (by omega) (by simp)
    · have hlt' : ((i : Int) < z.length) = False := eq_false (by omega)
      simp -implicitDefEqProofs [hlt, hlt']
      refine ACallK.of law8_awake ?_
      simp -implicitDefEqProofs
  · rw [show collL l d = [] by unfold collL; rw [if_neg h]]
    simp -implicitDefEqProofs [h]
    refine ACallGS.of (fun _ => law8_awake) rfl ?_
    simp -implicitDefEqProofs
end Go.Proofs.YtejhjdpafdpjlaaDoor
