/- A part of the proof: lemmas and contracts of functions. -/
import Derived.Test.YtdciogjhkckigaaDoorIxZb
namespace Go.Proofs.YtdciogjhkckigaaDoor
open Go Go.Ab
set_option linter.unusedSectionVars false
set_option linter.unusedVariables false
variable [Amb]
set_option maxRecDepth 100000
set_option maxHeartbeats 8000000

theorem Merged.ok {ls : List (List Entry)} {x : List Entry} {err : Int} (h : Merged ls x err) (he : err = 0) : ls.length ≤ 20 ∧ firstNZ (ls.map entriesF) = 0 ∧ Canon ls.flatten x ∧ entriesF x = 0 ∧ Merged [x, x] x 0 := by
  subst he
  have h1 : ls.length ≤ 20 := by
    refine Classical.byContradiction fun hn => ?_
    have := (h.many (by omega)).2; omega
  have h2 : firstNZ (ls.map entriesF) = 0 := by
    refine Classical.byContradiction fun hn => ?_
    exact hn (h.bad h1 hn).2.symm
  have h3 : ¬ Clash ls.flatten := fun hc => by have := (h.clash h1 h2 hc).2; omega
  obtain ⟨m, hc, he, ho⟩ := h.good h1 h2 h3
  rw [if_pos he.symm] at ho
  subst ho
  have hmem : ∀ y, y ∈ [x, x].flatten ↔ y ∈ x := fun y => by simp
  have hnc : ¬ Clash [x, x].flatten := fun hcl => h3 (Clash.of (fun y hy => (hc.mem y).1 ((hmem y).1 hy)) hcl)
  have hz : firstNZ ([x, x].map entriesF) = 0 := by simp [firstNZ, ← he]
  exact ⟨h1, h2, hc, he.symm, fun h => by simp at h, fun _ h => absurd hz h, fun _ _ h => absurd h hnc, fun _ _ _ => ⟨x, ⟨hc.sorted, fun y => (hmem y).symm⟩, he, (if_pos he.symm).symm⟩⟩
theorem Merged.bad0 {ls : List (List Entry)} {x : List Entry} {err : Int} (h : Merged ls x err) (he : err ≠ 0) : x = [] := by
  by_cases h1 : 20 < ls.length
  · exact (h.many h1).1
  · by_cases h2 : firstNZ (ls.map entriesF) = 0
    · by_cases h3 : Clash ls.flatten
      · exact (h.clash (by omega) h2 h3).1
      · obtain ⟨m, _, e, ho⟩ := h.good (by omega) h2 h3
        rw [ho, if_neg (by rw [← e]; exact he)]
    · exact (h.bad (by omega) h2).1

theorem lawHaveAll (ls : List (List Entry)) : ACalls Tryd.prog 12 [listsV ls] (.x (.one (.bool true))) := by
  obtain ⟨⟨x, xe⟩, hx, hcx⟩ := index_Merge ls
  dsimp only at hx hcx
  refine ACalls.of mixed (fn := Tryd.f12) (by kernel_rfl) (by kernel_rfl) rfl (by kernel_rfl) (by simp [Tryd.f12]) (fun hok => ?_)
  by_cases he : xe = 0
  · obtain ⟨h1, h2, hc, h4, h5⟩ := hx.ok he
    obtain ⟨⟨y, ye⟩, hy, hcy⟩ := index_Merge [x, x]
    obtain ⟨e1, e2⟩ := hy.unique h5
    dsimp only at e1 e2 hcy
    subst e1; subst e2
    subst he
    have hshort := lists_short h1 h2
    have hlx : y.length ≤ 3000 := entriesF_short h4
    simp -implicitDefEqProofs
    refine ACallK.of hcx ?_
    simp -implicitDefEqProofs
    refine ALoopS.of Nat (fun i => [(0, .x (listsV ls)), (3, .x (entries y)), (5, .x (.one (.int .i64 i)))]) (fun i => i ≤ ls.length) (fun i => ls.length - i) 0 (Nat.zero_le _) ?_ ?_
    · simp
    intro i hi
    by_cases hlt : i < ls.length
    · have w1 : IntKind.i64.wrap ((i : Int) + 1) = (i + 1 : Nat) := by rw [wrap_id (by omega)]; omega
      have hlen2 : ls[i].length ≤ 60000 := by have := sumL_take_succ hlt; have := sumL_take_le ls (i + 1); omega
      simp -implicitDefEqProofs [hlt]
      refine ALoopS.of Nat (fun j => [(0, .x (listsV ls)), (3, .x (entries y)), (5, .x (.one (.int .i64 i))), (6, .x (.one (.int .i64 j)))]) (fun j => j ≤ ls[i].length) (fun j => ls[i].length - j) 0 (Nat.zero_le _) ?_ ?_
      · simp
      intro j hj
      by_cases hjt : j < ls[i].length
      · have w2 : IntKind.i64.wrap ((j : Int) + 1) = (j + 1 : Nat) := by rw [wrap_id (by omega)]; omega
        simp -implicitDefEqProofs [hlt, listC, hjt]
        refine ACallK.of (slices_Contains y ls[i][j]) ?_
        have hin : ls[i][j] ∈ y := (hc.mem _).2 (List.mem_flatten.2 ⟨ls[i], List.getElem_mem _, List.getElem_mem _⟩)
        simp -implicitDefEqProofs [hin, w2]
        refine Again.of (j + 1) (by omega) (by omega) ?_
        simp
      · simp -implicitDefEqProofs [hlt, listC, hjt, w1]
        refine Again.of (i + 1) (by omega) (by omega) ?_
        simp
    simp -implicitDefEqProofs [hlt]
    clear hlt hi
    refine ALoopS.of Nat (fun k => [(0, .x (listsV ls)), (3, .x (entries y)), (7, .x (.one (.int .i64 k)))]) (fun k => k ≤ y.length) (fun k => y.length - k) 0 (Nat.zero_le _) ?_ ?_
    · simp
    intro k hk
    by_cases hkt : k < y.length
    · have w3 : IntKind.i64.wrap ((k : Int) + 1) = (k + 1 : Nat) := by rw [wrap_id (by omega)]; omega
      simp -implicitDefEqProofs [hkt]
      refine ALoopS.of (Nat × Bool) (fun x => [(0, .x (listsV ls)), (3, .x (entries y)), (7, .x (.one (.int .i64 k))), (8, .x (.one (.bool x.2))), (9, .x (.one (.int .i64 x.1)))]) (fun x => x.1 ≤ ls.length ∧ x.2 = decide (y[k] ∈ (ls.take x.1).flatten)) (fun x => ls.length - x.1) (0, false) ⟨Nat.zero_le _, by simp⟩ ?_ ?_
      · simp
      rintro ⟨i, f⟩ ⟨hi, hf⟩
      dsimp only at hi hf ⊢
      by_cases hlt : i < ls.length
      · have w1 : IntKind.i64.wrap ((i : Int) + 1) = (i + 1 : Nat) := by rw [wrap_id (by omega)]; omega
        have htk : (y[k] ∈ (ls.take (i + 1)).flatten) ↔ y[k] ∈ (ls.take i).flatten ∨ y[k] ∈ ls[i] := by
          rw [List.take_succ_eq_append_getElem hlt, List.flatten_append, List.mem_append]; simp
        cases f with
        | true =>
          simp -implicitDefEqProofs [hlt, listC, hkt]
          refine ACallGS.of (fun h => by cases h) (r := .x (.one (.bool false))) rfl ?_
          simp -implicitDefEqProofs [w1]
          have : y[k] ∈ (ls.take i).flatten := by simpa using hf
          refine Again.of (i + 1, true) ⟨by dsimp only; omega, by dsimp only; simp only [htk, this, true_or, decide_true]⟩ (by dsimp only; omega) ?_
          simp
        | false =>
          simp -implicitDefEqProofs [hlt, listC, hkt]
          refine ACallGS.of (fun _ => slices_Contains ls[i] y[k]) rfl ?_
          simp -implicitDefEqProofs [w1]
          have : ¬ y[k] ∈ (ls.take i).flatten := by simpa using hf
          refine Again.of (i + 1, decide (y[k] ∈ ls[i])) ⟨by dsimp only; omega, by dsimp only; simp only [htk, this, false_or]⟩ (by dsimp only; omega) ?_
          simp
      · have hil : i = ls.length := by omega
        rw [hil, List.take_length] at hf
        have hin : y[k] ∈ ls.flatten := (hc.mem _).1 (List.getElem_mem _)
        have hf' : f = true := by rw [hf]; simp [hin]
        simp -implicitDefEqProofs [hlt, hf', w3]
        refine Again.of (k + 1) (by omega) (by omega) ?_
        simp
    · simp -implicitDefEqProofs [hkt]
      refine ACallK.of hcy ?_
      simp -implicitDefEqProofs
      refine ACallGS.of (fun _ => slices_Equal y y) rfl ?_
      simp -implicitDefEqProofs
      refine ACallGS.of (fun _ => law8_awake) rfl ?_
      simp -implicitDefEqProofs
  · have hx0 := hx.bad0 he
    subst hx0
    have he' : (xe == 0) = false := by simpa using he
    simp -implicitDefEqProofs
    refine ACallK.of hcx ?_
    simp -implicitDefEqProofs [he]
    refine ACallGS.of (fun _ => law8_awake) rfl ?_
    simp -implicitDefEqProofs
end Go.Proofs.YtdciogjhkckigaaDoor
