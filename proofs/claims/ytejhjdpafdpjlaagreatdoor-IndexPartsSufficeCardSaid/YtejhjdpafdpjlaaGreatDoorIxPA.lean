/- A part of the proof: lemmas and contracts of functions. -/
import Derived.Test.YtejhjdpafdpjlaaGreatDoorIxPT
import Derived.Test.YtejhjdpafdpjlaaGreatDoorIxE
namespace Go.Proofs.YtejhjdpafdpjlaaGreatDoor
open Go Go.Ab
set_option linter.unusedSectionVars false
variable [Amb]
set_option maxRecDepth 100000
set_option maxHeartbeats 4000000

section
variable (e : Part)
@[simp] theorem prow_length : e.row.length = 5 := rfl
@[simp] theorem prow_take : List.take 5 e.row = e.row := rfl
@[simp] theorem prow_acut (p : Prop) : acut .one p e.row = (p, .x (.one (.str e.key))) := rfl
@[simp] theorem prow_acutZ (z : Option XV) (p : Prop) : acutZ .one z p e.row = (p, .x (.one (.str e.key))) := rfl
@[simp] theorem prow_drop0 : List.drop 0 e.row = [.str e.key, .int .i64 e.time, .int .i64 e.lo, .int .i64 e.hi, .int .i64 e.many] := rfl
@[simp] theorem prow_tail : e.row.tail = [.int .i64 e.time, .int .i64 e.lo, .int .i64 e.hi, .int .i64 e.many] := rfl
@[simp] theorem prow_drop1 : List.drop 1 e.row = [.int .i64 e.time, .int .i64 e.lo, .int .i64 e.hi, .int .i64 e.many] := rfl
@[simp] theorem prow_drop2 : List.drop 2 e.row = [.int .i64 e.lo, .int .i64 e.hi, .int .i64 e.many] := rfl
@[simp] theorem prow_drop3 : List.drop 3 e.row = [.int .i64 e.hi, .int .i64 e.many] := rfl
@[simp] theorem prow_drop4 : List.drop 4 e.row = [.int .i64 e.many] := rfl
end
@[simp] theorem prow_fit (a b : Part) : fitCs [.s, .i, .i, .i, .i] a.row b.row = True := by simp [Part.row, fitCs]
@[simp] theorem prow_eq (a b : Part) : eqCs a.row b.row = decide (a = b) := by
  cases a; cases b
  rw [Bool.eq_iff_iff]
  simp [Part.row, eqCs]
theorem eq_of_takeP {l m : List Part} (hl : l.length = m.length) {i : Nat} (h : ∀ j, j < i → l[j]? = m[j]?) (hge : ¬ i < l.length) : l = m := by
  apply List.ext_getElem?
  intro j
  by_cases hj : j < i
  · exact h j hj
  · rw [List.getElem?_eq_none (by omega), List.getElem?_eq_none (by omega)]
theorem index_compareParts (x : Part) (k : List UInt8) (t : Int) : ACalls Tryz.prog 41 [.agg x.row, .one (.str k), .one (.int .i64 t)] (.x (.one (.int .i64 (cmpP x k t)))) := by
  refine ACalls.of mixed (fn := Tryz.f41) (by kernel_rfl) (by kernel_rfl) rfl (by kernel_rfl) (by simp [Tryz.f41]) (fun hok => ?_)
  simp -implicitDefEqProofs +contextual [-Bool.and_eq_false_imp, Bool.and_eq_false_iff, Part.row]
  refine ACallK.of (strings_Compare _ _) ?_
  simp -implicitDefEqProofs +contextual [-Bool.and_eq_false_imp, Bool.and_eq_false_iff]
  refine ACallK.of (cmp_Compare _ _) ?_
  simp -implicitDefEqProofs +contextual [-Bool.and_eq_false_imp, Bool.and_eq_false_iff]
  refine ACallK.of (cmp_Or [Lib.compareBytes x.key k, cmpI x.time t]) ?_
  simp -implicitDefEqProofs +contextual [-Bool.and_eq_false_imp, Bool.and_eq_false_iff]
  rfl
theorem index_checkParts (l : List Part) : ACalls Tryz.prog 38 [partsV l] (.x (.one (.int .i64 (checkP l)))) := by
  refine ACalls.of mixed (fn := Tryz.f38) (by kernel_rfl) (by kernel_rfl) rfl (by kernel_rfl) (by simp [Tryz.f38]) (fun hok => ?_)
  simp -implicitDefEqProofs +contextual [-Bool.and_eq_false_imp, Bool.and_eq_false_iff]
  refine ⟨fun h => ?_, fun h => ?_⟩
  · unfold checkP; rw [if_pos (by omega)]
  have hv : checkP l = partsE none 0 l := by unfold checkP; rw [if_neg (by omega)]
  rw [hv]
  refine ALoopS.of Nat (fun i => [(0, .x (partsV l)), (3, .x (.one (.int .i64 (endP l i)))), (9, .x (partsV l)), (10, .x (.one (.int .i64 l.length))), (11, .x (.one (.int .i64 i)))]) (UpP l) (fun i => l.length - i) 0 UpP.zero ?_ ?_
  · simp [endP, prevP]
  intro i hi
  by_cases hlt : i < l.length
  · have hbad := hi.bad hlt
    have hst := hi.step hlt
    have hwi : IntKind.i64.wrap ((i : Int) + 1) = (i : Int) + 1 := wrapS _ (by omega)
    obtain ⟨x, ex⟩ : ∃ x, l[i] = x := ⟨_, rfl⟩
    rw [ex] at hbad hst
    obtain ⟨F, eF⟩ : ∃ F, partF (prevP l i) (endP l i) x = F := ⟨_, rfl⟩
    rw [eF] at hbad hst
    unfold partF at eF
    simp -implicitDefEqProofs [hlt, ex, Part.row]
    refine ACallK.of (isKey _) ?_
    by_cases h1 : keyB x.key = false
    · rw [if_pos h1] at eF
      subst eF
      simp -implicitDefEqProofs [h1]
      exact hbad (by decide)
    rw [if_neg h1] at eF
    have h1' : keyB x.key = true := by simpa using h1
    simp -implicitDefEqProofs [h1']
    refine ACallK.of (isMoment _) ?_
    simp -implicitDefEqProofs
    refine ACallGS.of (fun _ => index_within _ _ _) rfl ?_
    simp -implicitDefEqProofs
    refine ACallGS.of (fun _ => index_within _ _ _) rfl ?_
    by_cases h2 : momentB x.time = false ∨ inB 1 1000 x.many = false ∨ inB 0 x.hi x.lo = false ∨ 600000 < x.hi
    · rw [if_pos h2] at eF
      subst eF
      have hb := hbad (by decide)
      have hcase : (((momentB x.time = true → inB 1 1000 x.many = false) ∨ False) ∨ False) ∨ True := .inr trivial
      cases m1 : momentB x.time <;> cases m2 : inB 1 1000 x.many <;> cases m3 : inB 0 x.hi x.lo <;> by_cases m4 : 600000 < x.hi <;> first | (exfalso; simp [m1, m2, m3, m4] at h2; done) | skip
      all_goals
        simp -implicitDefEqProofs [m4]
        exact hb
    rw [if_neg h2] at eF
    have m1 : momentB x.time = true := by cases h : momentB x.time <;> simp_all
    have m2 : inB 1 1000 x.many = true := by cases h : inB 1 1000 x.many <;> simp_all
    have m3 : inB 0 x.hi x.lo = true := by cases h : inB 0 x.hi x.lo <;> simp_all
    have m4 : (600000 < x.hi) = False := eq_false (by intro h; exact h2 (.inr (.inr (.inr h))))
    by_cases hz : i = 0
    · subst hz
      have hp0 : prevP l 0 = none := rfl
      have he0 : endP l 0 = 0 := rfl
      rw [hp0, he0] at eF
      simp -implicitDefEqProofs [m1, m2, m3, m4]
      refine ACallGS.of (fun h => by cases h) (r := .x (.one (.int .i64 0))) rfl ?_
      by_cases hlo : x.lo = 0
      · rw [if_neg (by simp [hlo])] at eF
        obtain ⟨s1, s2, s3⟩ := hst eF.symm
        simp -implicitDefEqProofs [hlo, he0]
        refine Again.of 1 s1 (by omega) ?_
        simp [s2]
        exact wrapS _ (by omega)
      · rw [if_pos (.inr hlo)] at eF
        subst eF
        simp -implicitDefEqProofs [hlo, he0]
        exact hbad (by decide)
    · have hlt1 : i - 1 < l.length := by omega
      have hw : IntKind.i64.wrap ((i : Int) - 1) = ((i - 1 : Nat) : Int) := by rw [wrapS _ (by omega)]; omega
      have hp : prevP l i = some l[i - 1] := by simp [prevP, hlt1, hz]
      obtain ⟨q, eq⟩ : ∃ q, l[i - 1] = q := ⟨_, rfl⟩
      rw [eq] at hp
      have hpos : ((0 : Int) < (i : Int)) = True := eq_true (by omega)
      have hpos2 : (0 < i) = True := eq_true (by omega)
      rw [hp] at eF
      have eF' : (if 0 < cmpP q x.key x.time ∨ x.lo ≠ endP l i then (8 : Int) else 0) = F := by
        rw [← eF]
        congr 1
        simp
      simp -implicitDefEqProofs [m1, m2, m3, m4, hpos, hw, hlt1, eq]
      refine ACallGS.of (fun _ => index_compareParts q x.key x.time) rfl ?_
      by_cases hc : 0 < cmpP q x.key x.time
      · rw [if_pos (.inl hc)] at eF'
        subst eF'
        simp -implicitDefEqProofs [hc, hpos2]
        exact hbad (by decide)
      · by_cases hlo : x.lo = endP l i
        · rw [if_neg (by simp [hc, hlo])] at eF'
          obtain ⟨s1, s2, s3⟩ := hst eF'.symm
          simp -implicitDefEqProofs [hc, hlo, hpos2, hz]
          refine Again.of (i + 1) s1 (by omega) ?_
          simp [s2, hwi]
        · rw [if_pos (.inr hlo)] at eF'
          subst eF'
          simp -implicitDefEqProofs [hc, hlo, hpos2, hz]
          exact hbad (by decide)
  · simp -implicitDefEqProofs [hlt]
    exact hi.done hlt
end Go.Proofs.YtejhjdpafdpjlaaGreatDoor
