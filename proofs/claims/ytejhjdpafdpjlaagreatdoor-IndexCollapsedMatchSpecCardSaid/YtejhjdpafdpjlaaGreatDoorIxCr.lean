/- A part of the proof: lemmas and contracts of functions. -/
import Derived.Test.YtejhjdpafdpjlaaGreatDoorIxCn
import Derived.Test.YtejhjdpafdpjlaaGreatDoorIxCo
import Derived.Test.YtejhjdpafdpjlaaGreatDoorIxCq
namespace Go.Proofs.YtejhjdpafdpjlaaGreatDoor
open Go Go.Ab
set_option linter.unusedSectionVars false
variable [Amb]
set_option maxRecDepth 100000
set_option maxHeartbeats 4000000

section
variable (e : Life)
@[simp] theorem lrow_length : e.row.length = 5 := rfl
@[simp] theorem lrow_take : List.take 5 e.row = e.row := rfl
@[simp] theorem lrow_acut (p : Prop) : acut .one p e.row = (p, .x (.one (.str e.key))) := rfl
@[simp] theorem lrow_acutZ (z : Option XV) (p : Prop) : acutZ .one z p e.row = (p, .x (.one (.str e.key))) := rfl
@[simp] theorem lrow_drop0 : List.drop 0 e.row = [.str e.key, .int .i64 e.many, .int .i64 e.other, .int .i64 e.first, .int .i64 e.last] := rfl
@[simp] theorem lrow_tail : e.row.tail = [.int .i64 e.many, .int .i64 e.other, .int .i64 e.first, .int .i64 e.last] := rfl
@[simp] theorem lrow_drop1 : List.drop 1 e.row = [.int .i64 e.many, .int .i64 e.other, .int .i64 e.first, .int .i64 e.last] := rfl
@[simp] theorem lrow_drop2 : List.drop 2 e.row = [.int .i64 e.other, .int .i64 e.first, .int .i64 e.last] := rfl
@[simp] theorem lrow_drop3 : List.drop 3 e.row = [.int .i64 e.first, .int .i64 e.last] := rfl
@[simp] theorem lrow_drop4 : List.drop 4 e.row = [.int .i64 e.last] := rfl
end
@[simp] theorem lrow_fit (a b : Life) : fitCs [.s, .i, .i, .i, .i] a.row b.row = True := by simp [Life.row, fitCs]
@[simp] theorem lrow_eq (a b : Life) : eqCs a.row b.row = decide (a = b) := by
  cases a; cases b
  rw [Bool.eq_iff_iff]
  simp [Life.row, eqCs]
theorem eq_of_takeL {l m : List Life} (hl : l.length = m.length) {i : Nat} (h : ∀ j, j < i → l[j]? = m[j]?) (hge : ¬ i < l.length) : l = m := by
  apply List.ext_getElem?
  intro j
  by_cases hj : j < i
  · exact h j hj
  · rw [List.getElem?_eq_none (by omega), List.getElem?_eq_none (by omega)]
theorem slices_EqualL (l m : List Life) : ACalls Tryz.prog 14 [lives l, lives m] (.x (.one (.bool (decide (l = m))))) := by
  refine ACalls.of mixed (fn := Tryz.f14) (by kernel_rfl) (by kernel_rfl) rfl (by kernel_rfl) (by simp [Tryz.f14]) (fun hok => ?_)
  have hl : l.length ≤ maxLen := by have := hok _ List.mem_cons_self; simp [XV.ok, CV.ok] at this; exact this.1
  simp -implicitDefEqProofs +contextual [-Bool.and_eq_false_imp, Bool.and_eq_false_iff]
  refine ⟨fun hne => ?_, fun heq => ?_⟩
  · intro e; subst e; exact hne rfl
  have heq' : l.length = m.length := by omega
  refine ALoopS.of Nat (fun i => [(0, .x (lives l)), (1, .x (lives m)), (12, .x (.one (.int .i64 m.length))), (13, .x (.one (.int .i64 i)))]) (fun i => i ≤ l.length ∧ ∀ j, j < i → l[j]? = m[j]?) (fun i => l.length - i) 0 ⟨Nat.zero_le _, by intro j hj; omega⟩ ?_ ?_
  · simp [heq']
  rintro i ⟨hi, hp⟩
  by_cases hlt : i < l.length
  · have hlt2 : i < m.length := by omega
    simp -implicitDefEqProofs +contextual [-Bool.and_eq_false_imp, Bool.and_eq_false_iff, hlt, hlt2]
    refine ⟨fun hne => ?_, fun he => Again.of (i + 1) ⟨hlt, fun j hj => ?_⟩ (by omega) ?_⟩
    · intro e; subst e; exact hne rfl
    · by_cases hji : j < i
      · exact hp j hji
      · have : j = i := by omega
        subst this
        rw [List.getElem?_eq_getElem hlt, List.getElem?_eq_getElem hlt2, he]
    · simp
      exact wrapS _ (by unfold maxLen at hl; omega)
  · have hlt2 : ¬ i < m.length := by omega
    simp -implicitDefEqProofs [hlt, hlt2]
    exact eq_of_takeL heq' hp hlt


theorem lawCollapsed [HasPow10 Tryz.prog] (l : List Entry) (d : Int) : ACalls Tryz.prog 3 [entries l, .one (.int .i64 d)] (.x (.one (.bool true))) := by
  refine ACalls.of mixed (fn := Tryz.f3) (by kernel_rfl) (by kernel_rfl) rfl (by kernel_rfl) (by simp [Tryz.f3]) (fun hok => ?_)
  simp -implicitDefEqProofs
  refine ACallK.of (index_Collapsed l d) ?_
  simp -implicitDefEqProofs
  refine ACallK.of (ref8_Collapsed l d) ?_
  simp -implicitDefEqProofs
  refine ACallK.of (slices_Equal _ _) ?_
  simp -implicitDefEqProofs
  refine ACallK.of (index_Changed l) ?_
  simp -implicitDefEqProofs
  refine ACallK.of (ref8_Changed l) ?_
  simp -implicitDefEqProofs
  refine ACallK.of (index_Lives l) ?_
  simp -implicitDefEqProofs
  refine ACallK.of (ref8_Lives l) ?_
  simp -implicitDefEqProofs
  refine ACallK.of (slices_Equal _ _) ?_
  simp -implicitDefEqProofs
  refine ACallGS.of (fun _ => slices_EqualL _ _) rfl ?_
  simp -implicitDefEqProofs
  refine ACallGS.of (fun _ => law8_awake) rfl ?_
  simp -implicitDefEqProofs
end Go.Proofs.YtejhjdpafdpjlaaGreatDoor
