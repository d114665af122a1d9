/- A part of the proof: lemmas and contracts of functions. -/
import Derived.Test.YtejhjdpafdpjlaaGreatDoorIxD
namespace Go.Proofs.YtejhjdpafdpjlaaGreatDoor
open Go Go.Ab
set_option linter.unusedSectionVars false
variable [Amb]
set_option maxRecDepth 100000
set_option maxHeartbeats 4000000

section
variable (e : Entry)
@[simp] theorem row_length : e.row.length = 9 := rfl
@[simp] theorem row_take : List.take 9 e.row = e.row := rfl
@[simp] theorem row_acut (p : Prop) : acut .one p e.row = (p, .x (.one (.str e.key))) := rfl
@[simp] theorem row_acutZ (z : Option XV) (p : Prop) : acutZ .one z p e.row = (p, .x (.one (.str e.key))) := rfl
@[simp] theorem row_drop0 : List.drop 0 e.row = [.str e.key, .int .i64 e.time, .int .i64 e.status, .str e.type, .str e.digest, .str e.file, .int .i64 e.lo, .int .i64 e.hi, .bool e.same] := rfl
@[simp] theorem row_drop1 : List.drop 1 e.row = [.int .i64 e.time, .int .i64 e.status, .str e.type, .str e.digest, .str e.file, .int .i64 e.lo, .int .i64 e.hi, .bool e.same] := rfl
@[simp] theorem row_tail : e.row.tail = [.int .i64 e.time, .int .i64 e.status, .str e.type, .str e.digest, .str e.file, .int .i64 e.lo, .int .i64 e.hi, .bool e.same] := rfl
@[simp] theorem row_drop2 : List.drop 2 e.row = [.int .i64 e.status, .str e.type, .str e.digest, .str e.file, .int .i64 e.lo, .int .i64 e.hi, .bool e.same] := rfl
@[simp] theorem row_drop3 : List.drop 3 e.row = [.str e.type, .str e.digest, .str e.file, .int .i64 e.lo, .int .i64 e.hi, .bool e.same] := rfl
@[simp] theorem row_drop4 : List.drop 4 e.row = [.str e.digest, .str e.file, .int .i64 e.lo, .int .i64 e.hi, .bool e.same] := rfl
@[simp] theorem row_drop5 : List.drop 5 e.row = [.str e.file, .int .i64 e.lo, .int .i64 e.hi, .bool e.same] := rfl
@[simp] theorem row_drop6 : List.drop 6 e.row = [.int .i64 e.lo, .int .i64 e.hi, .bool e.same] := rfl
@[simp] theorem row_drop7 : List.drop 7 e.row = [.int .i64 e.hi, .bool e.same] := rfl
@[simp] theorem row_drop8 : List.drop 8 e.row = [.bool e.same] := rfl
end
@[simp] theorem row_fit (a b : Entry) : fitCs [.s, .i, .i, .s, .s, .s, .i, .i, .b] a.row b.row = True := by simp [Entry.row, fitCs]
@[simp] theorem row_eq (a b : Entry) : eqCs a.row b.row = decide (a = b) := by
  cases a; cases b
  rw [Bool.eq_iff_iff]
  simp [Entry.row, eqCs]
@[simp] theorem cutAt_map {α β : Type} (f : α → β) (l : List α) (a b : Int) : cutAt (l.map f) a b = (cutAt l a b).map f := by simp [cutAt]
@[simp] theorem cutAt_full {α : Type} (l : List α) (a : Int) : cutAt l a (l.length : Int) = l.drop a.toNat := by simp [cutAt]
@[simp] theorem cutAt_zero {α : Type} (l : List α) (b : Int) : cutAt l 0 b = l.take b.toNat := by simp [cutAt]
theorem row_inj {a b : Entry} (h : a.row = b.row) : a = b := by
  cases a; cases b
  simp [Entry.row] at h
  simp [h]

abbrev entries (l : List Entry) : XV := .one (.list 9 (l.map Entry.row))

theorem eq_of_take {l m : List Entry} (hl : l.length = m.length) {i : Nat} (h : ∀ j, j < i → l[j]? = m[j]?) (hge : ¬ i < l.length) : l = m := by
  apply List.ext_getElem?
  intro j
  by_cases hj : j < i
  · exact h j hj
  · rw [List.getElem?_eq_none (by omega), List.getElem?_eq_none (by omega)]

theorem slices_Equal (l m : List Entry) : ACalls Tryz.prog 9 [entries l, entries m] (.x (.one (.bool (decide (l = m))))) := by
  refine ACalls.of mixed (fn := Tryz.f9) (by kernel_rfl) (by kernel_rfl) rfl (by kernel_rfl) (by simp [Tryz.f9]) (fun hok => ?_)
  have hl : l.length ≤ maxLen := by have := hok _ List.mem_cons_self; simp [XV.ok, CV.ok] at this; exact this.1
  simp -implicitDefEqProofs +contextual [-Bool.and_eq_false_imp, Bool.and_eq_false_iff]
  refine ⟨fun hne => ?_, fun heq => ?_⟩
  · intro e; subst e; exact hne rfl
  have heq' : l.length = m.length := by omega
  refine ALoopS.of Nat (fun i => [(0, .x (.one (.list 9 (l.map Entry.row)))), (1, .x (.one (.list 9 (m.map Entry.row)))), (12, .x (.one (.int .i64 m.length))), (13, .x (.one (.int .i64 i)))]) (fun i => i ≤ l.length ∧ ∀ j, j < i → l[j]? = m[j]?) (fun i => l.length - i) 0 ⟨Nat.zero_le _, by intro j hj; omega⟩ ?_ ?_
  · simp [heq']
  rintro i ⟨hi, hp⟩
  by_cases hlt : i < l.length
  · have hlt2 : i < m.length := by omega
    simp -implicitDefEqProofs +contextual [-Bool.and_eq_false_imp, Bool.and_eq_false_iff, hlt, hlt2]
    refine ⟨fun hne => ?_, fun he => Again.of (i + 1) ⟨hlt, fun j hj => ?_⟩ (by omega) ?_⟩
    · intro e; subst e; exact hne rfl
    · by_cases hji : j < i
      · exact hp j hji
      · have : j = i := by omega
        subst this
        rw [List.getElem?_eq_getElem hlt, List.getElem?_eq_getElem hlt2, he]
    · simp
      exact wrapS _ (by unfold maxLen at hl; omega)
  · have hlt2 : ¬ i < m.length := by omega
    simp -implicitDefEqProofs [hlt, hlt2]
    exact eq_of_take heq' hp hlt

def idxE (l : List Entry) (e : Entry) : Int := match l.findIdx? (· == e) with
  | some i => i
  | none => -1
theorem idxE_nonneg (l : List Entry) (e : Entry) : (0 ≤ idxE l e) ↔ e ∈ l := by
  unfold idxE
  cases h : l.findIdx? (· == e) with
  | some i =>
    have hm : e ∈ l := by
      obtain ⟨h1, h2, _⟩ := List.findIdx?_eq_some_iff_getElem.1 h
      have := beq_iff_eq.1 h2
      rw [← this]; exact List.getElem_mem h1
    simp [hm]
  | none =>
    have hm : e ∉ l := fun hm => by
      have := List.findIdx?_eq_none_iff.1 h e hm
      simp at this
    simp [hm]

/-- s begins with p. -/
def hasPre (s p : List UInt8) : Bool := p.isPrefixOf s
theorem stringslite_HasPrefix (s p : List UInt8) : ACalls Tryz.prog 124 [.one (.str s), .one (.str p)] (.x (.one (.bool (hasPre s p)))) := by
  refine ACalls.of mixed (fn := Tryz.f124) (by kernel_rfl) (by kernel_rfl) rfl (by kernel_rfl) (by simp [Tryz.f124]) (fun hok => ?_)
  simp -implicitDefEqProofs +contextual [-Bool.and_eq_false_imp, Bool.and_eq_false_iff]
  have h : (p.isPrefixOf s = true) ↔ p = s.take p.length := by rw [List.isPrefixOf_iff_prefix, List.prefix_iff_eq_take]
  unfold hasPre
  rw [Bool.eq_iff_iff, h]
  simp
  constructor
  · intro e
    refine ⟨?_, e.symm⟩
    have := congrArg List.length e
    rw [List.length_take] at this
    omega
  · intro e; exact e.2.symm
theorem strings_HasPrefix (s p : List UInt8) : ACalls Tryz.prog 102 [.one (.str s), .one (.str p)] (.x (.one (.bool (hasPre s p)))) := by
  refine ACalls.of mixed (fn := Tryz.f102) (by kernel_rfl) (by kernel_rfl) rfl (by kernel_rfl) (by simp [Tryz.f102]) (fun hok => ?_)
  simp -implicitDefEqProofs +contextual [-Bool.and_eq_false_imp, Bool.and_eq_false_iff]
  refine ACallK.of (stringslite_HasPrefix _ _) ?_
  simp -implicitDefEqProofs +contextual [-Bool.and_eq_false_imp, Bool.and_eq_false_iff]
end Go.Proofs.YtejhjdpafdpjlaaGreatDoor
