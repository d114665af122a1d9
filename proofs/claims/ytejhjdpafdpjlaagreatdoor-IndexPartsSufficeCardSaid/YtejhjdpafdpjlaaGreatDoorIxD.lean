/- A part of the proof: lemmas and contracts of functions. -/
import Derived.Test.YtejhjdpafdpjlaaGreatDoorIxC
namespace Go.Proofs.YtejhjdpafdpjlaaGreatDoor
open Go Go.Ab
set_option linter.unusedSectionVars false
variable [Amb]
set_option maxRecDepth 100000
set_option maxHeartbeats 4000000

def entryF (e : Entry) : Int :=
  if keyB e.key = false then 3
  else if momentB e.time = false ∨ (e.status ≠ 0 ∧ inB 100 599 e.status = false) then 1
  else if e.type ≠ [] ∧ wordB e.type 40 = false then 3
  else if digestB e.digest = false then 3
  else if nameB e.file = false then 5
  else if inB 0 500000 e.lo = false ∨ inB e.lo 500000 e.hi = false then 1
  else 0

theorem digest_trim (l : List UInt8) : (digestB l = false) ↔ (l.length ≠ 16 ∨ Lib.trimS l hexCs ≠ []) := by
  have e := trimS_nil l hexCs
  simp only [hexCs_eq] at e
  unfold digestB
  cases hb : l.all hexB with
  | true => simp [e.2 hb]
  | false =>
    have : Lib.trimS l hexCs ≠ [] := fun h => by rw [e.1 h] at hb; cases hb
    simp [this]

theorem index_checkEntry (e : Entry) : ACalls Tryz.prog 44 [.agg e.row] (.x (.one (.int .i64 (entryF e)))) := by
  refine ACalls.of mixed (fn := Tryz.f44) (by kernel_rfl) (by kernel_rfl) rfl (by kernel_rfl) (by simp [Tryz.f44]) (fun hok => ?_)
  have ed := digest_trim e.digest
  generalize hF : entryF e = F
  unfold entryF at hF
  simp -implicitDefEqProofs +contextual [-Bool.and_eq_false_imp, Bool.and_eq_false_iff, Entry.row]
  refine ACallK.of (isKey _) ?_
  simp -implicitDefEqProofs +contextual [-Bool.and_eq_false_imp, Bool.and_eq_false_iff]
  refine ⟨fun h => ?_, fun h1 => ?_⟩
  · rw [← hF, if_pos h]
  rw [if_neg (by simp [h1])] at hF
  refine ACallK.of (isMoment _) ?_
  simp -implicitDefEqProofs +contextual [-Bool.and_eq_false_imp, Bool.and_eq_false_iff]
  refine ACallGS.of (fun _ => index_within _ _ _) rfl ?_
  simp -implicitDefEqProofs +contextual [-Bool.and_eq_false_imp, Bool.and_eq_false_iff]
  refine ⟨fun h => ?_, fun h2 h3 => ACallGS.of (fun _ => isWord _ _) rfl ?_⟩
  · rw [← hF, if_pos h]
  rw [if_neg (by simp [h2]; exact fun a => h3.resolve_left a)] at hF
  simp -implicitDefEqProofs +contextual [-Bool.and_eq_false_imp, Bool.and_eq_false_iff]
  refine ⟨fun h4 h5 => ?_, fun h4 => ACallGS.of (fun _ => strings_Trim _ hexCs (by decide) (by decide)) rfl ?_⟩
  · rw [← hF, if_pos ⟨h4, h5⟩]
  rw [if_neg (by rintro ⟨a, b⟩; rcases h4 with h4 | h4 <;> simp_all)] at hF
  simp -implicitDefEqProofs +contextual [-Bool.and_eq_false_imp, Bool.and_eq_false_iff]
  have h16 : ((e.digest.length : Int) = 16) ↔ (e.digest.length = 16) := by omega
  refine ⟨fun h => ?_, fun h5 h6 => ACallK.of (isName _) ?_⟩
  · rw [← hF, if_pos (ed.2 (by rcases h with h | h; exact .inl (fun a => h (h16.2 a)); exact .inr h))]
  rw [if_neg (fun h => by rcases ed.1 h with h | h; exact h (h16.1 h5); exact h h6)] at hF
  simp -implicitDefEqProofs +contextual [-Bool.and_eq_false_imp, Bool.and_eq_false_iff]
  refine ⟨fun h => ?_, fun h7 => ACallK.of (index_within _ _ _) ?_⟩
  · rw [← hF, if_pos h]
  rw [if_neg (by simp [h7])] at hF
  simp -implicitDefEqProofs +contextual [-Bool.and_eq_false_imp, Bool.and_eq_false_iff]
  refine ACallGS.of (fun _ => index_within _ _ _) rfl ?_
  simp -implicitDefEqProofs +contextual [-Bool.and_eq_false_imp, Bool.and_eq_false_iff]
  refine ⟨fun h => ?_, fun h8 h9 => ?_⟩
  · rw [← hF, if_pos h]
  · rw [← hF, if_neg (by simp [h8, h9])]

theorem ref8_checkEntry (e : Entry) : ACalls Tryz.prog 48 [.agg e.row] (.x (.one (.int .i64 (entryF e)))) := by
  refine ACalls.of mixed (fn := Tryz.f48) (by kernel_rfl) (by kernel_rfl) rfl (by kernel_rfl) (by simp [Tryz.f48]) (fun hok => ?_)
  have ew : (e.type ≠ [] ∧ wordB e.type 40 = false) ↔ ((40 : Int) < e.type.length ∨ plainB e.type = false) := by
    unfold wordB inB
    cases e.type with
    | nil => simp [plainB]
    | cons a r => cases plainB (a :: r) <;> simp <;> omega
  generalize hF : entryF e = F
  unfold entryF at hF
  simp -implicitDefEqProofs +contextual [-Bool.and_eq_false_imp, Bool.and_eq_false_iff, Entry.row]
  refine ACallK.of (ref8_isKey _) ?_
  simp -implicitDefEqProofs +contextual [-Bool.and_eq_false_imp, Bool.and_eq_false_iff]
  refine ⟨fun h => ?_, fun h1 => ?_⟩
  · rw [← hF, if_pos h]
  rw [if_neg (by simp [h1])] at hF
  refine ACallK.of (ref8_within _ _ _) ?_
  simp -implicitDefEqProofs +contextual [-Bool.and_eq_false_imp, Bool.and_eq_false_iff]
  refine ACallGS.of (fun _ => ref8_within _ _ _) rfl ?_
  simp -implicitDefEqProofs +contextual [-Bool.and_eq_false_imp, Bool.and_eq_false_iff]
  refine ⟨fun h => ?_, fun h2 h3 => ACallGS.of (fun _ => ref8_plain _) rfl ?_⟩
  · rw [← hF]; exact if_pos h
  rw [if_neg (by rw [show momentB e.time = true from h2]; simp; exact fun a => h3.resolve_left a)] at hF
  simp -implicitDefEqProofs +contextual [-Bool.and_eq_false_imp, Bool.and_eq_false_iff]
  refine ACallGS.of (fun _ => ref8_isDigest _) rfl ?_
  simp -implicitDefEqProofs +contextual [-Bool.and_eq_false_imp, Bool.and_eq_false_iff]
  refine ⟨fun h => ?_, fun h4 h4' h5 => ACallK.of (ref6_isName _) ?_⟩
  · rw [← hF]
    by_cases hw : e.type ≠ [] ∧ wordB e.type 40 = false
    · rw [if_pos hw]
    · rw [if_neg hw, if_pos (h.resolve_left (fun a => hw (ew.2 a)))]
  rw [if_neg (fun a => by rcases ew.1 a with h | h; omega; rw [h4'] at h; cases h), if_neg (by simp [h5])] at hF
  simp -implicitDefEqProofs +contextual [-Bool.and_eq_false_imp, Bool.and_eq_false_iff]
  refine ⟨fun h => ?_, fun h7 => ACallK.of (ref8_within _ _ _) ?_⟩
  · rw [← hF, if_pos h]
  rw [if_neg (by simp [h7])] at hF
  simp -implicitDefEqProofs +contextual [-Bool.and_eq_false_imp, Bool.and_eq_false_iff]
  refine ACallGS.of (fun _ => ref8_within _ _ _) rfl ?_
  simp -implicitDefEqProofs +contextual [-Bool.and_eq_false_imp, Bool.and_eq_false_iff]
  refine ⟨fun h => ?_, fun h8 h9 => ?_⟩
  · rw [← hF, if_pos h]
  · rw [← hF, if_neg (by simp [h8, h9])]

/-! ### The error of entries -/
def pairF : Option Entry → List Entry → Int
  | _, [] => 0
  | none, e :: r => if entryF e = 0 then pairF (some e) r else entryF e
  | some q, e :: r => if entryF e = 0 then (if 0 < cmpE q e then 8 else if cmpE q e = 0 then 7 else pairF (some e) r) else entryF e
def entriesF (l : List Entry) : Int := if 3000 < l.length then 2 else pairF none l
def prev (l : List Entry) (i : Nat) : Option Entry := if i = 0 then none else l[i - 1]?
def PairOk (l : List Entry) (i : Nat) : Prop := i ≤ l.length ∧ pairF none l = pairF (prev l i) (l.drop i)
theorem PairOk.zero {l : List Entry} : PairOk l 0 := ⟨Nat.zero_le _, rfl⟩
theorem PairOk.at {l : List Entry} {i : Nat} (h : PairOk l i) (hlt : i < l.length) : pairF none l = pairF (prev l i) (l[i] :: l.drop (i + 1)) := by
  rw [h.2, List.drop_eq_getElem_cons hlt]
theorem prev_succ {l : List Entry} {i : Nat} (hlt : i < l.length) : prev l (i + 1) = some l[i] := by
  simp [prev, hlt]
theorem PairOk.done {l : List Entry} {i : Nat} (h : PairOk l i) (hge : ¬ i < l.length) : pairF none l = 0 := by
  rw [h.2, List.drop_eq_nil_of_le (by omega)]
  cases prev l i <;> rfl

theorem index_checkEntries (l : List Entry) : ACalls Tryz.prog 22 [.one (.list 9 (l.map Entry.row))] (.x (.one (.int .i64 (entriesF l)))) := by
  refine ACalls.of mixed (fn := Tryz.f22) (by kernel_rfl) (by kernel_rfl) rfl (by kernel_rfl) (by simp [Tryz.f22]) (fun hok => ?_)
  simp -implicitDefEqProofs +contextual [-Bool.and_eq_false_imp, Bool.and_eq_false_iff]
  refine ⟨fun h => ?_, fun h => ?_⟩
  · unfold entriesF; rw [if_pos (by omega)]
  have hv : entriesF l = pairF none l := by unfold entriesF; rw [if_neg (by omega)]
  rw [hv]
  refine ALoopS.of Nat (fun i => [(0, .x (.one (.list 9 (l.map Entry.row)))), (10, .x (.one (.list 9 (l.map Entry.row)))), (11, .x (.one (.int .i64 l.length))), (12, .x (.one (.int .i64 i)))]) (PairOk l) (fun i => l.length - i) 0 PairOk.zero ?_ ?_
  · simp
  intro i hi
  by_cases hlt : i < l.length
  · have hat := hi.at hlt
    simp -implicitDefEqProofs +contextual [-Bool.and_eq_false_imp, Bool.and_eq_false_iff, hlt, Entry.row]
    refine ACallK.of (index_checkEntry l[i]) ?_
    simp -implicitDefEqProofs +contextual [-Bool.and_eq_false_imp, Bool.and_eq_false_iff]
    refine ⟨fun hf => ?_, fun hf => ⟨fun hpos => ?_, fun hz => ?_⟩⟩
    · rw [hat]
      unfold pairF
      cases prev l i <;> simp [hf]
    · have hw : IntKind.i64.wrap ((i : Int) - 1) = ((i - 1 : Nat) : Int) := by rw [wrapS _ (by omega)]; omega
      have hlt1 : i - 1 < l.length := by omega
      have hp : prev l i = some l[i - 1] := by simp [prev, hlt1]; omega
      rw [hp] at hat
      simp only [pairF, hf, if_true] at hat
      simp -implicitDefEqProofs +contextual [-Bool.and_eq_false_imp, Bool.and_eq_false_iff, hw, hlt1, Entry.row]
      refine ACallK.of (index_compare l[i - 1] l[i]) ?_
      simp -implicitDefEqProofs +contextual [-Bool.and_eq_false_imp, Bool.and_eq_false_iff]
      refine ⟨fun h1 => ?_, fun h1 => ⟨fun h2 => ?_, fun h2 => ?_⟩⟩
      · rw [hat, if_pos h1]
      · rw [hat, if_neg (by omega), if_pos h2]
      · rw [if_neg (by omega), if_neg h2] at hat
        refine Again.of (i + 1) ⟨hlt, by rw [hat, prev_succ hlt]⟩ (by omega) ?_
        simp
        exact wrapS _ (by omega)
    · subst hz
      refine Again.of 1 ⟨hlt, ?_⟩ (by omega) ?_
      · rw [hat, prev_succ hlt]
        simp [prev, pairF, hf]
      · simp
        exact wrapS _ (by omega)
  · simp -implicitDefEqProofs [hlt]
    exact hi.done hlt

theorem ref8_checkEntries (l : List Entry) : ACalls Tryz.prog 27 [.one (.list 9 (l.map Entry.row))] (.x (.one (.int .i64 (entriesF l)))) := by
  refine ACalls.of mixed (fn := Tryz.f27) (by kernel_rfl) (by kernel_rfl) rfl (by kernel_rfl) (by simp [Tryz.f27]) (fun hok => ?_)
  simp -implicitDefEqProofs +contextual [-Bool.and_eq_false_imp, Bool.and_eq_false_iff]
  refine ⟨fun h => ?_, fun h => ?_⟩
  · unfold entriesF; rw [if_pos (by omega)]
  have hv : entriesF l = pairF none l := by unfold entriesF; rw [if_neg (by omega)]
  rw [hv]
  refine ALoopS.of Nat (fun i => [(0, .x (.one (.list 9 (l.map Entry.row)))), (3, .x (.one (.int .i64 i)))]) (PairOk l) (fun i => l.length - i) 0 PairOk.zero ?_ ?_
  · simp
  intro i hi
  by_cases hlt : i < l.length
  · have hat := hi.at hlt
    simp -implicitDefEqProofs +contextual [-Bool.and_eq_false_imp, Bool.and_eq_false_iff, hlt, Entry.row]
    refine ACallK.of (ref8_checkEntry l[i]) ?_
    simp -implicitDefEqProofs +contextual [-Bool.and_eq_false_imp, Bool.and_eq_false_iff]
    refine ⟨fun hf => ?_, fun hf => ⟨fun hz => ?_, fun hpos => ?_⟩⟩
    · rw [hat]
      unfold pairF
      cases prev l i <;> simp [hf]
    · subst hz
      refine Again.of 1 ⟨hlt, ?_⟩ (by omega) ?_
      · rw [hat, prev_succ hlt]
        simp [prev, pairF, hf]
      · simp
        exact wrapS _ (by omega)
    · have hw : IntKind.i64.wrap ((i : Int) - 1) = ((i - 1 : Nat) : Int) := by rw [wrapS _ (by omega)]; omega
      have hlt1 : i - 1 < l.length := by omega
      have hp : prev l i = some l[i - 1] := by simp [prev, hlt1]; omega
      rw [hp] at hat
      simp only [pairF, hf, if_true] at hat
      simp -implicitDefEqProofs +contextual [-Bool.and_eq_false_imp, Bool.and_eq_false_iff, hw, hlt1, hlt, Entry.row]
      refine ACallK.of (ref8_Compare l[i - 1] l[i]) ?_
      simp -implicitDefEqProofs +contextual [-Bool.and_eq_false_imp, Bool.and_eq_false_iff]
      refine ⟨fun h1 => ?_, fun h1 => ⟨fun h2 => ?_, fun h2 => ?_⟩⟩
      · rw [hat, if_pos h1]
      · rw [hat, if_neg (by omega), if_pos h2]
      · rw [if_neg (by omega), if_neg h2] at hat
        refine Again.of (i + 1) ⟨hlt, by rw [hat, prev_succ hlt]⟩ (by omega) ?_
        simp
        exact wrapS _ (by omega)
  · simp -implicitDefEqProofs [hlt]
    exact hi.done hlt
end Go.Proofs.YtejhjdpafdpjlaaGreatDoor
