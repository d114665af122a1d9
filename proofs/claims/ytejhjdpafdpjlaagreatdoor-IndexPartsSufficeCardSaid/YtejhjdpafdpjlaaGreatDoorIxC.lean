/- A part of the proof: lemmas and contracts of functions. -/
import Derived.Test.YtejhjdpafdpjlaaGreatDoorIxB
namespace Go.Proofs.YtejhjdpafdpjlaaGreatDoor
open Go Go.Ab
set_option linter.unusedSectionVars false
variable [Amb]
set_option maxRecDepth 100000
set_option maxHeartbeats 4000000

structure Entry where
  key : List UInt8
  time : Int
  status : Int
  type : List UInt8
  digest : List UInt8
  file : List UInt8
  lo : Int
  hi : Int
  same : Bool
  deriving DecidableEq
def Entry.row (e : Entry) : List CV := [.str e.key, .int .i64 e.time, .int .i64 e.status, .str e.type, .str e.digest, .str e.file, .int .i64 e.lo, .int .i64 e.hi, .bool e.same]
def intRow (n : Int) : List CV := [.int .i64 n]
def firstNZ : List Int → Int
  | [] => 0
  | a :: r => if a = 0 then firstNZ r else a
theorem firstNZ_at : ∀ {l : List Int} {i : Nat}, (l.take i).all (· == 0) = true → (h : i < l.length) → l[i] ≠ 0 → firstNZ l = l[i]
  | a :: r, 0, _, _, hn => by simp [firstNZ] at hn ⊢; intro h; exact absurd h hn
  | a :: r, i + 1, hp, h, hn => by
    simp only [List.take_succ_cons, List.all_cons, Bool.and_eq_true, beq_iff_eq] at hp
    simp only [firstNZ, hp.1, if_true, List.getElem_cons_succ]
    exact firstNZ_at hp.2 (by simpa using h) (by simpa using hn)
theorem firstNZ_all : ∀ {l : List Int}, l.all (· == 0) = true → firstNZ l = 0
  | [], _ => rfl
  | a :: r, hp => by
    simp only [List.all_cons, Bool.and_eq_true, beq_iff_eq] at hp
    simp only [firstNZ, hp.1, if_true]
    exact firstNZ_all hp.2
def cmpL (a b : Entry) : List Int := [Lib.compareBytes a.key b.key, cmpI a.time b.time, Lib.compareBytes a.file b.file, cmpI a.lo b.lo]
def cmpE (a b : Entry) : Int := firstNZ (cmpL a b)

theorem cmp_Or (l : List Int) : ACalls Tryz.prog 65 [.one (.list 1 (l.map intRow))] (.x (.one (.int .i64 (firstNZ l)))) := by
  refine ACalls.of mixed (fn := Tryz.f65) (by kernel_rfl) (by kernel_rfl) rfl (by kernel_rfl) (by simp [Tryz.f65]) (fun hok => ?_)
  have hl : l.length ≤ maxLen := by have := hok _ List.mem_cons_self; simp [XV.ok, CV.ok] at this; exact this.1
  simp -implicitDefEqProofs +contextual [-Bool.and_eq_false_imp, Bool.and_eq_false_iff]
  refine ALoopS.of Nat (fun i => [(3, .x (.one (.int .i64 0))), (6, .x (.one (.list 1 (l.map intRow)))), (7, .x (.one (.int .i64 l.length))), (8, .x (.one (.int .i64 i)))]) (Upto (· == 0) l) (fun i => l.length - i) 0 Upto.zero ?_ ?_
  · simp
  intro i hi
  by_cases hlt : i < l.length
  · simp -implicitDefEqProofs +contextual [-Bool.and_eq_false_imp, Bool.and_eq_false_iff, hlt, intRow]
    refine ⟨fun h => firstNZ_at hi.2 hlt h, fun h => Again.of (i + 1) (hi.step hlt (by simp [h])) (by omega) ?_⟩
    simp
    exact wrapS _ (by unfold maxLen at hl; omega)
  · simp -implicitDefEqProofs +contextual [-Bool.and_eq_false_imp, Bool.and_eq_false_iff, hlt]
    exact firstNZ_all (hi.done hlt)

theorem index_compare (a b : Entry) : ACalls Tryz.prog 45 [.agg a.row, .agg b.row] (.x (.one (.int .i64 (cmpE a b)))) := by
  refine ACalls.of mixed (fn := Tryz.f45) (by kernel_rfl) (by kernel_rfl) rfl (by kernel_rfl) (by simp [Tryz.f45]) (fun hok => ?_)
  simp -implicitDefEqProofs +contextual [-Bool.and_eq_false_imp, Bool.and_eq_false_iff, Entry.row]
  refine ACallK.of (strings_Compare _ _) ?_
  simp -implicitDefEqProofs +contextual [-Bool.and_eq_false_imp, Bool.and_eq_false_iff]
  refine ACallK.of (cmp_Compare _ _) ?_
  simp -implicitDefEqProofs +contextual [-Bool.and_eq_false_imp, Bool.and_eq_false_iff]
  refine ACallK.of (strings_Compare _ _) ?_
  simp -implicitDefEqProofs +contextual [-Bool.and_eq_false_imp, Bool.and_eq_false_iff]
  refine ACallK.of (cmp_Compare _ _) ?_
  simp -implicitDefEqProofs +contextual [-Bool.and_eq_false_imp, Bool.and_eq_false_iff]
  refine ACallK.of (cmp_Or (cmpL a b)) ?_
  simp -implicitDefEqProofs +contextual [-Bool.and_eq_false_imp, Bool.and_eq_false_iff]
  rfl

theorem ref8_Compare (a b : Entry) : ACalls Tryz.prog 49 [.agg a.row, .agg b.row] (.x (.one (.int .i64 (cmpE a b)))) := by
  refine ACalls.of mixed (fn := Tryz.f49) (by kernel_rfl) (by kernel_rfl) rfl (by kernel_rfl) (by simp [Tryz.f49]) (fun hok => ?_)
  simp -implicitDefEqProofs +contextual [-Bool.and_eq_false_imp, Bool.and_eq_false_iff, Entry.row]
  refine ACallK.of (ref8_order _ _) ?_
  simp -implicitDefEqProofs +contextual [-Bool.and_eq_false_imp, Bool.and_eq_false_iff]
  refine ACallK.of (ref8_number _ _) ?_
  simp -implicitDefEqProofs +contextual [-Bool.and_eq_false_imp, Bool.and_eq_false_iff]
  refine ACallK.of (ref8_order _ _) ?_
  simp -implicitDefEqProofs +contextual [-Bool.and_eq_false_imp, Bool.and_eq_false_iff]
  refine ACallK.of (ref8_number _ _) ?_
  simp -implicitDefEqProofs +contextual [-Bool.and_eq_false_imp, Bool.and_eq_false_iff]
  obtain ⟨l, el⟩ : ∃ l, l = cmpL a b := ⟨_, rfl⟩
  have h4 : l.length = 4 := by rw [el]; rfl
  refine ALoopS.of Nat (fun i => [(29, .own 3 1 (l.map intRow)), (30, .x (.one (.int .i64 4))), (31, .x (.one (.int .i64 i)))]) (Upto (· == 0) l) (fun i => l.length - i) 0 Upto.zero ?_ ?_
  · simp [el, cmpL, intRow]
  have e : cmpE a b = firstNZ l := by rw [el]; rfl
  rw [e]
  clear el e
  intro i hi
  by_cases hlt : i < l.length
  · have hlt4 : (i : Int) < 4 := by omega
    simp -implicitDefEqProofs +contextual [-Bool.and_eq_false_imp, Bool.and_eq_false_iff, hlt, hlt4, intRow]
    refine ⟨fun h => firstNZ_at hi.2 hlt h, fun h => Again.of (i + 1) (hi.step hlt (by simp [h])) (by omega) ?_⟩
    simp
    exact wrapS _ (by omega)
  · have hlt4 : ¬ (i : Int) < 4 := by omega
    simp -implicitDefEqProofs +contextual [-Bool.and_eq_false_imp, Bool.and_eq_false_iff, hlt, hlt4]
    exact firstNZ_all (hi.done hlt)
end Go.Proofs.YtejhjdpafdpjlaaGreatDoor
