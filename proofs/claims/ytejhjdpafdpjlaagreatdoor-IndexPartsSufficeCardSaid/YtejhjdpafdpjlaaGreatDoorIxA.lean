/- A part of the proof: lemmas and contracts of functions. -/
import Derived.Test.YtejhjdpafdpjlaaGreatDoorIxFacts
import Derived.Test.YtejhjdpafdpjlaaGreatDoorIxLays
import Derived.Test.YtejhjdpafdpjlaaGreatDoorAbJ5
import Derived.Shelf.Small.Strs
import Derived.Shelf.Strings.SlTrimAscii
namespace Go.Proofs.YtejhjdpafdpjlaaGreatDoor
open Go Go.Ab
set_option linter.unusedSectionVars false
variable [Amb]
set_option maxRecDepth 100000
set_option maxHeartbeats 4000000
theorem mixed : Tryz.prog.follows .mixedOrders = true := by kernel_rfl

theorem wrapS (n : Int) (h : -9223372036854775808 ≤ n ∧ n ≤ 9223372036854775807) : IntKind.i64.wrap n = n := IntWalk.i64_in n h

/-! ### All bytes of a string -/
section
variable {α : Type} {p : α → Bool} {l : List α} {i : Nat}
theorem all_bad (hlt : i < l.length) (h : p l[i] = false) : l.all p = false := by
  rw [List.all_eq_false]
  exact ⟨l[i], List.getElem_mem hlt, by simp [h]⟩
/-- The first i are so. -/
def Upto (p : α → Bool) (l : List α) (i : Nat) : Prop := i ≤ l.length ∧ (l.take i).all p = true
theorem Upto.zero : Upto p l 0 := ⟨Nat.zero_le _, by simp⟩
theorem Upto.step (h : Upto p l i) (hlt : i < l.length) (hp : p l[i] = true) : Upto p l (i + 1) := by
  refine ⟨hlt, ?_⟩
  rw [List.take_add_one, List.getElem?_eq_getElem hlt]
  simp only [Option.toList, List.all_append, h.2, List.all_cons, hp, List.all_nil, Bool.and_self]
theorem Upto.done (h : Upto p l i) (hge : ¬ i < l.length) : l.all p = true := by
  have := h.2
  rwa [List.take_of_length_le (by omega)] at this
end

def inB (lo hi n : Int) : Bool := decide (lo ≤ n) && decide (n ≤ hi)
def keyChar (b : UInt8) : Bool := decide (33 ≤ b.toNat) && decide (b.toNat ≤ 126)
def plainB (l : List UInt8) : Bool := l.all keyChar
def wordB (l : List UInt8) (most : Int) : Bool := plainB l && inB 1 most l.length
def keyB (l : List UInt8) : Bool := wordB l 2000
def momentB (n : Int) : Bool := inB 0 253402300799 n

theorem index_within (x a b : Int) : ACalls Tryz.prog 23 [.one (.int .i64 x), .one (.int .i64 a), .one (.int .i64 b)] (.x (.one (.bool (inB a b x)))) := by
  refine ACalls.of mixed (fn := Tryz.f23) (by kernel_rfl) (by kernel_rfl) rfl (by kernel_rfl) (by simp [Tryz.f23]) (fun hok => ?_)
  simp [inB]
theorem ref8_within (x a b : Int) : ACalls Tryz.prog 28 [.one (.int .i64 x), .one (.int .i64 a), .one (.int .i64 b)] (.x (.one (.bool (inB a b x)))) := by
  refine ACalls.of mixed (fn := Tryz.f28) (by kernel_rfl) (by kernel_rfl) rfl (by kernel_rfl) (by simp [Tryz.f28]) (fun hok => ?_)
  simp [inB]
theorem isMoment (x : Int) : ACalls Tryz.prog 40 [.one (.int .i64 x)] (.x (.one (.bool (momentB x)))) := by
  refine ACalls.of mixed (fn := Tryz.f40) (by kernel_rfl) (by kernel_rfl) rfl (by kernel_rfl) (by simp [Tryz.f40]) (fun hok => ?_)
  simp [momentB, inB]

theorem keyChar_bad {b : UInt8} (h : ((b.toNat : Nat) : Int) < 33 ∨ 126 < ((b.toNat : Nat) : Int)) : keyChar b = false := by
  unfold keyChar; rcases h with h | h <;> simp <;> omega
theorem keyChar_good {b : UInt8} (h1 : 33 ≤ ((b.toNat : Nat) : Int)) (h2 : ((b.toNat : Nat) : Int) ≤ 126) : keyChar b = true := by
  unfold keyChar; simp; omega

theorem isKey (l : List UInt8) : ACalls Tryz.prog 39 [.one (.str l)] (.x (.one (.bool (keyB l)))) := by
  refine ACalls.of mixed (fn := Tryz.f39) (by kernel_rfl) (by kernel_rfl) rfl (by kernel_rfl) (by simp [Tryz.f39]) (fun hok => ?_)
  have hl : l.length ≤ maxLen := by simpa [XV.ok, CV.ok] using hok
  simp -implicitDefEqProofs
  refine ALoopS.of Nat (fun i => [(0, .x (.one (.str l))), (5, .x (.one (.int .i64 l.length))), (6, .x (.one (.int .i64 i)))]) (Upto keyChar l) (fun i => l.length - i) 0 Upto.zero ?_ ?_
  · simp
  intro i hi
  by_cases hlt : i < l.length
  · simp -implicitDefEqProofs [hlt]
    refine ⟨fun h => ?_, fun h1 h2 => Again.of (i + 1) (hi.step hlt (keyChar_good (by omega) (by omega))) (by omega) ?_⟩
    · simp [keyB, wordB, plainB, all_bad hlt (keyChar_bad h)]
    · simp
      exact wrapS _ (by unfold maxLen at hl; omega)
  · simp -implicitDefEqProofs [hlt]
    simp [keyB, wordB, plainB, hi.done hlt, inB]

theorem isWord (l : List UInt8) (most : Int) : ACalls Tryz.prog 67 [.one (.str l), .one (.int .i64 most)] (.x (.one (.bool (wordB l most)))) := by
  refine ACalls.of mixed (fn := Tryz.f67) (by kernel_rfl) (by kernel_rfl) rfl (by kernel_rfl) (by simp [Tryz.f67]) (fun hok => ?_)
  have hl : l.length ≤ maxLen := by simpa [XV.ok, CV.ok] using hok _ (List.mem_cons_self)
  simp -implicitDefEqProofs
  refine ALoopS.of Nat (fun i => [(0, .x (.one (.str l))), (1, .x (.one (.int .i64 most))), (7, .x (.one (.int .i64 l.length))), (8, .x (.one (.int .i64 i)))]) (Upto keyChar l) (fun i => l.length - i) 0 Upto.zero ?_ ?_
  · simp
  intro i hi
  by_cases hlt : i < l.length
  · simp -implicitDefEqProofs [hlt]
    refine ⟨fun h => ?_, fun h1 h2 => Again.of (i + 1) (hi.step hlt (keyChar_good (by omega) (by omega))) (by omega) ?_⟩
    · simp [wordB, plainB, all_bad hlt (keyChar_bad h)]
    · simp
      exact wrapS _ (by unfold maxLen at hl; omega)
  · simp -implicitDefEqProofs [hlt]
    refine ACallK.of (index_within _ _ _) ?_
    simp [wordB, plainB, hi.done hlt]

theorem ref8_plain (l : List UInt8) : ACalls Tryz.prog 73 [.one (.str l)] (.x (.one (.bool (plainB l)))) := by
  refine ACalls.of mixed (fn := Tryz.f73) (by kernel_rfl) (by kernel_rfl) rfl (by kernel_rfl) (by simp [Tryz.f73]) (fun hok => ?_)
  have hl : l.length ≤ maxLen := by simpa [XV.ok, CV.ok] using hok
  simp -implicitDefEqProofs
  refine ALoopS.of Nat (fun i => [(0, .x (.one (.str l))), (3, .x (.one (.int .i64 i)))]) (Upto keyChar l) (fun i => l.length - i) 0 Upto.zero ?_ ?_
  · simp
  intro i hi
  by_cases hlt : i < l.length
  · simp -implicitDefEqProofs [hlt]
    refine ⟨fun h => ?_, fun h1 h2 => Again.of (i + 1) (hi.step hlt (keyChar_good (by omega) (by omega))) (by omega) ?_⟩
    · simp [plainB, all_bad hlt (keyChar_bad h)]
    · simp
      exact wrapS _ (by unfold maxLen at hl; omega)
  · simp -implicitDefEqProofs [hlt]
    simp [plainB, hi.done hlt]

theorem ref8_isKey (l : List UInt8) : ACalls Tryz.prog 72 [.one (.str l)] (.x (.one (.bool (keyB l)))) := by
  refine ACalls.of mixed (fn := Tryz.f72) (by kernel_rfl) (by kernel_rfl) rfl (by kernel_rfl) (by simp [Tryz.f72]) (fun hok => ?_)
  simp -implicitDefEqProofs
  refine ACallK.of (ref8_within _ _ _) ?_
  simp -implicitDefEqProofs
  refine ACallGS.of (fun _ => ref8_plain _) rfl ?_
  simp -implicitDefEqProofs [keyB, wordB, Bool.and_comm]

/-! ### Orders -/
theorem cmpB_eq : ∀ (a b : List UInt8), Lib.compareBytes a b = if ltB a b = true then -1 else if a = b then 0 else 1
  | [], [] => by simp [Lib.compareBytes, ltB, Op.bytesLess]
  | [], _ :: _ => by simp [Lib.compareBytes, ltB, Op.bytesLess]
  | _ :: _, [] => by simp [Lib.compareBytes, ltB, Op.bytesLess]
  | a :: x, b :: y => by
    have ih := cmpB_eq x y
    unfold ltB at ih
    simp only [Lib.compareBytes, ltB, Op.bytesLess]
    by_cases h1 : a < b
    · simp [h1]
    · by_cases h2 : b < a
      · have hab : a ≠ b := fun e => h1 (e ▸ h2)
        simp [h1, h2, hab]
      · have hab : a = b := UInt8.le_antisymm (UInt8.not_lt.1 h2) (UInt8.not_lt.1 h1)
        subst hab
        simp [h1, ih]
def cmpI (a b : Int) : Int := if a < b then -1 else if b < a then 1 else 0
theorem strings_Compare (a b : List UInt8) : ACalls Tryz.prog 54 [.one (.str a), .one (.str b)] (.x (.one (.int .i64 (Lib.compareBytes a b)))) := by
  refine ACalls.ofKit [.string ⟨a.toArray⟩, .string ⟨b.toArray⟩] _ (callable_of Tryz.f54 (by kernel_rfl) (by kernel_rfl) rfl) rfl (fun _ _ => repR_int _ _) (fun hok w => ?_)
  refine (Any.strings_Compare layn106 ⟨a.toArray⟩ ⟨b.toArray⟩ w).mono ?_
  rintro e w' ⟨rfl, rfl⟩
  exact ⟨rfl, RowKit.Below.refl _ _⟩
theorem ref8_order (a b : List UInt8) : ACalls Tryz.prog 76 [.one (.str a), .one (.str b)] (.x (.one (.int .i64 (Lib.compareBytes a b)))) := by
  refine ACalls.of mixed (fn := Tryz.f76) (by kernel_rfl) (by kernel_rfl) rfl (by kernel_rfl) (by simp [Tryz.f76]) (fun hok => ?_)
  have e := cmpB_eq a b
  generalize Lib.compareBytes a b = c at e ⊢
  simp -implicitDefEqProofs
  refine ⟨fun h => by rw [e, if_pos h], fun h => ⟨fun h2 h3 => ?_, fun h2 => ?_⟩⟩
  · rw [e, if_neg (by simp [h]), if_neg h3]
  · rw [e, if_neg (by simp [h]), if_pos (h2 h)]
theorem ref8_number (a b : Int) : ACalls Tryz.prog 77 [.one (.int .i64 a), .one (.int .i64 b)] (.x (.one (.int .i64 (cmpI a b)))) := by
  refine ACalls.of mixed (fn := Tryz.f77) (by kernel_rfl) (by kernel_rfl) rfl (by kernel_rfl) (by simp [Tryz.f77]) (fun hok => ?_)
  simp -implicitDefEqProofs
  refine ⟨fun h => ?_, fun h => ⟨fun h2 => ?_, fun h2 => ?_⟩⟩ <;> unfold cmpI
  · rw [if_pos h]
  · rw [if_neg (by omega), if_pos h2]
  · rw [if_neg (by omega), if_neg (by omega)]
theorem isNaN (a : Int) : ACalls Tryz.prog 92 [.one (.int .i64 a)] (.x (.one (.bool false))) := by
  refine ACalls.of mixed (fn := Tryz.f92) (by kernel_rfl) (by kernel_rfl) rfl (by kernel_rfl) (by simp [Tryz.f92]) (fun hok => ?_)
  simp -implicitDefEqProofs
theorem cmp_Compare (a b : Int) : ACalls Tryz.prog 66 [.one (.int .i64 a), .one (.int .i64 b)] (.x (.one (.int .i64 (cmpI a b)))) := by
  refine ACalls.of mixed (fn := Tryz.f66) (by kernel_rfl) (by kernel_rfl) rfl (by kernel_rfl) (by simp [Tryz.f66]) (fun hok => ?_)
  simp -implicitDefEqProofs
  refine ACallK.of (isNaN _) ?_
  simp -implicitDefEqProofs
  refine ACallK.of (isNaN _) ?_
  simp -implicitDefEqProofs
  refine ⟨fun h => ?_, fun h => ⟨fun h2 => ?_, fun h2 => ?_⟩⟩ <;> unfold cmpI
  · rw [if_pos h]
  · rw [if_neg (by omega), if_pos h2]
  · rw [if_neg (by omega), if_neg (by omega)]
end Go.Proofs.YtejhjdpafdpjlaaGreatDoor
