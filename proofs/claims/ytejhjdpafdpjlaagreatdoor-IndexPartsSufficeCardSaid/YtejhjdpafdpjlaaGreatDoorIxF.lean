/- A part of the proof: lemmas and contracts of functions. -/
import Derived.Test.YtejhjdpafdpjlaaGreatDoorIxE
namespace Go.Proofs.YtejhjdpafdpjlaaGreatDoor
open Go Go.Ab
set_option linter.unusedSectionVars false
variable [Amb]
set_option maxRecDepth 100000
set_option maxHeartbeats 4000000

theorem entriesF_short {l : List Entry} (h : entriesF l = 0) : l.length ≤ 3000 := by
  unfold entriesF at h
  split at h
  · cases h
  · omega

/-! ### Prefix -/
def prefixF (l : List Entry) (p : List UInt8) (from' many : Int) : Int :=
  if entriesF l ≠ 0 then entriesF l
  else if p ≠ [] ∧ keyB p = false then 3
  else if inB 0 3000 from' = false ∨ inB 1 3000 many = false then 1 else 0
def withPrefix (l : List Entry) (p : List UInt8) : List Entry := l.filter fun e => hasPre e.key p
def prefixL (l : List Entry) (p : List UInt8) (from' many : Int) : List Entry := if prefixF l p from' many = 0 then ((withPrefix l p).drop from'.toNat).take many.toNat else []
def prefixMore (l : List Entry) (p : List UInt8) (from' many : Int) : Bool := if prefixF l p from' many = 0 then decide (many.toNat < ((withPrefix l p).drop from'.toNat).length) else false

theorem drop_snoc {α : Type} (w : List α) (x : α) (n : Nat) : (w ++ [x]).drop n = if n ≤ w.length then w.drop n ++ [x] else [] := by
  split
  · rename_i h; rw [List.drop_append_of_le_length h]
  · rename_i h; exact List.drop_eq_nil_of_le (by simp; omega)
theorem withPrefix_split (l : List Entry) (p : List UInt8) (i : Nat) : withPrefix l p = withPrefix (l.take i) p ++ withPrefix (l.drop i) p := by
  unfold withPrefix
  rw [← List.filter_append, List.take_append_drop]

/-! ### Between -/
def betweenF (l : List Entry) (a b : Int) : Int :=
  if entriesF l ≠ 0 then entriesF l
  else if inB 0 253402300800 a = false ∨ inB 0 253402300800 b = false then 1 else 0
def within' (l : List Entry) (a b : Int) : List Entry := l.filter fun e => decide (a ≤ e.time) && decide (e.time < b)
def betweenL (l : List Entry) (a b : Int) : List Entry := if betweenF l a b = 0 then within' l a b else []
theorem within'_step {l : List Entry} {i : Nat} (a b : Int) (hlt : i < l.length) : within' (l.take (i + 1)) a b = within' (l.take i) a b ++ (if a ≤ l[i].time ∧ l[i].time < b then [l[i]] else []) := by
  unfold within'
  rw [List.take_add_one, List.getElem?_eq_getElem hlt, List.filter_append]
  congr 1
  simp only [Option.toList, List.filter_cons, List.filter_nil, Bool.and_eq_true, decide_eq_true_eq]
theorem within'_le (l : List Entry) (i : Nat) (a b : Int) : (within' (l.take i) a b).length ≤ l.length := by
  have := List.length_filter_le (fun e : Entry => decide (a ≤ e.time) && decide (e.time < b)) (l.take i)
  rw [List.length_take] at this
  unfold within'; omega

end Go.Proofs.YtejhjdpafdpjlaaGreatDoor
