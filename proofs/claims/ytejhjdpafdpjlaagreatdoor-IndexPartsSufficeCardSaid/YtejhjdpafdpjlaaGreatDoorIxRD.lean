/- A part of the proof: lemmas and contracts of functions. -/
import Derived.Test.YtejhjdpafdpjlaaGreatDoorIxNB
import Derived.Test.YtejhjdpafdpjlaaGreatDoorIxLine
import Derived.Test.YtejhjdpafdpjlaaGreatDoorIxE
namespace Go.Proofs.YtejhjdpafdpjlaaGreatDoor
open Go Go.Ab
set_option linter.unusedSectionVars false
variable [Amb] [HasPow10 Tryz.prog]
set_option maxRecDepth 100000
set_option maxHeartbeats 4000000

/-- What the two ways of reading a line answer. -/
def entryX (s : List UInt8) : Entry × Bool := if formW (splitC 32 s) = true then (entryW (splitC 32 s), numsW (splitC 32 s)) else ({ emptyE with same := sameW (splitC 32 s) }, false)
theorem entryX_line (s : List UInt8) : lineE s = if (entryX s).2 = true then some (entryX s).1 else none := by
  unfold lineE entryX
  by_cases h : formW (splitC 32 s) = true
  · simp [h]
  · simp [h]

theorem readEntry1 (s : List UInt8) (b : Bool) : ACallsM Tryz.prog 58 [.x (.one (.str s)), .box [.bool b]] (.x (.one (.int .i64 (numV s)))) [.dead, .box [.bool (b && numB s)]] := by
  refine ACallsM.of mixed (fn := Tryz.f58) (by kernel_rfl) (by kernel_rfl) rfl (by kernel_rfl) (by kernel_rfl) rfl (by simp [Tryz.f58]) (fun hok => ?_)
  simp -implicitDefEqProofs
  refine ACallK.of (index_number s) ?_
  simp -implicitDefEqProofs

theorem splitC_count (c : UInt8) (s : List UInt8) : (splitC c s).length ≤ s.length + 1 := by
  induction s with
  | nil => simp [splitC]
  | cons b r ih =>
    rw [splitC]
    split
    · simpa using ih
    · split
      · rename_i e; rw [e] at ih; simpa using Nat.le_succ_of_le ih
      · simp
theorem splitC_short {c : UInt8} {s : List UInt8} (h : s.length ≤ 600000) : (splitC c s).length ≤ 600001 := by
  have := splitC_count c s; omega
theorem eight_ex {w : List (List UInt8)} (h : w.length = 8) : ∃ a0 a1 a2 a3 a4 a5 a6 a7, w = [a0, a1, a2, a3, a4, a5, a6, a7] := ⟨_, _, _, _, _, _, _, _, eight h⟩
theorem nine_ex {w : List (List UInt8)} (h : w.length = 9) : ∃ a0 a1 a2 a3 a4 a5 a6 a7 a8, w = [a0, a1, a2, a3, a4, a5, a6, a7, a8] := ⟨_, _, _, _, _, _, _, _, _, nine h⟩
def wordsX (a0 a1 a2 a3 a4 a5 a6 a7 : List UInt8) (b : Bool) : Entry × Bool :=
  (⟨a0, numV a1, if a2 = [45] then 0 else numV a2, if a3 = [45] then [] else a3, a4, a5, numV a6, numV a7, b⟩, numB a1 && (numB a6 && (numB a7 && (decide (a2 = [45]) || (numB a2 && decide (numV a2 ≠ 0))))))
def wX (w : List (List UInt8)) : Entry × Bool := if formW w = true then (entryW w, numsW w) else ({ emptyE with same := sameW w }, false)
section
variable {a0 a1 a2 a3 a4 a5 a6 a7 a8 : List UInt8}
theorem wX8 (hn : ([] : List UInt8) ∉ [a0, a1, a2, a3, a4, a5, a6, a7]) : wX [a0, a1, a2, a3, a4, a5, a6, a7] = wordsX a0 a1 a2 a3 a4 a5 a6 a7 false := by
  unfold wX formW
  rw [if_pos (by simp only [hn]; simp)]
  try rfl
theorem wX8n (hn : ([] : List UInt8) ∈ [a0, a1, a2, a3, a4, a5, a6, a7]) : wX [a0, a1, a2, a3, a4, a5, a6, a7] = (emptyE, false) := by
  unfold wX formW
  rw [if_neg (by simp only [hn]; simp)]
  try rfl
theorem wX9 (hn : ([] : List UInt8) ∉ [a0, a1, a2, a3, a4, a5, a6, a7]) : wX [a0, a1, a2, a3, a4, a5, a6, a7, sameL] = wordsX a0 a1 a2 a3 a4 a5 a6 a7 true := by
  have hn' : ([] : List UInt8) ∉ [a0, a1, a2, a3, a4, a5, a6, a7, sameL] := by simpa [sameL] using hn
  unfold wX formW
  rw [if_pos (by simp only [hn']; simp)]
  try rfl
theorem wX9n (hn : ([] : List UInt8) ∈ [a0, a1, a2, a3, a4, a5, a6, a7]) : wX [a0, a1, a2, a3, a4, a5, a6, a7, sameL] = ({ emptyE with same := true }, false) := by
  have hn' : ([] : List UInt8) ∈ [a0, a1, a2, a3, a4, a5, a6, a7, sameL] := by
    have := List.mem_append_left [sameL] hn
    simpa using this
  unfold wX formW
  rw [if_neg (by simp only [hn']; simp)]
  try rfl
theorem wX9x (h8 : a8 ≠ sameL) : wX [a0, a1, a2, a3, a4, a5, a6, a7, a8] = (emptyE, false) := by
  have hs : sameW [a0, a1, a2, a3, a4, a5, a6, a7, a8] = false := by unfold sameW; simp [h8]
  unfold wX formW
  rw [if_neg (by simp [h8]), hs]
  try rfl
theorem wXno {w : List (List UInt8)} (h8 : w.length ≠ 8) (h9 : w.length ≠ 9) : wX w = (emptyE, false) := by
  have hs : sameW w = false := by unfold sameW; simp [h9]
  unfold wX formW
  rw [if_neg (by simp [h8, h9]), hs]
  try rfl
end
attribute [local simp] wordsX
theorem index_readEntry (s : List UInt8) (hs : s.length ≤ 600000) : ACalls Tryz.prog 34 [.one (.str s)] (.tup [.agg (entryX s).1.row, .one (.bool (entryX s).2)]) := by
  refine ACalls.of mixed (fn := Tryz.f34) (by kernel_rfl) (by kernel_rfl) rfl (by kernel_rfl) (by simp [Tryz.f34]) (fun hok => ?_)
  have hl := splitC_short (c := 32) hs
  simp -implicitDefEqProofs
  refine ACallK.of (strings_Split1 s 32 hs) ?_
  have hX : entryX s = wX (splitC 32 s) := rfl
  generalize entryX s = X at hX
  generalize splitC 32 s = w at hX hl
  by_cases h9 : w.length = 9
  · obtain ⟨a0, a1, a2, a3, a4, a5, a6, a7, a8, rfl⟩ := nine_ex h9
    clear h9
    by_cases h8 : a8 = sameL
    · subst h8
      simp -implicitDefEqProofs [sameL]
      refine AltR.r ⟨[], by kernel_rfl, ?_⟩
      simp -implicitDefEqProofs
      refine ACallGS.of (fun _ => slices_ContainsS [a0, a1, a2, a3, a4, a5, a6, a7] []) rfl ?_
      by_cases hn : ([] : List UInt8) ∈ [a0, a1, a2, a3, a4, a5, a6, a7]
      · rw [wX9n hn] at hX
        subst hX
        simp -implicitDefEqProofs [hn]
        simp [Entry.row, emptyE]
      · rw [wX9 hn] at hX
        subst hX
        simp -implicitDefEqProofs [hn]
        refine AltR.r ⟨[], by kernel_rfl, ?_⟩
        simp -implicitDefEqProofs
        refine ACallM.of (readEntry1 _ _) ?_
        simp -implicitDefEqProofs
        refine ACallM.of (readEntry1 _ _) ?_
        simp -implicitDefEqProofs
        refine ACallM.of (readEntry1 _ _) ?_
        by_cases h2 : a2 = [45]
        · by_cases h3 : a3 = [45]
          · simp -implicitDefEqProofs [h2, h3]
            refine AltR.r ⟨[5, 6], by kernel_rfl, ?_⟩
            simp -implicitDefEqProofs [h2, h3, Entry.row, Bool.and_assoc]
            try rfl
          · simp -implicitDefEqProofs [h2, h3]
            refine AltR.r ⟨[5, 6], by kernel_rfl, ?_⟩
            simp -implicitDefEqProofs [h2, h3, Entry.row, Bool.and_assoc]
            try rfl
        · by_cases h3 : a3 = [45]
          · simp -implicitDefEqProofs [h2, h3]
            refine ACallM.of (readEntry1 _ _) ?_
            simp -implicitDefEqProofs [h2, h3]
            refine AltR.r ⟨[5, 6], by kernel_rfl, ?_⟩
            simp -implicitDefEqProofs [h2, h3, Entry.row, Bool.and_assoc]
            try rfl
          · simp -implicitDefEqProofs [h2, h3]
            refine ACallM.of (readEntry1 _ _) ?_
            simp -implicitDefEqProofs [h2, h3]
            refine AltR.r ⟨[5, 6], by kernel_rfl, ?_⟩
            simp -implicitDefEqProofs [h2, h3, Entry.row, Bool.and_assoc]
            try rfl
    · rw [wX9x h8] at hX
      subst hX
      have h8' : ¬ a8 = [115, 97, 109, 101] := h8
      simp -implicitDefEqProofs [h8']
      refine ACallGS.of (fun h => by cases h) (r := .x (.one (.bool true))) rfl ?_
      simp -implicitDefEqProofs [h8']
      simp [Entry.row, emptyE]
  · have h9' : ((w.length : Int) = 9) = False := eq_false (by omega)
    by_cases h8 : w.length = 8
    · obtain ⟨a0, a1, a2, a3, a4, a5, a6, a7, rfl⟩ := eight_ex h8
      clear h9 h8 h9'
      simp -implicitDefEqProofs
      refine ACallGS.of (fun _ => slices_ContainsS [a0, a1, a2, a3, a4, a5, a6, a7] []) rfl ?_
      by_cases hn : ([] : List UInt8) ∈ [a0, a1, a2, a3, a4, a5, a6, a7]
      · rw [wX8n hn] at hX
        subst hX
        simp -implicitDefEqProofs [hn]
        simp [Entry.row, emptyE]
      · rw [wX8 hn] at hX
        subst hX
        simp -implicitDefEqProofs [hn]
        refine AltR.r ⟨[], by kernel_rfl, ?_⟩
        simp -implicitDefEqProofs
        refine ACallM.of (readEntry1 _ _) ?_
        simp -implicitDefEqProofs
        refine ACallM.of (readEntry1 _ _) ?_
        simp -implicitDefEqProofs
        refine ACallM.of (readEntry1 _ _) ?_
        by_cases h2 : a2 = [45]
        · by_cases h3 : a3 = [45]
          · simp -implicitDefEqProofs [h2, h3]
            refine AltR.r ⟨[5, 6], by kernel_rfl, ?_⟩
            simp -implicitDefEqProofs [h2, h3, Entry.row, Bool.and_assoc]
            try rfl
          · simp -implicitDefEqProofs [h2, h3]
            refine AltR.r ⟨[5, 6], by kernel_rfl, ?_⟩
            simp -implicitDefEqProofs [h2, h3, Entry.row, Bool.and_assoc]
            try rfl
        · by_cases h3 : a3 = [45]
          · simp -implicitDefEqProofs [h2, h3]
            refine ACallM.of (readEntry1 _ _) ?_
            simp -implicitDefEqProofs [h2, h3]
            refine AltR.r ⟨[5, 6], by kernel_rfl, ?_⟩
            simp -implicitDefEqProofs [h2, h3, Entry.row, Bool.and_assoc]
            try rfl
          · simp -implicitDefEqProofs [h2, h3]
            refine ACallM.of (readEntry1 _ _) ?_
            simp -implicitDefEqProofs [h2, h3]
            refine AltR.r ⟨[5, 6], by kernel_rfl, ?_⟩
            simp -implicitDefEqProofs [h2, h3, Entry.row, Bool.and_assoc]
            try rfl
    · have h8' : ((w.length : Int) = 8) = False := eq_false (by omega)
      rw [wXno h8 h9] at hX
      subst hX
      have h9b : ((w.length : Int) == 9) = false := by simp; omega
      have h8b : ((w.length : Int) != 8) = true := by simp; omega
      have hq : w[8]? = none ∨ ∃ z, w[8]? = some z := by cases w[8]? <;> simp
      rcases hq with hq | ⟨z, hq⟩
      · simp -implicitDefEqProofs [h9b, h8b, h9, h8, h9', h8', hq]
        refine ACallGS.of (fun h => by simp at h) (r := .x (.one (.bool true))) rfl ?_
        simp -implicitDefEqProofs [h9b, h8b, Entry.row, emptyE]
      · simp -implicitDefEqProofs [h9b, h8b, h9, h8, h9', h8', hq]
        refine ACallGS.of (fun h => by simp at h) (r := .x (.one (.bool true))) rfl ?_
        simp -implicitDefEqProofs [h9b, h8b, Entry.row, emptyE]
end Go.Proofs.YtejhjdpafdpjlaaGreatDoor
