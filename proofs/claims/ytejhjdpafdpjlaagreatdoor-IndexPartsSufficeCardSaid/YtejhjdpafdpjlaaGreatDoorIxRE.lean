/- A part of the proof: lemmas and contracts of functions. -/
import Derived.Test.YtejhjdpafdpjlaaGreatDoorIxRD
namespace Go.Proofs.YtejhjdpafdpjlaaGreatDoor
open Go Go.Ab
set_option linter.unusedSectionVars false
variable [Amb] [HasPow10 Tryz.prog]
set_option maxRecDepth 100000
set_option maxHeartbeats 4000000
attribute [local simp] wordsX
theorem memL_upto {w : List (List UInt8)} {i : Nat} (h : ∀ j, j < i → ∀ hj : j < w.length, w[j] ≠ []) (hge : ¬ i < w.length) : ([] : List UInt8) ∉ w := by
  intro hm
  obtain ⟨j, hj, e⟩ := List.mem_iff_getElem.1 hm
  exact h j (by omega) hj e
theorem ref8_entryAt (s : List UInt8) (hs : s.length ≤ 600000) : ACalls Tryz.prog 35 [.one (.str s)] (.tup [.agg (entryX s).1.row, .one (.bool (entryX s).2)]) := by
  refine ACalls.of mixed (fn := Tryz.f35) (by kernel_rfl) (by kernel_rfl) rfl (by kernel_rfl) (by simp [Tryz.f35]) (fun hok => ?_)
  have hl := splitC_short (c := 32) hs
  simp -implicitDefEqProofs
  refine ACallK.of (strings_Split1 s 32 hs) ?_
  have hX : entryX s = wX (splitC 32 s) := rfl
  generalize entryX s = X at hX
  generalize splitC 32 s = w at hX hl
  by_cases h9 : w.length = 9
  · obtain ⟨a0, a1, a2, a3, a4, a5, a6, a7, a8, ew⟩ := nine_ex h9
    have hlen := h9
    by_cases h8 : a8 = sameL
    · have hXn : ([] : List UInt8) ∈ w → wX w = ({ emptyE with same := true }, false) := by
        subst ew; subst h8; intro hm; exact wX9n (by simpa [sameL] using hm)
      have hXy : ([] : List UInt8) ∉ w → wX w = wordsX a0 a1 a2 a3 a4 a5 a6 a7 true := by
        subst ew; subst h8; intro hm; exact wX9 (by simpa [sameL] using hm)
      have hk0 : ∀ h : 0 < w.length, w[0] = a0 := by subst ew; intro h; rfl
      have hk1 : ∀ h : 1 < w.length, w[1] = a1 := by subst ew; intro h; rfl
      have hk2 : ∀ h : 2 < w.length, w[2] = a2 := by subst ew; intro h; rfl
      have hk3 : ∀ h : 3 < w.length, w[3] = a3 := by subst ew; intro h; rfl
      have hk4 : ∀ h : 4 < w.length, w[4] = a4 := by subst ew; intro h; rfl
      have hk5 : ∀ h : 5 < w.length, w[5] = a5 := by subst ew; intro h; rfl
      have hk6 : ∀ h : 6 < w.length, w[6] = a6 := by subst ew; intro h; rfl
      have hk7 : ∀ h : 7 < w.length, w[7] = a7 := by subst ew; intro h; rfl
      have hk8 : ∀ h : 8 < w.length, w[8] = [115, 97, 109, 101] := by subst ew; subst h8; intro h; rfl
      clear ew h8
      simp -implicitDefEqProofs [h9, hk8]
      refine ALoopS.of Nat (fun i => [(2, .box emptyE.row), (4, .x (strs w)), (5, .box ({ emptyE with same := true } : Entry).row), (6, .x (.one (.int .i64 i)))]) (fun i => i ≤ w.length ∧ ∀ j, j < i → ∀ hj : j < w.length, w[j] ≠ []) (fun i => w.length - i) 0 ⟨Nat.zero_le _, fun j h => by omega⟩ ?_ ?_
      · simp [emptyE, Entry.row]
      rintro i ⟨hi, hp⟩
      by_cases hlt : i < w.length
      · have hlt' : ((i : Int) < (w.length : Int)) = True := eq_true (by omega)
        have hwr : IntKind.i64.wrap ((i : Int) + 1) = (i : Int) + 1 := wrapS _ (by omega)
        by_cases he : w[i] = []
        · have hm : ([] : List UInt8) ∈ w := by rw [← he]; exact List.getElem_mem hlt
          rw [hXn hm] at hX
          subst hX
          simp -implicitDefEqProofs [hlt, hlt', he, Entry.row, emptyE]
        · simp -implicitDefEqProofs [hlt, hlt', he, hwr]
          refine Again.of (i + 1) ⟨by omega, fun j h hj => ?_⟩ (by omega) (by simp)
          by_cases hji : j = i
          · subst hji; exact he
          · exact hp j (by omega) hj
      · have hm := memL_upto hp hlt
        have hlt' : ((i : Int) < (w.length : Int)) = False := eq_false (by omega)
        rw [hXy hm] at hX
        subst hX
        clear hXn hXy hp hi
        have hlt2 : ((i : Int) < 9) = False := eq_false (by omega)
        simp -implicitDefEqProofs [hlt', hlt2, hlen, hk0, hk1, hk2, hk3, hk4, hk5, hk6, hk7, Entry.row, emptyE]
        refine ACallK.of (ref8_numbered a1) ?_
        simp -implicitDefEqProofs [hlen, hk0, hk1, hk2, hk3, hk4, hk5, hk6, hk7]
        refine ACallK.of (ref8_numbered a6) ?_
        simp -implicitDefEqProofs [hlen, hk0, hk1, hk2, hk3, hk4, hk5, hk6, hk7]
        refine ACallK.of (ref8_numbered a7) ?_
        by_cases h2 : a2 = [45]
        · by_cases h3 : a3 = [45]
          · simp -implicitDefEqProofs [hlen, hk0, hk1, hk2, hk3, hk4, hk5, hk6, hk7, h2, h3]
            refine AltR.r ⟨[], by kernel_rfl, ?_⟩
            simp -implicitDefEqProofs [hlen, hk0, hk1, hk2, hk3, hk4, hk5, hk6, hk7, h2, h3, Bool.and_assoc, Entry.row]
          · simp -implicitDefEqProofs [hlen, hk0, hk1, hk2, hk3, hk4, hk5, hk6, hk7, h2, h3]
            refine AltR.r ⟨[], by kernel_rfl, ?_⟩
            simp -implicitDefEqProofs [hlen, hk0, hk1, hk2, hk3, hk4, hk5, hk6, hk7, h2, h3, Bool.and_assoc, Entry.row]
        · by_cases h3 : a3 = [45]
          · simp -implicitDefEqProofs [hlen, hk0, hk1, hk2, hk3, hk4, hk5, hk6, hk7, h2, h3]
            refine ACallK.of (ref8_numbered a2) ?_
            simp -implicitDefEqProofs [hlen, hk0, hk1, hk2, hk3, hk4, hk5, hk6, hk7, h2, h3]
            refine AltR.r ⟨[], by kernel_rfl, ?_⟩
            simp -implicitDefEqProofs [hlen, hk0, hk1, hk2, hk3, hk4, hk5, hk6, hk7, h2, h3, Bool.and_assoc, Entry.row]
            try rfl
          · simp -implicitDefEqProofs [hlen, hk0, hk1, hk2, hk3, hk4, hk5, hk6, hk7, h2, h3]
            refine ACallK.of (ref8_numbered a2) ?_
            simp -implicitDefEqProofs [hlen, hk0, hk1, hk2, hk3, hk4, hk5, hk6, hk7, h2, h3]
            refine AltR.r ⟨[], by kernel_rfl, ?_⟩
            simp -implicitDefEqProofs [hlen, hk0, hk1, hk2, hk3, hk4, hk5, hk6, hk7, h2, h3, Bool.and_assoc, Entry.row]
            try rfl
    · have hk8 : ∀ h : 8 < w.length, w[8] = a8 := by subst ew; intro h; rfl
      have h8' : ¬ a8 = [115, 97, 109, 101] := h8
      rw [ew, wX9x h8] at hX
      clear ew
      subst hX
      simp -implicitDefEqProofs [h9, hk8, h8', Entry.row, emptyE]
  · have h9b : ((w.length : Int) == 9) = false := by simp; omega
    have hq : w[8]? = none ∨ ∃ z, w[8]? = some z := by cases w[8]? <;> simp
    by_cases h8 : w.length = 8
    · obtain ⟨a0, a1, a2, a3, a4, a5, a6, a7, ew⟩ := eight_ex h8
      have hlen := h8
      have hXn : ([] : List UInt8) ∈ w → wX w = (emptyE, false) := by
        subst ew; intro hm; exact wX8n (by simpa [sameL] using hm)
      have hXy : ([] : List UInt8) ∉ w → wX w = wordsX a0 a1 a2 a3 a4 a5 a6 a7 false := by
        subst ew; intro hm; exact wX8 (by simpa [sameL] using hm)
      have hk0 : ∀ h : 0 < w.length, w[0] = a0 := by subst ew; intro h; rfl
      have hk1 : ∀ h : 1 < w.length, w[1] = a1 := by subst ew; intro h; rfl
      have hk2 : ∀ h : 2 < w.length, w[2] = a2 := by subst ew; intro h; rfl
      have hk3 : ∀ h : 3 < w.length, w[3] = a3 := by subst ew; intro h; rfl
      have hk4 : ∀ h : 4 < w.length, w[4] = a4 := by subst ew; intro h; rfl
      have hk5 : ∀ h : 5 < w.length, w[5] = a5 := by subst ew; intro h; rfl
      have hk6 : ∀ h : 6 < w.length, w[6] = a6 := by subst ew; intro h; rfl
      have hk7 : ∀ h : 7 < w.length, w[7] = a7 := by subst ew; intro h; rfl
      clear ew h9b h9 hq
      simp -implicitDefEqProofs [h8]
      refine ALoopS.of Nat (fun i => [(2, .box emptyE.row), (4, .x (strs w)), (5, .box ({ emptyE with same := false } : Entry).row), (6, .x (.one (.int .i64 i)))]) (fun i => i ≤ w.length ∧ ∀ j, j < i → ∀ hj : j < w.length, w[j] ≠ []) (fun i => w.length - i) 0 ⟨Nat.zero_le _, fun j h => by omega⟩ ?_ ?_
      · simp [emptyE, Entry.row]
      rintro i ⟨hi, hp⟩
      by_cases hlt : i < w.length
      · have hlt' : ((i : Int) < (w.length : Int)) = True := eq_true (by omega)
        have hwr : IntKind.i64.wrap ((i : Int) + 1) = (i : Int) + 1 := wrapS _ (by omega)
        by_cases he : w[i] = []
        · have hm : ([] : List UInt8) ∈ w := by rw [← he]; exact List.getElem_mem hlt
          rw [hXn hm] at hX
          subst hX
          simp -implicitDefEqProofs [hlt, hlt', he, Entry.row, emptyE]
        · simp -implicitDefEqProofs [hlt, hlt', he, hwr]
          refine Again.of (i + 1) ⟨by omega, fun j h hj => ?_⟩ (by omega) (by simp)
          by_cases hji : j = i
          · subst hji; exact he
          · exact hp j (by omega) hj
      · have hm := memL_upto hp hlt
        have hlt' : ((i : Int) < (w.length : Int)) = False := eq_false (by omega)
        rw [hXy hm] at hX
        subst hX
        clear hXn hXy hp hi
        have hlt2 : ((i : Int) < 8) = False := eq_false (by omega)
        simp -implicitDefEqProofs [hlt', hlt2, hlen, hk0, hk1, hk2, hk3, hk4, hk5, hk6, hk7, Entry.row, emptyE]
        refine ACallK.of (ref8_numbered a1) ?_
        simp -implicitDefEqProofs [hlen, hk0, hk1, hk2, hk3, hk4, hk5, hk6, hk7]
        refine ACallK.of (ref8_numbered a6) ?_
        simp -implicitDefEqProofs [hlen, hk0, hk1, hk2, hk3, hk4, hk5, hk6, hk7]
        refine ACallK.of (ref8_numbered a7) ?_
        by_cases h2 : a2 = [45]
        · by_cases h3 : a3 = [45]
          · simp -implicitDefEqProofs [hlen, hk0, hk1, hk2, hk3, hk4, hk5, hk6, hk7, h2, h3]
            refine AltR.r ⟨[], by kernel_rfl, ?_⟩
            simp -implicitDefEqProofs [hlen, hk0, hk1, hk2, hk3, hk4, hk5, hk6, hk7, h2, h3, Bool.and_assoc, Entry.row]
          · simp -implicitDefEqProofs [hlen, hk0, hk1, hk2, hk3, hk4, hk5, hk6, hk7, h2, h3]
            refine AltR.r ⟨[], by kernel_rfl, ?_⟩
            simp -implicitDefEqProofs [hlen, hk0, hk1, hk2, hk3, hk4, hk5, hk6, hk7, h2, h3, Bool.and_assoc, Entry.row]
        · by_cases h3 : a3 = [45]
          · simp -implicitDefEqProofs [hlen, hk0, hk1, hk2, hk3, hk4, hk5, hk6, hk7, h2, h3]
            refine ACallK.of (ref8_numbered a2) ?_
            simp -implicitDefEqProofs [hlen, hk0, hk1, hk2, hk3, hk4, hk5, hk6, hk7, h2, h3]
            refine AltR.r ⟨[], by kernel_rfl, ?_⟩
            simp -implicitDefEqProofs [hlen, hk0, hk1, hk2, hk3, hk4, hk5, hk6, hk7, h2, h3, Bool.and_assoc, Entry.row]
            try rfl
          · simp -implicitDefEqProofs [hlen, hk0, hk1, hk2, hk3, hk4, hk5, hk6, hk7, h2, h3]
            refine ACallK.of (ref8_numbered a2) ?_
            simp -implicitDefEqProofs [hlen, hk0, hk1, hk2, hk3, hk4, hk5, hk6, hk7, h2, h3]
            refine AltR.r ⟨[], by kernel_rfl, ?_⟩
            simp -implicitDefEqProofs [hlen, hk0, hk1, hk2, hk3, hk4, hk5, hk6, hk7, h2, h3, Bool.and_assoc, Entry.row]
            try rfl
    · have h8b : ((w.length : Int) != 8) = true := by simp; omega
      rw [wXno h8 h9] at hX
      subst hX
      rcases hq with hq | ⟨z, hq⟩
      · simp -implicitDefEqProofs [h9b, h8b, h9, h8, hq, Entry.row, emptyE]
      · simp -implicitDefEqProofs [h9b, h8b, h9, h8, hq, Entry.row, emptyE]
end Go.Proofs.YtejhjdpafdpjlaaGreatDoor
