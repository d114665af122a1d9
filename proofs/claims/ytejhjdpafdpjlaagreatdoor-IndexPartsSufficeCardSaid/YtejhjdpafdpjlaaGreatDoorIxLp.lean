/- A part of the proof: lemmas and contracts of functions. -/
import Derived.Test.YtejhjdpafdpjlaaGreatDoorIxLine
import Derived.Test.YtejhjdpafdpjlaaGreatDoorIxNS
namespace Go.Proofs.YtejhjdpafdpjlaaGreatDoor
open Go Go.Ab
set_option linter.unusedSectionVars false
variable [Amb] [HasPow10 Tryz.prog]

theorem textF_ok {l : List Entry} (h : textF l = 0) : entriesF l = 0 ∧ l.all noDash = true ∧ (textAll l).length ≤ 600000 ∧ textL l = textAll l := by
  have hL : textL l = textAll l := by unfold textL; rw [if_pos h]
  unfold textF at h
  split at h
  · rename_i h1; exact absurd h h1
  · rename_i h1
    unfold linesF at h
    split at h
    · cases h
    · rename_i h2
      split at h
      · cases h
      · exact ⟨by omega, by simpa using h2, by omega, hL⟩
/-- Entries are read as they were written. -/
theorem read_all {l : List Entry} (h1 : entriesF l = 0) (h2 : l.all noDash = true) (h3 : (textAll l).length ≤ 600000) : readR (textAll l) = (l, 0, 0) := by
  unfold readR
  rw [if_neg (by omega), scan_text l 1 (entriesF_sorted h1).2 h2]
  simp [h1]
theorem read_text {l : List Entry} (h : textF l = 0) : readR (textL l) = (l, 0, 0) := by
  obtain ⟨h1, h2, h3, h4⟩ := textF_ok h
  rw [h4]; exact read_all h1 h2 h3
theorem readR_bad {t : List UInt8} (h : (readR t).2.2 ≠ 0) : (readR t).1 = [] := by
  unfold readR at h ⊢
  split
  · rfl
  · rename_i hl
    rw [if_neg hl] at h
    split
    · rfl
    · rename_i l hs
      rw [hs] at h
      simp only at h ⊢
      split
      · rename_i he; rw [if_pos he] at h; exact absurd rfl h
      · rfl
theorem text_read {t : List UInt8} (h : (readR t).2.2 = 0) : textF (readR t).1 = 0 ∧ textL (readR t).1 = t := by
  unfold readR at h ⊢
  split
  · rename_i hl; rw [if_pos hl] at h; cases h
  · rename_i hl
    rw [if_neg hl] at h
    split
    · rename_i k hs; rw [hs] at h; cases h
    · rename_i l hs
      rw [hs] at h
      simp only at h ⊢
      split
      · rename_i he
        obtain ⟨b1, b2⟩ := scan_back _ t 1 l (Nat.le_refl _) hs
        have hF : textF l = 0 := by
          unfold textF linesF
          rw [if_neg (by simp [he]), if_neg (by simp [b2]), if_neg (by rw [b1]; exact hl)]
        refine ⟨hF, ?_⟩
        unfold textL
        rw [if_pos hF]; exact b1
      · rename_i he; rw [if_neg he] at h; exact absurd h he
end Go.Proofs.YtejhjdpafdpjlaaGreatDoor
