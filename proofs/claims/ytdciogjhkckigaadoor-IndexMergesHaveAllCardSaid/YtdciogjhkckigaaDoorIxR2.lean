/- A part of the proof: lemmas and contracts of functions. -/
import Derived.Test.YtdciogjhkckigaaDoorIxR
import Derived.Test.YtdciogjhkckigaaDoorIxZb
namespace Go.Proofs.YtdciogjhkckigaaDoor
open Go Go.Ab
set_option linter.unusedSectionVars false
variable [Amb]
set_option maxRecDepth 100000

def listsK : KT := .sl 1 entriesK
theorem listsHas : listsK.has Tryd.prog 57 := ⟨22, Tryd.underlying57, by kernel_rfl, rfl, by decide, entriesHas⟩
theorem listFits {cs : List CV} (h : entriesK.fits cs) : ∃ l : List Entry, cs = listC l := by
  simp only [entriesK, KT.fits] at h
  obtain ⟨xs, rfl, hr⟩ := h
  obtain ⟨l, rfl⟩ := rowsFit hr
  exact ⟨l, rfl⟩
theorem listsFit {xs : List (List CV)} (h : ∀ x ∈ xs, entriesK.fits x) : ∃ ls : List (List Entry), xs = ls.map listC := by
  induction xs with
  | nil => exact ⟨[], rfl⟩
  | cons x r ih =>
    obtain ⟨l, rfl⟩ := ih (fun y hy => h y (by simp [hy]))
    obtain ⟨f, rfl⟩ := listFits (h x (by simp))
    exact ⟨f :: l, rfl⟩
theorem listsFits {x : XV} (h : listsK.fitsX x) : ∃ ls : List (List Entry), x = listsV ls := by
  cases x with
  | agg cs => exact h.elim
  | one c =>
    obtain ⟨xs, hx, hr⟩ := h
    injection hx with hx
    obtain ⟨l, rfl⟩ := listsFit hr
    exact ⟨l, by rw [hx]⟩
end Go.Proofs.YtdciogjhkckigaaDoor
