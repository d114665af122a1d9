/- A part of the proof: lemmas and contracts of functions. -/
import Derived.Test.YtejhjdpafdpjlaaDoorIxR
import Derived.Test.YtejhjdpafdpjlaaDoorIxPT
namespace Go.Proofs.YtejhjdpafdpjlaaDoor
open Go Go.Ab
set_option linter.unusedSectionVars false
variable [Amb]
set_option maxRecDepth 100000

def partKT : KT := .st [.s, .i .i64, .st [.i .i64, .i .i64], .i .i64]
def partsKT : KT := .sl 5 partKT
theorem partHas : partKT.has Tryd.prog 33 :=
  ⟨_, Tryd.underlying33, by kernel_rfl, rfl, by kernel_rfl, Tryd.underlying9, rfl, by kernel_rfl, Tryd.underlying3, rfl, by kernel_rfl, spanHas, rfl, by kernel_rfl, Tryd.underlying3, trivial⟩
theorem partsHas : partsKT.has Tryd.prog 23 := ⟨33, Tryd.underlying23, by kernel_rfl, rfl, by decide, partHas⟩
theorem partFits {cs : List CV} (h : partKT.fits cs) : ∃ e : Part, cs = e.row := by
  simp only [partKT, KT.fits, KT.fits.fitsAll] at h
  obtain ⟨_, _, rfl, ⟨e0, rfl, _⟩, _, _, rfl, ⟨e1, rfl, _⟩, _, _, rfl, ⟨_, _, rfl, ⟨e2, rfl, _⟩, _, _, rfl, ⟨e3, rfl, _⟩, rfl⟩, _, _, rfl, ⟨e4, rfl, _⟩, rfl⟩ := h
  exact ⟨⟨e0, e1, e2, e3, e4⟩, rfl⟩
theorem partsFit {xs : List (List CV)} (h : ∀ x ∈ xs, partKT.fits x) : ∃ l : List Part, xs = l.map Part.row := by
  induction xs with
  | nil => exact ⟨[], rfl⟩
  | cons x r ih =>
    obtain ⟨l, rfl⟩ := ih (fun y hy => h y (by simp [hy]))
    obtain ⟨f, rfl⟩ := partFits (h x (by simp))
    exact ⟨f :: l, rfl⟩
theorem partsFits {x : XV} (h : partsKT.fitsX x) : ∃ l : List Part, x = partsV l := by
  cases x with
  | agg cs => exact h.elim
  | one c =>
    obtain ⟨xs, hx, hr⟩ := h
    injection hx with hx
    obtain ⟨l, rfl⟩ := partsFit hr
    exact ⟨l, by rw [hx]⟩
end Go.Proofs.YtejhjdpafdpjlaaDoor
