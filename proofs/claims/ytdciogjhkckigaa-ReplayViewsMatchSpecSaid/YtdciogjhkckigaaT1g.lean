/- A part of the proof: lemmas and contracts of functions. -/
import Derived.Test.YtdciogjhkckigaaT1f
import Derived.Test.YtdciogjhkckigaaAbRead
namespace Go.Proofs.Ytdciogjhkckigaa
open Go Go.Ab
set_option maxRecDepth 100000

def fragK : KT := .st [.s, .i .i64, .i .i64, .i .i64, .i .i64]
def entryK : KT := .st [.s, .i .i64, .i .i64, .s, .s, .s, .st [.i .i64, .i .i64], .b]
def viewK : KT := .st [.b, .sl 1 .s, entryK, .sl 1 (.i .u8), .sl 5 fragK, .i .i64]
theorem fragHas : fragK.has Try.prog 42 :=
  ⟨_, Try.underlying42, by kernel_rfl, rfl, by kernel_rfl, Try.underlying9, rfl, by kernel_rfl, Try.underlying3, rfl, by kernel_rfl, Try.underlying3, rfl, by kernel_rfl, Try.underlying3, rfl, by kernel_rfl, Try.underlying3, trivial⟩
theorem pairHas : KT.has Try.prog (.st [.i .i64, .i .i64]) 24 :=
  ⟨_, Try.underlying24, by kernel_rfl, rfl, by kernel_rfl, Try.underlying3, rfl, by kernel_rfl, Try.underlying3, trivial⟩
theorem entryHas : entryK.has Try.prog 26 :=
  ⟨_, Try.underlying26, by kernel_rfl, rfl, by kernel_rfl, Try.underlying9, rfl, by kernel_rfl, Try.underlying3, rfl, by kernel_rfl, Try.underlying3, rfl, by kernel_rfl, Try.underlying9, rfl, by kernel_rfl, Try.underlying9, rfl, by kernel_rfl, Try.underlying9,
    rfl, by kernel_rfl, pairHas, rfl, by kernel_rfl, Try.underlying4, trivial⟩
theorem viewHas : viewK.has Try.prog 30 :=
  ⟨_, Try.underlying30, by kernel_rfl, rfl, by kernel_rfl, Try.underlying4, rfl, by kernel_rfl, ⟨9, Try.underlying22, by kernel_rfl, rfl, by decide, Try.underlying9⟩, rfl, by kernel_rfl, entryHas, rfl, by kernel_rfl, ⟨5, Try.underlying27, by kernel_rfl, rfl, by decide, Try.underlying5⟩,
    rfl, by kernel_rfl, ⟨42, Try.underlying28, by kernel_rfl, rfl, by decide, fragHas⟩, rfl, by kernel_rfl, Try.underlying3, trivial⟩
theorem fragFits {cs : List CV} (h : fragK.fits cs) : ∃ f : Frag, cs = f.row := by
  simp only [fragK, KT.fits, KT.fits.fitsAll] at h
  obtain ⟨_, _, rfl, ⟨l, rfl, _⟩, _, _, rfl, ⟨a, rfl, _⟩, _, _, rfl, ⟨b, rfl, _⟩, _, _, rfl, ⟨c, rfl, _⟩, _, _, rfl, ⟨d, rfl, _⟩, rfl⟩ := h
  exact ⟨⟨l, a, b, c, d⟩, rfl⟩
theorem rows_of {xs : List (List CV)} (h : ∀ x ∈ xs, fragK.fits x) : ∃ l : List Frag, xs = l.map Frag.row := by
  induction xs with
  | nil => exact ⟨[], rfl⟩
  | cons x r ih =>
    obtain ⟨l, rfl⟩ := ih (fun y hy => h y (by simp [hy]))
    obtain ⟨f, rfl⟩ := fragFits (h x (by simp))
    exact ⟨f :: l, rfl⟩
theorem viewFits {cs : List CV} (h : viewK.fits cs) : ∃ (v : Hull) (l : List Frag), cs = v.cells (partsC l) := by
  simp only [viewK, entryK, KT.fits, KT.fits.fitsAll] at h
  obtain ⟨_, _, rfl, ⟨c0, rfl⟩, _, _, rfl, ⟨c1, rfl, _⟩, _, _, rfl, ⟨_, _, rfl, ⟨e0, rfl, _⟩, _, _, rfl, ⟨e1, rfl, _⟩, _, _, rfl, ⟨e2, rfl, _⟩, _, _, rfl, ⟨e3, rfl, _⟩, _, _, rfl, ⟨e4, rfl, _⟩, _, _, rfl, ⟨e5, rfl, _⟩,
    _, _, rfl, ⟨_, _, rfl, ⟨e6, rfl, _⟩, _, _, rfl, ⟨e7, rfl, _⟩, rfl⟩, _, _, rfl, ⟨e8, rfl⟩, rfl⟩, _, _, rfl, ⟨c11, rfl, _⟩, _, _, rfl, ⟨xs, rfl, hxs⟩, _, _, rfl, ⟨c13, rfl, _⟩, rfl⟩ := h
  obtain ⟨l, rfl⟩ := rows_of hxs
  exact ⟨⟨_, _, _, _, _, _, _, _, _, _, _, _, _⟩, l, rfl⟩
end Go.Proofs.Ytdciogjhkckigaa
