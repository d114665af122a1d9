/- A part of the proof: lemmas and contracts of functions. -/
import Derived.Test.YtejhjdpafdpjlaaGreatDoorIxJ
import Derived.Test.YtejhjdpafdpjlaaGreatDoorAbJ5
import Derived.MakeChecks
import Derived.KernelRfl
import Derived.Test.YtejhjdpafdpjlaaGreatDoorRows
namespace Go.Proofs.YtejhjdpafdpjlaaGreatDoor
open Go Go.Ab
set_option linter.unusedSectionVars false
variable [Amb]
set_option maxRecDepth 100000
theorem own : ownKnob Tryz.prog.godebug = none := by kernel_rfl
theorem laidOut : laidOutB Tryz.prog = true := by kernel_rfl

def entryK : KT := .st [.s, .i .i64, .i .i64, .s, .s, .s, .st [.i .i64, .i .i64], .b]
def entriesK : KT := .sl 9 entryK
theorem spanHas : KT.has Tryz.prog (.st [.i .i64, .i .i64]) 28 :=
  ⟨_, Tryz.underlying28, by kernel_rfl, rfl, by kernel_rfl, Tryz.underlying3, rfl, by kernel_rfl, Tryz.underlying3, trivial⟩
theorem entryHas : entryK.has Tryz.prog 30 :=
  ⟨_, Tryz.underlying30, by kernel_rfl, rfl, by kernel_rfl, Tryz.underlying9, rfl, by kernel_rfl, Tryz.underlying3, rfl, by kernel_rfl, Tryz.underlying3, rfl, by kernel_rfl, Tryz.underlying9, rfl, by kernel_rfl, Tryz.underlying9, rfl, by kernel_rfl, Tryz.underlying9,
    rfl, by kernel_rfl, spanHas, rfl, by kernel_rfl, Tryz.underlying4, trivial⟩
theorem entriesHas : entriesK.has Tryz.prog 22 := ⟨30, Tryz.underlying22, by kernel_rfl, rfl, by decide, entryHas⟩
theorem entryFits {cs : List CV} (h : entryK.fits cs) : ∃ e : Entry, cs = e.row := by
  simp only [entryK, KT.fits, KT.fits.fitsAll] at h
  obtain ⟨_, _, rfl, ⟨e0, rfl, _⟩, _, _, rfl, ⟨e1, rfl, _⟩, _, _, rfl, ⟨e2, rfl, _⟩, _, _, rfl, ⟨e3, rfl, _⟩, _, _, rfl, ⟨e4, rfl, _⟩, _, _, rfl, ⟨e5, rfl, _⟩,
    _, _, rfl, ⟨_, _, rfl, ⟨e6, rfl, _⟩, _, _, rfl, ⟨e7, rfl, _⟩, rfl⟩, _, _, rfl, ⟨e8, rfl⟩, rfl⟩ := h
  exact ⟨⟨e0, e1, e2, e3, e4, e5, e6, e7, e8⟩, rfl⟩
theorem rowsFit {xs : List (List CV)} (h : ∀ x ∈ xs, entryK.fits x) : ∃ l : List Entry, xs = l.map Entry.row := by
  induction xs with
  | nil => exact ⟨[], rfl⟩
  | cons x r ih =>
    obtain ⟨l, rfl⟩ := ih (fun y hy => h y (by simp [hy]))
    obtain ⟨f, rfl⟩ := entryFits (h x (by simp))
    exact ⟨f :: l, rfl⟩
theorem entriesFits {x : XV} (h : entriesK.fitsX x) : ∃ l : List Entry, x = entries l := by
  cases x with
  | agg cs => exact h.elim
  | one c =>
    obtain ⟨xs, hx, hr⟩ := h
    injection hx with hx
    obtain ⟨l, rfl⟩ := rowsFit hr
    exact ⟨l, by rw [hx]⟩
theorem strFits {x : XV} (h : KT.fitsX .s x) : ∃ l, x = .one (.str l) := by
  cases x with
  | agg cs => exact h.elim
  | one c =>
    obtain ⟨l, hx, _⟩ := h
    injection hx with hx
    exact ⟨l, by rw [hx]⟩
theorem intFits {x : XV} (h : KT.fitsX (.i .i64) x) : ∃ n, x = .one (.int .i64 n) := by
  cases x with
  | agg cs => exact h.elim
  | one c =>
    obtain ⟨l, hx, _⟩ := h
    injection hx with hx
    exact ⟨l, by rw [hx]⟩
theorem ambT_laid {W : World} {l : List (String × DataW Unit)} (j : Nat) (h : laidMetH Tryz.prog l W) (hp : (l.all fun x => x.2.handleName?.isNone) = true) (hj : l[j]? = some ("internal/strconv.uint64pow10", Lib.tabData .u64 Lib.pow10Tab)) : (ambT Tryz.prog).holds W := by
  rw [MakeChecks.laidMetH_plain _ _ _ hp] at h
  exact ambT_of (tabIs_at (g := 1) (t := 156) (e := 139) (n := 20) (by kernel_rfl) (by kernel_rfl) Tryz.underlying156 Tryz.underlying139 (by kernel_rfl) (by kernel_rfl) j h hj)
end Go.Proofs.YtejhjdpafdpjlaaGreatDoor
