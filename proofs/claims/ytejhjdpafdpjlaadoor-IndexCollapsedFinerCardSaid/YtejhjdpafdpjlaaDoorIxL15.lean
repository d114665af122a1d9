/- What is collapsed stays when it is collapsed again; with all fourteen digits at least as many entries are left, and one for each second of a key. -/
import Derived.Test.YtejhjdpafdpjlaaDoorIxCs
import Derived.Test.YtejhjdpafdpjlaaDoorIxR
import Derived.Test.YtejhjdpafdpjlaaDoorCards
import Derived.Test.YtejhjdpafdpjlaaDoorTie
import Derived.LaidMore
import Derived.Lay
import Derived.SevenTiedAt
import Derived.JoinedOf
namespace Go.Proofs.YtejhjdpafdpjlaaDoor
open Go Go.Ab Go.ChangeShapes Go.WideShapes Go.ChangeAt Go.RowKit
set_option maxRecDepth 100000
local instance : Amb := ambT Tryd.prog
local instance : HasPow10 Tryd.prog := ambT_pow Tryd.prog
theorem indexCollapsedFiner_plain : ∀ xs, fitsXs [entriesK, (.i .i64)] xs → ACalls Tryd.prog 4 xs (.x (.one (.bool true))) := by
  intro xs h
  match xs, h with
  | [x0, x1], ⟨h0, h1, _⟩ =>
    obtain ⟨a0, rfl⟩ := entriesFits h0
    obtain ⟨a1, rfl⟩ := intFits h1
    exact lawFiner a0 a1
theorem indexCollapsedFiner_lifted (os : Os) (started : os.Started) (H : Type) (enc : TypeId × Value → H) :
    ReturnsInHanded {} Tryd.checked os 4 .any (fun w args => (Rows.indexCollapsedFinerSpec.pre enc Tryd.prog Tryd.f4 Rows.indexCollapsedFinerRow.domain false w args ∧ laidMetH Tryd.prog Rows.indexCollapsedFinerRow.laid w) ∧ sizedMet enc Tryd.prog Tryd.f4 (OpenSpec.ofChange Rows.indexCollapsedFinerSpec) false w args)
      (Rows.indexCollapsedFinerSpec.post enc Tryd.prog Tryd.f4 false true false false) := by
  refine returnsInHanded_of_change_and (C := Tryd.checked) (X := fun w _ => laidMetH Tryd.prog Rows.indexCollapsedFinerRow.laid w) (fun _ _ _ hh h => h.of_heap hh) own started (by kernel_rfl) Tryd.func4
    (ChangeSpec.witness_shaped (enc := enc) (C := Tryd.checked) (os := os) (X := fun w _ => laidMetH Tryd.prog Rows.indexCollapsedFinerRow.laid w) false (World.laidAll Tryd.prog os Rows.indexCollapsedFinerRow.laid) #[.slice none 0 0, .int .i64 0] 8 (World.laidAll_os _ _ _)
      (World.shaped_of_ZipB (by kernel_rfl) (by kernel_rfl)) (by kernel_rfl) (by kernel_rfl) (by kernel_rfl)
      (by rw [MakeChecks.laidMetH_plain _ _ _ (by kernel_rfl)]; exact laidMet_laidAll _ (by kernel_rfl) (by kernel_rfl))) ?_
  intro W base args ds gs before hval hW q1 q2 q3 q4
  refine law_contract (tb := 4) [entriesK, (.i .i64)] ?_ indexCollapsedFiner_plain laidOut ?_ Tryd.underlying4 (by kernel_rfl) rfl ?_ ⟨base, hval⟩ hW (ambT_laid 2 q3 (by kernel_rfl) (by kernel_rfl))
  · rw [Tryd.params4]
    exact ⟨entriesHas, Tryd.underlying3, trivial⟩
  · rw [Tryd.params4]
    intro t ht
    have hall : ([22, 3].all fun t => Tryd.prog.readableRec t && decide (t < Tryd.prog.types.size)) = true := by kernel_rfl
    have := List.all_eq_true.1 hall t (by simpa using ht)
    simp only [Bool.and_eq_true, decide_eq_true_eq] at this
    exact this
  · intro ds hd
    match ds, hd with
    | [_, _], _ => rfl

theorem indexCollapsedFiner_said : Rows.IndexCollapsedFinerSaid :=
  OpenClaim.holds_of_wide 4 Tryd.f4 rfl rfl rfl rfl rfl rfl rfl ⟨rfl, rfl, rfl, rfl, rfl⟩ rfl rfl rfl rfl rfl (by kernel_rfl) Tryd.func4 (by kernel_rfl)
    (of_decide_eq_true (by kernel_rfl)) (by unfold Func.isWrapper; first | (rw [if_pos (by decide +kernel)]; kernel_rfl) | (rw [if_neg (by decide +kernel)]; exact ⟨rfl, rfl⟩))
    (fun os started H enc _ => indexCollapsedFiner_lifted os started H enc)

theorem indexCollapsedFiner_holds : Rows.IndexCollapsedFinerCardSaid :=
  Claim7.holds_tied_plain_at .later [] [.data, .data, .data, .data, .pinned] true _ false indexCollapsedFiner_said (fun _ h => by cases h) (by kernel_rfl) (fun _ h => by cases h) indexCollapsedFiner_row_tie rfl ⟨rfl, rfl⟩ (by kernel_rfl) rfl
    (fun f fn hf hfn => by
      obtain rfl : f = 4 := Option.some.inj ((show Tryd.prog.funcNamed Rows.indexCollapsedFinerRow.func = some 4 by kernel_rfl).symm.trans hf) |>.symm
      obtain rfl : fn = Tryd.f4 := (Option.some.inj (Tryd.func4.symm.trans hfn)).symm
      exact ⟨by kernel_rfl, fun j t ht => by
        rw [Tryd.params4] at ht
        have hm : t ∈ [22, 3] := by simpa using Array.mem_of_getElem? ht
        have hall : ([22, 3].all fun u => !Tryd.prog.wantsStandIn u) = true := by kernel_rfl
        exact (show Tryd.prog.wantsStandIn t = false by simpa using List.all_eq_true.1 hall t hm)⟩)
    (by kernel_rfl)
#print axioms indexCollapsedFiner_holds
end Go.Proofs.YtejhjdpafdpjlaaDoor
