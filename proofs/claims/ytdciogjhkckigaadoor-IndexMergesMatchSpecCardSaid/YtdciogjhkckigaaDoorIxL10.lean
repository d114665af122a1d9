/- Merge is as specified, with all errors. -/
import Derived.Test.YtdciogjhkckigaaDoorIxR2
import Derived.Test.YtdciogjhkckigaaDoorIxR
import Derived.Test.YtdciogjhkckigaaDoorCards
import Derived.Test.YtdciogjhkckigaaDoorTie
import Derived.LaidMore
import Derived.Lay
import Derived.SevenTiedAt
import Derived.JoinedOf
namespace Go.Proofs.YtdciogjhkckigaaDoor
open Go Go.Ab Go.ChangeShapes Go.WideShapes Go.ChangeAt Go.RowKit
set_option maxRecDepth 100000
local instance : Amb := Amb.none
theorem indexMergesMatchSpec_plain : ∀ xs, fitsXs [listsK] xs → ACalls Tryd.prog 11 xs (.x (.one (.bool true))) := by
  intro xs h
  match xs, h with
  | [x0], ⟨h0, _⟩ =>
    obtain ⟨a0, rfl⟩ := listsFits h0
    exact lawMerges a0
theorem indexMergesMatchSpec_lifted (os : Os) (started : os.Started) (H : Type) (enc : TypeId × Value → H) :
    ReturnsInHanded {} Tryd.checked os 11 .any (fun w args => (Rows.indexMergesMatchSpecSpec.pre enc Tryd.prog Tryd.f11 Rows.indexMergesMatchSpecRow.domain false w args ∧ laidMetH Tryd.prog Rows.indexMergesMatchSpecRow.laid w) ∧ sizedMet enc Tryd.prog Tryd.f11 (OpenSpec.ofChange Rows.indexMergesMatchSpecSpec) false w args)
      (Rows.indexMergesMatchSpecSpec.post enc Tryd.prog Tryd.f11 false true false false) := by
  refine returnsInHanded_of_change_and (C := Tryd.checked) (X := fun w _ => laidMetH Tryd.prog Rows.indexMergesMatchSpecRow.laid w) (fun _ _ _ hh h => h.of_heap hh) own started (by kernel_rfl) Tryd.func11
    (ChangeSpec.witness_shaped (enc := enc) (C := Tryd.checked) (os := os) (X := fun w _ => laidMetH Tryd.prog Rows.indexMergesMatchSpecRow.laid w) false (World.laidAll Tryd.prog os Rows.indexMergesMatchSpecRow.laid) #[.slice none 0 0] 8 (World.laidAll_os _ _ _)
      (World.shaped_of_ZipB (by kernel_rfl) (by kernel_rfl)) (by kernel_rfl) (by kernel_rfl) (by kernel_rfl)
      (by rw [MakeChecks.laidMetH_plain _ _ _ (by kernel_rfl)]; exact laidMet_laidAll _ (by kernel_rfl) (by kernel_rfl))) ?_
  intro W base args ds gs before hval hW q1 q2 q3 q4
  refine law_contract (tb := 4) [listsK] ?_ indexMergesMatchSpec_plain laidOut ?_ Tryd.underlying4 (by kernel_rfl) rfl ?_ ⟨base, hval⟩ hW trivial
  · rw [Tryd.params11]
    exact ⟨listsHas, trivial⟩
  · rw [Tryd.params11]
    intro t ht
    have hall : ([57].all fun t => Tryd.prog.readableRec t && decide (t < Tryd.prog.types.size)) = true := by kernel_rfl
    have := List.all_eq_true.1 hall t (by simpa using ht)
    simp only [Bool.and_eq_true, decide_eq_true_eq] at this
    exact this
  · intro ds hd
    match ds, hd with
    | [_], _ => rfl

theorem indexMergesMatchSpec_said : Rows.IndexMergesMatchSpecSaid :=
  OpenClaim.holds_of_wide 11 Tryd.f11 rfl rfl rfl rfl rfl rfl rfl ⟨rfl, rfl, rfl, rfl, rfl⟩ rfl rfl rfl rfl rfl (by kernel_rfl) Tryd.func11 (by kernel_rfl)
    (of_decide_eq_true (by kernel_rfl)) (by unfold Func.isWrapper; first | (rw [if_pos (by decide +kernel)]; kernel_rfl) | (rw [if_neg (by decide +kernel)]; exact ⟨rfl, rfl⟩))
    (fun os started H enc _ => indexMergesMatchSpec_lifted os started H enc)

theorem indexMergesMatchSpec_holds : Rows.IndexMergesMatchSpecCardSaid :=
  Claim7.holds_tied_plain_at .later [] [.data, .pinned] true _ false indexMergesMatchSpec_said (fun _ h => by cases h) (by kernel_rfl) (fun _ h => by cases h) indexMergesMatchSpec_row_tie rfl ⟨rfl, rfl⟩ (by kernel_rfl) rfl
    (fun f fn hf hfn => by
      obtain rfl : f = 11 := Option.some.inj ((show Tryd.prog.funcNamed Rows.indexMergesMatchSpecRow.func = some 11 by kernel_rfl).symm.trans hf) |>.symm
      obtain rfl : fn = Tryd.f11 := (Option.some.inj (Tryd.func11.symm.trans hfn)).symm
      exact ⟨by kernel_rfl, fun j t ht => by
        rw [Tryd.params11] at ht
        have hm : t ∈ [57] := by simpa using Array.mem_of_getElem? ht
        have hall : ([57].all fun u => !Tryd.prog.wantsStandIn u) = true := by kernel_rfl
        exact (show Tryd.prog.wantsStandIn t = false by simpa using List.all_eq_true.1 hall t hm)⟩)
    (by kernel_rfl)
#print axioms indexMergesMatchSpec_holds
end Go.Proofs.YtdciogjhkckigaaDoor
