/- IndexChangedStays: its row and its card. -/
import Derived.Test.YtdciogjhkckigaaDoorIxU
import Derived.Test.YtdciogjhkckigaaDoorIxR
import Derived.Test.YtdciogjhkckigaaDoorCards
import Derived.Test.YtdciogjhkckigaaDoorTie
import Derived.LaidMore
import Derived.Lay
import Derived.SevenTiedAt
import Derived.JoinedOf
namespace Go.Proofs.YtdciogjhkckigaaDoor
open Go Go.Ab Go.ChangeShapes Go.WideShapes Go.ChangeAt Go.RowKit
set_option maxRecDepth 100000
theorem indexChangedStays_plain : ∀ xs, fitsXs [entriesK] xs → ACalls Tryd.prog 4 xs (.x (.one (.bool true))) := by
  intro xs h
  match xs, h with
  | [x0], ⟨h0, _⟩ =>
    obtain ⟨a0, rfl⟩ := entriesFits h0
    exact lawChanged a0
theorem indexChangedStays_lifted (os : Os) (started : os.Started) (H : Type) (enc : TypeId × Value → H) :
    ReturnsInHanded {} Tryd.checked os 4 .any (fun w args => (Rows.indexChangedStaysSpec.pre enc Tryd.prog Tryd.f4 Rows.indexChangedStaysRow.domain false w args ∧ laidMetH Tryd.prog Rows.indexChangedStaysRow.laid w) ∧ sizedMet enc Tryd.prog Tryd.f4 (OpenSpec.ofChange Rows.indexChangedStaysSpec) false w args)
      (Rows.indexChangedStaysSpec.post enc Tryd.prog Tryd.f4 false true false false) := by
  refine returnsInHanded_of_change_and (C := Tryd.checked) (X := fun w _ => laidMetH Tryd.prog Rows.indexChangedStaysRow.laid w) (fun _ _ _ hh h => h.of_heap hh) own started (by kernel_rfl) Tryd.func4
    (ChangeSpec.witness_shaped (enc := enc) (C := Tryd.checked) (os := os) (X := fun w _ => laidMetH Tryd.prog Rows.indexChangedStaysRow.laid w) false (World.laidAll Tryd.prog os Rows.indexChangedStaysRow.laid) #[.slice none 0 0] 8 (World.laidAll_os _ _ _)
      (World.shaped_of_ZipB (by kernel_rfl) (by kernel_rfl)) (by kernel_rfl) (by kernel_rfl) (by kernel_rfl)
      (by rw [MakeChecks.laidMetH_plain _ _ _ (by kernel_rfl)]; exact laidMet_laidAll _ (by kernel_rfl) (by kernel_rfl))) ?_
  intro W base args ds gs before hval hW _ _ _ _
  refine law_contract (tb := 4) [entriesK] ?_ indexChangedStays_plain laidOut ?_ Tryd.underlying4 (by kernel_rfl) rfl ?_ ⟨base, hval⟩ hW
  · rw [Tryd.params4]
    exact ⟨entriesHas, trivial⟩
  · rw [Tryd.params4]
    intro t ht
    have hall : ([22].all fun t => Tryd.prog.readableRec t && decide (t < Tryd.prog.types.size)) = true := by kernel_rfl
    have := List.all_eq_true.1 hall t (by simpa using ht)
    simp only [Bool.and_eq_true, decide_eq_true_eq] at this
    exact this
  · intro ds hd
    match ds, hd with
    | [_], _ => rfl

theorem indexChangedStays_said : Rows.IndexChangedStaysSaid :=
  OpenClaim.holds_of_wide 4 Tryd.f4 rfl rfl rfl rfl rfl rfl rfl ⟨rfl, rfl, rfl, rfl, rfl⟩ rfl rfl rfl rfl rfl (by kernel_rfl) Tryd.func4 (by kernel_rfl)
    (of_decide_eq_true (by kernel_rfl)) (by unfold Func.isWrapper; first | (rw [if_pos (by decide +kernel)]; kernel_rfl) | (rw [if_neg (by decide +kernel)]; exact ⟨rfl, rfl⟩))
    (fun os started H enc _ => indexChangedStays_lifted os started H enc)

theorem indexChangedStays_holds : Rows.IndexChangedStaysCardSaid :=
  Claim7.holds_tied_plain_at .later [] [.data, .pinned] true _ false indexChangedStays_said (fun _ h => by cases h) (by kernel_rfl) (fun _ h => by cases h) indexChangedStays_row_tie rfl ⟨rfl, rfl⟩ (by kernel_rfl) rfl
    (fun f fn hf hfn => by
      obtain rfl : f = 4 := Option.some.inj ((show Tryd.prog.funcNamed Rows.indexChangedStaysRow.func = some 4 by kernel_rfl).symm.trans hf) |>.symm
      obtain rfl : fn = Tryd.f4 := (Option.some.inj (Tryd.func4.symm.trans hfn)).symm
      exact ⟨by kernel_rfl, fun j t ht => by
        rw [Tryd.params4] at ht
        have hm : t ∈ [22] := by simpa using Array.mem_of_getElem? ht
        have hall : ([22].all fun u => !Tryd.prog.wantsStandIn u) = true := by kernel_rfl
        exact (show Tryd.prog.wantsStandIn t = false by simpa using List.all_eq_true.1 hall t hm)⟩)
    (by kernel_rfl)
#print axioms indexChangedStays_holds
end Go.Proofs.YtdciogjhkckigaaDoor
