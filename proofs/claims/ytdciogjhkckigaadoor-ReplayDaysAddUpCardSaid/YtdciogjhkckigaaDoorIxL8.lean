/- All days of a key together have as many entries as there are with this key, for all arguments. -/
import Derived.Test.YtdciogjhkckigaaDoorIxY
import Derived.Test.YtdciogjhkckigaaDoorIxR
import Derived.Test.YtdciogjhkckigaaDoorCards
import Derived.Test.YtdciogjhkckigaaDoorTie
import Derived.LaidMore
import Derived.Lay
import Derived.SevenTiedAt
import Derived.JoinedOf
namespace Go.Proofs.YtdciogjhkckigaaDoor
open Go Go.Ab Go.ChangeShapes Go.WideShapes Go.ChangeAt Go.RowKit
set_option maxRecDepth 100000
theorem replayDaysAddUp_plain : ∀ xs, fitsXs [entriesK, .s] xs → ACalls Tryd.prog 9 xs (.x (.one (.bool true))) := by
  intro xs h
  match xs, h with
  | [x0, x1], ⟨h0, h1, _⟩ =>
    obtain ⟨a0, rfl⟩ := entriesFits h0
    obtain ⟨a1, rfl⟩ := strFits h1
    exact lawDaysAdd a0 a1
theorem replayDaysAddUp_lifted (os : Os) (started : os.Started) (H : Type) (enc : TypeId × Value → H) :
    ReturnsInHanded {} Tryd.checked os 9 .any (fun w args => (Rows.replayDaysAddUpSpec.pre enc Tryd.prog Tryd.f9 Rows.replayDaysAddUpRow.domain false w args ∧ laidMetH Tryd.prog Rows.replayDaysAddUpRow.laid w) ∧ sizedMet enc Tryd.prog Tryd.f9 (OpenSpec.ofChange Rows.replayDaysAddUpSpec) false w args)
      (Rows.replayDaysAddUpSpec.post enc Tryd.prog Tryd.f9 false true false false) := by
  refine returnsInHanded_of_change_and (C := Tryd.checked) (X := fun w _ => laidMetH Tryd.prog Rows.replayDaysAddUpRow.laid w) (fun _ _ _ hh h => h.of_heap hh) own started (by kernel_rfl) Tryd.func9
    (ChangeSpec.witness_shaped (enc := enc) (C := Tryd.checked) (os := os) (X := fun w _ => laidMetH Tryd.prog Rows.replayDaysAddUpRow.laid w) false (World.laidAll Tryd.prog os Rows.replayDaysAddUpRow.laid) #[.slice none 0 0, .string ⟨#[]⟩] 8 (World.laidAll_os _ _ _)
      (World.shaped_of_ZipB (by kernel_rfl) (by kernel_rfl)) (by kernel_rfl) (by kernel_rfl) (by kernel_rfl)
      (by rw [MakeChecks.laidMetH_plain _ _ _ (by kernel_rfl)]; exact laidMet_laidAll _ (by kernel_rfl) (by kernel_rfl))) ?_
  intro W base args ds gs before hval hW _ _ _ _
  refine law_contract (tb := 4) [entriesK, .s] ?_ replayDaysAddUp_plain laidOut ?_ Tryd.underlying4 (by kernel_rfl) rfl ?_ ⟨base, hval⟩ hW
  · rw [Tryd.params9]
    exact ⟨entriesHas, Tryd.underlying9, trivial⟩
  · rw [Tryd.params9]
    intro t ht
    have hall : ([22, 9].all fun t => Tryd.prog.readableRec t && decide (t < Tryd.prog.types.size)) = true := by kernel_rfl
    have := List.all_eq_true.1 hall t (by simpa using ht)
    simp only [Bool.and_eq_true, decide_eq_true_eq] at this
    exact this
  · intro ds hd
    match ds, hd with
    | [_, _], _ => rfl

theorem replayDaysAddUp_said : Rows.ReplayDaysAddUpSaid :=
  OpenClaim.holds_of_wide 9 Tryd.f9 rfl rfl rfl rfl rfl rfl rfl ⟨rfl, rfl, rfl, rfl, rfl⟩ rfl rfl rfl rfl rfl (by kernel_rfl) Tryd.func9 (by kernel_rfl)
    (of_decide_eq_true (by kernel_rfl)) (by unfold Func.isWrapper; first | (rw [if_pos (by decide +kernel)]; kernel_rfl) | (rw [if_neg (by decide +kernel)]; exact ⟨rfl, rfl⟩))
    (fun os started H enc _ => replayDaysAddUp_lifted os started H enc)

theorem replayDaysAddUp_holds : Rows.ReplayDaysAddUpCardSaid :=
  Claim7.holds_tied_plain_at .later [] [.data, .pinned] true _ false replayDaysAddUp_said (fun _ h => by cases h) (by kernel_rfl) (fun _ h => by cases h) replayDaysAddUp_row_tie rfl ⟨rfl, rfl⟩ (by kernel_rfl) rfl
    (fun f fn hf hfn => by
      obtain rfl : f = 9 := Option.some.inj ((show Tryd.prog.funcNamed Rows.replayDaysAddUpRow.func = some 9 by kernel_rfl).symm.trans hf) |>.symm
      obtain rfl : fn = Tryd.f9 := (Option.some.inj (Tryd.func9.symm.trans hfn)).symm
      exact ⟨by kernel_rfl, fun j t ht => by
        rw [Tryd.params9] at ht
        have hm : t ∈ [22, 9] := by simpa using Array.mem_of_getElem? ht
        have hall : ([22, 9].all fun u => !Tryd.prog.wantsStandIn u) = true := by kernel_rfl
        exact (show Tryd.prog.wantsStandIn t = false by simpa using List.all_eq_true.1 hall t hm)⟩)
    (by kernel_rfl)
#print axioms replayDaysAddUp_holds
end Go.Proofs.YtdciogjhkckigaaDoor
