/- ReplayDaysMatchSpec: its row and its card. -/
import Derived.Test.YtdciogjhkckigaaDoorIxX
import Derived.Test.YtdciogjhkckigaaDoorIxR
import Derived.Test.YtdciogjhkckigaaDoorCards
import Derived.Test.YtdciogjhkckigaaDoorTie
import Derived.LaidMore
import Derived.Lay
import Derived.SevenTiedAt
import Derived.JoinedOf
namespace Go.Proofs.YtdciogjhkckigaaDoor
open Go Go.Ab Go.ChangeShapes Go.WideShapes Go.ChangeAt Go.RowKit
set_option maxRecDepth 100000
theorem replayDaysMatchSpec_plain : ∀ xs, fitsXs [entriesK, .s, (.i .i64), (.i .i64)] xs → ACalls Tryd.prog 10 xs (.x (.one (.bool true))) := by
  intro xs h
  match xs, h with
  | [x0, x1, x2, x3], ⟨h0, h1, h2, h3, _⟩ =>
    obtain ⟨a0, rfl⟩ := entriesFits h0
    obtain ⟨a1, rfl⟩ := strFits h1
    obtain ⟨a2, rfl⟩ := intFits h2
    obtain ⟨a3, rfl⟩ := intFits h3
    exact lawDays a0 a1 a2 a3
theorem replayDaysMatchSpec_lifted (os : Os) (started : os.Started) (H : Type) (enc : TypeId × Value → H) :
    ReturnsInHanded {} Tryd.checked os 10 .any (fun w args => (Rows.replayDaysMatchSpecSpec.pre enc Tryd.prog Tryd.f10 Rows.replayDaysMatchSpecRow.domain false w args ∧ laidMetH Tryd.prog Rows.replayDaysMatchSpecRow.laid w) ∧ sizedMet enc Tryd.prog Tryd.f10 (OpenSpec.ofChange Rows.replayDaysMatchSpecSpec) false w args)
      (Rows.replayDaysMatchSpecSpec.post enc Tryd.prog Tryd.f10 false true false false) := by
  refine returnsInHanded_of_change_and (C := Tryd.checked) (X := fun w _ => laidMetH Tryd.prog Rows.replayDaysMatchSpecRow.laid w) (fun _ _ _ hh h => h.of_heap hh) own started (by kernel_rfl) Tryd.func10
    (ChangeSpec.witness_shaped (enc := enc) (C := Tryd.checked) (os := os) (X := fun w _ => laidMetH Tryd.prog Rows.replayDaysMatchSpecRow.laid w) false (World.laidAll Tryd.prog os Rows.replayDaysMatchSpecRow.laid) #[.slice none 0 0, .string ⟨#[]⟩, .int .i64 0, .int .i64 0] 8 (World.laidAll_os _ _ _)
      (World.shaped_of_ZipB (by kernel_rfl) (by kernel_rfl)) (by kernel_rfl) (by kernel_rfl) (by kernel_rfl)
      (by rw [MakeChecks.laidMetH_plain _ _ _ (by kernel_rfl)]; exact laidMet_laidAll _ (by kernel_rfl) (by kernel_rfl))) ?_
  intro W base args ds gs before hval hW _ _ _ _
  refine law_contract (tb := 4) [entriesK, .s, (.i .i64), (.i .i64)] ?_ replayDaysMatchSpec_plain laidOut ?_ Tryd.underlying4 (by kernel_rfl) rfl ?_ ⟨base, hval⟩ hW
  · rw [Tryd.params10]
    exact ⟨entriesHas, Tryd.underlying9, Tryd.underlying3, Tryd.underlying3, trivial⟩
  · rw [Tryd.params10]
    intro t ht
    have hall : ([22, 9, 3, 3].all fun t => Tryd.prog.readableRec t && decide (t < Tryd.prog.types.size)) = true := by kernel_rfl
    have := List.all_eq_true.1 hall t (by simpa using ht)
    simp only [Bool.and_eq_true, decide_eq_true_eq] at this
    exact this
  · intro ds hd
    match ds, hd with
    | [_, _, _, _], _ => rfl

theorem replayDaysMatchSpec_said : Rows.ReplayDaysMatchSpecSaid :=
  OpenClaim.holds_of_wide 10 Tryd.f10 rfl rfl rfl rfl rfl rfl rfl ⟨rfl, rfl, rfl, rfl, rfl⟩ rfl rfl rfl rfl rfl (by kernel_rfl) Tryd.func10 (by kernel_rfl)
    (of_decide_eq_true (by kernel_rfl)) (by unfold Func.isWrapper; first | (rw [if_pos (by decide +kernel)]; kernel_rfl) | (rw [if_neg (by decide +kernel)]; exact ⟨rfl, rfl⟩))
    (fun os started H enc _ => replayDaysMatchSpec_lifted os started H enc)

theorem replayDaysMatchSpec_holds : Rows.ReplayDaysMatchSpecCardSaid :=
  Claim7.holds_tied_plain_at .later [] [.data, .pinned] true _ false replayDaysMatchSpec_said (fun _ h => by cases h) (by kernel_rfl) (fun _ h => by cases h) replayDaysMatchSpec_row_tie rfl ⟨rfl, rfl⟩ (by kernel_rfl) rfl
    (fun f fn hf hfn => by
      obtain rfl : f = 10 := Option.some.inj ((show Tryd.prog.funcNamed Rows.replayDaysMatchSpecRow.func = some 10 by kernel_rfl).symm.trans hf) |>.symm
      obtain rfl : fn = Tryd.f10 := (Option.some.inj (Tryd.func10.symm.trans hfn)).symm
      exact ⟨by kernel_rfl, fun j t ht => by
        rw [Tryd.params10] at ht
        have hm : t ∈ [22, 9, 3, 3] := by simpa using Array.mem_of_getElem? ht
        have hall : ([22, 9, 3, 3].all fun u => !Tryd.prog.wantsStandIn u) = true := by kernel_rfl
        exact (show Tryd.prog.wantsStandIn t = false by simpa using List.all_eq_true.1 hall t hm)⟩)
    (by kernel_rfl)
#print axioms replayDaysMatchSpec_holds
end Go.Proofs.YtdciogjhkckigaaDoor
