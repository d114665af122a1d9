/- CheckEntries and Text are as specified, with all errors, for all arguments. -/
import Derived.Test.YtdciogjhkckigaaDoorIxTB
import Derived.Test.YtdciogjhkckigaaDoorIxR
import Derived.Test.YtdciogjhkckigaaDoorCards
import Derived.Test.YtdciogjhkckigaaDoorTie
import Derived.LaidMore
import Derived.Lay
import Derived.SevenTiedAt
import Derived.JoinedOf
namespace Go.Proofs.YtdciogjhkckigaaDoor
open Go Go.Ab Go.ChangeShapes Go.WideShapes Go.ChangeAt Go.RowKit
set_option maxRecDepth 100000
local instance : Amb := ambT Tryd.prog
local instance : HasPow10 Tryd.prog := ambT_pow Tryd.prog
theorem indexChecksMatchSpec_plain : ∀ xs, fitsXs [entriesK] xs → ACalls Tryd.prog 13 xs (.x (.one (.bool true))) := by
  intro xs h
  match xs, h with
  | [x0], ⟨h0, _⟩ =>
    obtain ⟨a0, rfl⟩ := entriesFits h0
    exact lawChecks a0
theorem indexChecksMatchSpec_lifted (os : Os) (started : os.Started) (H : Type) (enc : TypeId × Value → H) :
    ReturnsInHanded {} Tryd.checked os 13 .any (fun w args => (Rows.indexChecksMatchSpecSpec.pre enc Tryd.prog Tryd.f13 Rows.indexChecksMatchSpecRow.domain false w args ∧ laidMetH Tryd.prog Rows.indexChecksMatchSpecRow.laid w) ∧ sizedMet enc Tryd.prog Tryd.f13 (OpenSpec.ofChange Rows.indexChecksMatchSpecSpec) false w args)
      (Rows.indexChecksMatchSpecSpec.post enc Tryd.prog Tryd.f13 false true false false) := by
  refine returnsInHanded_of_change_and (C := Tryd.checked) (X := fun w _ => laidMetH Tryd.prog Rows.indexChecksMatchSpecRow.laid w) (fun _ _ _ hh h => h.of_heap hh) own started (by kernel_rfl) Tryd.func13
    (ChangeSpec.witness_shaped (enc := enc) (C := Tryd.checked) (os := os) (X := fun w _ => laidMetH Tryd.prog Rows.indexChecksMatchSpecRow.laid w) false (World.laidAll Tryd.prog os Rows.indexChecksMatchSpecRow.laid) #[.slice none 0 0] 8 (World.laidAll_os _ _ _)
      (World.shaped_of_ZipB (by kernel_rfl) (by kernel_rfl)) (by kernel_rfl) (by kernel_rfl) (by kernel_rfl)
      (by rw [MakeChecks.laidMetH_plain _ _ _ (by kernel_rfl)]; exact laidMet_laidAll _ (by kernel_rfl) (by kernel_rfl))) ?_
  intro W base args ds gs before hval hW q1 q2 q3 q4
  refine law_contract (tb := 4) [entriesK] ?_ indexChecksMatchSpec_plain laidOut ?_ Tryd.underlying4 (by kernel_rfl) rfl ?_ ⟨base, hval⟩ hW (ambT_laid 2 q3 (by kernel_rfl) (by kernel_rfl))
  · rw [Tryd.params13]
    exact ⟨entriesHas, trivial⟩
  · rw [Tryd.params13]
    intro t ht
    have hall : ([22].all fun t => Tryd.prog.readableRec t && decide (t < Tryd.prog.types.size)) = true := by kernel_rfl
    have := List.all_eq_true.1 hall t (by simpa using ht)
    simp only [Bool.and_eq_true, decide_eq_true_eq] at this
    exact this
  · intro ds hd
    match ds, hd with
    | [_], _ => rfl

theorem indexChecksMatchSpec_said : Rows.IndexChecksMatchSpecSaid :=
  OpenClaim.holds_of_wide 13 Tryd.f13 rfl rfl rfl rfl rfl rfl rfl ⟨rfl, rfl, rfl, rfl, rfl⟩ rfl rfl rfl rfl rfl (by kernel_rfl) Tryd.func13 (by kernel_rfl)
    (of_decide_eq_true (by kernel_rfl)) (by unfold Func.isWrapper; first | (rw [if_pos (by decide +kernel)]; kernel_rfl) | (rw [if_neg (by decide +kernel)]; exact ⟨rfl, rfl⟩))
    (fun os started H enc _ => indexChecksMatchSpec_lifted os started H enc)

theorem indexChecksMatchSpec_holds : Rows.IndexChecksMatchSpecCardSaid :=
  Claim7.holds_tied_plain_at .later [] [.data, .data, .data, .data, .pinned] true _ false indexChecksMatchSpec_said (fun _ h => by cases h) (by kernel_rfl) (fun _ h => by cases h) indexChecksMatchSpec_row_tie rfl ⟨rfl, rfl⟩ (by kernel_rfl) rfl
    (fun f fn hf hfn => by
      obtain rfl : f = 13 := Option.some.inj ((show Tryd.prog.funcNamed Rows.indexChecksMatchSpecRow.func = some 13 by kernel_rfl).symm.trans hf) |>.symm
      obtain rfl : fn = Tryd.f13 := (Option.some.inj (Tryd.func13.symm.trans hfn)).symm
      exact ⟨by kernel_rfl, fun j t ht => by
        rw [Tryd.params13] at ht
        have hm : t ∈ [22] := by simpa using Array.mem_of_getElem? ht
        have hall : ([22].all fun u => !Tryd.prog.wantsStandIn u) = true := by kernel_rfl
        exact (show Tryd.prog.wantsStandIn t = false by simpa using List.all_eq_true.1 hall t hm)⟩)
    (by kernel_rfl)
#print axioms indexChecksMatchSpec_holds
end Go.Proofs.YtdciogjhkckigaaDoor
