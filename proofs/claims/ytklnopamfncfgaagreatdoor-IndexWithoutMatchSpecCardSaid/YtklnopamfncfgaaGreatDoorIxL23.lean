/- index.Without is as specified, with all errors, and without scopes it takes nothing away: the law returns true at every list of entries and every list of scopes. -/
import Derived.Test.YtklnopamfncfgaaGreatDoorIxGDe
import Derived.Test.YtklnopamfncfgaaGreatDoorCards
import Derived.Test.YtklnopamfncfgaaGreatDoorTie
import Derived.LaidMore
import Derived.Lay
import Derived.SevenTiedAt
import Derived.JoinedOf
namespace Go.Proofs.YtklnopamfncfgaaGreatDoor
open Go Go.Ab Go.ChangeShapes Go.WideShapes Go.ChangeAt Go.RowKit
set_option maxRecDepth 100000
local instance : Amb := ambE Tryz.prog
local instance : HasPow10 Tryz.prog := ambE_pow Tryz.prog
local instance : HasErrSyntax Tryz.prog := ambE_err Tryz.prog
theorem indexWithoutMatchSpec_plain : ∀ xs, fitsXs [entriesK, scopesK] xs → ACalls Tryz.prog 5 xs (.x (.one (.bool true))) := by
  intro xs h
  match xs, h with
  | [x0, x1], ⟨h0, h1, _⟩ =>
    obtain ⟨a0, rfl⟩ := entriesFits h0
    obtain ⟨a1, rfl⟩ := scopesFits h1
    exact lawWithout a0 a1
theorem indexWithoutMatchSpec_lifted (os : Os) (started : os.Started) (H : Type) (enc : TypeId × Value → H) :
    ReturnsInHanded {} Tryz.checked os 5 .any (fun w args => (Rows.indexWithoutMatchSpecSpec.pre enc Tryz.prog Tryz.f5 Rows.indexWithoutMatchSpecRow.domain false w args ∧ laidMetH Tryz.prog Rows.indexWithoutMatchSpecRow.laid w) ∧ sizedMet enc Tryz.prog Tryz.f5 (OpenSpec.ofChange Rows.indexWithoutMatchSpecSpec) false w args)
      (Rows.indexWithoutMatchSpecSpec.post enc Tryz.prog Tryz.f5 false true false false) := by
  refine returnsInHanded_of_change_and (C := Tryz.checked) (X := fun w _ => laidMetH Tryz.prog Rows.indexWithoutMatchSpecRow.laid w) (fun _ _ _ hh h => h.of_heap hh) own started (by kernel_rfl) Tryz.func5
    (ChangeSpec.witness_shaped (enc := enc) (C := Tryz.checked) (os := os) (X := fun w _ => laidMetH Tryz.prog Rows.indexWithoutMatchSpecRow.laid w) false (World.laidAll Tryz.prog os Rows.indexWithoutMatchSpecRow.laid) #[.slice none 0 0, .slice none 0 0] 8 (World.laidAll_os _ _ _)
      (World.shaped_of_ZipB (by kernel_rfl) (by kernel_rfl)) (by kernel_rfl) (by kernel_rfl) (by kernel_rfl)
      (by rw [MakeChecks.laidMetH_plain _ _ _ (by kernel_rfl)]; exact laidMet_laidAll _ (by kernel_rfl) (by kernel_rfl))) ?_
  intro W base args ds gs before hval hW q1 q2 q3 q4
  refine law_contract (tb := 4) [entriesK, scopesK] ?_ indexWithoutMatchSpec_plain laidOut ?_ Tryz.underlying4 (by kernel_rfl) rfl ?_ ⟨base, hval⟩ hW (ambE_laid 2 5 q3 (by kernel_rfl) (by kernel_rfl) rfl)
  · rw [Tryz.params5]
    exact ⟨entriesHas, scopesHas, trivial⟩
  · rw [Tryz.params5]
    intro t ht
    have hall : ([31, 32].all fun t => Tryz.prog.readableRec t && decide (t < Tryz.prog.types.size)) = true := by kernel_rfl
    have := List.all_eq_true.1 hall t (by simpa using ht)
    simp only [Bool.and_eq_true, decide_eq_true_eq] at this
    exact this
  · intro ds hd
    match ds, hd with
    | [_, _], _ => rfl

theorem indexWithoutMatchSpec_said : Rows.IndexWithoutMatchSpecSaid :=
  OpenClaim.holds_of_wide 5 Tryz.f5 rfl rfl rfl rfl rfl rfl rfl ⟨rfl, rfl, rfl, rfl, rfl⟩ rfl rfl rfl rfl rfl (by kernel_rfl) Tryz.func5 (by kernel_rfl)
    (of_decide_eq_true (by kernel_rfl)) (by unfold Func.isWrapper; first | (rw [if_pos (by decide +kernel)]; kernel_rfl) | (rw [if_neg (by decide +kernel)]; exact ⟨rfl, rfl⟩))
    (fun os started H enc _ => indexWithoutMatchSpec_lifted os started H enc)

theorem indexWithoutMatchSpec_holds : Rows.IndexWithoutMatchSpecCardSaid :=
  Claim7.holds_tied_plain_at .later [] [.data, .data, .data, .data, .sentinel, .sentinel, .pinned] true _ true indexWithoutMatchSpec_said (fun _ h => by cases h) (by kernel_rfl) (fun _ h => by cases h) indexWithoutMatchSpec_row_tie rfl ⟨rfl, rfl⟩ (by kernel_rfl) rfl
    (fun f fn hf hfn => by
      obtain rfl : f = 5 := Option.some.inj ((show Tryz.prog.funcNamed Rows.indexWithoutMatchSpecRow.func = some 5 by kernel_rfl).symm.trans hf) |>.symm
      obtain rfl : fn = Tryz.f5 := (Option.some.inj (Tryz.func5.symm.trans hfn)).symm
      exact ⟨by kernel_rfl, fun j t ht => by
        rw [Tryz.params5] at ht
        have hm : t ∈ [31, 32] := by simpa using Array.mem_of_getElem? ht
        have hall : ([31, 32].all fun u => !Tryz.prog.wantsStandIn u) = true := by kernel_rfl
        exact (show Tryz.prog.wantsStandIn t = false by simpa using List.all_eq_true.1 hall t hm)⟩)
    (by kernel_rfl)
#print axioms indexWithoutMatchSpec_holds
end Go.Proofs.YtklnopamfncfgaaGreatDoor
