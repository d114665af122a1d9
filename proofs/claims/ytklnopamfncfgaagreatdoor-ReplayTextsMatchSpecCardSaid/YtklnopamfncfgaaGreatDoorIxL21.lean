/- ReplayText, and ReadReplay for any string, answer as the document's do, with all errors; for all arguments. -/
import Derived.Test.YtklnopamfncfgaaGreatDoorIxG21d
import Derived.Test.YtklnopamfncfgaaGreatDoorCards
import Derived.Test.YtklnopamfncfgaaGreatDoorTie
import Derived.LaidMore
import Derived.Lay
import Derived.SevenTiedAt
import Derived.JoinedOf
namespace Go.Proofs.YtklnopamfncfgaaGreatDoor
open Go Go.Ab Go.ChangeShapes Go.WideShapes Go.ChangeAt Go.RowKit
set_option maxRecDepth 100000
local instance : Amb := ambT Tryz.prog
local instance : HasPow10 Tryz.prog := ambT_pow Tryz.prog
theorem replayTextsMatchSpec_plain : ∀ xs, fitsXs [.s, (.i .i64), addrK, .s] xs → fitsXsB reachBytes [.s, (.i .i64), addrK, .s] xs → ACalls Tryz.prog 3 xs (.x (.one (.bool true))) := by
  intro xs h g
  match xs, h, g with
  | [x0, x1, x2, x3], ⟨h0, h1, h2, h3, _⟩, ⟨g0, g1, g2, g3, _⟩ =>
    obtain ⟨a0, rfl⟩ := strFits h0
    obtain ⟨a1, rfl⟩ := intFits h1
    obtain ⟨a2, rfl, f2⟩ := addrFits h2 g2
    obtain ⟨a3, rfl⟩ := strFits h3
    exact lawTexts a0 a1 a2 a3 f2
theorem replayTextsMatchSpec_lifted (os : Os) (started : os.Started) (H : Type) (enc : TypeId × Value → H) :
    ReturnsInHanded {} Tryz.checked os 3 .any (fun w args => (Rows.replayTextsMatchSpecSpec.pre enc Tryz.prog Tryz.f3 Rows.replayTextsMatchSpecRow.domain false w args ∧ laidMetH Tryz.prog Rows.replayTextsMatchSpecRow.laid w) ∧ sizedMet enc Tryz.prog Tryz.f3 (OpenSpec.ofChange Rows.replayTextsMatchSpecSpec) false w args)
      (Rows.replayTextsMatchSpecSpec.post enc Tryz.prog Tryz.f3 false true false false) := by
  refine returnsInHanded_of_change_and (C := Tryz.checked) (X := fun w _ => laidMetH Tryz.prog Rows.replayTextsMatchSpecRow.laid w) (fun _ _ _ hh h => h.of_heap hh) own started (by kernel_rfl) Tryz.func3
    (ChangeSpec.witness_shaped (enc := enc) (C := Tryz.checked) (os := os) (X := fun w _ => laidMetH Tryz.prog Rows.replayTextsMatchSpecRow.laid w) false (World.laidAll Tryz.prog os Rows.replayTextsMatchSpecRow.laid) #[.string ⟨#[]⟩, .int .i64 0, .agg #[.string ⟨#[]⟩, .string ⟨#[]⟩, .string ⟨#[]⟩, .string ⟨#[]⟩, .string ⟨#[]⟩, .bool false, .string ⟨#[]⟩, .bool false], .string ⟨#[]⟩] 8 (World.laidAll_os _ _ _)
      (World.shaped_of_ZipB (by kernel_rfl) (by kernel_rfl)) (by kernel_rfl) (by kernel_rfl) (by kernel_rfl)
      (by rw [MakeChecks.laidMetH_plain _ _ _ (by kernel_rfl)]; exact laidMet_laidAll _ (by kernel_rfl) (by kernel_rfl))) ?_
  intro W base args ds gs before hval hW q1 q2 q3 q4
  refine law_contractB (tb := 4) [.s, (.i .i64), addrK, .s] ?_ replayTextsMatchSpec_plain laidOut ?_ Tryz.underlying4 (by kernel_rfl) rfl ?_ ⟨base, hval⟩ hW (ambT_laid 2 q3 (by kernel_rfl) (by kernel_rfl)) ⟨ds, gs, before, hW, weights_front q2⟩
  · rw [Tryz.params3]
    exact ⟨Tryz.underlying9, Tryz.underlying3, addrHas, Tryz.underlying9, trivial⟩
  · rw [Tryz.params3]
    intro t ht
    have hall : ([9, 3, 23, 9].all fun t => Tryz.prog.readableRec t && decide (t < Tryz.prog.types.size)) = true := by kernel_rfl
    have := List.all_eq_true.1 hall t (by simpa using ht)
    simp only [Bool.and_eq_true, decide_eq_true_eq] at this
    exact this
  · intro ds hd
    match ds, hd with
    | [_, _, _, _], _ => rfl

theorem replayTextsMatchSpec_said : Rows.ReplayTextsMatchSpecSaid :=
  OpenClaim.holds_of_wide 3 Tryz.f3 rfl rfl rfl rfl rfl rfl rfl ⟨rfl, rfl, rfl, rfl, rfl⟩ rfl rfl rfl rfl rfl (by kernel_rfl) Tryz.func3 (by kernel_rfl)
    (of_decide_eq_true (by kernel_rfl)) (by unfold Func.isWrapper; first | (rw [if_pos (by decide +kernel)]; kernel_rfl) | (rw [if_neg (by decide +kernel)]; exact ⟨rfl, rfl⟩))
    (fun os started H enc _ => replayTextsMatchSpec_lifted os started H enc)

theorem replayTextsMatchSpec_holds : Rows.ReplayTextsMatchSpecCardSaid :=
  Claim7.holds_tied_plain_at .later [] [.data, .data, .data, .data, .sentinel, .sentinel, .pinned] true _ true replayTextsMatchSpec_said (fun _ h => by cases h) (by kernel_rfl) (fun _ h => by cases h) replayTextsMatchSpec_row_tie rfl ⟨rfl, rfl⟩ (by kernel_rfl) rfl
    (fun f fn hf hfn => by
      obtain rfl : f = 3 := Option.some.inj ((show Tryz.prog.funcNamed Rows.replayTextsMatchSpecRow.func = some 3 by kernel_rfl).symm.trans hf) |>.symm
      obtain rfl : fn = Tryz.f3 := (Option.some.inj (Tryz.func3.symm.trans hfn)).symm
      exact ⟨by kernel_rfl, fun j t ht => by
        rw [Tryz.params3] at ht
        have hm : t ∈ [9, 3, 23, 9] := by simpa using Array.mem_of_getElem? ht
        have hall : ([9, 3, 23, 9].all fun u => !Tryz.prog.wantsStandIn u) = true := by kernel_rfl
        exact (show Tryz.prog.wantsStandIn t = false by simpa using List.all_eq_true.1 hall t hm)⟩)
    (by kernel_rfl)
#print axioms replayTextsMatchSpec_holds
end Go.Proofs.YtklnopamfncfgaaGreatDoor
