/- The desk's webs are as specified: a web passes its check exactly when the plain rule says so, with the same answer: the law returns true at every web. -/
import Derived.Test.YtklnopamfncfgaaGreatDoorIxGEe
import Derived.Test.YtklnopamfncfgaaGreatDoorCards
import Derived.Test.YtklnopamfncfgaaGreatDoorTie
import Derived.LaidMore
import Derived.Lay
import Derived.SevenTiedAt
import Derived.JoinedOf
namespace Go.Proofs.YtklnopamfncfgaaGreatDoor
open Go Go.Ab Go.ChangeShapes Go.WideShapes Go.ChangeAt Go.RowKit
set_option maxRecDepth 100000
local instance : Amb := ambE Tryz.prog
local instance : HasPow10 Tryz.prog := ambE_pow Tryz.prog
local instance : HasErrSyntax Tryz.prog := ambE_err Tryz.prog
theorem deskWebsMatchSpec_plain : ∀ xs, fitsXs [webK, addrK, (.i .i64)] xs → fitsXsB reachBytes [webK, addrK, (.i .i64)] xs → ACalls Tryz.prog 6 xs (.x (.one (.bool true))) := by
  intro xs h g
  match xs, h, g with
  | [x0, x1, x2], ⟨h0, h1, h2, _⟩, ⟨g0, g1, g2, _⟩ =>
    obtain ⟨a0, rfl, f0⟩ := webFits h0 g0
    obtain ⟨a1, rfl, f1⟩ := addrFits h1 g1
    obtain ⟨a2, rfl⟩ := intFits h2
    exact lawWebs2 a0 a1 a2 f0 f1
theorem deskWebsMatchSpec_lifted (os : Os) (started : os.Started) (H : Type) (enc : TypeId × Value → H) :
    ReturnsInHanded {} Tryz.checked os 6 .any (fun w args => (Rows.deskWebsMatchSpecSpec.pre enc Tryz.prog Tryz.f6 Rows.deskWebsMatchSpecRow.domain false w args ∧ laidMetH Tryz.prog Rows.deskWebsMatchSpecRow.laid w) ∧ sizedMet enc Tryz.prog Tryz.f6 (OpenSpec.ofChange Rows.deskWebsMatchSpecSpec) false w args)
      (Rows.deskWebsMatchSpecSpec.post enc Tryz.prog Tryz.f6 false true false false) := by
  refine returnsInHanded_of_change_and (C := Tryz.checked) (X := fun w _ => laidMetH Tryz.prog Rows.deskWebsMatchSpecRow.laid w) (fun _ _ _ hh h => h.of_heap hh) own started (by kernel_rfl) Tryz.func6
    (ChangeSpec.witness_shaped (enc := enc) (C := Tryz.checked) (os := os) (X := fun w _ => laidMetH Tryz.prog Rows.deskWebsMatchSpecRow.laid w) false (World.laidAll Tryz.prog os Rows.deskWebsMatchSpecRow.laid) #[.agg #[.slice none 0 0, .slice none 0 0], .agg #[.string ⟨#[]⟩, .string ⟨#[]⟩, .string ⟨#[]⟩, .string ⟨#[]⟩, .string ⟨#[]⟩, .bool false, .string ⟨#[]⟩, .bool false], .int .i64 0] 8 (World.laidAll_os _ _ _)
      (World.shaped_of_ZipB (by kernel_rfl) (by kernel_rfl)) (by kernel_rfl) (by kernel_rfl) (by kernel_rfl)
      (by rw [MakeChecks.laidMetH_plain _ _ _ (by kernel_rfl)]; exact laidMet_laidAll _ (by kernel_rfl) (by kernel_rfl))) ?_
  intro W base args ds gs before hval hW q1 q2 q3 q4
  refine law_contractB (tb := 4) [webK, addrK, (.i .i64)] ?_ deskWebsMatchSpec_plain laidOut ?_ Tryz.underlying4 (by kernel_rfl) rfl ?_ ⟨base, hval⟩ hW (ambE_laid 2 5 q3 (by kernel_rfl) (by kernel_rfl) rfl) ⟨ds, gs, before, hW, weights_front q2⟩
  · rw [Tryz.params6]
    exact ⟨webHas, addrHas, Tryz.underlying3, trivial⟩
  · rw [Tryz.params6]
    intro t ht
    have hall : ([44, 23, 3].all fun t => Tryz.prog.readableRec t && decide (t < Tryz.prog.types.size)) = true := by kernel_rfl
    have := List.all_eq_true.1 hall t (by simpa using ht)
    simp only [Bool.and_eq_true, decide_eq_true_eq] at this
    exact this
  · intro ds hd
    match ds, hd with
    | [_, _, _], _ => rfl
theorem deskWebsMatchSpec_d1 : (Rows.deskWebsMatchSpecRow.inPlace == Tryz.pinned.checked.prog.inPlace 6) = true := by kernel_rfl
theorem deskWebsMatchSpec_d2 : (Rows.deskWebsMatchSpecRow.unfollowed == Tryz.pinned.checked.prog.unfollowed 6) = true := by kernel_rfl
theorem deskWebsMatchSpec_d3 : (Rows.deskWebsMatchSpecRow.recurses == Tryz.pinned.checked.prog.recurses 6) = true := by kernel_rfl
theorem deskWebsMatchSpec_d4 : (Rows.deskWebsMatchSpecRow.named == Tryz.pinned.checked.prog.varsNamed 6) = true := by kernel_rfl
theorem deskWebsMatchSpec_d5 : (Rows.deskWebsMatchSpecRow.plainKeys == Tryz.pinned.checked.prog.plainKeys) = true := by kernel_rfl
theorem deskWebsMatchSpec_d6 : (Tryz.pinned.checked.prog.stopsHeard) = true := by kernel_rfl
theorem deskWebsMatchSpec_d7 : (Tryz.pinned.checked.prog.mayEnter) = true := by kernel_rfl
theorem deskWebsMatchSpec_d8 : (Rows.deskWebsMatchSpecRow.lifted == Tryz.pinned.checked.prog.liftsFinal) = true := by kernel_rfl
theorem deskWebsMatchSpec_d9 : (Tryz.pinned.checked.prog.make == some Rows.deskWebsMatchSpecRow.make) = true := by kernel_rfl
theorem deskWebsMatchSpec_d10 : (mapsRowed Tryz.pinned.checked.prog) = true := by kernel_rfl
theorem deskWebsMatchSpec_d11 : (laidOutB Tryz.pinned.checked.prog) = true := by kernel_rfl
theorem deskWebsMatchSpec_closed : joinedFacts Tryz.pinned.checked.prog 6 Tryz.f6 Rows.deskWebsMatchSpecSpec Rows.deskWebsMatchSpecRow = true := by
  unfold joinedFacts
  simp only [Bool.and_eq_true]
  repeat' (refine And.intro ?_ ?_)
  all_goals first
    | with_reducible exact deskWebsMatchSpec_d1
    | with_reducible exact deskWebsMatchSpec_d2
    | with_reducible exact deskWebsMatchSpec_d3
    | with_reducible exact deskWebsMatchSpec_d4
    | with_reducible exact deskWebsMatchSpec_d5
    | with_reducible exact deskWebsMatchSpec_d6
    | with_reducible exact deskWebsMatchSpec_d7
    | with_reducible exact deskWebsMatchSpec_d8
    | with_reducible exact deskWebsMatchSpec_d9
    | with_reducible exact deskWebsMatchSpec_d10
    | with_reducible exact deskWebsMatchSpec_d11
    | kernel_rfl
theorem deskWebsMatchSpec_said : Rows.DeskWebsMatchSpecSaid :=
  OpenClaim.holds_of_wide 6 Tryz.f6 rfl rfl rfl rfl rfl rfl rfl ⟨rfl, rfl, rfl, rfl, rfl⟩ rfl rfl rfl rfl rfl (by kernel_rfl) Tryz.func6 deskWebsMatchSpec_closed
    (of_decide_eq_true (by kernel_rfl)) (by unfold Func.isWrapper; first | (rw [if_pos (by decide +kernel)]; kernel_rfl) | (rw [if_neg (by decide +kernel)]; exact ⟨rfl, rfl⟩))
    (fun os started H enc _ => deskWebsMatchSpec_lifted os started H enc)
theorem deskWebsMatchSpec_holds : Rows.DeskWebsMatchSpecCardSaid :=
  Claim7.holds_tied_plain_at .later [] [.data, .data, .data, .data, .sentinel, .sentinel, .pinned] true _ true deskWebsMatchSpec_said (fun _ h => by cases h) (by kernel_rfl) (fun _ h => by cases h) deskWebsMatchSpec_row_tie rfl ⟨rfl, rfl⟩ (by kernel_rfl) rfl
    (fun f fn hf hfn => by
      obtain rfl : f = 6 := Option.some.inj ((show Tryz.prog.funcNamed Rows.deskWebsMatchSpecRow.func = some 6 by kernel_rfl).symm.trans hf) |>.symm
      obtain rfl : fn = Tryz.f6 := (Option.some.inj (Tryz.func6.symm.trans hfn)).symm
      exact ⟨by kernel_rfl, fun j t ht => by
        rw [Tryz.params6] at ht
        have hm : t ∈ [44, 23, 3] := by simpa using Array.mem_of_getElem? ht
        have hall : ([44, 23, 3].all fun u => !Tryz.prog.wantsStandIn u) = true := by kernel_rfl
        exact (show Tryz.prog.wantsStandIn t = false by simpa using List.all_eq_true.1 hall t hm)⟩)
    (by kernel_rfl)
#print axioms deskWebsMatchSpec_holds
end Go.Proofs.YtklnopamfncfgaaGreatDoor
