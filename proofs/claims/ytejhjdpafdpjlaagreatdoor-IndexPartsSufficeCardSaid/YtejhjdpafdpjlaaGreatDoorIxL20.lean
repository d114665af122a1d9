/- What is near to a time is found in the lines of the parts that are told alone. -/
import Derived.Test.YtejhjdpafdpjlaaGreatDoorIxRH
import Derived.Test.YtejhjdpafdpjlaaGreatDoorIxR
import Derived.Test.YtejhjdpafdpjlaaGreatDoorCards
import Derived.Test.YtejhjdpafdpjlaaGreatDoorTie
import Derived.LaidMore
import Derived.Lay
import Derived.SevenTiedAt
import Derived.JoinedOf
namespace Go.Proofs.YtejhjdpafdpjlaaGreatDoor
open Go Go.Ab Go.ChangeShapes Go.WideShapes Go.ChangeAt Go.RowKit
set_option maxRecDepth 100000
local instance : Amb := ambT Tryz.prog
local instance : HasPow10 Tryz.prog := ambT_pow Tryz.prog
theorem indexPartsSuffice_plain : ∀ xs, fitsXs [entriesK, (.i .i64), .s, (.i .i64), (.i .i64)] xs → ACalls Tryz.prog 6 xs (.x (.one (.bool true))) := by
  intro xs h
  match xs, h with
  | [x0, x1, x2, x3, x4], ⟨h0, h1, h2, h3, h4, _⟩ =>
    obtain ⟨a0, rfl⟩ := entriesFits h0
    obtain ⟨a1, rfl⟩ := intFits h1
    obtain ⟨a2, rfl⟩ := strFits h2
    obtain ⟨a3, rfl⟩ := intFits h3
    obtain ⟨a4, rfl⟩ := intFits h4
    exact lawSuffice a0 a1 a2 a3 a4
theorem indexPartsSuffice_lifted (os : Os) (started : os.Started) (H : Type) (enc : TypeId × Value → H) :
    ReturnsInHanded {} Tryz.checked os 6 .any (fun w args => (Rows.indexPartsSufficeSpec.pre enc Tryz.prog Tryz.f6 Rows.indexPartsSufficeRow.domain false w args ∧ laidMetH Tryz.prog Rows.indexPartsSufficeRow.laid w) ∧ sizedMet enc Tryz.prog Tryz.f6 (OpenSpec.ofChange Rows.indexPartsSufficeSpec) false w args)
      (Rows.indexPartsSufficeSpec.post enc Tryz.prog Tryz.f6 false true false false) := by
  refine returnsInHanded_of_change_and (C := Tryz.checked) (X := fun w _ => laidMetH Tryz.prog Rows.indexPartsSufficeRow.laid w) (fun _ _ _ hh h => h.of_heap hh) own started (by kernel_rfl) Tryz.func6
    (ChangeSpec.witness_shaped (enc := enc) (C := Tryz.checked) (os := os) (X := fun w _ => laidMetH Tryz.prog Rows.indexPartsSufficeRow.laid w) false (World.laidAll Tryz.prog os Rows.indexPartsSufficeRow.laid) #[.slice none 0 0, .int .i64 0, .string ⟨#[]⟩, .int .i64 0, .int .i64 0] 8 (World.laidAll_os _ _ _)
      (World.shaped_of_ZipB (by kernel_rfl) (by kernel_rfl)) (by kernel_rfl) (by kernel_rfl) (by kernel_rfl)
      (by rw [MakeChecks.laidMetH_plain _ _ _ (by kernel_rfl)]; exact laidMet_laidAll _ (by kernel_rfl) (by kernel_rfl))) ?_
  intro W base args ds gs before hval hW q1 q2 q3 q4
  refine law_contract (tb := 4) [entriesK, (.i .i64), .s, (.i .i64), (.i .i64)] ?_ indexPartsSuffice_plain laidOut ?_ Tryz.underlying4 (by kernel_rfl) rfl ?_ ⟨base, hval⟩ hW (ambT_laid 2 q3 (by kernel_rfl) (by kernel_rfl))
  · rw [Tryz.params6]
    exact ⟨entriesHas, Tryz.underlying3, Tryz.underlying9, Tryz.underlying3, Tryz.underlying3, trivial⟩
  · rw [Tryz.params6]
    intro t ht
    have hall : ([22, 3, 9, 3, 3].all fun t => Tryz.prog.readableRec t && decide (t < Tryz.prog.types.size)) = true := by kernel_rfl
    have := List.all_eq_true.1 hall t (by simpa using ht)
    simp only [Bool.and_eq_true, decide_eq_true_eq] at this
    exact this
  · intro ds hd
    match ds, hd with
    | [_, _, _, _, _], _ => rfl

theorem indexPartsSuffice_said : Rows.IndexPartsSufficeSaid :=
  OpenClaim.holds_of_wide 6 Tryz.f6 rfl rfl rfl rfl rfl rfl rfl ⟨rfl, rfl, rfl, rfl, rfl⟩ rfl rfl rfl rfl rfl (by kernel_rfl) Tryz.func6 (by kernel_rfl)
    (of_decide_eq_true (by kernel_rfl)) (by unfold Func.isWrapper; first | (rw [if_pos (by decide +kernel)]; kernel_rfl) | (rw [if_neg (by decide +kernel)]; exact ⟨rfl, rfl⟩))
    (fun os started H enc _ => indexPartsSuffice_lifted os started H enc)

theorem indexPartsSuffice_holds : Rows.IndexPartsSufficeCardSaid :=
  Claim7.holds_tied_plain_at .later [] [.data, .data, .data, .data, .sentinel, .sentinel, .pinned] true _ true indexPartsSuffice_said (fun _ h => by cases h) (by kernel_rfl) (fun _ h => by cases h) indexPartsSuffice_row_tie rfl ⟨rfl, rfl⟩ (by kernel_rfl) rfl
    (fun f fn hf hfn => by
      obtain rfl : f = 6 := Option.some.inj ((show Tryz.prog.funcNamed Rows.indexPartsSufficeRow.func = some 6 by kernel_rfl).symm.trans hf) |>.symm
      obtain rfl : fn = Tryz.f6 := (Option.some.inj (Tryz.func6.symm.trans hfn)).symm
      exact ⟨by kernel_rfl, fun j t ht => by
        rw [Tryz.params6] at ht
        have hm : t ∈ [22, 3, 9, 3, 3] := by simpa using Array.mem_of_getElem? ht
        have hall : ([22, 3, 9, 3, 3].all fun u => !Tryz.prog.wantsStandIn u) = true := by kernel_rfl
        exact (show Tryz.prog.wantsStandIn t = false by simpa using List.all_eq_true.1 hall t hm)⟩)
    (by kernel_rfl)
#print axioms indexPartsSuffice_holds
end Go.Proofs.YtejhjdpafdpjlaaGreatDoor
