/- Entries are read as they were written, and what was read is written as it was read. -/
import Derived.Test.YtejhjdpafdpjlaaGreatDoorIxRG
import Derived.Test.YtejhjdpafdpjlaaGreatDoorIxR
import Derived.Test.YtejhjdpafdpjlaaGreatDoorCards
import Derived.Test.YtejhjdpafdpjlaaGreatDoorTie
import Derived.LaidMore
import Derived.Lay
import Derived.SevenTiedAt
import Derived.JoinedOf
namespace Go.Proofs.YtejhjdpafdpjlaaGreatDoor
open Go Go.Ab Go.ChangeShapes Go.WideShapes Go.ChangeAt Go.RowKit
set_option maxRecDepth 100000
local instance : Amb := ambT Tryz.prog
local instance : HasPow10 Tryz.prog := ambT_pow Tryz.prog
theorem indexTextsComeBack_plain : ∀ xs, fitsXs [entriesK, .s] xs → ACalls Tryz.prog 5 xs (.x (.one (.bool true))) := by
  intro xs h
  match xs, h with
  | [x0, x1], ⟨h0, h1, _⟩ =>
    obtain ⟨a0, rfl⟩ := entriesFits h0
    obtain ⟨a1, rfl⟩ := strFits h1
    exact lawTexts a0 a1
theorem indexTextsComeBack_lifted (os : Os) (started : os.Started) (H : Type) (enc : TypeId × Value → H) :
    ReturnsInHanded {} Tryz.checked os 5 .any (fun w args => (Rows.indexTextsComeBackSpec.pre enc Tryz.prog Tryz.f5 Rows.indexTextsComeBackRow.domain false w args ∧ laidMetH Tryz.prog Rows.indexTextsComeBackRow.laid w) ∧ sizedMet enc Tryz.prog Tryz.f5 (OpenSpec.ofChange Rows.indexTextsComeBackSpec) false w args)
      (Rows.indexTextsComeBackSpec.post enc Tryz.prog Tryz.f5 false true false false) := by
  refine returnsInHanded_of_change_and (C := Tryz.checked) (X := fun w _ => laidMetH Tryz.prog Rows.indexTextsComeBackRow.laid w) (fun _ _ _ hh h => h.of_heap hh) own started (by kernel_rfl) Tryz.func5
    (ChangeSpec.witness_shaped (enc := enc) (C := Tryz.checked) (os := os) (X := fun w _ => laidMetH Tryz.prog Rows.indexTextsComeBackRow.laid w) false (World.laidAll Tryz.prog os Rows.indexTextsComeBackRow.laid) #[.slice none 0 0, .string ⟨#[]⟩] 8 (World.laidAll_os _ _ _)
      (World.shaped_of_ZipB (by kernel_rfl) (by kernel_rfl)) (by kernel_rfl) (by kernel_rfl) (by kernel_rfl)
      (by rw [MakeChecks.laidMetH_plain _ _ _ (by kernel_rfl)]; exact laidMet_laidAll _ (by kernel_rfl) (by kernel_rfl))) ?_
  intro W base args ds gs before hval hW q1 q2 q3 q4
  refine law_contract (tb := 4) [entriesK, .s] ?_ indexTextsComeBack_plain laidOut ?_ Tryz.underlying4 (by kernel_rfl) rfl ?_ ⟨base, hval⟩ hW (ambT_laid 2 q3 (by kernel_rfl) (by kernel_rfl))
  · rw [Tryz.params5]
    exact ⟨entriesHas, Tryz.underlying9, trivial⟩
  · rw [Tryz.params5]
    intro t ht
    have hall : ([22, 9].all fun t => Tryz.prog.readableRec t && decide (t < Tryz.prog.types.size)) = true := by kernel_rfl
    have := List.all_eq_true.1 hall t (by simpa using ht)
    simp only [Bool.and_eq_true, decide_eq_true_eq] at this
    exact this
  · intro ds hd
    match ds, hd with
    | [_, _], _ => rfl

theorem indexTextsComeBack_said : Rows.IndexTextsComeBackSaid :=
  OpenClaim.holds_of_wide 5 Tryz.f5 rfl rfl rfl rfl rfl rfl rfl ⟨rfl, rfl, rfl, rfl, rfl⟩ rfl rfl rfl rfl rfl (by kernel_rfl) Tryz.func5 (by kernel_rfl)
    (of_decide_eq_true (by kernel_rfl)) (by unfold Func.isWrapper; first | (rw [if_pos (by decide +kernel)]; kernel_rfl) | (rw [if_neg (by decide +kernel)]; exact ⟨rfl, rfl⟩))
    (fun os started H enc _ => indexTextsComeBack_lifted os started H enc)

theorem indexTextsComeBack_holds : Rows.IndexTextsComeBackCardSaid :=
  Claim7.holds_tied_plain_at .later [] [.data, .data, .data, .data, .sentinel, .sentinel, .pinned] true _ true indexTextsComeBack_said (fun _ h => by cases h) (by kernel_rfl) (fun _ h => by cases h) indexTextsComeBack_row_tie rfl ⟨rfl, rfl⟩ (by kernel_rfl) rfl
    (fun f fn hf hfn => by
      obtain rfl : f = 5 := Option.some.inj ((show Tryz.prog.funcNamed Rows.indexTextsComeBackRow.func = some 5 by kernel_rfl).symm.trans hf) |>.symm
      obtain rfl : fn = Tryz.f5 := (Option.some.inj (Tryz.func5.symm.trans hfn)).symm
      exact ⟨by kernel_rfl, fun j t ht => by
        rw [Tryz.params5] at ht
        have hm : t ∈ [22, 9] := by simpa using Array.mem_of_getElem? ht
        have hall : ([22, 9].all fun u => !Tryz.prog.wantsStandIn u) = true := by kernel_rfl
        exact (show Tryz.prog.wantsStandIn t = false by simpa using List.all_eq_true.1 hall t hm)⟩)
    (by kernel_rfl)
#print axioms indexTextsComeBack_holds
end Go.Proofs.YtejhjdpafdpjlaaGreatDoor
