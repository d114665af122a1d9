/- A part of the proof: lemmas and contracts of functions. -/
import Derived.Test.YtejhjdpafdpjlaaGreatDoorIxRF
import Derived.Test.YtejhjdpafdpjlaaGreatDoorIxPB
import Derived.Test.YtejhjdpafdpjlaaGreatDoorIxPC
namespace Go.Proofs.YtejhjdpafdpjlaaGreatDoor
open Go Go.Ab
set_option linter.unusedSectionVars false
variable [Amb] [HasPow10 Tryz.prog]
set_option maxRecDepth 100000
set_option maxHeartbeats 4000000

theorem ref8_Read (t : List UInt8) : ACalls Tryz.prog 17 [.one (.str t)] (readV t) := by
  refine ACalls.of mixed (fn := Tryz.f17) (by kernel_rfl) (by kernel_rfl) rfl (by kernel_rfl) (by simp [Tryz.f17]) (fun hok => ?_)
  unfold readV
  obtain ⟨R, eR⟩ : ∃ R, R = readR t := ⟨_, rfl⟩
  rw [← eR]
  by_cases hl : 600000 < t.length
  · rw [readR_long hl] at eR
    subst eR
    have hl' : (600000 < (t.length : Int)) = True := eq_true (by omega)
    simp -implicitDefEqProofs [hl, hl']
  · have hl' : (600000 < (t.length : Int)) = False := eq_false (by omega)
    have hle : t.length ≤ 600000 := by omega
    simp -implicitDefEqProofs [hl, hl']
    refine ALoopS.of (List Entry × List UInt8) (fun x => [(0, .x (.one (.str x.2))), (5, .own 30 9 (x.1.map Entry.row))]) (ReadAt t) (fun x => x.2.length) ([], t) (ReadAt.zero t) ?_ ?_
    · simp
    rintro ⟨out, r⟩ hI
    have hn := hI.len
    simp only at hn
    have hw1 : IntKind.i64.wrap ((out.length : Int) + 1) = (out.length : Int) + 1 := wrapS _ (by omega)
    by_cases hr : r = []
    · have hs := hI.done hr
      rw [readR_okE hle hs] at eR
      subst hr
      simp -implicitDefEqProofs
      refine ACallK.of (ref8_checkEntries out) ?_
      by_cases he : entriesF out = 0
      · rw [if_pos he] at eR
        subst eR
        simp -implicitDefEqProofs [he]
      · rw [if_neg he] at eR
        subst eR
        simp -implicitDefEqProofs [he]
    · simp -implicitDefEqProofs [hr]
      refine ACallK.of (strings_Cut1 r 10) ?_
      have hbl := befC_le 10 r
      simp -implicitDefEqProofs
      refine ACallK.of (ref8_entryAt _ (by omega)) ?_
      by_cases h10 : 10 ∈ r
      · have ha := aftC_len h10
        cases hx : (entryX (befC 10 r)).2 with
        | true =>
          simp -implicitDefEqProofs [h10]
          refine ⟨⟨by omega, by unfold maxLen; omega⟩, Again.of (out ++ [(entryX (befC 10 r)).1], aftC 10 r) (hI.step h10 hx) ha ?_⟩
          simp
        | false =>
          rw [readR_err hle (hI.bad hr (.inr hx))] at eR
          subst eR
          simp -implicitDefEqProofs [h10, hw1]
      · rw [readR_err hle (hI.bad hr (.inl h10))] at eR
        subst eR
        simp -implicitDefEqProofs [h10, hw1]

theorem lawReads (t : List UInt8) : ACalls Tryz.prog 4 [.one (.str t)] (.x (.one (.bool true))) := by
  refine ACalls.of mixed (fn := Tryz.f4) (by kernel_rfl) (by kernel_rfl) rfl (by kernel_rfl) (by simp [Tryz.f4]) (fun hok => ?_)
  simp -implicitDefEqProofs
  refine ACallK.of (index_Read t) ?_
  unfold readV
  simp -implicitDefEqProofs
  refine ACallK.of (ref8_Read t) ?_
  unfold readV
  simp -implicitDefEqProofs
  refine ACallK.of (slices_Equal _ _) ?_
  simp -implicitDefEqProofs
  refine ACallGS.of (fun _ => law8_awake) rfl ?_
  simp -implicitDefEqProofs

theorem lawTexts (l : List Entry) (t : List UInt8) : ACalls Tryz.prog 5 [entries l, .one (.str t)] (.x (.one (.bool true))) := by
  refine ACalls.of mixed (fn := Tryz.f5) (by kernel_rfl) (by kernel_rfl) rfl (by kernel_rfl) (by simp [Tryz.f5]) (fun hok => ?_)
  simp -implicitDefEqProofs
  refine ACallK.of (index_Text l) ?_
  have go : ∀ K : St → Prop, True := fun _ => trivial
  by_cases h : textF l = 0
  · have hr := read_text h
    simp -implicitDefEqProofs [h]
    refine ACallK.of (index_Read (textL l)) ?_
    unfold readV
    rw [hr]
    simp -implicitDefEqProofs
    refine ACallGS.of (fun _ => slices_Equal l l) rfl ?_
    simp -implicitDefEqProofs
    refine ACallK.of (index_Read t) ?_
    unfold readV
    by_cases ht : (readR t).2.2 = 0
    · obtain ⟨h1, h2⟩ := text_read ht
      simp -implicitDefEqProofs [ht]
      refine ACallK.of (index_Text (readR t).1) ?_
      simp -implicitDefEqProofs [h1, h2]
      refine ACallGS.of (fun _ => law8_awake) rfl ?_
      simp -implicitDefEqProofs
    · have hb := readR_bad ht
      simp -implicitDefEqProofs [ht, hb]
      refine ACallGS.of (fun _ => law8_awake) rfl ?_
      simp -implicitDefEqProofs
  · simp -implicitDefEqProofs [h]
    refine ACallK.of (index_Read t) ?_
    unfold readV
    by_cases ht : (readR t).2.2 = 0
    · obtain ⟨h1, h2⟩ := text_read ht
      simp -implicitDefEqProofs [ht]
      refine ACallK.of (index_Text (readR t).1) ?_
      simp -implicitDefEqProofs [h1, h2]
      refine ACallGS.of (fun _ => law8_awake) rfl ?_
      simp -implicitDefEqProofs
    · have hb := readR_bad ht
      simp -implicitDefEqProofs [ht, hb]
      refine ACallGS.of (fun _ => law8_awake) rfl ?_
      simp -implicitDefEqProofs
end Go.Proofs.YtejhjdpafdpjlaaGreatDoor
