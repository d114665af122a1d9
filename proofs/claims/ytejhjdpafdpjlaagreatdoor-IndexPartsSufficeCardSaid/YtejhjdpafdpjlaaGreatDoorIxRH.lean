/- A part of the proof: lemmas and contracts of functions. -/
import Derived.Test.YtejhjdpafdpjlaaGreatDoorIxRG
import Derived.Test.YtejhjdpafdpjlaaGreatDoorIxNS
namespace Go.Proofs.YtejhjdpafdpjlaaGreatDoor
open Go Go.Ab
set_option linter.unusedSectionVars false
variable [Amb] [HasPow10 Tryz.prog]
set_option maxRecDepth 100000
set_option maxHeartbeats 4000000

theorem partsF_ok {l : List Entry} {many : Int} (h : partsF l many = 0) : entriesF l = 0 ∧ linesF l = 0 ∧ textF l = 0 ∧ 0 < many.toNat ∧ partsR l many = partsN l many.toNat (partsM l.length many.toNat) := by
  have hR : partsR l many = partsN l many.toNat (partsM l.length many.toNat) := by unfold partsR; rw [if_pos h]
  unfold partsF at h
  split at h
  · rename_i h1; exact absurd h h1
  · rename_i h1
    split at h
    · rename_i h2; exact absurd h h2
    · rename_i h2
      split at h
      · cases h
      · rename_i h3
        have h3' : inB 1 1000 many = true := by simpa using h3
        simp only [inB, Bool.and_eq_true, decide_eq_true_eq] at h3'
        refine ⟨by omega, by omega, ?_, by omega, hR⟩
        unfold textF; rw [if_neg h1]; omega
theorem partsF_bad {l : List Entry} {many : Int} (h : partsF l many ≠ 0) : partsR l many = [] := by unfold partsR; rw [if_neg h]
theorem nearF_ok {l : List Entry} {k : List UInt8} {t way : Int} (h : nearF l k t way = 0) : keyB k = true ∧ inB 1 3 way = true ∧ momentB t = true := by
  unfold nearF at h
  split at h
  · rename_i h1; exact absurd h h1
  · rename_i h1
    split at h
    · cases h
    · rename_i h2
      split at h
      · cases h
      · rename_i h3
        exact ⟨(keyF_ok (Classical.not_not.1 h1)).2, by simpa using h2, by simpa using h3⟩
theorem nearF_of {l : List Entry} {k : List UInt8} {t way : Int} (h0 : entriesF l = 0) (h1 : keyB k = true) (h2 : inB 1 3 way = true) (h3 : momentB t = true) : nearF l k t way = 0 := by
  unfold nearF keyF
  simp [h0, h1, h2, h3]
/-- What is told of a place in the text, read and looked through. -/
theorem suffice {l : List Entry} {many t way : Int} {k : List UInt8} (hp : partsF l many = 0) (hg : partOfF (partsR l many) k t = 0) (hn : nearF l k t way = 0) :
    (partsR l many = [] ∧ l = []) ∨ (partsR l many ≠ [] ∧ ∃ m : List Entry, 0 ≤ (spanP (partsR l many) k t).1 ∧ (spanP (partsR l many) k t).1 ≤ (spanP (partsR l many) k t).2 ∧ (spanP (partsR l many) k t).2 ≤ (textL l).length ∧
      cutAt (textL l) (spanP (partsR l many) k t).1 (spanP (partsR l many) k t).2 = textAll m ∧ readR (textAll m) = (m, 0, 0) ∧ nearF m k t way = 0 ∧ nearO m k t way = nearO l k t way) := by
  obtain ⟨h1, h2, h3, h4, h5⟩ := partsF_ok hp
  obtain ⟨_, d2, d3, d4⟩ := textF_ok h3
  obtain ⟨k1, k2, k3⟩ := nearF_ok hn
  have hs := (entriesF_sorted h1).1
  by_cases hl : l = []
  · left
    refine ⟨?_, hl⟩
    rw [h5, hl]
    have : partsM ([] : List Entry).length many.toNat = 0 := by
      cases hq : partsM ([] : List Entry).length many.toNat with
      | zero => rfl
      | succ n => have := (partsM_lt (n := ([] : List Entry).length) (k := 0) h4).1 (by omega); simp at this
    rw [this]; rfl
  · right
    obtain ⟨f, g, hfg, hgn, ef, eg, hnear⟩ := parts_suffice (k := k) (t := t) (way := way) hs h4 hl
    have hlen : (partsR l many).length = partsM l.length many.toNat := by rw [h5]; simp
    have hf : ((partsR l many)[f]?).map Part.lo = some (tl l (f * many.toNat) : Int) := by
      rw [h5, List.getElem?_eq_getElem (by simpa using Nat.lt_of_le_of_lt hfg hgn), partsN_at (Nat.lt_of_le_of_lt hfg hgn)]; rfl
    have hgg : ((partsR l many)[g]?).map Part.hi = some (tl l (g * many.toNat + many.toNat) : Int) := by
      rw [h5, List.getElem?_eq_getElem (by simpa using hgn), partsN_at hgn]; rfl
    have e1 : (spanP (partsR l many) k t).1 = (tl l (f * many.toNat) : Int) := by
      unfold spanP
      rw [show firstP (partsR l many) k t (partsR l many).length = f by rw [hlen, h5, ef], hf]; rfl
    have e2 : (spanP (partsR l many) k t).2 = (tl l (g * many.toNat + many.toNat) : Int) := by
      unfold spanP
      rw [show lastP (partsR l many) k t = g by rw [h5, eg], hgg]; rfl
    have hsub := midE_sub l many.toNat f g
    have hm1 : entriesF (midE l many.toNat f g) = 0 := entriesF_sub h1 hsub
    have hm2 : (midE l many.toNat f g).all noDash = true := by
      rw [List.all_eq_true] at d2 ⊢
      exact fun x hx => d2 x (hsub.subset hx)
    have hcut := cut_mid l many.toNat f g hfg
    have hle : tl l (f * many.toNat) ≤ tl l (g * many.toNat + many.toNat) := by
      have hm : f * many.toNat ≤ g * many.toNat + many.toNat := Nat.le_trans (Nat.mul_le_mul_right _ hfg) (Nat.le_add_right _ _)
      obtain ⟨q, hq⟩ := Nat.exists_eq_add_of_le hm
      rw [hq, tl_cut]; omega
    have htl := tl_le l (g * many.toNat + many.toNat)
    refine ⟨fun h0 => ?_, midE l many.toNat f g, by omega, by omega, by rw [d4, e2]; omega, by rw [d4, e1, e2, hcut], ?_, nearF_of hm1 k1 k2 k3, ?_⟩
    · rw [h0] at hlen; simp at hlen; omega
    · refine read_all hm1 hm2 ?_
      rw [← hcut]
      unfold cutAt
      rw [List.length_drop, List.length_take]; omega
    · unfold nearO
      rw [if_pos hn, if_pos (nearF_of hm1 k1 k2 k3), hnear]

theorem lawSuffice (l : List Entry) (many : Int) (k : List UInt8) (t way : Int) : ACalls Tryz.prog 6 [entries l, .one (.int .i64 many), .one (.str k), .one (.int .i64 t), .one (.int .i64 way)] (.x (.one (.bool true))) := by
  refine ACalls.of mixed (fn := Tryz.f6) (by kernel_rfl) (by kernel_rfl) rfl (by kernel_rfl) (by simp [Tryz.f6]) (fun hok => ?_)
  simp -implicitDefEqProofs
  refine ACallK.of (index_Parts l many) ?_
  by_cases hp : partsF l many = 0
  rotate_left
  · have hb := partsF_bad hp
    simp -implicitDefEqProofs [hp, hb]
    refine ACallGS.of (fun _ => law8_awake) rfl ?_
    simp -implicitDefEqProofs
  obtain ⟨p1, p2, p3, p4, p5⟩ := partsF_ok hp
  simp -implicitDefEqProofs [hp]
  refine ACallK.of (index_Text l) ?_
  simp -implicitDefEqProofs [p3]
  refine ACallK.of (index_PartOf (partsR l many) k t) ?_
  unfold partOfT
  simp -implicitDefEqProofs [spanRow]
  refine ACallK.of (index_Near l k t way) ?_
  obtain ⟨A, eA⟩ : ∃ A, A = partOfR (partsR l many) k t := ⟨_, rfl⟩
  rw [← eA]
  by_cases hg : partOfF (partsR l many) k t = 0
  rotate_left
  · have hA : A.2.2.2 ≠ 0 := by
      rw [eA]; unfold partOfR; rw [if_pos hg]; exact hg
    simp -implicitDefEqProofs [p3, hA]
    refine ACallGS.of (fun _ => law8_awake) rfl ?_
    simp -implicitDefEqProofs
    exact .inl (.inl hA)
  unfold partOfR at eA
  rw [if_neg (by simp [hg])] at eA
  by_cases hn : nearF l k t way = 0
  rotate_left
  · have hA : A.2.2.2 = 0 := by
      rw [eA]; split <;> rfl
    simp -implicitDefEqProofs [p3, hA, hn]
    refine ACallGS.of (fun _ => law8_awake) rfl ?_
    simp -implicitDefEqProofs
    exact .inr hn
  rcases suffice hp hg hn with ⟨s1, s2⟩ | ⟨s1, m, s2, s3, s4, s5, s6, s7, s8⟩
  · rw [if_pos s1] at eA
    subst eA
    subst s2
    have hO : nearO [] k t way = none := by unfold nearO; rw [if_pos hn]; cases hw : nearL (withKey [] k) t way with
      | none => rfl
      | some x =>
        exfalso
        unfold nearL withKey lastLe aft pickNear at hw
        simp at hw
    simp -implicitDefEqProofs [p3, hn, hO]
    refine ACallGS.of (fun _ => law8_awake) rfl ?_
    simp -implicitDefEqProofs
  · rw [if_neg s1] at eA
    subst eA
    have b1 : ((spanP (partsR l many) k t).1 < 0) = False := eq_false (by omega)
    have b2 : ((spanP (partsR l many) k t).2 < (spanP (partsR l many) k t).1) = False := eq_false (by omega)
    have b3 : (((textL l).length : Int) < (spanP (partsR l many) k t).2) = False := eq_false (by omega)
    have b4 := eq_true s2
    have b5 := eq_true s3
    have b6 := eq_true s4
    simp -implicitDefEqProofs [p3, hn, b1, b2, b3, b4, b5, b6, s5]
    refine ACallK.of (index_Read (textAll m)) ?_
    unfold readV
    rw [s6]
    simp -implicitDefEqProofs
    refine ACallK.of (index_Near m k t way) ?_
    rw [s7, s8]
    simp -implicitDefEqProofs
    refine ACallGS.of (fun _ => law8_awake) rfl ?_
    simp -implicitDefEqProofs
end Go.Proofs.YtejhjdpafdpjlaaGreatDoor
