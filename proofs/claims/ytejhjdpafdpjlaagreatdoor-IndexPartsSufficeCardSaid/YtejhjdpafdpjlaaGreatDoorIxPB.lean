/- A part of the proof: lemmas and contracts of functions. -/
import Derived.Test.YtejhjdpafdpjlaaGreatDoorIxPA
namespace Go.Proofs.YtejhjdpafdpjlaaGreatDoor
open Go Go.Ab
set_option linter.unusedSectionVars false
variable [Amb]
set_option maxRecDepth 100000
set_option maxHeartbeats 4000000

/-! ### PartOf -/
def spanRow (a b : Int) : List CV := [.int .i64 a, .int .i64 b]
def partOfT (l : List Part) (k : List UInt8) (t : Int) : RV := .tup [.agg (spanRow (partOfR l k t).1 (partOfR l k t).2.1), .one (.bool (partOfR l k t).2.2.1), .one (.int .i64 (partOfR l k t).2.2.2)]
theorem checkP_short {l : List Part} (h : checkP l = 0) : l.length ≤ 1000 := by
  unfold checkP at h
  split at h
  · cases h
  · omega
theorem goP_ge (l : List Part) (k : List UInt8) (t : Int) (j : Nat) : j ≤ goP l k t j := by
  have : ∀ n j, j ≤ nextP l k t n j := by
    intro n
    induction n with
    | zero => intro j; exact Nat.le_refl _
    | succ n ih =>
      intro j
      unfold nextP
      split
      · split
        · have := ih (j + 1); omega
        · exact Nat.le_refl _
      · exact Nat.le_refl _
  exact this _ j
theorem extP_lt {l : List Part} {j : Nat} (h : j < l.length) : j ≤ extP l j ∧ extP l j < l.length := by
  have : ∀ n j, j < l.length → j ≤ sameP l n j ∧ sameP l n j < l.length := by
    intro n
    induction n with
    | zero => intro j h; exact ⟨Nat.le_refl _, h⟩
    | succ n ih =>
      intro j h
      unfold sameP
      split
      · rename_i h1 h2
        split
        · have hj := (List.getElem?_eq_some_iff.1 h2).1
          have := ih (j + 1) hj; omega
        · exact ⟨Nat.le_refl _, h⟩
      · exact ⟨Nat.le_refl _, h⟩
  exact this _ j h
theorem lastP_lt {l : List Part} (k : List UInt8) (t : Int) (h : l ≠ []) : lastP l k t < l.length := by
  have hp : 0 < l.length := List.length_pos_iff.2 h
  unfold lastP
  dsimp only
  split
  · rename_i h; exact (extP_lt h).2
  · omega

theorem index_PartOf (l : List Part) (k : List UInt8) (t : Int) : ACalls Tryz.prog 20 [partsV l, .one (.str k), .one (.int .i64 t)] (partOfT l k t) := by
  unfold partOfT
  refine ACalls.of mixed (fn := Tryz.f20) (by kernel_rfl) (by kernel_rfl) rfl (by kernel_rfl) (by simp [Tryz.f20]) (fun hok => ?_)
  generalize hR : partOfR l k t = R
  unfold partOfR at hR
  have hF : partOfF l k t = if checkP l ≠ 0 then checkP l else if keyB k = false then 3 else if momentB t = false then 1 else 0 := rfl
  simp -implicitDefEqProofs
  refine ACallK.of (index_checkParts l) ?_
  by_cases h1 : checkP l = 0
  rotate_left
  · rw [if_pos h1] at hF
    rw [hF, if_pos h1] at hR
    subst hR
    simp -implicitDefEqProofs [h1, spanRow]
  rw [if_neg (by simp [h1])] at hF
  simp -implicitDefEqProofs [h1]
  refine ACallK.of (isKey _) ?_
  by_cases h2 : keyB k = false
  · rw [if_pos h2] at hF
    rw [hF, if_pos (by decide)] at hR
    subst hR
    simp -implicitDefEqProofs [h2, spanRow]
  rw [if_neg h2] at hF
  have h2' : keyB k = true := by simpa using h2
  simp -implicitDefEqProofs [h2']
  refine ACallK.of (isMoment _) ?_
  by_cases h3 : momentB t = false
  · rw [if_pos h3] at hF
    rw [hF, if_pos (by decide)] at hR
    subst hR
    simp -implicitDefEqProofs [h3, spanRow]
  rw [if_neg h3] at hF
  have h3' : momentB t = true := by simpa using h3
  rw [hF, if_neg (by decide)] at hR
  have hs := checkP_short h1
  by_cases h4 : l = []
  · rw [if_pos h4] at hR
    subst hR
    subst h4
    simp -implicitDefEqProofs [h3', spanRow]
  rw [if_neg h4] at hR
  have hp : 0 < l.length := List.length_pos_iff.2 h4
  have h4' : ((l.length : Int) = 0) = False := eq_false (by omega)
  have h4'' : (l.length = 0) = False := eq_false (by omega)
  simp -implicitDefEqProofs [h3', h4, h4', h4'']
  refine ALoopS.of Nat (fun i => [(0, .x (partsV l)), (1, .x (.one (.str k))), (2, .x (.one (.int .i64 t))), (6, .box [.int .i64 0, .int .i64 0]), (10, .x (.one (.int .i64 (firstP l k t i)))), (32, .x (partsV l)), (33, .x (.one (.int .i64 l.length))), (34, .x (.one (.int .i64 i)))]) (fun i => i ≤ l.length) (fun i => l.length - i) 0 (Nat.zero_le _) ?_ ?_
  · simp [firstP]
  intro i hi
  by_cases hlt : i < l.length
  · have hwi : IntKind.i64.wrap ((i : Int) + 1) = (i : Int) + 1 := wrapS _ (by omega)
    have hst := firstP_step k t hlt
    simp -implicitDefEqProofs [hlt]
    refine ACallK.of (index_compareParts _ _ _) ?_
    by_cases hc : cmpP l[i] k t < 0
    · rw [if_pos hc] at hst
      simp -implicitDefEqProofs [hc]
      refine Again.of (i + 1) hlt (by omega) ?_
      simp [hst, hwi]
    · rw [if_neg hc] at hst
      simp -implicitDefEqProofs [hc]
      refine Again.of (i + 1) hlt (by omega) ?_
      simp [hst, hwi]
  rw [show i = l.length by omega]
  simp -implicitDefEqProofs
  have hfl : firstP l k t l.length < l.length := by have := firstP_le l k t l.length; omega
  have hLdef : lastP l k t = if goP l k t (firstP l k t l.length + 1) < l.length then extP l (goP l k t (firstP l k t l.length + 1)) else l.length - 1 := rfl
  have hsp : spanP l k t = (((l[firstP l k t l.length]?).map Part.lo).getD 0, ((l[lastP l k t]?).map Part.hi).getD 0) := rfl
  have hlast := lastP_lt k t h4
  obtain ⟨a, ea⟩ : ∃ a, firstP l k t l.length = a := ⟨_, rfl⟩
  rw [ea] at hfl hLdef hsp ⊢
  obtain ⟨z, ez⟩ : ∃ z, lastP l k t = z := ⟨_, rfl⟩
  rw [ez] at hLdef hsp hlast
  have hsp1 : (spanP l k t).1 = l[a].lo := by rw [hsp]; simp [hfl]
  have hsp2 : (spanP l k t).2 = l[z].hi := by rw [hsp]; simp [hlast]
  rw [hsp1, hsp2] at hR
  refine ALoopS.of Nat (fun j => [(0, .x (partsV l)), (1, .x (.one (.str k))), (2, .x (.one (.int .i64 t))), (6, .box [.int .i64 0, .int .i64 0]), (10, .x (.one (.int .i64 a))), (13, .x (.one (.int .i64 j)))]) (fun j => j < l.length ∧ (j = a ∨ (a < j ∧ goP l k t (a + 1) = goP l k t j))) (fun j => l.length - j) a ⟨hfl, .inl rfl⟩ ?_ ?_
  · simp
  rintro j ⟨hj, hj2⟩
  have hw1 : IntKind.i64.wrap ((l.length : Int) - 1) = ((l.length - 1 : Nat) : Int) := by rw [wrapS _ (by omega)]; omega
  have hwj : IntKind.i64.wrap ((j : Int) + 1) = ((j + 1 : Nat) : Int) := wrapS _ (by omega)
  -- the loop's condition, and the comparison behind it
  by_cases hend : j < l.length - 1
  · by_cases hja : j = a
    · subst hja
      simp -implicitDefEqProofs [hw1, hend]
      refine ACallGS.of (fun h => by cases h) (r := .x (.one (.int .i64 0))) rfl ?_
      simp -implicitDefEqProofs [hwj]
      refine Again.of (j + 1) ⟨by omega, .inr ⟨by omega, rfl⟩⟩ (by omega) ?_
      simp
    · obtain ⟨hj3, hj4⟩ := hj2.resolve_left hja
      have hja' : ((j : Int) = (a : Int)) = False := eq_false (by omega)
      simp -implicitDefEqProofs [hw1, hend, hja, hja', hj]
      refine ACallGS.of (fun _ => index_compareParts _ _ _) rfl ?_
      by_cases hc : cmpP l[j] k t ≤ 0
      · simp -implicitDefEqProofs [hend, hja, hc, hwj]
        refine Again.of (j + 1) ⟨by omega, .inr ⟨by omega, by rw [hj4, goP_on hj hc]⟩⟩ (by omega) ?_
        simp
      · have hc' : (0 < cmpP l[j] k t) = True := eq_true (by omega)
        have hz : z = extP l j := by rw [hLdef, hj4, goP_at hj hc, if_pos hj]
        simp -implicitDefEqProofs [hend, hja, hja', hc, hj]
        refine ACallK.of (index_compareParts _ _ _) ?_
        simp -implicitDefEqProofs [hc']
        refine ALoopS.of Nat (fun j => [(0, .x (partsV l)), (6, .box [.int .i64 0, .int .i64 0]), (10, .x (.one (.int .i64 a))), (13, .x (.one (.int .i64 j)))]) (fun j => j < l.length ∧ z = extP l j) (fun j => l.length - j) j ⟨hj, hz⟩ ?_ ?_
        · simp
        clear hz hc hc' hj hj2 hj3 hj4 hja hja' hend hwj
        clear j
        rintro j ⟨hj, hz⟩
        have hwj : IntKind.i64.wrap ((j : Int) + 1) = ((j + 1 : Nat) : Int) := wrapS _ (by omega)
        by_cases hend : j < l.length - 1
        · have hj1 : j + 1 < l.length := by omega
          have h0j : (0 ≤ (j : Int) + 1) = True := eq_true (by omega)
          have hj1i : ((j : Int) + 1 < (l.length : Int)) = True := eq_true (by omega)
          simp -implicitDefEqProofs [hw1, hend, hwj, hj, hj1, hj1i, h0j]
          refine ACallGS.of (fun _ => index_compareParts l[j + 1] l[j].key l[j].time) rfl ?_
          by_cases hc : cmpP l[j + 1] l[j].key l[j].time = 0
          · simp -implicitDefEqProofs [hc, hend]
            refine Again.of (j + 1) ⟨hj1, by rw [hz, extP_on hj1 hc]⟩ (by omega) ?_
            simp [hwj]
          · rw [extP_at hj1 hc] at hz
            subst hz
            subst hR
            simp -implicitDefEqProofs [hc, hend, hj, hfl, Part.row, spanRow]
            refine AltR.l ⟨by kernel_rfl, ?_⟩
            simp -implicitDefEqProofs [hc, hend, hj, hfl, Part.row, spanRow]
        · rw [extP_end (by omega)] at hz
          subst hz
          subst hR
          simp -implicitDefEqProofs [hw1, hend, hj]
          refine ACallGS.of (fun h => by cases h) (r := .x (.one (.int .i64 0))) rfl ?_
          simp -implicitDefEqProofs [hend, hj, hfl, Part.row, spanRow]
          refine AltR.l ⟨by kernel_rfl, ?_⟩
          simp -implicitDefEqProofs [hend, hj, hfl, Part.row, spanRow]
  · have hz : z = j := by
      rw [hLdef]
      rcases hj2 with rfl | ⟨hj3, hj4⟩
      · rw [goP_end (by omega), if_neg (by omega)]; omega
      · rw [hj4]
        by_cases hc : cmpP l[j] k t ≤ 0
        · rw [goP_on hj hc, goP_end (by omega), if_neg (by omega)]; omega
        · rw [goP_at hj hc, if_pos hj, extP_end (by omega)]
    subst hz
    subst hR
    simp -implicitDefEqProofs [hw1, hend]
    refine ACallGS.of (fun h => by cases h) (r := .x (.one (.int .i64 0))) rfl ?_
    simp -implicitDefEqProofs [hend, hj]
    refine ACallK.of (index_compareParts _ _ _) ?_
    by_cases hc : 0 < cmpP l[z] k t
    · simp -implicitDefEqProofs [hc]
      refine ALoopS.of Unit (fun _ => [(0, .x (partsV l)), (6, .box [.int .i64 0, .int .i64 0]), (10, .x (.one (.int .i64 a))), (13, .x (.one (.int .i64 z)))]) (fun _ => True) (fun _ => 0) () trivial ?_ ?_
      · simp
      rintro - -
      simp -implicitDefEqProofs [hw1, hend, hj]
      refine ACallGS.of (fun h => by cases h) (r := .x (.one (.int .i64 0))) rfl ?_
      simp -implicitDefEqProofs [hend, hj, hfl, Part.row, spanRow]
      refine AltR.l ⟨by kernel_rfl, ?_⟩
      simp -implicitDefEqProofs [hend, hj, hfl, Part.row, spanRow]
    · simp -implicitDefEqProofs [hc, hj, hfl, Part.row, spanRow]
      refine AltR.l ⟨by kernel_rfl, ?_⟩
      simp -implicitDefEqProofs [hc, hj, hfl, Part.row, spanRow]

end Go.Proofs.YtejhjdpafdpjlaaGreatDoor
