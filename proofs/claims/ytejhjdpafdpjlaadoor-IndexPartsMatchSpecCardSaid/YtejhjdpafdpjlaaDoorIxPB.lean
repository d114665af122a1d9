/- A part of the proof: lemmas and contracts of functions. -/
import Derived.Test.YtejhjdpafdpjlaaDoorIxPA
namespace Go.Proofs.YtejhjdpafdpjlaaDoor
open Go Go.Ab
set_option linter.unusedSectionVars false
variable [Amb]
set_option maxRecDepth 100000
set_option maxHeartbeats 4000000

theorem ref8_checkParts (l : List Part) : ACalls Tryd.prog 24 [partsV l] (.x (.one (.int .i64 (checkP l)))) := by
  refine ACalls.of mixed (fn := Tryd.f24) (by kernel_rfl) (by kernel_rfl) rfl (by kernel_rfl) (by simp [Tryd.f24]) (fun hok => ?_)
  simp -implicitDefEqProofs +contextual [-Bool.and_eq_false_imp, Bool.and_eq_false_iff]
  refine ⟨fun h => ?_, fun h => ?_⟩
  · unfold checkP; rw [if_pos (by omega)]
  have hv : checkP l = partsE none 0 l := by unfold checkP; rw [if_neg (by omega)]
  rw [hv]
  refine ALoopS.of Nat (fun i => [(0, .x (partsV l)), (3, .x (.one (.int .i64 (endP l i)))), (4, .x (.one (.int .i64 i)))]) (UpP l) (fun i => l.length - i) 0 UpP.zero ?_ ?_
  · simp [endP, prevP]
  intro i hi
  by_cases hlt : i < l.length
  · have hbad := hi.bad hlt
    have hst := hi.step hlt
    have hwi : IntKind.i64.wrap ((i : Int) + 1) = (i : Int) + 1 := wrapS _ (by omega)
    obtain ⟨x, ex⟩ : ∃ x, l[i] = x := ⟨_, rfl⟩
    rw [ex] at hbad hst
    obtain ⟨F, eF⟩ : ∃ F, partF (prevP l i) (endP l i) x = F := ⟨_, rfl⟩
    rw [eF] at hbad hst
    unfold partF at eF
    rw [show momentB x.time = inB 0 253402300799 x.time from rfl] at eF
    simp -implicitDefEqProofs [hlt, ex, Part.row]
    refine ACallK.of (ref8_isKey _) ?_
    by_cases h1 : keyB x.key = false
    · rw [if_pos h1] at eF
      subst eF
      simp -implicitDefEqProofs [h1]
      exact hbad (by decide)
    rw [if_neg h1] at eF
    have h1' : keyB x.key = true := by simpa using h1
    simp -implicitDefEqProofs [h1']
    refine ACallK.of (ref8_within _ _ _) ?_
    simp -implicitDefEqProofs
    refine ACallGS.of (fun _ => ref8_within _ _ _) rfl ?_
    simp -implicitDefEqProofs
    refine ACallGS.of (fun _ => ref8_within _ _ _) rfl ?_
    by_cases h2 : inB 0 253402300799 x.time = false ∨ inB 1 1000 x.many = false ∨ inB 0 x.hi x.lo = false ∨ 600000 < x.hi
    · rw [if_pos h2] at eF
      subst eF
      have hb := hbad (by decide)
      cases m1 : inB 0 253402300799 x.time <;> cases m2 : inB 1 1000 x.many <;> cases m3 : inB 0 x.hi x.lo <;> by_cases m4 : 600000 < x.hi <;> first | (exfalso; simp [m1, m2, m3, m4] at h2; done) | skip
      all_goals
        simp -implicitDefEqProofs [m4]
        exact hb
    rw [if_neg h2] at eF
    have m1 : inB 0 253402300799 x.time = true := by cases h : inB 0 253402300799 x.time <;> simp_all
    have m2 : inB 1 1000 x.many = true := by cases h : inB 1 1000 x.many <;> simp_all
    have m3 : inB 0 x.hi x.lo = true := by cases h : inB 0 x.hi x.lo <;> simp_all
    have m4 : (600000 < x.hi) = False := eq_false (by intro h; exact h2 (.inr (.inr (.inr h))))
    by_cases hz : i = 0
    · subst hz
      have hp0 : prevP l 0 = none := rfl
      have he0 : endP l 0 = 0 := rfl
      rw [hp0, he0] at eF
      simp -implicitDefEqProofs [m1, m2, m3, m4]
      refine ACallGS.of (fun h => by cases h) (r := .x (.one (.int .i64 0))) rfl ?_
      by_cases hlo : x.lo = 0
      · rw [if_neg (by simp [hlo])] at eF
        obtain ⟨s1, s2, s3⟩ := hst eF.symm
        simp -implicitDefEqProofs [hlo, he0]
        refine Again.of 1 s1 (by omega) ?_
        simp [s2]
        exact wrapS _ (by omega)
      · rw [if_pos (.inr hlo)] at eF
        subst eF
        simp -implicitDefEqProofs [hlo, he0]
        exact hbad (by decide)
    · have hlt1 : i - 1 < l.length := by omega
      have hw : IntKind.i64.wrap ((i : Int) - 1) = ((i - 1 : Nat) : Int) := by rw [wrapS _ (by omega)]; omega
      have hp : prevP l i = some l[i - 1] := by simp [prevP, hlt1, hz]
      obtain ⟨q, eq⟩ : ∃ q, l[i - 1] = q := ⟨_, rfl⟩
      rw [eq] at hp
      have hpos : ((0 : Int) < (i : Int)) = True := eq_true (by omega)
      have hpos2 : (0 < i) = True := eq_true (by omega)
      rw [hp] at eF
      have eF' : (if 0 < cmpP q x.key x.time ∨ x.lo ≠ endP l i then (8 : Int) else 0) = F := by
        rw [← eF]
        congr 1
        simp
      simp -implicitDefEqProofs [m1, m2, m3, m4, hpos, hw, hlt1, eq]
      refine ACallGS.of (fun _ => ref8_place q x.key x.time) rfl ?_
      by_cases hc : 0 < cmpP q x.key x.time
      · rw [if_pos (.inl hc)] at eF'
        subst eF'
        simp -implicitDefEqProofs [hc, hpos2]
        exact hbad (by decide)
      · by_cases hlo : x.lo = endP l i
        · rw [if_neg (by simp [hc, hlo])] at eF'
          obtain ⟨s1, s2, s3⟩ := hst eF'.symm
          simp -implicitDefEqProofs [hc, hlo, hpos2, hz]
          refine Again.of (i + 1) s1 (by omega) ?_
          simp [s2, hwi]
        · rw [if_pos (.inr hlo)] at eF'
          subst eF'
          simp -implicitDefEqProofs [hc, hlo, hpos2, hz]
          exact hbad (by decide)
  · simp -implicitDefEqProofs [hlt]
    exact hi.done hlt

/-! ### PartOf -/
def spanRow (a b : Int) : List CV := [.int .i64 a, .int .i64 b]
def partOfT (l : List Part) (k : List UInt8) (t : Int) : RV := .tup [.agg (spanRow (partOfR l k t).1 (partOfR l k t).2.1), .one (.bool (partOfR l k t).2.2.1), .one (.int .i64 (partOfR l k t).2.2.2)]
theorem checkP_short {l : List Part} (h : checkP l = 0) : l.length ≤ 1000 := by
  unfold checkP at h
  split at h
  · cases h
  · omega
theorem goP_ge (l : List Part) (k : List UInt8) (t : Int) (j : Nat) : j ≤ goP l k t j := by
  have : ∀ n j, j ≤ nextP l k t n j := by
    intro n
    induction n with
    | zero => intro j; exact Nat.le_refl _
    | succ n ih =>
      intro j
      unfold nextP
      split
      · split
        · have := ih (j + 1); omega
        · exact Nat.le_refl _
      · exact Nat.le_refl _
  exact this _ j
theorem extP_lt {l : List Part} {j : Nat} (h : j < l.length) : j ≤ extP l j ∧ extP l j < l.length := by
  have : ∀ n j, j < l.length → j ≤ sameP l n j ∧ sameP l n j < l.length := by
    intro n
    induction n with
    | zero => intro j h; exact ⟨Nat.le_refl _, h⟩
    | succ n ih =>
      intro j h
      unfold sameP
      split
      · rename_i h1 h2
        split
        · have hj := (List.getElem?_eq_some_iff.1 h2).1
          have := ih (j + 1) hj; omega
        · exact ⟨Nat.le_refl _, h⟩
      · exact ⟨Nat.le_refl _, h⟩
  exact this _ j h
theorem lastP_lt {l : List Part} (k : List UInt8) (t : Int) (h : l ≠ []) : lastP l k t < l.length := by
  have hp : 0 < l.length := List.length_pos_iff.2 h
  unfold lastP
  dsimp only
  split
  · rename_i h; exact (extP_lt h).2
  · omega

theorem index_PartOf (l : List Part) (k : List UInt8) (t : Int) : ACalls Tryd.prog 7 [partsV l, .one (.str k), .one (.int .i64 t)] (partOfT l k t) := by
  unfold partOfT
  refine ACalls.of mixed (fn := Tryd.f7) (by kernel_rfl) (by kernel_rfl) rfl (by kernel_rfl) (by simp [Tryd.f7]) (fun hok => ?_)
  generalize hR : partOfR l k t = R
  unfold partOfR at hR
  have hF : partOfF l k t = if checkP l ≠ 0 then checkP l else if keyB k = false then 3 else if momentB t = false then 1 else 0 := rfl
  simp -implicitDefEqProofs
  refine ACallK.of (index_checkParts l) ?_
  by_cases h1 : checkP l = 0
  rotate_left
  · rw [if_pos h1] at hF
    rw [hF, if_pos h1] at hR
    subst hR
    simp -implicitDefEqProofs [h1, spanRow]
  rw [if_neg (by simp [h1])] at hF
  simp -implicitDefEqProofs [h1]
  refine ACallK.of (isKey _) ?_
  by_cases h2 : keyB k = false
  · rw [if_pos h2] at hF
    rw [hF, if_pos (by decide)] at hR
    subst hR
    simp -implicitDefEqProofs [h2, spanRow]
  rw [if_neg h2] at hF
  have h2' : keyB k = true := by simpa using h2
  simp -implicitDefEqProofs [h2']
  refine ACallK.of (isMoment _) ?_
  by_cases h3 : momentB t = false
  · rw [if_pos h3] at hF
    rw [hF, if_pos (by decide)] at hR
    subst hR
    simp -implicitDefEqProofs [h3, spanRow]
  rw [if_neg h3] at hF
  have h3' : momentB t = true := by simpa using h3
  rw [hF, if_neg (by decide)] at hR
  have hs := checkP_short h1
  by_cases h4 : l = []
  · rw [if_pos h4] at hR
    subst hR
    subst h4
    simp -implicitDefEqProofs [h3', spanRow]
  rw [if_neg h4] at hR
  have hp : 0 < l.length := List.length_pos_iff.2 h4
  have h4' : ((l.length : Int) = 0) = False := eq_false (by omega)
  have h4'' : (l.length = 0) = False := eq_false (by omega)
  simp -implicitDefEqProofs [h3', h4, h4', h4'']
  refine ALoopS.of Nat (fun i => [(0, .x (partsV l)), (1, .x (.one (.str k))), (2, .x (.one (.int .i64 t))), (6, .box [.int .i64 0, .int .i64 0]), (10, .x (.one (.int .i64 (firstP l k t i)))), (32, .x (partsV l)), (33, .x (.one (.int .i64 l.length))), (34, .x (.one (.int .i64 i)))]) (fun i => i ≤ l.length) (fun i => l.length - i) 0 (Nat.zero_le _) ?_ ?_
  · simp [firstP]
  intro i hi
  by_cases hlt : i < l.length
  · have hwi : IntKind.i64.wrap ((i : Int) + 1) = (i : Int) + 1 := wrapS _ (by omega)
    have hst := firstP_step k t hlt
    simp -implicitDefEqProofs [hlt]
    refine ACallK.of (index_compareParts _ _ _) ?_
    by_cases hc : cmpP l[i] k t < 0
    · rw [if_pos hc] at hst
      simp -implicitDefEqProofs [hc]
      refine Again.of (i + 1) hlt (by omega) ?_
      simp [hst, hwi]
    · rw [if_neg hc] at hst
      simp -implicitDefEqProofs [hc]
      refine Again.of (i + 1) hlt (by omega) ?_
      simp [hst, hwi]
  rw [show i = l.length by omega]
  simp -implicitDefEqProofs
  have hfl : firstP l k t l.length < l.length := by have := firstP_le l k t l.length; omega
  have hLdef : lastP l k t = if goP l k t (firstP l k t l.length + 1) < l.length then extP l (goP l k t (firstP l k t l.length + 1)) else l.length - 1 := rfl
  have hsp : spanP l k t = (((l[firstP l k t l.length]?).map Part.lo).getD 0, ((l[lastP l k t]?).map Part.hi).getD 0) := rfl
  have hlast := lastP_lt k t h4
  obtain ⟨a, ea⟩ : ∃ a, firstP l k t l.length = a := ⟨_, rfl⟩
  rw [ea] at hfl hLdef hsp ⊢
  obtain ⟨z, ez⟩ : ∃ z, lastP l k t = z := ⟨_, rfl⟩
  rw [ez] at hLdef hsp hlast
  have hsp1 : (spanP l k t).1 = l[a].lo := by rw [hsp]; simp [hfl]
  have hsp2 : (spanP l k t).2 = l[z].hi := by rw [hsp]; simp [hlast]
  rw [hsp1, hsp2] at hR
  refine ALoopS.of Nat (fun j => [(0, .x (partsV l)), (1, .x (.one (.str k))), (2, .x (.one (.int .i64 t))), (6, .box [.int .i64 0, .int .i64 0]), (10, .x (.one (.int .i64 a))), (13, .x (.one (.int .i64 j)))]) (fun j => j < l.length ∧ (j = a ∨ (a < j ∧ goP l k t (a + 1) = goP l k t j))) (fun j => l.length - j) a ⟨hfl, .inl rfl⟩ ?_ ?_
  · simp
  rintro j ⟨hj, hj2⟩
  have hw1 : IntKind.i64.wrap ((l.length : Int) - 1) = ((l.length - 1 : Nat) : Int) := by rw [wrapS _ (by omega)]; omega
  have hwj : IntKind.i64.wrap ((j : Int) + 1) = ((j + 1 : Nat) : Int) := wrapS _ (by omega)
  -- the loop's condition, and the comparison behind it
  by_cases hend : j < l.length - 1
  · by_cases hja : j = a
    · subst hja
      simp -implicitDefEqProofs [hw1, hend]
      refine ACallGS.of (fun h => by cases h) (r := .x (.one (.int .i64 0))) rfl ?_
      simp -implicitDefEqProofs [hwj]
      refine Again.of (j + 1) ⟨by omega, .inr ⟨by omega, rfl⟩⟩ (by omega) ?_
      simp
    · obtain ⟨hj3, hj4⟩ := hj2.resolve_left hja
      have hja' : ((j : Int) = (a : Int)) = False := eq_false (by omega)
      simp -implicitDefEqProofs [hw1, hend, hja, hja', hj]
      refine ACallGS.of (fun _ => index_compareParts _ _ _) rfl ?_
      by_cases hc : cmpP l[j] k t ≤ 0
      · simp -implicitDefEqProofs [hend, hja, hc, hwj]
        refine Again.of (j + 1) ⟨by omega, .inr ⟨by omega, by rw [hj4, goP_on hj hc]⟩⟩ (by omega) ?_
        simp
      · have hc' : (0 < cmpP l[j] k t) = True := eq_true (by omega)
        have hz : z = extP l j := by rw [hLdef, hj4, goP_at hj hc, if_pos hj]
        simp -implicitDefEqProofs [hend, hja, hja', hc, hj]
        refine ACallK.of (index_compareParts _ _ _) ?_
        simp -implicitDefEqProofs [hc']
        refine ALoopS.of Nat (fun j => [(0, .x (partsV l)), (6, .box [.int .i64 0, .int .i64 0]), (10, .x (.one (.int .i64 a))), (13, .x (.one (.int .i64 j)))]) (fun j => j < l.length ∧ z = extP l j) (fun j => l.length - j) j ⟨hj, hz⟩ ?_ ?_
        · simp
        clear hz hc hc' hj hj2 hj3 hj4 hja hja' hend hwj
        clear j
        rintro j ⟨hj, hz⟩
        have hwj : IntKind.i64.wrap ((j : Int) + 1) = ((j + 1 : Nat) : Int) := wrapS _ (by omega)
        by_cases hend : j < l.length - 1
        · have hj1 : j + 1 < l.length := by omega
          have h0j : (0 ≤ (j : Int) + 1) = True := eq_true (by omega)
          have hj1i : ((j : Int) + 1 < (l.length : Int)) = True := eq_true (by omega)
          simp -implicitDefEqProofs [hw1, hend, hwj, hj, hj1, hj1i, h0j]
          refine ACallGS.of (fun _ => index_compareParts l[j + 1] l[j].key l[j].time) rfl ?_
          by_cases hc : cmpP l[j + 1] l[j].key l[j].time = 0
          · simp -implicitDefEqProofs [hc, hend]
            refine Again.of (j + 1) ⟨hj1, by rw [hz, extP_on hj1 hc]⟩ (by omega) ?_
            simp [hwj]
          · rw [extP_at hj1 hc] at hz
            subst hz
            subst hR
            simp -implicitDefEqProofs [hc, hend, hj, hfl, Part.row, spanRow]
        · rw [extP_end (by omega)] at hz
          subst hz
          subst hR
          simp -implicitDefEqProofs [hw1, hend, hj]
          refine ACallGS.of (fun h => by cases h) (r := .x (.one (.int .i64 0))) rfl ?_
          simp -implicitDefEqProofs [hend, hj, hfl, Part.row, spanRow]
  · have hz : z = j := by
      rw [hLdef]
      rcases hj2 with rfl | ⟨hj3, hj4⟩
      · rw [goP_end (by omega), if_neg (by omega)]; omega
      · rw [hj4]
        by_cases hc : cmpP l[j] k t ≤ 0
        · rw [goP_on hj hc, goP_end (by omega), if_neg (by omega)]; omega
        · rw [goP_at hj hc, if_pos hj, extP_end (by omega)]
    subst hz
    subst hR
    simp -implicitDefEqProofs [hw1, hend]
    refine ACallGS.of (fun h => by cases h) (r := .x (.one (.int .i64 0))) rfl ?_
    simp -implicitDefEqProofs [hend, hj]
    refine ACallK.of (index_compareParts _ _ _) ?_
    by_cases hc : 0 < cmpP l[z] k t
    · simp -implicitDefEqProofs [hc]
      refine ALoopS.of Unit (fun _ => [(0, .x (partsV l)), (6, .box [.int .i64 0, .int .i64 0]), (10, .x (.one (.int .i64 a))), (13, .x (.one (.int .i64 z)))]) (fun _ => True) (fun _ => 0) () trivial ?_ ?_
      · simp
      rintro - -
      simp -implicitDefEqProofs [hw1, hend, hj]
      refine ACallGS.of (fun h => by cases h) (r := .x (.one (.int .i64 0))) rfl ?_
      simp -implicitDefEqProofs [hend, hj, hfl, Part.row, spanRow]
    · simp -implicitDefEqProofs [hc, hj, hfl, Part.row, spanRow]

theorem ref8_PartOf (l : List Part) (k : List UInt8) (t : Int) : ACalls Tryd.prog 8 [partsV l, .one (.str k), .one (.int .i64 t)] (partOfT l k t) := by
  unfold partOfT
  refine ACalls.of mixed (fn := Tryd.f8) (by kernel_rfl) (by kernel_rfl) rfl (by kernel_rfl) (by simp [Tryd.f8]) (fun hok => ?_)
  generalize hR : partOfR l k t = R
  unfold partOfR at hR
  have hF : partOfF l k t = if checkP l ≠ 0 then checkP l else if keyB k = false then 3 else if inB 0 253402300799 t = false then 1 else 0 := rfl
  simp -implicitDefEqProofs
  refine ACallK.of (ref8_checkParts l) ?_
  by_cases h1 : checkP l = 0
  rotate_left
  · rw [if_pos h1] at hF
    rw [hF, if_pos h1] at hR
    subst hR
    simp -implicitDefEqProofs [h1, spanRow]
  rw [if_neg (by simp [h1])] at hF
  simp -implicitDefEqProofs [h1]
  refine ACallK.of (ref8_isKey _) ?_
  by_cases h2 : keyB k = false
  · rw [if_pos h2] at hF
    rw [hF, if_pos (by decide)] at hR
    subst hR
    simp -implicitDefEqProofs [h2, spanRow]
  rw [if_neg h2] at hF
  have h2' : keyB k = true := by simpa using h2
  simp -implicitDefEqProofs [h2']
  refine ACallK.of (ref8_within _ _ _) ?_
  by_cases h3 : inB 0 253402300799 t = false
  · rw [if_pos h3] at hF
    rw [hF, if_pos (by decide)] at hR
    subst hR
    simp -implicitDefEqProofs [h3, spanRow]
  rw [if_neg h3] at hF
  have h3' : inB 0 253402300799 t = true := by simpa using h3
  rw [hF, if_neg (by decide)] at hR
  have hs := checkP_short h1
  by_cases h4 : l = []
  · rw [if_pos h4] at hR
    subst hR
    subst h4
    simp -implicitDefEqProofs [h3', spanRow]
  rw [if_neg h4] at hR
  have hp : 0 < l.length := List.length_pos_iff.2 h4
  have h4' : ((l.length : Int) = 0) = False := eq_false (by omega)
  have h4'' : (l.length = 0) = False := eq_false (by omega)
  simp -implicitDefEqProofs [h3', h4, h4', h4'']
  refine ALoopS.of Nat (fun i => [(0, .x (partsV l)), (1, .x (.one (.str k))), (2, .x (.one (.int .i64 t))), (6, .box [.int .i64 0, .int .i64 0]), (10, .x (.one (.int .i64 (firstP l k t i)))), (11, .x (.one (.int .i64 i)))]) (fun i => i ≤ l.length) (fun i => l.length - i) 0 (Nat.zero_le _) ?_ ?_
  · simp [firstP]
  intro i hi
  by_cases hlt : i < l.length
  · have hwi : IntKind.i64.wrap ((i : Int) + 1) = (i : Int) + 1 := wrapS _ (by omega)
    have hst := firstP_step k t hlt
    simp -implicitDefEqProofs [hlt]
    refine ACallK.of (ref8_place _ _ _) ?_
    by_cases hc : cmpP l[i] k t < 0
    · rw [if_pos hc] at hst
      simp -implicitDefEqProofs [hc]
      refine Again.of (i + 1) hlt (by omega) ?_
      simp [hst, hwi]
    · rw [if_neg hc] at hst
      simp -implicitDefEqProofs [hc]
      refine Again.of (i + 1) hlt (by omega) ?_
      simp [hst, hwi]
  rw [show i = l.length by omega]
  have hfl : firstP l k t l.length < l.length := by have := firstP_le l k t l.length; omega
  have hLdef : lastP l k t = if goP l k t (firstP l k t l.length + 1) < l.length then extP l (goP l k t (firstP l k t l.length + 1)) else l.length - 1 := rfl
  have hsp : spanP l k t = (((l[firstP l k t l.length]?).map Part.lo).getD 0, ((l[lastP l k t]?).map Part.hi).getD 0) := rfl
  have hlast := lastP_lt k t h4
  obtain ⟨a, ea⟩ : ∃ a, firstP l k t l.length = a := ⟨_, rfl⟩
  rw [ea] at hfl hLdef hsp ⊢
  obtain ⟨z, ez⟩ : ∃ z, lastP l k t = z := ⟨_, rfl⟩
  rw [ez] at hLdef hsp hlast
  have hsp1 : (spanP l k t).1 = l[a].lo := by rw [hsp]; simp [hfl]
  have hsp2 : (spanP l k t).2 = l[z].hi := by rw [hsp]; simp [hlast]
  rw [hsp1, hsp2] at hR
  have hw1 : IntKind.i64.wrap ((l.length : Int) - 1) = ((l.length - 1 : Nat) : Int) := by rw [wrapS _ (by omega)]; omega
  have hwa : IntKind.i64.wrap ((a : Int) + 1) = ((a + 1 : Nat) : Int) := wrapS _ (by omega)
  simp -implicitDefEqProofs [hwa]
  refine ALoopS.of Nat (fun j => [(0, .x (partsV l)), (1, .x (.one (.str k))), (2, .x (.one (.int .i64 t))), (6, .box [.int .i64 0, .int .i64 0]), (10, .x (.one (.int .i64 a))), (12, .x (.one (.int .i64 j)))]) (fun j => j ≤ l.length ∧ goP l k t (a + 1) = goP l k t j) (fun j => l.length - j) (a + 1) ⟨hfl, rfl⟩ ?_ ?_
  · simp
  rintro j ⟨hj, hj4⟩
  have hwj : IntKind.i64.wrap ((j : Int) + 1) = ((j + 1 : Nat) : Int) := wrapS _ (by omega)
  by_cases hlt2 : j < l.length
  · have hnge : (l.length ≤ j) = False := eq_false (by omega)
    simp -implicitDefEqProofs [hlt2]
    refine ACallGS.of (fun _ => ref8_place _ _ _) rfl ?_
    by_cases hc : cmpP l[j] k t ≤ 0
    · simp -implicitDefEqProofs [hlt2, hc, hwj]
      refine Again.of (j + 1) ⟨hlt2, by rw [hj4, goP_on hlt2 hc]⟩ (by omega) ?_
      simp
    · have hz : z = extP l j := by rw [hLdef, hj4, goP_at hlt2 hc, if_pos hlt2]
      simp -implicitDefEqProofs [hlt2, hc, hnge]
      refine ALoopS.of Nat (fun j => [(0, .x (partsV l)), (6, .box [.int .i64 0, .int .i64 0]), (10, .x (.one (.int .i64 a))), (12, .x (.one (.int .i64 j)))]) (fun j => j < l.length ∧ z = extP l j) (fun j => l.length - j) j ⟨hlt2, hz⟩ ?_ ?_
      · simp
      clear hz hc hj hj4 hlt2 hnge hwj
      clear j
      rintro j ⟨hj, hz⟩
      have hwj : IntKind.i64.wrap ((j : Int) + 1) = ((j + 1 : Nat) : Int) := wrapS _ (by omega)
      by_cases hj1 : j + 1 < l.length
      · have hj1i : ((j : Int) + 1 < (l.length : Int)) = True := eq_true (by omega)
        have h0j : (0 ≤ (j : Int) + 1) = True := eq_true (by omega)
        simp -implicitDefEqProofs [hwj, hj, hj1, hj1i, h0j]
        refine ACallGS.of (fun _ => ref8_place l[j + 1] l[j].key l[j].time) rfl ?_
        by_cases hc : cmpP l[j + 1] l[j].key l[j].time = 0
        · simp -implicitDefEqProofs [hc, hj1]
          refine Again.of (j + 1) ⟨hj1, by rw [hz, extP_on hj1 hc]⟩ (by omega) ?_
          simp [hwj]
        · rw [extP_at hj1 hc] at hz
          subst hz
          subst hR
          simp -implicitDefEqProofs [hc, hj1, hj1i, hj, hfl, Part.row, spanRow]
      · rw [extP_end hj1] at hz
        subst hz
        subst hR
        have hj1i : ((z : Int) + 1 < (l.length : Int)) = False := eq_false (by omega)
        simp -implicitDefEqProofs [hwj, hj1i, hj]
        refine ACallGS.of (fun h => by cases h) (r := .x (.one (.int .i64 0))) rfl ?_
        simp -implicitDefEqProofs [hj1, hj, hfl, Part.row, spanRow]
  · have hz : z = l.length - 1 := by rw [hLdef, hj4, goP_end hlt2, if_neg hlt2]
    have hge : (l.length ≤ j) = True := eq_true (by omega)
    subst hR
    subst hz
    simp -implicitDefEqProofs [hlt2]
    refine ACallGS.of (fun h => by cases h) (r := .x (.one (.int .i64 0))) rfl ?_
    simp -implicitDefEqProofs [hlt2, hge, hw1, hfl, hlast, Part.row, spanRow]
end Go.Proofs.YtejhjdpafdpjlaaDoor
