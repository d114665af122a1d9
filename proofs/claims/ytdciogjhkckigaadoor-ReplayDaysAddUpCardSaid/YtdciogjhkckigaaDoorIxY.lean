/- A part of the proof: lemmas and contracts of functions. -/
import Derived.Test.YtdciogjhkckigaaDoorIxX
namespace Go.Proofs.YtdciogjhkckigaaDoor
open Go Go.Ab
set_option maxRecDepth 100000
set_option maxHeartbeats 4000000

theorem addDay_snoc (o : List Day) (q : Day) (d : Int) : addDay (o ++ [q]) d = if q.day = d then o ++ [⟨d, q.many + 1⟩] else o ++ [q] ++ [⟨d, 1⟩] := by
  unfold addDay
  have h : (o ++ [q])[(o ++ [q]).length - 1]? = some q := by simp
  rw [h]
  simp only
  split
  · simp
  · rfl
theorem addDay_nil (d : Int) : addDay [] d = [⟨d, 1⟩] := rfl
def sumM (o : List Day) : Int := (o.map Day.many).sum
theorem sumM_snoc (o : List Day) (q : Day) : sumM (o ++ [q]) = sumM o + q.many := by simp [sumM]
theorem snoc_of {α : Type} {l : List α} (h : l ≠ []) : ∃ o q, l = o ++ [q] := ⟨l.dropLast, l.getLast h, (List.dropLast_concat_getLast h).symm⟩
theorem daysA_all : ∀ (p : List Entry), TimesOk p → p.Pairwise (fun a b => a.time ≤ b.time) →
    (daysA 0 3000000 p).Pairwise (fun x y => x.day < y.day) ∧ sumM (daysA 0 3000000 p) = p.length ∧ ∀ x ∈ daysA 0 3000000 p, ∃ e ∈ p, x.day = e.time / 86400 := by
  intro p
  refine snocInd (P := fun p => TimesOk p → p.Pairwise (fun a b => a.time ≤ b.time) → (daysA 0 3000000 p).Pairwise (fun x y => x.day < y.day) ∧ sumM (daysA 0 3000000 p) = p.length ∧ ∀ x ∈ daysA 0 3000000 p, ∃ e ∈ p, x.day = e.time / 86400) ?_ ?_ p
  · intro _ _
    exact ⟨List.Pairwise.nil, rfl, fun x h => (by cases h)⟩
  rintro p e ih ht hp
  have hte := ht e (by simp)
  obtain ⟨hp1, -, hp2⟩ := List.pairwise_append.1 hp
  obtain ⟨i1, i2, i3⟩ := ih (fun x hx => ht x (by simp [hx])) hp1
  have hdiv : e.time.tdiv 86400 = e.time / 86400 := Int.tdiv_eq_ediv_of_nonneg hte.1
  rw [daysA_snoc]
  have hle : ∀ x ∈ daysA 0 3000000 p, x.day ≤ e.time / 86400 := by
    intro x hx
    obtain ⟨y, hy, hxy⟩ := i3 x hx
    have := hp2 y hy e (by simp)
    omega
  generalize daysA 0 3000000 p = out at i1 i2 i3 hle
  unfold dayStep
  rw [hdiv, if_neg (by omega)]
  generalize hd : e.time / 86400 = d at hle
  have i3' : ∀ x ∈ out, ∃ y ∈ p ++ [e], x.day = y.time / 86400 := fun x hx => by
    obtain ⟨y, hy, hxy⟩ := i3 x hx
    exact ⟨y, by simp [hy], hxy⟩
  by_cases ho : out = []
  · subst ho
    rw [addDay_nil]
    refine ⟨by simp, ?_, fun x hx => ⟨e, by simp, ?_⟩⟩
    · have : (p.length : Int) = 0 := by rw [← i2]; rfl
      rw [List.length_append]
      simp [sumM]; omega
    · simp at hx; subst hx; exact hd.symm
  · obtain ⟨o, q, rfl⟩ := snoc_of ho
    rw [addDay_snoc]
    obtain ⟨j1, -, j2⟩ := List.pairwise_append.1 i1
    rw [sumM_snoc] at i2
    split
    · rename_i hq
      refine ⟨List.pairwise_append.2 ⟨j1, by simp, fun x hx y hy => ?_⟩, ?_, fun x hx => ?_⟩
      · simp at hy; subst hy
        have := j2 x hx q (by simp)
        simp only; omega
      · rw [sumM_snoc, List.length_append, List.length_singleton]
        simp only; omega
      · rcases List.mem_append.1 hx with hx | hx
        · exact i3' x (by simp [hx])
        · simp at hx; subst hx; exact ⟨e, by simp, hd.symm⟩
    · rename_i hq
      have hql := hle q (by simp)
      refine ⟨List.pairwise_append.2 ⟨i1, by simp, fun x hx y hy => ?_⟩, ?_, fun x hx => ?_⟩
      · simp at hy; subst hy
        simp only
        rcases List.mem_append.1 hx with hx | hx
        · have := j2 x hx q (by simp)
          omega
        · simp at hx; subst hx; omega
      · rw [sumM_snoc, sumM_snoc, List.length_append, List.length_singleton]
        simp only; omega
      · rcases List.mem_append.1 hx with hx | hx
        · exact i3' x hx
        · simp at hx; subst hx; exact ⟨e, by simp, hd.symm⟩

theorem sumM_take (o : List Day) {i : Nat} (h : i < o.length) : sumM (o.take (i + 1)) = sumM (o.take i) + o[i].many := by
  rw [List.take_succ_eq_append_getElem h, sumM_snoc]
theorem sumM_pos (o : List Day) (h : ∀ x ∈ o, 1 ≤ x.many) (i : Nat) : 0 ≤ sumM (o.take i) ∧ sumM (o.take i) ≤ sumM o := by
  have nn : ∀ o : List Day, (∀ x ∈ o, 1 ≤ x.many) → 0 ≤ sumM o := by
    intro o
    induction o with
    | nil => intro _; exact Int.le_refl _
    | cons x r ih =>
      intro h
      have := ih (fun y hy => h y (by simp [hy]))
      have := h x (by simp)
      simp [sumM] at *; omega
  have hsplit : sumM o = sumM (o.take i) + sumM (o.drop i) := by
    conv => lhs; rw [← List.take_append_drop i o]
    simp only [sumM, List.map_append, List.sum_append]
  have h1 := nn (o.take i) (fun x hx => h x (List.mem_of_mem_take hx))
  have h2 := nn (o.drop i) (fun x hx => h x (List.mem_of_mem_drop hx))
  omega

theorem lawDaysAdd (l : List Entry) (k : List UInt8) : ACalls Tryd.prog 9 [entries l, .one (.str k)] (.x (.one (.bool true))) := by
  refine ACalls.of mixed (fn := Tryd.f9) (by kernel_rfl) (by kernel_rfl) rfl (by kernel_rfl) (by simp [Tryd.f9]) (fun hok => ?_)
  simp -implicitDefEqProofs +contextual [-Bool.and_eq_false_imp, Bool.and_eq_false_iff]
  refine ACallK.of (replay_Days l k 0 3000000) ?_
  by_cases hF : daysF l k 0 3000000 = 0
  · have hF' := hF
    unfold daysF at hF'
    by_cases hk : keyF l k = 0
    · rw [if_neg (by simp [hk])] at hF'
      have hent : entriesF l = 0 := by
        unfold keyF at hk
        by_cases h : entriesF l = 0
        · exact h
        · rw [if_pos h] at hk; exact absurd hk h
      have hshort := entriesF_short hent
      obtain ⟨ht, hpt⟩ := withKey_times k hent
      obtain ⟨a1, a2, -⟩ := daysA_all _ ht hpt
      obtain ⟨a0, a3⟩ := daysA_few 0 3000000 (withKey l k)
      have hml : (withKey l k).length ≤ l.length := List.length_filter_le _ _
      have hx : daysL l k 0 3000000 = daysA 0 3000000 (withKey l k) := by unfold daysL; rw [if_pos hF]
      rw [hF, hx]
      generalize daysA 0 3000000 (withKey l k) = x at a0 a1 a2 a3
      have a4 : ∀ y ∈ x, 1 ≤ y.many := fun y hy => (a3 y hy).1
      have hxl : x.length ≤ 3000 := by omega
      simp -implicitDefEqProofs +contextual [-Bool.and_eq_false_imp, Bool.and_eq_false_iff]
      refine ALoopS.of Nat (fun i => [(0, .x (entries l)), (1, .x (.one (.str k))), (5, .x (days x)), (7, .x (.one (.int .i64 (sumM (x.take i))))), (8, .x (.one (.int .i64 i)))]) (fun i => i ≤ x.length) (fun i => x.length - i) 0 (Nat.zero_le _) ?_ ?_
      · simp [sumM]
      intro i hi
      by_cases hlt : i < x.length
      · have hwr : IntKind.i64.wrap ((i : Int) + 1) = (i : Int) + 1 := wrapS _ (by omega)
        have hst := sumM_take x hlt
        have hs1 := sumM_pos x a4 i
        have hs2 := sumM_pos x a4 (i + 1)
        have hws : IntKind.i64.wrap (sumM (x.take i) + x[i].many) = sumM (x.take (i + 1)) := by rw [hst]; exact wrapS _ (by omega)
        have hm1 : (x[i].many < 1) = False := eq_false (by have := a4 _ (List.getElem_mem hlt); omega)
        by_cases h0 : i = 0
        · have g6 : (0 < i) = False := eq_false (by omega)
          have hw0 : (IntKind.i64.wrap ((i : Int) - 1)).toNat = i := by rw [wrapS _ (by omega)]; omega
          simp -implicitDefEqProofs [Day.row, hlt, hm1, g6, hw0, hws]
          exact Again.of (i + 1) hlt (by omega) (by simp [hwr])
        · have g6 : (0 < i) = True := eq_true (by omega)
          have hw : IntKind.i64.wrap ((i : Int) - 1) = ((i - 1 : Nat) : Int) := by rw [wrapS _ (by omega)]; omega
          have hi1 : i - 1 < x.length := by omega
          have hd := (List.pairwise_iff_getElem.1 a1) (i - 1) i hi1 hlt (by omega)
          have g7 : (x[i].day ≤ x[i - 1].day) = False := eq_false (by omega)
          simp -implicitDefEqProofs [Day.row, hlt, hm1, g6, g7, hw, hi1, hws]
          exact Again.of (i + 1) hlt (by omega) (by simp [hwr])
      · simp -implicitDefEqProofs [hlt]
        rw [show x.take i = x from List.take_of_length_le (by omega), a2]
        have hcnt : ∀ i, (withKey (l.take i) k).length ≤ (withKey l k).length := fun i => ((List.take_sublist i l).filter _).length_le
        refine ALoopS.of Nat (fun i => [(0, .x (entries l)), (1, .x (.one (.str k))), (7, .x (.one (.int .i64 ((withKey l k).length - (withKey (l.take i) k).length)))), (9, .x (.one (.int .i64 i)))]) (fun i => i ≤ l.length) (fun i => l.length - i) 0 (Nat.zero_le _) ?_ ?_
        · simp [withKey]
        intro j hj
        by_cases hlt2 : j < l.length
        · have hwr : IntKind.i64.wrap ((j : Int) + 1) = (j : Int) + 1 := wrapS _ (by omega)
          have hstep : withKey (l.take (j + 1)) k = withKey (l.take j) k ++ (if l[j].key = k then [l[j]] else []) := by
            unfold withKey
            rw [List.take_succ_eq_append_getElem hlt2, List.filter_append]
            congr 1
            simp only [List.filter_cons, List.filter_nil, decide_eq_true_eq]
          have hc1 := hcnt j
          have hc2 := hcnt (j + 1)
          simp -implicitDefEqProofs [hlt2]
          refine ⟨fun he => ?_, fun he => ?_⟩
          · rw [if_pos he] at hstep
            have hs1 := congrArg List.length hstep
            rw [List.length_append, List.length_singleton] at hs1
            have hw3 : IntKind.i64.wrap (((withKey l k).length : Int) - ((withKey (l.take j) k).length : Int) - 1) = ((withKey l k).length : Int) - ((withKey (l.take (j + 1)) k).length : Int) := by rw [wrapS _ (by omega)]; omega
            exact Again.of (j + 1) hlt2 (by omega) (by simp [hwr, hw3])
          · rw [if_neg he, List.append_nil] at hstep
            exact Again.of (j + 1) hlt2 (by omega) (by simp [hwr, hstep])
        · rw [show l.take j = l from List.take_of_length_le (by omega)]
          simp -implicitDefEqProofs [hlt2]
          refine ACallGS.of (fun _ => law9_awake) rfl ?_
          simp -implicitDefEqProofs +contextual [-Bool.and_eq_false_imp, Bool.and_eq_false_iff]
    · rw [if_pos hk] at hF'
      exact absurd hF' hk
  · have hx : daysL l k 0 3000000 = [] := by unfold daysL; rw [if_neg hF]
    rw [hx]
    simp -implicitDefEqProofs +contextual [-Bool.and_eq_false_imp, Bool.and_eq_false_iff, hF]
    refine ACallGS.of (fun _ => law9_awake) rfl ?_
    simp -implicitDefEqProofs +contextual [-Bool.and_eq_false_imp, Bool.and_eq_false_iff]
end Go.Proofs.YtdciogjhkckigaaDoor
