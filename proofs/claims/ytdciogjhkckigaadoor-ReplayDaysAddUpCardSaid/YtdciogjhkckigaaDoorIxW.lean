/- A part of the proof: lemmas and contracts of functions. -/
import Derived.Test.YtdciogjhkckigaaDoorIxV
namespace Go.Proofs.YtdciogjhkckigaaDoor
open Go Go.Ab
set_option maxRecDepth 100000
set_option maxHeartbeats 4000000

theorem ref9_within (x a b : Int) : ACalls Tryd.prog 57 [.one (.int .i64 x), .one (.int .i64 a), .one (.int .i64 b)] (.x (.one (.bool (inB a b x)))) := by
  refine ACalls.of mixed (fn := Tryd.f57) (by kernel_rfl) (by kernel_rfl) rfl (by kernel_rfl) (by simp [Tryd.f57]) (fun hok => ?_)
  simp [inB]
theorem ref9_Days (l : List Entry) (k : List UInt8) (a b : Int) : ACalls Tryd.prog 31 [entries l, .one (.str k), .one (.int .i64 a), .one (.int .i64 b)] (.tup [days (daysL l k a b), .one (.int .i64 (daysF l k a b))]) := by
  refine ACalls.of mixed (fn := Tryd.f31) (by kernel_rfl) (by kernel_rfl) rfl (by kernel_rfl) (by simp [Tryd.f31]) (fun hok => ?_)
  generalize hF : daysF l k a b = F
  have hL : daysL l k a b = if F = 0 then daysA a b (withKey l k) else [] := by rw [← hF]; rfl
  unfold daysF at hF
  simp -implicitDefEqProofs +contextual [-Bool.and_eq_false_imp, Bool.and_eq_false_iff]
  refine ACallK.of (ref8_Find l k) ?_
  by_cases hk : keyF l k = 0
  · have hm : findL l k = withKey l k := by unfold findL; rw [if_pos hk]
    rw [if_neg (by simp [hk])] at hF
    rw [hm, hk]
    by_cases hr : a < 0 ∨ b < a ∨ 3000000 < b
    · rw [if_pos hr] at hF
      subst hF
      rw [hL]
      simp -implicitDefEqProofs +contextual [-Bool.and_eq_false_imp, Bool.and_eq_false_iff]
      refine ACallK.of (ref9_within _ _ _) ?_
      simp -implicitDefEqProofs +contextual [-Bool.and_eq_false_imp, Bool.and_eq_false_iff]
      intro h1 h2
      simp [inB] at h1
      omega
    rw [if_neg hr] at hF
    have hent : entriesF l = 0 := by
      unfold keyF at hk
      by_cases h : entriesF l = 0
      · exact h
      · rw [if_pos h] at hk; exact absurd hk h
    have hshort := entriesF_short hent
    obtain ⟨ht, -⟩ := withKey_times k hent
    have hml : (withKey l k).length ≤ 3000 := by
      have := List.length_filter_le (fun e : Entry => decide (e.key = k)) l
      unfold withKey; omega
    obtain ⟨m, em⟩ : ∃ m, m = withKey l k := ⟨_, rfl⟩
    rw [← em] at hF hL ht hml ⊢
    have r1 : (a < 0) = False := eq_false (by omega)
    have r2 : (b < a) = False := eq_false (by omega)
    have r3 : (3000000 < b) = False := eq_false (by omega)
    have r4 : inB 0 b a = true := by simp [inB]; omega
    simp -implicitDefEqProofs
    refine ACallK.of (ref9_within _ _ _) ?_
    simp -implicitDefEqProofs [r1, r2, r3, r4]
    refine ALoopS.of Nat (fun i => [(2, .x (.one (.int .i64 a))), (3, .x (.one (.int .i64 b))), (10, .x (entries m)), (12, .own 54 2 ((daysA a b (m.take i)).map Day.row)), (13, .x (.one (.int .i64 i)))]) (fun i => i ≤ m.length) (fun i => m.length - i) 0 (Nat.zero_le _) ?_ ?_
    · simp [daysA]
    intro i hi
    by_cases hlt : i < m.length
    · have hwr : IntKind.i64.wrap ((i : Int) + 1) = (i : Int) + 1 := wrapS _ (by omega)
      have hst := daysA_snoc a b (m.take i) m[i]
      rw [← List.take_succ_eq_append_getElem hlt] at hst
      obtain ⟨few, hmany⟩ := daysA_few a b (m.take i)
      obtain ⟨out, eo⟩ : ∃ out, out = daysA a b (m.take i) := ⟨_, rfl⟩
      rw [← eo] at hst few hmany ⊢
      rw [List.length_take] at few hmany
      have htm := ht _ (List.getElem_mem hlt)
      have hdiv : m[i].time.tdiv 86400 = m[i].time / 86400 := Int.tdiv_eq_ediv_of_nonneg htm.1
      obtain ⟨d, ed⟩ : ∃ d, d = m[i].time.tdiv 86400 := ⟨_, rfl⟩
      have hw : IntKind.i64.wrap (m[i].time.tdiv 86400) = d := by rw [← ed]; exact wrapS _ (by omega)
      have hd0 : 0 ≤ d ∧ d ≤ 2932896 := by omega
      unfold dayStep at hst
      rw [← ed] at hst
      by_cases hout : d < a ∨ b ≤ d
      · rw [if_pos hout] at hst
        by_cases ha : d < a
        · have s1 : (d < a) = True := eq_true ha
          simp -implicitDefEqProofs [hlt, hw, s1]
          exact Again.of (i + 1) hlt (by omega) (by simp [hst, hwr])
        · have s1 : (d < a) = False := eq_false ha
          have s2 : (b ≤ d) = True := eq_true (by omega)
          simp -implicitDefEqProofs [hlt, hw, s1, s2]
          exact Again.of (i + 1) hlt (by omega) (by simp [hst, hwr])
      rw [if_neg hout] at hst
      have s1 : (d < a) = False := eq_false (by omega)
      have s2 : (b ≤ d) = False := eq_false (by omega)
      by_cases h0 : out.length = 0
      · have : out = [] := List.eq_nil_of_length_eq_zero h0
        subst this
        have hn1 : IntKind.i64.wrap (-1) = -1 := wrapS _ (by omega)
        have hst3 : addDay [] d = [⟨d, 1⟩] := rfl
        simp -implicitDefEqProofs [hlt, hw, s1, s2, hn1]
        exact Again.of (i + 1) hlt (by omega) (by simp [hst, hst3, hwr, Day.row])
      · have hz : out.length - 1 < out.length := by omega
        have hw1 : IntKind.i64.wrap ((out.length : Int) - 1) = ((out.length - 1 : Nat) : Int) := by rw [wrapS _ (by omega)]; omega
        obtain ⟨q, eq⟩ : ∃ q, out[out.length - 1] = q := ⟨_, rfl⟩
        have hq := hmany q (by rw [← eq]; exact List.getElem_mem hz)
        have hst2 : addDay out d = if q.day = d then out.set (out.length - 1) ⟨d, q.many + 1⟩ else out ++ [⟨d, 1⟩] := by
          unfold addDay
          rw [List.getElem?_eq_getElem hz, eq]
        rw [hst2] at hst
        obtain ⟨z, ez⟩ : ∃ z, z = out.length - 1 := ⟨_, rfl⟩
        have hw2 : IntKind.i64.wrap (q.many + 1) = q.many + 1 := wrapS _ (by omega)
        rw [← ez] at hw1 hst
        have hzq : out[z]? = some q := by rw [ez, List.getElem?_eq_getElem hz, eq]
        have hzl : z < out.length := by omega
        have hp1 : (out = []) = False := eq_false (by rintro rfl; exact h0 rfl)
        have hp2 : (0 < out.length) = True := eq_true (by omega)
        have hp3 : ((0 : Int) < (out.length : Int)) = True := eq_true (by omega)
        have hzq' : out[z] = q := (List.getElem?_eq_some_iff.1 hzq).2
        by_cases hqd : q.day = d
        · rw [if_pos hqd] at hst
          simp -implicitDefEqProofs [Day.row, hlt, hw, s1, s2, hw1, hp1, hp2, hp3, hzl, hzq', hqd, hw2]
          refine Again.of (i + 1) hlt (by omega) ?_
          simp [hst, hwr]
          rfl
        · rw [if_neg hqd] at hst
          have hqd2 : (q.day = d) = False := eq_false hqd
          simp -implicitDefEqProofs [Day.row, hlt, hw, s1, s2, hw1, hp1, hp2, hp3, hzl, hzq', hqd2, hw2]
          refine ⟨⟨by omega, by unfold maxLen; omega⟩, Again.of (i + 1) hlt (by omega) ?_⟩
          simp [hst, hwr, Day.row]
    · rw [List.take_of_length_le (by omega)]
      simp -implicitDefEqProofs [hlt]
      refine ⟨fun h => ?_, fun h => ?_⟩
      · rw [if_pos (by omega)] at hF
        subst hF
        exact ⟨hL, rfl⟩
      · rw [if_neg (by omega)] at hF
        subst hF
        rw [hL]
        exact ⟨rfl, rfl⟩
  · rw [if_pos hk] at hF
    have hm : findL l k = [] := by unfold findL; rw [if_neg hk]
    subst hF
    rw [hL, hm, if_neg hk]
    simp -implicitDefEqProofs +contextual [-Bool.and_eq_false_imp, Bool.and_eq_false_iff, hk]

@[simp] theorem day_length (x : Day) : x.row.length = 2 := rfl
@[simp] theorem day_take (x : Day) : List.take 2 x.row = x.row := rfl
@[simp] theorem day_drop (x : Day) : List.drop 0 x.row = x.row := rfl
@[simp] theorem day_fit (a b : Day) : fitCs [.i, .i] a.row b.row = True := by simp [Day.row, fitCs]
theorem day_row_inj {a b : Day} (h : a.row = b.row) : a = b := by
  cases a; cases b
  simp [Day.row] at h
  simp [h]
@[simp] theorem day_eq (a b : Day) : eqCs a.row b.row = decide (a = b) := by
  cases a; cases b
  rw [Bool.eq_iff_iff]
  simp [Day.row, eqCs]
theorem day_eq_of_take {l m : List Day} (hl : l.length = m.length) {i : Nat} (h : ∀ j, j < i → l[j]? = m[j]?) (hge : ¬ i < l.length) : l = m := by
  apply List.ext_getElem?
  intro j
  by_cases hj : j < i
  · exact h j hj
  · rw [List.getElem?_eq_none (by omega), List.getElem?_eq_none (by omega)]

theorem slices_EqualD (l m : List Day) : ACalls Tryd.prog 32 [days l, days m] (.x (.one (.bool (decide (l = m))))) := by
  refine ACalls.of mixed (fn := Tryd.f32) (by kernel_rfl) (by kernel_rfl) rfl (by kernel_rfl) (by simp [Tryd.f32]) (fun hok => ?_)
  have hl : l.length ≤ maxLen := by have := hok _ List.mem_cons_self; simp [XV.ok, CV.ok] at this; exact this.1
  simp -implicitDefEqProofs +contextual [-Bool.and_eq_false_imp, Bool.and_eq_false_iff]
  refine ⟨fun hne => ?_, fun heq => ?_⟩
  · intro e; subst e; exact hne rfl
  have heq' : l.length = m.length := by omega
  refine ALoopS.of Nat (fun i => [(0, .x (.one (.list 2 (l.map Day.row)))), (1, .x (.one (.list 2 (m.map Day.row)))), (12, .x (.one (.int .i64 m.length))), (13, .x (.one (.int .i64 i)))]) (fun i => i ≤ l.length ∧ ∀ j, j < i → l[j]? = m[j]?) (fun i => l.length - i) 0 ⟨Nat.zero_le _, by intro j hj; omega⟩ ?_ ?_
  · simp [heq']
  rintro i ⟨hi, hp⟩
  by_cases hlt : i < l.length
  · have hlt2 : i < m.length := by omega
    simp -implicitDefEqProofs +contextual [-Bool.and_eq_false_imp, Bool.and_eq_false_iff, hlt, hlt2]
    refine ⟨fun hne => ?_, fun he => Again.of (i + 1) ⟨hlt, fun j hj => ?_⟩ (by omega) ?_⟩
    · intro e; subst e; exact hne rfl
    · by_cases hji : j < i
      · exact hp j hji
      · have : j = i := by omega
        subst this
        rw [List.getElem?_eq_getElem hlt, List.getElem?_eq_getElem hlt2, he]
    · simp
      exact wrapS _ (by unfold maxLen at hl; omega)
  · have hlt2 : ¬ i < m.length := by omega
    simp -implicitDefEqProofs [hlt, hlt2]
    exact day_eq_of_take heq' hp hlt
end Go.Proofs.YtdciogjhkckigaaDoor
