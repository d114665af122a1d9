/- A part of the proof: lemmas and contracts of functions. -/
import Derived.Test.YtdciogjhkckigaaDoorIxM
namespace Go.Proofs.YtdciogjhkckigaaDoor
open Go Go.Ab
set_option maxRecDepth 100000
set_option maxHeartbeats 4000000

structure Day where
  day : Int
  many : Int
  deriving DecidableEq
def Day.row (x : Day) : List CV := [.int .i64 x.day, .int .i64 x.many]
abbrev days (l : List Day) : XV := .one (.list 2 (l.map Day.row))
def addDay (out : List Day) (d : Int) : List Day :=
  match out[out.length - 1]? with
  | some x => if x.day = d then out.set (out.length - 1) ⟨d, x.many + 1⟩ else out ++ [⟨d, 1⟩]
  | none => out ++ [⟨d, 1⟩]
def dayStep (a b : Int) (out : List Day) (e : Entry) : List Day :=
  if e.time.tdiv 86400 < a ∨ b ≤ e.time.tdiv 86400 then out else addDay out (e.time.tdiv 86400)
def daysA (a b : Int) (p : List Entry) : List Day := p.foldl (dayStep a b) []
theorem daysA_snoc (a b : Int) (p : List Entry) (e : Entry) : daysA a b (p ++ [e]) = dayStep a b (daysA a b p) e := by simp [daysA, List.foldl_append]
theorem daysA_few (a b : Int) (p : List Entry) : (daysA a b p).length ≤ p.length ∧ ∀ x ∈ daysA a b p, 1 ≤ x.many ∧ x.many ≤ p.length := by
  refine snocInd (P := fun p => (daysA a b p).length ≤ p.length ∧ ∀ x ∈ daysA a b p, 1 ≤ x.many ∧ x.many ≤ p.length) ⟨Nat.zero_le _, fun x h => (by cases h)⟩ ?_ p
  rintro p e ⟨h1, h2⟩
  rw [daysA_snoc]
  generalize daysA a b p = out at h1 h2
  have h3 : ∀ x ∈ out, 1 ≤ x.many ∧ x.many ≤ (p ++ [e]).length := fun x hx => by
    have := h2 x hx
    rw [List.length_append, List.length_singleton]; omega
  have h4 : (out ++ [(⟨e.time.tdiv 86400, 1⟩ : Day)]).length ≤ (p ++ [e]).length ∧ ∀ x ∈ out ++ [(⟨e.time.tdiv 86400, 1⟩ : Day)], 1 ≤ x.many ∧ x.many ≤ (p ++ [e]).length := by
    refine ⟨by simp; omega, fun x hx => ?_⟩
    rcases List.mem_append.1 hx with hx | hx
    · exact h3 x hx
    · simp at hx; subst hx; simp; omega
  unfold dayStep
  split
  · exact ⟨by rw [List.length_append]; omega, h3⟩
  · unfold addDay
    cases hq : out[out.length - 1]? with
    | none => exact h4
    | some q =>
      simp only
      split
      · refine ⟨by rw [List.length_set, List.length_append]; omega, fun x hx => ?_⟩
        rcases List.mem_or_eq_of_mem_set hx with hx | hx
        · exact h3 x hx
        · have := h2 q (List.mem_of_getElem? hq)
          subst hx
          simp; omega
      · exact h4

def daysF (l : List Entry) (k : List UInt8) (a b : Int) : Int :=
  if keyF l k ≠ 0 then keyF l k else if a < 0 ∨ b < a ∨ 3000000 < b then 1 else if 366 < (daysA a b (withKey l k)).length then 2 else 0
def daysL (l : List Entry) (k : List UInt8) (a b : Int) : List Day := if daysF l k a b = 0 then daysA a b (withKey l k) else []

theorem replay_Days (l : List Entry) (k : List UInt8) (a b : Int) : ACalls Tryd.prog 29 [entries l, .one (.str k), .one (.int .i64 a), .one (.int .i64 b)] (.tup [days (daysL l k a b), .one (.int .i64 (daysF l k a b))]) := by
  refine ACalls.of mixed (fn := Tryd.f29) (by kernel_rfl) (by kernel_rfl) rfl (by kernel_rfl) (by simp [Tryd.f29]) (fun hok => ?_)
  generalize hF : daysF l k a b = F
  have hL : daysL l k a b = if F = 0 then daysA a b (withKey l k) else [] := by rw [← hF]; rfl
  unfold daysF at hF
  simp -implicitDefEqProofs +contextual [-Bool.and_eq_false_imp, Bool.and_eq_false_iff]
  refine ACallK.of (index_Find l k) ?_
  by_cases hk : keyF l k = 0
  · have hm : findL l k = withKey l k := by unfold findL; rw [if_pos hk]
    rw [if_neg (by simp [hk])] at hF
    rw [hm, hk]
    by_cases hr : a < 0 ∨ b < a ∨ 3000000 < b
    · rw [if_pos hr] at hF
      subst hF
      rw [hL]
      simp -implicitDefEqProofs +contextual [-Bool.and_eq_false_imp, Bool.and_eq_false_iff]
      omega
    rw [if_neg hr] at hF
    have hent : entriesF l = 0 := by
      unfold keyF at hk
      by_cases h : entriesF l = 0
      · exact h
      · rw [if_pos h] at hk; exact absurd hk h
    have hshort := entriesF_short hent
    obtain ⟨ht, -⟩ := withKey_times k hent
    have hml : (withKey l k).length ≤ 3000 := by
      have := List.length_filter_le (fun e : Entry => decide (e.key = k)) l
      unfold withKey; omega
    obtain ⟨m, em⟩ : ∃ m, m = withKey l k := ⟨_, rfl⟩
    rw [← em] at hF hL ht hml ⊢
    have r1 : (a < 0) = False := eq_false (by omega)
    have r2 : (b < a) = False := eq_false (by omega)
    have r3 : (3000000 < b) = False := eq_false (by omega)
    simp -implicitDefEqProofs [r1, r2, r3]
    refine ALoopS.of Nat (fun i => [(2, .x (.one (.int .i64 a))), (3, .x (.one (.int .i64 b))), (12, .own 54 2 ((daysA a b (m.take i)).map Day.row)), (37, .x (entries m)), (38, .x (.one (.int .i64 m.length))), (39, .x (.one (.int .i64 i)))]) (fun i => i ≤ m.length) (fun i => m.length - i) 0 (Nat.zero_le _) ?_ ?_
    · simp [daysA]
    intro i hi
    by_cases hlt : i < m.length
    · have hwr : IntKind.i64.wrap ((i : Int) + 1) = (i : Int) + 1 := wrapS _ (by omega)
      have hst := daysA_snoc a b (m.take i) m[i]
      rw [← List.take_succ_eq_append_getElem hlt] at hst
      obtain ⟨few, hmany⟩ := daysA_few a b (m.take i)
      obtain ⟨out, eo⟩ : ∃ out, out = daysA a b (m.take i) := ⟨_, rfl⟩
      rw [← eo] at hst few hmany ⊢
      rw [List.length_take] at few hmany
      have htm := ht _ (List.getElem_mem hlt)
      have hdiv : m[i].time.tdiv 86400 = m[i].time / 86400 := Int.tdiv_eq_ediv_of_nonneg htm.1
      obtain ⟨d, ed⟩ : ∃ d, d = m[i].time.tdiv 86400 := ⟨_, rfl⟩
      have hw : IntKind.i64.wrap (m[i].time.tdiv 86400) = d := by rw [← ed]; exact wrapS _ (by omega)
      have hd0 : 0 ≤ d ∧ d ≤ 2932896 := by omega
      unfold dayStep at hst
      rw [← ed] at hst
      by_cases hout : d < a ∨ b ≤ d
      · rw [if_pos hout] at hst
        by_cases ha : d < a
        · have s1 : (d < a) = True := eq_true ha
          simp -implicitDefEqProofs [hlt, hw, s1]
          exact Again.of (i + 1) hlt (by omega) (by simp [hst, hwr])
        · have s1 : (d < a) = False := eq_false ha
          have s2 : (b ≤ d) = True := eq_true (by omega)
          simp -implicitDefEqProofs [hlt, hw, s1, s2]
          exact Again.of (i + 1) hlt (by omega) (by simp [hst, hwr])
      rw [if_neg hout] at hst
      have s1 : (d < a) = False := eq_false (by omega)
      have s2 : (b ≤ d) = False := eq_false (by omega)
      by_cases h0 : out.length = 0
      · have : out = [] := List.eq_nil_of_length_eq_zero h0
        subst this
        have hn1 : IntKind.i64.wrap (-1) = -1 := wrapS _ (by omega)
        have hst3 : addDay [] d = [⟨d, 1⟩] := rfl
        simp -implicitDefEqProofs [hlt, hw, s1, s2, hn1]
        exact Again.of (i + 1) hlt (by omega) (by simp [hst, hst3, hwr, Day.row])
      · have hz : out.length - 1 < out.length := by omega
        have hw1 : IntKind.i64.wrap ((out.length : Int) - 1) = ((out.length - 1 : Nat) : Int) := by rw [wrapS _ (by omega)]; omega
        obtain ⟨q, eq⟩ : ∃ q, out[out.length - 1] = q := ⟨_, rfl⟩
        have hq := hmany q (by rw [← eq]; exact List.getElem_mem hz)
        have hst2 : addDay out d = if q.day = d then out.set (out.length - 1) ⟨d, q.many + 1⟩ else out ++ [⟨d, 1⟩] := by
          unfold addDay
          rw [List.getElem?_eq_getElem hz, eq]
        rw [hst2] at hst
        obtain ⟨z, ez⟩ : ∃ z, z = out.length - 1 := ⟨_, rfl⟩
        have hw2 : IntKind.i64.wrap (q.many + 1) = q.many + 1 := wrapS _ (by omega)
        rw [← ez] at hw1 hst
        have hzq : out[z]? = some q := by rw [ez, List.getElem?_eq_getElem hz, eq]
        have hzl : z < out.length := by omega
        have hzq' : out[z] = q := (List.getElem?_eq_some_iff.1 hzq).2
        by_cases hqd : q.day = d
        · rw [if_pos hqd] at hst
          simp -implicitDefEqProofs [Day.row, hlt, hw, s1, s2, hw1, hzl, hzq', hqd, hw2]
          refine Again.of (i + 1) hlt (by omega) ?_
          simp [hst, hwr]
          rfl
        · rw [if_neg hqd] at hst
          have hqd2 : (q.day = d) = False := eq_false hqd
          simp -implicitDefEqProofs [Day.row, hlt, hw, s1, s2, hw1, hzl, hzq', hqd2, hw2]
          refine ⟨⟨by omega, by unfold maxLen; omega⟩, Again.of (i + 1) hlt (by omega) ?_⟩
          simp [hst, hwr, Day.row]
    · rw [List.take_of_length_le (by omega)]
      simp -implicitDefEqProofs [hlt]
      refine ⟨fun h => ?_, fun h => ?_⟩
      · rw [if_pos (by omega)] at hF
        subst hF
        exact ⟨hL, rfl⟩
      · rw [if_neg (by omega)] at hF
        subst hF
        rw [hL]
        exact ⟨rfl, rfl⟩
  · rw [if_pos hk] at hF
    have hm : findL l k = [] := by unfold findL; rw [if_neg hk]
    subst hF
    rw [hL, hm, if_neg hk]
    simp -implicitDefEqProofs +contextual [-Bool.and_eq_false_imp, Bool.and_eq_false_iff, hk]
end Go.Proofs.YtdciogjhkckigaaDoor
