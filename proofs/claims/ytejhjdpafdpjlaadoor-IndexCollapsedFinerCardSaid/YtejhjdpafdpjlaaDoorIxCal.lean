/- A part of the proof: lemmas and contracts of functions. -/
import Derived.Test.YtejhjdpafdpjlaaDoorIxNum
namespace Go.Proofs.YtejhjdpafdpjlaaDoor

/-! ### The calendar, in plain numbers -/
def leapI (y : Int) : Bool := decide (y % 4 = 0) && (decide (y % 100 ≠ 0) || decide (y % 400 = 0))
/-- Days before January 1st of a year, from 1970 on. -/
def dY (y : Int) : Int := 365 * (y - 1) + (y - 1) / 4 - (y - 1) / 100 + (y - 1) / 400 - 719162
def yLen (y : Int) : Int := if leapI y = true then 366 else 365
def mLen (y m : Int) : Int := if m = 4 ∨ m = 6 ∨ m = 9 ∨ m = 11 then 30 else if m = 2 then (if leapI y = true then 29 else 28) else 31
/-- Days before the first one of a month. -/
def dMN (y : Int) : Nat → Int
  | 0 => 0
  | n + 1 => if n = 0 then 0 else dMN y n + mLen y n
def dM (y m : Int) : Int := dMN y m.toNat
theorem dY_step (y : Int) : dY (y + 1) = dY y + yLen y := by
  unfold dY yLen leapI
  simp only [Bool.and_eq_true, Bool.or_eq_true, decide_eq_true_eq]
  split <;> omega
theorem yLen_pos (y : Int) : 365 ≤ yLen y ∧ yLen y ≤ 366 := by unfold yLen; split <;> omega
theorem dM_one (y : Int) : dM y 1 = 0 := rfl
theorem dM_step (y m : Int) (h : 1 ≤ m) : dM y (m + 1) = dM y m + mLen y m := by
  unfold dM
  obtain ⟨n, rfl⟩ : ∃ n : Nat, m = (n : Int) + 1 := ⟨(m - 1).toNat, by omega⟩
  have e1 : ((n : Int) + 1 + 1).toNat = n + 2 := by omega
  have e2 : ((n : Int) + 1).toNat = n + 1 := by omega
  rw [e1, e2]
  show (if n + 1 = 0 then 0 else dMN y (n + 1) + mLen y ((n + 1 : Nat) : Int)) = _
  rw [if_neg (by omega)]
  congr 1
theorem mLen_pos (y m : Int) : 28 ≤ mLen y m ∧ mLen y m ≤ 31 := by unfold mLen; repeat' split <;> omega
theorem dM_year (y : Int) : dM y 13 = yLen y := by
  have h := fun m h => dM_step y m h
  have h1 := h 1 (by omega); have h2 := h 2 (by omega); have h3 := h 3 (by omega); have h4 := h 4 (by omega); have h5 := h 5 (by omega); have h6 := h 6 (by omega)
  have h7 := h 7 (by omega); have h8 := h 8 (by omega); have h9 := h 9 (by omega); have h10 := h 10 (by omega); have h11 := h 11 (by omega); have h12 := h 12 (by omega)
  simp only [mLen, Int.reduceAdd] at h1 h2 h3 h4 h5 h6 h7 h8 h9 h10 h11 h12
  rw [dM_one] at h1
  unfold yLen
  cases hl : leapI y <;> simp [hl] at * <;> omega
theorem dM_mono (y : Int) {a b : Int} (ha : 1 ≤ a) (h : a ≤ b) : dM y a ≤ dM y b := by
  obtain ⟨n, rfl⟩ : ∃ n : Nat, b = a + n := ⟨(b - a).toNat, by omega⟩
  clear h
  induction n with
  | zero => simp
  | succ n ih =>
    have := dM_step y (a + n) (by omega)
    have := mLen_pos y (a + n)
    rw [show a + ((n + 1 : Nat) : Int) = a + n + 1 by omega]
    omega
theorem dY_mono {a b : Int} (h : a ≤ b) : dY a ≤ dY b := by
  obtain ⟨n, rfl⟩ : ∃ n : Nat, b = a + n := ⟨(b - a).toNat, by omega⟩
  clear h
  induction n with
  | zero => simp
  | succ n ih =>
    have := dY_step (a + n)
    have := yLen_pos (a + n)
    rw [show a + ((n + 1 : Nat) : Int) = a + n + 1 by omega]
    omega

/-- A day by the calendar. -/
structure IsCiv (day y m d : Int) : Prop where
  y0 : 1970 ≤ y
  lo : dY y ≤ day
  hi : day < dY (y + 1)
  m0 : 1 ≤ m
  m1 : m ≤ 12
  ml : dY y + dM y m ≤ day
  mh : day < dY y + dM y (m + 1)
  dd : d = day - dY y - dM y m + 1
theorem IsCiv.d {day y m d : Int} (h : IsCiv day y m d) : 1 ≤ d ∧ d ≤ mLen y m := by
  have := dM_step y m h.m0; have := h.ml; have := h.mh; have := h.dd
  omega
theorem IsCiv.year {day y m d : Int} (h : IsCiv day y m d) {z : Int} (h1 : dY z ≤ day) (h2 : day < dY (z + 1)) : z = y := by
  have a1 := h.lo; have a2 := h.hi
  by_cases hz : z = y
  · exact hz
  · rcases Int.lt_or_lt_of_ne hz with hlt | hlt
    · have := dY_mono (a := z + 1) (b := y) (by omega); omega
    · have := dY_mono (a := y + 1) (b := z) (by omega); omega
theorem IsCiv.month {day y m d : Int} (h : IsCiv day y m d) {n : Int} (h0 : 1 ≤ n) (h1 : dY y + dM y n ≤ day) (h2 : day < dY y + dM y (n + 1)) : n = m := by
  have a1 := h.ml; have a2 := h.mh
  have := h.m0
  by_cases hz : n = m
  · exact hz
  · rcases Int.lt_or_lt_of_ne hz with hlt | hlt
    · have := dM_mono y (a := n + 1) (b := m) (by omega) (by omega); omega
    · have := dM_mono y (a := m + 1) (b := n) (by omega) (by omega); omega
theorem IsCiv.unique {day y m d z n e : Int} (h : IsCiv day y m d) (k : IsCiv day z n e) : z = y ∧ n = m ∧ e = d := by
  have h1 := h.year k.lo k.hi
  subst h1
  have h2 := h.month k.m0 k.ml k.mh
  subst h2
  exact ⟨rfl, rfl, k.dd.trans h.dd.symm⟩
def yearN : Nat → Int
  | 0 => 1970
  | n + 1 => if ((n + 1 : Nat) : Int) < dY (yearN n + 1) then yearN n else yearN n + 1
theorem yearN_ok (n : Nat) : 1970 ≤ yearN n ∧ dY (yearN n) ≤ n ∧ (n : Int) < dY (yearN n + 1) := by
  induction n with
  | zero => exact ⟨by decide, by decide, by decide⟩
  | succ n ih =>
    obtain ⟨h0, h1, h2⟩ := ih
    unfold yearN
    split
    · rename_i h
      exact ⟨h0, by omega, h⟩
    · have := dY_step (yearN n + 1)
      have := yLen_pos (yearN n + 1)
      exact ⟨by omega, by omega, by omega⟩
theorem civ_month (y r : Int) (h0 : 0 ≤ r) (h1 : r < yLen y) : ∃ m, 1 ≤ m ∧ m ≤ 12 ∧ dM y m ≤ r ∧ r < dM y (m + 1) := by
  have key : ∀ n : Nat, n ≤ 11 → (∃ m, 1 ≤ m ∧ m ≤ 12 ∧ dM y m ≤ r ∧ r < dM y (m + 1)) ∨ dM y ((n : Int) + 2) ≤ r := by
    intro n
    induction n with
    | zero =>
      intro _
      by_cases h : r < dM y 2
      · exact .inl ⟨1, by omega, by omega, by rw [dM_one]; exact h0, h⟩
      · exact .inr (by simpa using h)
    | succ n ih =>
      intro hn
      rcases ih (by omega) with h | h
      · exact .inl h
      · by_cases h' : r < dM y ((n : Int) + 2 + 1)
        · exact .inl ⟨(n : Int) + 2, by omega, by omega, h, h'⟩
        · refine .inr ?_
          rw [show ((n + 1 : Nat) : Int) + 2 = (n : Int) + 2 + 1 by omega]
          omega
  rcases key 11 (by omega) with h | h
  · exact h
  · have := dM_year y
    have e : dM y (((11 : Nat) : Int) + 2) = dM y 13 := rfl
    omega
def yearOf (day : Int) : Int := yearN day.toNat
def monthOf (day : Int) : Int := ((((List.range 12).find? (fun (k : Nat) => decide (day < dY (yearOf day) + dM (yearOf day) ((k : Int) + 2)))).getD 0 : Nat) : Int) + 1
def dayOf (day : Int) : Int := day - dY (yearOf day) - dM (yearOf day) (monthOf day) + 1
theorem civ_ok (day : Int) (h : 0 ≤ day) : IsCiv day (yearOf day) (monthOf day) (dayOf day) := by
  have hy := yearN_ok day.toNat
  rw [show ((day.toNat : Nat) : Int) = day by omega] at hy
  obtain ⟨h0, h1, h2⟩ := hy
  have hs := dY_step (yearN day.toNat)
  obtain ⟨m, m0, m1, m2, m3⟩ := civ_month (yearN day.toNat) (day - dY (yearN day.toNat)) (by omega) (by omega)
  have hm : monthOf day = m := by
    have hfind : (List.range 12).find? (fun (k : Nat) => decide (day < dY (yearOf day) + dM (yearOf day) ((k : Int) + 2))) = some (m - 1).toNat := by
      rw [List.find?_eq_some_iff_getElem]
      refine ⟨?_, (m - 1).toNat, by simp; omega, by simp, fun j hj => ?_⟩
      · have e2 : (((m - 1).toNat : Nat) : Int) + 2 = m + 1 := by omega
        have : day < dY (yearOf day) + dM (yearOf day) ((((m - 1).toNat : Nat) : Int) + 2) := by rw [e2]; simp only [yearOf]; omega
        simpa using this
      · have hj' : (j : Int) + 2 ≤ m := by omega
        have := dM_mono (yearN day.toNat) (a := (j : Int) + 2) (b := m) (by omega) hj'
        simp only [List.getElem_range, yearOf]
        simp; omega
    unfold monthOf
    rw [hfind]
    simp only [Option.getD_some]
    omega
  unfold dayOf
  rw [hm]
  exact ⟨h0, h1, h2, m0, m1, by unfold yearOf; omega, by unfold yearOf; omega, rfl⟩
theorem IsCiv.top {day y m d : Int} (h : IsCiv day y m d) (hd : day ≤ 2932896) : y ≤ 9999 := by
  refine Classical.byContradiction fun hn => ?_
  have h1 := dY_mono (a := 10000) (b := y) (by omega)
  have h2 : dY 10000 = 2932897 := by decide
  have := h.lo
  omega
theorem IsCiv.back {y m d : Int} (h0 : 1970 ≤ y) (m0 : 1 ≤ m) (m1 : m ≤ 12) (d0 : 1 ≤ d) (d1 : d ≤ mLen y m) : IsCiv (dY y + dM y m + d - 1) y m d := by
  have hs := dM_step y m m0
  have h1 := dM_mono y (a := 1) (b := m) (by omega) m0
  have h2 := dM_mono y (a := m + 1) (b := 13) (by omega) (by omega)
  have hy := dY_step y
  have h13 := dM_year y
  have h11 := dM_one y
  refine ⟨h0, by omega, by omega, m0, m1, by omega, by omega, by omega⟩

/-! ### Stamps -/
def stampL (t : Int) : List UInt8 :=
  padD 4 (yearOf (t / 86400)).toNat ++ padD 2 (monthOf (t / 86400)).toNat ++ padD 2 (dayOf (t / 86400)).toNat ++ padD 2 (t % 86400 / 3600).toNat ++ padD 2 (t % 86400 / 60 % 60).toNat ++ padD 2 (t % 86400 % 60).toNat
@[simp] theorem stampL_len (t : Int) : (stampL t).length = 14 := by simp [stampL]
end Go.Proofs.YtejhjdpafdpjlaaDoor
