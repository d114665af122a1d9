/- A part of the proof: lemmas and contracts of functions. -/
import Derived.Test.YtejhjdpafdpjlaaGreatDoorIxDU
namespace Go.Proofs.YtejhjdpafdpjlaaGreatDoor
open Go Go.Ab
set_option linter.unusedSectionVars false
variable [Amb] [HasPow10 Tryz.prog]
set_option maxRecDepth 100000
set_option maxHeartbeats 4000000

/-! ### The date of the reference -/
theorem ref2_leap (y : Int) (hy : 0 ≤ y ∧ y ≤ 100000) : ACalls Tryz.prog 104 [.one (.int .i64 y)] (.x (.one (.bool (leapI y)))) := by
  refine ACalls.of mixed (fn := Tryz.f104) (by kernel_rfl) (by kernel_rfl) rfl (by kernel_rfl) (by simp [Tryz.f104]) (fun hok => ?_)
  have t1 : y.tmod 4 = y % 4 := tmod_pos _ hy.1
  have t2 : y.tmod 100 = y % 100 := tmod_pos _ hy.1
  have t3 : y.tmod 400 = y % 400 := tmod_pos _ hy.1
  have w1 : IntKind.i64.wrap (y % 4) = y % 4 := wrapS _ (by omega)
  have w2 : IntKind.i64.wrap (y % 100) = y % 100 := wrapS _ (by omega)
  have w3 : IntKind.i64.wrap (y % 400) = y % 400 := wrapS _ (by omega)
  have hl := mLen_leap y
  cases hb : leapI y with
  | true =>
    obtain ⟨l1, l2⟩ := hl.2 hb
    by_cases l3 : y % 100 = 0
    · have l4 := l2.resolve_left (fun h => h l3)
      simp -implicitDefEqProofs [t1, t2, t3, w1, w2, w3, l1, l3, l4]
    · simp -implicitDefEqProofs [t1, t2, t3, w1, w2, w3, l1, l3]
  | false =>
    by_cases l1 : y % 4 = 0
    · have l3 : y % 100 = 0 := Classical.byContradiction fun h => by rw [hl.1 ⟨l1, .inl h⟩] at hb; cases hb
      have l4 : ¬ y % 400 = 0 := fun h => by rw [hl.1 ⟨l1, .inr h⟩] at hb; cases hb
      simp -implicitDefEqProofs [t1, t2, t3, w1, w2, w3, l1, l3, l4]
    · have l4 : ¬ y % 400 = 0 := fun h => l1 (by omega)
      simp -implicitDefEqProofs [t1, t2, t3, w1, w2, w3, l1, l4]
theorem ref2_yearDays (y : Int) (hy : 0 ≤ y ∧ y ≤ 100000) : ACalls Tryz.prog 78 [.one (.int .i64 y)] (.x (.one (.int .i64 (yLen y)))) := by
  refine ACalls.of mixed (fn := Tryz.f78) (by kernel_rfl) (by kernel_rfl) rfl (by kernel_rfl) (by simp [Tryz.f78]) (fun hok => ?_)
  have e : yLen y = if leapI y = true then 366 else 365 := rfl
  generalize yLen y = r at e ⊢
  simp -implicitDefEqProofs
  refine ACallK.of (ref2_leap y hy) ?_
  cases hb : leapI y with
  | true => rw [hb, if_pos rfl] at e; subst e; simp -implicitDefEqProofs
  | false => rw [hb, if_neg (by decide)] at e; subst e; simp -implicitDefEqProofs
theorem ref2_monthDays (y m : Int) (hy : 0 ≤ y ∧ y ≤ 100000) (hm : 1 ≤ m ∧ m ≤ 12) : ACalls Tryz.prog 79 [.one (.int .i64 y), .one (.int .i64 m)] (.x (.one (.int .i64 (mLen y m)))) := by
  refine ACalls.of mixed (fn := Tryz.f79) (by kernel_rfl) (by kernel_rfl) rfl (by kernel_rfl) (by simp [Tryz.f79]) (fun hok => ?_)
  have e : mLen y m = if m = 4 ∨ m = 6 ∨ m = 9 ∨ m = 11 then 30 else if m = 2 then (if leapI y = true then 29 else 28) else 31 := rfl
  generalize mLen y m = r at e ⊢
  by_cases h2 : m = 2
  · subst h2
    rw [if_neg (by decide), if_pos rfl] at e
    simp -implicitDefEqProofs
    refine ACallGS.of (fun _ => ref2_leap y hy) rfl ?_
    have w : IntKind.i64.wrap 1 = 1 := by decide
    cases hb : leapI y with
    | true => rw [hb, if_pos rfl] at e; subst e; simp -implicitDefEqProofs
    | false => rw [hb, if_neg (by decide)] at e; subst e; simp -implicitDefEqProofs [w]
  · have hcase : m = 1 ∨ m = 3 ∨ m = 4 ∨ m = 5 ∨ m = 6 ∨ m = 7 ∨ m = 8 ∨ m = 9 ∨ m = 10 ∨ m = 11 ∨ m = 12 := by omega
    have ws : ∀ k : Int, 0 ≤ k ∧ k ≤ 11 → IntKind.i64.wrap k = k := fun k h => wrapS _ (by omega)
    have w0 := ws 0 (by omega); have w2 := ws 2 (by omega); have w3 := ws 3 (by omega); have w4 := ws 4 (by omega); have w5 := ws 5 (by omega); have w6 := ws 6 (by omega); have w7 := ws 7 (by omega); have w8 := ws 8 (by omega); have w9 := ws 9 (by omega); have w10 := ws 10 (by omega); have w11 := ws 11 (by omega)
    rcases hcase with rfl | rfl | rfl | rfl | rfl | rfl | rfl | rfl | rfl | rfl | rfl
    all_goals
      simp only [Int.reduceEq, false_or, or_false, true_or, or_true, or_self, if_true, if_false] at e
      subst e
      simp -implicitDefEqProofs
      refine ACallGS.of (fun h => by cases h) (r := .x (.one (.bool false))) rfl ?_
      simp -implicitDefEqProofs [w0, w2, w3, w4, w5, w6, w7, w8, w9, w10, w11]
theorem ref2_two (n : Nat) (h : n ≤ 100000) : ACalls Tryz.prog 80 [.one (.int .i64 n)] (.x (.one (.str (padD 2 n)))) := by
  refine ACalls.of mixed (fn := Tryz.f80) (by kernel_rfl) (by kernel_rfl) rfl (by kernel_rfl) (by simp [Tryz.f80]) (fun hok => ?_)
  have e : padD 2 n = [UInt8.ofNat (48 + n / 10 % 10), UInt8.ofNat (48 + n % 10)] := padD_two n
  generalize padD 2 n = r at e ⊢
  have t1 : (n : Int).tdiv 10 = ((n / 10 : Nat) : Int) := by rw [tdiv_pos _ (by omega)]; omega
  have t2 : ((n / 10 : Nat) : Int).tmod 10 = ((n / 10 % 10 : Nat) : Int) := by rw [tmod_pos _ (by omega)]; omega
  have t3 : (n : Int).tmod 10 = ((n % 10 : Nat) : Int) := by rw [tmod_pos _ (by omega)]; omega
  obtain ⟨a, ea⟩ : ∃ a, n / 10 % 10 = a := ⟨_, rfl⟩
  obtain ⟨b, eb⟩ : ∃ b, n % 10 = b := ⟨_, rfl⟩
  obtain ⟨c, ec⟩ : ∃ c, n / 10 = c := ⟨_, rfl⟩
  rw [ea, eb] at e
  rw [ec] at t1 t2
  rw [ec] at ea
  rw [ea] at t2
  rw [eb] at t3
  have w0 : IntKind.i64.wrap (c : Int) = c := wrapS _ (by omega)
  have w1 : IntKind.i64.wrap (a : Int) = a := wrapS _ (by omega)
  have w2 : IntKind.i64.wrap (48 + (a : Int)) = 48 + a := wrapS _ (by omega)
  have w3 : IntKind.i64.wrap (b : Int) = b := wrapS _ (by omega)
  have w4 : IntKind.i64.wrap (48 + (b : Int)) = 48 + b := wrapS _ (by omega)
  have u1 : IntKind.u8.wrap (48 + (a : Int)) = ((48 + a : Nat) : Int) := by
    have : ∀ x : Fin 10, IntKind.u8.wrap (48 + ((x.val : Nat) : Int)) = ((48 + x.val : Nat) : Int) := by decide
    exact this ⟨a, by omega⟩
  have u2 : IntKind.u8.wrap (48 + (b : Int)) = ((48 + b : Nat) : Int) := by
    have : ∀ x : Fin 10, IntKind.u8.wrap (48 + ((x.val : Nat) : Int)) = ((48 + x.val : Nat) : Int) := by decide
    exact this ⟨b, by omega⟩
  have v1 : ((48 : Int) + (a : Int)).toNat = 48 + a := by omega
  have v2 : ((48 : Int) + (b : Int)).toNat = 48 + b := by omega
  subst e
  clear ea eb ec h
  simp -implicitDefEqProofs [t1, t2, t3, w0, w1, w2, w3, w4, u1, u2]
  rw [v1, v2]
  simp

def monthsL : List UInt8 := [74, 97, 110, 70, 101, 98, 77, 97, 114, 65, 112, 114, 77, 97, 121, 74, 117, 110, 74, 117, 108, 65, 117, 103, 83, 101, 112, 79, 99, 116, 78, 111, 118, 68, 101, 99]
def weeksL : List UInt8 := [83, 117, 110, 77, 111, 110, 84, 117, 101, 87, 101, 100, 84, 104, 117, 70, 114, 105, 83, 97, 116]
def monthL (m : Nat) : List UInt8 := (monthsL.drop (3 * m - 3)).take 3
def weekL (w : Nat) : List UInt8 := (weeksL.drop (3 * w)).take 3
def dateL (t : Int) : List UInt8 :=
  weekL ((t / 86400 + 4) % 7).toNat ++ [44, 32] ++ padD 2 (dayOf (t / 86400)).toNat ++ [32] ++ monthL (monthOf (t / 86400)).toNat ++ [32] ++ padD 4 (yearOf (t / 86400)).toNat ++ [32] ++ padD 2 (t % 86400 / 3600).toNat ++ [58] ++ padD 2 (t % 86400 / 60 % 60).toNat ++ [58] ++ padD 2 (t % 86400 % 60).toNat ++ [32, 71, 77, 84]
theorem ref2_monthName (m : Nat) (h : 1 ≤ m ∧ m ≤ 12) : ACalls Tryz.prog 81 [.one (.int .i64 m)] (.x (.one (.str (monthL m)))) := by
  refine ACalls.of mixed (fn := Tryz.f81) (by kernel_rfl) (by kernel_rfl) rfl (by kernel_rfl) (by simp [Tryz.f81]) (fun hok => ?_)
  have q0 : IntKind.i64.wrap 0 = 0 := by decide
  have q3 : IntKind.i64.wrap 3 = 3 := by decide
  have q6 : IntKind.i64.wrap 6 = 6 := by decide
  have q9 : IntKind.i64.wrap 9 = 9 := by decide
  have q12 : IntKind.i64.wrap 12 = 12 := by decide
  have q15 : IntKind.i64.wrap 15 = 15 := by decide
  have q18 : IntKind.i64.wrap 18 = 18 := by decide
  have q21 : IntKind.i64.wrap 21 = 21 := by decide
  have q24 : IntKind.i64.wrap 24 = 24 := by decide
  have q27 : IntKind.i64.wrap 27 = 27 := by decide
  have q30 : IntKind.i64.wrap 30 = 30 := by decide
  have q33 : IntKind.i64.wrap 33 = 33 := by decide
  have q36 : IntKind.i64.wrap 36 = 36 := by decide
  have hc : m = 1 ∨ m = 2 ∨ m = 3 ∨ m = 4 ∨ m = 5 ∨ m = 6 ∨ m = 7 ∨ m = 8 ∨ m = 9 ∨ m = 10 ∨ m = 11 ∨ m = 12 := by omega
  clear h
  rcases hc with rfl | rfl | rfl | rfl | rfl | rfl | rfl | rfl | rfl | rfl | rfl | rfl
  all_goals
    simp -implicitDefEqProofs [q0, q3, q6, q9, q12, q15, q18, q21, q24, q27, q30, q33, q36, cutAt]
    try rfl
end Go.Proofs.YtejhjdpafdpjlaaGreatDoor
