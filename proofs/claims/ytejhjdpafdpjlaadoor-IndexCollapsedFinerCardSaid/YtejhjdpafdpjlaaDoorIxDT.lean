/- A part of the proof: lemmas and contracts of functions. -/
import Derived.Test.YtejhjdpafdpjlaaDoorIxTA
import Derived.Test.YtejhjdpafdpjlaaDoorIxCal
import Derived.Test.YtejhjdpafdpjlaaDoorIxLays3
import Derived.Shelf.Strings.Repeat
namespace Go.Proofs.YtejhjdpafdpjlaaDoor
open Go Go.Ab
set_option linter.unusedSectionVars false
variable [Amb] [HasPow10 Tryd.prog]
set_option maxRecDepth 100000
set_option maxHeartbeats 4000000

theorem repeat_eq (b : UInt8) : ∀ n : Nat, Lib.repeatL [b] n = List.replicate n b
  | 0 => rfl
  | n + 1 => by
    rw [Lib.repeatL, repeat_eq b n]; rfl
theorem strings_Repeat (b : UInt8) (n : Nat) (h : n ≤ 1000000) : ACalls Tryd.prog 62 [.one (.str [b]), .one (.int .i64 n)] (.x (.one (.str (List.replicate n b)))) := by
  refine ACalls.ofKit [.string ⟨#[b]⟩, .int .i64 n] _ (callable_of Tryd.f62 (by kernel_rfl) (by kernel_rfl) rfl) rfl (fun _ _ => repR_str _ (by simp; unfold maxLen; omega)) (fun _ w => ?_)
  refine (Any.strings_Repeat layn105 layBuilderExtra105 ⟨#[b]⟩ n w (by omega) (by show 1 * n ≤ _; omega)).mono ?_
  rintro e w' ⟨rfl, hb⟩
  refine ⟨?_, hb⟩
  rw [show (⟨#[b]⟩ : ByteArray).data.toList = [b] from rfl, repeat_eq]
theorem message_Padded (n k : Nat) (hn : n < 10 ^ k) (hk : 1 ≤ k) (hk2 : k ≤ 18) : ACalls Tryd.prog 47 [.one (.int .i64 n), .one (.int .i64 k)] (.x (.one (.str (padD k n)))) := by
  refine ACalls.of mixed (fn := Tryd.f47) (by kernel_rfl) (by kernel_rfl) rfl (by kernel_rfl) (by simp [Tryd.f47]) (fun hok => ?_)
  obtain ⟨h1, h2⟩ := padD_itoa k n hn hk
  have hp : 10 ^ k ≤ 10 ^ 18 := Nat.pow_le_pow_right (by omega) hk2
  have h64 : I64 (n : Int) := by unfold I64; omega
  rw [← h2]
  simp -implicitDefEqProofs
  refine ACallK.of (strconv_Itoa _ h64) ?_
  obtain ⟨s, es⟩ : ∃ s, s = itoaL (n : Int) := ⟨_, rfl⟩
  rw [show Lib.itoa (n : Int) = s from es.symm] at h1 ⊢
  rw [← es]
  have w1 : IntKind.i64.wrap ((k : Int) - s.length) = ((k - s.length : Nat) : Int) := by rw [wrapS _ (by omega)]; omega
  have w2 : max 0 ((k - s.length : Nat) : Int) = ((k - s.length : Nat) : Int) := by omega
  simp -implicitDefEqProofs [w1, w2]
  refine ACallK.of (strings_Repeat 48 _ (by omega)) ?_
  have m1 : k - s.length + s.length ≤ maxLen := by unfold maxLen; omega
  simp -implicitDefEqProofs [m1]
theorem mLen_leap (y : Int) : (y % 4 = 0 ∧ (y % 100 ≠ 0 ∨ y % 400 = 0)) ↔ leapI y = true := by
  unfold leapI; simp
theorem tmod_pos {a : Int} (b : Int) (h : 0 ≤ a) : a.tmod b = a % b := Int.tmod_eq_emod_of_nonneg h
theorem tdiv_pos {a : Int} (b : Int) (h : 0 ≤ a) : a.tdiv b = a / b := Int.tdiv_eq_ediv_of_nonneg h
theorem message_monthLong (y m : Int) (hy : 0 ≤ y ∧ y ≤ 100000) : ACalls Tryd.prog 76 [.one (.int .i64 y), .one (.int .i64 m)] (.x (.one (.int .i64 (mLen y m)))) := by
  refine ACalls.of mixed (fn := Tryd.f76) (by kernel_rfl) (by kernel_rfl) rfl (by kernel_rfl) (by simp [Tryd.f76]) (fun hok => ?_)
  have t1 : y.tmod 4 = y % 4 := tmod_pos _ hy.1
  have t2 : y.tmod 100 = y % 100 := tmod_pos _ hy.1
  have t3 : y.tmod 400 = y % 400 := tmod_pos _ hy.1
  have w1 : IntKind.i64.wrap (y % 4) = y % 4 := wrapS _ (by omega)
  have w2 : IntKind.i64.wrap (y % 100) = y % 100 := wrapS _ (by omega)
  have w3 : IntKind.i64.wrap (y % 400) = y % 400 := wrapS _ (by omega)
  have e : mLen y m = if m = 4 ∨ m = 6 ∨ m = 9 ∨ m = 11 then 30 else if m = 2 then (if leapI y = true then 29 else 28) else 31 := rfl
  generalize mLen y m = r at e ⊢
  by_cases h4 : m = 4
  · subst h4; rw [if_pos (.inl rfl)] at e; subst e; simp -implicitDefEqProofs
  by_cases h6 : m = 6
  · subst h6; rw [if_pos (.inr (.inl rfl))] at e; subst e; simp -implicitDefEqProofs
  by_cases h9 : m = 9
  · subst h9; rw [if_pos (.inr (.inr (.inl rfl)))] at e; subst e; simp -implicitDefEqProofs
  by_cases h11 : m = 11
  · subst h11; rw [if_pos (.inr (.inr (.inr rfl)))] at e; subst e; simp -implicitDefEqProofs
  rw [if_neg (by simp [h4, h6, h9, h11])] at e
  by_cases h2 : m = 2
  · subst h2
    rw [if_pos rfl] at e
    have hl := mLen_leap y
    cases hb : leapI y with
    | true =>
      obtain ⟨l1, l2⟩ := hl.2 hb
      rw [if_pos hb] at e
      subst e
      by_cases l3 : y % 100 = 0
      · have l4 := l2.resolve_left (fun h => h l3)
        simp -implicitDefEqProofs [t1, t2, t3, w1, w2, w3, l1, l3, l4]
      · simp -implicitDefEqProofs [t1, t2, t3, w1, w2, w3, l1, l3]
    | false =>
      rw [if_neg (by simp [hb])] at e
      subst e
      by_cases l1 : y % 4 = 0
      · have l3 : y % 100 = 0 := Classical.byContradiction fun h => by rw [hl.1 ⟨l1, .inl h⟩] at hb; cases hb
        have l4 : ¬ y % 400 = 0 := fun h => by rw [hl.1 ⟨l1, .inr h⟩] at hb; cases hb
        simp -implicitDefEqProofs [t1, t2, t3, w1, w2, w3, l1, l3, l4]
      · simp -implicitDefEqProofs [t1, t2, t3, w1, w2, w3, l1]
  · rw [if_neg h2] at e
    subst e
    simp -implicitDefEqProofs [h4, h6, h9, h11, h2]
theorem message_days (y m : Int) (hy : 1 ≤ y ∧ y ≤ 100000) (hm : 1 ≤ m ∧ m ≤ 100) : ACalls Tryd.prog 61 [.one (.int .i64 y), .one (.int .i64 m)] (.x (.one (.int .i64 (dY y + dM y m)))) := by
  refine ACalls.of mixed (fn := Tryd.f61) (by kernel_rfl) (by kernel_rfl) rfl (by kernel_rfl) (by simp [Tryd.f61]) (fun hok => ?_)
  have t1 : (y - 1).tdiv 4 = (y - 1) / 4 := tdiv_pos _ (by omega)
  have t2 : (y - 1).tdiv 100 = (y - 1) / 100 := tdiv_pos _ (by omega)
  have t3 : (y - 1).tdiv 400 = (y - 1) / 400 := tdiv_pos _ (by omega)
  have w0 : IntKind.i64.wrap (y - 1) = y - 1 := wrapS _ (by omega)
  have w1 : IntKind.i64.wrap (365 * (y - 1)) = 365 * (y - 1) := wrapS _ (by omega)
  have w2 : IntKind.i64.wrap ((y - 1) / 4) = (y - 1) / 4 := wrapS _ (by omega)
  have w3 : IntKind.i64.wrap ((y - 1) / 100) = (y - 1) / 100 := wrapS _ (by omega)
  have w4 : IntKind.i64.wrap ((y - 1) / 400) = (y - 1) / 400 := wrapS _ (by omega)
  have w5 : IntKind.i64.wrap (365 * (y - 1) + (y - 1) / 4) = 365 * (y - 1) + (y - 1) / 4 := wrapS _ (by omega)
  have w6 : IntKind.i64.wrap (365 * (y - 1) + (y - 1) / 4 - (y - 1) / 100) = 365 * (y - 1) + (y - 1) / 4 - (y - 1) / 100 := wrapS _ (by omega)
  have w7 : IntKind.i64.wrap (365 * (y - 1) + (y - 1) / 4 - (y - 1) / 100 + (y - 1) / 400) = 365 * (y - 1) + (y - 1) / 4 - (y - 1) / 100 + (y - 1) / 400 := wrapS _ (by omega)
  have w8 : IntKind.i64.wrap (365 * (y - 1) + (y - 1) / 4 - (y - 1) / 100 + (y - 1) / 400 - 719162) = dY y := wrapS _ (by omega)
  have hdb : -800000 ≤ dY y ∧ dY y ≤ 40000000 := by unfold dY; omega
  simp -implicitDefEqProofs [t1, t2, t3, w0, w1, w2, w3, w4, w5, w6, w7, w8]
  refine ALoopS.of Nat (fun k => [(0, .x (.one (.int .i64 y))), (1, .x (.one (.int .i64 m))), (6, .x (.one (.int .i64 (dY y + dM y (k + 1))))), (7, .x (.one (.int .i64 ((k : Int) + 1))))]) (fun k => (k : Int) + 1 ≤ m) (fun k => m.toNat - k) 0 (by omega) ?_ ?_
  · simp [dM, dMN]
  intro k hk
  by_cases hlt : (k : Int) + 1 < m
  · have hst := dM_step y (k + 1) (by omega)
    have hb := mLen_pos y (k + 1)
    have hmono := dM_mono y (a := 1) (b := (k : Int) + 1) (by omega) (by omega)
    have hup : dM y ((k : Int) + 1) ≤ 31 * k := by
      clear hlt hst hb hmono hk
      induction k with
      | zero => simp [dM, dMN]
      | succ k ih =>
        have := dM_step y (k + 1) (by omega)
        have := mLen_pos y (k + 1)
        rw [show ((k + 1 : Nat) : Int) + 1 = (k : Int) + 1 + 1 by omega]
        omega
    rw [dM_one] at hmono
    have w9 : IntKind.i64.wrap (dY y + dM y ((k : Int) + 1) + mLen y ((k : Int) + 1)) = dY y + dM y ((k : Int) + 1 + 1) := by rw [wrapS _ (by omega)]; omega
    have w10 : IntKind.i64.wrap ((k : Int) + 1 + 1) = (k : Int) + 1 + 1 := wrapS _ (by omega)
    simp -implicitDefEqProofs [hlt]
    refine ACallK.of (message_monthLong y (k + 1) (by omega)) ?_
    simp -implicitDefEqProofs [w9, w10]
    refine Again.of (k + 1) (by omega) (by omega) ?_
    simp
  · have e : (k : Int) + 1 = m := by omega
    simp -implicitDefEqProofs [hlt, e]
end Go.Proofs.YtejhjdpafdpjlaaDoor
