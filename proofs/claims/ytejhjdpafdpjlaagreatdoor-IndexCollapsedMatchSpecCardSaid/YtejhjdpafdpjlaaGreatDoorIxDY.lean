/- A part of the proof: lemmas and contracts of functions. -/
import Derived.Test.YtejhjdpafdpjlaaGreatDoorIxDX
namespace Go.Proofs.YtejhjdpafdpjlaaGreatDoor
open Go Go.Ab
set_option linter.unusedSectionVars false
variable [Amb] [HasPow10 Tryz.prog]
set_option maxRecDepth 100000
set_option maxHeartbeats 4000000

theorem ref8_digitsOf (t : Int) (h : momentB t = true) : ACalls Tryz.prog 29 [.one (.int .i64 t)] (.x (.one (.str (stampL t)))) := by
  refine ACalls.of mixed (fn := Tryz.f29) (by kernel_rfl) (by kernel_rfl) rfl (by kernel_rfl) (by simp [Tryz.f29]) (fun hok => ?_)
  obtain ⟨_, hm, _⟩ := date_ok h
  obtain ⟨hl, c1, c2, c3, c4, c5, c6⟩ := dateL_cut t h
  unfold stampL
  obtain ⟨M, eM⟩ : ∃ M : Nat, (monthOf (t / 86400)).toNat = M := ⟨_, rfl⟩
  have hM : 1 ≤ M ∧ M ≤ 12 := by omega
  rw [eM] at c1 ⊢
  obtain ⟨i1, i2⟩ := itoa_month M hM
  have hmon : ∀ m : Nat, 1 ≤ m ∧ m ≤ 12 → monthL m = monthL M → m = M := fun m h e => monthL_inj h hM e
  have lm := monthL_len M hM
  simp -implicitDefEqProofs
  refine ACallK.of (ref2_DateOf t h) ?_
  obtain ⟨s, es⟩ : ∃ s, s = dateL t := ⟨_, rfl⟩
  rw [← es] at hl c1 c2 c3 c4 c5 c6 ⊢
  clear es
  generalize padD 4 (yearOf (t / 86400)).toNat = Y at c2 ⊢
  generalize padD 2 (dayOf (t / 86400)).toNat = D at c3 ⊢
  generalize padD 2 (t % 86400 / 3600).toNat = H at c4 ⊢
  generalize padD 2 (t % 86400 / 60 % 60).toNat = I at c5 ⊢
  generalize padD 2 (t % 86400 % 60).toNat = S at c6 ⊢
  have cl : ∀ a b : Nat, a ≤ b → b ≤ 29 → (cutAt s a b).length = b - a := by
    intro a b h1 h2
    unfold cutAt
    simp [hl]; omega
  have lY : Y.length = 4 := by rw [← c2]; exact cl 12 16 (by omega) (by omega)
  have lD : D.length = 2 := by rw [← c3]; exact cl 5 7 (by omega) (by omega)
  have lH : H.length = 2 := by rw [← c4]; exact cl 17 19 (by omega) (by omega)
  have lI : I.length = 2 := by rw [← c5]; exact cl 20 22 (by omega) (by omega)
  have lS : S.length = 2 := by rw [← c6]; exact cl 23 25 (by omega) (by omega)
  simp -implicitDefEqProofs
  refine ALoopS.of Nat (fun m => [(3, .x (.one (.str s))), (4, .x (.one (.int .i64 m)))]) (fun m => 1 ≤ m ∧ m ≤ M) (fun m => M - m) 1 ⟨by omega, hM.1⟩ ?_ ?_
  · simp
  rintro m ⟨g1, g2⟩
  have w1 : IntKind.i64.wrap (3 * (m : Int)) = 3 * m := wrapS _ (by omega)
  have w2 : IntKind.i64.wrap (3 * (m : Int) - 3) = 3 * m - 3 := wrapS _ (by omega)
  have w3 : IntKind.i64.wrap ((m : Int) + 1) = (m : Int) + 1 := wrapS _ (by omega)
  have hcm : cutAt [74, 97, 110, 70, 101, 98, 77, 97, 114, 65, 112, 114, 77, 97, 121, 74, 117, 110, 74, 117, 108, 65, 117, 103, 83, 101, 112, 79, 99, 116, 78, 111, 118, 68, 101, 99] (3 * (m : Int) - 3) (3 * (m : Int)) = monthL m := by
    unfold cutAt monthL monthsL
    rw [show (3 * (m : Int) - 3).toNat = 3 * m - 3 by omega, show (3 * (m : Int)).toNat = 3 * m by omega, List.drop_take]
    congr 1
    omega
  have b1 : (0 ≤ 3 * (m : Int) - 3) = True := eq_true (by omega)
  have b2 : (3 * (m : Int) - 3 ≤ 3 * (m : Int)) = True := eq_true (by omega)
  have b3 : (3 * (m : Int) ≤ 36) = True := eq_true (by omega)
  by_cases hmM : m = M
  · subst hmM
    have w4 : IntKind.i64.wrap (100 + (m : Int)) = 100 + m := wrapS _ (by omega)
    simp -implicitDefEqProofs [hl, w1, w2, hcm, c1, b1, b2, b3, w4]
    refine ⟨by omega, ACallK.of (strconv_Itoa (100 + (m : Int)) (by unfold I64; omega)) ?_⟩
    have i3 : cutAt (itoaL (100 + (m : Int))) 1 3 = padD 2 m := by
      unfold cutAt
      rw [show (3 : Int).toNat = 3 from rfl, show (1 : Int).toNat = 1 from rfl, ← i1]
      rw [List.take_of_length_le (by omega)]
    have l3 := padD_len 2 m
    simp -implicitDefEqProofs [hl, c2, c3, c4, c5, c6, lY, lD, lH, lI, lS, i1, i2, i3, l3]
  · have hne : ¬ monthL M = monthL m := fun e => hmM (hmon m ⟨by omega, by omega⟩ e.symm)
    simp -implicitDefEqProofs [hl, w1, w2, hcm, c1, b1, b2, b3, hne, w3]
    refine ⟨by omega, Again.of (m + 1) ⟨by omega, by omega⟩ (by omega) ?_⟩
    simp
end Go.Proofs.YtejhjdpafdpjlaaGreatDoor
