/- A part of the proof: lemmas and contracts of functions. -/
import Derived.Test.YtejhjdpafdpjlaaGreatDoorIxDW
namespace Go.Proofs.YtejhjdpafdpjlaaGreatDoor
open Go Go.Ab
set_option linter.unusedSectionVars false
variable [Amb] [HasPow10 Tryz.prog]
set_option maxRecDepth 100000
set_option maxHeartbeats 4000000

theorem monthL_inj {a b : Nat} (ha : 1 ≤ a ∧ a ≤ 12) (hb : 1 ≤ b ∧ b ≤ 12) (h : monthL a = monthL b) : a = b := by
  have : ∀ x y : Fin 12, monthL (x.val + 1) = monthL (y.val + 1) → x = y := by decide
  have := this ⟨a - 1, by omega⟩ ⟨b - 1, by omega⟩ (by simp only [show a - 1 + 1 = a by omega, show b - 1 + 1 = b by omega]; exact h)
  have := congrArg Fin.val this
  simp only at this
  omega
theorem itoa_month (m : Nat) (h : 1 ≤ m ∧ m ≤ 12) : (itoaL (100 + (m : Int))).drop 1 = padD 2 m ∧ (itoaL (100 + (m : Int))).length = 3 := by
  have e : itoaL (100 + (m : Int)) = padD 3 (100 + m) := by
    obtain ⟨h1, h2⟩ := padD_itoa 3 (100 + m) (by omega) (by omega)
    rw [← h2]
    have h3 : (Lib.itoa ((100 + m : Nat) : Int)).length = 3 := by
      have := (padD_eq 3 (100 + m) (by omega) (by omega))
      have e : Lib.itoa ((100 + m : Nat) : Int) = Lib.decDigits (100 + m) := by unfold Lib.itoa; rw [if_neg (by omega)]; rfl
      rw [e, Lib.decDigits, dif_neg (by omega), Lib.decDigits, dif_neg (by omega), Lib.decDigits, dif_pos (by omega)]
      rfl
    rw [h3]
    show Lib.itoa (100 + (m : Int)) = _
    simp
  rw [e]
  refine ⟨?_, padD_len _ _⟩
  have hs := padD_split 1 2 (100 + m)
  rw [show 1 + 2 = 3 from rfl] at hs
  rw [hs, List.drop_left' (padD_len 1 _)]
  have hc : ∀ x : Fin 13, padD 2 (100 + x.val) = padD 2 x.val := by decide
  exact hc ⟨m, by omega⟩
theorem dateL_cut (t : Int) (h : momentB t = true) : (dateL t).length = 29 ∧ cutAt (dateL t) 8 11 = monthL (monthOf (t / 86400)).toNat ∧ cutAt (dateL t) 12 16 = padD 4 (yearOf (t / 86400)).toNat ∧ cutAt (dateL t) 5 7 = padD 2 (dayOf (t / 86400)).toNat ∧
    cutAt (dateL t) 17 19 = padD 2 (t % 86400 / 3600).toNat ∧ cutAt (dateL t) 20 22 = padD 2 (t % 86400 / 60 % 60).toNat ∧ cutAt (dateL t) 23 25 = padD 2 (t % 86400 % 60).toNat := by
  have hb := moment_bounds h
  obtain ⟨_, hm, _⟩ := date_ok h
  have lw := weekL_len ((t / 86400 + 4) % 7).toNat (by omega)
  have lm := monthL_len (monthOf (t / 86400)).toNat (by omega)
  unfold dateL
  generalize weekL ((t / 86400 + 4) % 7).toNat = W at lw ⊢
  generalize monthL (monthOf (t / 86400)).toNat = M at lm ⊢
  have l1 := padD_len 2 (dayOf (t / 86400)).toNat
  have l2 := padD_len 4 (yearOf (t / 86400)).toNat
  have l3 := padD_len 2 (t % 86400 / 3600).toNat
  have l4 := padD_len 2 (t % 86400 / 60 % 60).toNat
  have l5 := padD_len 2 (t % 86400 % 60).toNat
  generalize padD 2 (dayOf (t / 86400)).toNat = D at l1 ⊢
  generalize padD 4 (yearOf (t / 86400)).toNat = Y at l2 ⊢
  generalize padD 2 (t % 86400 / 3600).toNat = H at l3 ⊢
  generalize padD 2 (t % 86400 / 60 % 60).toNat = I at l4 ⊢
  generalize padD 2 (t % 86400 % 60).toNat = S at l5 ⊢
  match W, lw, D, l1, M, lm, Y, l2, H, l3, I, l4, S, l5 with
  | [w1, w2, w3], _, [d1, d2], _, [m1, m2, m3], _, [y1, y2, y3, y4], _, [h1, h2], _, [i1, i2], _, [s1, s2], _ => exact ⟨rfl, rfl, rfl, rfl, rfl, rfl, rfl⟩
end Go.Proofs.YtejhjdpafdpjlaaGreatDoor
