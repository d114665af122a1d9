/- A part of the proof: lemmas and contracts of functions. -/
import Derived.Lib.ItoaNum
import Derived.Lib.Atoi
namespace Go.Proofs.YtejhjdpafdpjlaaGreatDoor
open Go

/-! ### Numbers of a fixed width -/
def dig (n : Nat) : UInt8 := UInt8.ofNat (48 + n % 10)
def padD : Nat → Nat → List UInt8
  | 0, _ => []
  | k + 1, n => padD k (n / 10) ++ [dig n]
@[simp] theorem padD_len : ∀ (k n : Nat), (padD k n).length = k
  | 0, _ => rfl
  | k + 1, n => by simp [padD, padD_len k]
theorem padD_zero : ∀ k, padD k 0 = List.replicate k 48
  | 0 => rfl
  | k + 1 => by
    simp only [padD, Nat.zero_div, padD_zero k, List.replicate_succ']
    rfl
theorem decDigits_pos (n : Nat) : 1 ≤ (Lib.decDigits n).length := by
  rw [Lib.decDigits]; split <;> simp
theorem padD_eq : ∀ (k n : Nat), n < 10 ^ k → 1 ≤ k → (Lib.decDigits n).length ≤ k ∧ padD k n = List.replicate (k - (Lib.decDigits n).length) 48 ++ Lib.decDigits n
  | 0, n, _, h => by omega
  | k + 1, n, hn, _ => by
    by_cases h10 : n < 10
    · have e : Lib.decDigits n = [UInt8.ofNat (48 + n)] := by rw [Lib.decDigits, dif_pos h10]
      rw [e]
      refine ⟨by simp, ?_⟩
      simp only [padD, List.length_cons, List.length_nil, Nat.add_sub_cancel, Nat.zero_add]
      rw [show n / 10 = 0 by omega, padD_zero, dig, Nat.mod_eq_of_lt h10]
    · have e : Lib.decDigits n = Lib.decDigits (n / 10) ++ [UInt8.ofNat (48 + n % 10)] := by rw [Lib.decDigits, dif_neg h10]
      have hk : 1 ≤ k := by
        rcases Nat.eq_zero_or_pos k with h0 | h0
        · subst h0; simp at hn; omega
        · exact h0
      have hlt : n / 10 < 10 ^ k := by rw [Nat.pow_succ] at hn; omega
      obtain ⟨h1, h2⟩ := padD_eq k (n / 10) hlt hk
      rw [e]
      refine ⟨by simp; omega, ?_⟩
      simp only [padD, List.length_append, List.length_cons, List.length_nil, h2]
      rw [show k + 1 - ((Lib.decDigits (n / 10)).length + (0 + 1)) = k - (Lib.decDigits (n / 10)).length by omega, List.append_assoc]
      rfl
theorem padD_itoa (k n : Nat) (h : n < 10 ^ k) (hk : 1 ≤ k) : (Lib.itoa (n : Int)).length ≤ k ∧ List.replicate (k - (Lib.itoa (n : Int)).length) 48 ++ Lib.itoa (n : Int) = padD k n := by
  have e : Lib.itoa (n : Int) = Lib.decDigits n := by unfold Lib.itoa; rw [if_neg (by omega)]; rfl
  rw [e]
  obtain ⟨h1, h2⟩ := padD_eq k n h hk
  exact ⟨h1, h2.symm⟩
theorem padD_split (k j n : Nat) : padD (k + j) n = padD k (n / 10 ^ j) ++ padD j n := by
  induction j generalizing n with
  | zero => simp [padD]
  | succ j ih =>
    rw [← Nat.add_assoc]
    simp only [padD]
    rw [ih, Nat.div_div_eq_div_mul, Nat.pow_succ', List.append_assoc]
theorem dig_digit (n : Nat) : Lib.digitVal (dig n) = some (n % 10) := by
  have : ∀ m : Fin 10, Lib.digitVal (UInt8.ofNat (48 + m.val)) = some m.val := by decide
  exact this ⟨n % 10, by omega⟩
theorem dig_inj {a b : Nat} (h : dig a = dig b) : a % 10 = b % 10 := by
  have h1 := dig_digit a
  rw [h, dig_digit b] at h1
  injection h1 with h1
  exact h1.symm
theorem dig_mod (n : Nat) : dig (n % 10) = dig n := by unfold dig; rw [Nat.mod_mod]
theorem padD_inj : ∀ {k a b : Nat}, a < 10 ^ k → b < 10 ^ k → padD k a = padD k b → a = b
  | 0, a, b, ha, hb, _ => by simp at ha hb; omega
  | k + 1, a, b, ha, hb, h => by
    simp only [padD] at h
    obtain ⟨h1, h2⟩ := List.append_inj' h rfl
    rw [Nat.pow_succ] at ha hb
    have := padD_inj (k := k) (a := a / 10) (b := b / 10) (by omega) (by omega) h1
    have := dig_inj (by simpa using h2)
    omega
theorem padD_two (n : Nat) : padD 2 n = [UInt8.ofNat (48 + n / 10 % 10), UInt8.ofNat (48 + n % 10)] := rfl
theorem padD_four (n : Nat) : padD 4 n = padD 2 (n / 100) ++ padD 2 n := padD_split 2 2 n
end Go.Proofs.YtejhjdpafdpjlaaGreatDoor
