/- A part of the proof: lemmas and contracts of functions. -/
import Derived.Test.YtejhjdpafdpjlaaGreatDoorIxDig
namespace Go.Proofs.YtejhjdpafdpjlaaGreatDoor
open Go

/-! ### Decimal numbers without a needless 0 -/
def isDig (b : UInt8) : Bool := decide (48 ≤ b.toNat) && decide (b.toNat ≤ 57)
def decV (s : List UInt8) : Nat := s.foldl (fun a b => a * 10 + (b.toNat - 48)) 0
def lead0 (s : List UInt8) : Bool := decide (s.head? = some 48) && decide (s.length ≠ 1)
def numB (s : List UInt8) : Bool := s.all isDig && (decide (1 ≤ s.length) && (decide (s.length ≤ 12) && !lead0 s))
def numV (s : List UInt8) : Int := if numB s = true then (decV s : Int) else 0
theorem decV_snoc (s : List UInt8) (b : UInt8) : decV (s ++ [b]) = decV s * 10 + (b.toNat - 48) := by simp [decV, List.foldl_append]
theorem snoc_ex {α : Type} (l : List α) (h : l ≠ []) : ∃ t b, l = t ++ [b] := ⟨l.dropLast, l.getLast h, (List.dropLast_concat_getLast h).symm⟩
theorem snoc_ind {α : Type} {p : List α → Prop} (h0 : p []) (h1 : ∀ t b, p t → p (t ++ [b])) (l : List α) : p l := by
  generalize hn : l.length = n
  induction n generalizing l with
  | zero => rw [List.eq_nil_of_length_eq_zero hn]; exact h0
  | succ n ih =>
    obtain ⟨t, b, rfl⟩ := snoc_ex l (by rintro rfl; simp at hn)
    exact h1 t b (ih t (by simpa using hn))
theorem decFrom_eq : ∀ (s : List UInt8) (a : Nat), s.all isDig = true → Lib.decFrom a s = some (s.foldl (fun a b => a * 10 + (b.toNat - 48)) a)
  | [], a, _ => rfl
  | b :: r, a, h => by
    simp only [List.all_cons, Bool.and_eq_true, isDig, decide_eq_true_eq] at h
    have hd : Lib.digitVal b = some (b.toNat - 48) := by unfold Lib.digitVal; rw [if_pos ⟨h.1.1, h.1.2⟩]
    unfold Lib.decFrom
    rw [hd]
    exact decFrom_eq r _ h.2
theorem atoi_eq {s : List UInt8} (h : s.all isDig = true) (h0 : s ≠ []) : Lib.atoi s = some (decV s : Int) := by
  cases s with
  | nil => exact absurd rfl h0
  | cons b r =>
    have hb := h
    simp only [List.all_cons, Bool.and_eq_true, isDig, decide_eq_true_eq] at hb
    have h45 : (b == 45) = false := by
      simp only [beq_eq_false_iff_ne, ne_eq]; rintro rfl; exact absurd hb.1.1 (by decide)
    have h43 : (b == 43) = false := by
      simp only [beq_eq_false_iff_ne, ne_eq]; rintro rfl; exact absurd hb.1.1 (by decide)
    unfold Lib.atoi
    dsimp only
    rw [h45, h43]
    simp only [Bool.false_eq_true, if_false, Lib.decNat, List.isEmpty_cons]
    rw [decFrom_eq _ 0 h]
    rfl
theorem dig_of {b : UInt8} (h : isDig b = true) : UInt8.ofNat (48 + (b.toNat - 48)) = b ∧ b.toNat - 48 < 10 := by
  simp only [isDig, Bool.and_eq_true, decide_eq_true_eq] at h
  refine ⟨?_, by omega⟩
  rw [show 48 + (b.toNat - 48) = b.toNat by omega]
  simp
theorem decDigits_decV (s : List UInt8) : s.all isDig = true → s ≠ [] → lead0 s = false → Lib.decDigits (decV s) = s := by
  induction s using snoc_ind with
  | h0 => intro _ h; exact absurd rfl h
  | h1 t b ih =>
    intro hall _ hl
    simp only [List.all_append, List.all_cons, List.all_nil, Bool.and_true, Bool.and_eq_true] at hall
    obtain ⟨hb1, hb2⟩ := dig_of hall.2
    rw [decV_snoc]
    cases t with
    | nil =>
      simp only [decV, List.foldl_nil, Nat.zero_mul, Nat.zero_add, List.nil_append]
      rw [Lib.decDigits, dif_pos hb2, hb1]
    | cons a r =>
      have hne : a ≠ 48 := by
        rintro rfl
        simp [lead0] at hl
      have iht := ih hall.1 (by simp) (by simp [lead0, hne])
      have hpos : 0 < decV (a :: r) := by
        rcases Nat.eq_zero_or_pos (decV (a :: r)) with h0 | h0
        · rw [h0] at iht
          have : Lib.decDigits 0 = [48] := by rw [Lib.decDigits]; rfl
          rw [this] at iht
          injection iht with e1 _
          exact absurd e1.symm hne
        · exact h0
      rw [Lib.decDigits, dif_neg (by omega), show (decV (a :: r) * 10 + (b.toNat - 48)) / 10 = decV (a :: r) by omega, show (decV (a :: r) * 10 + (b.toNat - 48)) % 10 = b.toNat - 48 by omega, iht, hb1]
theorem decDigits_all (n : Nat) : (Lib.decDigits n).all isDig = true ∧ decV (Lib.decDigits n) = n ∧ (n ≠ 0 → (Lib.decDigits n).head? ≠ some 48) := by
  have hd : ∀ m : Nat, m < 10 → isDig (UInt8.ofNat (48 + m)) = true ∧ (UInt8.ofNat (48 + m)).toNat - 48 = m ∧ (m ≠ 0 → UInt8.ofNat (48 + m) ≠ 48) := by
    intro m hm
    have : ∀ m : Fin 10, isDig (UInt8.ofNat (48 + m.val)) = true ∧ (UInt8.ofNat (48 + m.val)).toNat - 48 = m.val ∧ (m.val ≠ 0 → UInt8.ofNat (48 + m.val) ≠ 48) := by decide
    exact this ⟨m, hm⟩
  induction n using Nat.strongRecOn with
  | ind n ih =>
    by_cases h : n < 10
    · rw [Lib.decDigits, dif_pos h]
      obtain ⟨h1, h2, h3⟩ := hd n h
      exact ⟨by simp only [List.all_cons, List.all_nil, Bool.and_true]; exact h1, by simp only [decV, List.foldl_cons, List.foldl_nil, Nat.zero_mul, Nat.zero_add]; exact h2, fun hn => by simp only [List.head?_cons, ne_eq, Option.some.injEq]; exact h3 hn⟩
    · rw [Lib.decDigits, dif_neg h]
      obtain ⟨i1, i2, i3⟩ := ih (n / 10) (by omega)
      obtain ⟨h1, h2, _⟩ := hd (n % 10) (by omega)
      refine ⟨by simp only [List.all_append, i1, List.all_cons, List.all_nil, Bool.and_true, Bool.true_and]; exact h1, by rw [decV_snoc, i2, h2]; omega, fun _ => ?_⟩
      have := i3 (by omega)
      cases hq : Lib.decDigits (n / 10) with
      | nil => have := decDigits_pos (n / 10); rw [hq] at this; simp at this
      | cons a r => rw [hq] at this; simpa using this
theorem numB_itoa {n : Int} (h0 : 0 ≤ n) (h1 : n < 1000000000000) : numB (Lib.itoa n) = true ∧ numV (Lib.itoa n) = n := by
  obtain ⟨m, rfl⟩ : ∃ m : Nat, n = m := ⟨n.toNat, by omega⟩
  have e : Lib.itoa (m : Int) = Lib.decDigits m := by unfold Lib.itoa; rw [if_neg (by omega)]; rfl
  obtain ⟨d1, d2, d3⟩ := decDigits_all m
  have hb : numB (Lib.decDigits m) = true := by
    unfold numB
    have hp := decDigits_pos m
    have hle := (padD_eq 12 m (by simp; omega) (by omega)).1
    have hl : lead0 (Lib.decDigits m) = false := by
      unfold lead0
      by_cases hm : m = 0
      · subst hm
        have : Lib.decDigits 0 = [48] := by rw [Lib.decDigits]; rfl
        rw [this]; rfl
      · simp [d3 hm]
    simp [d1, hp, hle, hl]
  rw [e]
  exact ⟨hb, by unfold numV; rw [if_pos hb, d2]⟩
theorem decV_lt : ∀ (s : List UInt8), s.all isDig = true → decV s < 10 ^ s.length := by
  intro s
  induction s using snoc_ind with
  | h0 => intro _; simp [decV]
  | h1 t b ih =>
    intro h
    simp only [List.all_append, List.all_cons, List.all_nil, Bool.and_true, Bool.and_eq_true] at h
    have h1 := ih h.1
    have h2 := (dig_of h.2).2
    rw [decV_snoc, List.length_append, List.length_singleton, Nat.pow_succ]
    omega
theorem numB_bound {s : List UInt8} (h : numB s = true) : 0 ≤ numV s ∧ numV s < 1000000000000 ∧ Lib.itoa (numV s) = s ∧ s.all isDig = true ∧ 1 ≤ s.length ∧ s.length ≤ 12 := by
  unfold numV
  rw [if_pos h]
  simp only [numB, Bool.and_eq_true, decide_eq_true_eq, Bool.not_eq_true'] at h
  obtain ⟨h1, h2, h3, h4⟩ := h
  have hlt := decV_lt s h1
  have hp : 10 ^ s.length ≤ 10 ^ 12 := Nat.pow_le_pow_right (by omega) h3
  refine ⟨by omega, by omega, ?_, h1, h2, h3⟩
  have e : Lib.itoa (decV s : Int) = Lib.decDigits (decV s) := by unfold Lib.itoa; rw [if_neg (by omega)]; rfl
  rw [e, decDigits_decV s h1 (by rintro rfl; simp at h2) h4]
end Go.Proofs.YtejhjdpafdpjlaaGreatDoor
