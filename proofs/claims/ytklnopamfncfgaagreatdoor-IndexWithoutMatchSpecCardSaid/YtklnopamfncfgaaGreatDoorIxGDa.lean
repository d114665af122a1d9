/- A part of the proof: lemmas and contracts of functions. -/
import Derived.Lib.Split
import Derived.Lib.ItoaNum
import Derived.Lib.Atoi
import Derived.Test.YtklnopamfncfgaaGreatDoorAbJ5
import Derived.Test.YtklnopamfncfgaaGreatDoorProg
import Derived.KernelRfl
import Derived.Test.YtklnopamfncfgaaGreatDoorAbJ4
import Derived.Shelf.Lays
import Derived.Shelf.Small.Strs
import Derived.Shelf.Strings.SlTrimAscii
namespace Go.Proofs.YtklnopamfncfgaaGreatDoor
open Go

/-! ### Strings divided at a byte -/
def befC (c : UInt8) (s : List UInt8) : List UInt8 := s.takeWhile (· != c)
def aftC (c : UInt8) (s : List UInt8) : List UInt8 := s.drop ((befC c s).length + 1)
theorem befC_nil (c : UInt8) : befC c [] = [] := rfl
theorem befC_hit (c : UInt8) (r : List UInt8) : befC c (c :: r) = [] := by simp [befC]
theorem befC_miss {b c : UInt8} (h : b ≠ c) (r : List UInt8) : befC c (b :: r) = b :: befC c r := by simp [befC, h]
theorem aftC_hit (c : UInt8) (r : List UInt8) : aftC c (c :: r) = r := by simp [aftC, befC_hit]
theorem aftC_miss {b c : UInt8} (h : b ≠ c) (r : List UInt8) : aftC c (b :: r) = aftC c r := by simp [aftC, befC_miss h]
theorem befC_not (c : UInt8) (s : List UInt8) : c ∉ befC c s := by
  induction s with
  | nil => simp [befC]
  | cons b r ih =>
    by_cases h : b = c
    · subst h; simp [befC_hit]
    · rw [befC_miss h]; simp only [List.mem_cons, not_or]; exact ⟨fun e => h e.symm, ih⟩
theorem befC_all {c : UInt8} {s : List UInt8} (h : c ∉ s) : befC c s = s := by
  induction s with
  | nil => rfl
  | cons b r ih =>
    simp only [List.mem_cons, not_or] at h
    rw [befC_miss (fun e => h.1 e.symm), ih h.2]
theorem befC_aft {c : UInt8} {s : List UInt8} (h : c ∈ s) : s = befC c s ++ c :: aftC c s := by
  induction s with
  | nil => cases h
  | cons b r ih =>
    by_cases e : b = c
    · subst e; rw [befC_hit, aftC_hit]; rfl
    · rw [befC_miss e, aftC_miss e]
      have := ih ((List.mem_cons.1 h).resolve_left (fun x => e x.symm))
      rw [List.cons_append, ← this]
theorem befC_append {c : UInt8} {a r : List UInt8} (h : c ∉ a) : befC c (a ++ c :: r) = a := by
  induction a with
  | nil => exact befC_hit c r
  | cons b t ih =>
    simp only [List.mem_cons, not_or] at h
    rw [List.cons_append, befC_miss (fun e => h.1 e.symm), ih h.2]
theorem aftC_append {c : UInt8} {a r : List UInt8} (h : c ∉ a) : aftC c (a ++ c :: r) = r := by
  unfold aftC
  rw [befC_append h]
  simp
theorem aftC_len {c : UInt8} {s : List UInt8} (h : c ∈ s) : (aftC c s).length < s.length := by
  have := congrArg List.length (befC_aft h)
  simp at this; omega
theorem index_one (c : UInt8) : ∀ s : List UInt8, Lib.index s [c] = if c ∈ s then ((befC c s).length : Int) else -1
  | [] => by simp [Lib.index]
  | b :: r => by
    have ih := index_one c r
    unfold Lib.index
    by_cases h : b = c
    · subst h; simp [List.isPrefixOf, befC_hit]
    · have hp : ([c].isPrefixOf (b :: r)) = false := by simp [List.isPrefixOf]; exact fun e => h e.symm
      rw [hp, ih, befC_miss h]
      by_cases hm : c ∈ r
      · have hne : ¬ (((befC c r).length : Int) = -1) := by omega
        simp [hm, hne]
      · have : c ∉ b :: r := by simp [hm]; exact fun e => h e.symm
        simp [hm, this]
def splitC (c : UInt8) : List UInt8 → List (List UInt8)
  | [] => [[]]
  | b :: r => if b = c then [] :: splitC c r else match splitC c r with
    | h :: t => (b :: h) :: t
    | [] => [[b]]
theorem splitC_ne (c : UInt8) (s : List UInt8) : splitC c s ≠ [] := by
  cases s with
  | nil => simp [splitC]
  | cons b r =>
    unfold splitC
    split
    · simp
    · split <;> simp
theorem splitC_hit {c : UInt8} {s : List UInt8} (h : c ∈ s) : splitC c s = befC c s :: splitC c (aftC c s) := by
  induction s with
  | nil => cases h
  | cons b r ih =>
    by_cases e : b = c
    · subst e; rw [befC_hit, aftC_hit]; simp [splitC]
    · rw [befC_miss e, aftC_miss e, splitC, if_neg e, ih ((List.mem_cons.1 h).resolve_left (fun x => e x.symm))]
theorem splitC_miss {c : UInt8} {s : List UInt8} (h : c ∉ s) : splitC c s = [s] := by
  induction s with
  | nil => rfl
  | cons b r ih =>
    simp only [List.mem_cons, not_or] at h
    rw [splitC, if_neg (fun e => h.1 e.symm), ih h.2]
theorem splitC_cons {c : UInt8} {a r : List UInt8} (h : c ∉ a) : splitC c (a ++ c :: r) = a :: splitC c r := by
  rw [splitC_hit (by simp), befC_append h, aftC_append h]
theorem splitK_eq (c : UInt8) : ∀ (k : Nat) (s : List UInt8), s.count c ≤ k → Lib.splitK [c] 0 k s = splitC c s
  | 0, s, h => by
    have : c ∉ s := fun hm => by have := List.count_pos_iff.2 hm; omega
    rw [splitC_miss this]; rfl
  | k + 1, s, h => by
    unfold Lib.splitK
    rw [index_one]
    by_cases hm : c ∈ s
    · have hne : ¬ (((befC c s).length : Int) = -1) := by omega
      have e := befC_aft hm
      have hc : (aftC c s).count c ≤ k := by
        have := congrArg (List.count c) e
        rw [List.count_append, List.count_cons_self] at this
        omega
      rw [if_pos hm, splitC_hit hm, ← splitK_eq c k _ hc]
      have ht : s.take (befC c s).length = befC c s := by
        have := congrArg (List.take (befC c s).length) e
        rw [List.take_left' rfl] at this
        exact this
      simp [hne, ht, aftC]
    · rw [if_neg hm, splitC_miss hm]; rfl
theorem countFrom_one (c : UInt8) : ∀ (n : Nat) (s : List UInt8), s.length < n → Lib.countFrom [c] n s = s.count c
  | 0, s, h => by omega
  | n + 1, s, h => by
    unfold Lib.countFrom
    rw [index_one]
    by_cases hm : c ∈ s
    · have hne : ¬ (((befC c s).length : Int) = -1) := by omega
      have hl := aftC_len hm
      have e := congrArg (List.count c) (befC_aft hm)
      rw [List.count_append, List.count_cons_self, List.count_eq_zero_of_not_mem (befC_not c s)] at e
      have ih := countFrom_one c n (aftC c s) (by omega)
      unfold aftC at ih e
      simp [hm, hne, ih]; omega
    · simp [hm, List.count_eq_zero_of_not_mem hm]
theorem split_one (c : UInt8) (s : List UInt8) : Lib.split s [c] = splitC c s := by
  unfold Lib.split Lib.count
  rw [countFrom_one c _ _ (by omega)]
  exact splitK_eq c _ s (Nat.le_refl _)
theorem cut_one (c : UInt8) (s : List UInt8) : Lib.cut s [c] = if c ∈ s then (befC c s, aftC c s, true) else (s, [], false) := by
  unfold Lib.cut
  rw [index_one]
  by_cases hm : c ∈ s
  · have ht : s.take (befC c s).length = befC c s := by
      have := congrArg (List.take (befC c s).length) (befC_aft hm)
      rw [List.take_left' rfl] at this
      exact this
    simp [hm, ht, aftC]
  · simp [hm]
/-! ### Joined again -/
theorem splitC_parts {c : UInt8} : ∀ {s : List UInt8}, ∀ x ∈ splitC c s, c ∉ x
  | [], x, hx => by simp [splitC] at hx; subst hx; simp
  | b :: r, x, hx => by
    have ih := splitC_parts (c := c) (s := r)
    rw [splitC] at hx
    split at hx
    · rcases List.mem_cons.1 hx with rfl | hx
      · simp
      · exact ih x hx
    · rename_i hb
      split at hx
      · rename_i h t e
        rw [e] at ih
        rcases List.mem_cons.1 hx with rfl | hx
        · simp only [List.mem_cons, not_or]
          exact ⟨fun e => hb e.symm, ih h (by simp)⟩
        · exact ih x (by simp [hx])
      · simp at hx; subst hx; simp; exact fun e => hb e.symm
def joinC (c : UInt8) : List (List UInt8) → List UInt8
  | [] => []
  | [a] => a
  | a :: b :: r => a ++ c :: joinC c (b :: r)
theorem join_split (c : UInt8) (s : List UInt8) : joinC c (splitC c s) = s := by
  induction s with
  | nil => rfl
  | cons b r ih =>
    rw [splitC]
    cases hs : splitC c r with
    | nil => exact absurd hs (splitC_ne c r)
    | cons h t =>
      rw [hs] at ih
      split
      · rename_i e
        subst e
        simp [joinC, ih]
      · cases t with
        | nil => simp [joinC] at ih ⊢; exact ih
        | cons h2 t2 => simp [joinC] at ih ⊢; exact ih
theorem split_join (c : UInt8) : ∀ (w : List (List UInt8)), w ≠ [] → (∀ x ∈ w, c ∉ x) → splitC c (joinC c w) = w
  | [], h, _ => absurd rfl h
  | [a], _, h => splitC_miss (h a (by simp))
  | a :: b :: r, _, h => by
    rw [joinC, splitC_cons (h a (by simp)), split_join c (b :: r) (by simp) (fun x hx => h x (by simp at hx ⊢; exact .inr hx))]
theorem splitC_count (c : UInt8) (s : List UInt8) : (splitC c s).length ≤ s.length + 1 := by
  induction s with
  | nil => simp [splitC]
  | cons b r ih =>
    rw [splitC]
    split
    · simpa using ih
    · split
      · rename_i e; rw [e] at ih; simpa using Nat.le_succ_of_le ih
      · simp
end Go.Proofs.YtklnopamfncfgaaGreatDoor
namespace Go.Proofs.YtklnopamfncfgaaGreatDoor
open Go

/-! ### Numbers of a fixed width -/
def dig (n : Nat) : UInt8 := UInt8.ofNat (48 + n % 10)
def padD : Nat → Nat → List UInt8
  | 0, _ => []
  | k + 1, n => padD k (n / 10) ++ [dig n]
@[simp] theorem padD_len : ∀ (k n : Nat), (padD k n).length = k
  | 0, _ => rfl
  | k + 1, n => by simp [padD, padD_len k]
theorem padD_zero : ∀ k, padD k 0 = List.replicate k 48
  | 0 => rfl
  | k + 1 => by
    simp only [padD, Nat.zero_div, padD_zero k, List.replicate_succ']
    rfl
theorem decDigits_pos (n : Nat) : 1 ≤ (Lib.decDigits n).length := by
  rw [Lib.decDigits]; split <;> simp
theorem padD_eq : ∀ (k n : Nat), n < 10 ^ k → 1 ≤ k → (Lib.decDigits n).length ≤ k ∧ padD k n = List.replicate (k - (Lib.decDigits n).length) 48 ++ Lib.decDigits n
  | 0, n, _, h => by omega
  | k + 1, n, hn, _ => by
    by_cases h10 : n < 10
    · have e : Lib.decDigits n = [UInt8.ofNat (48 + n)] := by rw [Lib.decDigits, dif_pos h10]
      rw [e]
      refine ⟨by simp, ?_⟩
      simp only [padD, List.length_cons, List.length_nil, Nat.add_sub_cancel, Nat.zero_add]
      rw [show n / 10 = 0 by omega, padD_zero, dig, Nat.mod_eq_of_lt h10]
    · have e : Lib.decDigits n = Lib.decDigits (n / 10) ++ [UInt8.ofNat (48 + n % 10)] := by rw [Lib.decDigits, dif_neg h10]
      have hk : 1 ≤ k := by
        rcases Nat.eq_zero_or_pos k with h0 | h0
        · subst h0; simp at hn; omega
        · exact h0
      have hlt : n / 10 < 10 ^ k := by rw [Nat.pow_succ] at hn; omega
      obtain ⟨h1, h2⟩ := padD_eq k (n / 10) hlt hk
      rw [e]
      refine ⟨by simp; omega, ?_⟩
      simp only [padD, List.length_append, List.length_cons, List.length_nil, h2]
      rw [show k + 1 - ((Lib.decDigits (n / 10)).length + (0 + 1)) = k - (Lib.decDigits (n / 10)).length by omega, List.append_assoc]
      rfl
theorem padD_itoa (k n : Nat) (h : n < 10 ^ k) (hk : 1 ≤ k) : (Lib.itoa (n : Int)).length ≤ k ∧ List.replicate (k - (Lib.itoa (n : Int)).length) 48 ++ Lib.itoa (n : Int) = padD k n := by
  have e : Lib.itoa (n : Int) = Lib.decDigits n := by unfold Lib.itoa; rw [if_neg (by omega)]; rfl
  rw [e]
  obtain ⟨h1, h2⟩ := padD_eq k n h hk
  exact ⟨h1, h2.symm⟩
theorem padD_split (k j n : Nat) : padD (k + j) n = padD k (n / 10 ^ j) ++ padD j n := by
  induction j generalizing n with
  | zero => simp [padD]
  | succ j ih =>
    rw [← Nat.add_assoc]
    simp only [padD]
    rw [ih, Nat.div_div_eq_div_mul, Nat.pow_succ', List.append_assoc]
theorem dig_digit (n : Nat) : Lib.digitVal (dig n) = some (n % 10) := by
  have : ∀ m : Fin 10, Lib.digitVal (UInt8.ofNat (48 + m.val)) = some m.val := by decide
  exact this ⟨n % 10, by omega⟩
theorem dig_inj {a b : Nat} (h : dig a = dig b) : a % 10 = b % 10 := by
  have h1 := dig_digit a
  rw [h, dig_digit b] at h1
  injection h1 with h1
  exact h1.symm
theorem dig_mod (n : Nat) : dig (n % 10) = dig n := by unfold dig; rw [Nat.mod_mod]
theorem padD_inj : ∀ {k a b : Nat}, a < 10 ^ k → b < 10 ^ k → padD k a = padD k b → a = b
  | 0, a, b, ha, hb, _ => by simp at ha hb; omega
  | k + 1, a, b, ha, hb, h => by
    simp only [padD] at h
    obtain ⟨h1, h2⟩ := List.append_inj' h rfl
    rw [Nat.pow_succ] at ha hb
    have := padD_inj (k := k) (a := a / 10) (b := b / 10) (by omega) (by omega) h1
    have := dig_inj (by simpa using h2)
    omega
theorem padD_two (n : Nat) : padD 2 n = [UInt8.ofNat (48 + n / 10 % 10), UInt8.ofNat (48 + n % 10)] := rfl
theorem padD_four (n : Nat) : padD 4 n = padD 2 (n / 100) ++ padD 2 n := padD_split 2 2 n
end Go.Proofs.YtklnopamfncfgaaGreatDoor
namespace Go.Proofs.YtklnopamfncfgaaGreatDoor
open Go

/-! ### Decimal numbers without a needless 0 -/
def isDig (b : UInt8) : Bool := decide (48 ≤ b.toNat) && decide (b.toNat ≤ 57)
def decV (s : List UInt8) : Nat := s.foldl (fun a b => a * 10 + (b.toNat - 48)) 0
def lead0 (s : List UInt8) : Bool := decide (s.head? = some 48) && decide (s.length ≠ 1)
def numB (s : List UInt8) : Bool := s.all isDig && (decide (1 ≤ s.length) && (decide (s.length ≤ 12) && !lead0 s))
def numV (s : List UInt8) : Int := if numB s = true then (decV s : Int) else 0
theorem decV_snoc (s : List UInt8) (b : UInt8) : decV (s ++ [b]) = decV s * 10 + (b.toNat - 48) := by simp [decV, List.foldl_append]
theorem snoc_ex {α : Type} (l : List α) (h : l ≠ []) : ∃ t b, l = t ++ [b] := ⟨l.dropLast, l.getLast h, (List.dropLast_concat_getLast h).symm⟩
theorem snoc_ind {α : Type} {p : List α → Prop} (h0 : p []) (h1 : ∀ t b, p t → p (t ++ [b])) (l : List α) : p l := by
  generalize hn : l.length = n
  induction n generalizing l with
  | zero => rw [List.eq_nil_of_length_eq_zero hn]; exact h0
  | succ n ih =>
    obtain ⟨t, b, rfl⟩ := snoc_ex l (by rintro rfl; simp at hn)
    exact h1 t b (ih t (by simpa using hn))
theorem decFrom_eq : ∀ (s : List UInt8) (a : Nat), s.all isDig = true → Lib.decFrom a s = some (s.foldl (fun a b => a * 10 + (b.toNat - 48)) a)
  | [], a, _ => rfl
  | b :: r, a, h => by
    simp only [List.all_cons, Bool.and_eq_true, isDig, decide_eq_true_eq] at h
    have hd : Lib.digitVal b = some (b.toNat - 48) := by unfold Lib.digitVal; rw [if_pos ⟨h.1.1, h.1.2⟩]
    unfold Lib.decFrom
    rw [hd]
    exact decFrom_eq r _ h.2
theorem atoi_eq {s : List UInt8} (h : s.all isDig = true) (h0 : s ≠ []) : Lib.atoi s = some (decV s : Int) := by
  cases s with
  | nil => exact absurd rfl h0
  | cons b r =>
    have hb := h
    simp only [List.all_cons, Bool.and_eq_true, isDig, decide_eq_true_eq] at hb
    have h45 : (b == 45) = false := by
      simp only [beq_eq_false_iff_ne, ne_eq]; rintro rfl; exact absurd hb.1.1 (by decide)
    have h43 : (b == 43) = false := by
      simp only [beq_eq_false_iff_ne, ne_eq]; rintro rfl; exact absurd hb.1.1 (by decide)
    unfold Lib.atoi
    dsimp only
    rw [h45, h43]
    simp only [Bool.false_eq_true, if_false, Lib.decNat, List.isEmpty_cons]
    rw [decFrom_eq _ 0 h]
    rfl
theorem dig_of {b : UInt8} (h : isDig b = true) : UInt8.ofNat (48 + (b.toNat - 48)) = b ∧ b.toNat - 48 < 10 := by
  simp only [isDig, Bool.and_eq_true, decide_eq_true_eq] at h
  refine ⟨?_, by omega⟩
  rw [show 48 + (b.toNat - 48) = b.toNat by omega]
  simp
theorem decDigits_decV (s : List UInt8) : s.all isDig = true → s ≠ [] → lead0 s = false → Lib.decDigits (decV s) = s := by
  induction s using snoc_ind with
  | h0 => intro _ h; exact absurd rfl h
  | h1 t b ih =>
    intro hall _ hl
    simp only [List.all_append, List.all_cons, List.all_nil, Bool.and_true, Bool.and_eq_true] at hall
    obtain ⟨hb1, hb2⟩ := dig_of hall.2
    rw [decV_snoc]
    cases t with
    | nil =>
      simp only [decV, List.foldl_nil, Nat.zero_mul, Nat.zero_add, List.nil_append]
      rw [Lib.decDigits, dif_pos hb2, hb1]
    | cons a r =>
      have hne : a ≠ 48 := by
        rintro rfl
        simp [lead0] at hl
      have iht := ih hall.1 (by simp) (by simp [lead0, hne])
      have hpos : 0 < decV (a :: r) := by
        rcases Nat.eq_zero_or_pos (decV (a :: r)) with h0 | h0
        · rw [h0] at iht
          have : Lib.decDigits 0 = [48] := by rw [Lib.decDigits]; rfl
          rw [this] at iht
          injection iht with e1 _
          exact absurd e1.symm hne
        · exact h0
      rw [Lib.decDigits, dif_neg (by omega), show (decV (a :: r) * 10 + (b.toNat - 48)) / 10 = decV (a :: r) by omega, show (decV (a :: r) * 10 + (b.toNat - 48)) % 10 = b.toNat - 48 by omega, iht, hb1]
theorem decDigits_all (n : Nat) : (Lib.decDigits n).all isDig = true ∧ decV (Lib.decDigits n) = n ∧ (n ≠ 0 → (Lib.decDigits n).head? ≠ some 48) := by
  have hd : ∀ m : Nat, m < 10 → isDig (UInt8.ofNat (48 + m)) = true ∧ (UInt8.ofNat (48 + m)).toNat - 48 = m ∧ (m ≠ 0 → UInt8.ofNat (48 + m) ≠ 48) := by
    intro m hm
    have : ∀ m : Fin 10, isDig (UInt8.ofNat (48 + m.val)) = true ∧ (UInt8.ofNat (48 + m.val)).toNat - 48 = m.val ∧ (m.val ≠ 0 → UInt8.ofNat (48 + m.val) ≠ 48) := by decide
    exact this ⟨m, hm⟩
  induction n using Nat.strongRecOn with
  | ind n ih =>
    by_cases h : n < 10
    · rw [Lib.decDigits, dif_pos h]
      obtain ⟨h1, h2, h3⟩ := hd n h
      exact ⟨by simp only [List.all_cons, List.all_nil, Bool.and_true]; exact h1, by simp only [decV, List.foldl_cons, List.foldl_nil, Nat.zero_mul, Nat.zero_add]; exact h2, fun hn => by simp only [List.head?_cons, ne_eq, Option.some.injEq]; exact h3 hn⟩
    · rw [Lib.decDigits, dif_neg h]
      obtain ⟨i1, i2, i3⟩ := ih (n / 10) (by omega)
      obtain ⟨h1, h2, _⟩ := hd (n % 10) (by omega)
      refine ⟨by simp only [List.all_append, i1, List.all_cons, List.all_nil, Bool.and_true, Bool.true_and]; exact h1, by rw [decV_snoc, i2, h2]; omega, fun _ => ?_⟩
      have := i3 (by omega)
      cases hq : Lib.decDigits (n / 10) with
      | nil => have := decDigits_pos (n / 10); rw [hq] at this; simp at this
      | cons a r => rw [hq] at this; simpa using this
theorem numB_itoa {n : Int} (h0 : 0 ≤ n) (h1 : n < 1000000000000) : numB (Lib.itoa n) = true ∧ numV (Lib.itoa n) = n := by
  obtain ⟨m, rfl⟩ : ∃ m : Nat, n = m := ⟨n.toNat, by omega⟩
  have e : Lib.itoa (m : Int) = Lib.decDigits m := by unfold Lib.itoa; rw [if_neg (by omega)]; rfl
  obtain ⟨d1, d2, d3⟩ := decDigits_all m
  have hb : numB (Lib.decDigits m) = true := by
    unfold numB
    have hp := decDigits_pos m
    have hle := (padD_eq 12 m (by simp; omega) (by omega)).1
    have hl : lead0 (Lib.decDigits m) = false := by
      unfold lead0
      by_cases hm : m = 0
      · subst hm
        have : Lib.decDigits 0 = [48] := by rw [Lib.decDigits]; rfl
        rw [this]; rfl
      · simp [d3 hm]
    simp [d1, hp, hle, hl]
  rw [e]
  exact ⟨hb, by unfold numV; rw [if_pos hb, d2]⟩
theorem decV_lt : ∀ (s : List UInt8), s.all isDig = true → decV s < 10 ^ s.length := by
  intro s
  induction s using snoc_ind with
  | h0 => intro _; simp [decV]
  | h1 t b ih =>
    intro h
    simp only [List.all_append, List.all_cons, List.all_nil, Bool.and_true, Bool.and_eq_true] at h
    have h1 := ih h.1
    have h2 := (dig_of h.2).2
    rw [decV_snoc, List.length_append, List.length_singleton, Nat.pow_succ]
    omega
theorem numB_bound {s : List UInt8} (h : numB s = true) : 0 ≤ numV s ∧ numV s < 1000000000000 ∧ Lib.itoa (numV s) = s ∧ s.all isDig = true ∧ 1 ≤ s.length ∧ s.length ≤ 12 := by
  unfold numV
  rw [if_pos h]
  simp only [numB, Bool.and_eq_true, decide_eq_true_eq, Bool.not_eq_true'] at h
  obtain ⟨h1, h2, h3, h4⟩ := h
  have hlt := decV_lt s h1
  have hp : 10 ^ s.length ≤ 10 ^ 12 := Nat.pow_le_pow_right (by omega) h3
  refine ⟨by omega, by omega, ?_, h1, h2, h3⟩
  have e : Lib.itoa (decV s : Int) = Lib.decDigits (decV s) := by unfold Lib.itoa; rw [if_neg (by omega)]; rfl
  rw [e, decDigits_decV s h1 (by rintro rfl; simp at h2) h4]
end Go.Proofs.YtklnopamfncfgaaGreatDoor
namespace Go.Proofs.YtklnopamfncfgaaGreatDoor
open Go Go.Ab

/-! ### Addresses: bytes, labels, hosts, ports, rows -/
def letB (c : UInt8) : Bool := (decide (97 ≤ c.toNat) && decide (c.toNat ≤ 122)) || (decide (65 ≤ c.toNat) && decide (c.toNat ≤ 90))
def hexC (c : UInt8) : Bool := isDig c || ((decide (97 ≤ c.toNat) && decide (c.toNat ≤ 102)) || (decide (65 ≤ c.toNat) && decide (c.toNat ≤ 70)))
def smallC (c : UInt8) : UInt8 := if 65 ≤ c.toNat ∧ c.toNat ≤ 90 then c + 32 else c
def smallL (s : List UInt8) : List UInt8 := s.map smallC
def labC (c : UInt8) : Bool := letB c || (isDig c || decide (c = 45))
def hostC (c : UInt8) : Bool := labC c || decide (c = 46)
def labelB (s : List UInt8) : Bool := (decide (1 ≤ s.length) && decide (s.length ≤ 63)) && ((decide (s.head? ≠ some 45) && decide (s.getLast? ≠ some 45)) && s.all labC)
def hostB (s : List UInt8) : Bool := decide (s.length ≤ 253) && (splitC 46 s).all labelB
def portV (s : List UInt8) : Nat := if 1 ≤ s.length ∧ s.length ≤ 5 ∧ s.all isDig = true ∧ decV s ≤ 65535 then decV s else 0
def badCs : List UInt8 := [34, 35, 60, 62, 92, 94, 123, 124, 125, 96]
def rowC (c : UInt8) : Bool := (decide (33 ≤ c.toNat) && decide (c.toNat ≤ 126)) && !badCs.contains c
def hex2 : List UInt8 → Bool
  | a :: b :: _ => hexC a && hexC b
  | _ => false
/-- How far a row goes, without some bytes; and whether it goes up to the end, or to one of these. -/
def rowEndL (w : List UInt8) : List UInt8 → Nat × Bool
  | [] => (0, true)
  | c :: r => if w.contains c = true then (0, true) else if rowC c = false ∨ (c = 37 ∧ hex2 r = false) then (0, false) else ((rowEndL w r).1 + 1, (rowEndL w r).2)
def rowB (w s : List UInt8) : Bool := (rowEndL w s).2 && decide ((rowEndL w s).1 = s.length)
structure Addr where
  scheme : List UInt8
  host : List UInt8
  port : List UInt8
  path : List UInt8
  query : List UInt8
  hasQ : Bool
  frag : List UInt8
  hasF : Bool
  deriving DecidableEq
def noAddr : Addr := ⟨[], [], [], [], [], false, [], false⟩
def Addr.row (a : Addr) : List CV := [.str a.scheme, .str a.host, .str a.port, .str a.path, .str a.query, .bool a.hasQ, .str a.frag, .bool a.hasF]
def queryL (a : Addr) : List UInt8 := if a.hasQ = true then 63 :: a.query else []
def fragL (a : Addr) : List UInt8 := if a.hasF = true then 35 :: a.frag else []
def behindL (a : Addr) : List UInt8 := a.path ++ queryL a ++ fragL a
def portL (a : Addr) : List UInt8 := if a.port = [] then [] else 58 :: a.port
def writeL (a : Addr) : List UInt8 := a.scheme ++ [58, 47, 47] ++ a.host ++ portL a ++ behindL a
def httpL : List UInt8 := [104, 116, 116, 112]
def httpsL : List UInt8 := [104, 116, 116, 112, 115]
def pathB (p : List UInt8) : Bool := decide (p = []) || (decide (p.head? = some 47) && rowB [63] p)
def schemeB (s : List UInt8) : Bool := decide (smallL s = httpL) || decide (smallL s = httpsL)
def addrF (a : Addr) : Int :=
  if schemeB a.scheme = false ∨ hostB a.host = false ∨ (a.port ≠ [] ∧ portV a.port = 0) then 10
  else if pathB a.path = false ∨ rowB [] a.query = false ∨ rowB [] a.frag = false then 10
  else if (a.query ≠ [] ∧ a.hasQ = false) ∨ (a.frag ≠ [] ∧ a.hasF = false) then 3
  else if 2000 < (writeL a).length then 2 else 0

/-! ### Reading -/
def comL : List UInt8 → List UInt8 → Nat
  | w :: ws, t :: ts => if smallC t = w then comL ws ts + 1 else 0
  | _, _ => 0
def schemeR (t : List UInt8) : Except Nat Nat :=
  if comL (httpL ++ [58, 47, 47]) t = 7 then .ok 4 else if comL (httpsL ++ [58, 47, 47]) t = 8 then .ok 5 else .error (max (comL (httpL ++ [58, 47, 47]) t) (comL (httpsL ++ [58, 47, 47]) t))
def backC (c : UInt8) : Bool := decide (c = 47) || (decide (c = 63) || decide (c = 35))
/-- Is there an end here, or what can stand behind host and port? -/
def endB : List UInt8 → Bool
  | [] => true
  | c :: _ => backC c
/-- Host and port: whether they are right; how many bytes were read; what they are. -/
def placeR (s : List UInt8) : Bool × Nat × List UInt8 × List UInt8 :=
  let h := s.takeWhile hostC
  let p := (s.drop (h.length + 1)).takeWhile isDig
  if hostB h = false then (false, 0, h, [])
  else if (s.drop h.length).head? = some 58 then
    if portV p = 0 then (false, h.length + 1, h, p) else (endB (s.drop (h.length + 1 + p.length)), h.length + 1 + p.length, h, p)
  else (endB (s.drop h.length), h.length, h, [])
/-- A query or a fragment that a byte begins: whether it is right; how many bytes were read; what it is; whether it is there. -/
def tailR (c : UInt8) (w s : List UInt8) : Bool × Nat × List UInt8 × Bool :=
  if s.head? = some c then ((rowEndL w (s.drop 1)).2, (rowEndL w (s.drop 1)).1 + 1, (s.drop 1).take (rowEndL w (s.drop 1)).1, true) else (true, 0, [], false)
structure RestR where
  ok : Bool
  n : Nat
  path : List UInt8
  query : List UInt8
  hasQ : Bool
  frag : List UInt8
  hasF : Bool
def restR (s : List UInt8) : RestR :=
  let p := rowEndL [63, 35] s
  let q := tailR 63 [35] (s.drop p.1)
  let f := tailR 35 [] (s.drop (p.1 + q.2.1))
  if p.2 = false then ⟨false, p.1, s.take p.1, [], false, [], false⟩
  else if q.1 = false then ⟨false, p.1 + q.2.1, s.take p.1, q.2.2.1, q.2.2.2, [], false⟩
  else ⟨f.1, p.1 + q.2.1 + f.2.1, s.take p.1, q.2.2.1, q.2.2.2, f.2.2.1, f.2.2.2⟩
def readA (t : List UInt8) : Except Nat Addr :=
  match schemeR t with
  | .error k => .error k
  | .ok n =>
    let s := t.drop (n + 3)
    let p := placeR s
    let r := restR (s.drop p.2.1)
    if p.1 = false then .error (n + 3 + p.2.1)
    else if r.ok = false then .error (n + 3 + p.2.1 + r.n)
    else .ok ⟨t.take n, p.2.2.1, p.2.2.2, r.path, r.query, r.hasQ, r.frag, r.hasF⟩
/-- What Read answers. -/
def readAR (t : List UInt8) : Addr × Int × Int :=
  if 2000 < t.length then (noAddr, 0, 2) else match readA t with
  | .error k => (noAddr, k, 10)
  | .ok a => (a, 0, 0)

/-! ### Facts of bytes -/
theorem u8_eq {a b : UInt8} : a = b ↔ a.toNat = b.toNat := UInt8.toNat_inj.symm
theorem u8_all {p : UInt8 → Prop} (h : ∀ n : Fin 256, p (UInt8.ofNat n.1)) (c : UInt8) : p c := by
  have := h ⟨c.toNat, c.toNat_lt⟩
  simpa using this
theorem hexC_row' : ∀ c : UInt8, hexC c = true → rowC c = true ∧ c ≠ 37 ∧ c ≠ 35 ∧ c ≠ 63 := u8_all (by decide +kernel)
theorem hexC_row {c : UInt8} (h : hexC c = true) : rowC c = true ∧ c ≠ 37 ∧ c ≠ 35 ∧ c ≠ 63 := hexC_row' c h
theorem labC_facts : ∀ c : UInt8, labC c = true → c ≠ 46 ∧ c ≠ 58 ∧ c ≠ 47 ∧ c ≠ 63 ∧ c ≠ 35 := u8_all (by decide +kernel)
theorem dig_facts : ∀ c : UInt8, isDig c = true → labC c = true := u8_all (by decide +kernel)
theorem back_facts : ∀ c : UInt8, backC c = true → hostC c = false ∧ isDig c = false ∧ c ≠ 58 := u8_all (by decide +kernel)
theorem colon_facts : hostC 58 = false := by decide
theorem small_58 : ∀ c : UInt8, smallC c = 58 → c = 58 := u8_all (by decide +kernel)
theorem small_47 : ∀ c : UInt8, smallC c = 47 → c = 47 := u8_all (by decide +kernel)
theorem row_facts : ∀ c : UInt8, rowC c = true → c ≠ 35 := u8_all (by decide +kernel)

/-! ### Rows -/
theorem rowEndL_le (w : List UInt8) : ∀ s, (rowEndL w s).1 ≤ s.length
  | [] => Nat.le_refl _
  | c :: r => by
    have := rowEndL_le w r
    unfold rowEndL
    split
    · simp
    · split
      · simp
      · simp only [List.length_cons]; omega
theorem rowEndL_cons {w : List UInt8} {c : UInt8} {r : List UInt8} (h1 : w.contains c = false) (h2 : rowC c = true) (h3 : c = 37 → hex2 r = true) : rowEndL w (c :: r) = ((rowEndL w r).1 + 1, (rowEndL w r).2) := by
  rw [rowEndL, if_neg (by rw [h1]; decide), if_neg]
  rintro (h | ⟨h, h'⟩)
  · rw [h2] at h; cases h
  · rw [h3 h] at h'; cases h'
theorem rowB_cons {w : List UInt8} {c : UInt8} {r : List UInt8} (h : rowB w (c :: r) = true) : w.contains c = false ∧ rowC c = true ∧ (c = 37 → hex2 r = true) ∧ rowB w r = true := by
  unfold rowB at h
  simp only [Bool.and_eq_true, decide_eq_true_eq] at h
  obtain ⟨h1, h2⟩ := h
  rw [rowEndL] at h1 h2
  split at h1
  · rename_i hc; rw [if_pos hc] at h2; simp at h2
  · rename_i hc
    rw [if_neg hc] at h2
    split at h1
    · cases h1
    · rename_i hd
      rw [if_neg hd] at h2
      simp only [List.length_cons, Nat.add_right_cancel_iff] at h2
      simp only [not_or, not_and, Bool.not_eq_false] at hd
      exact ⟨by simpa using hc, hd.1, hd.2, by unfold rowB; rw [show (rowEndL w r).2 = true from h1, h2]; simp⟩
theorem hex2_append {r : List UInt8} (y : List UInt8) (h : hex2 r = true) : hex2 (r ++ y) = true := by
  match r, h with
  | a :: b :: r, h => exact h
/-- A row, and what stands behind it. -/
theorem rowEndL_append {w : List UInt8} (w' : List UInt8) : ∀ (x y : List UInt8), rowB w x = true → (∀ c ∈ x, w'.contains c = false) → rowEndL w' (x ++ y) = (x.length + (rowEndL w' y).1, (rowEndL w' y).2)
  | [], y, _, _ => by simp
  | c :: r, y, h, hc => by
    obtain ⟨h1, h2, h3, h4⟩ := rowB_cons h
    rw [List.cons_append, rowEndL_cons (hc c (by simp)) h2 (fun e => hex2_append y (h3 e)), rowEndL_append w' r y h4 (fun d hd => hc d (by simp [hd]))]
    simp only [List.length_cons]
    congr 1; omega
theorem rowB_mem {w : List UInt8} : ∀ {x : List UInt8}, rowB w x = true → ∀ c ∈ x, w.contains c = false ∧ rowC c = true
  | [], _, c, hc => by cases hc
  | d :: r, h, c, hc => by
    obtain ⟨h1, h2, _, h4⟩ := rowB_cons h
    rcases List.mem_cons.1 hc with rfl | hc
    · exact ⟨h1, h2⟩
    · exact rowB_mem h4 c hc
/-- What was read of a row is a row. -/
theorem rowB_take {w : List UInt8} (hw : ∀ c, w.contains c = true → hexC c = false) (w' : List UInt8) (hs : ∀ c, w'.contains c = true → w.contains c = true) : ∀ s : List UInt8, (rowEndL w s).2 = true → rowB w' (s.take (rowEndL w s).1) = true
  | [], _ => rfl
  | c :: r, h => by
    have hx : ∀ c, hexC c = true → w.contains c = false := fun c hc => by
      cases hq : w.contains c with
      | false => rfl
      | true => rw [hw c hq] at hc; cases hc
    rw [rowEndL] at h ⊢
    split
    · simp [rowB, rowEndL]
    · rename_i h1
      rw [if_neg h1] at h
      split
      · rename_i h2; rw [if_pos h2] at h; cases h
      · rename_i h2
        rw [if_neg h2] at h
        simp only [not_or, not_and, Bool.not_eq_false] at h2
        have ih := rowB_take hw w' hs r h
        rw [List.take_succ_cons]
        have hc' : w'.contains c = false := by
          cases hq : w'.contains c with
          | false => rfl
          | true => exact absurd (hs c hq) h1
        have h3 : c = 37 → hex2 (r.take (rowEndL w r).1) = true := by
          intro e
          have hh := h2.2 e
          match r, hh with
          | a :: b :: r', hh =>
            simp only [hex2, Bool.and_eq_true] at hh
            obtain ⟨ha1, ha2, _⟩ := hexC_row hh.1
            obtain ⟨hb1, hb2, _⟩ := hexC_row hh.2
            rw [rowEndL_cons (hx a hh.1) ha1 (fun e => absurd e ha2), rowEndL_cons (hx b hh.2) hb1 (fun e => absurd e hb2)]
            simp [hex2, hh.1, hh.2]
        unfold rowB at ih ⊢
        rw [rowEndL_cons hc' h2.1 h3]
        simpa using ih

/-! ### Hosts and ports -/
theorem joinC_all (c : UInt8) (p : UInt8 → Bool) (hc : p c = true) : ∀ w : List (List UInt8), (∀ x ∈ w, x.all p = true) → (joinC c w).all p = true
  | [], _ => rfl
  | [a], h => h a (by simp)
  | a :: b :: r, h => by
    have ih := joinC_all c p hc (b :: r) (fun x hx => h x (List.mem_cons_of_mem _ hx))
    rw [joinC, List.all_append, h a (by simp), List.all_cons, hc, ih]; rfl
theorem host_all {h : List UInt8} (hb : hostB h = true) : h.all hostC = true := by
  unfold hostB at hb
  simp only [Bool.and_eq_true] at hb
  rw [← join_split 46 h]
  refine joinC_all 46 hostC (by decide) _ (fun x hx => ?_)
  have := List.all_eq_true.1 hb.2 x hx
  simp only [labelB, Bool.and_eq_true] at this
  rw [List.all_eq_true]
  intro c hc
  unfold hostC
  rw [List.all_eq_true.1 this.2.2 c hc]; rfl
theorem portV_pos {s : List UInt8} (h : portV s ≠ 0) : 1 ≤ s.length ∧ s.length ≤ 5 ∧ s.all isDig = true ∧ decV s ≤ 65535 ∧ portV s = decV s := by
  unfold portV at h ⊢
  split at h
  · rename_i hc; exact ⟨hc.1, hc.2.1, hc.2.2.1, hc.2.2.2, by rw [if_pos hc]⟩
  · exact absurd rfl h
theorem takeWhile_stop {p : UInt8 → Bool} : ∀ (x y : List UInt8), x.all p = true → (∀ c, y.head? = some c → p c = false) → (x ++ y).takeWhile p = x
  | [], [], _, _ => rfl
  | [], c :: r, _, h => by simp [h c rfl]
  | a :: x, y, h, hy => by
    simp only [List.all_cons, Bool.and_eq_true] at h
    rw [List.cons_append, List.takeWhile_cons_of_pos h.1, takeWhile_stop x y h.2 hy]

/-! ### Written and read -/
theorem comL_append : ∀ (u v x y : List UInt8), smallL x = u → comL (u ++ v) (x ++ y) = u.length + comL v y
  | u, v, [], y, h => by simp [smallL] at h; subst h; simp
  | u, v, a :: x, y, h => by
    simp only [smallL, List.map_cons] at h
    subst h
    have := comL_append (smallL x) v x y rfl
    simp only [List.cons_append, comL, if_true, List.length_cons]
    unfold smallL at this
    rw [this]; omega
theorem schemeR_write {x : List UInt8} (y : List UInt8) (h : schemeB x = true) : schemeR (x ++ [58, 47, 47] ++ y) = .ok x.length := by
  unfold schemeB at h
  simp only [Bool.or_eq_true, decide_eq_true_eq] at h
  unfold schemeR
  rw [List.append_assoc]
  rcases h with h | h
  · have hl : x.length = 4 := by have := congrArg List.length h; simpa [smallL, httpL] using this
    rw [comL_append _ _ _ _ h, if_pos]
    · rw [hl]
    · simp [httpL, comL, smallC]
  · have hl : x.length = 5 := by have := congrArg List.length h; simpa [smallL, httpsL] using this
    have h1 : comL (httpL ++ [58, 47, 47]) (x ++ ([58, 47, 47] ++ y)) ≠ 7 := by
      match x, hl with
      | [a, b, c, d, e], _ =>
        have he : smallC e = 115 := by simp [smallL, httpsL] at h; exact h.2.2.2.2
        simp only [httpL, List.cons_append, List.nil_append, comL, he]
        repeat' split
        all_goals simp_all
    rw [if_neg h1, comL_append _ _ _ _ h, if_pos]
    · rw [hl]
    · simp [httpsL, comL, smallC]
theorem endB_of {y : List UInt8} (h : ∀ c, y.head? = some c → backC c = true) : endB y = true := by
  cases y with
  | nil => rfl
  | cons c r => exact h c rfl
theorem placeR_write {h p y : List UInt8} (hh : hostB h = true) (hp : p ≠ [] → portV p ≠ 0) (hy : ∀ c, y.head? = some c → backC c = true) :
    placeR (h ++ (if p = [] then [] else 58 :: p) ++ y) = (true, h.length + (if p = [] then [] else 58 :: p).length, h, p) := by
  by_cases hp0 : p = []
  · subst hp0
    rw [if_pos rfl, List.append_nil]
    have ht : (h ++ y).takeWhile hostC = h := takeWhile_stop h y (host_all hh) (fun c hc => (back_facts c (hy c hc)).1)
    have h58 : ¬ y.head? = some 58 := fun e => (back_facts 58 (hy 58 e)).2.2 rfl
    unfold placeR
    simp only [ht]
    rw [if_neg (by simp [hh]), List.drop_left, if_neg h58, endB_of hy]
    simp
  · rw [if_neg hp0]
    have hv := hp hp0
    obtain ⟨_, _, hd, _⟩ := portV_pos hv
    have ht : (h ++ 58 :: p ++ y).takeWhile hostC = h := by
      rw [List.append_assoc]
      exact takeWhile_stop h _ (host_all hh) (fun c hc => by simp at hc; subst hc; exact colon_facts)
    have h1 : (h ++ 58 :: p ++ y).drop h.length = 58 :: p ++ y := by rw [List.append_assoc, List.drop_left]
    have h2 : (h ++ 58 :: p ++ y).drop (h.length + 1) = p ++ y := by rw [← List.drop_drop, h1]; rfl
    have h3 : (p ++ y).takeWhile isDig = p := takeWhile_stop p y hd (fun c hc => (back_facts c (hy c hc)).2.1)
    have h4 : (h ++ 58 :: p ++ y).drop (h.length + 1 + p.length) = y := by rw [← List.drop_drop, h2, List.drop_left]
    unfold placeR
    simp only [ht, h1, h2, h3, h4]
    rw [if_neg (by simp [hh]), if_pos (show (58 :: p ++ y).head? = some 58 from rfl), if_neg hv, endB_of hy]
    simp; omega
theorem tailR_write {c : UInt8} {w x y : List UInt8} {b : Bool} (hx : rowB [] x = true) (hw : ∀ d ∈ x, w.contains d = false) (hb : x ≠ [] → b = true) (hy : ∀ d, y.head? = some d → w.contains d = true ∧ d ≠ c) :
    tailR c w ((if b = true then c :: x else []) ++ y) = (true, (if b = true then c :: x else []).length, x, b) := by
  have hy0 : rowEndL w y = (0, true) := by
    cases y with
    | nil => rfl
    | cons d r => rw [rowEndL, if_pos (hy d rfl).1]
  unfold tailR
  cases b with
  | true =>
    simp only [if_true]
    rw [List.cons_append]
    rw [if_pos (show (c :: (x ++ y)).head? = some c from rfl), List.drop_succ_cons, List.drop_zero, rowEndL_append w x y hx hw, hy0]
    simp
  | false =>
    have : x = [] := by
      cases x with
      | nil => rfl
      | cons a r => have := hb (by simp); cases this
    subst this
    simp only [Bool.false_eq_true, if_false, List.nil_append]
    rw [if_neg (fun e => (hy c e).2 rfl)]
    rfl
theorem addrF_ok {a : Addr} (h : addrF a = 0) : schemeB a.scheme = true ∧ hostB a.host = true ∧ (a.port ≠ [] → portV a.port ≠ 0) ∧ pathB a.path = true ∧ rowB [] a.query = true ∧ rowB [] a.frag = true ∧
    (a.query ≠ [] → a.hasQ = true) ∧ (a.frag ≠ [] → a.hasF = true) ∧ (writeL a).length ≤ 2000 := by
  unfold addrF at h
  split at h
  · cases h
  rename_i h1
  split at h
  · cases h
  rename_i h2
  split at h
  · cases h
  rename_i h3
  split at h
  · cases h
  rename_i h4
  simp only [not_or, not_and, Bool.not_eq_false] at h1 h2 h3
  exact ⟨h1.1, h1.2.1, h1.2.2, h2.1, h2.2.1, h2.2.2, h3.1, h3.2, by omega⟩
theorem path_head {p y : List UInt8} (h : pathB p = true) (hy : ∀ c, y.head? = some c → backC c = true) : ∀ c, (p ++ y).head? = some c → backC c = true := by
  intro c hc
  cases p with
  | nil => exact hy c hc
  | cons a r =>
    simp only [pathB, Bool.or_eq_true, decide_eq_true_eq, Bool.and_eq_true] at h
    have h47 := (h.resolve_left (by simp)).1
    simp at h47 hc
    subst h47; subst hc; rfl
theorem path_row {p : List UInt8} (h : pathB p = true) : rowB [63] p = true := by
  simp only [pathB, Bool.or_eq_true, decide_eq_true_eq, Bool.and_eq_true] at h
  rcases h with rfl | h
  · rfl
  · exact h.2
theorem restR_write {a : Addr} (hp : pathB a.path = true) (hq : rowB [] a.query = true) (hf : rowB [] a.frag = true) (h1 : a.query ≠ [] → a.hasQ = true) (h2 : a.frag ≠ [] → a.hasF = true) :
    restR (behindL a) = ⟨true, (behindL a).length, a.path, a.query, a.hasQ, a.frag, a.hasF⟩ := by
  have hm := rowB_mem (path_row hp)
  have hqm := rowB_mem hq
  have hF : ∀ d, (fragL a).head? = some d → d = 35 := by
    intro d hd; unfold fragL at hd; split at hd
    · simp at hd; exact hd.symm
    · simp at hd
  have hQF : ∀ d, (queryL a ++ fragL a).head? = some d → d = 63 ∨ d = 35 := by
    intro d hd; unfold queryL at hd; split at hd
    · simp at hd; exact .inl hd.symm
    · exact .inr (hF d (by simpa using hd))
  have e1 : rowEndL [63, 35] (behindL a) = (a.path.length, true) := by
    unfold behindL
    rw [List.append_assoc, rowEndL_append [63, 35] a.path _ (path_row hp) (fun c hc => ?_)]
    · have : rowEndL [63, 35] (queryL a ++ fragL a) = (0, true) := by
        cases hx : queryL a ++ fragL a with
        | nil => rfl
        | cons d r =>
          rw [rowEndL, if_pos]
          rcases hQF d (by rw [hx]; rfl) with rfl | rfl <;> decide
      rw [this]; simp
    · obtain ⟨x1, x2⟩ := hm c hc
      have := row_facts c x2
      simp at x1 ⊢
      exact ⟨x1, this⟩
  have d1 : (behindL a).drop a.path.length = queryL a ++ fragL a := by unfold behindL; rw [List.append_assoc, List.drop_left]
  have t1 : (behindL a).take a.path.length = a.path := by unfold behindL; rw [List.append_assoc, List.take_left]
  have e2 : tailR 63 [35] (queryL a ++ fragL a) = (true, (queryL a).length, a.query, a.hasQ) := by
    unfold queryL
    refine tailR_write hq (fun d hd => ?_) h1 (fun d hd => ?_)
    · have := row_facts d (hqm d hd).2
      simpa using this
    · have := hF d hd
      subst this
      exact ⟨by decide, by decide⟩
  have d2 : (behindL a).drop (a.path.length + (queryL a).length) = fragL a := by rw [← List.drop_drop, d1, List.drop_left]
  have e3 : tailR 35 [] (fragL a) = (true, (fragL a).length, a.frag, a.hasF) := by
    have := tailR_write (c := 35) (w := []) (y := []) (b := a.hasF) hf (fun d _ => rfl) h2 (fun d hd => by cases hd)
    rw [List.append_nil] at this
    exact this
  unfold restR
  simp only [e1, d1, e2, d2, e3, t1]
  simp [behindL]; omega
/-- An address is read as it was written. -/
theorem read_write {a : Addr} (h : addrF a = 0) : readA (writeL a) = .ok a := by
  obtain ⟨h1, h2, h3, h4, h5, h6, h7, h8, _⟩ := addrF_ok h
  have hQF : ∀ d, (queryL a ++ fragL a).head? = some d → backC d = true := by
    intro d hd
    unfold queryL at hd
    split at hd
    · simp at hd; subst hd; rfl
    · unfold fragL at hd
      split at hd
      · simp at hd; subst hd; rfl
      · simp at hd
  have hbk := path_head h4 hQF
  rw [← List.append_assoc] at hbk
  have hs : schemeR (writeL a) = .ok a.scheme.length := by
    unfold writeL
    rw [List.append_assoc, List.append_assoc, List.append_assoc]
    rw [← List.append_assoc a.scheme]
    exact schemeR_write _ h1
  have d0 : (writeL a).drop (a.scheme.length + 3) = a.host ++ portL a ++ behindL a := by
    unfold writeL
    rw [← List.drop_drop]
    simp
  have hp := placeR_write (y := behindL a) h2 h3 hbk
  have d1 : (a.host ++ portL a ++ behindL a).drop (a.host.length + (portL a).length) = behindL a := by
    rw [← List.length_append, List.drop_left]
  unfold portL at d0 d1
  unfold readA
  rw [hs]
  simp only [d0, hp, d1, restR_write h4 h5 h6 h7 h8]
  have ht : (writeL a).take a.scheme.length = a.scheme := by unfold writeL; simp
  simp [ht]
end Go.Proofs.YtklnopamfncfgaaGreatDoor
namespace Go.Proofs.YtklnopamfncfgaaGreatDoor
open Go Go.Ab
@[simp] theorem ix_tk_3 : tk Tryz.prog 3 = TK.one := by kernel_rfl
@[simp] theorem ix_sliceT_3 : sliceT Tryz.prog 3 = none := by kernel_rfl
@[simp] theorem ix_arrT_3 : arrT Tryz.prog 3 = none := by kernel_rfl
@[simp] theorem ix_isStringT_3 : isStringT Tryz.prog 3 = false := by kernel_rfl
@[simp] theorem ix_isSliceT_3 : isSliceT Tryz.prog 3 = false := by kernel_rfl
@[simp] theorem ix_mapT_3 : mapT Tryz.prog 3 = none := by kernel_rfl
@[simp] theorem ix_zeroX_3 : zeroX Tryz.prog 3 = some
  (XV.one (CV.int IntKind.i64 0)) := by kernel_rfl
@[simp] theorem ix_zeroOf_3 : zeroOf Tryz.prog 3 = some [CV.int IntKind.i64 0] := by kernel_rfl
@[simp] theorem ix_rowT_3 : rowT Tryz.prog 3 = none := by kernel_rfl
@[simp] theorem ix_bytesT_3 : bytesT Tryz.prog 3 = some 8 := by kernel_rfl
@[simp] theorem ix_buildT_3 : buildT Tryz.prog 3 = none := by kernel_rfl
@[simp] theorem ix_eqT_3 : eqT Tryz.prog 3 = none := by kernel_rfl
@[simp] theorem ix_OneOk_3 : OneOk Tryz.prog 3 = true := by kernel_rfl
@[simp] theorem ix_intT_3 : intT Tryz.prog 3 = some IntKind.i64 := by kernel_rfl
@[simp] theorem ix_byteT_3 : byteT Tryz.prog 3 = false := by kernel_rfl
@[simp] theorem ix_byteSliceT_3 : byteSliceT Tryz.prog 3 = false := by kernel_rfl
@[simp] theorem ix_tk_4 : tk Tryz.prog 4 = TK.one := by kernel_rfl
@[simp] theorem ix_sliceT_4 : sliceT Tryz.prog 4 = none := by kernel_rfl
@[simp] theorem ix_arrT_4 : arrT Tryz.prog 4 = none := by kernel_rfl
@[simp] theorem ix_isStringT_4 : isStringT Tryz.prog 4 = false := by kernel_rfl
@[simp] theorem ix_isSliceT_4 : isSliceT Tryz.prog 4 = false := by kernel_rfl
@[simp] theorem ix_mapT_4 : mapT Tryz.prog 4 = none := by kernel_rfl
@[simp] theorem ix_zeroX_4 : zeroX Tryz.prog 4 = some (XV.one (CV.bool false)) := by kernel_rfl
@[simp] theorem ix_zeroOf_4 : zeroOf Tryz.prog 4 = some [CV.bool false] := by kernel_rfl
@[simp] theorem ix_rowT_4 : rowT Tryz.prog 4 = none := by kernel_rfl
@[simp] theorem ix_bytesT_4 : bytesT Tryz.prog 4 = some 1 := by kernel_rfl
@[simp] theorem ix_buildT_4 : buildT Tryz.prog 4 = none := by kernel_rfl
@[simp] theorem ix_eqT_4 : eqT Tryz.prog 4 = none := by kernel_rfl
@[simp] theorem ix_OneOk_4 : OneOk Tryz.prog 4 = true := by kernel_rfl
@[simp] theorem ix_intT_4 : intT Tryz.prog 4 = none := by kernel_rfl
@[simp] theorem ix_byteT_4 : byteT Tryz.prog 4 = false := by kernel_rfl
@[simp] theorem ix_byteSliceT_4 : byteSliceT Tryz.prog 4 = false := by kernel_rfl
@[simp] theorem ix_tk_5 : tk Tryz.prog 5 = TK.one := by kernel_rfl
@[simp] theorem ix_sliceT_5 : sliceT Tryz.prog 5 = none := by kernel_rfl
@[simp] theorem ix_arrT_5 : arrT Tryz.prog 5 = none := by kernel_rfl
@[simp] theorem ix_isStringT_5 : isStringT Tryz.prog 5 = false := by kernel_rfl
@[simp] theorem ix_isSliceT_5 : isSliceT Tryz.prog 5 = false := by kernel_rfl
@[simp] theorem ix_mapT_5 : mapT Tryz.prog 5 = none := by kernel_rfl
@[simp] theorem ix_zeroX_5 : zeroX Tryz.prog 5 = some
  (XV.one (CV.int IntKind.u8 0)) := by kernel_rfl
@[simp] theorem ix_zeroOf_5 : zeroOf Tryz.prog 5 = some [CV.int IntKind.u8 0] := by kernel_rfl
@[simp] theorem ix_rowT_5 : rowT Tryz.prog 5 = none := by kernel_rfl
@[simp] theorem ix_bytesT_5 : bytesT Tryz.prog 5 = some 1 := by kernel_rfl
@[simp] theorem ix_buildT_5 : buildT Tryz.prog 5 = none := by kernel_rfl
@[simp] theorem ix_eqT_5 : eqT Tryz.prog 5 = none := by kernel_rfl
@[simp] theorem ix_OneOk_5 : OneOk Tryz.prog 5 = true := by kernel_rfl
@[simp] theorem ix_intT_5 : intT Tryz.prog 5 = some IntKind.u8 := by kernel_rfl
@[simp] theorem ix_byteT_5 : byteT Tryz.prog 5 = true := by kernel_rfl
@[simp] theorem ix_byteSliceT_5 : byteSliceT Tryz.prog 5 = false := by kernel_rfl
@[simp] theorem ix_tk_9 : tk Tryz.prog 9 = TK.one := by kernel_rfl
@[simp] theorem ix_sliceT_9 : sliceT Tryz.prog 9 = none := by kernel_rfl
@[simp] theorem ix_arrT_9 : arrT Tryz.prog 9 = none := by kernel_rfl
@[simp] theorem ix_isStringT_9 : isStringT Tryz.prog 9 = true := by kernel_rfl
@[simp] theorem ix_isSliceT_9 : isSliceT Tryz.prog 9 = false := by kernel_rfl
@[simp] theorem ix_mapT_9 : mapT Tryz.prog 9 = none := by kernel_rfl
@[simp] theorem ix_zeroX_9 : zeroX Tryz.prog 9 = some (XV.one (CV.str [])) := by kernel_rfl
@[simp] theorem ix_zeroOf_9 : zeroOf Tryz.prog 9 = some [CV.str []] := by kernel_rfl
@[simp] theorem ix_rowT_9 : rowT Tryz.prog 9 = none := by kernel_rfl
@[simp] theorem ix_bytesT_9 : bytesT Tryz.prog 9 = some 16 := by kernel_rfl
@[simp] theorem ix_buildT_9 : buildT Tryz.prog 9 = none := by kernel_rfl
@[simp] theorem ix_eqT_9 : eqT Tryz.prog 9 = none := by kernel_rfl
@[simp] theorem ix_OneOk_9 : OneOk Tryz.prog 9 = true := by kernel_rfl
@[simp] theorem ix_intT_9 : intT Tryz.prog 9 = none := by kernel_rfl
@[simp] theorem ix_byteT_9 : byteT Tryz.prog 9 = false := by kernel_rfl
@[simp] theorem ix_byteSliceT_9 : byteSliceT Tryz.prog 9 = false := by kernel_rfl
@[simp] theorem ix_tk_21 : tk Tryz.prog 21 = TK.one := by kernel_rfl
@[simp] theorem ix_sliceT_21 : sliceT Tryz.prog 21 = none := by kernel_rfl
@[simp] theorem ix_arrT_21 : arrT Tryz.prog 21 = none := by kernel_rfl
@[simp] theorem ix_isStringT_21 : isStringT Tryz.prog 21 = false := by kernel_rfl
@[simp] theorem ix_isSliceT_21 : isSliceT Tryz.prog 21 = false := by kernel_rfl
@[simp] theorem ix_mapT_21 : mapT Tryz.prog 21 = none := by kernel_rfl
@[simp] theorem ix_zeroX_21 : zeroX Tryz.prog 21 = some
  (XV.one (CV.int IntKind.i32 0)) := by kernel_rfl
@[simp] theorem ix_zeroOf_21 : zeroOf Tryz.prog 21 = some [CV.int IntKind.i32 0] := by kernel_rfl
@[simp] theorem ix_rowT_21 : rowT Tryz.prog 21 = none := by kernel_rfl
@[simp] theorem ix_bytesT_21 : bytesT Tryz.prog 21 = some 4 := by kernel_rfl
@[simp] theorem ix_buildT_21 : buildT Tryz.prog 21 = none := by kernel_rfl
@[simp] theorem ix_eqT_21 : eqT Tryz.prog 21 = none := by kernel_rfl
@[simp] theorem ix_OneOk_21 : OneOk Tryz.prog 21 = true := by kernel_rfl
@[simp] theorem ix_intT_21 : intT Tryz.prog 21 = some IntKind.i32 := by kernel_rfl
@[simp] theorem ix_byteT_21 : byteT Tryz.prog 21 = false := by kernel_rfl
@[simp] theorem ix_byteSliceT_21 : byteSliceT Tryz.prog 21 = false := by kernel_rfl
@[simp] theorem ix_tk_23 : tk Tryz.prog 23 = TK.agg 8 := by kernel_rfl
@[simp] theorem ix_sliceT_23 : sliceT Tryz.prog 23 = none := by kernel_rfl
@[simp] theorem ix_arrT_23 : arrT Tryz.prog 23 = none := by kernel_rfl
@[simp] theorem ix_isStringT_23 : isStringT Tryz.prog 23 = false := by kernel_rfl
@[simp] theorem ix_isSliceT_23 : isSliceT Tryz.prog 23 = false := by kernel_rfl
@[simp] theorem ix_mapT_23 : mapT Tryz.prog 23 = none := by kernel_rfl
@[simp] theorem ix_zeroX_23 : zeroX Tryz.prog 23 = some
  (XV.agg
    [CV.str [], CV.str [], CV.str [], CV.str [], CV.str [], CV.bool false, CV.str [], CV.bool false]) := by kernel_rfl
@[simp] theorem ix_zeroOf_23 : zeroOf Tryz.prog 23 = some
  [CV.str [], CV.str [], CV.str [], CV.str [], CV.str [], CV.bool false, CV.str [], CV.bool false] := by kernel_rfl
@[simp] theorem ix_rowT_23 : rowT Tryz.prog 23 = none := by kernel_rfl
@[simp] theorem ix_bytesT_23 : bytesT Tryz.prog 23 = some 112 := by kernel_rfl
@[simp] theorem ix_buildT_23 : buildT Tryz.prog 23 = some
  ([CV.str [], CV.str [], CV.str [], CV.str [], CV.str [], CV.bool false, CV.str [], CV.bool false],
    [(0, 1), (1, 1), (2, 1), (3, 1), (4, 1), (5, 1), (6, 1), (7, 1)]) := by kernel_rfl
@[simp] theorem ix_eqT_23 : eqT Tryz.prog 23 = some
  [BK.s, BK.s, BK.s, BK.s, BK.s, BK.b, BK.s, BK.b] := by kernel_rfl
@[simp] theorem ix_OneOk_23 : OneOk Tryz.prog 23 = true := by kernel_rfl
@[simp] theorem ix_intT_23 : intT Tryz.prog 23 = none := by kernel_rfl
@[simp] theorem ix_byteT_23 : byteT Tryz.prog 23 = false := by kernel_rfl
@[simp] theorem ix_byteSliceT_23 : byteSliceT Tryz.prog 23 = false := by kernel_rfl
@[simp] theorem ix_fieldAt_23_0 : fieldAt Tryz.prog 23 0 = some (0, TK.one) := by kernel_rfl
@[simp] theorem ix_fieldAt_23_1 : fieldAt Tryz.prog 23 1 = some (1, TK.one) := by kernel_rfl
@[simp] theorem ix_fieldAt_23_2 : fieldAt Tryz.prog 23 2 = some (2, TK.one) := by kernel_rfl
@[simp] theorem ix_fieldAt_23_3 : fieldAt Tryz.prog 23 3 = some (3, TK.one) := by kernel_rfl
@[simp] theorem ix_fieldAt_23_4 : fieldAt Tryz.prog 23 4 = some (4, TK.one) := by kernel_rfl
@[simp] theorem ix_fieldAt_23_5 : fieldAt Tryz.prog 23 5 = some (5, TK.one) := by kernel_rfl
@[simp] theorem ix_fieldAt_23_6 : fieldAt Tryz.prog 23 6 = some (6, TK.one) := by kernel_rfl
@[simp] theorem ix_fieldAt_23_7 : fieldAt Tryz.prog 23 7 = some (7, TK.one) := by kernel_rfl
@[simp] theorem ix_tk_24 : tk Tryz.prog 24 = TK.one := by kernel_rfl
@[simp] theorem ix_sliceT_24 : sliceT Tryz.prog 24 = none := by kernel_rfl
@[simp] theorem ix_arrT_24 : arrT Tryz.prog 24 = none := by kernel_rfl
@[simp] theorem ix_isStringT_24 : isStringT Tryz.prog 24 = false := by kernel_rfl
@[simp] theorem ix_isSliceT_24 : isSliceT Tryz.prog 24 = false := by kernel_rfl
@[simp] theorem ix_mapT_24 : mapT Tryz.prog 24 = none := by kernel_rfl
@[simp] theorem ix_zeroX_24 : zeroX Tryz.prog 24 = some
  (XV.one (CV.int IntKind.i64 0)) := by kernel_rfl
@[simp] theorem ix_zeroOf_24 : zeroOf Tryz.prog 24 = some [CV.int IntKind.i64 0] := by kernel_rfl
@[simp] theorem ix_rowT_24 : rowT Tryz.prog 24 = none := by kernel_rfl
@[simp] theorem ix_bytesT_24 : bytesT Tryz.prog 24 = some 8 := by kernel_rfl
@[simp] theorem ix_buildT_24 : buildT Tryz.prog 24 = none := by kernel_rfl
@[simp] theorem ix_eqT_24 : eqT Tryz.prog 24 = none := by kernel_rfl
@[simp] theorem ix_OneOk_24 : OneOk Tryz.prog 24 = true := by kernel_rfl
@[simp] theorem ix_intT_24 : intT Tryz.prog 24 = some IntKind.i64 := by kernel_rfl
@[simp] theorem ix_byteT_24 : byteT Tryz.prog 24 = false := by kernel_rfl
@[simp] theorem ix_byteSliceT_24 : byteSliceT Tryz.prog 24 = false := by kernel_rfl
@[simp] theorem ix_tk_31 : tk Tryz.prog 31 = TK.one := by kernel_rfl
@[simp] theorem ix_sliceT_31 : sliceT Tryz.prog 31 = some (39, 9) := by kernel_rfl
@[simp] theorem ix_arrT_31 : arrT Tryz.prog 31 = none := by kernel_rfl
@[simp] theorem ix_isStringT_31 : isStringT Tryz.prog 31 = false := by kernel_rfl
@[simp] theorem ix_isSliceT_31 : isSliceT Tryz.prog 31 = true := by kernel_rfl
@[simp] theorem ix_mapT_31 : mapT Tryz.prog 31 = none := by kernel_rfl
@[simp] theorem ix_zeroX_31 : zeroX Tryz.prog 31 = some (XV.one CV.nil) := by kernel_rfl
@[simp] theorem ix_zeroOf_31 : zeroOf Tryz.prog 31 = some [CV.nil] := by kernel_rfl
@[simp] theorem ix_rowT_31 : rowT Tryz.prog 31 = some
  (39, 9,
    [CV.str [], CV.int IntKind.i64 0, CV.int IntKind.i64 0, CV.str [], CV.str [], CV.str [],
      CV.int IntKind.i64 0, CV.int IntKind.i64 0, CV.bool false]) := by kernel_rfl
@[simp] theorem ix_bytesT_31 : bytesT Tryz.prog 31 = some 24 := by kernel_rfl
@[simp] theorem ix_buildT_31 : buildT Tryz.prog 31 = none := by kernel_rfl
@[simp] theorem ix_eqT_31 : eqT Tryz.prog 31 = none := by kernel_rfl
@[simp] theorem ix_OneOk_31 : OneOk Tryz.prog 31 = true := by kernel_rfl
@[simp] theorem ix_intT_31 : intT Tryz.prog 31 = none := by kernel_rfl
@[simp] theorem ix_byteT_31 : byteT Tryz.prog 31 = false := by kernel_rfl
@[simp] theorem ix_byteSliceT_31 : byteSliceT Tryz.prog 31 = false := by kernel_rfl
@[simp] theorem ix_tk_32 : tk Tryz.prog 32 = TK.one := by kernel_rfl
@[simp] theorem ix_sliceT_32 : sliceT Tryz.prog 32 = some (131, 3) := by kernel_rfl
@[simp] theorem ix_arrT_32 : arrT Tryz.prog 32 = none := by kernel_rfl
@[simp] theorem ix_isStringT_32 : isStringT Tryz.prog 32 = false := by kernel_rfl
@[simp] theorem ix_isSliceT_32 : isSliceT Tryz.prog 32 = true := by kernel_rfl
@[simp] theorem ix_mapT_32 : mapT Tryz.prog 32 = none := by kernel_rfl
@[simp] theorem ix_zeroX_32 : zeroX Tryz.prog 32 = some (XV.one CV.nil) := by kernel_rfl
@[simp] theorem ix_zeroOf_32 : zeroOf Tryz.prog 32 = some [CV.nil] := by kernel_rfl
@[simp] theorem ix_rowT_32 : rowT Tryz.prog 32 = some
  (131, 3, [CV.int IntKind.i64 0, CV.str [], CV.bool false]) := by kernel_rfl
@[simp] theorem ix_bytesT_32 : bytesT Tryz.prog 32 = some 24 := by kernel_rfl
@[simp] theorem ix_buildT_32 : buildT Tryz.prog 32 = none := by kernel_rfl
@[simp] theorem ix_eqT_32 : eqT Tryz.prog 32 = none := by kernel_rfl
@[simp] theorem ix_OneOk_32 : OneOk Tryz.prog 32 = true := by kernel_rfl
@[simp] theorem ix_intT_32 : intT Tryz.prog 32 = none := by kernel_rfl
@[simp] theorem ix_byteT_32 : byteT Tryz.prog 32 = false := by kernel_rfl
@[simp] theorem ix_byteSliceT_32 : byteSliceT Tryz.prog 32 = false := by kernel_rfl
@[simp] theorem ix_tk_37 : tk Tryz.prog 37 = TK.agg 2 := by kernel_rfl
@[simp] theorem ix_sliceT_37 : sliceT Tryz.prog 37 = none := by kernel_rfl
@[simp] theorem ix_arrT_37 : arrT Tryz.prog 37 = none := by kernel_rfl
@[simp] theorem ix_isStringT_37 : isStringT Tryz.prog 37 = false := by kernel_rfl
@[simp] theorem ix_isSliceT_37 : isSliceT Tryz.prog 37 = false := by kernel_rfl
@[simp] theorem ix_mapT_37 : mapT Tryz.prog 37 = none := by kernel_rfl
@[simp] theorem ix_zeroX_37 : zeroX Tryz.prog 37 = some
  (XV.agg [CV.int IntKind.i64 0, CV.int IntKind.i64 0]) := by kernel_rfl
@[simp] theorem ix_zeroOf_37 : zeroOf Tryz.prog 37 = some
  [CV.int IntKind.i64 0, CV.int IntKind.i64 0] := by kernel_rfl
@[simp] theorem ix_rowT_37 : rowT Tryz.prog 37 = none := by kernel_rfl
@[simp] theorem ix_bytesT_37 : bytesT Tryz.prog 37 = some 16 := by kernel_rfl
@[simp] theorem ix_buildT_37 : buildT Tryz.prog 37 = some
  ([CV.int IntKind.i64 0, CV.int IntKind.i64 0], [(0, 1), (1, 1)]) := by kernel_rfl
@[simp] theorem ix_eqT_37 : eqT Tryz.prog 37 = some [BK.i, BK.i] := by kernel_rfl
@[simp] theorem ix_OneOk_37 : OneOk Tryz.prog 37 = true := by kernel_rfl
@[simp] theorem ix_intT_37 : intT Tryz.prog 37 = none := by kernel_rfl
@[simp] theorem ix_byteT_37 : byteT Tryz.prog 37 = false := by kernel_rfl
@[simp] theorem ix_byteSliceT_37 : byteSliceT Tryz.prog 37 = false := by kernel_rfl
@[simp] theorem ix_fieldAt_37_0 : fieldAt Tryz.prog 37 0 = some (0, TK.one) := by kernel_rfl
@[simp] theorem ix_fieldAt_37_1 : fieldAt Tryz.prog 37 1 = some (1, TK.one) := by kernel_rfl
@[simp] theorem ix_tk_39 : tk Tryz.prog 39 = TK.agg 9 := by kernel_rfl
@[simp] theorem ix_sliceT_39 : sliceT Tryz.prog 39 = none := by kernel_rfl
@[simp] theorem ix_arrT_39 : arrT Tryz.prog 39 = none := by kernel_rfl
@[simp] theorem ix_isStringT_39 : isStringT Tryz.prog 39 = false := by kernel_rfl
@[simp] theorem ix_isSliceT_39 : isSliceT Tryz.prog 39 = false := by kernel_rfl
@[simp] theorem ix_mapT_39 : mapT Tryz.prog 39 = none := by kernel_rfl
@[simp] theorem ix_zeroX_39 : zeroX Tryz.prog 39 = some
  (XV.agg
    [CV.str [], CV.int IntKind.i64 0, CV.int IntKind.i64 0, CV.str [], CV.str [], CV.str [],
      CV.int IntKind.i64 0, CV.int IntKind.i64 0, CV.bool false]) := by kernel_rfl
@[simp] theorem ix_zeroOf_39 : zeroOf Tryz.prog 39 = some
  [CV.str [], CV.int IntKind.i64 0, CV.int IntKind.i64 0, CV.str [], CV.str [], CV.str [],
    CV.int IntKind.i64 0, CV.int IntKind.i64 0, CV.bool false] := by kernel_rfl
@[simp] theorem ix_rowT_39 : rowT Tryz.prog 39 = none := by kernel_rfl
@[simp] theorem ix_bytesT_39 : bytesT Tryz.prog 39 = some 104 := by kernel_rfl
@[simp] theorem ix_buildT_39 : buildT Tryz.prog 39 = some
  ([CV.str [], CV.int IntKind.i64 0, CV.int IntKind.i64 0, CV.str [], CV.str [], CV.str [],
      CV.int IntKind.i64 0, CV.int IntKind.i64 0, CV.bool false],
    [(0, 1), (1, 1), (2, 1), (3, 1), (4, 1), (5, 1), (6, 2), (8, 1)]) := by kernel_rfl
@[simp] theorem ix_eqT_39 : eqT Tryz.prog 39 = some
  [BK.s, BK.i, BK.i, BK.s, BK.s, BK.s, BK.i, BK.i, BK.b] := by kernel_rfl
@[simp] theorem ix_OneOk_39 : OneOk Tryz.prog 39 = true := by kernel_rfl
@[simp] theorem ix_intT_39 : intT Tryz.prog 39 = none := by kernel_rfl
@[simp] theorem ix_byteT_39 : byteT Tryz.prog 39 = false := by kernel_rfl
@[simp] theorem ix_byteSliceT_39 : byteSliceT Tryz.prog 39 = false := by kernel_rfl
@[simp] theorem ix_fieldAt_39_0 : fieldAt Tryz.prog 39 0 = some (0, TK.one) := by kernel_rfl
@[simp] theorem ix_fieldAt_39_1 : fieldAt Tryz.prog 39 1 = some (1, TK.one) := by kernel_rfl
@[simp] theorem ix_fieldAt_39_2 : fieldAt Tryz.prog 39 2 = some (2, TK.one) := by kernel_rfl
@[simp] theorem ix_fieldAt_39_3 : fieldAt Tryz.prog 39 3 = some (3, TK.one) := by kernel_rfl
@[simp] theorem ix_fieldAt_39_4 : fieldAt Tryz.prog 39 4 = some (4, TK.one) := by kernel_rfl
@[simp] theorem ix_fieldAt_39_5 : fieldAt Tryz.prog 39 5 = some (5, TK.one) := by kernel_rfl
@[simp] theorem ix_fieldAt_39_6 : fieldAt Tryz.prog 39 6 = some (6, TK.agg 2) := by kernel_rfl
@[simp] theorem ix_fieldAt_39_7 : fieldAt Tryz.prog 39 7 = some (8, TK.one) := by kernel_rfl
@[simp] theorem ix_tk_41 : tk Tryz.prog 41 = TK.one := by kernel_rfl
@[simp] theorem ix_sliceT_41 : sliceT Tryz.prog 41 = some (92, 6) := by kernel_rfl
@[simp] theorem ix_arrT_41 : arrT Tryz.prog 41 = none := by kernel_rfl
@[simp] theorem ix_isStringT_41 : isStringT Tryz.prog 41 = false := by kernel_rfl
@[simp] theorem ix_isSliceT_41 : isSliceT Tryz.prog 41 = true := by kernel_rfl
@[simp] theorem ix_mapT_41 : mapT Tryz.prog 41 = none := by kernel_rfl
@[simp] theorem ix_zeroX_41 : zeroX Tryz.prog 41 = some (XV.one CV.nil) := by kernel_rfl
@[simp] theorem ix_zeroOf_41 : zeroOf Tryz.prog 41 = some [CV.nil] := by kernel_rfl
@[simp] theorem ix_rowT_41 : rowT Tryz.prog 41 = some
  (92, 6,
    [CV.str [], CV.int IntKind.i64 0, CV.int IntKind.i64 0, CV.str [], CV.str [],
      CV.nil]) := by kernel_rfl
@[simp] theorem ix_bytesT_41 : bytesT Tryz.prog 41 = some 24 := by kernel_rfl
@[simp] theorem ix_buildT_41 : buildT Tryz.prog 41 = none := by kernel_rfl
@[simp] theorem ix_eqT_41 : eqT Tryz.prog 41 = none := by kernel_rfl
@[simp] theorem ix_OneOk_41 : OneOk Tryz.prog 41 = true := by kernel_rfl
@[simp] theorem ix_intT_41 : intT Tryz.prog 41 = none := by kernel_rfl
@[simp] theorem ix_byteT_41 : byteT Tryz.prog 41 = false := by kernel_rfl
@[simp] theorem ix_byteSliceT_41 : byteSliceT Tryz.prog 41 = false := by kernel_rfl
@[simp] theorem ix_tk_42 : tk Tryz.prog 42 = TK.one := by kernel_rfl
@[simp] theorem ix_sliceT_42 : sliceT Tryz.prog 42 = some (98, 2) := by kernel_rfl
@[simp] theorem ix_arrT_42 : arrT Tryz.prog 42 = none := by kernel_rfl
@[simp] theorem ix_isStringT_42 : isStringT Tryz.prog 42 = false := by kernel_rfl
@[simp] theorem ix_isSliceT_42 : isSliceT Tryz.prog 42 = true := by kernel_rfl
@[simp] theorem ix_mapT_42 : mapT Tryz.prog 42 = none := by kernel_rfl
@[simp] theorem ix_zeroX_42 : zeroX Tryz.prog 42 = some (XV.one CV.nil) := by kernel_rfl
@[simp] theorem ix_zeroOf_42 : zeroOf Tryz.prog 42 = some [CV.nil] := by kernel_rfl
@[simp] theorem ix_rowT_42 : rowT Tryz.prog 42 = some
  (98, 2, [CV.str [], CV.int IntKind.i64 0]) := by kernel_rfl
@[simp] theorem ix_bytesT_42 : bytesT Tryz.prog 42 = some 24 := by kernel_rfl
@[simp] theorem ix_buildT_42 : buildT Tryz.prog 42 = none := by kernel_rfl
@[simp] theorem ix_eqT_42 : eqT Tryz.prog 42 = none := by kernel_rfl
@[simp] theorem ix_OneOk_42 : OneOk Tryz.prog 42 = true := by kernel_rfl
@[simp] theorem ix_intT_42 : intT Tryz.prog 42 = none := by kernel_rfl
@[simp] theorem ix_byteT_42 : byteT Tryz.prog 42 = false := by kernel_rfl
@[simp] theorem ix_byteSliceT_42 : byteSliceT Tryz.prog 42 = false := by kernel_rfl
@[simp] theorem ix_tk_44 : tk Tryz.prog 44 = TK.agg 2 := by kernel_rfl
@[simp] theorem ix_sliceT_44 : sliceT Tryz.prog 44 = none := by kernel_rfl
@[simp] theorem ix_arrT_44 : arrT Tryz.prog 44 = none := by kernel_rfl
@[simp] theorem ix_isStringT_44 : isStringT Tryz.prog 44 = false := by kernel_rfl
@[simp] theorem ix_isSliceT_44 : isSliceT Tryz.prog 44 = false := by kernel_rfl
@[simp] theorem ix_mapT_44 : mapT Tryz.prog 44 = none := by kernel_rfl
@[simp] theorem ix_zeroX_44 : zeroX Tryz.prog 44 = some (XV.agg [CV.nil, CV.nil]) := by kernel_rfl
@[simp] theorem ix_zeroOf_44 : zeroOf Tryz.prog 44 = some [CV.nil, CV.nil] := by kernel_rfl
@[simp] theorem ix_rowT_44 : rowT Tryz.prog 44 = none := by kernel_rfl
@[simp] theorem ix_bytesT_44 : bytesT Tryz.prog 44 = some 48 := by kernel_rfl
@[simp] theorem ix_buildT_44 : buildT Tryz.prog 44 = some
  ([CV.nil, CV.nil], [(0, 1), (1, 1)]) := by kernel_rfl
@[simp] theorem ix_eqT_44 : eqT Tryz.prog 44 = none := by kernel_rfl
@[simp] theorem ix_OneOk_44 : OneOk Tryz.prog 44 = true := by kernel_rfl
@[simp] theorem ix_intT_44 : intT Tryz.prog 44 = none := by kernel_rfl
@[simp] theorem ix_byteT_44 : byteT Tryz.prog 44 = false := by kernel_rfl
@[simp] theorem ix_byteSliceT_44 : byteSliceT Tryz.prog 44 = false := by kernel_rfl
@[simp] theorem ix_fieldAt_44_0 : fieldAt Tryz.prog 44 0 = some (0, TK.one) := by kernel_rfl
@[simp] theorem ix_fieldAt_44_1 : fieldAt Tryz.prog 44 1 = some (1, TK.one) := by kernel_rfl
@[simp] theorem ix_tk_45 : tk Tryz.prog 45 = TK.one := by kernel_rfl
@[simp] theorem ix_sliceT_45 : sliceT Tryz.prog 45 = some (102, 2) := by kernel_rfl
@[simp] theorem ix_arrT_45 : arrT Tryz.prog 45 = none := by kernel_rfl
@[simp] theorem ix_isStringT_45 : isStringT Tryz.prog 45 = false := by kernel_rfl
@[simp] theorem ix_isSliceT_45 : isSliceT Tryz.prog 45 = true := by kernel_rfl
@[simp] theorem ix_mapT_45 : mapT Tryz.prog 45 = none := by kernel_rfl
@[simp] theorem ix_zeroX_45 : zeroX Tryz.prog 45 = some (XV.one CV.nil) := by kernel_rfl
@[simp] theorem ix_zeroOf_45 : zeroOf Tryz.prog 45 = some [CV.nil] := by kernel_rfl
@[simp] theorem ix_rowT_45 : rowT Tryz.prog 45 = some (102, 2, [CV.str [], CV.str []]) := by kernel_rfl
@[simp] theorem ix_bytesT_45 : bytesT Tryz.prog 45 = some 24 := by kernel_rfl
@[simp] theorem ix_buildT_45 : buildT Tryz.prog 45 = none := by kernel_rfl
@[simp] theorem ix_eqT_45 : eqT Tryz.prog 45 = none := by kernel_rfl
@[simp] theorem ix_OneOk_45 : OneOk Tryz.prog 45 = true := by kernel_rfl
@[simp] theorem ix_intT_45 : intT Tryz.prog 45 = none := by kernel_rfl
@[simp] theorem ix_byteT_45 : byteT Tryz.prog 45 = false := by kernel_rfl
@[simp] theorem ix_byteSliceT_45 : byteSliceT Tryz.prog 45 = false := by kernel_rfl
@[simp] theorem ix_tk_46 : tk Tryz.prog 46 = TK.one := by kernel_rfl
@[simp] theorem ix_sliceT_46 : sliceT Tryz.prog 46 = some (5, 1) := by kernel_rfl
@[simp] theorem ix_arrT_46 : arrT Tryz.prog 46 = none := by kernel_rfl
@[simp] theorem ix_isStringT_46 : isStringT Tryz.prog 46 = false := by kernel_rfl
@[simp] theorem ix_isSliceT_46 : isSliceT Tryz.prog 46 = true := by kernel_rfl
@[simp] theorem ix_mapT_46 : mapT Tryz.prog 46 = none := by kernel_rfl
@[simp] theorem ix_zeroX_46 : zeroX Tryz.prog 46 = some (XV.one CV.nil) := by kernel_rfl
@[simp] theorem ix_zeroOf_46 : zeroOf Tryz.prog 46 = some [CV.nil] := by kernel_rfl
@[simp] theorem ix_rowT_46 : rowT Tryz.prog 46 = some
  (5, 1, [CV.int IntKind.u8 0]) := by kernel_rfl
@[simp] theorem ix_bytesT_46 : bytesT Tryz.prog 46 = some 24 := by kernel_rfl
@[simp] theorem ix_buildT_46 : buildT Tryz.prog 46 = none := by kernel_rfl
@[simp] theorem ix_eqT_46 : eqT Tryz.prog 46 = none := by kernel_rfl
@[simp] theorem ix_OneOk_46 : OneOk Tryz.prog 46 = true := by kernel_rfl
@[simp] theorem ix_intT_46 : intT Tryz.prog 46 = none := by kernel_rfl
@[simp] theorem ix_byteT_46 : byteT Tryz.prog 46 = false := by kernel_rfl
@[simp] theorem ix_byteSliceT_46 : byteSliceT Tryz.prog 46 = true := by kernel_rfl
@[simp] theorem ix_tk_48 : tk Tryz.prog 48 = TK.agg 4 := by kernel_rfl
@[simp] theorem ix_sliceT_48 : sliceT Tryz.prog 48 = none := by kernel_rfl
@[simp] theorem ix_arrT_48 : arrT Tryz.prog 48 = none := by kernel_rfl
@[simp] theorem ix_isStringT_48 : isStringT Tryz.prog 48 = false := by kernel_rfl
@[simp] theorem ix_isSliceT_48 : isSliceT Tryz.prog 48 = false := by kernel_rfl
@[simp] theorem ix_mapT_48 : mapT Tryz.prog 48 = none := by kernel_rfl
@[simp] theorem ix_zeroX_48 : zeroX Tryz.prog 48 = some
  (XV.agg [CV.int IntKind.i64 0, CV.str [], CV.nil, CV.nil]) := by kernel_rfl
@[simp] theorem ix_zeroOf_48 : zeroOf Tryz.prog 48 = some
  [CV.int IntKind.i64 0, CV.str [], CV.nil, CV.nil] := by kernel_rfl
@[simp] theorem ix_rowT_48 : rowT Tryz.prog 48 = none := by kernel_rfl
@[simp] theorem ix_bytesT_48 : bytesT Tryz.prog 48 = some 72 := by kernel_rfl
@[simp] theorem ix_buildT_48 : buildT Tryz.prog 48 = some
  ([CV.int IntKind.i64 0, CV.str [], CV.nil, CV.nil], [(0, 1), (1, 1), (2, 1), (3, 1)]) := by kernel_rfl
@[simp] theorem ix_eqT_48 : eqT Tryz.prog 48 = none := by kernel_rfl
@[simp] theorem ix_OneOk_48 : OneOk Tryz.prog 48 = true := by kernel_rfl
@[simp] theorem ix_intT_48 : intT Tryz.prog 48 = none := by kernel_rfl
@[simp] theorem ix_byteT_48 : byteT Tryz.prog 48 = false := by kernel_rfl
@[simp] theorem ix_byteSliceT_48 : byteSliceT Tryz.prog 48 = false := by kernel_rfl
@[simp] theorem ix_fieldAt_48_0 : fieldAt Tryz.prog 48 0 = some (0, TK.one) := by kernel_rfl
@[simp] theorem ix_fieldAt_48_1 : fieldAt Tryz.prog 48 1 = some (1, TK.one) := by kernel_rfl
@[simp] theorem ix_fieldAt_48_2 : fieldAt Tryz.prog 48 2 = some (2, TK.one) := by kernel_rfl
@[simp] theorem ix_fieldAt_48_3 : fieldAt Tryz.prog 48 3 = some (3, TK.one) := by kernel_rfl
@[simp] theorem ix_tk_66 : tk Tryz.prog 66 = TK.agg 2 := by kernel_rfl
@[simp] theorem ix_sliceT_66 : sliceT Tryz.prog 66 = none := by kernel_rfl
@[simp] theorem ix_arrT_66 : arrT Tryz.prog 66 = none := by kernel_rfl
@[simp] theorem ix_isStringT_66 : isStringT Tryz.prog 66 = false := by kernel_rfl
@[simp] theorem ix_isSliceT_66 : isSliceT Tryz.prog 66 = false := by kernel_rfl
@[simp] theorem ix_mapT_66 : mapT Tryz.prog 66 = none := by kernel_rfl
@[simp] theorem ix_zeroX_66 : zeroX Tryz.prog 66 = some
  (XV.agg [CV.int IntKind.i64 0, CV.int IntKind.i64 0]) := by kernel_rfl
@[simp] theorem ix_zeroOf_66 : zeroOf Tryz.prog 66 = some
  [CV.int IntKind.i64 0, CV.int IntKind.i64 0] := by kernel_rfl
@[simp] theorem ix_rowT_66 : rowT Tryz.prog 66 = none := by kernel_rfl
@[simp] theorem ix_bytesT_66 : bytesT Tryz.prog 66 = some 16 := by kernel_rfl
@[simp] theorem ix_buildT_66 : buildT Tryz.prog 66 = some
  ([CV.int IntKind.i64 0, CV.int IntKind.i64 0], [(0, 1), (1, 1)]) := by kernel_rfl
@[simp] theorem ix_eqT_66 : eqT Tryz.prog 66 = some [BK.i, BK.i] := by kernel_rfl
@[simp] theorem ix_OneOk_66 : OneOk Tryz.prog 66 = true := by kernel_rfl
@[simp] theorem ix_intT_66 : intT Tryz.prog 66 = none := by kernel_rfl
@[simp] theorem ix_byteT_66 : byteT Tryz.prog 66 = false := by kernel_rfl
@[simp] theorem ix_byteSliceT_66 : byteSliceT Tryz.prog 66 = false := by kernel_rfl
@[simp] theorem ix_fieldAt_66_0 : fieldAt Tryz.prog 66 0 = some (0, TK.one) := by kernel_rfl
@[simp] theorem ix_fieldAt_66_1 : fieldAt Tryz.prog 66 1 = some (1, TK.one) := by kernel_rfl
@[simp] theorem ix_tk_69 : tk Tryz.prog 69 = TK.one := by kernel_rfl
@[simp] theorem ix_sliceT_69 : sliceT Tryz.prog 69 = some (9, 1) := by kernel_rfl
@[simp] theorem ix_arrT_69 : arrT Tryz.prog 69 = none := by kernel_rfl
@[simp] theorem ix_isStringT_69 : isStringT Tryz.prog 69 = false := by kernel_rfl
@[simp] theorem ix_isSliceT_69 : isSliceT Tryz.prog 69 = true := by kernel_rfl
@[simp] theorem ix_mapT_69 : mapT Tryz.prog 69 = none := by kernel_rfl
@[simp] theorem ix_zeroX_69 : zeroX Tryz.prog 69 = some (XV.one CV.nil) := by kernel_rfl
@[simp] theorem ix_zeroOf_69 : zeroOf Tryz.prog 69 = some [CV.nil] := by kernel_rfl
@[simp] theorem ix_rowT_69 : rowT Tryz.prog 69 = some (9, 1, [CV.str []]) := by kernel_rfl
@[simp] theorem ix_bytesT_69 : bytesT Tryz.prog 69 = some 24 := by kernel_rfl
@[simp] theorem ix_buildT_69 : buildT Tryz.prog 69 = none := by kernel_rfl
@[simp] theorem ix_eqT_69 : eqT Tryz.prog 69 = none := by kernel_rfl
@[simp] theorem ix_OneOk_69 : OneOk Tryz.prog 69 = true := by kernel_rfl
@[simp] theorem ix_intT_69 : intT Tryz.prog 69 = none := by kernel_rfl
@[simp] theorem ix_byteT_69 : byteT Tryz.prog 69 = false := by kernel_rfl
@[simp] theorem ix_byteSliceT_69 : byteSliceT Tryz.prog 69 = false := by kernel_rfl
@[simp] theorem ix_tk_70 : tk Tryz.prog 70 = TK.one := by kernel_rfl
@[simp] theorem ix_sliceT_70 : sliceT Tryz.prog 70 = some (127, 5) := by kernel_rfl
@[simp] theorem ix_arrT_70 : arrT Tryz.prog 70 = none := by kernel_rfl
@[simp] theorem ix_isStringT_70 : isStringT Tryz.prog 70 = false := by kernel_rfl
@[simp] theorem ix_isSliceT_70 : isSliceT Tryz.prog 70 = true := by kernel_rfl
@[simp] theorem ix_mapT_70 : mapT Tryz.prog 70 = none := by kernel_rfl
@[simp] theorem ix_zeroX_70 : zeroX Tryz.prog 70 = some (XV.one CV.nil) := by kernel_rfl
@[simp] theorem ix_zeroOf_70 : zeroOf Tryz.prog 70 = some [CV.nil] := by kernel_rfl
@[simp] theorem ix_rowT_70 : rowT Tryz.prog 70 = some
  (127, 5,
    [CV.str [], CV.int IntKind.i64 0, CV.int IntKind.i64 0, CV.int IntKind.i64 0,
      CV.int IntKind.i64 0]) := by kernel_rfl
@[simp] theorem ix_bytesT_70 : bytesT Tryz.prog 70 = some 24 := by kernel_rfl
@[simp] theorem ix_buildT_70 : buildT Tryz.prog 70 = none := by kernel_rfl
@[simp] theorem ix_eqT_70 : eqT Tryz.prog 70 = none := by kernel_rfl
@[simp] theorem ix_OneOk_70 : OneOk Tryz.prog 70 = true := by kernel_rfl
@[simp] theorem ix_intT_70 : intT Tryz.prog 70 = none := by kernel_rfl
@[simp] theorem ix_byteT_70 : byteT Tryz.prog 70 = false := by kernel_rfl
@[simp] theorem ix_byteSliceT_70 : byteSliceT Tryz.prog 70 = false := by kernel_rfl
@[simp] theorem ix_tk_72 : tk Tryz.prog 72 = TK.agg 14 := by kernel_rfl
@[simp] theorem ix_sliceT_72 : sliceT Tryz.prog 72 = none := by kernel_rfl
@[simp] theorem ix_arrT_72 : arrT Tryz.prog 72 = none := by kernel_rfl
@[simp] theorem ix_isStringT_72 : isStringT Tryz.prog 72 = false := by kernel_rfl
@[simp] theorem ix_isSliceT_72 : isSliceT Tryz.prog 72 = false := by kernel_rfl
@[simp] theorem ix_mapT_72 : mapT Tryz.prog 72 = none := by kernel_rfl
@[simp] theorem ix_zeroX_72 : zeroX Tryz.prog 72 = some
  (XV.agg
    [CV.bool false, CV.nil, CV.str [], CV.int IntKind.i64 0, CV.int IntKind.i64 0, CV.str [],
      CV.str [], CV.str [], CV.int IntKind.i64 0, CV.int IntKind.i64 0, CV.bool false, CV.nil,
      CV.nil, CV.int IntKind.i64 0]) := by kernel_rfl
@[simp] theorem ix_zeroOf_72 : zeroOf Tryz.prog 72 = some
  [CV.bool false, CV.nil, CV.str [], CV.int IntKind.i64 0, CV.int IntKind.i64 0, CV.str [],
    CV.str [], CV.str [], CV.int IntKind.i64 0, CV.int IntKind.i64 0, CV.bool false, CV.nil,
    CV.nil, CV.int IntKind.i64 0] := by kernel_rfl
@[simp] theorem ix_rowT_72 : rowT Tryz.prog 72 = none := by kernel_rfl
@[simp] theorem ix_bytesT_72 : bytesT Tryz.prog 72 = some 192 := by kernel_rfl
@[simp] theorem ix_buildT_72 : buildT Tryz.prog 72 = some
  ([CV.bool false, CV.nil, CV.str [], CV.int IntKind.i64 0, CV.int IntKind.i64 0, CV.str [],
      CV.str [], CV.str [], CV.int IntKind.i64 0, CV.int IntKind.i64 0, CV.bool false, CV.nil,
      CV.nil, CV.int IntKind.i64 0],
    [(0, 1), (1, 1), (2, 9), (11, 1), (12, 1), (13, 1)]) := by kernel_rfl
@[simp] theorem ix_eqT_72 : eqT Tryz.prog 72 = none := by kernel_rfl
@[simp] theorem ix_OneOk_72 : OneOk Tryz.prog 72 = true := by kernel_rfl
@[simp] theorem ix_intT_72 : intT Tryz.prog 72 = none := by kernel_rfl
@[simp] theorem ix_byteT_72 : byteT Tryz.prog 72 = false := by kernel_rfl
@[simp] theorem ix_byteSliceT_72 : byteSliceT Tryz.prog 72 = false := by kernel_rfl
@[simp] theorem ix_fieldAt_72_0 : fieldAt Tryz.prog 72 0 = some (0, TK.one) := by kernel_rfl
@[simp] theorem ix_fieldAt_72_1 : fieldAt Tryz.prog 72 1 = some (1, TK.one) := by kernel_rfl
@[simp] theorem ix_fieldAt_72_2 : fieldAt Tryz.prog 72 2 = some (2, TK.agg 9) := by kernel_rfl
@[simp] theorem ix_fieldAt_72_3 : fieldAt Tryz.prog 72 3 = some (11, TK.one) := by kernel_rfl
@[simp] theorem ix_fieldAt_72_4 : fieldAt Tryz.prog 72 4 = some (12, TK.one) := by kernel_rfl
@[simp] theorem ix_fieldAt_72_5 : fieldAt Tryz.prog 72 5 = some (13, TK.one) := by kernel_rfl
@[simp] theorem ix_tk_83 : tk Tryz.prog 83 = TK.one := by kernel_rfl
@[simp] theorem ix_sliceT_83 : sliceT Tryz.prog 83 = some (87, 5) := by kernel_rfl
@[simp] theorem ix_arrT_83 : arrT Tryz.prog 83 = none := by kernel_rfl
@[simp] theorem ix_isStringT_83 : isStringT Tryz.prog 83 = false := by kernel_rfl
@[simp] theorem ix_isSliceT_83 : isSliceT Tryz.prog 83 = true := by kernel_rfl
@[simp] theorem ix_mapT_83 : mapT Tryz.prog 83 = none := by kernel_rfl
@[simp] theorem ix_zeroX_83 : zeroX Tryz.prog 83 = some (XV.one CV.nil) := by kernel_rfl
@[simp] theorem ix_zeroOf_83 : zeroOf Tryz.prog 83 = some [CV.nil] := by kernel_rfl
@[simp] theorem ix_rowT_83 : rowT Tryz.prog 83 = some
  (87, 5,
    [CV.str [], CV.int IntKind.i64 0, CV.int IntKind.i64 0, CV.int IntKind.i64 0,
      CV.int IntKind.i64 0]) := by kernel_rfl
@[simp] theorem ix_bytesT_83 : bytesT Tryz.prog 83 = some 24 := by kernel_rfl
@[simp] theorem ix_buildT_83 : buildT Tryz.prog 83 = none := by kernel_rfl
@[simp] theorem ix_eqT_83 : eqT Tryz.prog 83 = none := by kernel_rfl
@[simp] theorem ix_OneOk_83 : OneOk Tryz.prog 83 = true := by kernel_rfl
@[simp] theorem ix_intT_83 : intT Tryz.prog 83 = none := by kernel_rfl
@[simp] theorem ix_byteT_83 : byteT Tryz.prog 83 = false := by kernel_rfl
@[simp] theorem ix_byteSliceT_83 : byteSliceT Tryz.prog 83 = false := by kernel_rfl
@[simp] theorem ix_tk_87 : tk Tryz.prog 87 = TK.agg 5 := by kernel_rfl
@[simp] theorem ix_sliceT_87 : sliceT Tryz.prog 87 = none := by kernel_rfl
@[simp] theorem ix_arrT_87 : arrT Tryz.prog 87 = none := by kernel_rfl
@[simp] theorem ix_isStringT_87 : isStringT Tryz.prog 87 = false := by kernel_rfl
@[simp] theorem ix_isSliceT_87 : isSliceT Tryz.prog 87 = false := by kernel_rfl
@[simp] theorem ix_mapT_87 : mapT Tryz.prog 87 = none := by kernel_rfl
@[simp] theorem ix_zeroX_87 : zeroX Tryz.prog 87 = some
  (XV.agg
    [CV.str [], CV.int IntKind.i64 0, CV.int IntKind.i64 0, CV.int IntKind.i64 0,
      CV.int IntKind.i64 0]) := by kernel_rfl
@[simp] theorem ix_zeroOf_87 : zeroOf Tryz.prog 87 = some
  [CV.str [], CV.int IntKind.i64 0, CV.int IntKind.i64 0, CV.int IntKind.i64 0,
    CV.int IntKind.i64 0] := by kernel_rfl
@[simp] theorem ix_rowT_87 : rowT Tryz.prog 87 = none := by kernel_rfl
@[simp] theorem ix_bytesT_87 : bytesT Tryz.prog 87 = some 48 := by kernel_rfl
@[simp] theorem ix_buildT_87 : buildT Tryz.prog 87 = some
  ([CV.str [], CV.int IntKind.i64 0, CV.int IntKind.i64 0, CV.int IntKind.i64 0,
      CV.int IntKind.i64 0],
    [(0, 1), (1, 1), (2, 1), (3, 1), (4, 1)]) := by kernel_rfl
@[simp] theorem ix_eqT_87 : eqT Tryz.prog 87 = some [BK.s, BK.i, BK.i, BK.i, BK.i] := by kernel_rfl
@[simp] theorem ix_OneOk_87 : OneOk Tryz.prog 87 = true := by kernel_rfl
@[simp] theorem ix_intT_87 : intT Tryz.prog 87 = none := by kernel_rfl
@[simp] theorem ix_byteT_87 : byteT Tryz.prog 87 = false := by kernel_rfl
@[simp] theorem ix_byteSliceT_87 : byteSliceT Tryz.prog 87 = false := by kernel_rfl
@[simp] theorem ix_fieldAt_87_0 : fieldAt Tryz.prog 87 0 = some (0, TK.one) := by kernel_rfl
@[simp] theorem ix_fieldAt_87_1 : fieldAt Tryz.prog 87 1 = some (1, TK.one) := by kernel_rfl
@[simp] theorem ix_fieldAt_87_2 : fieldAt Tryz.prog 87 2 = some (2, TK.one) := by kernel_rfl
@[simp] theorem ix_fieldAt_87_3 : fieldAt Tryz.prog 87 3 = some (3, TK.one) := by kernel_rfl
@[simp] theorem ix_fieldAt_87_4 : fieldAt Tryz.prog 87 4 = some (4, TK.one) := by kernel_rfl
@[simp] theorem ix_tk_92 : tk Tryz.prog 92 = TK.agg 6 := by kernel_rfl
@[simp] theorem ix_sliceT_92 : sliceT Tryz.prog 92 = none := by kernel_rfl
@[simp] theorem ix_arrT_92 : arrT Tryz.prog 92 = none := by kernel_rfl
@[simp] theorem ix_isStringT_92 : isStringT Tryz.prog 92 = false := by kernel_rfl
@[simp] theorem ix_isSliceT_92 : isSliceT Tryz.prog 92 = false := by kernel_rfl
@[simp] theorem ix_mapT_92 : mapT Tryz.prog 92 = none := by kernel_rfl
@[simp] theorem ix_zeroX_92 : zeroX Tryz.prog 92 = some
  (XV.agg
    [CV.str [], CV.int IntKind.i64 0, CV.int IntKind.i64 0, CV.str [], CV.str [],
      CV.nil]) := by kernel_rfl
@[simp] theorem ix_zeroOf_92 : zeroOf Tryz.prog 92 = some
  [CV.str [], CV.int IntKind.i64 0, CV.int IntKind.i64 0, CV.str [], CV.str [],
    CV.nil] := by kernel_rfl
@[simp] theorem ix_rowT_92 : rowT Tryz.prog 92 = none := by kernel_rfl
@[simp] theorem ix_bytesT_92 : bytesT Tryz.prog 92 = some 88 := by kernel_rfl
@[simp] theorem ix_buildT_92 : buildT Tryz.prog 92 = some
  ([CV.str [], CV.int IntKind.i64 0, CV.int IntKind.i64 0, CV.str [], CV.str [], CV.nil],
    [(0, 1), (1, 1), (2, 1), (3, 1), (4, 1), (5, 1)]) := by kernel_rfl
@[simp] theorem ix_eqT_92 : eqT Tryz.prog 92 = none := by kernel_rfl
@[simp] theorem ix_OneOk_92 : OneOk Tryz.prog 92 = true := by kernel_rfl
@[simp] theorem ix_intT_92 : intT Tryz.prog 92 = none := by kernel_rfl
@[simp] theorem ix_byteT_92 : byteT Tryz.prog 92 = false := by kernel_rfl
@[simp] theorem ix_byteSliceT_92 : byteSliceT Tryz.prog 92 = false := by kernel_rfl
@[simp] theorem ix_fieldAt_92_0 : fieldAt Tryz.prog 92 0 = some (0, TK.one) := by kernel_rfl
@[simp] theorem ix_fieldAt_92_1 : fieldAt Tryz.prog 92 1 = some (1, TK.one) := by kernel_rfl
@[simp] theorem ix_fieldAt_92_2 : fieldAt Tryz.prog 92 2 = some (2, TK.one) := by kernel_rfl
@[simp] theorem ix_fieldAt_92_3 : fieldAt Tryz.prog 92 3 = some (3, TK.one) := by kernel_rfl
@[simp] theorem ix_fieldAt_92_4 : fieldAt Tryz.prog 92 4 = some (4, TK.one) := by kernel_rfl
@[simp] theorem ix_fieldAt_92_5 : fieldAt Tryz.prog 92 5 = some (5, TK.one) := by kernel_rfl
@[simp] theorem ix_tk_98 : tk Tryz.prog 98 = TK.agg 2 := by kernel_rfl
@[simp] theorem ix_sliceT_98 : sliceT Tryz.prog 98 = none := by kernel_rfl
@[simp] theorem ix_arrT_98 : arrT Tryz.prog 98 = none := by kernel_rfl
@[simp] theorem ix_isStringT_98 : isStringT Tryz.prog 98 = false := by kernel_rfl
@[simp] theorem ix_isSliceT_98 : isSliceT Tryz.prog 98 = false := by kernel_rfl
@[simp] theorem ix_mapT_98 : mapT Tryz.prog 98 = none := by kernel_rfl
@[simp] theorem ix_zeroX_98 : zeroX Tryz.prog 98 = some
  (XV.agg [CV.str [], CV.int IntKind.i64 0]) := by kernel_rfl
@[simp] theorem ix_zeroOf_98 : zeroOf Tryz.prog 98 = some
  [CV.str [], CV.int IntKind.i64 0] := by kernel_rfl
@[simp] theorem ix_rowT_98 : rowT Tryz.prog 98 = none := by kernel_rfl
@[simp] theorem ix_bytesT_98 : bytesT Tryz.prog 98 = some 24 := by kernel_rfl
@[simp] theorem ix_buildT_98 : buildT Tryz.prog 98 = some
  ([CV.str [], CV.int IntKind.i64 0], [(0, 1), (1, 1)]) := by kernel_rfl
@[simp] theorem ix_eqT_98 : eqT Tryz.prog 98 = some [BK.s, BK.i] := by kernel_rfl
@[simp] theorem ix_OneOk_98 : OneOk Tryz.prog 98 = true := by kernel_rfl
@[simp] theorem ix_intT_98 : intT Tryz.prog 98 = none := by kernel_rfl
@[simp] theorem ix_byteT_98 : byteT Tryz.prog 98 = false := by kernel_rfl
@[simp] theorem ix_byteSliceT_98 : byteSliceT Tryz.prog 98 = false := by kernel_rfl
@[simp] theorem ix_fieldAt_98_0 : fieldAt Tryz.prog 98 0 = some (0, TK.one) := by kernel_rfl
@[simp] theorem ix_fieldAt_98_1 : fieldAt Tryz.prog 98 1 = some (1, TK.one) := by kernel_rfl
@[simp] theorem ix_tk_102 : tk Tryz.prog 102 = TK.agg 2 := by kernel_rfl
@[simp] theorem ix_sliceT_102 : sliceT Tryz.prog 102 = none := by kernel_rfl
@[simp] theorem ix_arrT_102 : arrT Tryz.prog 102 = none := by kernel_rfl
@[simp] theorem ix_isStringT_102 : isStringT Tryz.prog 102 = false := by kernel_rfl
@[simp] theorem ix_isSliceT_102 : isSliceT Tryz.prog 102 = false := by kernel_rfl
@[simp] theorem ix_mapT_102 : mapT Tryz.prog 102 = none := by kernel_rfl
@[simp] theorem ix_zeroX_102 : zeroX Tryz.prog 102 = some (XV.agg [CV.str [], CV.str []]) := by kernel_rfl
@[simp] theorem ix_zeroOf_102 : zeroOf Tryz.prog 102 = some [CV.str [], CV.str []] := by kernel_rfl
@[simp] theorem ix_rowT_102 : rowT Tryz.prog 102 = none := by kernel_rfl
@[simp] theorem ix_bytesT_102 : bytesT Tryz.prog 102 = some 32 := by kernel_rfl
@[simp] theorem ix_buildT_102 : buildT Tryz.prog 102 = some
  ([CV.str [], CV.str []], [(0, 1), (1, 1)]) := by kernel_rfl
@[simp] theorem ix_eqT_102 : eqT Tryz.prog 102 = some [BK.s, BK.s] := by kernel_rfl
@[simp] theorem ix_OneOk_102 : OneOk Tryz.prog 102 = true := by kernel_rfl
@[simp] theorem ix_intT_102 : intT Tryz.prog 102 = none := by kernel_rfl
@[simp] theorem ix_byteT_102 : byteT Tryz.prog 102 = false := by kernel_rfl
@[simp] theorem ix_byteSliceT_102 : byteSliceT Tryz.prog 102 = false := by kernel_rfl
@[simp] theorem ix_fieldAt_102_0 : fieldAt Tryz.prog 102 0 = some (0, TK.one) := by kernel_rfl
@[simp] theorem ix_fieldAt_102_1 : fieldAt Tryz.prog 102 1 = some (1, TK.one) := by kernel_rfl
@[simp] theorem ix_tk_107 : tk Tryz.prog 107 = TK.agg 6 := by kernel_rfl
@[simp] theorem ix_sliceT_107 : sliceT Tryz.prog 107 = none := by kernel_rfl
@[simp] theorem ix_arrT_107 : arrT Tryz.prog 107 = none := by kernel_rfl
@[simp] theorem ix_isStringT_107 : isStringT Tryz.prog 107 = false := by kernel_rfl
@[simp] theorem ix_isSliceT_107 : isSliceT Tryz.prog 107 = false := by kernel_rfl
@[simp] theorem ix_mapT_107 : mapT Tryz.prog 107 = none := by kernel_rfl
@[simp] theorem ix_zeroX_107 : zeroX Tryz.prog 107 = some
  (XV.agg
    [CV.int IntKind.i64 0, CV.int IntKind.i64 0, CV.int IntKind.i64 0,
      CV.int IntKind.i64 0, CV.int IntKind.i64 0,
      CV.int IntKind.i64 0]) := by kernel_rfl
@[simp] theorem ix_zeroOf_107 : zeroOf Tryz.prog 107 = some
  [CV.int IntKind.i64 0, CV.int IntKind.i64 0, CV.int IntKind.i64 0,
    CV.int IntKind.i64 0, CV.int IntKind.i64 0,
    CV.int IntKind.i64 0] := by kernel_rfl
@[simp] theorem ix_rowT_107 : rowT Tryz.prog 107 = none := by kernel_rfl
@[simp] theorem ix_bytesT_107 : bytesT Tryz.prog 107 = some 48 := by kernel_rfl
@[simp] theorem ix_buildT_107 : buildT Tryz.prog 107 = some
  ([CV.int IntKind.i64 0, CV.int IntKind.i64 0, CV.int IntKind.i64 0,
      CV.int IntKind.i64 0, CV.int IntKind.i64 0, CV.int IntKind.i64 0],
    [(0, 1), (1, 1), (2, 1), (3, 1), (4, 1), (5, 1)]) := by kernel_rfl
@[simp] theorem ix_eqT_107 : eqT Tryz.prog 107 = some [BK.i, BK.i, BK.i, BK.i, BK.i, BK.i] := by kernel_rfl
@[simp] theorem ix_OneOk_107 : OneOk Tryz.prog 107 = true := by kernel_rfl
@[simp] theorem ix_intT_107 : intT Tryz.prog 107 = none := by kernel_rfl
@[simp] theorem ix_byteT_107 : byteT Tryz.prog 107 = false := by kernel_rfl
@[simp] theorem ix_byteSliceT_107 : byteSliceT Tryz.prog 107 = false := by kernel_rfl
@[simp] theorem ix_fieldAt_107_0 : fieldAt Tryz.prog 107 0 = some (0, TK.one) := by kernel_rfl
@[simp] theorem ix_fieldAt_107_1 : fieldAt Tryz.prog 107 1 = some (1, TK.one) := by kernel_rfl
@[simp] theorem ix_fieldAt_107_2 : fieldAt Tryz.prog 107 2 = some (2, TK.one) := by kernel_rfl
@[simp] theorem ix_fieldAt_107_3 : fieldAt Tryz.prog 107 3 = some (3, TK.one) := by kernel_rfl
@[simp] theorem ix_fieldAt_107_4 : fieldAt Tryz.prog 107 4 = some (4, TK.one) := by kernel_rfl
@[simp] theorem ix_fieldAt_107_5 : fieldAt Tryz.prog 107 5 = some (5, TK.one) := by kernel_rfl
@[simp] theorem ix_tk_110 : tk Tryz.prog 110 = TK.one := by kernel_rfl
@[simp] theorem ix_sliceT_110 : sliceT Tryz.prog 110 = some (3, 1) := by kernel_rfl
@[simp] theorem ix_arrT_110 : arrT Tryz.prog 110 = none := by kernel_rfl
@[simp] theorem ix_isStringT_110 : isStringT Tryz.prog 110 = false := by kernel_rfl
@[simp] theorem ix_isSliceT_110 : isSliceT Tryz.prog 110 = true := by kernel_rfl
@[simp] theorem ix_mapT_110 : mapT Tryz.prog 110 = none := by kernel_rfl
@[simp] theorem ix_zeroX_110 : zeroX Tryz.prog 110 = some (XV.one CV.nil) := by kernel_rfl
@[simp] theorem ix_zeroOf_110 : zeroOf Tryz.prog 110 = some [CV.nil] := by kernel_rfl
@[simp] theorem ix_rowT_110 : rowT Tryz.prog 110 = some
  (3, 1, [CV.int IntKind.i64 0]) := by kernel_rfl
@[simp] theorem ix_bytesT_110 : bytesT Tryz.prog 110 = some 24 := by kernel_rfl
@[simp] theorem ix_buildT_110 : buildT Tryz.prog 110 = none := by kernel_rfl
@[simp] theorem ix_eqT_110 : eqT Tryz.prog 110 = none := by kernel_rfl
@[simp] theorem ix_OneOk_110 : OneOk Tryz.prog 110 = true := by kernel_rfl
@[simp] theorem ix_intT_110 : intT Tryz.prog 110 = none := by kernel_rfl
@[simp] theorem ix_byteT_110 : byteT Tryz.prog 110 = false := by kernel_rfl
@[simp] theorem ix_byteSliceT_110 : byteSliceT Tryz.prog 110 = false := by kernel_rfl
@[simp] theorem ix_tk_118 : tk Tryz.prog 118 = TK.one := by kernel_rfl
@[simp] theorem ix_sliceT_118 : sliceT Tryz.prog 118 = none := by kernel_rfl
@[simp] theorem ix_arrT_118 : arrT Tryz.prog 118 = none := by kernel_rfl
@[simp] theorem ix_isStringT_118 : isStringT Tryz.prog 118 = false := by kernel_rfl
@[simp] theorem ix_isSliceT_118 : isSliceT Tryz.prog 118 = false := by kernel_rfl
@[simp] theorem ix_mapT_118 : mapT Tryz.prog 118 = none := by kernel_rfl
@[simp] theorem ix_zeroX_118 : zeroX Tryz.prog 118 = some
  (XV.one (CV.atom (Value.pointer none))) := by kernel_rfl
@[simp] theorem ix_zeroOf_118 : zeroOf Tryz.prog 118 = some [CV.atom (Value.pointer none)] := by kernel_rfl
@[simp] theorem ix_rowT_118 : rowT Tryz.prog 118 = none := by kernel_rfl
@[simp] theorem ix_bytesT_118 : bytesT Tryz.prog 118 = some 8 := by kernel_rfl
@[simp] theorem ix_buildT_118 : buildT Tryz.prog 118 = none := by kernel_rfl
@[simp] theorem ix_eqT_118 : eqT Tryz.prog 118 = none := by kernel_rfl
@[simp] theorem ix_OneOk_118 : OneOk Tryz.prog 118 = true := by kernel_rfl
@[simp] theorem ix_intT_118 : intT Tryz.prog 118 = none := by kernel_rfl
@[simp] theorem ix_byteT_118 : byteT Tryz.prog 118 = false := by kernel_rfl
@[simp] theorem ix_byteSliceT_118 : byteSliceT Tryz.prog 118 = false := by kernel_rfl
@[simp] theorem ix_tk_120 : tk Tryz.prog 120 = TK.agg 10 := by kernel_rfl
@[simp] theorem ix_sliceT_120 : sliceT Tryz.prog 120 = none := by kernel_rfl
@[simp] theorem ix_arrT_120 : arrT Tryz.prog 120 = none := by kernel_rfl
@[simp] theorem ix_isStringT_120 : isStringT Tryz.prog 120 = false := by kernel_rfl
@[simp] theorem ix_isSliceT_120 : isSliceT Tryz.prog 120 = false := by kernel_rfl
@[simp] theorem ix_mapT_120 : mapT Tryz.prog 120 = none := by kernel_rfl
@[simp] theorem ix_zeroX_120 : zeroX Tryz.prog 120 = some
  (XV.agg
    [CV.str [], CV.int IntKind.i64 0, CV.str [], CV.str [], CV.str [], CV.str [], CV.str [], CV.bool false,
      CV.str [], CV.bool false]) := by kernel_rfl
@[simp] theorem ix_zeroOf_120 : zeroOf Tryz.prog 120 = some
  [CV.str [], CV.int IntKind.i64 0, CV.str [], CV.str [], CV.str [], CV.str [], CV.str [], CV.bool false,
    CV.str [], CV.bool false] := by kernel_rfl
@[simp] theorem ix_rowT_120 : rowT Tryz.prog 120 = none := by kernel_rfl
@[simp] theorem ix_bytesT_120 : bytesT Tryz.prog 120 = some 136 := by kernel_rfl
@[simp] theorem ix_buildT_120 : buildT Tryz.prog 120 = some
  ([CV.str [], CV.int IntKind.i64 0, CV.str [], CV.str [], CV.str [], CV.str [], CV.str [], CV.bool false,
      CV.str [], CV.bool false],
    [(0, 1), (1, 1), (2, 8)]) := by kernel_rfl
@[simp] theorem ix_eqT_120 : eqT Tryz.prog 120 = some
  [BK.s, BK.i, BK.s, BK.s, BK.s, BK.s, BK.s, BK.b, BK.s, BK.b] := by kernel_rfl
@[simp] theorem ix_OneOk_120 : OneOk Tryz.prog 120 = true := by kernel_rfl
@[simp] theorem ix_intT_120 : intT Tryz.prog 120 = none := by kernel_rfl
@[simp] theorem ix_byteT_120 : byteT Tryz.prog 120 = false := by kernel_rfl
@[simp] theorem ix_byteSliceT_120 : byteSliceT Tryz.prog 120 = false := by kernel_rfl
@[simp] theorem ix_fieldAt_120_0 : fieldAt Tryz.prog 120 0 = some (0, TK.one) := by kernel_rfl
@[simp] theorem ix_fieldAt_120_1 : fieldAt Tryz.prog 120 1 = some (1, TK.one) := by kernel_rfl
@[simp] theorem ix_fieldAt_120_2 : fieldAt Tryz.prog 120 2 = some (2, TK.agg 8) := by kernel_rfl
@[simp] theorem ix_tk_127 : tk Tryz.prog 127 = TK.agg 5 := by kernel_rfl
@[simp] theorem ix_sliceT_127 : sliceT Tryz.prog 127 = none := by kernel_rfl
@[simp] theorem ix_arrT_127 : arrT Tryz.prog 127 = none := by kernel_rfl
@[simp] theorem ix_isStringT_127 : isStringT Tryz.prog 127 = false := by kernel_rfl
@[simp] theorem ix_isSliceT_127 : isSliceT Tryz.prog 127 = false := by kernel_rfl
@[simp] theorem ix_mapT_127 : mapT Tryz.prog 127 = none := by kernel_rfl
@[simp] theorem ix_zeroX_127 : zeroX Tryz.prog 127 = some
  (XV.agg
    [CV.str [], CV.int IntKind.i64 0, CV.int IntKind.i64 0, CV.int IntKind.i64 0,
      CV.int IntKind.i64 0]) := by kernel_rfl
@[simp] theorem ix_zeroOf_127 : zeroOf Tryz.prog 127 = some
  [CV.str [], CV.int IntKind.i64 0, CV.int IntKind.i64 0, CV.int IntKind.i64 0,
    CV.int IntKind.i64 0] := by kernel_rfl
@[simp] theorem ix_rowT_127 : rowT Tryz.prog 127 = none := by kernel_rfl
@[simp] theorem ix_bytesT_127 : bytesT Tryz.prog 127 = some 48 := by kernel_rfl
@[simp] theorem ix_buildT_127 : buildT Tryz.prog 127 = some
  ([CV.str [], CV.int IntKind.i64 0, CV.int IntKind.i64 0, CV.int IntKind.i64 0,
      CV.int IntKind.i64 0],
    [(0, 1), (1, 1), (2, 1), (3, 1), (4, 1)]) := by kernel_rfl
@[simp] theorem ix_eqT_127 : eqT Tryz.prog 127 = some [BK.s, BK.i, BK.i, BK.i, BK.i] := by kernel_rfl
@[simp] theorem ix_OneOk_127 : OneOk Tryz.prog 127 = true := by kernel_rfl
@[simp] theorem ix_intT_127 : intT Tryz.prog 127 = none := by kernel_rfl
@[simp] theorem ix_byteT_127 : byteT Tryz.prog 127 = false := by kernel_rfl
@[simp] theorem ix_byteSliceT_127 : byteSliceT Tryz.prog 127 = false := by kernel_rfl
@[simp] theorem ix_fieldAt_127_0 : fieldAt Tryz.prog 127 0 = some (0, TK.one) := by kernel_rfl
@[simp] theorem ix_fieldAt_127_1 : fieldAt Tryz.prog 127 1 = some (1, TK.one) := by kernel_rfl
@[simp] theorem ix_fieldAt_127_2 : fieldAt Tryz.prog 127 2 = some (2, TK.one) := by kernel_rfl
@[simp] theorem ix_fieldAt_127_3 : fieldAt Tryz.prog 127 3 = some (3, TK.one) := by kernel_rfl
@[simp] theorem ix_fieldAt_127_4 : fieldAt Tryz.prog 127 4 = some (4, TK.one) := by kernel_rfl
@[simp] theorem ix_tk_131 : tk Tryz.prog 131 = TK.agg 3 := by kernel_rfl
@[simp] theorem ix_sliceT_131 : sliceT Tryz.prog 131 = none := by kernel_rfl
@[simp] theorem ix_arrT_131 : arrT Tryz.prog 131 = none := by kernel_rfl
@[simp] theorem ix_isStringT_131 : isStringT Tryz.prog 131 = false := by kernel_rfl
@[simp] theorem ix_isSliceT_131 : isSliceT Tryz.prog 131 = false := by kernel_rfl
@[simp] theorem ix_mapT_131 : mapT Tryz.prog 131 = none := by kernel_rfl
@[simp] theorem ix_zeroX_131 : zeroX Tryz.prog 131 = some
  (XV.agg [CV.int IntKind.i64 0, CV.str [], CV.bool false]) := by kernel_rfl
@[simp] theorem ix_zeroOf_131 : zeroOf Tryz.prog 131 = some
  [CV.int IntKind.i64 0, CV.str [], CV.bool false] := by kernel_rfl
@[simp] theorem ix_rowT_131 : rowT Tryz.prog 131 = none := by kernel_rfl
@[simp] theorem ix_bytesT_131 : bytesT Tryz.prog 131 = some 32 := by kernel_rfl
@[simp] theorem ix_buildT_131 : buildT Tryz.prog 131 = some
  ([CV.int IntKind.i64 0, CV.str [], CV.bool false], [(0, 1), (1, 1), (2, 1)]) := by kernel_rfl
@[simp] theorem ix_eqT_131 : eqT Tryz.prog 131 = some [BK.i, BK.s, BK.b] := by kernel_rfl
@[simp] theorem ix_OneOk_131 : OneOk Tryz.prog 131 = true := by kernel_rfl
@[simp] theorem ix_intT_131 : intT Tryz.prog 131 = none := by kernel_rfl
@[simp] theorem ix_byteT_131 : byteT Tryz.prog 131 = false := by kernel_rfl
@[simp] theorem ix_byteSliceT_131 : byteSliceT Tryz.prog 131 = false := by kernel_rfl
@[simp] theorem ix_fieldAt_131_0 : fieldAt Tryz.prog 131 0 = some (0, TK.one) := by kernel_rfl
@[simp] theorem ix_fieldAt_131_1 : fieldAt Tryz.prog 131 1 = some (1, TK.one) := by kernel_rfl
@[simp] theorem ix_fieldAt_131_2 : fieldAt Tryz.prog 131 2 = some (2, TK.one) := by kernel_rfl
@[simp] theorem ix_tk_145 : tk Tryz.prog 145 = TK.one := by kernel_rfl
@[simp] theorem ix_sliceT_145 : sliceT Tryz.prog 145 = none := by kernel_rfl
@[simp] theorem ix_arrT_145 : arrT Tryz.prog 145 = none := by kernel_rfl
@[simp] theorem ix_isStringT_145 : isStringT Tryz.prog 145 = false := by kernel_rfl
@[simp] theorem ix_isSliceT_145 : isSliceT Tryz.prog 145 = false := by kernel_rfl
@[simp] theorem ix_mapT_145 : mapT Tryz.prog 145 = some (KK.s, 4) := by kernel_rfl
@[simp] theorem ix_zeroX_145 : zeroX Tryz.prog 145 = some (XV.one (CV.atom (Value.map none))) := by kernel_rfl
@[simp] theorem ix_zeroOf_145 : zeroOf Tryz.prog 145 = some [CV.atom (Value.map none)] := by kernel_rfl
@[simp] theorem ix_rowT_145 : rowT Tryz.prog 145 = none := by kernel_rfl
@[simp] theorem ix_bytesT_145 : bytesT Tryz.prog 145 = some 8 := by kernel_rfl
@[simp] theorem ix_buildT_145 : buildT Tryz.prog 145 = none := by kernel_rfl
@[simp] theorem ix_eqT_145 : eqT Tryz.prog 145 = none := by kernel_rfl
@[simp] theorem ix_OneOk_145 : OneOk Tryz.prog 145 = true := by kernel_rfl
@[simp] theorem ix_intT_145 : intT Tryz.prog 145 = none := by kernel_rfl
@[simp] theorem ix_byteT_145 : byteT Tryz.prog 145 = false := by kernel_rfl
@[simp] theorem ix_byteSliceT_145 : byteSliceT Tryz.prog 145 = false := by kernel_rfl
@[simp] theorem ix_tk_163 : tk Tryz.prog 163 = TK.agg 5 := by kernel_rfl
@[simp] theorem ix_sliceT_163 : sliceT Tryz.prog 163 = none := by kernel_rfl
@[simp] theorem ix_arrT_163 : arrT Tryz.prog 163 = some (5, 1) := by kernel_rfl
@[simp] theorem ix_isStringT_163 : isStringT Tryz.prog 163 = false := by kernel_rfl
@[simp] theorem ix_isSliceT_163 : isSliceT Tryz.prog 163 = false := by kernel_rfl
@[simp] theorem ix_mapT_163 : mapT Tryz.prog 163 = none := by kernel_rfl
@[simp] theorem ix_zeroX_163 : zeroX Tryz.prog 163 = some
  (XV.agg
    [CV.int IntKind.i64 0, CV.int IntKind.i64 0, CV.int IntKind.i64 0,
      CV.int IntKind.i64 0, CV.int IntKind.i64 0]) := by kernel_rfl
@[simp] theorem ix_zeroOf_163 : zeroOf Tryz.prog 163 = some
  [CV.int IntKind.i64 0, CV.int IntKind.i64 0, CV.int IntKind.i64 0,
    CV.int IntKind.i64 0, CV.int IntKind.i64 0] := by kernel_rfl
@[simp] theorem ix_rowT_163 : rowT Tryz.prog 163 = none := by kernel_rfl
@[simp] theorem ix_bytesT_163 : bytesT Tryz.prog 163 = some 40 := by kernel_rfl
@[simp] theorem ix_buildT_163 : buildT Tryz.prog 163 = none := by kernel_rfl
@[simp] theorem ix_eqT_163 : eqT Tryz.prog 163 = none := by kernel_rfl
@[simp] theorem ix_OneOk_163 : OneOk Tryz.prog 163 = true := by kernel_rfl
@[simp] theorem ix_intT_163 : intT Tryz.prog 163 = none := by kernel_rfl
@[simp] theorem ix_byteT_163 : byteT Tryz.prog 163 = false := by kernel_rfl
@[simp] theorem ix_byteSliceT_163 : byteSliceT Tryz.prog 163 = false := by kernel_rfl
@[simp] theorem ix_tk_165 : tk Tryz.prog 165 = TK.one := by kernel_rfl
@[simp] theorem ix_sliceT_165 : sliceT Tryz.prog 165 = none := by kernel_rfl
@[simp] theorem ix_arrT_165 : arrT Tryz.prog 165 = none := by kernel_rfl
@[simp] theorem ix_isStringT_165 : isStringT Tryz.prog 165 = false := by kernel_rfl
@[simp] theorem ix_isSliceT_165 : isSliceT Tryz.prog 165 = false := by kernel_rfl
@[simp] theorem ix_mapT_165 : mapT Tryz.prog 165 = none := by kernel_rfl
@[simp] theorem ix_zeroX_165 : zeroX Tryz.prog 165 = some
  (XV.one (CV.atom (Value.pointer none))) := by kernel_rfl
@[simp] theorem ix_zeroOf_165 : zeroOf Tryz.prog 165 = some [CV.atom (Value.pointer none)] := by kernel_rfl
@[simp] theorem ix_rowT_165 : rowT Tryz.prog 165 = none := by kernel_rfl
@[simp] theorem ix_bytesT_165 : bytesT Tryz.prog 165 = some 8 := by kernel_rfl
@[simp] theorem ix_buildT_165 : buildT Tryz.prog 165 = none := by kernel_rfl
@[simp] theorem ix_eqT_165 : eqT Tryz.prog 165 = none := by kernel_rfl
@[simp] theorem ix_OneOk_165 : OneOk Tryz.prog 165 = true := by kernel_rfl
@[simp] theorem ix_intT_165 : intT Tryz.prog 165 = none := by kernel_rfl
@[simp] theorem ix_byteT_165 : byteT Tryz.prog 165 = false := by kernel_rfl
@[simp] theorem ix_byteSliceT_165 : byteSliceT Tryz.prog 165 = false := by kernel_rfl
@[simp] theorem ix_tk_167 : tk Tryz.prog 167 = TK.agg 3 := by kernel_rfl
@[simp] theorem ix_sliceT_167 : sliceT Tryz.prog 167 = none := by kernel_rfl
@[simp] theorem ix_arrT_167 : arrT Tryz.prog 167 = none := by kernel_rfl
@[simp] theorem ix_isStringT_167 : isStringT Tryz.prog 167 = false := by kernel_rfl
@[simp] theorem ix_isSliceT_167 : isSliceT Tryz.prog 167 = false := by kernel_rfl
@[simp] theorem ix_mapT_167 : mapT Tryz.prog 167 = none := by kernel_rfl
@[simp] theorem ix_zeroX_167 : zeroX Tryz.prog 167 = some
  (XV.agg [CV.str [], CV.int IntKind.i64 0, CV.int IntKind.i64 0]) := by kernel_rfl
@[simp] theorem ix_zeroOf_167 : zeroOf Tryz.prog 167 = some
  [CV.str [], CV.int IntKind.i64 0, CV.int IntKind.i64 0] := by kernel_rfl
@[simp] theorem ix_rowT_167 : rowT Tryz.prog 167 = none := by kernel_rfl
@[simp] theorem ix_bytesT_167 : bytesT Tryz.prog 167 = some 32 := by kernel_rfl
@[simp] theorem ix_buildT_167 : buildT Tryz.prog 167 = some
  ([CV.str [], CV.int IntKind.i64 0, CV.int IntKind.i64 0],
    [(0, 1), (1, 1), (2, 1)]) := by kernel_rfl
@[simp] theorem ix_eqT_167 : eqT Tryz.prog 167 = some [BK.s, BK.i, BK.i] := by kernel_rfl
@[simp] theorem ix_OneOk_167 : OneOk Tryz.prog 167 = true := by kernel_rfl
@[simp] theorem ix_intT_167 : intT Tryz.prog 167 = none := by kernel_rfl
@[simp] theorem ix_byteT_167 : byteT Tryz.prog 167 = false := by kernel_rfl
@[simp] theorem ix_byteSliceT_167 : byteSliceT Tryz.prog 167 = false := by kernel_rfl
@[simp] theorem ix_fieldAt_167_0 : fieldAt Tryz.prog 167 0 = some (0, TK.one) := by kernel_rfl
@[simp] theorem ix_fieldAt_167_1 : fieldAt Tryz.prog 167 1 = some (1, TK.one) := by kernel_rfl
@[simp] theorem ix_fieldAt_167_2 : fieldAt Tryz.prog 167 2 = some (2, TK.one) := by kernel_rfl
@[simp] theorem ix_tk_174 : tk Tryz.prog 174 = TK.one := by kernel_rfl
@[simp] theorem ix_sliceT_174 : sliceT Tryz.prog 174 = some (204, 2) := by kernel_rfl
@[simp] theorem ix_arrT_174 : arrT Tryz.prog 174 = none := by kernel_rfl
@[simp] theorem ix_isStringT_174 : isStringT Tryz.prog 174 = false := by kernel_rfl
@[simp] theorem ix_isSliceT_174 : isSliceT Tryz.prog 174 = true := by kernel_rfl
@[simp] theorem ix_mapT_174 : mapT Tryz.prog 174 = none := by kernel_rfl
@[simp] theorem ix_zeroX_174 : zeroX Tryz.prog 174 = some (XV.one CV.nil) := by kernel_rfl
@[simp] theorem ix_zeroOf_174 : zeroOf Tryz.prog 174 = some [CV.nil] := by kernel_rfl
@[simp] theorem ix_rowT_174 : rowT Tryz.prog 174 = some
  (204, 2, [CV.int IntKind.i64 0, CV.str []]) := by kernel_rfl
@[simp] theorem ix_bytesT_174 : bytesT Tryz.prog 174 = some 24 := by kernel_rfl
@[simp] theorem ix_buildT_174 : buildT Tryz.prog 174 = none := by kernel_rfl
@[simp] theorem ix_eqT_174 : eqT Tryz.prog 174 = none := by kernel_rfl
@[simp] theorem ix_OneOk_174 : OneOk Tryz.prog 174 = true := by kernel_rfl
@[simp] theorem ix_intT_174 : intT Tryz.prog 174 = none := by kernel_rfl
@[simp] theorem ix_byteT_174 : byteT Tryz.prog 174 = false := by kernel_rfl
@[simp] theorem ix_byteSliceT_174 : byteSliceT Tryz.prog 174 = false := by kernel_rfl
@[simp] theorem ix_tk_181 : tk Tryz.prog 181 = TK.one := by kernel_rfl
@[simp] theorem ix_sliceT_181 : sliceT Tryz.prog 181 = none := by kernel_rfl
@[simp] theorem ix_arrT_181 : arrT Tryz.prog 181 = none := by kernel_rfl
@[simp] theorem ix_isStringT_181 : isStringT Tryz.prog 181 = false := by kernel_rfl
@[simp] theorem ix_isSliceT_181 : isSliceT Tryz.prog 181 = false := by kernel_rfl
@[simp] theorem ix_mapT_181 : mapT Tryz.prog 181 = none := by kernel_rfl
@[simp] theorem ix_zeroX_181 : zeroX Tryz.prog 181 = some
  (XV.one (CV.int IntKind.u64 0)) := by kernel_rfl
@[simp] theorem ix_zeroOf_181 : zeroOf Tryz.prog 181 = some
  [CV.int IntKind.u64 0] := by kernel_rfl
@[simp] theorem ix_rowT_181 : rowT Tryz.prog 181 = none := by kernel_rfl
@[simp] theorem ix_bytesT_181 : bytesT Tryz.prog 181 = some 8 := by kernel_rfl
@[simp] theorem ix_buildT_181 : buildT Tryz.prog 181 = none := by kernel_rfl
@[simp] theorem ix_eqT_181 : eqT Tryz.prog 181 = none := by kernel_rfl
@[simp] theorem ix_OneOk_181 : OneOk Tryz.prog 181 = true := by kernel_rfl
@[simp] theorem ix_intT_181 : intT Tryz.prog 181 = some IntKind.u64 := by kernel_rfl
@[simp] theorem ix_byteT_181 : byteT Tryz.prog 181 = false := by kernel_rfl
@[simp] theorem ix_byteSliceT_181 : byteSliceT Tryz.prog 181 = false := by kernel_rfl
@[simp] theorem ix_tk_204 : tk Tryz.prog 204 = TK.agg 2 := by kernel_rfl
@[simp] theorem ix_sliceT_204 : sliceT Tryz.prog 204 = none := by kernel_rfl
@[simp] theorem ix_arrT_204 : arrT Tryz.prog 204 = none := by kernel_rfl
@[simp] theorem ix_isStringT_204 : isStringT Tryz.prog 204 = false := by kernel_rfl
@[simp] theorem ix_isSliceT_204 : isSliceT Tryz.prog 204 = false := by kernel_rfl
@[simp] theorem ix_mapT_204 : mapT Tryz.prog 204 = none := by kernel_rfl
@[simp] theorem ix_zeroX_204 : zeroX Tryz.prog 204 = some
  (XV.agg [CV.int IntKind.i64 0, CV.str []]) := by kernel_rfl
@[simp] theorem ix_zeroOf_204 : zeroOf Tryz.prog 204 = some
  [CV.int IntKind.i64 0, CV.str []] := by kernel_rfl
@[simp] theorem ix_rowT_204 : rowT Tryz.prog 204 = none := by kernel_rfl
@[simp] theorem ix_bytesT_204 : bytesT Tryz.prog 204 = some 24 := by kernel_rfl
@[simp] theorem ix_buildT_204 : buildT Tryz.prog 204 = some
  ([CV.int IntKind.i64 0, CV.str []], [(0, 1), (1, 1)]) := by kernel_rfl
@[simp] theorem ix_eqT_204 : eqT Tryz.prog 204 = some [BK.i, BK.s] := by kernel_rfl
@[simp] theorem ix_OneOk_204 : OneOk Tryz.prog 204 = true := by kernel_rfl
@[simp] theorem ix_intT_204 : intT Tryz.prog 204 = none := by kernel_rfl
@[simp] theorem ix_byteT_204 : byteT Tryz.prog 204 = false := by kernel_rfl
@[simp] theorem ix_byteSliceT_204 : byteSliceT Tryz.prog 204 = false := by kernel_rfl
@[simp] theorem ix_fieldAt_204_0 : fieldAt Tryz.prog 204 0 = some (0, TK.one) := by kernel_rfl
@[simp] theorem ix_fieldAt_204_1 : fieldAt Tryz.prog 204 1 = some (1, TK.one) := by kernel_rfl
@[simp] theorem ix_tk_212 : tk Tryz.prog 212 = TK.one := by kernel_rfl
@[simp] theorem ix_sliceT_212 : sliceT Tryz.prog 212 = none := by kernel_rfl
@[simp] theorem ix_arrT_212 : arrT Tryz.prog 212 = none := by kernel_rfl
@[simp] theorem ix_isStringT_212 : isStringT Tryz.prog 212 = false := by kernel_rfl
@[simp] theorem ix_isSliceT_212 : isSliceT Tryz.prog 212 = false := by kernel_rfl
@[simp] theorem ix_mapT_212 : mapT Tryz.prog 212 = none := by kernel_rfl
@[simp] theorem ix_zeroX_212 : zeroX Tryz.prog 212 = some
  (XV.one (CV.atom (Value.pointer none))) := by kernel_rfl
@[simp] theorem ix_zeroOf_212 : zeroOf Tryz.prog 212 = some [CV.atom (Value.pointer none)] := by kernel_rfl
@[simp] theorem ix_rowT_212 : rowT Tryz.prog 212 = none := by kernel_rfl
@[simp] theorem ix_bytesT_212 : bytesT Tryz.prog 212 = some 8 := by kernel_rfl
@[simp] theorem ix_buildT_212 : buildT Tryz.prog 212 = none := by kernel_rfl
@[simp] theorem ix_eqT_212 : eqT Tryz.prog 212 = none := by kernel_rfl
@[simp] theorem ix_OneOk_212 : OneOk Tryz.prog 212 = true := by kernel_rfl
@[simp] theorem ix_intT_212 : intT Tryz.prog 212 = none := by kernel_rfl
@[simp] theorem ix_byteT_212 : byteT Tryz.prog 212 = false := by kernel_rfl
@[simp] theorem ix_byteSliceT_212 : byteSliceT Tryz.prog 212 = false := by kernel_rfl
end Go.Proofs.YtklnopamfncfgaaGreatDoor
namespace Go.Proofs.YtklnopamfncfgaaGreatDoor
open Go
set_option maxRecDepth 100000
def renn106 : Go.Shelf.Ren := ⟨fun x => if x = 106 then 54 else if x = 213 then 106 else if x = 265 then 175 else x, fun x => if x = 3 then 3 else if x = 9 then 9 else x, fun x => x⟩
theorem layn106 : Go.Proofs.Lays.n106 Tryz.prog renn106 where
  mixed := by kernel_rfl
  f106 := Tryz.func54.trans (congrArg some (by kernel_rfl))
  f213 := Tryz.func106.trans (congrArg some (by kernel_rfl))
  f265 := Tryz.func175.trans (congrArg some (by kernel_rfl))
  t3 := Tryz.underlying3
  a3 := Tryz.isAgg3
  z3 := Tryz.sizeOf3
  v3 := Tryz.zeroValue3
  t9 := Tryz.underlying9
  a9 := Tryz.isAgg9
  z9 := Tryz.sizeOf9
  v9 := Tryz.zeroValue9
def renn160 : Go.Shelf.Ren := ⟨fun x => if x = 119 then 256 else if x = 120 then 234 else if x = 137 then 62 else if x = 151 then 190 else if x = 152 then 233 else if x = 160 then 71 else if x = 197 then 189 else if x = 217 then 112 else if x = 224 then 242 else if x = 225 then 241 else if x = 227 then 128 else if x = 228 then 188 else if x = 231 then 126 else if x = 232 then 127 else if x = 233 then 129 else if x = 234 then 130 else if x = 235 then 131 else if x = 236 then 132 else if x = 260 then 232 else if x = 266 then 177 else if x = 271 then 191 else x, fun x => if x = 0 then 0 else if x = 3 then 3 else if x = 4 then 4 else if x = 5 then 5 else if x = 9 then 9 else if x = 21 then 21 else if x = 46 then 181 else if x = 105 then 190 else if x = 116 then 155 else if x = 117 then 156 else if x = 119 then 233 else if x = 124 then 159 else if x = 138 then 235 else if x = 139 then 236 else x, fun x => if x = 3 then 4 else if x = 4 then 5 else x⟩
theorem layn160 : Go.Proofs.Lays.n160 Tryz.prog renn160 where
  mixed := by kernel_rfl
  f119 := Tryz.func256.trans (congrArg some (by kernel_rfl))
  f120 := Tryz.func234.trans (congrArg some (by kernel_rfl))
  f137 := Tryz.func62.trans (congrArg some (by kernel_rfl))
  f151 := Tryz.func190.trans (congrArg some (by kernel_rfl))
  f152 := Tryz.func233.trans (congrArg some (by kernel_rfl))
  f160 := Tryz.func71.trans (congrArg some (by kernel_rfl))
  f197 := Tryz.func189.trans (congrArg some (by kernel_rfl))
  f217 := Tryz.func112.trans (congrArg some (by kernel_rfl))
  f224 := Tryz.func242.trans (congrArg some (by kernel_rfl))
  f225 := Tryz.func241.trans (congrArg some (by kernel_rfl))
  f227 := Tryz.func128.trans (congrArg some (by kernel_rfl))
  f228 := Tryz.func188.trans (congrArg some (by kernel_rfl))
  f231 := Tryz.func126.trans (congrArg some (by kernel_rfl))
  f232 := Tryz.func127.trans (congrArg some (by kernel_rfl))
  f233 := Tryz.func129.trans (congrArg some (by kernel_rfl))
  f234 := Tryz.func130.trans (congrArg some (by kernel_rfl))
  f235 := Tryz.func131.trans (congrArg some (by kernel_rfl))
  f236 := Tryz.func132.trans (congrArg some (by kernel_rfl))
  f260 := Tryz.func232.trans (congrArg some (by kernel_rfl))
  f266 := Tryz.func177.trans (congrArg some (by kernel_rfl))
  f271 := Tryz.func191.trans (congrArg some (by kernel_rfl))
  t0 := Tryz.underlying0
  a0 := Tryz.isAgg0
  z0 := Tryz.sizeOf0
  v0 := Tryz.zeroValue0
  t3 := Tryz.underlying3
  a3 := Tryz.isAgg3
  z3 := Tryz.sizeOf3
  v3 := Tryz.zeroValue3
  t4 := Tryz.underlying4
  a4 := Tryz.isAgg4
  z4 := Tryz.sizeOf4
  v4 := Tryz.zeroValue4
  t5 := Tryz.underlying5
  a5 := Tryz.isAgg5
  z5 := Tryz.sizeOf5
  v5 := Tryz.zeroValue5
  t9 := Tryz.underlying9
  a9 := Tryz.isAgg9
  z9 := Tryz.sizeOf9
  v9 := Tryz.zeroValue9
  t21 := Tryz.underlying21
  a21 := Tryz.isAgg21
  z21 := Tryz.sizeOf21
  v21 := Tryz.zeroValue21
  t46 := Tryz.underlying181
  a46 := Tryz.isAgg181
  z46 := Tryz.sizeOf181
  v46 := Tryz.zeroValue181
  t105 := Tryz.underlying190
  a105 := Tryz.isAgg190
  z105 := Tryz.sizeOf190
  v105 := Tryz.zeroValue190
  t116 := Tryz.underlying155
  a116 := Tryz.isAgg155
  z116 := Tryz.sizeOf155
  t117 := Tryz.underlying156
  a117 := Tryz.isAgg156
  z117 := Tryz.sizeOf156
  v117 := Tryz.zeroValue156
  t119 := Tryz.underlying233
  a119 := Tryz.isAgg233
  z119 := Tryz.sizeOf233
  t124 := Tryz.underlying159
  a124 := Tryz.isAgg159
  z124 := Tryz.sizeOf159
  v124 := Tryz.zeroValue159
  t138 := Tryz.underlying235
  a138 := Tryz.isAgg235
  z138 := Tryz.sizeOf235
  v138 := Tryz.zeroValue235
  t139 := Tryz.underlying236
  a139 := Tryz.isAgg236
  z139 := Tryz.sizeOf236
  v139 := Tryz.zeroValue236
  g3 := by kernel_rfl
  g4 := by kernel_rfl
end Go.Proofs.YtklnopamfncfgaaGreatDoor
namespace Go.Proofs.YtklnopamfncfgaaGreatDoor
open Go Go.Ab
set_option linter.unusedSectionVars false
variable [Amb]
set_option maxRecDepth 100000
set_option maxHeartbeats 4000000
theorem mixed : Tryz.prog.follows .mixedOrders = true := by kernel_rfl

theorem wrapS (n : Int) (h : -9223372036854775808 ≤ n ∧ n ≤ 9223372036854775807) : IntKind.i64.wrap n = n := IntWalk.i64_in n h

/-! ### All bytes of a string -/
section
variable {α : Type} {p : α → Bool} {l : List α} {i : Nat}
theorem all_bad (hlt : i < l.length) (h : p l[i] = false) : l.all p = false := by
  rw [List.all_eq_false]
  exact ⟨l[i], List.getElem_mem hlt, by simp [h]⟩
/-- The first i are so. -/
def Upto (p : α → Bool) (l : List α) (i : Nat) : Prop := i ≤ l.length ∧ (l.take i).all p = true
theorem Upto.zero : Upto p l 0 := ⟨Nat.zero_le _, by simp⟩
theorem Upto.step (h : Upto p l i) (hlt : i < l.length) (hp : p l[i] = true) : Upto p l (i + 1) := by
  refine ⟨hlt, ?_⟩
  rw [List.take_add_one, List.getElem?_eq_getElem hlt]
  simp only [Option.toList, List.all_append, h.2, List.all_cons, hp, List.all_nil, Bool.and_self]
theorem Upto.done (h : Upto p l i) (hge : ¬ i < l.length) : l.all p = true := by
  have := h.2
  rwa [List.take_of_length_le (by omega)] at this
end

def inB (lo hi n : Int) : Bool := decide (lo ≤ n) && decide (n ≤ hi)
def keyChar (b : UInt8) : Bool := decide (33 ≤ b.toNat) && decide (b.toNat ≤ 126)
def plainB (l : List UInt8) : Bool := l.all keyChar
def wordB (l : List UInt8) (most : Int) : Bool := plainB l && inB 1 most l.length
def keyB (l : List UInt8) : Bool := wordB l 2000
def momentB (n : Int) : Bool := inB 0 253402300799 n

theorem index_within (x a b : Int) : ACalls Tryz.prog 146 [.one (.int .i64 x), .one (.int .i64 a), .one (.int .i64 b)] (.x (.one (.bool (inB a b x)))) := by
  refine ACalls.of mixed (fn := Tryz.f146) (by kernel_rfl) (by kernel_rfl) rfl (by kernel_rfl) (by simp [Tryz.f146]) (fun hok => ?_)
  simp [inB]
theorem ref8_within (x a b : Int) : ACalls Tryz.prog 154 [.one (.int .i64 x), .one (.int .i64 a), .one (.int .i64 b)] (.x (.one (.bool (inB a b x)))) := by
  refine ACalls.of mixed (fn := Tryz.f154) (by kernel_rfl) (by kernel_rfl) rfl (by kernel_rfl) (by simp [Tryz.f154]) (fun hok => ?_)
  simp [inB]
theorem isMoment (x : Int) : ACalls Tryz.prog 23 [.one (.int .i64 x)] (.x (.one (.bool (momentB x)))) := by
  refine ACalls.of mixed (fn := Tryz.f23) (by kernel_rfl) (by kernel_rfl) rfl (by kernel_rfl) (by simp [Tryz.f23]) (fun hok => ?_)
  simp [momentB, inB]

theorem keyChar_bad {b : UInt8} (h : ((b.toNat : Nat) : Int) < 33 ∨ 126 < ((b.toNat : Nat) : Int)) : keyChar b = false := by
  unfold keyChar; rcases h with h | h <;> simp <;> omega
theorem keyChar_good {b : UInt8} (h1 : 33 ≤ ((b.toNat : Nat) : Int)) (h2 : ((b.toNat : Nat) : Int) ≤ 126) : keyChar b = true := by
  unfold keyChar; simp; omega

theorem isKey (l : List UInt8) : ACalls Tryz.prog 144 [.one (.str l)] (.x (.one (.bool (keyB l)))) := by
  refine ACalls.of mixed (fn := Tryz.f144) (by kernel_rfl) (by kernel_rfl) rfl (by kernel_rfl) (by simp [Tryz.f144]) (fun hok => ?_)
  have hl : l.length ≤ maxLen := by simpa [XV.ok, CV.ok] using hok
  simp -implicitDefEqProofs
  refine ALoopS.of Nat (fun i => [(0, .x (.one (.str l))), (5, .x (.one (.int .i64 l.length))), (6, .x (.one (.int .i64 i)))]) (Upto keyChar l) (fun i => l.length - i) 0 Upto.zero ?_ ?_
  · simp
  intro i hi
  by_cases hlt : i < l.length
  · simp -implicitDefEqProofs [hlt]
    refine ⟨fun h => ?_, fun h1 h2 => Again.of (i + 1) (hi.step hlt (keyChar_good (by omega) (by omega))) (by omega) ?_⟩
    · simp [keyB, wordB, plainB, all_bad hlt (keyChar_bad h)]
    · simp
      exact wrapS _ (by unfold maxLen at hl; omega)
  · simp -implicitDefEqProofs [hlt]
    simp [keyB, wordB, plainB, hi.done hlt, inB]

theorem isWord (l : List UInt8) (most : Int) : ACalls Tryz.prog 147 [.one (.str l), .one (.int .i64 most)] (.x (.one (.bool (wordB l most)))) := by
  refine ACalls.of mixed (fn := Tryz.f147) (by kernel_rfl) (by kernel_rfl) rfl (by kernel_rfl) (by simp [Tryz.f147]) (fun hok => ?_)
  have hl : l.length ≤ maxLen := by simpa [XV.ok, CV.ok] using hok _ (List.mem_cons_self)
  simp -implicitDefEqProofs
  refine ALoopS.of Nat (fun i => [(0, .x (.one (.str l))), (1, .x (.one (.int .i64 most))), (7, .x (.one (.int .i64 l.length))), (8, .x (.one (.int .i64 i)))]) (Upto keyChar l) (fun i => l.length - i) 0 Upto.zero ?_ ?_
  · simp
  intro i hi
  by_cases hlt : i < l.length
  · simp -implicitDefEqProofs [hlt]
    refine ⟨fun h => ?_, fun h1 h2 => Again.of (i + 1) (hi.step hlt (keyChar_good (by omega) (by omega))) (by omega) ?_⟩
    · simp [wordB, plainB, all_bad hlt (keyChar_bad h)]
    · simp
      exact wrapS _ (by unfold maxLen at hl; omega)
  · simp -implicitDefEqProofs [hlt]
    refine ACallK.of (index_within _ _ _) ?_
    simp [wordB, plainB, hi.done hlt]

theorem ref8_plain (l : List UInt8) : ACalls Tryz.prog 155 [.one (.str l)] (.x (.one (.bool (plainB l)))) := by
  refine ACalls.of mixed (fn := Tryz.f155) (by kernel_rfl) (by kernel_rfl) rfl (by kernel_rfl) (by simp [Tryz.f155]) (fun hok => ?_)
  have hl : l.length ≤ maxLen := by simpa [XV.ok, CV.ok] using hok
  simp -implicitDefEqProofs
  refine ALoopS.of Nat (fun i => [(0, .x (.one (.str l))), (3, .x (.one (.int .i64 i)))]) (Upto keyChar l) (fun i => l.length - i) 0 Upto.zero ?_ ?_
  · simp
  intro i hi
  by_cases hlt : i < l.length
  · simp -implicitDefEqProofs [hlt]
    refine ⟨fun h => ?_, fun h1 h2 => Again.of (i + 1) (hi.step hlt (keyChar_good (by omega) (by omega))) (by omega) ?_⟩
    · simp [plainB, all_bad hlt (keyChar_bad h)]
    · simp
      exact wrapS _ (by unfold maxLen at hl; omega)
  · simp -implicitDefEqProofs [hlt]
    simp [plainB, hi.done hlt]

theorem ref8_isKey (l : List UInt8) : ACalls Tryz.prog 153 [.one (.str l)] (.x (.one (.bool (keyB l)))) := by
  refine ACalls.of mixed (fn := Tryz.f153) (by kernel_rfl) (by kernel_rfl) rfl (by kernel_rfl) (by simp [Tryz.f153]) (fun hok => ?_)
  simp -implicitDefEqProofs
  refine ACallK.of (ref8_within _ _ _) ?_
  simp -implicitDefEqProofs
  refine ACallGS.of (fun _ => ref8_plain _) rfl ?_
  simp -implicitDefEqProofs [keyB, wordB, Bool.and_comm]

/-! ### Orders -/
theorem cmpB_eq : ∀ (a b : List UInt8), Lib.compareBytes a b = if ltB a b = true then -1 else if a = b then 0 else 1
  | [], [] => by simp [Lib.compareBytes, ltB, Op.bytesLess]
  | [], _ :: _ => by simp [Lib.compareBytes, ltB, Op.bytesLess]
  | _ :: _, [] => by simp [Lib.compareBytes, ltB, Op.bytesLess]
  | a :: x, b :: y => by
    have ih := cmpB_eq x y
    unfold ltB at ih
    simp only [Lib.compareBytes, ltB, Op.bytesLess]
    by_cases h1 : a < b
    · simp [h1]
    · by_cases h2 : b < a
      · have hab : a ≠ b := fun e => h1 (e ▸ h2)
        simp [h1, h2, hab]
      · have hab : a = b := UInt8.le_antisymm (UInt8.not_lt.1 h2) (UInt8.not_lt.1 h1)
        subst hab
        simp [h1, ih]
def cmpI (a b : Int) : Int := if a < b then -1 else if b < a then 1 else 0
theorem strings_Compare (a b : List UInt8) : ACalls Tryz.prog 54 [.one (.str a), .one (.str b)] (.x (.one (.int .i64 (Lib.compareBytes a b)))) := by
  refine ACalls.ofKit [.string ⟨a.toArray⟩, .string ⟨b.toArray⟩] _ (callable_of Tryz.f54 (by kernel_rfl) (by kernel_rfl) rfl) rfl (fun _ _ => repR_int _ _) (fun hok w => ?_)
  refine (Any.strings_Compare layn106 ⟨a.toArray⟩ ⟨b.toArray⟩ w).mono ?_
  rintro e w' ⟨rfl, rfl⟩
  exact ⟨rfl, RowKit.Below.refl _ _⟩
theorem ref8_order (a b : List UInt8) : ACalls Tryz.prog 158 [.one (.str a), .one (.str b)] (.x (.one (.int .i64 (Lib.compareBytes a b)))) := by
  refine ACalls.of mixed (fn := Tryz.f158) (by kernel_rfl) (by kernel_rfl) rfl (by kernel_rfl) (by simp [Tryz.f158]) (fun hok => ?_)
  have e := cmpB_eq a b
  generalize Lib.compareBytes a b = c at e ⊢
  simp -implicitDefEqProofs
  refine ⟨fun h => by rw [e, if_pos h], fun h => ⟨fun h2 h3 => ?_, fun h2 => ?_⟩⟩
  · rw [e, if_neg (by simp [h]), if_neg h3]
  · rw [e, if_neg (by simp [h]), if_pos (h2 h)]
theorem ref8_number (a b : Int) : ACalls Tryz.prog 159 [.one (.int .i64 a), .one (.int .i64 b)] (.x (.one (.int .i64 (cmpI a b)))) := by
  refine ACalls.of mixed (fn := Tryz.f159) (by kernel_rfl) (by kernel_rfl) rfl (by kernel_rfl) (by simp [Tryz.f159]) (fun hok => ?_)
  simp -implicitDefEqProofs
  refine ⟨fun h => ?_, fun h => ⟨fun h2 => ?_, fun h2 => ?_⟩⟩ <;> unfold cmpI
  · rw [if_pos h]
  · rw [if_neg (by omega), if_pos h2]
  · rw [if_neg (by omega), if_neg (by omega)]
theorem isNaN (a : Int) : ACalls Tryz.prog 107 [.one (.int .i64 a)] (.x (.one (.bool false))) := by
  refine ACalls.of mixed (fn := Tryz.f107) (by kernel_rfl) (by kernel_rfl) rfl (by kernel_rfl) (by simp [Tryz.f107]) (fun hok => ?_)
  simp -implicitDefEqProofs
theorem cmp_Compare (a b : Int) : ACalls Tryz.prog 55 [.one (.int .i64 a), .one (.int .i64 b)] (.x (.one (.int .i64 (cmpI a b)))) := by
  refine ACalls.of mixed (fn := Tryz.f55) (by kernel_rfl) (by kernel_rfl) rfl (by kernel_rfl) (by simp [Tryz.f55]) (fun hok => ?_)
  simp -implicitDefEqProofs
  refine ACallK.of (isNaN _) ?_
  simp -implicitDefEqProofs
  refine ACallK.of (isNaN _) ?_
  simp -implicitDefEqProofs
  refine ⟨fun h => ?_, fun h => ⟨fun h2 => ?_, fun h2 => ?_⟩⟩ <;> unfold cmpI
  · rw [if_pos h]
  · rw [if_neg (by omega), if_pos h2]
  · rw [if_neg (by omega), if_neg (by omega)]
end Go.Proofs.YtklnopamfncfgaaGreatDoor
namespace Go.Proofs.YtklnopamfncfgaaGreatDoor
open Go Go.Ab
set_option linter.unusedSectionVars false
variable [Amb]
set_option maxRecDepth 100000
set_option maxHeartbeats 4000000

theorem trimS_nil (l cs : List UInt8) : (Lib.trimS l cs = []) ↔ l.all (cs.contains ·) = true := by
  have dw : ∀ (l : List UInt8), l.dropWhile (cs.contains ·) = [] ↔ l.all (cs.contains ·) = true := by
    intro l
    induction l with
    | nil => simp
    | cons a l ih =>
      by_cases h : cs.contains a = true
      · rw [List.dropWhile_cons_of_pos h, ih]
        simp only [List.all_cons, h, Bool.true_and]
      · rw [List.dropWhile_cons_of_neg h]
        simp only [List.all_cons, h, Bool.false_and]
        simp
  have rv : ∀ (l : List UInt8), l.reverse.all (cs.contains ·) = l.all (cs.contains ·) := by
    intro l; rw [List.all_reverse]
  unfold Lib.trimS Lib.trimLeftS Lib.trimRightS
  rw [dw, rv]
  have : ∀ (m : List UInt8), (m.dropWhile (cs.contains ·)).all (cs.contains ·) = m.all (cs.contains ·) := by
    intro m
    induction m with
    | nil => rfl
    | cons a m ih =>
      by_cases h : cs.contains a = true
      · rw [List.dropWhile_cons_of_pos h, ih]
        simp only [List.all_cons, h, Bool.true_and]
      · rw [List.dropWhile_cons_of_neg h]
  rw [this, rv]
theorem trimS_le (l cs : List UInt8) : (Lib.trimS l cs).length ≤ l.length := by
  have dw : ∀ (m : List UInt8), (m.dropWhile (cs.contains ·)).length ≤ m.length := fun m => (List.dropWhile_sublist _).length_le
  unfold Lib.trimS Lib.trimLeftS Lib.trimRightS
  have h1 := dw (List.dropWhile (fun x => cs.contains x) l.reverse).reverse
  have h2 := dw l.reverse
  simp only [List.length_reverse] at h1 h2
  omega

theorem strings_Trim (l cs : List UInt8) (h : cs.all (fun b => decide (b.toNat < 128)) = true) (h2 : cs.length < 1000) : ACalls Tryz.prog 71 [.one (.str l), .one (.str cs)] (.x (.one (.str (Lib.trimS l cs)))) := by
  by_cases hl : l.length ≤ maxLen
  · refine ACalls.ofKit [.string ⟨l.toArray⟩, .string ⟨cs.toArray⟩] _ (callable_of Tryz.f71 (by kernel_rfl) (by kernel_rfl) rfl) rfl (fun _ _ => repR_str _ (Nat.le_trans (trimS_le l cs) hl)) (fun hok w => ?_)
    have hm : maxLen ≤ 9223372036854775807 := by decide
    exact Any.strings_Trim_laid layn160 (by kernel_rfl) ⟨l.toArray⟩ ⟨cs.toArray⟩ w (by simp only [ByteArray.size, List.size_toArray]; omega) (by simp only [ByteArray.size, List.size_toArray]; omega) (Go.Proofs.ascii_of_all h)
  · refine ⟨callable_of Tryz.f71 (by kernel_rfl) (by kernel_rfl) rfl, fun w S vs hS ha => ?_⟩
    exact absurd (by simpa [XV.ok, CV.ok] using okAll_of ha _ (List.mem_cons_self)) hl

def hexCs : List UInt8 := [48, 49, 50, 51, 52, 53, 54, 55, 56, 57, 97, 98, 99, 100, 101, 102]
def nameCs : List UInt8 := [97, 98, 99, 100, 101, 102, 103, 104, 105, 106, 107, 108, 109, 110, 111, 112, 113, 114, 115, 116, 117, 118, 119, 120, 121, 122, 48, 49, 50, 51, 52, 53, 54, 55, 56, 57, 45]
def hexB (b : UInt8) : Bool := inB 48 57 b.toNat || inB 97 102 b.toNat
def lowB (b : UInt8) : Bool := inB 97 122 b.toNat
def nameChar (b : UInt8) : Bool := lowB b || (b.toNat == 45) || inB 48 57 b.toNat
theorem hexCs_eq : ∀ b : UInt8, hexCs.contains b = hexB b := by
  intro b
  have : ∀ n : Fin 256, hexCs.contains (UInt8.ofNat n.val) = hexB (UInt8.ofNat n.val) := by decide +kernel
  have h := this ⟨b.toNat, b.toNat_lt⟩
  simpa using h
theorem nameCs_eq : ∀ b : UInt8, nameCs.contains b = nameChar b := by
  intro b
  have : ∀ n : Fin 256, nameCs.contains (UInt8.ofNat n.val) = nameChar (UInt8.ofNat n.val) := by decide +kernel
  have h := this ⟨b.toNat, b.toNat_lt⟩
  simpa using h
def digestB (l : List UInt8) : Bool := l.all hexB && (l.length == 16)
def nameB (l : List UInt8) : Bool := l.all nameChar && (lowB (l[0]?.getD 0) && inB 1 40 l.length)

theorem ref8_isDigest (l : List UInt8) : ACalls Tryz.prog 156 [.one (.str l)] (.x (.one (.bool (digestB l)))) := by
  refine ACalls.of mixed (fn := Tryz.f156) (by kernel_rfl) (by kernel_rfl) rfl (by kernel_rfl) (by simp [Tryz.f156]) (fun hok => ?_)
  have hl : l.length ≤ maxLen := by simpa [XV.ok, CV.ok] using hok
  simp -implicitDefEqProofs
  refine ALoopS.of Nat (fun i => [(0, .x (.one (.str l))), (3, .x (.one (.int .i64 i)))]) (Upto hexB l) (fun i => l.length - i) 0 Upto.zero ?_ ?_
  · simp
  intro i hi
  by_cases hlt : i < l.length
  · have e : hexB l[i] = (inB 48 57 l[i].toNat || inB 97 102 l[i].toNat) := rfl
    unfold inB at e
    simp -implicitDefEqProofs +contextual [-Bool.and_eq_false_imp, Bool.and_eq_false_iff, hlt]
    refine ⟨fun h1 h2 => ?_, fun h => ?_⟩
    · have hb : hexB l[i] = false := by rw [e]; simp; omega
      simp [digestB, all_bad hlt hb]
    · have hb : hexB l[i] = true := by rw [e]; simp; omega
      refine Again.of (i + 1) (hi.step hlt hb) (by omega) ?_
      simp
      exact wrapS _ (by unfold maxLen at hl; omega)
  · simp -implicitDefEqProofs [hlt]
    simp [digestB, hi.done hlt]
    rw [Bool.eq_iff_iff]; simp; omega

theorem isName (l : List UInt8) : ACalls Tryz.prog 148 [.one (.str l)] (.x (.one (.bool (nameB l)))) := by
  refine ACalls.of mixed (fn := Tryz.f148) (by kernel_rfl) (by kernel_rfl) rfl (by kernel_rfl) (by simp [Tryz.f148]) (fun hok => ?_)
  have e := trimS_nil l nameCs
  simp only [nameCs_eq] at e
  simp -implicitDefEqProofs +contextual [-Bool.and_eq_false_imp, Bool.and_eq_false_iff]
  refine ⟨fun h _ => by omega, fun h _ _ => by omega, ACallGS.of (fun _ => strings_Trim l nameCs (by decide) (by decide)) rfl ?_⟩
  simp -implicitDefEqProofs +contextual [-Bool.and_eq_false_imp, Bool.and_eq_false_iff]
  unfold nameB lowB inB
  generalize ((l[0]?.getD 0).toNat : Int) = n
  by_cases h : Lib.trimS l nameCs = []
  · rw [e.1 h, h]
    rw [Bool.eq_iff_iff]; simp; omega
  · have : (l.all nameChar) = false := by
      cases hb : l.all nameChar with
      | true => exact absurd (e.2 hb) h
      | false => rfl
    rw [this]
    simp [h]

theorem ref6_isName (l : List UInt8) : ACalls Tryz.prog 157 [.one (.str l)] (.x (.one (.bool (nameB l)))) := by
  refine ACalls.of mixed (fn := Tryz.f157) (by kernel_rfl) (by kernel_rfl) rfl (by kernel_rfl) (by simp [Tryz.f157]) (fun hok => ?_)
  have hl : l.length ≤ maxLen := by simpa [XV.ok, CV.ok] using hok
  simp -implicitDefEqProofs +contextual [-Bool.and_eq_false_imp, Bool.and_eq_false_iff]
  refine ALoopS.of Nat (fun i => [(0, .x (.one (.str l))), (3, .x (.one (.int .i64 i)))]) (fun i => Upto nameChar l i ∧ (0 < i → lowB (l[0]?.getD 0) = true)) (fun i => l.length - i) 0 ⟨Upto.zero, by simp⟩ ?_ ?_
  · simp
  rintro i ⟨hi, hlow⟩
  by_cases hlt : i < l.length
  · have e : nameChar l[i] = (lowB l[i] || (l[i].toNat == 45) || inB 48 57 l[i].toNat) := rfl
    have e2 : lowB l[i] = (decide ((97 : Int) ≤ l[i].toNat) && decide ((l[i].toNat : Int) ≤ 122)) := rfl
    have h0 : i = 0 → l[0]?.getD 0 = l[i] := by rintro rfl; simp [hlt]
    simp -implicitDefEqProofs +contextual [-Bool.and_eq_false_imp, Bool.and_eq_false_iff, hlt]
    unfold inB at e
    refine ⟨fun h1 h2 => ?_, fun h => Again.of (i + 1) ⟨hi.step hlt ?_, fun _ => ?_⟩ (by omega) ?_⟩
    · rcases h2 with h2 | ⟨h2, h3⟩
      · have : lowB (l[0]?.getD 0) = false := by rw [h0 h2, e2]; simp; omega
        simp [nameB, this]
      · have : nameChar l[i] = false := by rw [e, e2]; simp; omega
        simp [nameB, all_bad hlt this]
    · rw [e, e2]; simp; omega
    · by_cases hz : i = 0
      · rw [h0 hz, e2]; simp; omega
      · exact hlow (by omega)
    · simp
      exact wrapS _ (by unfold maxLen at hl; omega)
  · simp -implicitDefEqProofs +contextual [-Bool.and_eq_false_imp, Bool.and_eq_false_iff, hlt]
    unfold nameB
    rw [hi.done hlt]
    cases l with
    | nil => simp [inB]
    | cons a r =>
      have := hlow (by simp at hlt; omega)
      rw [this, Bool.eq_iff_iff]; simp [inB]; omega
end Go.Proofs.YtklnopamfncfgaaGreatDoor
namespace Go.Proofs.YtklnopamfncfgaaGreatDoor
open Go Go.Ab
set_option linter.unusedSectionVars false
variable [Amb]
set_option maxRecDepth 100000
set_option maxHeartbeats 4000000

structure Entry where
  key : List UInt8
  time : Int
  status : Int
  type : List UInt8
  digest : List UInt8
  file : List UInt8
  lo : Int
  hi : Int
  same : Bool
  deriving DecidableEq
def Entry.row (e : Entry) : List CV := [.str e.key, .int .i64 e.time, .int .i64 e.status, .str e.type, .str e.digest, .str e.file, .int .i64 e.lo, .int .i64 e.hi, .bool e.same]
def intRow (n : Int) : List CV := [.int .i64 n]
def firstNZ : List Int → Int
  | [] => 0
  | a :: r => if a = 0 then firstNZ r else a
theorem firstNZ_at : ∀ {l : List Int} {i : Nat}, (l.take i).all (· == 0) = true → (h : i < l.length) → l[i] ≠ 0 → firstNZ l = l[i]
  | a :: r, 0, _, _, hn => by simp [firstNZ] at hn ⊢; intro h; exact absurd h hn
  | a :: r, i + 1, hp, h, hn => by
    simp only [List.take_succ_cons, List.all_cons, Bool.and_eq_true, beq_iff_eq] at hp
    simp only [firstNZ, hp.1, if_true, List.getElem_cons_succ]
    exact firstNZ_at hp.2 (by simpa using h) (by simpa using hn)
theorem firstNZ_all : ∀ {l : List Int}, l.all (· == 0) = true → firstNZ l = 0
  | [], _ => rfl
  | a :: r, hp => by
    simp only [List.all_cons, Bool.and_eq_true, beq_iff_eq] at hp
    simp only [firstNZ, hp.1, if_true]
    exact firstNZ_all hp.2
def cmpL (a b : Entry) : List Int := [Lib.compareBytes a.key b.key, cmpI a.time b.time, Lib.compareBytes a.file b.file, cmpI a.lo b.lo]
def cmpE (a b : Entry) : Int := firstNZ (cmpL a b)

theorem cmp_Or (l : List Int) : ACalls Tryz.prog 53 [.one (.list 1 (l.map intRow))] (.x (.one (.int .i64 (firstNZ l)))) := by
  refine ACalls.of mixed (fn := Tryz.f53) (by kernel_rfl) (by kernel_rfl) rfl (by kernel_rfl) (by simp [Tryz.f53]) (fun hok => ?_)
  have hl : l.length ≤ maxLen := by have := hok _ List.mem_cons_self; simp [XV.ok, CV.ok] at this; exact this.1
  simp -implicitDefEqProofs +contextual [-Bool.and_eq_false_imp, Bool.and_eq_false_iff]
  refine ALoopS.of Nat (fun i => [(3, .x (.one (.int .i64 0))), (6, .x (.one (.list 1 (l.map intRow)))), (7, .x (.one (.int .i64 l.length))), (8, .x (.one (.int .i64 i)))]) (Upto (· == 0) l) (fun i => l.length - i) 0 Upto.zero ?_ ?_
  · simp
  intro i hi
  by_cases hlt : i < l.length
  · simp -implicitDefEqProofs +contextual [-Bool.and_eq_false_imp, Bool.and_eq_false_iff, hlt, intRow]
    refine ⟨fun h => firstNZ_at hi.2 hlt h, fun h => Again.of (i + 1) (hi.step hlt (by simp [h])) (by omega) ?_⟩
    simp
    exact wrapS _ (by unfold maxLen at hl; omega)
  · simp -implicitDefEqProofs +contextual [-Bool.and_eq_false_imp, Bool.and_eq_false_iff, hlt]
    exact firstNZ_all (hi.done hlt)

theorem index_compare (a b : Entry) : ACalls Tryz.prog 82 [.agg a.row, .agg b.row] (.x (.one (.int .i64 (cmpE a b)))) := by
  refine ACalls.of mixed (fn := Tryz.f82) (by kernel_rfl) (by kernel_rfl) rfl (by kernel_rfl) (by simp [Tryz.f82]) (fun hok => ?_)
  simp -implicitDefEqProofs +contextual [-Bool.and_eq_false_imp, Bool.and_eq_false_iff, Entry.row]
  refine ACallK.of (strings_Compare _ _) ?_
  simp -implicitDefEqProofs +contextual [-Bool.and_eq_false_imp, Bool.and_eq_false_iff]
  refine ACallK.of (cmp_Compare _ _) ?_
  simp -implicitDefEqProofs +contextual [-Bool.and_eq_false_imp, Bool.and_eq_false_iff]
  refine ACallK.of (strings_Compare _ _) ?_
  simp -implicitDefEqProofs +contextual [-Bool.and_eq_false_imp, Bool.and_eq_false_iff]
  refine ACallK.of (cmp_Compare _ _) ?_
  simp -implicitDefEqProofs +contextual [-Bool.and_eq_false_imp, Bool.and_eq_false_iff]
  refine ACallK.of (cmp_Or (cmpL a b)) ?_
  simp -implicitDefEqProofs +contextual [-Bool.and_eq_false_imp, Bool.and_eq_false_iff]
  rfl

theorem ref8_Compare (a b : Entry) : ACalls Tryz.prog 89 [.agg a.row, .agg b.row] (.x (.one (.int .i64 (cmpE a b)))) := by
  refine ACalls.of mixed (fn := Tryz.f89) (by kernel_rfl) (by kernel_rfl) rfl (by kernel_rfl) (by simp [Tryz.f89]) (fun hok => ?_)
  simp -implicitDefEqProofs +contextual [-Bool.and_eq_false_imp, Bool.and_eq_false_iff, Entry.row]
  refine ACallK.of (ref8_order _ _) ?_
  simp -implicitDefEqProofs +contextual [-Bool.and_eq_false_imp, Bool.and_eq_false_iff]
  refine ACallK.of (ref8_number _ _) ?_
  simp -implicitDefEqProofs +contextual [-Bool.and_eq_false_imp, Bool.and_eq_false_iff]
  refine ACallK.of (ref8_order _ _) ?_
  simp -implicitDefEqProofs +contextual [-Bool.and_eq_false_imp, Bool.and_eq_false_iff]
  refine ACallK.of (ref8_number _ _) ?_
  simp -implicitDefEqProofs +contextual [-Bool.and_eq_false_imp, Bool.and_eq_false_iff]
  obtain ⟨l, el⟩ : ∃ l, l = cmpL a b := ⟨_, rfl⟩
  have h4 : l.length = 4 := by rw [el]; rfl
  refine ALoopS.of Nat (fun i => [(29, .own 3 1 (l.map intRow)), (30, .x (.one (.int .i64 4))), (31, .x (.one (.int .i64 i)))]) (Upto (· == 0) l) (fun i => l.length - i) 0 Upto.zero ?_ ?_
  · simp [el, cmpL, intRow]
  have e : cmpE a b = firstNZ l := by rw [el]; rfl
  rw [e]
  clear el e
  intro i hi
  by_cases hlt : i < l.length
  · have hlt4 : (i : Int) < 4 := by omega
    simp -implicitDefEqProofs +contextual [-Bool.and_eq_false_imp, Bool.and_eq_false_iff, hlt, hlt4, intRow]
    refine ⟨fun h => firstNZ_at hi.2 hlt h, fun h => Again.of (i + 1) (hi.step hlt (by simp [h])) (by omega) ?_⟩
    simp
    exact wrapS _ (by omega)
  · have hlt4 : ¬ (i : Int) < 4 := by omega
    simp -implicitDefEqProofs +contextual [-Bool.and_eq_false_imp, Bool.and_eq_false_iff, hlt, hlt4]
    exact firstNZ_all (hi.done hlt)
end Go.Proofs.YtklnopamfncfgaaGreatDoor
namespace Go.Proofs.YtklnopamfncfgaaGreatDoor
open Go Go.Ab
set_option linter.unusedSectionVars false
variable [Amb]
set_option maxRecDepth 100000
set_option maxHeartbeats 4000000

def entryF (e : Entry) : Int :=
  if keyB e.key = false then 3
  else if momentB e.time = false ∨ (e.status ≠ 0 ∧ inB 100 599 e.status = false) then 1
  else if e.type ≠ [] ∧ wordB e.type 40 = false then 3
  else if digestB e.digest = false then 3
  else if nameB e.file = false then 5
  else if inB 0 500000 e.lo = false ∨ inB e.lo 500000 e.hi = false then 1
  else 0

theorem digest_trim (l : List UInt8) : (digestB l = false) ↔ (l.length ≠ 16 ∨ Lib.trimS l hexCs ≠ []) := by
  have e := trimS_nil l hexCs
  simp only [hexCs_eq] at e
  unfold digestB
  cases hb : l.all hexB with
  | true => simp [e.2 hb]
  | false =>
    have : Lib.trimS l hexCs ≠ [] := fun h => by rw [e.1 h] at hb; cases hb
    simp [this]

theorem index_checkEntry (e : Entry) : ACalls Tryz.prog 81 [.agg e.row] (.x (.one (.int .i64 (entryF e)))) := by
  refine ACalls.of mixed (fn := Tryz.f81) (by kernel_rfl) (by kernel_rfl) rfl (by kernel_rfl) (by simp [Tryz.f81]) (fun hok => ?_)
  have ed := digest_trim e.digest
  generalize hF : entryF e = F
  unfold entryF at hF
  simp -implicitDefEqProofs +contextual [-Bool.and_eq_false_imp, Bool.and_eq_false_iff, Entry.row]
  refine ACallK.of (isKey _) ?_
  simp -implicitDefEqProofs +contextual [-Bool.and_eq_false_imp, Bool.and_eq_false_iff]
  refine ⟨fun h => ?_, fun h1 => ?_⟩
  · rw [← hF, if_pos h]
  rw [if_neg (by simp [h1])] at hF
  refine ACallK.of (isMoment _) ?_
  simp -implicitDefEqProofs +contextual [-Bool.and_eq_false_imp, Bool.and_eq_false_iff]
  refine ACallGS.of (fun _ => index_within _ _ _) rfl ?_
  simp -implicitDefEqProofs +contextual [-Bool.and_eq_false_imp, Bool.and_eq_false_iff]
  refine ⟨fun h => ?_, fun h2 h3 => ACallGS.of (fun _ => isWord _ _) rfl ?_⟩
  · rw [← hF, if_pos h]
  rw [if_neg (by simp [h2]; exact fun a => h3.resolve_left a)] at hF
  simp -implicitDefEqProofs +contextual [-Bool.and_eq_false_imp, Bool.and_eq_false_iff]
  refine ⟨fun h4 h5 => ?_, fun h4 => ACallGS.of (fun _ => strings_Trim _ hexCs (by decide) (by decide)) rfl ?_⟩
  · rw [← hF, if_pos ⟨h4, h5⟩]
  rw [if_neg (by rintro ⟨a, b⟩; rcases h4 with h4 | h4 <;> simp_all)] at hF
  simp -implicitDefEqProofs +contextual [-Bool.and_eq_false_imp, Bool.and_eq_false_iff]
  have h16 : ((e.digest.length : Int) = 16) ↔ (e.digest.length = 16) := by omega
  refine ⟨fun h => ?_, fun h5 h6 => ACallK.of (isName _) ?_⟩
  · rw [← hF, if_pos (ed.2 (by rcases h with h | h; exact .inl (fun a => h (h16.2 a)); exact .inr h))]
  rw [if_neg (fun h => by rcases ed.1 h with h | h; exact h (h16.1 h5); exact h h6)] at hF
  simp -implicitDefEqProofs +contextual [-Bool.and_eq_false_imp, Bool.and_eq_false_iff]
  refine ⟨fun h => ?_, fun h7 => ACallK.of (index_within _ _ _) ?_⟩
  · rw [← hF, if_pos h]
  rw [if_neg (by simp [h7])] at hF
  simp -implicitDefEqProofs +contextual [-Bool.and_eq_false_imp, Bool.and_eq_false_iff]
  refine ACallGS.of (fun _ => index_within _ _ _) rfl ?_
  simp -implicitDefEqProofs +contextual [-Bool.and_eq_false_imp, Bool.and_eq_false_iff]
  refine ⟨fun h => ?_, fun h8 h9 => ?_⟩
  · rw [← hF, if_pos h]
  · rw [← hF, if_neg (by simp [h8, h9])]

theorem ref8_checkEntry (e : Entry) : ACalls Tryz.prog 88 [.agg e.row] (.x (.one (.int .i64 (entryF e)))) := by
  refine ACalls.of mixed (fn := Tryz.f88) (by kernel_rfl) (by kernel_rfl) rfl (by kernel_rfl) (by simp [Tryz.f88]) (fun hok => ?_)
  have ew : (e.type ≠ [] ∧ wordB e.type 40 = false) ↔ ((40 : Int) < e.type.length ∨ plainB e.type = false) := by
    unfold wordB inB
    cases e.type with
    | nil => simp [plainB]
    | cons a r => cases plainB (a :: r) <;> simp <;> omega
  generalize hF : entryF e = F
  unfold entryF at hF
  simp -implicitDefEqProofs +contextual [-Bool.and_eq_false_imp, Bool.and_eq_false_iff, Entry.row]
  refine ACallK.of (ref8_isKey _) ?_
  simp -implicitDefEqProofs +contextual [-Bool.and_eq_false_imp, Bool.and_eq_false_iff]
  refine ⟨fun h => ?_, fun h1 => ?_⟩
  · rw [← hF, if_pos h]
  rw [if_neg (by simp [h1])] at hF
  refine ACallK.of (ref8_within _ _ _) ?_
  simp -implicitDefEqProofs +contextual [-Bool.and_eq_false_imp, Bool.and_eq_false_iff]
  refine ACallGS.of (fun _ => ref8_within _ _ _) rfl ?_
  simp -implicitDefEqProofs +contextual [-Bool.and_eq_false_imp, Bool.and_eq_false_iff]
  refine ⟨fun h => ?_, fun h2 h3 => ACallGS.of (fun _ => ref8_plain _) rfl ?_⟩
  · rw [← hF]; exact if_pos h
  rw [if_neg (by rw [show momentB e.time = true from h2]; simp; exact fun a => h3.resolve_left a)] at hF
  simp -implicitDefEqProofs +contextual [-Bool.and_eq_false_imp, Bool.and_eq_false_iff]
  refine ACallGS.of (fun _ => ref8_isDigest _) rfl ?_
  simp -implicitDefEqProofs +contextual [-Bool.and_eq_false_imp, Bool.and_eq_false_iff]
  refine ⟨fun h => ?_, fun h4 h4' h5 => ACallK.of (ref6_isName _) ?_⟩
  · rw [← hF]
    by_cases hw : e.type ≠ [] ∧ wordB e.type 40 = false
    · rw [if_pos hw]
    · rw [if_neg hw, if_pos (h.resolve_left (fun a => hw (ew.2 a)))]
  rw [if_neg (fun a => by rcases ew.1 a with h | h; omega; rw [h4'] at h; cases h), if_neg (by simp [h5])] at hF
  simp -implicitDefEqProofs +contextual [-Bool.and_eq_false_imp, Bool.and_eq_false_iff]
  refine ⟨fun h => ?_, fun h7 => ACallK.of (ref8_within _ _ _) ?_⟩
  · rw [← hF, if_pos h]
  rw [if_neg (by simp [h7])] at hF
  simp -implicitDefEqProofs +contextual [-Bool.and_eq_false_imp, Bool.and_eq_false_iff]
  refine ACallGS.of (fun _ => ref8_within _ _ _) rfl ?_
  simp -implicitDefEqProofs +contextual [-Bool.and_eq_false_imp, Bool.and_eq_false_iff]
  refine ⟨fun h => ?_, fun h8 h9 => ?_⟩
  · rw [← hF, if_pos h]
  · rw [← hF, if_neg (by simp [h8, h9])]

/-! ### The error of entries -/
def pairF : Option Entry → List Entry → Int
  | _, [] => 0
  | none, e :: r => if entryF e = 0 then pairF (some e) r else entryF e
  | some q, e :: r => if entryF e = 0 then (if 0 < cmpE q e then 8 else if cmpE q e = 0 then 7 else pairF (some e) r) else entryF e
def entriesF (l : List Entry) : Int := if 3000 < l.length then 2 else pairF none l
def prev (l : List Entry) (i : Nat) : Option Entry := if i = 0 then none else l[i - 1]?
def PairOk (l : List Entry) (i : Nat) : Prop := i ≤ l.length ∧ pairF none l = pairF (prev l i) (l.drop i)
theorem PairOk.zero {l : List Entry} : PairOk l 0 := ⟨Nat.zero_le _, rfl⟩
theorem PairOk.at {l : List Entry} {i : Nat} (h : PairOk l i) (hlt : i < l.length) : pairF none l = pairF (prev l i) (l[i] :: l.drop (i + 1)) := by
  rw [h.2, List.drop_eq_getElem_cons hlt]
theorem prev_succ {l : List Entry} {i : Nat} (hlt : i < l.length) : prev l (i + 1) = some l[i] := by
  simp [prev, hlt]
theorem PairOk.done {l : List Entry} {i : Nat} (h : PairOk l i) (hge : ¬ i < l.length) : pairF none l = 0 := by
  rw [h.2, List.drop_eq_nil_of_le (by omega)]
  cases prev l i <;> rfl

theorem index_checkEntries (l : List Entry) : ACalls Tryz.prog 36 [.one (.list 9 (l.map Entry.row))] (.x (.one (.int .i64 (entriesF l)))) := by
  refine ACalls.of mixed (fn := Tryz.f36) (by kernel_rfl) (by kernel_rfl) rfl (by kernel_rfl) (by simp [Tryz.f36]) (fun hok => ?_)
  simp -implicitDefEqProofs +contextual [-Bool.and_eq_false_imp, Bool.and_eq_false_iff]
  refine ⟨fun h => ?_, fun h => ?_⟩
  · unfold entriesF; rw [if_pos (by omega)]
  have hv : entriesF l = pairF none l := by unfold entriesF; rw [if_neg (by omega)]
  rw [hv]
  refine ALoopS.of Nat (fun i => [(0, .x (.one (.list 9 (l.map Entry.row)))), (10, .x (.one (.list 9 (l.map Entry.row)))), (11, .x (.one (.int .i64 l.length))), (12, .x (.one (.int .i64 i)))]) (PairOk l) (fun i => l.length - i) 0 PairOk.zero ?_ ?_
  · simp
  intro i hi
  by_cases hlt : i < l.length
  · have hat := hi.at hlt
    simp -implicitDefEqProofs +contextual [-Bool.and_eq_false_imp, Bool.and_eq_false_iff, hlt, Entry.row]
    refine ACallK.of (index_checkEntry l[i]) ?_
    simp -implicitDefEqProofs +contextual [-Bool.and_eq_false_imp, Bool.and_eq_false_iff]
    refine ⟨fun hf => ?_, fun hf => ⟨fun hpos => ?_, fun hz => ?_⟩⟩
    · rw [hat]
      unfold pairF
      cases prev l i <;> simp [hf]
    · have hw : IntKind.i64.wrap ((i : Int) - 1) = ((i - 1 : Nat) : Int) := by rw [wrapS _ (by omega)]; omega
      have hlt1 : i - 1 < l.length := by omega
      have hp : prev l i = some l[i - 1] := by simp [prev, hlt1]; omega
      rw [hp] at hat
      simp only [pairF, hf, if_true] at hat
      simp -implicitDefEqProofs +contextual [-Bool.and_eq_false_imp, Bool.and_eq_false_iff, hw, hlt1, Entry.row]
      refine ACallK.of (index_compare l[i - 1] l[i]) ?_
      simp -implicitDefEqProofs +contextual [-Bool.and_eq_false_imp, Bool.and_eq_false_iff]
      refine ⟨fun h1 => ?_, fun h1 => ⟨fun h2 => ?_, fun h2 => ?_⟩⟩
      · rw [hat, if_pos h1]
      · rw [hat, if_neg (by omega), if_pos h2]
      · rw [if_neg (by omega), if_neg h2] at hat
        refine Again.of (i + 1) ⟨hlt, by rw [hat, prev_succ hlt]⟩ (by omega) ?_
        simp
        exact wrapS _ (by omega)
    · subst hz
      refine Again.of 1 ⟨hlt, ?_⟩ (by omega) ?_
      · rw [hat, prev_succ hlt]
        simp [prev, pairF, hf]
      · simp
        exact wrapS _ (by omega)
  · simp -implicitDefEqProofs [hlt]
    exact hi.done hlt

theorem ref8_checkEntries (l : List Entry) : ACalls Tryz.prog 42 [.one (.list 9 (l.map Entry.row))] (.x (.one (.int .i64 (entriesF l)))) := by
  refine ACalls.of mixed (fn := Tryz.f42) (by kernel_rfl) (by kernel_rfl) rfl (by kernel_rfl) (by simp [Tryz.f42]) (fun hok => ?_)
  simp -implicitDefEqProofs +contextual [-Bool.and_eq_false_imp, Bool.and_eq_false_iff]
  refine ⟨fun h => ?_, fun h => ?_⟩
  · unfold entriesF; rw [if_pos (by omega)]
  have hv : entriesF l = pairF none l := by unfold entriesF; rw [if_neg (by omega)]
  rw [hv]
  refine ALoopS.of Nat (fun i => [(0, .x (.one (.list 9 (l.map Entry.row)))), (3, .x (.one (.int .i64 i)))]) (PairOk l) (fun i => l.length - i) 0 PairOk.zero ?_ ?_
  · simp
  intro i hi
  by_cases hlt : i < l.length
  · have hat := hi.at hlt
    simp -implicitDefEqProofs +contextual [-Bool.and_eq_false_imp, Bool.and_eq_false_iff, hlt, Entry.row]
    refine ACallK.of (ref8_checkEntry l[i]) ?_
    simp -implicitDefEqProofs +contextual [-Bool.and_eq_false_imp, Bool.and_eq_false_iff]
    refine ⟨fun hf => ?_, fun hf => ⟨fun hz => ?_, fun hpos => ?_⟩⟩
    · rw [hat]
      unfold pairF
      cases prev l i <;> simp [hf]
    · subst hz
      refine Again.of 1 ⟨hlt, ?_⟩ (by omega) ?_
      · rw [hat, prev_succ hlt]
        simp [prev, pairF, hf]
      · simp
        exact wrapS _ (by omega)
    · have hw : IntKind.i64.wrap ((i : Int) - 1) = ((i - 1 : Nat) : Int) := by rw [wrapS _ (by omega)]; omega
      have hlt1 : i - 1 < l.length := by omega
      have hp : prev l i = some l[i - 1] := by simp [prev, hlt1]; omega
      rw [hp] at hat
      simp only [pairF, hf, if_true] at hat
      simp -implicitDefEqProofs +contextual [-Bool.and_eq_false_imp, Bool.and_eq_false_iff, hw, hlt1, hlt, Entry.row]
      refine ACallK.of (ref8_Compare l[i - 1] l[i]) ?_
      simp -implicitDefEqProofs +contextual [-Bool.and_eq_false_imp, Bool.and_eq_false_iff]
      refine ⟨fun h1 => ?_, fun h1 => ⟨fun h2 => ?_, fun h2 => ?_⟩⟩
      · rw [hat, if_pos h1]
      · rw [hat, if_neg (by omega), if_pos h2]
      · rw [if_neg (by omega), if_neg h2] at hat
        refine Again.of (i + 1) ⟨hlt, by rw [hat, prev_succ hlt]⟩ (by omega) ?_
        simp
        exact wrapS _ (by omega)
  · simp -implicitDefEqProofs [hlt]
    exact hi.done hlt
end Go.Proofs.YtklnopamfncfgaaGreatDoor
