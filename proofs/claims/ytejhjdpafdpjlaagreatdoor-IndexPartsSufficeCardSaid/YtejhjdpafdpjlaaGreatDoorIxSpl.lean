/- A part of the proof: lemmas and contracts of functions. -/
import Derived.Lib.Split
namespace Go.Proofs.YtejhjdpafdpjlaaGreatDoor
open Go

/-! ### Strings divided at a byte -/
def befC (c : UInt8) (s : List UInt8) : List UInt8 := s.takeWhile (· != c)
def aftC (c : UInt8) (s : List UInt8) : List UInt8 := s.drop ((befC c s).length + 1)
theorem befC_nil (c : UInt8) : befC c [] = [] := rfl
theorem befC_hit (c : UInt8) (r : List UInt8) : befC c (c :: r) = [] := by simp [befC]
theorem befC_miss {b c : UInt8} (h : b ≠ c) (r : List UInt8) : befC c (b :: r) = b :: befC c r := by simp [befC, h]
theorem aftC_hit (c : UInt8) (r : List UInt8) : aftC c (c :: r) = r := by simp [aftC, befC_hit]
theorem aftC_miss {b c : UInt8} (h : b ≠ c) (r : List UInt8) : aftC c (b :: r) = aftC c r := by simp [aftC, befC_miss h]
theorem befC_not (c : UInt8) (s : List UInt8) : c ∉ befC c s := by
  induction s with
  | nil => simp [befC]
  | cons b r ih =>
    by_cases h : b = c
    · subst h; simp [befC_hit]
    · rw [befC_miss h]; simp only [List.mem_cons, not_or]; exact ⟨fun e => h e.symm, ih⟩
theorem befC_all {c : UInt8} {s : List UInt8} (h : c ∉ s) : befC c s = s := by
  induction s with
  | nil => rfl
  | cons b r ih =>
    simp only [List.mem_cons, not_or] at h
    rw [befC_miss (fun e => h.1 e.symm), ih h.2]
theorem befC_aft {c : UInt8} {s : List UInt8} (h : c ∈ s) : s = befC c s ++ c :: aftC c s := by
  induction s with
  | nil => cases h
  | cons b r ih =>
    by_cases e : b = c
    · subst e; rw [befC_hit, aftC_hit]; rfl
    · rw [befC_miss e, aftC_miss e]
      have := ih ((List.mem_cons.1 h).resolve_left (fun x => e x.symm))
      rw [List.cons_append, ← this]
theorem befC_append {c : UInt8} {a r : List UInt8} (h : c ∉ a) : befC c (a ++ c :: r) = a := by
  induction a with
  | nil => exact befC_hit c r
  | cons b t ih =>
    simp only [List.mem_cons, not_or] at h
    rw [List.cons_append, befC_miss (fun e => h.1 e.symm), ih h.2]
theorem aftC_append {c : UInt8} {a r : List UInt8} (h : c ∉ a) : aftC c (a ++ c :: r) = r := by
  unfold aftC
  rw [befC_append h]
  simp
theorem aftC_len {c : UInt8} {s : List UInt8} (h : c ∈ s) : (aftC c s).length < s.length := by
  have := congrArg List.length (befC_aft h)
  simp at this; omega
theorem index_one (c : UInt8) : ∀ s : List UInt8, Lib.index s [c] = if c ∈ s then ((befC c s).length : Int) else -1
  | [] => by simp [Lib.index]
  | b :: r => by
    have ih := index_one c r
    unfold Lib.index
    by_cases h : b = c
    · subst h; simp [List.isPrefixOf, befC_hit]
    · have hp : ([c].isPrefixOf (b :: r)) = false := by simp [List.isPrefixOf]; exact fun e => h e.symm
      rw [hp, ih, befC_miss h]
      by_cases hm : c ∈ r
      · have hne : ¬ (((befC c r).length : Int) = -1) := by omega
        simp [hm, hne]
      · have : c ∉ b :: r := by simp [hm]; exact fun e => h e.symm
        simp [hm, this]
def splitC (c : UInt8) : List UInt8 → List (List UInt8)
  | [] => [[]]
  | b :: r => if b = c then [] :: splitC c r else match splitC c r with
    | h :: t => (b :: h) :: t
    | [] => [[b]]
theorem splitC_ne (c : UInt8) (s : List UInt8) : splitC c s ≠ [] := by
  cases s with
  | nil => simp [splitC]
  | cons b r =>
    unfold splitC
    split
    · simp
    · split <;> simp
theorem splitC_hit {c : UInt8} {s : List UInt8} (h : c ∈ s) : splitC c s = befC c s :: splitC c (aftC c s) := by
  induction s with
  | nil => cases h
  | cons b r ih =>
    by_cases e : b = c
    · subst e; rw [befC_hit, aftC_hit]; simp [splitC]
    · rw [befC_miss e, aftC_miss e, splitC, if_neg e, ih ((List.mem_cons.1 h).resolve_left (fun x => e x.symm))]
theorem splitC_miss {c : UInt8} {s : List UInt8} (h : c ∉ s) : splitC c s = [s] := by
  induction s with
  | nil => rfl
  | cons b r ih =>
    simp only [List.mem_cons, not_or] at h
    rw [splitC, if_neg (fun e => h.1 e.symm), ih h.2]
theorem splitC_cons {c : UInt8} {a r : List UInt8} (h : c ∉ a) : splitC c (a ++ c :: r) = a :: splitC c r := by
  rw [splitC_hit (by simp), befC_append h, aftC_append h]
theorem splitK_eq (c : UInt8) : ∀ (k : Nat) (s : List UInt8), s.count c ≤ k → Lib.splitK [c] 0 k s = splitC c s
  | 0, s, h => by
    have : c ∉ s := fun hm => by have := List.count_pos_iff.2 hm; omega
    rw [splitC_miss this]; rfl
  | k + 1, s, h => by
    unfold Lib.splitK
    rw [index_one]
    by_cases hm : c ∈ s
    · have hne : ¬ (((befC c s).length : Int) = -1) := by omega
      have e := befC_aft hm
      have hc : (aftC c s).count c ≤ k := by
        have := congrArg (List.count c) e
        rw [List.count_append, List.count_cons_self] at this
        omega
      rw [if_pos hm, splitC_hit hm, ← splitK_eq c k _ hc]
      have ht : s.take (befC c s).length = befC c s := by
        have := congrArg (List.take (befC c s).length) e
        rw [List.take_left' rfl] at this
        exact this
      simp [hne, ht, aftC]
    · rw [if_neg hm, splitC_miss hm]; rfl
theorem countFrom_one (c : UInt8) : ∀ (n : Nat) (s : List UInt8), s.length < n → Lib.countFrom [c] n s = s.count c
  | 0, s, h => by omega
  | n + 1, s, h => by
    unfold Lib.countFrom
    rw [index_one]
    by_cases hm : c ∈ s
    · have hne : ¬ (((befC c s).length : Int) = -1) := by omega
      have hl := aftC_len hm
      have e := congrArg (List.count c) (befC_aft hm)
      rw [List.count_append, List.count_cons_self, List.count_eq_zero_of_not_mem (befC_not c s)] at e
      have ih := countFrom_one c n (aftC c s) (by omega)
      unfold aftC at ih e
      simp [hm, hne, ih]; omega
    · simp [hm, List.count_eq_zero_of_not_mem hm]
theorem split_one (c : UInt8) (s : List UInt8) : Lib.split s [c] = splitC c s := by
  unfold Lib.split Lib.count
  rw [countFrom_one c _ _ (by omega)]
  exact splitK_eq c _ s (Nat.le_refl _)
theorem cut_one (c : UInt8) (s : List UInt8) : Lib.cut s [c] = if c ∈ s then (befC c s, aftC c s, true) else (s, [], false) := by
  unfold Lib.cut
  rw [index_one]
  by_cases hm : c ∈ s
  · have ht : s.take (befC c s).length = befC c s := by
      have := congrArg (List.take (befC c s).length) (befC_aft hm)
      rw [List.take_left' rfl] at this
      exact this
    simp [hm, ht, aftC]
  · simp [hm]
/-! ### Joined again -/
theorem splitC_parts {c : UInt8} : ∀ {s : List UInt8}, ∀ x ∈ splitC c s, c ∉ x
  | [], x, hx => by simp [splitC] at hx; subst hx; simp
  | b :: r, x, hx => by
    have ih := splitC_parts (c := c) (s := r)
    rw [splitC] at hx
    split at hx
    · rcases List.mem_cons.1 hx with rfl | hx
      · simp
      · exact ih x hx
    · rename_i hb
      split at hx
      · rename_i h t e
        rw [e] at ih
        rcases List.mem_cons.1 hx with rfl | hx
        · simp only [List.mem_cons, not_or]
          exact ⟨fun e => hb e.symm, ih h (by simp)⟩
        · exact ih x (by simp [hx])
      · simp at hx; subst hx; simp; exact fun e => hb e.symm
def joinC (c : UInt8) : List (List UInt8) → List UInt8
  | [] => []
  | [a] => a
  | a :: b :: r => a ++ c :: joinC c (b :: r)
theorem join_split (c : UInt8) (s : List UInt8) : joinC c (splitC c s) = s := by
  induction s with
  | nil => rfl
  | cons b r ih =>
    rw [splitC]
    cases hs : splitC c r with
    | nil => exact absurd hs (splitC_ne c r)
    | cons h t =>
      rw [hs] at ih
      split
      · rename_i e
        subst e
        simp [joinC, ih]
      · cases t with
        | nil => simp [joinC] at ih ⊢; exact ih
        | cons h2 t2 => simp [joinC] at ih ⊢; exact ih
theorem split_join (c : UInt8) : ∀ (w : List (List UInt8)), w ≠ [] → (∀ x ∈ w, c ∉ x) → splitC c (joinC c w) = w
  | [], h, _ => absurd rfl h
  | [a], _, h => splitC_miss (h a (by simp))
  | a :: b :: r, _, h => by
    rw [joinC, splitC_cons (h a (by simp)), split_join c (b :: r) (by simp) (fun x hx => h x (by simp at hx ⊢; exact .inr hx))]
end Go.Proofs.YtejhjdpafdpjlaaGreatDoor
