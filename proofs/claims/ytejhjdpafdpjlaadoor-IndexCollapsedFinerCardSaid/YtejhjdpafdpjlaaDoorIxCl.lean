/- A part of the proof: lemmas and contracts of functions. -/
import Derived.Test.YtejhjdpafdpjlaaDoorIxT
import Derived.Test.YtejhjdpafdpjlaaDoorIxCal
namespace Go.Proofs.YtejhjdpafdpjlaaDoor
open Go Go.Ab
set_option linter.unusedSectionVars false
variable [Amb]
set_option maxRecDepth 100000

/-! ### The first entries of those alike, for any likeness -/
def keepsF (f : Entry → List UInt8) : Option Entry → Entry → Bool
  | none, _ => true
  | some q, e => decide (q.key ≠ e.key) || decide (f q ≠ f e)
def firstsF (f : Entry → List UInt8) : Option Entry → List Entry → List Entry
  | _, [] => []
  | p, e :: r => if keepsF f p e = true then e :: firstsF f (some e) r else firstsF f (some e) r
theorem firstsF_append (f : Entry → List UInt8) : ∀ (a b : List Entry) (p : Option Entry), firstsF f p (a ++ b) = firstsF f p a ++ firstsF f (lastO p a) b
  | [], b, p => rfl
  | e :: r, b, p => by
    simp only [List.cons_append, firstsF, lastO]
    rw [firstsF_append f r b]
    split <;> rfl
theorem firstsF_snoc (f : Entry → List UInt8) (a : List Entry) (x : Entry) (p : Option Entry) : firstsF f p (a ++ [x]) = firstsF f p a ++ (if keepsF f (lastO p a) x = true then [x] else []) := by
  rw [firstsF_append]
  congr 1
theorem firstsF_sub (f : Entry → List UInt8) : ∀ (l : List Entry) (p : Option Entry), (firstsF f p l).Sublist l
  | [], p => List.Sublist.slnil
  | e :: r, p => by
    unfold firstsF
    split
    · exact (firstsF_sub f r _).cons_cons e
    · exact (firstsF_sub f r _).cons e
theorem firstsF_alike {f : Entry → List UInt8} {p q : Option Entry} (h : ∀ e, keepsF f p e = keepsF f q e) (l : List Entry) : firstsF f p l = firstsF f q l := by
  cases l with
  | nil => rfl
  | cons e r => simp only [firstsF, h e]
theorem alikeF_of {f : Entry → List UInt8} {p : Option Entry} {e : Entry} (h : ¬ keepsF f p e = true) : ∀ x, keepsF f p x = keepsF f (some e) x := by
  cases p with
  | none => exact absurd rfl h
  | some q =>
    simp [keepsF] at h
    intro x
    simp only [keepsF, h.1, h.2]
theorem firstsF_twice (f : Entry → List UInt8) : ∀ (l : List Entry) (p : Option Entry), firstsF f p (firstsF f p l) = firstsF f p l
  | [], p => rfl
  | e :: r, p => by
    by_cases h : keepsF f p e = true
    · rw [show firstsF f p (e :: r) = e :: firstsF f (some e) r by simp [firstsF, h]]
      rw [show firstsF f p (e :: firstsF f (some e) r) = e :: firstsF f (some e) (firstsF f (some e) r) by simp [firstsF, h]]
      rw [firstsF_twice f r]
    · rw [show firstsF f p (e :: r) = firstsF f (some e) r by simp [firstsF, h]]
      rw [firstsF_alike (alikeF_of h), firstsF_twice f r]
/-- A finer likeness keeps more. -/
theorem firstsF_finer {f g : Entry → List UInt8} (h : ∀ a b, g a = g b → f a = f b) : ∀ (l : List Entry) (p : Option Entry), (firstsF f p l).length ≤ (firstsF g p l).length
  | [], _ => Nat.le_refl _
  | e :: r, p => by
    have ih := firstsF_finer h r (some e)
    have hk : keepsF f p e = true → keepsF g p e = true := by
      cases p with
      | none => intro _; rfl
      | some q =>
        simp only [keepsF, Bool.or_eq_true, decide_eq_true_eq]
        rintro (h1 | h1)
        · exact Or.inl h1
        · exact Or.inr fun h2 => h1 (h _ _ h2)
    unfold firstsF
    by_cases h1 : keepsF f p e = true
    · rw [if_pos h1, if_pos (hk h1)]; simp only [List.length_cons]; omega
    · rw [if_neg h1]; split
      · simp only [List.length_cons]; omega
      · exact ih
/-- Of what stays whole each differs from the one ahead of it. -/
theorem firstsF_next (f : Entry → List UInt8) : ∀ (l : List Entry) (p : Option Entry), firstsF f p l = l → ∀ i, (h : i + 1 < l.length) → keepsF f (some l[i]) l[i + 1] = true
  | [], _, _, _, h => by simp at h
  | e :: r, p, he, i, h => by
    have hr : firstsF f (some e) r = r := by
      unfold firstsF at he
      split at he
      · injection he
      · have := (firstsF_sub f r (some e)).length_le
        rw [he] at this; simp at this; omega
    cases i with
    | zero =>
      match r, h, hr with
      | x :: s, _, hr =>
        simp only [List.getElem_cons_zero, List.getElem_cons_succ]
        by_cases hk : keepsF f (some e) x = true
        · exact hk
        · exfalso
          unfold firstsF at hr
          rw [if_neg hk] at hr
          have := (firstsF_sub f s (some x)).length_le
          rw [hr] at this; simp at this; omega
    | succ i => exact firstsF_next f r (some e) hr i (by simpa using h)
def stampF (d : Int) (e : Entry) : List UInt8 := (stampL e.time).take d.toNat
def collE (l : List Entry) (d : Int) : Int := if entriesF l = 0 then (if 1 ≤ d ∧ d ≤ 14 then 0 else 1) else entriesF l
def collL (l : List Entry) (d : Int) : List Entry := if collE l d = 0 then firstsF (stampF d) none l else []
theorem firstsF_le (f : Entry → List UInt8) (l : List Entry) (i : Nat) (h : l.length ≤ 3000) : (firstsF f none (l.take i)).length ≤ 3000 := by
  have := (firstsF_sub f (l.take i) none).length_le
  rw [List.length_take] at this; omega
theorem lastO_take (l : List Entry) (i : Nat) (h0 : i ≠ 0) (hlt : i < l.length) : ∃ h : i - 1 < l.length, lastO none (l.take i) = some l[i - 1] := by
  have hi1 : i - 1 < l.length := by omega
  refine ⟨hi1, ?_⟩
  rw [lastO_eq _ _ (by rw [ne_eq, List.take_eq_nil_iff]; rintro (h | h); exact h0 h; rw [h] at hlt; cases hlt), List.length_take, Nat.min_eq_left (by omega), List.getElem?_take_of_lt (by omega), List.getElem?_eq_getElem hi1]
theorem entry_moment {e : Entry} (h : entryF e = 0) : momentB e.time = true := by
  unfold entryF at h
  split at h
  · cases h
  split at h
  · cases h
  rename_i h1
  cases hm : momentB e.time with
  | true => rfl
  | false => exact absurd (Or.inl hm) h1
end Go.Proofs.YtejhjdpafdpjlaaDoor
