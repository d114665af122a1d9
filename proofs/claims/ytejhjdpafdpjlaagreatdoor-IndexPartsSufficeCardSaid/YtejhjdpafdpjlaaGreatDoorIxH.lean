/- A part of the proof: lemmas and contracts of functions. -/
import Derived.Test.YtejhjdpafdpjlaaGreatDoorIxF
namespace Go.Proofs.YtejhjdpafdpjlaaGreatDoor
open Go Go.Ab
set_option linter.unusedSectionVars false
variable [Amb]

/-! ### The order of strings and of entries -/
theorem ltB_irrefl : ∀ a : List UInt8, ltB a a = false
  | [] => rfl
  | a :: x => by
    have ih := ltB_irrefl x
    unfold ltB at ih ⊢
    simp [Op.bytesLess, ih]
theorem ltB_trans : ∀ {a b c : List UInt8}, ltB a b = true → ltB b c = true → ltB a c = true
  | a, b, [], _, h2 => by unfold ltB at h2; cases b <;> simp [Op.bytesLess] at h2
  | a, [], c :: z, h1, _ => by unfold ltB at h1; cases a <;> simp [Op.bytesLess] at h1
  | [], b :: y, c :: z, _, _ => by simp [ltB, Op.bytesLess]
  | a :: x, b :: y, c :: z, h1, h2 => by
    have ih := @ltB_trans x y z
    unfold ltB at h1 h2 ih ⊢
    simp only [Op.bytesLess, Bool.or_eq_true, decide_eq_true_eq, Bool.and_eq_true, beq_iff_eq] at h1 h2 ⊢
    rcases h1 with h1 | ⟨rfl, h1⟩
    · rcases h2 with h2 | ⟨rfl, h2⟩
      · exact .inl (UInt8.lt_trans h1 h2)
      · exact .inl h1
    · rcases h2 with h2 | ⟨rfl, h2⟩
      · exact .inl h2
      · exact .inr ⟨rfl, ih h1 h2⟩
theorem ltB_total : ∀ {a b : List UInt8}, ltB a b = false → ltB b a = false → a = b
  | [], [], _, _ => rfl
  | [], b :: y, h, _ => by simp [ltB, Op.bytesLess] at h
  | a :: x, [], _, h => by simp [ltB, Op.bytesLess] at h
  | a :: x, b :: y, h1, h2 => by
    have ih := @ltB_total x y
    unfold ltB at h1 h2 ih
    simp only [Op.bytesLess, Bool.or_eq_false_iff, decide_eq_false_iff_not] at h1 h2
    have hab : a = b := UInt8.le_antisymm (UInt8.not_lt.1 h2.1) (UInt8.not_lt.1 h1.1)
    subst hab
    simp only [BEq.rfl, Bool.true_and] at h1 h2
    rw [ih h1.2 h2.2]
theorem ltB_asymm {a b : List UInt8} (h : ltB a b = true) : ltB b a = false := by
  cases hb : ltB b a with
  | false => rfl
  | true => have := ltB_trans h hb; rw [ltB_irrefl] at this; cases this
theorem cmpB_neg {a b : List UInt8} : Lib.compareBytes a b < 0 ↔ ltB a b = true := by
  rw [cmpB_eq]
  split
  · simp [*]
  · rename_i h
    split <;> simp [h]
theorem cmpB_zero {a b : List UInt8} : Lib.compareBytes a b = 0 ↔ a = b := by
  rw [cmpB_eq]
  split
  · rename_i h
    simp
    rintro rfl
    rw [ltB_irrefl] at h; cases h
  · split <;> simp [*]
theorem cmpB_pos {a b : List UInt8} : 0 < Lib.compareBytes a b ↔ ltB b a = true := by
  rw [cmpB_eq]
  split
  · rename_i h; simp [ltB_asymm h]
  · rename_i h
    split
    · rename_i h2; subst h2; simp [ltB_irrefl]
    · rename_i h2
      simp
      cases hb : ltB b a with
      | true => rfl
      | false => exact absurd (ltB_total (by simpa using h) hb) h2
theorem cmpI_neg {a b : Int} : cmpI a b < 0 ↔ a < b := by unfold cmpI; split <;> (try split) <;> omega
theorem cmpI_zero {a b : Int} : cmpI a b = 0 ↔ a = b := by unfold cmpI; split <;> (try split) <;> omega
theorem cmpI_pos {a b : Int} : 0 < cmpI a b ↔ b < a := by unfold cmpI; split <;> (try split) <;> omega

theorem firstNZ_lt {a b c d : Int} : firstNZ [a, b, c, d] < 0 ↔ a < 0 ∨ (a = 0 ∧ (b < 0 ∨ (b = 0 ∧ (c < 0 ∨ (c = 0 ∧ d < 0))))) := by
  simp only [firstNZ]
  split <;> (try split) <;> (try split) <;> (try split) <;> omega
theorem firstNZ_eq {a b c d : Int} : firstNZ [a, b, c, d] = 0 ↔ a = 0 ∧ b = 0 ∧ c = 0 ∧ d = 0 := by
  simp only [firstNZ]
  split <;> (try split) <;> (try split) <;> (try split) <;> omega
/-- a comes ahead of b. -/
def Before (a b : Entry) : Prop := ltB a.key b.key = true ∨ (a.key = b.key ∧ (a.time < b.time ∨ (a.time = b.time ∧ (ltB a.file b.file = true ∨ (a.file = b.file ∧ a.lo < b.lo)))))
theorem cmpE_neg {a b : Entry} : cmpE a b < 0 ↔ Before a b := by
  unfold cmpE cmpL Before
  rw [firstNZ_lt, cmpB_neg, cmpB_zero, cmpI_neg, cmpI_zero, cmpB_neg, cmpB_zero, cmpI_neg]
theorem Before.trans {a b c : Entry} (h1 : Before a b) (h2 : Before b c) : Before a c := by
  unfold Before at *
  rcases h1 with h1 | ⟨e1, h1⟩
  · rcases h2 with h2 | ⟨e2, _⟩
    · exact .inl (ltB_trans h1 h2)
    · exact .inl (e2 ▸ h1)
  · rcases h2 with h2 | ⟨e2, h2⟩
    · exact .inl (e1 ▸ h2)
    · refine .inr ⟨e1.trans e2, ?_⟩
      rcases h1 with h1 | ⟨t1, h1⟩
      · rcases h2 with h2 | ⟨t2, _⟩ <;> exact .inl (by omega)
      · rcases h2 with h2 | ⟨t2, h2⟩
        · exact .inl (by omega)
        · refine .inr ⟨t1.trans t2, ?_⟩
          rcases h1 with h1 | ⟨f1, h1⟩
          · rcases h2 with h2 | ⟨f2, _⟩
            · exact .inl (ltB_trans h1 h2)
            · exact .inl (f2 ▸ h1)
          · rcases h2 with h2 | ⟨f2, h2⟩
            · exact .inl (f1 ▸ h2)
            · exact .inr ⟨f1.trans f2, by omega⟩

/-- Each ahead of what follows. -/
abbrev Sorted (l : List Entry) : Prop := l.Pairwise Before
theorem pairF_sorted : ∀ {l : List Entry} {p : Option Entry}, pairF p l = 0 → Sorted l ∧ (∀ q, p = some q → ∀ x ∈ l, Before q x) ∧ ∀ x ∈ l, entryF x = 0
  | [], p, _ => ⟨.nil, fun q _ x hx => (by cases hx), fun x hx => (by cases hx)⟩
  | e :: r, none, h => by
    simp only [pairF] at h
    split at h
    · rename_i he
      obtain ⟨h1, h2, h3⟩ := pairF_sorted h
      exact ⟨.cons (h2 e rfl) h1, fun q hq => (by cases hq), fun x hx => by rcases List.mem_cons.1 hx with rfl | hx; exact he; exact h3 x hx⟩
    · exact absurd h (by assumption)
  | e :: r, some q, h => by
    simp only [pairF] at h
    split at h
    · rename_i he
      split at h
      · cases h
      · split at h
        · cases h
        · rename_i h4 h5
          obtain ⟨h1, h2, h3⟩ := pairF_sorted h
          have hqe : Before q e := cmpE_neg.1 (by omega)
          refine ⟨.cons (h2 e rfl) h1, fun q' hq => ?_, fun x hx => by rcases List.mem_cons.1 hx with rfl | hx; exact he; exact h3 x hx⟩
          injection hq with hq
          subst hq
          intro x hx
          rcases List.mem_cons.1 hx with rfl | hx
          · exact hqe
          · exact hqe.trans (h2 e rfl x hx)
    · exact absurd h (by assumption)
theorem entriesF_sorted {l : List Entry} (h : entriesF l = 0) : Sorted l ∧ ∀ x ∈ l, entryF x = 0 := by
  unfold entriesF at h
  split at h
  · cases h
  · obtain ⟨h1, _, h2⟩ := pairF_sorted h; exact ⟨h1, h2⟩
theorem Before.key {a b : Entry} (h : Before a b) : ltB b.key a.key = false := by
  rcases h with h | ⟨e, _⟩
  · exact ltB_asymm h
  · rw [e]; exact ltB_irrefl _
end Go.Proofs.YtejhjdpafdpjlaaGreatDoor
