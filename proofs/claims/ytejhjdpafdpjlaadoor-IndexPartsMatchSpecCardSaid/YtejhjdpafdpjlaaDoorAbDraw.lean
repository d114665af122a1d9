/-
  Regions that draw their order: what is told of them does not hang on the order.
-/
import Derived.Test.YtejhjdpafdpjlaaDoorAbGuard
import Derived.Still
namespace Go.Ab
open Go Go.RowKit
set_option linter.unusedSectionVars false
variable [Amb]

/-! ### Orders, without any program -/
section
variable (ops : Array Oper) (step : Nat → St → St → Prop)

def chain : List Nat → St → St → Prop
  | [], s, s' => s = s'
  | i :: l, s, s' => ∃ s1, step i s s1 ∧ chain l s1 s'

/-- i waits for j. -/
inductive Waits : Nat → Nat → Prop where
  | edge {i : Nat} {o : Oper} {e : Edge} : ops[i]? = some o → e ∈ o.after → Region.binds .any e = true → Waits i e.on
  | far {i j : Nat} {o : Oper} {e : Edge} : ops[i]? = some o → e ∈ o.after → Region.binds .any e = true → Waits e.on j → Waits i j

def anyA (fin : St → Prop) : Nat → Array Bool → St → Prop
  | 0, listed, s => Region.ready .any ops listed = [] ∧ fin s
  | fuel + 1, listed, s => (Region.ready .any ops listed = [] → fin s) ∧ ∀ i ∈ Region.ready .any ops listed, ∃ s', step i s s' ∧ anyA fin fuel (listed.setIfInBounds i true) s'

def Closed (listed : Array Bool) : Prop := ∀ (i : Nat) (o : Oper), ops[i]? = some o → listed.getD i true = true → ∀ e ∈ o.after, Region.binds .any e = true → listed.getD e.on false = true

variable {ops step}

theorem waits_listed {listed : Array Bool} (hc : Closed ops listed) {i j : Nat} (h : Waits ops i j) (hi : ∀ (o : Oper), ops[i]? = some o → ∀ e ∈ o.after, Region.binds .any e = true → listed.getD e.on false = true) : listed.getD j false = true := by
  induction h with
  | edge ho he hb => exact hi _ ho _ he hb
  | @far i j o e ho he hb _ ih =>
    refine ih (fun o' ho' => ?_)
    have hl := hi o ho e he hb
    have hl' : listed.getD e.on true = true := by
      simp only [Array.getD_eq_getD_getElem?] at hl ⊢
      cases hx : listed[e.on]? with
      | none => rfl
      | some b => rw [hx] at hl; simpa using hl
    exact hc _ o' ho' hl'

theorem front {wf : St → Prop} {indep : Nat → Nat → Prop} (hwf : ∀ i s s', wf s → step i s s' → wf s')
    (hcomm : ∀ i j s s1 s2, indep i j → wf s → step i s s1 → step j s1 s2 → ∃ s1', step j s s1' ∧ step i s1' s2) {i : Nat} {l2 : List Nat} {s' : St} :
    ∀ (l1 : List Nat) (s : St), wf s → (∀ j ∈ l1, indep j i) → chain step (l1 ++ i :: l2) s s' → ∃ s1, step i s s1 ∧ chain step (l1 ++ l2) s1 s' := by
  intro l1
  induction l1 with
  | nil => intro s _ _ h; exact h
  | cons j l1 ih =>
    intro s hw hi h
    obtain ⟨sj, hj, h⟩ := h
    obtain ⟨s2, h2, h3⟩ := ih sj (hwf j s sj hw hj) (fun k hk => hi k (by simp [hk])) h
    obtain ⟨s1', h4, h5⟩ := hcomm j i s sj s2 (hi j (by simp)) hw hj h2
    exact ⟨s1', h4, s2, h5, h3⟩

theorem chain_any {wf : St → Prop} {indep : Nat → Nat → Prop} {fin : St → Prop} (hwf : ∀ i s s', wf s → step i s s' → wf s')
    (hcomm : ∀ i j s s1 s2, indep i j → wf s → step i s s1 → step j s1 s2 → ∃ s1', step j s s1' ∧ step i s1' s2)
    (hback : ∀ (i : Nat) (o : Oper), ops[i]? = some o → ∀ e ∈ o.after, Region.binds .any e = true → e.on < i)
    (hpair : ∀ j i, j < i → i < ops.size → Waits ops i j ∨ indep j i) {s' : St} (hfin : fin s') :
    ∀ (m : Nat) (l : List Nat) (listed : Array Bool) (s : St), l.length = m → listed.size = ops.size → Closed ops listed → l.Pairwise (· < ·) → (∀ i, i ∈ l ↔ i < ops.size ∧ listed.getD i true = false) → wf s → chain step l s s' → anyA ops step fin m listed s := by
  intro m
  induction m with
  | zero =>
    intro l listed s hm hsz hc hs hl hw h
    have hnil : l = [] := List.eq_nil_of_length_eq_zero hm
    subst hnil
    have : s = s' := h
    subst this
    refine ⟨?_, hfin⟩
    cases hr : Region.ready .any ops listed with
    | nil => rfl
    | cons i r =>
      have hi : i ∈ Region.ready .any ops listed := by rw [hr]; simp
      obtain ⟨h1, o, ho, _⟩ := mem_ready.1 hi
      have := (hl i).2 ⟨(Array.getElem?_eq_some_iff.1 ho).1, h1⟩
      cases this
  | succ m ih =>
    intro l listed s hm hsz hc hs hl hw h
    refine ⟨fun hr => ?_, fun i hi => ?_⟩
    · -- nothing is ready: but the least of those that have not come up is
      exfalso
      cases l with
      | nil => simp at hm
      | cons i r =>
        obtain ⟨hlt, hun⟩ := (hl i).1 (by simp)
        have ho : ops[i]? = some ops[i] := Array.getElem?_eq_getElem hlt
        have hri : i ∈ Region.ready .any ops listed := by
          refine mem_ready.2 ⟨hun, ops[i], ho, fun e he hb => ?_⟩
          have hei := hback i ops[i] ho e he hb
          have hne : e.on ∉ i :: r := by
            intro hmem
            rcases List.mem_cons.1 hmem with h | h
            · omega
            · have := (List.pairwise_cons.1 hs).1 e.on h; omega
          have : listed.getD e.on true ≠ false := fun h => hne ((hl e.on).2 ⟨by omega, h⟩)
          simp only [Array.getD_eq_getD_getElem?] at this ⊢
          cases hx : listed[e.on]? with
          | none =>
            have : listed.size ≤ e.on := by simpa using hx
            omega
          | some b => rw [hx] at this; simpa using this
        rw [hr] at hri
        cases hri
    · obtain ⟨h1, o, ho, hall⟩ := mem_ready.1 hi
      have hlt := (Array.getElem?_eq_some_iff.1 ho).1
      have hmem := (hl i).2 ⟨hlt, h1⟩
      obtain ⟨l1, l2, rfl⟩ := List.append_of_mem hmem
      have hsplit := List.pairwise_append.1 hs
      have hind : ∀ j ∈ l1, indep j i := by
        intro j hj
        have hji : j < i := hsplit.2.2 j hj i (by simp)
        rcases hpair j i hji hlt with h | h
        · exfalso
          have hlj := waits_listed hc h (fun o' ho' e he hb => by
            rw [ho] at ho'; injection ho' with ho'; subst ho'
            exact hall e he hb)
          have := ((hl j).1 (by simp [hj])).2
          simp only [Array.getD_eq_getD_getElem?] at this hlj
          cases hx : listed[j]? with
          | none => rw [hx] at hlj; cases hlj
          | some b => rw [hx] at hlj this; simp at hlj this; rw [hlj] at this; cases this
        · exact h
      obtain ⟨s1, h2, h3⟩ := front hwf hcomm l1 s hw hind h
      have hsz' : (listed.setIfInBounds i true).size = ops.size := by simpa using hsz
      have hget : ∀ k d, (listed.setIfInBounds i true).getD k d = if k = i then true else listed.getD k d := by
        intro k d
        simp only [Array.getD_eq_getD_getElem?]
        by_cases hk : k = i
        · subst hk; simp [hsz, hlt]
        · rw [Array.getElem?_setIfInBounds_ne (by omega)]; simp [hk]
      refine ⟨s1, h2, ih (l1 ++ l2) _ s1 (by simp at hm ⊢; omega) hsz' ?_ ?_ ?_ (hwf i s s1 hw h2) h3⟩
      · intro k o' ho' hk e he hb
        rw [hget] at hk ⊢
        by_cases hki : k = i
        · subst hki
          rw [ho] at ho'; injection ho' with ho'; subst ho'
          split
          · rfl
          · exact hall e he hb
        · rw [if_neg hki] at hk
          split
          · rfl
          · exact hc k o' ho' hk e he hb
      · refine List.pairwise_append.2 ⟨hsplit.1, (List.pairwise_cons.1 hsplit.2.1).2, fun x hx y hy => hsplit.2.2 x hx y (by simp [hy])⟩
      · intro k
        rw [hget]
        have hk := hl k
        simp only [List.mem_append, List.mem_cons] at hk ⊢
        by_cases hki : k = i
        · subst hki
          simp only [if_pos]
          constructor
          · rintro (h | h)
            · have := hsplit.2.2 k h k (by simp); omega
            · have := (List.pairwise_cons.1 hsplit.2.1).1 k h; omega
          · rintro ⟨_, h⟩; cases h
        · rw [if_neg hki, ← hk]
          constructor
          · rintro (h | h)
            · exact .inl h
            · exact .inr (.inr h)
          · rintro (h | h | h)
            · exact .inl h
            · exact absurd h hki
            · exact .inr h
end
end Go.Ab
