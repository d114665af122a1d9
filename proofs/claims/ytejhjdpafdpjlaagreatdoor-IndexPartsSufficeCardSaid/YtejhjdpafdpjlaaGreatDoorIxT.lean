/- A part of the proof: lemmas and contracts of functions. -/
import Derived.Test.YtejhjdpafdpjlaaGreatDoorIxS
namespace Go.Proofs.YtejhjdpafdpjlaaGreatDoor
open Go Go.Ab
set_option linter.unusedSectionVars false
variable [Amb]
set_option maxRecDepth 100000

/-! ### A list that is sorted, of right entries, is right -/
theorem pairF_of : ∀ {l : List Entry} {p : Option Entry}, Sorted l → (∀ q, p = some q → ∀ x ∈ l, Before q x) → (∀ x ∈ l, entryF x = 0) → pairF p l = 0
  | [], p, _, _, _ => by cases p <;> rfl
  | e :: r, none, hs, _, h2 => by
    unfold pairF
    rw [if_pos (h2 e List.mem_cons_self)]
    exact pairF_of (List.pairwise_cons.1 hs).2 (fun q hq x hx => by injection hq with hq; subst hq; exact (List.pairwise_cons.1 hs).1 x hx) (fun x hx => h2 x (List.mem_cons_of_mem _ hx))
  | e :: r, some q, hs, h1, h2 => by
    have hb := cmpE_neg.2 (h1 q rfl e List.mem_cons_self)
    unfold pairF
    rw [if_pos (h2 e List.mem_cons_self), if_neg (by omega), if_neg (by omega)]
    exact pairF_of (List.pairwise_cons.1 hs).2 (fun q hq x hx => by injection hq with hq; subst hq; exact (List.pairwise_cons.1 hs).1 x hx) (fun x hx => h2 x (List.mem_cons_of_mem _ hx))
theorem entriesF_sub {l m : List Entry} (h : entriesF l = 0) (hm : m.Sublist l) : entriesF m = 0 := by
  have hs := entriesF_short h
  obtain ⟨h1, h2⟩ := entriesF_sorted h
  have := hm.length_le
  unfold entriesF
  rw [if_neg (by omega)]
  exact pairF_of (List.Pairwise.sublist hm h1) (fun q hq => by cases hq) (fun x hx => h2 x (hm.subset hx))

/-! ### The first entries -/
def keeps : Option Entry → Entry → Bool
  | none, _ => true
  | some q, e => decide (q.key ≠ e.key) || decide (q.digest ≠ e.digest)
def firstsP : Option Entry → List Entry → List Entry
  | _, [] => []
  | p, e :: r => if keeps p e = true then e :: firstsP (some e) r else firstsP (some e) r
def changedL (l : List Entry) : List Entry := if entriesF l = 0 then firstsP none l else []
def lastO : Option Entry → List Entry → Option Entry
  | p, [] => p
  | _, e :: r => lastO (some e) r
theorem firstsP_append : ∀ (a b : List Entry) (p : Option Entry), firstsP p (a ++ b) = firstsP p a ++ firstsP (lastO p a) b
  | [], b, p => rfl
  | e :: r, b, p => by
    simp only [List.cons_append, firstsP, lastO]
    rw [firstsP_append r b]
    split <;> rfl
theorem firstsP_snoc (a : List Entry) (x : Entry) (p : Option Entry) : firstsP p (a ++ [x]) = firstsP p a ++ (if keeps (lastO p a) x = true then [x] else []) := by
  rw [firstsP_append]
  congr 1
theorem lastO_eq : ∀ (a : List Entry) (p : Option Entry), a ≠ [] → lastO p a = a[a.length - 1]?
  | [], _, h => absurd rfl h
  | [e], p, _ => rfl
  | e :: f :: r, p, _ => by
    rw [lastO, lastO_eq (f :: r) (some e) (by simp)]
    simp
theorem firstsP_sub : ∀ (l : List Entry) (p : Option Entry), (firstsP p l).Sublist l
  | [], p => List.Sublist.slnil
  | e :: r, p => by
    unfold firstsP
    split
    · exact (firstsP_sub r _).cons_cons e
    · exact (firstsP_sub r _).cons e
/-- Two that are alike. -/
def Alike (p q : Option Entry) : Prop := ∀ e, keeps p e = keeps q e
theorem firstsP_alike {p q : Option Entry} (h : Alike p q) (l : List Entry) : firstsP p l = firstsP q l := by
  cases l with
  | nil => rfl
  | cons e r => simp only [firstsP, h e]
theorem alike_of {p : Option Entry} {e : Entry} (h : ¬ keeps p e = true) : Alike p (some e) := by
  cases p with
  | none => exact absurd rfl h
  | some q =>
    simp [keeps] at h
    intro x
    simp only [keeps, h.1, h.2]
theorem firstsP_twice : ∀ (l : List Entry) (p : Option Entry), firstsP p (firstsP p l) = firstsP p l
  | [], p => rfl
  | e :: r, p => by
    by_cases h : keeps p e = true
    · rw [show firstsP p (e :: r) = e :: firstsP (some e) r by simp [firstsP, h]]
      rw [show firstsP p (e :: firstsP (some e) r) = e :: firstsP (some e) (firstsP (some e) r) by simp [firstsP, h]]
      rw [firstsP_twice r]
    · rw [show firstsP p (e :: r) = firstsP (some e) r by simp [firstsP, h]]
      rw [firstsP_alike (alike_of h), firstsP_twice r]

/-! ### The lives of what has changed -/
structure LifeLe (a b : Life) : Prop where
  key : a.key = b.key
  first : a.first = b.first
  other : a.other = b.other
  many : b.many ≤ a.many
inductive LivesLe : List Life → List Life → Prop
  | nil : LivesLe [] []
  | cons {a b : Life} {r s : List Life} : LifeLe a b → LivesLe r s → LivesLe (a :: r) (b :: s)
theorem LivesLe.length {a b : List Life} (h : LivesLe a b) : a.length = b.length := by
  induction h with
  | nil => rfl
  | cons _ _ ih => simp [ih]
theorem LivesLe.at {a b : List Life} (h : LivesLe a b) : ∀ {i : Nat} (ha : i < a.length) (hb : i < b.length), LifeLe a[i] b[i] := by
  induction h with
  | nil => intro i ha; cases ha
  | cons h _ ih =>
    intro i ha hb
    cases i with
    | zero => exact h
    | succ i => exact ih (by simpa using ha) (by simpa using hb)
theorem nubs_firsts : ∀ (l : List Entry) (q : Entry) (acc : List (List UInt8)), (∀ x ∈ l, x.key = q.key) → q.digest ∈ acc →
    (digests (firstsP (some q) l)).foldl nubA acc = (digests l).foldl nubA acc
  | [], _, _, _, _ => rfl
  | e :: r, q, acc, hk, hq => by
    have hke := hk e List.mem_cons_self
    have hr : ∀ x ∈ r, x.key = e.key := fun x hx => by rw [hk x (List.mem_cons_of_mem _ hx), hke]
    by_cases h : keeps (some q) e = true
    · rw [show firstsP (some q) (e :: r) = e :: firstsP (some e) r by simp [firstsP, h]]
      simp only [digests, List.map_cons, List.foldl_cons]
      exact nubs_firsts r e _ hr (by unfold nubA; split <;> simp_all)
    · rw [show firstsP (some q) (e :: r) = firstsP (some e) r by simp [firstsP, h]]
      simp [keeps] at h
      have hd : e.digest ∈ acc := by rw [← h.2]; exact hq
      simp only [digests, List.map_cons, List.foldl_cons]
      rw [show nubA acc e.digest = acc by unfold nubA; rw [if_pos hd]]
      exact nubs_firsts r e _ hr hd
theorem lives_firsts : ∀ (n : Nat) (l : List Entry), l.length ≤ n → Sorted l → LivesLe (livesL l) (livesL (firstsP none l))
  | _, [], _, _ => LivesLe.nil
  | 0, e :: r, h, _ => by simp at h
  | n + 1, e :: r, hn, hs => by
    have hat : LivesAt (e :: r) [] (e :: r) [] := ⟨rfl, rfl, hs, Nat.le_refl _, fun j v h => by simp at h⟩
    have hstep := hat.step
    have hp := withKey_pos e r
    have hmk : ∀ x ∈ withKey (e :: r) e.key, x.key = e.key := fun x hx => by simpa using (List.mem_filter.1 hx).2
    have hm0 : withKey (e :: r) e.key = e :: withKey r e.key := by
      unfold withKey
      rw [List.filter_cons_of_pos (by simp)]
    have hother : ∀ x ∈ (e :: r).drop (withKey (e :: r) e.key).length, x.key ≠ e.key := by
      intro x hx he
      have := hstep.under 0 (lifeOf (e :: r) e) rfl rfl x hx
      rw [he] at this
      rw [show (lifeOf (e :: r) e).key = e.key from rfl, ltB_irrefl] at this
      cases this
    have hall := hstep.all
    rw [List.nil_append] at hall
    rw [livesL_cons]
    generalize hrest : (e :: r).drop (withKey (e :: r) e.key).length = rest at hall hother
    have hlr : rest.length ≤ n := by rw [← hrest, List.length_drop]; simp only [List.length_cons] at hn ⊢; omega
    have hsr : Sorted rest := by rw [← hrest]; exact hs.drop
    generalize hm : withKey (e :: r) e.key = m at hall hmk hm0 hp
    have hlast : Alike (lastO none m) none ∨ ∀ x ∈ rest, keeps (lastO none m) x = true := by
      right
      intro x hx
      have hne : m ≠ [] := by rw [hm0]; simp
      rw [lastO_eq m none hne, List.getElem?_eq_getElem (by omega)]
      have := hmk _ (List.getElem_mem (by omega : m.length - 1 < m.length))
      simp only [keeps, this]
      simp [(hother x hx).symm]
    have hfr : firstsP (lastO none m) rest = firstsP none rest := by
      rcases hlast with h | h
      · exact firstsP_alike h _
      · cases rest with
        | nil => rfl
        | cons x y =>
          have h1 := h x List.mem_cons_self
          have h2 : keeps none x = true := rfl
          simp only [firstsP, h1, h2]
    have hsplit : firstsP none (e :: r) = firstsP none m ++ firstsP none rest := by
      conv => lhs; rw [hall]
      rw [firstsP_append, hfr]
    have hfm : firstsP none m = e :: firstsP (some e) (withKey r e.key) := by rw [hm0]; rfl
    have hx : firstsP none (e :: r) = e :: (firstsP (some e) (withKey r e.key) ++ firstsP none rest) := by rw [hsplit, hfm]; rfl
    have hwk : withKey (firstsP none (e :: r)) e.key = firstsP none m := by
      rw [hsplit]
      unfold withKey
      rw [List.filter_append]
      have h1 : (firstsP none m).filter (fun x => decide (x.key = e.key)) = firstsP none m := by
        rw [List.filter_eq_self]
        intro x hx
        simp [hmk x ((firstsP_sub m none).subset hx)]
      have h2 : (firstsP none rest).filter (fun x => decide (x.key = e.key)) = [] := by
        rw [List.filter_eq_nil_iff]
        intro x hx
        simp [hother x ((firstsP_sub rest none).subset hx)]
      rw [h1, h2, List.append_nil]
    have hlive := livesL_cons e (firstsP (some e) (withKey r e.key) ++ firstsP none rest)
    rw [← hx, hwk] at hlive
    have hdrop : (firstsP none (e :: r)).drop (firstsP none m).length = firstsP none rest := by rw [hsplit]; simp
    rw [hdrop] at hlive
    rw [hlive]
    refine LivesLe.cons ⟨rfl, rfl, ?_, ?_⟩ (lives_firsts n rest hlr hsr)
    · show ((nubs (digests (withKey (e :: r) e.key))).length : Int) = ((nubs (digests (withKey (firstsP none (e :: r)) e.key))).length : Int)
      rw [hwk, hm, hfm, hm0]
      simp only [nubs, digests, List.map_cons, List.foldl_cons]
      have := nubs_firsts (withKey r e.key) e (nubA [] e.digest) (fun x hx => by simpa using (List.mem_filter.1 hx).2) (by simp [nubA])
      unfold digests at this
      rw [this]
    · show ((withKey (firstsP none (e :: r)) e.key).length : Int) ≤ ((withKey (e :: r) e.key).length : Int)
      rw [hwk, hm]
      exact Int.ofNat_le.2 (firstsP_sub m none).length_le
end Go.Proofs.YtejhjdpafdpjlaaGreatDoor
