/- A part of the proof: lemmas and contracts of functions. -/
import Derived.Test.YtejhjdpafdpjlaaGreatDoorIxTB
import Derived.Test.YtejhjdpafdpjlaaGreatDoorIxSpl
import Derived.Test.YtejhjdpafdpjlaaGreatDoorIxNum
namespace Go.Proofs.YtejhjdpafdpjlaaGreatDoor
open Go Go.Ab
set_option linter.unusedSectionVars false
variable [Amb] [HasPow10 Tryz.prog]

/-! ### The line of an entry, read -/
def sameL : List UInt8 := [115, 97, 109, 101]
def formW (w : List (List UInt8)) : Bool := (decide (w.length = 8) || (decide (w.length = 9) && decide (w[8]? = some sameL))) && decide (([] : List UInt8) ∉ w)
def wAt (w : List (List UInt8)) (i : Nat) : List UInt8 := (w[i]?).getD []
def statW (w : List (List UInt8)) : Int := if wAt w 2 = [45] then 0 else numV (wAt w 2)
def typeW (w : List (List UInt8)) : List UInt8 := if wAt w 3 = [45] then [] else wAt w 3
def sameW (w : List (List UInt8)) : Bool := decide (w.length = 9) && decide (w[8]? = some sameL)
def entryW (w : List (List UInt8)) : Entry := ⟨wAt w 0, numV (wAt w 1), statW w, typeW w, wAt w 4, wAt w 5, numV (wAt w 6), numV (wAt w 7), sameW w⟩
def numsW (w : List (List UInt8)) : Bool := numB (wAt w 1) && (numB (wAt w 6) && (numB (wAt w 7) && (decide (wAt w 2 = [45]) || (numB (wAt w 2) && decide (numV (wAt w 2) ≠ 0)))))
def emptyE : Entry := ⟨[], 0, 0, [], [], [], 0, 0, false⟩
def lineE (s : List UInt8) : Option Entry := if formW (splitC 32 s) = true ∧ numsW (splitC 32 s) = true then some (entryW (splitC 32 s)) else none

/-- The lines of a text, read from line i on: the entries, or the line that is wrong. -/
def scanL : Nat → List UInt8 → Nat → Except Nat (List Entry)
  | 0, _, i => .error i
  | n + 1, t, i =>
    if t = [] then .ok []
    else if 10 ∈ t then
      match lineE (befC 10 t) with
      | none => .error i
      | some e => match scanL n (aftC 10 t) (i + 1) with
        | .ok l => .ok (e :: l)
        | .error k => .error k
    else .error i
theorem scanL_fuel : ∀ (n m : Nat) (t : List UInt8) (i : Nat), t.length < n → t.length < m → scanL n t i = scanL m t i
  | 0, _, t, i, h, _ => by omega
  | n + 1, 0, t, i, _, h => by omega
  | n + 1, m + 1, t, i, h1, h2 => by
    simp only [scanL]
    split
    · rfl
    · split
      · rename_i h
        have := aftC_len h
        rw [scanL_fuel n m (aftC 10 t) (i + 1) (by omega) (by omega)]
      · rfl
def scan (t : List UInt8) (i : Nat) : Except Nat (List Entry) := scanL (t.length + 1) t i
theorem scan_nil (i : Nat) : scan [] i = .ok [] := rfl
theorem scan_cut {t : List UInt8} (i : Nat) (h : 10 ∈ t) : scan t i = match lineE (befC 10 t) with
      | none => .error i
      | some e => match scan (aftC 10 t) (i + 1) with
        | .ok l => .ok (e :: l)
        | .error k => .error k := by
  unfold scan
  have hne : t ≠ [] := by rintro rfl; cases h
  have hl := aftC_len h
  conv => lhs; rw [scanL]
  rw [if_neg hne, if_pos h, scanL_fuel t.length ((aftC 10 t).length + 1) _ _ hl (by omega)]
theorem scan_end {t : List UInt8} (i : Nat) (h0 : t ≠ []) (h : 10 ∉ t) : scan t i = .error i := by
  unfold scan
  rw [scanL, if_neg h0, if_neg h]
theorem scan_pos : ∀ (n : Nat) (t : List UInt8) (i k : Nat), t.length ≤ n → scan t i = .error k → i ≤ k
  | 0, t, i, k, h, he => by
    have : t = [] := List.eq_nil_of_length_eq_zero (by omega)
    subst this; rw [scan_nil] at he; cases he
  | n + 1, t, i, k, h, he => by
    by_cases h0 : t = []
    · subst h0; rw [scan_nil] at he; cases he
    by_cases h10 : 10 ∈ t
    · rw [scan_cut i h10] at he
      have hl := aftC_len h10
      split at he
      · injection he with he; omega
      · split at he
        · cases he
        · rename_i k' hk
          injection he with he
          have := scan_pos n (aftC 10 t) (i + 1) k' (by omega) hk
          omega
    · rw [scan_end i h0 h10] at he; injection he with he; omega

/-- What Read answers. -/
def readR (t : List UInt8) : List Entry × Int × Int :=
  if 600000 < t.length then ([], 0, 2)
  else match scan t 1 with
    | .error k => ([], k, 10)
    | .ok l => if entriesF l = 0 then (l, 0, 0) else ([], 0, entriesF l)

/-! ### There and back -/
theorem lineE_some {s : List UInt8} {e : Entry} (h : lineE s = some e) : formW (splitC 32 s) = true ∧ numsW (splitC 32 s) = true ∧ e = entryW (splitC 32 s) := by
  unfold lineE at h
  split at h
  · rename_i hc; injection h with h; exact ⟨hc.1, hc.2, h.symm⟩
  · cases h
theorem eight {w : List (List UInt8)} (h : w.length = 8) : w = [wAt w 0, wAt w 1, wAt w 2, wAt w 3, wAt w 4, wAt w 5, wAt w 6, wAt w 7] := by
  match w, h with
  | [a, b, c, d, e, f, g, i], _ => rfl
theorem nine {w : List (List UInt8)} (h : w.length = 9) : w = [wAt w 0, wAt w 1, wAt w 2, wAt w 3, wAt w 4, wAt w 5, wAt w 6, wAt w 7, wAt w 8] := by
  match w, h with
  | [a, b, c, d, e, f, g, i, j], _ => rfl
theorem joinC_8 (a b c d e f g h : List UInt8) : joinC 32 [a, b, c, d, e, f, g, h] = a ++ [32] ++ b ++ [32] ++ c ++ [32] ++ d ++ [32] ++ e ++ [32] ++ f ++ [32] ++ g ++ [32] ++ h := by
  simp [joinC]
theorem joinC_9 (a b c d e f g h i : List UInt8) : joinC 32 [a, b, c, d, e, f, g, h, i] = a ++ [32] ++ b ++ [32] ++ c ++ [32] ++ d ++ [32] ++ e ++ [32] ++ f ++ [32] ++ g ++ [32] ++ h ++ [32] ++ i := by
  simp [joinC]
def wordsE (e : Entry) : List (List UInt8) := partsL e ++ (if e.same = true then [sameL] else [])
theorem lineL_words (e : Entry) : lineL e = joinC 32 (wordsE e) ++ [10] := by
  unfold lineL wordsE partsL
  rw [joinL_8]
  cases e.same with
  | true => simp [joinC_9, sameL]
  | false => simp [joinC_8]
/-- A line that was read is written so. -/
theorem lineE_back {s : List UInt8} {e : Entry} (h : lineE s = some e) : lineL e = s ++ [10] ∧ (e.type ≠ [45]) := by
  obtain ⟨h1, h2, rfl⟩ := lineE_some h
  have hj := join_split 32 s
  generalize splitC 32 s = w at h1 h2 hj ⊢
  simp only [numsW, Bool.and_eq_true, Bool.or_eq_true, decide_eq_true_eq] at h2
  obtain ⟨n1, n6, n7, n2⟩ := h2
  obtain ⟨_, _, i1, _⟩ := numB_bound n1
  obtain ⟨_, _, i6, _⟩ := numB_bound n6
  obtain ⟨_, _, i7, _⟩ := numB_bound n7
  simp only [formW, Bool.and_eq_true, Bool.or_eq_true, decide_eq_true_eq] at h1
  obtain ⟨hlen, hne⟩ := h1
  have hstat : dashL (statusL (entryW w)) = wAt w 2 := by
    unfold dashL statusL
    show (if (if statW w = 0 then [] else itoaL (statW w)) = [] then _ else (if statW w = 0 then [] else itoaL (statW w))) = _
    unfold statW
    by_cases hd : wAt w 2 = [45]
    · simp [hd]
    · obtain ⟨m1, m2⟩ := n2.resolve_left hd
      obtain ⟨_, _, i2, _, l2, _⟩ := numB_bound m1
      have hi : itoaL (numV (wAt w 2)) = wAt w 2 := i2
      have hw : wAt w 2 ≠ [] := by intro h0; rw [h0] at l2; simp at l2
      simp [hd, m2, hi, hw]
  have hw3 : wAt w 3 ≠ [] := by
    intro h0
    apply hne
    have hl : 3 < w.length := by rcases hlen with h | ⟨h, _⟩ <;> omega
    have : wAt w 3 = w[3] := by simp [wAt, hl]
    rw [← h0, this]; exact List.getElem_mem hl
  have htype : dashL (entryW w).type = wAt w 3 := by
    show dashL (typeW w) = wAt w 3
    unfold dashL typeW
    by_cases hd : wAt w 3 = [45]
    · simp [hd]
    · simp [hd, hw3]
  have ht : (entryW w).type ≠ [45] := by
    show typeW w ≠ [45]
    unfold typeW
    split
    · simp
    · assumption
  refine ⟨?_, ht⟩
  rw [lineL_words]
  congr 1
  have hp : partsL (entryW w) = [wAt w 0, wAt w 1, wAt w 2, wAt w 3, wAt w 4, wAt w 5, wAt w 6, wAt w 7] := by
    unfold partsL
    rw [hstat, htype]
    show [wAt w 0, itoaL (numV (wAt w 1)), _, _, wAt w 4, wAt w 5, itoaL (numV (wAt w 6)), itoaL (numV (wAt w 7))] = _
    rw [show itoaL (numV (wAt w 1)) = wAt w 1 from i1, show itoaL (numV (wAt w 6)) = wAt w 6 from i6, show itoaL (numV (wAt w 7)) = wAt w 7 from i7]
  unfold wordsE
  rw [hp, ← hj]
  rcases hlen with hl | ⟨hl, hs⟩
  · have hsame : (entryW w).same = false := by show sameW w = false; simp [sameW, hl]
    rw [hsame]
    conv => rhs; rw [eight hl]
    simp
  · have hsame : (entryW w).same = true := by show sameW w = true; unfold sameW; rw [hs]; simp [hl]
    rw [hsame]
    have h8 : wAt w 8 = sameL := by unfold wAt; rw [hs]; rfl
    conv => rhs; rw [nine hl]
    simp [h8]
/-- What is written is a right line, and is read as it was. -/
structure Plain (e : Entry) : Prop where
  key : keyB e.key = true
  type : e.type = [] ∨ wordB e.type 40 = true
  dash : e.type ≠ [45]
  digest : digestB e.digest = true
  file : nameB e.file = true
theorem key_no (l : List UInt8) (h : l.all keyChar = true) : (32 : UInt8) ∉ l ∧ (10 : UInt8) ∉ l := by
  constructor
  all_goals
    intro hm
    have := List.all_eq_true.1 h _ hm
    revert this
    decide
theorem dig_no (l : List UInt8) (h : l.all isDig = true) : (32 : UInt8) ∉ l ∧ (10 : UInt8) ∉ l := by
  constructor
  all_goals
    intro hm
    have := List.all_eq_true.1 h _ hm
    revert this
    decide
theorem hex_no (l : List UInt8) (h : l.all hexB = true) : (32 : UInt8) ∉ l ∧ (10 : UInt8) ∉ l := by
  constructor
  all_goals
    intro hm
    have := List.all_eq_true.1 h _ hm
    revert this
    decide
theorem name_no (l : List UInt8) (h : l.all nameChar = true) : (32 : UInt8) ∉ l ∧ (10 : UInt8) ∉ l := by
  constructor
  all_goals
    intro hm
    have := List.all_eq_true.1 h _ hm
    revert this
    decide
theorem words_ok {e : Entry} (hr : Right e) (hp : Plain e) : (∀ x ∈ wordsE e, (32 : UInt8) ∉ x ∧ (10 : UInt8) ∉ x ∧ x ≠ []) ∧ formW (wordsE e) = true ∧ numsW (wordsE e) = true ∧ entryW (wordsE e) = e := by
  obtain ⟨b1, v1⟩ := numB_itoa (n := e.time) hr.time.1 (by have := hr.time; omega)
  obtain ⟨b6, v6⟩ := numB_itoa (n := e.lo) hr.lo.1 (by have := hr.lo; omega)
  obtain ⟨b7, v7⟩ := numB_itoa (n := e.hi) (by have := hr.lo; have := hr.hi; omega) (by have := hr.hi; omega)
  have hst : (statusL e = [] ∧ e.status = 0) ∨ (statusL e = itoaL e.status ∧ e.status ≠ 0 ∧ numB (itoaL e.status) = true ∧ numV (itoaL e.status) = e.status) := by
    unfold statusL
    by_cases h0 : e.status = 0
    · exact .inl ⟨if_pos h0, h0⟩
    · obtain ⟨b, v⟩ := numB_itoa (n := e.status) (by have := hr.status; omega) (by have := hr.status; omega)
      exact .inr ⟨if_neg h0, h0, b, v⟩
  have hk := hp.key
  simp only [keyB, wordB, plainB, inB, Bool.and_eq_true, decide_eq_true_eq] at hk
  have hd := hp.digest
  simp only [digestB, Bool.and_eq_true, beq_iff_eq] at hd
  have hf := hp.file
  simp only [nameB, inB, Bool.and_eq_true, decide_eq_true_eq] at hf
  have nums : ∀ n : Int, numB (Lib.itoa n) = true → (32 : UInt8) ∉ itoaL n ∧ (10 : UInt8) ∉ itoaL n ∧ itoaL n ≠ [] := by
    intro n hb
    obtain ⟨_, _, _, ha, hl, _⟩ := numB_bound hb
    exact ⟨(dig_no _ ha).1, (dig_no _ ha).2, by intro h0; unfold itoaL at h0; rw [h0] at hl; simp at hl⟩
  have g2 : (32 : UInt8) ∉ dashL (statusL e) ∧ (10 : UInt8) ∉ dashL (statusL e) ∧ dashL (statusL e) ≠ [] := by
    rcases hst with ⟨h, _⟩ | ⟨h, _, hb, _⟩
    · rw [h]; simp [dashL]
    · rw [h]
      have := nums _ hb
      simp only [dashL, this.2.2, if_false]
      exact this
  have g3 : (32 : UInt8) ∉ dashL e.type ∧ (10 : UInt8) ∉ dashL e.type ∧ dashL e.type ≠ [] := by
    unfold dashL
    split
    · simp
    · rename_i h
      have := hp.type.resolve_left h
      simp only [wordB, plainB, Bool.and_eq_true] at this
      have := key_no _ this.1
      exact ⟨this.1, this.2, h⟩
  have g0 : (32 : UInt8) ∉ e.key ∧ (10 : UInt8) ∉ e.key ∧ e.key ≠ [] := ⟨(key_no _ hk.1).1, (key_no _ hk.1).2, by intro h0; rw [h0] at hk; simp at hk⟩
  have g4 : (32 : UInt8) ∉ e.digest ∧ (10 : UInt8) ∉ e.digest ∧ e.digest ≠ [] := ⟨(hex_no _ hd.1).1, (hex_no _ hd.1).2, by intro h0; rw [h0] at hd; simp at hd⟩
  have g5 : (32 : UInt8) ∉ e.file ∧ (10 : UInt8) ∉ e.file ∧ e.file ≠ [] := ⟨(name_no _ hf.1).1, (name_no _ hf.1).2, by intro h0; rw [h0] at hf; simp at hf⟩
  have g1 := nums _ b1
  have g6 := nums _ b6
  have g7 := nums _ b7
  have gs : (32 : UInt8) ∉ sameL ∧ (10 : UInt8) ∉ sameL ∧ sameL ≠ [] := by decide
  have hall : ∀ x ∈ wordsE e, (32 : UInt8) ∉ x ∧ (10 : UInt8) ∉ x ∧ x ≠ [] := by
    intro x hx
    unfold wordsE partsL at hx
    simp only [List.mem_append, List.mem_cons, List.not_mem_nil, or_false] at hx
    rcases hx with (rfl | rfl | rfl | rfl | rfl | rfl | rfl | rfl) | hx
    · exact g0
    · exact g1
    · exact g2
    · exact g3
    · exact g4
    · exact g5
    · exact g6
    · exact g7
    · split at hx
      · simp at hx; subst hx; exact gs
      · cases hx
  have ne : ([] : List UInt8) ∉ wordsE e := fun h => (hall _ h).2.2 rfl
  have a0 : wAt (wordsE e) 0 = e.key := rfl
  have a1 : wAt (wordsE e) 1 = itoaL e.time := rfl
  have a2 : wAt (wordsE e) 2 = dashL (statusL e) := rfl
  have a3 : wAt (wordsE e) 3 = dashL e.type := rfl
  have a4 : wAt (wordsE e) 4 = e.digest := rfl
  have a5 : wAt (wordsE e) 5 = e.file := rfl
  have a6 : wAt (wordsE e) 6 = itoaL e.lo := rfl
  have a7 : wAt (wordsE e) 7 = itoaL e.hi := rfl
  have hform : formW (wordsE e) = true ∧ sameW (wordsE e) = e.same := by
    unfold formW sameW
    simp only [ne, not_false_eq_true, decide_true, Bool.and_true]
    unfold wordsE partsL
    cases e.same <;> simp
  have h45 : ∀ n : Int, numB (itoaL n) = true → itoaL n ≠ [45] := by
    intro n hb h0
    obtain ⟨_, _, _, ha, _⟩ := numB_bound hb
    rw [h0] at ha
    revert ha; decide
  have hstat : statW (wordsE e) = e.status ∧ (wAt (wordsE e) 2 = [45] ∨ (numB (wAt (wordsE e) 2) = true ∧ numV (wAt (wordsE e) 2) ≠ 0)) := by
    unfold statW
    rw [a2]
    rcases hst with ⟨h, h0⟩ | ⟨h, h0, hb, hv⟩
    · rw [h, h0]; simp [dashL]
    · rw [h]
      have h1 := (nums _ hb).2.2
      simp only [dashL, h1, if_false, h45 _ hb, hb, hv]
      simp [h0]
  have htype : typeW (wordsE e) = e.type := by
    unfold typeW
    rw [a3]
    unfold dashL
    by_cases h : e.type = []
    · simp [h]
    · simp [h, hp.dash]
  refine ⟨hall, hform.1, ?_, ?_⟩
  · unfold numsW
    rw [a1, a6, a7]
    simp only [show numB (itoaL e.time) = true from b1, show numB (itoaL e.lo) = true from b6, show numB (itoaL e.hi) = true from b7, Bool.true_and]
    simpa using hstat.2
  · unfold entryW
    rw [a0, a1, a4, a5, a6, a7, hstat.1, htype, hform.2, show numV (itoaL e.time) = e.time from v1, show numV (itoaL e.lo) = e.lo from v6, show numV (itoaL e.hi) = e.hi from v7]
theorem lineE_line {e : Entry} (hr : Right e) (hp : Plain e) : lineE (joinC 32 (wordsE e)) = some e ∧ (10 : UInt8) ∉ joinC 32 (wordsE e) := by
  obtain ⟨h1, h2, h3, h4⟩ := words_ok hr hp
  have hs := split_join 32 (wordsE e) (by unfold wordsE partsL; simp) (fun x hx => (h1 x hx).1)
  constructor
  · unfold lineE
    rw [hs, if_pos ⟨h2, h3⟩, h4]
  · have key : ∀ w : List (List UInt8), (∀ x ∈ w, (10 : UInt8) ∉ x) → (10 : UInt8) ∉ joinC 32 w := by
      intro w
      induction w with
      | nil => simp [joinC]
      | cons a r ih =>
        intro h
        cases r with
        | nil => exact h a (by simp)
        | cons b r =>
          have h1 := ih (fun x hx => h x (List.mem_cons_of_mem _ hx))
          have h2 := h a (by simp)
          simp only [joinC, List.mem_append, List.mem_cons, not_or]
          exact ⟨h2, by decide, h1⟩
    exact key _ (fun x hx => (h1 x hx).2.1)
theorem plain_of {e : Entry} (h : entryF e = 0) (hd : noDash e = true) : Plain e := by
  unfold entryF at h
  split at h
  · cases h
  rename_i h1
  split at h
  · cases h
  split at h
  · cases h
  rename_i h3
  split at h
  · cases h
  rename_i h4
  split at h
  · cases h
  rename_i h5
  refine ⟨by simpa using h1, ?_, by simpa [noDash] using hd, by simpa using h4, by simpa using h5⟩
  by_cases ht : e.type = []
  · exact .inl ht
  · refine .inr ?_
    cases hw : wordB e.type 40 with
    | true => rfl
    | false => exact absurd ⟨ht, hw⟩ h3
theorem scan_text : ∀ (l : List Entry) (i : Nat), (∀ e ∈ l, entryF e = 0) → l.all noDash = true → scan (textAll l) i = .ok l
  | [], i, _, _ => rfl
  | e :: r, i, h, hd => by
    simp only [List.all_cons, Bool.and_eq_true] at hd
    have he := h e (by simp)
    obtain ⟨g1, g2⟩ := lineE_line (entryF_right he) (plain_of he hd.1)
    have ht : textAll (e :: r) = joinC 32 (wordsE e) ++ 10 :: textAll r := by
      show lineL e ++ textAll r = _
      rw [lineL_words]; simp
    rw [ht, scan_cut i (by simp), befC_append g2, aftC_append g2, g1, scan_text r (i + 1) (fun x hx => h x (List.mem_cons_of_mem _ hx)) hd.2]
theorem scan_back : ∀ (n : Nat) (t : List UInt8) (i : Nat) (l : List Entry), t.length ≤ n → scan t i = .ok l → textAll l = t ∧ l.all noDash = true
  | 0, t, i, l, h, hs => by
    have : t = [] := List.eq_nil_of_length_eq_zero (by omega)
    subst this
    rw [scan_nil] at hs; injection hs with hs; subst hs
    exact ⟨rfl, rfl⟩
  | n + 1, t, i, l, h, hs => by
    by_cases h0 : t = []
    · subst h0; rw [scan_nil] at hs; injection hs with hs; subst hs; exact ⟨rfl, rfl⟩
    by_cases h10 : 10 ∈ t
    · rw [scan_cut i h10] at hs
      have hl := aftC_len h10
      split at hs
      · cases hs
      · rename_i e he
        split at hs
        · rename_i l' hl'
          injection hs with hs
          subst hs
          obtain ⟨i1, i2⟩ := scan_back n (aftC 10 t) (i + 1) l' (by omega) hl'
          obtain ⟨b1, b2⟩ := lineE_back he
          refine ⟨?_, by simp [i2, noDash, b2]⟩
          show lineL e ++ textAll l' = t
          rw [b1, i1]
          conv => rhs; rw [befC_aft h10]
          simp
        · cases hs
    · rw [scan_end i h0 h10] at hs; cases hs
end Go.Proofs.YtejhjdpafdpjlaaGreatDoor
