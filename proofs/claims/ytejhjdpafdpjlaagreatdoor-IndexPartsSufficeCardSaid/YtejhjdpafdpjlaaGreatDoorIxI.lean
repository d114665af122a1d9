/- A part of the proof: lemmas and contracts of functions. -/
import Derived.Test.YtejhjdpafdpjlaaGreatDoorIxH
namespace Go.Proofs.YtejhjdpafdpjlaaGreatDoor
open Go Go.Ab
set_option linter.unusedSectionVars false
variable [Amb]
set_option maxRecDepth 100000
set_option maxHeartbeats 4000000

abbrev funcV (f : Nat) : XV := .one (.atom (.func (.func f) #[] #[]))

theorem index_of1 (e : Entry) (k : List UInt8) : ACalls Tryz.prog 53 [.agg e.row, .one (.str k)] (.x (.one (.int .i64 (Lib.compareBytes e.key k)))) := by
  refine ACalls.of mixed (fn := Tryz.f53) (by kernel_rfl) (by kernel_rfl) rfl (by kernel_rfl) (by simp [Tryz.f53]) (fun hok => ?_)
  simp -implicitDefEqProofs +contextual [-Bool.and_eq_false_imp, Bool.and_eq_false_iff]
  refine ACallK.of (strings_Compare _ _) ?_
  simp -implicitDefEqProofs +contextual [-Bool.and_eq_false_imp, Bool.and_eq_false_iff]

/-- How many entries come ahead of a key. -/
def lowerB (l : List Entry) (k : List UInt8) : Nat := (l.takeWhile fun e => ltB e.key k).length
theorem lowerB_eq {l : List Entry} {k : List UInt8} {i : Nat} (hi : i ≤ l.length) (h1 : ∀ (j : Nat) (x : Entry), j < i → l[j]? = some x → ltB x.key k = true) (h2 : ∀ x, l[i]? = some x → ltB x.key k = false) : lowerB l k = i := by
  induction l generalizing i with
  | nil => simp at hi; subst hi; rfl
  | cons a r ih =>
    unfold lowerB at ih ⊢
    cases i with
    | zero =>
      have := h2 a rfl
      rw [List.takeWhile_cons_of_neg (by simp [this])]; rfl
    | succ i =>
      have := h1 0 a (by omega) rfl
      rw [List.takeWhile_cons_of_pos (by exact this), List.length_cons, ih (by simpa using hi) (fun j x hj hx => h1 (j + 1) x (by omega) (by simpa using hx)) (fun x hx => h2 x (by simpa using hx))]

theorem BinarySearch (l : List Entry) (k : List UInt8) (hs : Sorted l) (hb : l.length ≤ 3000) : ACalls Tryz.prog 52 [entries l, .one (.str k), funcV 53] (.tup [.one (.int .i64 (lowerB l k)), .one (.bool (match l[lowerB l k]? with | some x => decide (x.key = k) | none => false))]) := by
  refine ACalls.of mixed (fn := Tryz.f52) (by kernel_rfl) (by kernel_rfl) rfl (by kernel_rfl) (by simp [Tryz.f52]) (fun hok => ?_)
  have hmono : ∀ i j (hj : j < l.length) (hij : i ≤ j), ltB l[j].key k = true → ltB l[i].key k = true := by
    intro i j hj hij h
    by_cases he : i = j
    · subst he; exact h
    · have := (List.pairwise_iff_getElem.1 hs) i j (by omega) hj (by omega)
      cases hb : ltB l[i].key k with
      | true => rfl
      | false =>
        have h2 := this.key
        cases hc : ltB l[i].key l[j].key with
        | true => rw [ltB_trans hc h] at hb; cases hb
        | false => rw [ltB_total hc h2] at hb; rw [hb] at h; cases h
  simp -implicitDefEqProofs +contextual [-Bool.and_eq_false_imp, Bool.and_eq_false_iff]
  refine ALoopS.of (Nat × Nat) (fun i => [(0, .x (.one (.list 9 (l.map Entry.row)))), (1, .x (.one (.str k))), (2, .x (funcV 53)), (8, .x (.one (.int .i64 l.length))), (9, .x (.one (.int .i64 i.1))), (10, .x (.one (.int .i64 i.2)))])
    (fun i => i.1 ≤ i.2 ∧ i.2 ≤ l.length ∧ (∀ (j : Nat) (h : j < l.length), j < i.1 → ltB l[j].key k = true) ∧ (∀ (j : Nat) (h : j < l.length), i.2 ≤ j → ltB l[j].key k = false)) (fun i => i.2 - i.1) (0, l.length) ⟨Nat.zero_le _, Nat.le_refl _, by intro j h hj; omega, by intro j h hj; simp only at hj; omega⟩ ?_ ?_
  · simp
  rintro ⟨i, j⟩ ⟨h1, h2, h3, h4⟩
  simp only at h1 h2 h3 h4
  by_cases hlt : i < j
  · have hm : IntKind.i64.wrap ((IntKind.u64.wrap (IntKind.i64.wrap ((i : Int) + j))).fdiv (2 ^ min 1 IntKind.u64.bits)) = (((i + j) / 2 : Nat) : Int) := by
      rw [wrapS ((i : Int) + j) (by omega)]
      have : IntKind.u64.wrap ((i : Int) + j) = (i : Int) + j := by simp [IntKind.wrap, IntKind.signed, IntKind.bits]; omega
      rw [this]
      have : ((i : Int) + j).fdiv (2 ^ min 1 IntKind.u64.bits) = ((i + j) / 2 : Nat) := by
        show ((i : Int) + j).fdiv 2 = _
        rw [Int.fdiv_eq_ediv_of_nonneg _ (by omega)]; omega
      rw [this]
      exact wrapS _ (by omega)
    obtain ⟨m, em⟩ : ∃ m, m = (i + j) / 2 := ⟨_, rfl⟩
    rw [← em] at hm
    have hml : m < l.length := by omega
    simp -implicitDefEqProofs +contextual [-Bool.and_eq_false_imp, Bool.and_eq_false_iff, hlt, hm, hml]
    refine ACallK.of (index_of1 _ _) ?_
    have hc := cmpB_neg (a := l[m].key) (b := k)
    simp -implicitDefEqProofs +contextual [-Bool.and_eq_false_imp, Bool.and_eq_false_iff]
    refine ⟨fun h => ?_, fun h => ?_⟩
    · refine Again.of (m + 1, j) ⟨by simp only; omega, h2, fun x hx hxm => hmono x m hml (by simp only at hxm; omega) (hc.1 h), h4⟩ (by simp only; omega) ?_
      simp
      exact wrapS _ (by omega)
    · refine Again.of (i, m) ⟨by simp only; omega, by simp only; omega, h3, fun x hx hxm => ?_⟩ (by simp only; omega) ?_
      · simp only at hxm
        cases hb : ltB l[x].key k with
        | false => rfl
        | true => have := hmono m x hx hxm hb; rw [← hc] at this; omega
      · simp
  · have hij : i = j := by omega
    subst hij
    have hlo : lowerB l k = i := lowerB_eq h2 (fun x y hx hy => by
      obtain ⟨hlt', rfl⟩ := List.getElem?_eq_some_iff.1 hy
      exact h3 x hlt' hx) (fun y hy => by
      obtain ⟨hlt', rfl⟩ := List.getElem?_eq_some_iff.1 hy
      exact h4 i hlt' (Nat.le_refl _))
    rw [hlo]
    by_cases hil : i < l.length
    · simp -implicitDefEqProofs +contextual [-Bool.and_eq_false_imp, Bool.and_eq_false_iff, hil]
      refine ACallGS.of (fun _ => index_of1 _ _) rfl ?_
      have hc := cmpB_zero (a := l[i].key) (b := k)
      simp -implicitDefEqProofs +contextual [-Bool.and_eq_false_imp, Bool.and_eq_false_iff, hil]
      rw [Bool.eq_iff_iff]
      simp [hc]
    · simp -implicitDefEqProofs [hil]
      refine ACallGS.of (r := .x (.one (.int .i64 0))) (fun h => by cases h) rfl ?_
      simp -implicitDefEqProofs +contextual [-Bool.and_eq_false_imp, Bool.and_eq_false_iff, hil]

/-- The entries with a key. -/
def withKey (l : List Entry) (k : List UInt8) : List Entry := l.filter fun e => decide (e.key = k)

theorem takeWhile_eq {α : Type} (p : α → Bool) : ∀ (l : List α) (i : Nat), i ≤ l.length → (∀ (j : Nat) (x : α), j < i → l[j]? = some x → p x = true) → (∀ x, l[i]? = some x → p x = false) → l.takeWhile p = l.take i
  | [], i, hi, _, _ => by simp
  | a :: r, 0, _, _, h2 => by rw [List.takeWhile_cons_of_neg (by simp [h2 a rfl])]; rfl
  | a :: r, i + 1, hi, h1, h2 => by
    rw [List.takeWhile_cons_of_pos (h1 0 a (by omega) rfl), takeWhile_eq p r i (by simpa using hi) (fun j x hj hx => h1 (j + 1) x (by omega) (by simpa using hx)) (fun x hx => h2 x (by simpa using hx))]
    rfl
/-- In a sorted list the entries with a key lie together. -/
theorem withKey_sorted {k : List UInt8} : ∀ {l : List Entry}, Sorted l → withKey l k = (l.drop (lowerB l k)).takeWhile fun e => decide (e.key = k)
  | [], _ => rfl
  | a :: r, h => by
    have hr := List.pairwise_cons.1 h
    unfold withKey lowerB
    by_cases hlt : ltB a.key k = true
    · have hne : ¬ a.key = k := by rintro rfl; rw [ltB_irrefl] at hlt; cases hlt
      rw [List.takeWhile_cons_of_pos (by exact hlt), List.length_cons, List.drop_succ_cons, List.filter_cons_of_neg (by simp [hne])]
      exact withKey_sorted hr.2
    · rw [List.takeWhile_cons_of_neg (by exact hlt), List.length_nil, List.drop_zero]
      by_cases he : a.key = k
      · rw [List.filter_cons_of_pos (by simp [he]), List.takeWhile_cons_of_pos (by simp [he])]
        congr 1
        have := withKey_sorted (k := k) hr.2
        unfold withKey at this
        rw [this]
        have h0 : lowerB r k = 0 := lowerB_eq (Nat.zero_le _) (fun j x hj => by omega) (fun x hx => by
          have := (hr.1 x (List.mem_of_getElem? hx)).key
          rw [he] at this; exact this)
        rw [h0, List.drop_zero]
      · rw [List.filter_cons_of_neg (by simp [he]), List.takeWhile_cons_of_neg (by simp [he])]
        rw [List.filter_eq_nil_iff]
        intro x hx
        simp only [decide_eq_true_eq]
        rintro rfl
        have h1 := (hr.1 x hx).key
        exact he (ltB_total (by simpa using hlt) h1)

theorem index_of' (l : List Entry) (k : List UInt8) (hs : Sorted l) (hb : l.length ≤ 3000) : ACalls Tryz.prog 31 [entries l, .one (.str k)] (.x (entries (withKey l k))) := by
  refine ACalls.of mixed (fn := Tryz.f31) (by kernel_rfl) (by kernel_rfl) rfl (by kernel_rfl) (by simp [Tryz.f31]) (fun hok => ?_)
  simp -implicitDefEqProofs +contextual [-Bool.and_eq_false_imp, Bool.and_eq_false_iff]
  refine ACallK.of (BinarySearch l k hs hb) ?_
  have hlo : lowerB l k ≤ l.length := by
    unfold lowerB
    exact (List.takeWhile_sublist _).length_le
  rw [withKey_sorted hs]
  generalize lowerB l k = lo at hlo
  simp -implicitDefEqProofs +contextual [-Bool.and_eq_false_imp, Bool.and_eq_false_iff]
  refine ALoopS.of Nat (fun i => [(0, .x (.one (.list 9 (l.map Entry.row)))), (1, .x (.one (.str k))), (5, .x (.one (.int .i64 lo))), (7, .x (.one (.int .i64 i)))]) (fun i => lo ≤ i ∧ i ≤ l.length ∧ ∀ (j : Nat) (x : Entry), lo ≤ j → j < i → l[j]? = some x → x.key = k) (fun i => l.length - i) lo ⟨Nat.le_refl _, hlo, fun j x h1 h2 => by omega⟩ ?_ ?_
  · simp
  rintro i ⟨h1, h2, h3⟩
  have hend : (∀ x, l[i]? = some x → ¬ x.key = k) → (l.drop lo).takeWhile (fun e => decide (e.key = k)) = (l.take i).drop lo := by
    intro hx
    rw [takeWhile_eq _ (l.drop lo) (i - lo) (by simp; omega) (fun j x hj hjx => by
      rw [List.getElem?_drop] at hjx
      simp [h3 (lo + j) x (by omega) (by omega) hjx]) (fun x hjx => by
      rw [List.getElem?_drop, show lo + (i - lo) = i by omega] at hjx
      simp [hx x hjx])]
    rw [List.drop_take]
  by_cases hlt : i < l.length
  · simp -implicitDefEqProofs +contextual [-Bool.and_eq_false_imp, Bool.and_eq_false_iff, hlt]
    refine ⟨fun he => Again.of (i + 1) ⟨by omega, hlt, fun j x hj1 hj2 hjx => ?_⟩ (by omega) ?_, fun hne => ?_⟩
    · by_cases hji : j = i
      · subst hji
        rw [List.getElem?_eq_getElem hlt] at hjx
        injection hjx with hjx
        rw [← hjx]; exact he
      · exact h3 j x hj1 (by omega) hjx
    · simp
      exact wrapS _ (by omega)
    · rw [hend (fun x hx => by rw [List.getElem?_eq_getElem hlt] at hx; injection hx with hx; rw [← hx]; exact hne)]
      refine ⟨by omega, ?_⟩
      simp [cutAt]
  · simp -implicitDefEqProofs [hlt]
    rw [hend (fun x hx => by rw [List.getElem?_eq_none (by omega)] at hx; cases hx)]
    refine ⟨by omega, ?_⟩
    simp [cutAt]
end Go.Proofs.YtejhjdpafdpjlaaGreatDoor
