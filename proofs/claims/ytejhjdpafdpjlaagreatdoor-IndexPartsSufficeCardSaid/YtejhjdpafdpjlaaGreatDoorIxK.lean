/- A part of the proof: lemmas and contracts of functions. -/
import Derived.Test.YtejhjdpafdpjlaaGreatDoorIxJ
namespace Go.Proofs.YtejhjdpafdpjlaaGreatDoor
open Go Go.Ab
set_option linter.unusedSectionVars false
variable [Amb]
set_option maxRecDepth 100000
set_option maxHeartbeats 4000000

/-! ### Find -/
def keyF (l : List Entry) (k : List UInt8) : Int := if entriesF l ≠ 0 then entriesF l else if keyB k = false then 3 else 0
theorem index_checkKey (l : List Entry) (k : List UInt8) : ACalls Tryz.prog 42 [entries l, .one (.str k)] (.x (.one (.int .i64 (keyF l k)))) := by
  refine ACalls.of mixed (fn := Tryz.f42) (by kernel_rfl) (by kernel_rfl) rfl (by kernel_rfl) (by simp [Tryz.f42]) (fun hok => ?_)
  generalize hF : keyF l k = F
  unfold keyF at hF
  simp -implicitDefEqProofs +contextual [-Bool.and_eq_false_imp, Bool.and_eq_false_iff]
  refine ACallK.of (index_checkEntries l) ?_
  simp -implicitDefEqProofs +contextual [-Bool.and_eq_false_imp, Bool.and_eq_false_iff]
  refine ⟨fun h => ?_, fun h => ACallK.of (isKey _) ?_⟩
  · rw [if_pos h] at hF; exact hF.symm
  rw [if_neg (by simp [h])] at hF
  simp -implicitDefEqProofs +contextual [-Bool.and_eq_false_imp, Bool.and_eq_false_iff]
  refine ⟨fun h => ?_, fun h => ?_⟩
  · rw [if_pos h] at hF; exact hF.symm
  · rw [if_neg (by simp [h])] at hF; exact hF.symm
theorem keyF_ok {l : List Entry} {k : List UInt8} (h : keyF l k = 0) : entriesF l = 0 ∧ keyB k = true := by
  unfold keyF at h
  split at h
  · rename_i h1; exact absurd h h1
  · rename_i h1
    split at h
    · cases h
    · rename_i h2; exact ⟨by omega, by simpa using h2⟩

def findL (l : List Entry) (k : List UInt8) : List Entry := if keyF l k = 0 then withKey l k else []
theorem withKey_le (l : List Entry) (k : List UInt8) : (withKey l k).length ≤ l.length := List.length_filter_le _ _
/-! ### What is near -/
theorem snocInd {α : Type} {P : List α → Prop} (h0 : P []) (h1 : ∀ p e, P p → P (p ++ [e])) (l : List α) : P l := by
  have : ∀ n, P (l.take n) := by
    intro n
    induction n with
    | zero => simpa using h0
    | succ n ih =>
      by_cases hn : n < l.length
      · rw [List.take_add_one, List.getElem?_eq_getElem hn]; exact h1 _ _ ih
      · rw [List.take_of_length_le (by omega)]; rw [List.take_of_length_le (by omega)] at ih; exact ih
  have := this l.length
  rwa [List.take_length] at this
def lastLe (p : List Entry) (t : Int) : Option Entry := p.foldl (fun o x => if x.time ≤ t then some x else o) none
def aftS (t : Int) (o : Option Entry) (x : Entry) : Option Entry := match o with
  | none => if t ≤ x.time then some x else none
  | some a => if t ≤ x.time ∧ x.time = a.time then some x else some a
def aft (p : List Entry) (t : Int) : Option Entry := p.foldl (aftS t) none
def pickNear (t way : Int) (b a : Option Entry) : Option Entry :=
  if way = 3 then a else if way = 2 then b else match b, a with
  | none, a => a
  | some b, none => some b
  | some b, some a => if a.time - t < t - b.time then some a else some b
def nearL (l : List Entry) (t way : Int) : Option Entry := pickNear t way (lastLe l t) (aft l t)
theorem lastLe_snoc (p : List Entry) (e : Entry) (t : Int) : lastLe (p ++ [e]) t = if e.time ≤ t then some e else lastLe p t := by simp [lastLe, List.foldl_append]
theorem aft_snoc (p : List Entry) (e : Entry) (t : Int) : aft (p ++ [e]) t = aftS t (aft p t) e := by simp [aft, List.foldl_append]
theorem lastLe_mem {t : Int} : ∀ (p : List Entry) {x : Entry}, lastLe p t = some x → x ∈ p ∧ x.time ≤ t := by
  intro p
  refine snocInd (P := fun p => ∀ {x : Entry}, lastLe p t = some x → x ∈ p ∧ x.time ≤ t) ?_ ?_ p
  · intro x h; cases h
  · intro p e ih x h
    rw [lastLe_snoc] at h
    split at h
    · injection h with h; subst h; exact ⟨by simp, by assumption⟩
    · obtain ⟨h1, h2⟩ := ih h; exact ⟨by simp [h1], h2⟩
theorem aft_mem {t : Int} : ∀ (p : List Entry) {x : Entry}, aft p t = some x → x ∈ p ∧ t ≤ x.time := by
  intro p
  refine snocInd (P := fun p => ∀ {x : Entry}, aft p t = some x → x ∈ p ∧ t ≤ x.time) ?_ ?_ p
  · intro x h; cases h
  · intro p e ih x h
    rw [aft_snoc] at h
    unfold aftS at h
    split at h
    · split at h
      · injection h with h; subst h; exact ⟨by simp, by assumption⟩
      · cases h
    · rename_i a ha
      split at h
      · rename_i hc; injection h with h; subst h; exact ⟨by simp, hc.1⟩
      · injection h with h; subst h
        obtain ⟨h1, h2⟩ := ih ha; exact ⟨by simp [h1], h2⟩
def awayI (a b : Int) : Int := max (a - b) (b - a)
def refStep (t way : Int) (o : Option Entry) (e : Entry) : Option Entry :=
  if (way = 2 ∧ t < e.time) ∨ (way = 3 ∧ e.time < t) then o
  else match o with
  | none => some e
  | some x => if e.time = x.time ∨ awayI e.time t < awayI x.time t then some e else some x
def refNear (l : List Entry) (t way : Int) : Option Entry := l.foldl (refStep t way) none
theorem refNear_snoc (p : List Entry) (e : Entry) (t way : Int) : refNear (p ++ [e]) t way = refStep t way (refNear p t way) e := by simp [refNear, List.foldl_append]

/-- The two ways to find what is near come to the same, where the times rise. -/
theorem refNear_eq {t way : Int} (hw : way = 1 ∨ way = 2 ∨ way = 3) : ∀ (p : List Entry), p.Pairwise (fun a b => a.time ≤ b.time) → refNear p t way = nearL p t way := by
  intro p
  refine snocInd (P := fun p => p.Pairwise (fun a b : Entry => a.time ≤ b.time) → refNear p t way = nearL p t way) ?_ ?_ p
  · intro _
    unfold refNear nearL lastLe aft pickNear
    simp only [List.foldl_nil]
    split <;> (try split) <;> rfl
  · intro p e ih hp
    obtain ⟨h1, _, h3⟩ := List.pairwise_append.1 hp
    have hle : ∀ x ∈ p, x.time ≤ e.time := fun x hx => h3 x hx e (by simp)
    have hb : ∀ x, lastLe p t = some x → x.time ≤ e.time ∧ x.time ≤ t := fun x hx => ⟨hle x (lastLe_mem p hx).1, (lastLe_mem p hx).2⟩
    have ha : ∀ x, aft p t = some x → x.time ≤ e.time ∧ t ≤ x.time := fun x hx => ⟨hle x (aft_mem p hx).1, (aft_mem p hx).2⟩
    rw [refNear_snoc, ih h1]
    unfold nearL
    rw [lastLe_snoc, aft_snoc]
    generalize lastLe p t = b at hb
    generalize aft p t = a at ha
    have w12 : ¬ (1 : Int) = 2 := by decide
    have w13 : ¬ (1 : Int) = 3 := by decide
    have w23 : ¬ (2 : Int) = 3 := by decide
    have w32 : ¬ (3 : Int) = 2 := by decide
    clear hle h1 h3 ih hp
    have lo : ∀ x : Int, x ≤ t → awayI x t = t - x := fun x hx => by unfold awayI; omega
    have hi : ∀ x : Int, t ≤ x → awayI x t = x - t := fun x hx => by unfold awayI; omega
    have key : ∀ o : Option Entry, (∀ x, o = some x → (x.time ≤ e.time ∧ (x.time ≤ t ∨ t ≤ x.time))) → True := fun _ _ => trivial
    rcases Int.lt_trichotomy e.time t with c | c | c
    · -- the entry is ahead of the time
      have c1 : e.time ≤ t := by omega
      have c2 : ¬ t ≤ e.time := by omega
      have c3 : ¬ t < e.time := by omega
      have hn : a = none := by
        cases a with
        | none => rfl
        | some a => have := ha a rfl; omega
      subst hn
      have e1 := lo _ c1
      rcases hw with rfl | rfl | rfl <;> cases b with
      | none => simp only [refStep, aftS, pickNear, c, c1, c2, c3, w12, w13, w23, w32, if_true, if_false, false_and, true_and, and_true, and_false, or_false, false_or, true_or, or_true]
      | some b =>
        obtain ⟨b1, b2⟩ := hb b rfl
        have e2 := lo _ b2
        have hc : e.time = b.time ∨ awayI e.time t < awayI b.time t := by omega
        simp only [refStep, aftS, pickNear, c, c1, c2, c3, hc, w12, w13, w23, w32, if_true, if_false, false_and, true_and, and_true, and_false, or_false, false_or, true_or, or_true]
    · -- it is of the time
      have c1 : e.time ≤ t := by omega
      have c2 : t ≤ e.time := by omega
      have c3 : ¬ t < e.time := by omega
      have c4 : ¬ e.time < t := by omega
      have e1 := lo _ c1
      have ez : ∀ z : Entry, ¬ e.time - t < t - z.time ∨ z.time < t := fun z => by omega
      rcases hw with rfl | rfl | rfl <;> cases b with
      | none => cases a with
        | none => simp only [refStep, aftS, pickNear, c1, c2, c3, c4, w12, w13, w23, w32, Int.sub_self, Int.lt_irrefl, if_true, if_false, false_and, true_and, and_true, and_false, or_false, false_or, true_or, or_true] <;> (try rw [if_neg (by omega)])
        | some a =>
          obtain ⟨a1, a2⟩ := ha a rfl
          have hx : e.time = a.time := by omega
          simp only [refStep, aftS, pickNear, c1, c2, c3, c4, eq_true hx, w12, w13, w23, w32, if_true, if_false, false_and, true_and, and_true, and_false, or_false, false_or, true_or, or_true] <;> (try rw [if_neg (by omega)])
      | some b =>
        obtain ⟨b1, b2⟩ := hb b rfl
        have e2 := lo _ b2
        have hc : e.time = b.time ∨ awayI e.time t < awayI b.time t := by omega
        cases a with
        | none => simp only [refStep, aftS, pickNear, c1, c2, c3, c4, hc, w12, w13, w23, w32, if_true, if_false, false_and, true_and, and_true, and_false, or_false, false_or, true_or, or_true] <;> (try rw [if_neg (by omega)])
        | some a =>
          obtain ⟨a1, a2⟩ := ha a rfl
          have hx : e.time = a.time := by omega
          have e3 := hi _ a2
          have hd : e.time = a.time ∨ awayI e.time t < awayI a.time t := .inl hx
          have hq : ¬ e.time - t < t - e.time := by omega
          by_cases hq2 : a.time - t < t - b.time <;> simp only [refStep, aftS, pickNear, c1, c2, c3, c4, hc, hd, eq_true hx, hq, hq2, w12, w13, w23, w32, if_true, if_false, false_and, true_and, and_true, and_false, or_false, false_or, true_or, or_true]
          all_goals (try split)
          all_goals (try split)
          all_goals first | rfl | (exfalso; omega) | (rw [if_pos hc]; done) | (rw [if_pos hd]; done) | skip
    · -- it is behind the time
      have c1 : ¬ e.time ≤ t := by omega
      have c2 : t ≤ e.time := by omega
      have c4 : ¬ e.time < t := by omega
      have e1 := hi _ c2
      rcases hw with rfl | rfl | rfl <;> cases b with
      | none => cases a with
        | none => simp only [refStep, aftS, pickNear, c, c1, c2, c4, w12, w13, w23, w32, if_true, if_false, false_and, true_and, and_true, and_false, or_false, false_or, true_or, or_true] <;> (try first | rw [if_pos (by omega)] | rw [if_neg (by omega)])
        | some a =>
          obtain ⟨a1, a2⟩ := ha a rfl
          have e3 := hi _ a2
          by_cases hx : e.time = a.time
          · simp only [refStep, aftS, pickNear, c, c1, c2, c4, eq_true hx, w12, w13, w23, w32, if_true, if_false, false_and, true_and, and_true, and_false, or_false, false_or, true_or, or_true] <;> (try first | rw [if_pos (by omega)] | rw [if_neg (by omega)])
          · have hd : ¬ (e.time = a.time ∨ awayI e.time t < awayI a.time t) := by omega
            simp only [refStep, aftS, pickNear, c, c1, c2, c4, hx, hd, w12, w13, w23, w32, if_true, if_false, false_and, true_and, and_true, and_false, or_false, false_or, true_or, or_true] <;> (try first | rw [if_pos (by omega)] | rw [if_neg (by omega)])
      | some b =>
        obtain ⟨b1, b2⟩ := hb b rfl
        have e2 := lo _ b2
        have hcb : (e.time = b.time ∨ awayI e.time t < awayI b.time t) ↔ e.time - t < t - b.time := by omega
        cases a with
        | none => simp only [refStep, aftS, pickNear, c, c1, c2, c4, hcb, w12, w13, w23, w32, if_true, if_false, false_and, true_and, and_true, and_false, or_false, false_or, true_or, or_true] <;> (try first | rw [if_pos (by omega)] | rw [if_neg (by omega)])
        | some a =>
          obtain ⟨a1, a2⟩ := ha a rfl
          have e3 := hi _ a2
          by_cases hq : a.time - t < t - b.time
          · by_cases hx : e.time = a.time
            · have hq' : e.time - t < t - b.time := by omega
              have hd : e.time = a.time ∨ awayI e.time t < awayI a.time t := .inl hx
              simp only [refStep, aftS, pickNear, c, c1, c2, c4, hq, hq', hd, and_true, w12, w13, w23, w32, if_true, if_false, false_and, true_and, and_true, and_false, or_false, false_or, true_or, or_true] <;> (try first | rw [if_pos (by omega)] | rw [if_neg (by omega)]) <;> (try simp only [hq', if_true, if_false])
            · have hd : ¬ (e.time = a.time ∨ awayI e.time t < awayI a.time t) := by omega
              simp only [refStep, aftS, pickNear, c, c1, c2, c4, hq, hx, hd, w12, w13, w23, w32, if_true, if_false, false_and, true_and, and_true, and_false, or_false, false_or, true_or, or_true] <;> (try first | rw [if_pos (by omega)] | rw [if_neg (by omega)])
          · by_cases hx : e.time = a.time
            · have hq' : ¬ e.time - t < t - b.time := by omega
              have hd : e.time = a.time ∨ awayI e.time t < awayI a.time t := .inl hx
              simp only [refStep, aftS, pickNear, c, c1, c2, c4, hq, hq', hcb, hd, w12, w13, w23, w32, if_true, if_false, false_and, true_and, and_true, and_false, or_false, false_or, true_or, or_true] <;> (try first | rw [if_pos (by omega)] | rw [if_neg (by omega)]) <;> (try simp only [hq', if_true, if_false])
            · have hd : ¬ (e.time = a.time ∨ awayI e.time t < awayI a.time t) := by omega
              have hq' : ¬ e.time - t < t - b.time := by omega
              simp only [refStep, aftS, pickNear, c, c1, c2, c4, hq, hq', hx, hd, hcb, w12, w13, w23, w32, if_true, if_false, false_and, true_and, and_true, and_false, or_false, false_or, true_or, or_true] <;> (try first | rw [if_pos (by omega)] | rw [if_neg (by omega)])
end Go.Proofs.YtejhjdpafdpjlaaGreatDoor
