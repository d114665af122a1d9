/-
  The operations over abstract slots, and that they tell the truth.
-/
import Derived.Test.YtejhjdpafdpjlaaDoorAbCore
namespace Go.Ab
open Go Go.RowKit
set_option linter.unusedSectionVars false
variable [Amb]

/-! ### Types, asked of the program -/
inductive TK where
  | one
  | agg (n : Nat)
  | bad

def tk (P : Program) (t : TypeId) : TK :=
  match P.underlying t, P.info? t with
  | some (.struct _), some i => .agg i.size
  | some (.array _ _), some i => .agg i.size
  | some (.struct _), none => .bad
  | some (.array _ _), none => .bad
  | some _, _ => .one
  | none, _ => .bad

/-- Where a field lies, and what it is. -/
def fieldAt (P : Program) (t : TypeId) (f : Nat) : Option (Nat × TK) :=
  match P.underlying t with
  | some (.struct fs) => match fs[f]? with
    | some fd => match P.info? fd.type with
      | some i => if i.size = 0 then none else some (fd.offset, tk P fd.type)
      | none => none
    | none => none
  | _ => none

/-- A slice's element type and its cells; nothing where they are none. -/
def sliceT (P : Program) (t : TypeId) : Option (TypeId × Nat) :=
  match P.underlying t with
  | some (.slice e) => match P.info? e with
    | some i => if i.size = 0 then none else some (e, i.size)
    | none => none
  | _ => none

def isStringT (P : Program) (t : TypeId) : Bool :=
  match P.underlying t with
  | some .string => true
  | _ => false

/-! ### Operands -/
def ofCell : Value → CV
  | .bool b => .bool b
  | .int k n => .int k n
  | .string s => .str s.data.toList
  | .slice none 0 0 => .nil
  | v => .atom v

def smallCell : Value → Bool
  | .string s => decide (s.data.toList.length ≤ maxLen)
  | .agg _ => false
  | .tuple _ => false
  | _ => true

def constAV (v : Value) : AV :=
  match v with
  | .agg us => if us.toList.all smallCell then .x (.agg (us.toList.map ofCell)) else .dead
  | .tuple _ => .dead
  | v => if smallCell v then .x (.one (ofCell v)) else .dead

theorem ofCell_rep {w : World} {S : Nat → Prop} {v : Value} (h : smallCell v = true) : RepC w S (ofCell v) v := by
  unfold ofCell
  split
  · exact .bool _
  · exact .int _ _
  · rename_i s
    have hl : s.data.toList.length ≤ maxLen := of_decide_eq_true h
    have e : s = ⟨s.data.toList.toArray⟩ := by cases s; simp
    have := RepC.str (w := w) (S := S) s.data.toList hl
    rw [← e] at this
    exact this
  · exact .nil
  · refine .atom _ ?_
    revert h
    cases v <;> simp [smallCell, Value.oneCell']

def look (s : St) : Operand → AV
  | .tmp t => match s t with
    | .box _ => .ptr t 0
    | .own _ _ _ => .alias t
    | .mp _ _ _ => .alias t
    | a => a
  | .const v => constAV v
  | .global g => .x (.one (.atom (.pointer (some ⟨g, 0, none⟩))))
  | .func f => .x (.one (.atom (.func (.func f) #[] #[])))

/-- With its guard struck: what must hold, and the value. -/
def strip : AV → Prop × AV
  | .cond e a => (e = true, a)
  | a => (True, a)

section
variable {P : Program} {S0 : Env} {w0 w : World} {n : Nat} {s : St} {a : Act}

abbrev RepIn (S0 : Env) (w0 : World) (s : St) (a : Act) (w : World) (r : AV) (v : Value) : Prop :=
  RepAV w (Shared S0 w0.heap.size w s (tmOf a)) (OwnB S0 w0.heap.size) s (tmOf a) r v

theorem Rel.look (hR : Rel S0 w0 n s a w) (x : Operand) : RepIn S0 w0 s a w (look s x) (a.eval x) := by
  cases x with
  | tmp t =>
    have h := hR.rep t
    have he : a.eval (.tmp t) = tmOf a t := rfl
    rw [he]
    unfold Ab.look
    dsimp only
    split
    · rename_i cs hs
      rw [hs] at h
      obtain ⟨b, arr, ty, hv, _⟩ := h
      exact ⟨b, hv, by rw [hs, hv]; rfl⟩
    · rename_i e size xs hs
      exact ⟨rfl, by rw [hs]; rfl⟩
    · rename_i c bs es hs
      exact ⟨rfl, by rw [hs]; rfl⟩
    · exact h
  | const v =>
    show RepIn S0 w0 s a w (constAV v) v
    unfold constAV
    split
    · rename_i us
      split
      · rename_i hall
        refine ⟨us, rfl, by simp, fun j c hj => ?_⟩
        rw [List.getElem?_map] at hj
        cases hu : us.toList[j]? with
        | none => rw [hu] at hj; cases hj
        | some u =>
          rw [hu] at hj
          injection hj with hj
          subst hj
          exact ⟨u, rfl, ofCell_rep (List.all_eq_true.1 hall u (List.mem_of_getElem? hu))⟩
      · trivial
    · trivial
    · rename_i v _ _
      split
      · rename_i h; exact ofCell_rep h
      · trivial
  | global g => exact RepC.atom _ rfl
  | func f => exact RepC.atom _ rfl

theorem strip_rep {S : Nat → Prop} {B : Nat → Prop} {tm : Nat → Value} {r : AV} {v : Value} (h : RepAV w S B s tm r v) (hp : (strip r).1) : RepAV w S B s tm (strip r).2 v := by
  cases r with
  | cond e a =>
    have he : e = true := hp
    subst he
    exact h.2
  | _ => exact h

theorem look_notOwner (x : Operand) : (look s x).isOwner = false := by
  cases x with
  | tmp t =>
    show (look s (.tmp t)).isOwner = false
    simp only [look]
    split
    · rfl
    · rfl
    · rfl
    · rename_i h1 h2 h3
      cases hs : s t <;> first | rfl | (exact absurd hs (h1 _)) | (exact absurd hs (h2 _ _ _)) | (exact absurd hs (h3 _ _ _))
  | const v =>
    show (constAV v).isOwner = false
    unfold constAV
    split
    · split <;> rfl
    · rfl
    · split <;> rfl
  | _ => rfl

theorem strip_notOwner {r : AV} {S : Nat → Prop} {B : Nat → Prop} {tm : Nat → Value} {v : Value} (h : RepAV w S B s tm r v) (hr : r.isOwner = false) : (strip r).2.isOwner = false := by
  cases r with
  | cond e a => exact h.1
  | _ => exact hr

/-- An operand with its guard struck. -/
def sv (s : St) (x : Operand) : Prop × AV := strip (look s x)

theorem Rel.sv (hR : Rel S0 w0 n s a w) (x : Operand) (hp : (sv s x).1) : RepIn S0 w0 s a w (sv s x).2 (a.eval x) :=
  strip_rep (hR.look x) hp

theorem Rel.sv_notOwner (hR : Rel S0 w0 n s a w) (x : Operand) : (Ab.sv s x).2.isOwner = false :=
  strip_notOwner (hR.look x) (look_notOwner x)

/-- Where a cell of an element lies in the row. -/
theorem flatten_at {xs : List (List CV)} {size : Nat} (hx : ∀ x ∈ xs, x.length = size) {k j : Nat} {c : CV} (h : (xs.getD k [])[j]? = some c) : xs.flatten[k * size + j]? = some c := by
  induction xs generalizing k with
  | nil => simp at h
  | cons x xs ih =>
    have hl := hx x (by simp)
    cases k with
    | zero =>
      simp only [List.getD_cons_zero] at h
      simp only [List.flatten_cons, Nat.zero_mul, Nat.zero_add]
      rw [List.getElem?_append_left (by have := (List.getElem?_eq_some_iff.1 h).1; omega)]
      exact h
    | succ k =>
      simp only [List.getD_cons_succ] at h
      have := ih (fun x hx' => hx x (by simp [hx'])) h
      simp only [List.flatten_cons]
      rw [List.getElem?_append_right (by rw [hl, Nat.add_mul]; omega)]
      rw [← this]
      congr 1
      rw [hl, Nat.add_mul]; omega

/-- The cells behind a pointer. -/
def mem (s : St) : AV → Option (List CV)
  | .ptr i off => match s i with
    | .box cs => some (cs.drop off)
    | _ => none
  | .eptr i k off => match s i with
    | .own _ _ xs => some ((xs.getD k []).drop off)
    | _ => none
  | .elem cs => some cs
  | _ => none

theorem addr_add_add (a : Addr) (i j : Nat) : (a.add i).add j = a.add (i + j) := by
  unfold Addr.add
  by_cases hi : i = 0 <;> by_cases hj : j = 0 <;> simp [hi, hj, Nat.add_assoc]

theorem addr_add_lit (g o j : Nat) : (⟨g, o, none⟩ : Addr).add j = ⟨g, o + j, none⟩ := by
  unfold Addr.add; split <;> simp_all

theorem Rel.mem (hR : Rel S0 w0 n s a w) {r : AV} {v : Value} {cs : List CV} (hr : RepIn S0 w0 s a w r v) (hm : mem s r = some cs) :
    ∃ ad : Addr, v = .pointer (some ad) ∧ ad.spot = none ∧ ∀ (j : Nat) (c : CV), cs[j]? = some c → ∃ u, w.cell? (ad.add j) = some u ∧ RepC w (Shared S0 w0.heap.size w s (tmOf a)) c u := by
  cases r with
  | ptr i off =>
    obtain ⟨b, rfl, hk⟩ := hr
    refine ⟨_, rfl, rfl, fun j c hj => ?_⟩
    rw [addr_add_lit]
    have hi := hR.rep i
    simp only [Ab.mem] at hm
    split at hm
    · rename_i cs0 hs
      rw [hs] at hi hk
      obtain ⟨b', arr, t, hv, hh, hl, _⟩ := hi
      rw [hv] at hk
      obtain rfl : b' = b := by simpa [blkOf] using hk
      injection hm with hm
      subst hm
      rw [List.getElem?_drop] at hj
      obtain ⟨u, hu, hrep⟩ := hl.2 _ _ hj
      exact ⟨u, by rw [cell_of_row w b' (off + j) arr t (0, 0) hh]; simpa using hu, hrep⟩
    · cases hm
  | eptr i k off =>
    obtain ⟨b, rfl, hk⟩ := hr
    refine ⟨_, rfl, rfl, fun j c hj => ?_⟩
    rw [addr_add_lit]
    have hi := hR.rep i
    simp only [Ab.mem] at hm
    split at hm
    · rename_i e size xs hs
      rw [hs] at hi hk
      rw [hs]
      obtain ⟨us, hown, hl, hx, _⟩ := hi
      injection hm with hm
      subst hm
      rw [List.getElem?_drop] at hj
      obtain ⟨u, hu, hrep⟩ := hl.2 _ _ (flatten_at hx hj)
      have hc := hown.cells (g := b) hk _ _ hu
      rw [addr_add_lit] at hc
      refine ⟨u, ?_, hrep⟩
      rw [← hc]
      simp only [AV.size, Nat.zero_add, Nat.add_assoc]
    · cases hm
  | elem cs0 =>
    obtain ⟨ad, rfl, hsp, hS, hc⟩ := hr
    simp only [Ab.mem] at hm
    injection hm with hm
    subst hm
    exact ⟨ad, rfl, hsp, hc⟩
  | _ => simp [Ab.mem] at hm

end
end Go.Ab
