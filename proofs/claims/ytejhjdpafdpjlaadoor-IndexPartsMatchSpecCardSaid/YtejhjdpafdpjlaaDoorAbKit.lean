/-
  A contract of the kit's shelf, told as a contract over plain data.
-/
import Derived.Test.YtejhjdpafdpjlaaDoorAbLoop
namespace Go.Ab
open Go Go.RowKit
set_option linter.unusedSectionVars false
variable [Amb]

/-- The value that plain data alone tells. -/
def concC : CV → Option Value
  | .bool b => some (.bool b)
  | .int k n => some (.int k n)
  | .str l => some (.string ⟨l.toArray⟩)
  | .atom v => some v
  | _ => none
def concX : XV → Option Value
  | .one c => concC c
  | _ => none
def concs : List XV → Option (List Value)
  | [] => some []
  | x :: r => match concX x, concs r with
    | some v, some vs => some (v :: vs)
    | _, _ => none

theorem RepC.conc {w : World} {S : Nat → Prop} {c : CV} {v u : Value} (h : RepC w S c v) (hc : concC c = some u) : v = u := by
  cases h <;> simp [concC] at hc <;> exact hc
theorem RepX.conc {w : World} {S : Nat → Prop} {x : XV} {v u : Value} (h : RepX w S x v) (hc : concX x = some u) : v = u := by
  cases x with
  | one c => exact RepC.conc h hc
  | agg cs => cases hc
theorem concs_eq {w : World} {S : Nat → Prop} : ∀ {args : List XV} {us vs : List Value}, us.length = args.length → (∀ (j : Nat) (x : XV), args[j]? = some x → ∃ u, us[j]? = some u ∧ RepX w S x u) → concs args = some vs → us = vs
  | [], us, vs, hl, _, h => by
    simp [concs] at h; subst h
    exact List.eq_nil_of_length_eq_zero hl
  | x :: r, us, vs, hl, hr, h => by
    simp only [concs] at h
    split at h
    · rename_i v vs' e1 e2
      injection h with h
      subst h
      cases us with
      | nil => simp at hl
      | cons u us =>
        obtain ⟨u', hu, hrep⟩ := hr 0 x rfl
        simp at hu; subst hu
        have h2 := concs_eq (us := us) (by simpa using hl) (fun j y hy => by simpa using hr (j + 1) y (by simpa using hy)) e2
        rw [hrep.conc e1, h2]
    · cases h

theorem okAll_of {w : World} {S : Nat → Prop} {args : List XV} {vs : Array Value} (h : RepArgs w S args vs) : ∀ x ∈ args, x.ok := by
  intro x hx
  obtain ⟨j, hj⟩ := List.getElem?_of_mem hx
  obtain ⟨u, _, hr⟩ := h.2 j x hj
  exact hr.ok

theorem blk_none {r : RV} {v : Value} (hr : ∀ w S, RepR w S r v) : r.blk v = none := by
  cases r with
  | own e z xs =>
    cases h : v.ownBlock with
    | none => exact h
    | some b =>
      obtain ⟨us, _, _, _, _, hB⟩ := hr default (fun _ => False)
      exact (hB b h).elim
  | _ => rfl

/-- Where what the kit's contract hands back is flat. -/
theorem ACalls.ofKitA {P : Program} {f : FuncId} {args : List XV} {r : RV} (vs : List Value) (v : Value) (hc : Callable P f) (ha : concs args = some vs) (hr : ∀ w S, RepR w S r v)
    (h : (∀ x ∈ args, x.ok) → ∀ w, Amb.holds w → Calls P f vs.toArray w fun e w' => e = .returned v ∧ Below w.heap.size w w') : ACalls P f args r := by
  refine ⟨hc, fun w S us hS hargs => ?_⟩
  have e : us = vs.toArray := by
    have := concs_eq (us := us.toList) (by rw [Array.length_toList]; exact hargs.1) (fun j x hj => by simpa using hargs.2 j x hj) ha
    rw [← this]
  subst e
  refine (h (okAll_of hargs) w hS.amb).mono ?_
  rintro e w' ⟨rfl, hb⟩
  exact ⟨v, rfl, hb, hr _ _, fun b hbb => by rw [blk_none hr] at hbb; cases hbb⟩

theorem ACalls.ofKit {P : Program} {f : FuncId} {args : List XV} {r : RV} (vs : List Value) (v : Value) (hc : Callable P f) (ha : concs args = some vs) (hr : ∀ w S, RepR w S r v)
    (h : (∀ x ∈ args, x.ok) → ∀ w, Calls P f vs.toArray w fun e w' => e = .returned v ∧ Below w.heap.size w w') : ACalls P f args r := ACalls.ofKitA vs v hc ha hr (fun hx w _ => h hx w)

theorem repR_int {w : World} {S : Nat → Prop} (k : IntKind) (n : Int) : RepR w S (.x (.one (.int k n))) (.int k n) := RepC.int k n
theorem repR_bool {w : World} {S : Nat → Prop} (b : Bool) : RepR w S (.x (.one (.bool b))) (.bool b) := RepC.bool b
theorem repR_str {w : World} {S : Nat → Prop} (l : List UInt8) (h : l.length ≤ maxLen) : RepR w S (.x (.one (.str l))) (.string ⟨l.toArray⟩) := RepC.str l h
theorem callable_of {P : Program} {f : FuncId} (fn : Func) (h : P.funcs[f]? = some fn) (hn : (fn.name == "runtime.NumGoroutine") = false) (hb : fn.body.isNone = false) : Callable P f := ⟨fn, h, hn, hb⟩
@[simp] theorem le_maxLen_small (n : Nat) (h : n ≤ 65536) : (n ≤ maxLen) = True := by
  have : (65536 : Nat) ≤ maxLen := by decide
  exact propext ⟨fun _ => trivial, fun _ => Nat.le_trans h this⟩

/-- An empty slice is nil, or it is not. -/
theorem rep_list0 {w : World} {S : Nat → Prop} {z : Nat} {v : Value} (h : RepC w S (.list z []) v) : RepC w S .nil v ∨ RepC w S (.empty z) v := by
  cases h with
  | list0 a cap _ h hn =>
    cases a with
    | none => rw [hn rfl]; exact .inl .nil
    | some a => exact .inr (.empty a cap z h)
  | list ad cap _ _ U hs hsp hc hm => exact .inr (.empty ad cap z hm)
theorem ACalls.split_list {P : Program} {f : FuncId} {pre post : List XV} {z : Nat} {r : RV} (h1 : ACalls P f (pre ++ .one .nil :: post) r) (h2 : ACalls P f (pre ++ .one (.empty z) :: post) r) : ACalls P f (pre ++ .one (.list z []) :: post) r := by
  refine ⟨h1.1, fun w S vs hS ha => ?_⟩
  obtain ⟨u, hu, hr⟩ := ha.2 pre.length (.one (.list z [])) (by simp)
  have key : ∀ c : CV, RepC w S c u → RepArgs w S (pre ++ .one c :: post) vs := by
    intro c hc
    refine ⟨by rw [ha.1]; simp, fun j x hj => ?_⟩
    by_cases hj1 : j = pre.length
    · subst hj1
      simp at hj
      subst hj
      exact ⟨u, hu, hc⟩
    · refine ha.2 j x ?_
      rw [List.getElem?_append] at hj ⊢
      split at hj
      · rename_i hlt; rw [if_pos hlt]; exact hj
      · rename_i hge
        rw [if_neg hge]
        obtain ⟨m, hm⟩ : ∃ m, j - pre.length = m + 1 := ⟨j - pre.length - 1, by omega⟩
        rw [hm] at hj ⊢
        simpa using hj
  rcases rep_list0 hr with h | h
  · exact h1.2 w S vs hS (key _ h)
  · exact h2.2 w S vs hS (key _ h)
end Go.Ab
