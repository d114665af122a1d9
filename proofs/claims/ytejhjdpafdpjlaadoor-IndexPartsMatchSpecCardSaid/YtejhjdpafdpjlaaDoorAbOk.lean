/-
  A result, where nil stands for an empty slice.
-/
import Derived.Test.YtejhjdpafdpjlaaDoorAbStep3
namespace Go.Ab
open Go Go.RowKit
set_option linter.unusedSectionVars false
variable [Amb]

/-! ### The end, where nil stands for an empty slice -/
def nilOk : CV → Prop
  | .nil => True
  | .list _ xs => xs = []
  | _ => False
@[simp] theorem nilOk_nil : nilOk .nil = True := rfl
@[simp] theorem nilOk_list (z : Nat) (xs : List (List CV)) : nilOk (.list z xs) = (xs = []) := rfl
def okC (want : CV) : CV → Prop
  | .nil => nilOk want
  | c => want = c
section
variable (want : CV)
@[simp] theorem okC_nil : okC want .nil = nilOk want := rfl
@[simp] theorem okC_bool (b : Bool) : okC want (.bool b) = (want = .bool b) := rfl
@[simp] theorem okC_int (k : IntKind) (n : Int) : okC want (.int k n) = (want = .int k n) := rfl
@[simp] theorem okC_str (l : List UInt8) : okC want (.str l) = (want = .str l) := rfl
@[simp] theorem okC_empty (z : Nat) : okC want (.empty z) = (want = .empty z) := rfl
@[simp] theorem okC_list (z : Nat) (xs : List (List CV)) : okC want (.list z xs) = (want = .list z xs) := rfl
@[simp] theorem okC_clo (f : FuncId) (caps : List CV) : okC want (.clo f caps) = (want = .clo f caps) := rfl
@[simp] theorem okC_atom (v : Value) : okC want (.atom v) = (want = .atom v) := rfl
end
def okX : XV → XV → Prop
  | .one a, .one b => okC a b
  | a, b => a = b
@[simp] theorem okX_one (a b : CV) : okX (.one a) (.one b) = okC a b := rfl
@[simp] theorem okX_agg (a b : List CV) : okX (.agg a) (.agg b) = (a = b) := by simp [okX]
@[simp] theorem okX_one_agg (a : CV) (b : List CV) : okX (.one a) (.agg b) = False := by simp [okX]
@[simp] theorem okX_agg_one (a : List CV) (b : CV) : okX (.agg a) (.one b) = False := by simp [okX]
def okXs : List XV → List XV → Prop
  | [], [] => True
  | a :: r, b :: s => okX a b ∧ okXs r s
  | _, _ => False
@[simp] theorem okXs_nil : okXs [] [] = True := rfl
@[simp] theorem okXs_cons (a b : XV) (r s : List XV) : okXs (a :: r) (b :: s) = (okX a b ∧ okXs r s) := rfl
@[simp] theorem okXs_nc (b : XV) (s : List XV) : okXs [] (b :: s) = False := rfl
@[simp] theorem okXs_cn (b : XV) (s : List XV) : okXs (b :: s) [] = False := rfl
def okR : RV → RV → Prop
  | .x a, .x b => okX a b
  | .tup a, .tup b => okXs a b
  | _, _ => False
@[simp] theorem okR_x (a b : XV) : okR (.x a) (.x b) = okX a b := rfl
@[simp] theorem okR_tup (a b : List XV) : okR (.tup a) (.tup b) = okXs a b := rfl
@[simp] theorem okR_xt (a : XV) (b : List XV) : okR (.x a) (.tup b) = False := rfl
@[simp] theorem okR_tx (a : List XV) (b : XV) : okR (.tup a) (.x b) = False := rfl

theorem okC_rep {w : World} {S : Nat → Prop} {a b : CV} {v : Value} (h : okC a b) (hr : RepC w S b v) : RepC w S a v := by
  cases b <;> simp only [okC] at h <;> try (subst h; exact hr)
  cases a <;> simp only [nilOk] at h
  · exact hr
  · subst h; cases hr; exact .list0 none 0 _ (by decide) (fun _ => rfl)
theorem okX_rep {w : World} {S : Nat → Prop} {a b : XV} {v : Value} (h : okX a b) (hr : RepX w S b v) : RepX w S a v := by
  cases a <;> cases b <;> simp only [okX] at h
  · exact okC_rep (b := _) h hr
  · cases h
  · cases h
  · rw [h]; exact hr
theorem okXs_at : ∀ {a b : List XV}, okXs a b → a.length = b.length ∧ ∀ (j : Nat) (x : XV), a[j]? = some x → ∃ y, b[j]? = some y ∧ okX x y
  | [], [], _ => ⟨rfl, fun j x h => by simp at h⟩
  | a :: r, b :: s, h => by
    obtain ⟨h1, h2⟩ := okXs_at h.2
    refine ⟨by simp [h1], fun j x hj => ?_⟩
    cases j with
    | zero => simp at hj; subst hj; exact ⟨b, rfl, h.1⟩
    | succ j => simp at hj; exact h2 j x hj
theorem okR_rep {w : World} {S : Nat → Prop} {a b : RV} {v : Value} (h : okR a b) (hr : RepR w S b v) : RepR w S a v := by
  cases a <;> cases b <;> simp only [okR] at h
  · exact okX_rep h hr
  · obtain ⟨us, hv, hl, hx⟩ := hr
    obtain ⟨h1, h2⟩ := okXs_at h
    refine ⟨us, hv, by rw [hl, h1], fun j x hj => ?_⟩
    obtain ⟨y, hy, hok⟩ := h2 j x hj
    obtain ⟨u, hu, hr⟩ := hx j y hy
    exact ⟨u, hu, okX_rep hok hr⟩
theorem ACalls.out {P : Program} {f : FuncId} {args : List XV} {a b : RV} (h : okR a b) (hc : ACalls P f args b) : ACalls P f args a :=
  ⟨hc.1, fun w S vs hS ha => (hc.2 w S vs hS ha).mono fun _ _ ⟨v, he, hb, hr, _⟩ => ⟨v, he, hb, okR_rep h hr, fun b hbb => by
    have : a.blk v = none := by cases a <;> cases b <;> first | rfl | exact h.elim
    rw [this] at hbb; cases hbb⟩⟩

end Go.Ab
