/-
  Operations with a guard; a list of operations in their order.
-/
import Derived.Test.YtdciogjhkckigaaDoorAbOp
namespace Go.Ab
open Go Go.RowKit

/-- Does the guard let by? -/
def gval (ops : Array Oper) (s : St) (g : Nat × Bool) : Option Bool :=
  match (ops[g.1]?).bind (·.dst) with
  | some d => match s d with
    | .x (.one (.bool b)) => some (b == g.2)
    | .cond e (.x (.one (.bool b))) => some (e && (b == g.2))
    | _ => none
  | none => none

/-- A step that is taken where e holds; else the slot holds nothing. -/
def aguard (P : Program) (n : Nat) (s : St) (e : Bool) (op : Op) (dst : Option Tmp) (K : St → Prop) : Prop :=
  match dst with
  | some d => match op with
    | .call c => match c.callee with
      | .value f => callG P e (callee s f c.args.toList) (fun r => d < n ∧ K (put s d (.cond e r.av)))
      | _ => (e = true → (aval2 P s (.call c)).1) ∧ (aval2 P s (.call c)).2.isOwner = false ∧ d < n ∧ K (put s d (.cond e (aval2 P s (.call c)).2))
    | op => (e = true → (aval2 P s op).1) ∧ (aval2 P s op).2.isOwner = false ∧ d < n ∧ K (put s d (.cond e (aval2 P s op).2))
  | none => False

def aop (P : Program) (n : Nat) (ops : Array Oper) (o : Oper) (s : St) (K : St → Prop) : Prop :=
  match o.guard with
  | none => astep P n s o.op o.dst K
  | some g => match gval ops s g with
    | some e => aguard P n s e o.op o.dst K
    | none => False

def aops (P : Program) (n : Nat) (ops : Array Oper) : List Oper → St → (St → Prop) → Prop
  | [], s, K => K s
  | o :: r, s, K => aop P n ops o s (fun s' => aops P n ops r s' K)

section
variable {P : Program} {S0 : Nat → Prop} {w0 w : World} {n : Nat} {s : St} {a : Act}

theorem gval_ok (hR : Rel S0 w0 n s a w) {ops : Array Oper} {g : Nat × Bool} {e : Bool} (h : gval ops s g = some e) : (yielded ops a.tmps g.1 == some g.2) = e := by
  unfold gval at h
  cases hd : (ops[g.1]?).bind (·.dst) with
  | none => rw [hd] at h; cases h
  | some d =>
    rw [hd] at h
    have hrep := hR.rep d
    have hy : yielded ops a.tmps g.1 = match a.tmps[d]? with | some (.bool b) => some b | _ => none := by
      unfold yielded
      rw [hd]
      rfl
    have htm : ∀ b, tmOf a d = .bool b → a.tmps[d]? = some (.bool b) := by
      intro b hb
      simp only [tmOf, Array.getD_eq_getD_getElem?] at hb
      cases hx : a.tmps[d]? with
      | none => rw [hx] at hb; cases hb
      | some v => rw [hx] at hb; simp at hb; rw [hb]
    simp only at h
    split at h
    · rename_i b hs
      injection h with h
      rw [hs] at hrep
      rw [hy, htm b (rep_bool hrep), ← h]
      cases b <;> cases g.2 <;> rfl
    · rename_i e' b hs
      injection h with h
      rw [hs] at hrep
      obtain ⟨_, hrep⟩ := hrep
      cases e' with
      | true =>
        rw [hy, htm b (rep_bool hrep), ← h]
        cases b <;> cases g.2 <;> rfl
      | false =>
        have hu : tmOf a d = undef := hrep
        have : (match a.tmps[d]? with | some (Value.bool b) => some b | _ => none) = none := by
          simp only [tmOf, Array.getD_eq_getD_getElem?] at hu
          cases hx : a.tmps[d]? with
          | none => rfl
          | some v => rw [hx] at hu; simp at hu; rw [hu]; rfl
        rw [hy, this, ← h]
        rfl
    · cases h

/-- The slot holds nothing where the guard says no. -/
theorem skip_step (hR : Rel S0 w0 n s a w) {d : Nat} {r : AV} (hd : d < n) (hno : r.isOwner = false) (hrf : ∀ j, r.refs j = true → (s j).isOwner = true) :
    Rel S0 w0 n (Ab.put s d (.cond false r)) (a.put (some d) undef) w :=
  hR.put hd (World.grownBy.refl w none) hrf ⟨hno, by simp⟩ (fun b hb => by cases hb) (fun b hb => by cases hb)

theorem RepIn.cond {r : AV} {v : Value} (h : RepIn S0 w0 s a w r v) (hno : r.isOwner = false) : RepIn S0 w0 s a w (.cond true r) v := ⟨hno, by simpa using h⟩

theorem aguard_ok (hR : Rel S0 w0 n s a w) (o : Oper) {e : Bool} {K : St → Prop} (h : aguard P n s e o.op o.dst K) {K' : Act → World → Prop} {Q : Exit → Act → World → Prop}
    (hK : ∀ s' a' w', Rel S0 w0 n s' a' w' → K s' → K' a' w') : if e then o.wp P a w K' Q else K' (a.put o.dst undef) w := by
  obtain ⟨dst, op, type, pos, after, guard⟩ := o
  dsimp only at h
  cases dst with
  | none => exact h.elim
  | some d =>
    have plain : (e = true → (aval2 P s op).1) ∧ (aval2 P s op).2.isOwner = false ∧ d < n ∧ K (Ab.put s d (.cond e (aval2 P s op).2)) →
        if e then ({ dst := some d, op := op, type := type, pos := pos, after := after, guard := guard } : Oper).wp P a w K' Q else K' (a.put (some d) undef) w := by
      intro ⟨hp, hno, hd, hk⟩
      cases e with
      | false => exact hK _ _ _ (skip_step hR hd hno (fun j hj => aval2_refs hR.wf _ hj)) hk
      | true =>
        obtain ⟨v, h1, h2, h3⟩ := aval2_ok (P := P) hR { dst := some d, op := op, type := type, pos := pos, after := after, guard := guard } (hp rfl)
        exact value_step hR hd rfl ⟨v, h1, RepIn.cond h2 h3, rfl⟩ (fun j hj => aval2_refs (P := P) (op := op) hR.wf hj) (fun a' w' hR' => hK _ _ _ hR' hk)
    cases op <;> try (exact plain h)
    case call c =>
      obtain ⟨callee, args, argTypes⟩ := c
      simp only [aguard] at h
      split at h
      · rename_i f
        obtain ⟨r, hc, hfl, hd, hk⟩ := callG_of h
        cases e with
        | false => exact hK _ _ _ (skip_step hR hd (RV.notOwner r) (fun j hj => by cases r <;> cases hj)) hk
        | true =>
          refine acall_ok (P := P) hR (hc rfl) ⟨argTypes, rfl⟩ (fun v w' hg hrep hR' => ?_)
          have hac : afterCall s args.toList r = s := by unfold afterCall; rw [hfl]
          rw [hac] at hrep hR'
          exact hK _ _ _ (hR'.put (r := .cond true r.av) hd hg (fun j hj => by cases r <;> cases hj) ⟨RV.notOwner r, by simpa using hrep⟩ (fun b hb => by cases hb) (fun b hb => by cases hb)) hk
      · exact plain h

theorem aops_ok {ops : Array Oper} {Q' : Exit → Act → World → Prop} {K : St → Prop} : ∀ (l : List Oper) (s : St) (a : Act) (w : World), Rel S0 w0 n s a w → aops P n ops l s K →
    (∀ s' a' w', Rel S0 w0 n s' a' w' → K s' → Q' .normal a' w') → wpList P ops Q' l a w := by
  intro l
  induction l with
  | nil => intro s a w hR h hQ; exact hQ s a w hR h
  | cons o l ih =>
    intro s a w hR h hQ
    simp only [aops, aop] at h
    unfold wpList
    cases hg : o.guard with
    | none =>
      rw [hg] at h
      have hw : Region.wanted o (yielded ops a.tmps) = true := by simp [Region.wanted, hg]
      rw [if_pos hw]
      exact .inl (astep_ok (P := P) hR o h (fun s' a' w' hR' hk => ih s' a' w' hR' hk hQ))
    | some g =>
      rw [hg] at h
      simp only at h
      cases hv : gval ops s g with
      | none => rw [hv] at h; exact h.elim
      | some e =>
        rw [hv] at h
        have hw : Region.wanted o (yielded ops a.tmps) = e := by
          simp only [Region.wanted, hg]
          exact gval_ok hR hv
        have := aguard_ok (P := P) (Q := Q') hR o h (fun s' a' w' hR' hk => ih s' a' w' hR' hk hQ)
        rw [hw]
        cases e with
        | true => exact .inl this
        | false => exact this

end
end Go.Ab
