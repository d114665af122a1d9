/-
  Operations with a guard; a list of operations in their order.
-/
import Derived.Test.YtejhjdpafdpjlaaDoorAbOp
namespace Go.Ab
open Go Go.RowKit
set_option linter.unusedSectionVars false
variable [Amb]

/-- Does the guard let by? -/
def gval (ops : Array Oper) (s : St) (g : Nat × Bool) : Option Bool :=
  match (ops[g.1]?).bind (·.dst) with
  | some d => match s d with
    | .x (.one (.bool b)) => some (b == g.2)
    | .cond e (.x (.one (.bool b))) => some (e && (b == g.2))
    | _ => none
  | none => none

/-- A step that is taken where e holds; else the slot holds nothing. -/
def aguard (P : Program) (n : Nat) (s : St) (e : Bool) (op : Op) (dst : Option Tmp) (K : St → Prop) : Prop :=
  match dst with
  | some d => match op with
    | .call c => match c.callee with
      | .value f => callG P e (callee s f c.args.toList) (fun r => d < n ∧ K (put s d (.cond e r.av)))
      | _ => (e = true → (aval2 P s (.call c)).1) ∧ (aval2 P s (.call c)).2.isOwner = false ∧ d < n ∧ K (put s d (.cond e (aval2 P s (.call c)).2))
    | op => (e = true → (aval2 P s op).1) ∧ (aval2 P s op).2.isOwner = false ∧ d < n ∧ K (put s d (.cond e (aval2 P s op).2))
  | none => False

def aop (P : Program) (n : Nat) (ops : Array Oper) (o : Oper) (s : St) (K : St → Prop) : Prop :=
  match o.guard with
  | none => astep P n s o.op o.dst K
  | some g => match gval ops s g with
    | some e => aguard P n s e o.op o.dst K
    | none => False

def aops (P : Program) (n : Nat) (ops : Array Oper) : List Oper → St → (St → Prop) → Prop
  | [], s, K => K s
  | o :: r, s, K => aop P n ops o s (fun s' => aops P n ops r s' K)

section
variable {P : Program} {S0 : Env} {w0 w : World} {n : Nat} {s : St} {a : Act}

/-- What is known is known under a guard that lets by. -/
theorem Rel.condIn {d : Nat} {s' : St} (hR : Rel S0 w0 n s a w) (hdn : d < n) (hno : (s d).isOwner = false) (h : ∀ i, s' i = if i = d then .cond true (s d) else s i) : Rel S0 w0 n s' a w := by
  have hd : s' d = .cond true (s d) := by rw [h, if_pos rfl]
  have ho : ∀ i, i ≠ d → s' i = s i := fun i hi => by rw [h, if_neg hi]
  have hblk : ∀ i b, blkOf (s' i) (tmOf a i) = some b → blkOf (s i) (tmOf a i) = some b := by
    intro i b hb
    by_cases hi : i = d
    · subst hi; rw [hd] at hb; cases hb
    · rw [ho i hi] at hb; exact hb
  have hsub : ∀ b, Shared S0 w0.heap.size w s (tmOf a) b → Shared S0 w0.heap.size w s' (tmOf a) b := fun b hb => ⟨hb.1, hb.2.1, fun i hi => hb.2.2 i (hblk i b hi)⟩
  have hk : ∀ k, (s k).isOwner = true → s' k = s k := by
    intro k hk
    refine ho k ?_
    rintro rfl
    rw [hno] at hk; cases hk
  have hrefs : ∀ k, (tmOf a k = tmOf a k ∧ ((s k).isOwner = true → (s' k).isOwner = true ∧ (s' k).size = (s k).size ∧ (s' k).len = (s k).len) ∧ (∀ b, blkOf (s k) (tmOf a k) = some b → blkOf (s' k) (tmOf a k) = some b)) := by
    intro k
    refine ⟨rfl, fun h => by rw [hk k h]; exact ⟨h, rfl, rfl⟩, fun b hb => ?_⟩
    have hko : (s k).isOwner = true := by
      cases h : (s k).isOwner with
      | true => rfl
      | false => rw [blkOf_notOwner h] at hb; cases hb
    rw [hk k hko]; exact hb
  refine ⟨hR.defers, hR.size, hR.below, hR.lt, fun i => ?_, fun i j b hi hj => hR.inj i j b (hblk i b hi) (hblk j b hj), fun i hi => ?_, fun i j hij => ?_, hR.pin⟩
  · by_cases hi : i = d
    · subst hi
      rw [hd]
      exact ⟨hno, (hR.rep i).mono hsub (fun _ _ => rfl) (fun _ _ => rfl) (fun k _ => hrefs k)⟩
    · rw [ho i hi]
      exact (hR.rep i).mono hsub (fun _ _ => rfl) (fun _ _ => rfl) (fun k _ => hrefs k)
  · by_cases hid : i = d
    · subst hid
      exact absurd hi (by omega)
    · rw [ho i hid]; exact hR.out i hi
  · have : (s i).refs j = true := by
      by_cases hi : i = d
      · subst hi; rw [hd] at hij; exact hij
      · rw [ho i hi] at hij; exact hij
    have hjo := hR.wf i j this
    rw [hk j hjo]; exact hjo

theorem gval_ok (hR : Rel S0 w0 n s a w) {ops : Array Oper} {g : Nat × Bool} {e : Bool} (h : gval ops s g = some e) : (yielded ops a.tmps g.1 == some g.2) = e := by
  unfold gval at h
  cases hd : (ops[g.1]?).bind (·.dst) with
  | none => rw [hd] at h; cases h
  | some d =>
    rw [hd] at h
    have hrep := hR.rep d
    have hy : yielded ops a.tmps g.1 = match a.tmps[d]? with | some (.bool b) => some b | _ => none := by
      unfold yielded
      rw [hd]
      rfl
    have htm : ∀ b, tmOf a d = .bool b → a.tmps[d]? = some (.bool b) := by
      intro b hb
      simp only [tmOf, Array.getD_eq_getD_getElem?] at hb
      cases hx : a.tmps[d]? with
      | none => rw [hx] at hb; cases hb
      | some v => rw [hx] at hb; simp at hb; rw [hb]
    simp only at h
    split at h
    · rename_i b hs
      injection h with h
      rw [hs] at hrep
      rw [hy, htm b (rep_bool hrep), ← h]
      cases b <;> cases g.2 <;> rfl
    · rename_i e' b hs
      injection h with h
      rw [hs] at hrep
      obtain ⟨_, hrep⟩ := hrep
      cases e' with
      | true =>
        rw [hy, htm b (rep_bool hrep), ← h]
        cases b <;> cases g.2 <;> rfl
      | false =>
        have hu : tmOf a d = undef := hrep
        have : (match a.tmps[d]? with | some (Value.bool b) => some b | _ => none) = none := by
          simp only [tmOf, Array.getD_eq_getD_getElem?] at hu
          cases hx : a.tmps[d]? with
          | none => rfl
          | some v => rw [hx] at hu; simp at hu; rw [hu]; rfl
        rw [hy, this, ← h]
        rfl
    · cases h

/-- The slot holds nothing where the guard says no. -/
theorem skip_step (hR : Rel S0 w0 n s a w) {d : Nat} {r : AV} (hd : S0.m ≤ d ∧ d < n) (hno : r.isOwner = false) (hrf : ∀ j, r.refs j = true → (s j).isOwner = true) :
    Rel S0 w0 n (Ab.put s d (.cond false r)) (a.put (some d) undef) w :=
  hR.put hd (World.grownBy.refl w none) hrf ⟨hno, by simp⟩ (fun b hb => by cases hb) (fun b hb => by cases hb)

theorem RepIn.cond {r : AV} {v : Value} (h : RepIn S0 w0 s a w r v) (hno : r.isOwner = false) : RepIn S0 w0 s a w (.cond true r) v := ⟨hno, by simpa using h⟩

theorem aguard_ok (hR : Rel S0 w0 n s a w) (o : Oper) (hdm : ∀ d, o.dst = some d → S0.m ≤ d) {e : Bool} {K : St → Prop} (h : aguard P n s e o.op o.dst K) {K' : Act → World → Prop} {Q : Exit → Act → World → Prop}
    (hK : ∀ s' a' w', Rel S0 w0 n s' a' w' → K s' → K' a' w') : if e then o.wp P a w K' Q else K' (a.put o.dst undef) w := by
  obtain ⟨dst, op, type, pos, after, guard⟩ := o
  dsimp only at h hdm
  cases dst with
  | none => exact h.elim
  | some d =>
    have hm := hdm d rfl
    have plain : (e = true → (aval2 P s op).1) ∧ (aval2 P s op).2.isOwner = false ∧ d < n ∧ K (Ab.put s d (.cond e (aval2 P s op).2)) →
        if e then ({ dst := some d, op := op, type := type, pos := pos, after := after, guard := guard } : Oper).wp P a w K' Q else K' (a.put (some d) undef) w := by
      intro ⟨hp, hno, hd, hk⟩
      cases e with
      | false => exact hK _ _ _ (skip_step hR ⟨hm, hd⟩ hno (fun j hj => aval2_refs hR.wf _ hj)) hk
      | true =>
        obtain ⟨v, h1, h2, h3⟩ := aval2_ok (P := P) hR { dst := some d, op := op, type := type, pos := pos, after := after, guard := guard } (hp rfl)
        exact value_step hR ⟨hm, hd⟩ rfl ⟨v, h1, RepIn.cond h2 h3, rfl⟩ (fun j hj => aval2_refs (P := P) (op := op) hR.wf hj) (fun a' w' hR' => hK _ _ _ hR' hk)
    cases op <;> try (exact plain h)
    case call c =>
      obtain ⟨callee, args, argTypes⟩ := c
      simp only [aguard] at h
      split at h
      · rename_i f
        obtain ⟨r, hc, hfl, hd, hk⟩ := callG_of h
        cases e with
        | false => exact hK _ _ _ (skip_step hR ⟨hm, hd⟩ (by cases r <;> first | rfl | cases hfl) (fun j hj => by cases r <;> cases hj)) hk
        | true =>
          refine acall_ok (P := P) hR (hc rfl) ⟨argTypes, rfl⟩ ⟨hm, hd⟩ rfl (fun a' w' hR' => ?_)
          have hac : afterCall s args.toList r = s := by unfold afterCall; rw [hfl]
          rw [hac] at hR'
          refine hK _ _ _ (hR'.condIn (d := d) (hdn := hd) (s' := Ab.put s d (.cond true r.av)) (by rw [put_same (by cases r <;> rfl)]; cases r <;> first | rfl | cases hfl) (fun i => ?_)) hk
          by_cases hi : i = d
          · subst hi
            rw [if_pos rfl, put_same (by cases r <;> rfl), put_same (by cases r <;> rfl)]
          · rw [if_neg hi]
            unfold Ab.put
            cases (s d).isOwner <;> simp [hi]
      · exact plain h

theorem aops_ok {ops : Array Oper} {Q' : Exit → Act → World → Prop} {K : St → Prop} : ∀ (l : List Oper) (s : St) (a : Act) (w : World), (∀ o ∈ l, ∀ d, o.dst = some d → S0.m ≤ d) → Rel S0 w0 n s a w → aops P n ops l s K →
    (∀ s' a' w', Rel S0 w0 n s' a' w' → K s' → Q' .normal a' w') → wpList P ops Q' l a w := by
  intro l
  induction l with
  | nil => intro s a w _ hR h hQ; exact hQ s a w hR h
  | cons o l ih =>
    intro s a w hl hR h hQ
    have hl' : ∀ o ∈ l, ∀ d, o.dst = some d → S0.m ≤ d := fun o ho => hl o (List.mem_cons_of_mem _ ho)
    have ho := hl o List.mem_cons_self
    simp only [aops, aop] at h
    unfold wpList
    cases hg : o.guard with
    | none =>
      rw [hg] at h
      have hw : Region.wanted o (yielded ops a.tmps) = true := by simp [Region.wanted, hg]
      rw [if_pos hw]
      exact .inl (astep_ok (P := P) hR o ho h (fun s' a' w' hR' hk => ih s' a' w' hl' hR' hk hQ))
    | some g =>
      rw [hg] at h
      simp only at h
      cases hv : gval ops s g with
      | none => rw [hv] at h; exact h.elim
      | some e =>
        rw [hv] at h
        have hw : Region.wanted o (yielded ops a.tmps) = e := by
          simp only [Region.wanted, hg]
          exact gval_ok hR hv
        have := aguard_ok (P := P) (Q := Q') hR o ho h (fun s' a' w' hR' hk => ih s' a' w' hl' hR' hk hQ)
        rw [hw]
        cases e with
        | true => exact .inl this
        | false => exact this

end
end Go.Ab
