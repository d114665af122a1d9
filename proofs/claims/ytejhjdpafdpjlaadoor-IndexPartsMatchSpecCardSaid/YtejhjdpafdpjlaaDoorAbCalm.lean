/-
  Calm operations: what they yield hangs on their operands alone.
-/
import Derived.Test.YtejhjdpafdpjlaaDoorAbDraw
namespace Go.Ab
open Go Go.RowKit
set_option linter.unusedSectionVars false
variable [Amb]

/-- Two states agree on what an operand leads to. -/
def AgreeO (s s' : St) : Operand → Prop
  | .tmp t => s' t = s t ∧ ∀ b, (s t).refs b = true → s' b = s b
  | _ => True

section
variable {P : Program} {s s' : St}

theorem look_congr {x : Operand} (h : AgreeO s s' x) : look s' x = look s x := by
  cases x with
  | tmp t => simp only [look, h.1]
  | _ => rfl

theorem sv_congr {x : Operand} (h : AgreeO s s' x) : sv s' x = sv s x := by simp only [sv, look_congr h]

theorem base_congr {x : Operand} (h : AgreeO s s' x) {b : Nat} (hb : (sv s x).2.refs b = true) : s' b = s b := by
  have hl : (look s x).refs b = true := by
    unfold sv at hb
    generalize look s x = r at hb ⊢
    cases r with
    | cond e a => exact hb
    | _ => exact hb
  cases x with
  | tmp t =>
    simp only [look] at hl
    split at hl
    · obtain rfl : t = b := by simpa [AV.refs] using hl
      exact h.1
    · obtain rfl : t = b := by simpa [AV.refs] using hl
      exact h.1
    · obtain rfl : t = b := by simpa [AV.refs] using hl
      exact h.1
    · exact h.2 b hl
  | const v =>
    simp only [look, constAV] at hl
    split at hl
    · split at hl <;> cases hl
    · cases hl
    · split at hl <;> cases hl
  | _ => cases hl

theorem mem_congr {r : AV} (h : ∀ b, r.refs b = true → s' b = s b) : mem s' r = mem s r := by
  cases r with
  | ptr i off => simp only [mem, h i (by simp [AV.refs])]
  | eptr i k off => simp only [mem, h i (by simp [AV.refs])]
  | _ => rfl

theorem abound_congr {o : Option Operand} {z : Int} (h : ∀ x, o = some x → AgreeO s s' x) : abound s' o z = abound s o z := by
  cases o with
  | none => rfl
  | some x => simp only [abound, sv_congr (h x rfl)]

theorem fillC_congr : ∀ (parts : List (Nat × Operand)), (∀ x ∈ parts, AgreeO s s' x.2) → (parts.map fun x => (x.1, sv s' x.2)) = (parts.map fun x => (x.1, sv s x.2)) := by
  intro parts h
  apply List.map_congr_left
  intro x hx
  rw [sv_congr (h x hx)]

theorem aindexAddr_congr {t : TypeId} {x i : Prop × AV} (h : ∀ b, x.2.refs b = true → s' b = s b) : aindexAddr P s' t x i = aindexAddr P s t x i := by
  unfold aindexAddr
  split
  · rfl
  · simp only [h _ (beq_self_eq_true _)]
  · simp only [h _ (beq_self_eq_true _)]
  · rfl

theorem aslice_congr {t : TypeId} {x : Prop × AV} {lo hi mx : Option Operand} (h : ∀ b, x.2.refs b = true → s' b = s b) (h1 : ∀ z, abound s' lo z = abound s lo z) (h2 : ∀ z, abound s' hi z = abound s hi z) (h3 : ∀ z, abound s' mx z = abound s mx z) : aslice P s' t x lo hi mx = aslice P s t x lo hi mx := by
  unfold aslice
  split
  · simp only [h1, h2, h3]
  · simp only [h1, h2, h3]
  · simp only [h1, h2, h3]
  · simp only [h _ (beq_self_eq_true _), h1, h2, h3]
  · simp only [h _ (beq_self_eq_true _), h1, h2, h3]
  · rfl

theorem alen_congr {t : TypeId} {x : Prop × AV} (h : ∀ b, x.2.refs b = true → s' b = s b) : alen P s' t x = alen P s t x := by
  unfold alen
  split
  · rfl
  · rfl
  · rfl
  · rfl
  · simp only [h _ (beq_self_eq_true _)]
  · rfl
  · rfl

theorem alookup_congr {t : TypeId} {x k : Prop × AV} {ok : Bool} (h : ∀ b, x.2.refs b = true → s' b = s b) : alookup P s' t x k ok = alookup P s t x k ok := by
  unfold alookup
  split
  · simp only [h _ (beq_self_eq_true _)]
  · rfl

theorem aval2_congr (op : Op) (h : ∀ x ∈ op.operands, AgreeO s s' x) : aval2 P s' op = aval2 P s op := by
  cases op with
  | move x => exact sv_congr (h x (by simp [Op.operands]))
  | assign x => exact look_congr' (h x (by simp [Op.operands]))
  | pick c x y => simp only [aval2, aval, sv_congr (h c (by simp [Op.operands])), sv_congr (h x (by simp [Op.operands])), sv_congr (h y (by simp [Op.operands]))]
  | load t x =>
    have hx := h x (by simp [Op.operands])
    simp only [aval2, aval, sv_congr hx, mem_congr (fun b hb => base_congr hx hb)]
  | nilCheck x => simp only [aval2, aval, sv_congr (h x (by simp [Op.operands]))]
  | binOp op t x y yt => simp only [aval2, aval, sv_congr (h x (by simp [Op.operands])), sv_congr (h y (by simp [Op.operands]))]
  | unOp op t x => simp only [aval2, aval, sv_congr (h x (by simp [Op.operands]))]
  | convert src dst x => simp only [aval2, aval, sv_congr (h x (by simp [Op.operands]))]
  | slice t x lo hi mx =>
    have hx := h x (by simp [Op.operands])
    have h1 : ∀ z, abound s' lo z = abound s lo z := fun z => abound_congr (fun y hy => h y (by subst hy; simp [Op.operands]))
    have h2 : ∀ z, abound s' hi z = abound s hi z := fun z => abound_congr (fun y hy => h y (by subst hy; simp [Op.operands]))
    have h3 : ∀ z, abound s' mx z = abound s mx z := fun z => abound_congr (fun y hy => h y (by subst hy; simp [Op.operands]))
    simp only [aval2, aval, sv_congr hx, aslice_congr (fun b hb => base_congr hx hb) h1 h2 h3]
  | fieldAddr t x f => simp only [aval2, aval, sv_congr (h x (by simp [Op.operands]))]
  | field t x f => simp only [aval2, aval, sv_congr (h x (by simp [Op.operands]))]
  | indexAddr t x i =>
    have hx := h x (by simp [Op.operands])
    simp only [aval2, aval, sv_congr hx, sv_congr (h i (by simp [Op.operands])), aindexAddr_congr (fun b hb => base_congr hx hb)]
  | index t x i => simp only [aval2, aval, sv_congr (h x (by simp [Op.operands])), sv_congr (h i (by simp [Op.operands]))]
  | makeFunc fn first captured =>
    have : captured.toList.map (Ab.sv s') = captured.toList.map (Ab.sv s) := by
      apply List.map_congr_left
      intro x hx
      exact sv_congr (h x (by simp [Op.operands]; exact .inr (by simpa using hx)))
    simp only [aval2, aval, amakeFunc, this]
  | lookup t x k ok =>
    have hx := h x (by simp [Op.operands])
    simp only [aval2, aval, sv_congr hx, sv_congr (h k (by simp [Op.operands])), alookup_congr (fun b hb => base_congr hx hb)]
  | extract x i => simp only [aval2, aval, sv_congr (h x (by simp [Op.operands]))]
  | call c =>
    obtain ⟨callee, ⟨args⟩, ts⟩ := c
    have ha : ∀ x ∈ args, AgreeO s s' x := fun x hx => h x (by simp [Op.operands, Call.operands, hx])
    simp only [aval2, aval]
    unfold abuiltin
    split
    · split
      · rw [sv_congr (ha _ (by simp)), alen_congr (fun b hb => base_congr (ha _ (by simp)) hb)]
      · rfl
    · split
      · rw [sv_congr (ha _ (by simp))]
      · rfl
    · split
      · rw [sv_congr (ha _ (by simp)), sv_congr (ha _ (by simp))]
      · rfl
    · split
      · rw [sv_congr (ha _ (by simp)), sv_congr (ha _ (by simp))]
      · rfl
    · rfl
  | build t parts =>
    have : ∀ x ∈ parts.toList, AgreeO s s' x.2 := fun x hx => h x.2 (by simp only [Op.operands, List.mem_toArray, List.mem_map]; exact ⟨x, hx, rfl⟩)
    simp only [aval2, abuild, fillC_congr _ this]
  | _ => rfl
where look_congr' {x : Operand} (h : AgreeO s s' x) : ((True, look s' x) : Prop × AV) = (True, look s x) := by rw [look_congr h]

theorem argX_congr {x : Operand} (h : AgreeO s s' x) : argX s' x = argX s x := by
  have hb := fun b hb => base_congr h (b := b) hb
  simp only [argX, sv_congr h]
  generalize Ab.sv s x = r at hb
  obtain ⟨p, r⟩ := r
  cases r with
  | alias j => simp only [hb j (by simp [AV.refs])]
  | view j lo len wh => simp only [hb j (by simp [AV.refs])]
  | _ => rfl

theorem argXs_congr : ∀ (args : List Operand), (∀ x ∈ args, AgreeO s s' x) → argXs s' args = argXs s args
  | [], _ => rfl
  | x :: r, h => by simp only [argXs, argX_congr (h x (by simp)), argXs_congr r (fun y hy => h y (by simp [hy]))]

theorem lends_congr : ∀ (args : List Operand), (∀ x ∈ args, AgreeO s s' x) → lends s' args = lends s args
  | [], _ => rfl
  | x :: r, h => by simp only [lends, sv_congr (h x (by simp)), lends_congr r (fun y hy => h y (by simp [hy]))]

theorem acall_congr {f : Operand} {args : List Operand} {r : RV} (hf : AgreeO s s' f) (h : ∀ x ∈ args, AgreeO s s' x) : acall P s' f args r = acall P s f args r := by
  simp only [acall, callee, sv_congr hf, argXs_congr args h]

end

/-- What a calm operation yields. -/
def acalm (P : Program) (s : St) (op : Op) (r : AV) : Prop :=
  match op with
  | .alloc t => match zeroOf P t with
    | some cs => r = .box cs
    | none => False
  | .box _ x => match sv s x with
    | (p, .x xv) => p ∧ r = .box xv.cells
    | _ => False
  | .buildSlice t len parts => (abuildSlice P (sv s) t len parts.toList).1 ∧ r = (abuildSlice P (sv s) t len parts.toList).2
  | .call c => match c.callee with
    | .value f => ∃ rv : RV, acall P s f c.args.toList rv ∧ (rv.flat || (lends s c.args.toList).isEmpty) = true ∧ r = rv.av
    | _ => (aval2 P s (.call c)).1 ∧ r = (aval2 P s (.call c)).2
  | op => (aval2 P s op).1 ∧ r = (aval2 P s op).2

theorem acalm_congr {P : Program} {s s' : St} (op : Op) (r : AV) (h : ∀ x ∈ op.operands, AgreeO s s' x) : acalm P s' op r ↔ acalm P s op r := by
  cases op with
  | alloc t => exact Iff.rfl
  | box t x => simp only [acalm, sv_congr (h x (by simp [Op.operands]))]
  | buildSlice t len parts =>
    have : ∀ x ∈ parts.toList, AgreeO s s' x.2 := fun x hx => h x.2 (by simp only [Op.operands, List.mem_toArray, List.mem_map]; exact ⟨x, hx, rfl⟩)
    simp only [acalm, abuildSlice, fillC_congr _ this]
  | call c =>
    obtain ⟨callee, ⟨args⟩, ts⟩ := c
    have ha : ∀ x ∈ args, AgreeO s s' x := fun x hx => h x (by simp [Op.operands, Call.operands, hx])
    cases callee with
    | value f =>
      have hf : AgreeO s s' f := h f (by simp [Op.operands, Call.operands])
      simp only [acalm, acall_congr hf ha, lends_congr args ha]
    | _ => simp only [acalm, aval2_congr _ h]
  | _ => simp only [acalm, aval2_congr _ h]

/-- What a calm operation under a guard yields, where the guard lets by. -/
def acalmG (P : Program) (s : St) (e : Bool) (op : Op) (r : AV) : Prop :=
  match op with
  | .call c => match c.callee with
    | .value f => callG P e (callee s f c.args.toList) (fun rv => r = .cond e rv.av)
    | _ => (e = true → (aval2 P s (.call c)).1) ∧ (aval2 P s (.call c)).2.isOwner = false ∧ r = .cond e (aval2 P s (.call c)).2
  | op => (e = true → (aval2 P s op).1) ∧ (aval2 P s op).2.isOwner = false ∧ r = .cond e (aval2 P s op).2

theorem acalmG_congr {P : Program} {s s' : St} {e : Bool} (op : Op) (r : AV) (h : ∀ x ∈ op.operands, AgreeO s s' x) : acalmG P s' e op r ↔ acalmG P s e op r := by
  cases op with
  | call c =>
    obtain ⟨callee, ⟨args⟩, ts⟩ := c
    have ha : ∀ x ∈ args, AgreeO s s' x := fun x hx => h x (by simp [Op.operands, Call.operands, hx])
    cases callee with
    | value f =>
      have hf : AgreeO s s' f := h f (by simp [Op.operands, Call.operands])
      simp only [acalmG, callee, sv_congr hf, argXs_congr args ha]
    | _ => simp only [acalmG, aval2_congr _ h]
  | _ => simp only [acalmG, aval2_congr _ h]

/-- A calm step. -/
def calmStep (P : Program) (n : Nat) (ops : Array Oper) (o : Oper) (s s' : St) : Prop :=
  ∃ d r, o.dst = some d ∧ d < n ∧ (s d).isOwner = false ∧ s' = put s d r ∧
    match o.guard with
    | none => acalm P s o.op r
    | some g => ∃ e, gval ops s g = some e ∧ acalmG P s e o.op r

theorem gval_congr {ops : Array Oper} {s s' : St} {g : Nat × Bool} (h : ∀ d, (ops[g.1]?).bind (·.dst) = some d → s' d = s d) : gval ops s' g = gval ops s g := by
  unfold gval
  cases hd : (ops[g.1]?).bind (·.dst) with
  | none => rfl
  | some d => simp only [h d hd]

theorem put_calm {s : St} {d : Nat} {r : AV} (h : (s d).isOwner = false) (i : Nat) : put s d r i = if i = d then (match r.refs d with | true => .dead | false => r) else s i := by
  unfold put; rw [h]; rfl

theorem agree_put {s : St} {d : Nat} {r : AV} (hw : Wf s) (h : (s d).isOwner = false) {x : Operand} (hx : x ≠ .tmp d) : AgreeO s (put s d r) x := by
  cases x with
  | tmp t =>
    have ht : t ≠ d := fun e => hx (by rw [e])
    refine ⟨by rw [put_calm h, if_neg ht], fun b hb => ?_⟩
    have hbd : b ≠ d := by
      rintro rfl
      have := hw t b hb
      rw [h] at this; cases this
    rw [put_calm h, if_neg hbd]
  | _ => trivial

/-- TWO CALM STEPS APART MAY BE EXCHANGED. -/
theorem calm_comm {P : Program} {n : Nat} {ops : Array Oper} {oi oj : Oper} {s s1 s2 : St} (hap : oi.apart ops oj = true) (hw : Wf s)
    (hi : calmStep P n ops oi s s1) (hj : calmStep P n ops oj s1 s2) : ∃ s1', calmStep P n ops oj s s1' ∧ calmStep P n ops oi s1' s2 := by
  obtain ⟨di, ri, hdi, hin, hoi, rfl, hvi⟩ := hi
  obtain ⟨dj, rj, hdj, hjn, hoj, rfl, hvj⟩ := hj
  obtain ⟨h1, h2, h3⟩ := Oper.apart_spec hap
  have hne : dj ≠ di := fun e => h2 di hdi (by rw [hdj, e])
  have hoj' : (s dj).isOwner = false := by rw [put_calm hoi, if_neg hne] at hoj; exact hoj
  have hoi' : (put s dj rj di).isOwner = false := by rw [put_calm hoj', if_neg (Ne.symm hne)]; exact hoi
  have ag : ∀ (o : Oper) (d : Nat), d ∉ o.looksAt ops → ∀ x ∈ o.op.operands, x ≠ .tmp d := by
    intro o d hd x hx e
    subst e
    exact hd (by simp only [Oper.looksAt, List.mem_append, List.mem_filterMap]; exact .inl ⟨.tmp d, by simpa using hx, rfl⟩)
  have gd : ∀ (o : Oper) (d : Nat) (g : Nat × Bool), d ∉ o.looksAt ops → o.guard = some g → ∀ d', (ops[g.1]?).bind (·.dst) = some d' → d' ≠ d := by
    intro o d g hd hg d' hd' e
    subst e
    refine hd ?_
    simp only [Oper.looksAt, List.mem_append, hg, hd']
    exact .inr (by simp)
  refine ⟨put s dj rj, ⟨dj, rj, hdj, hjn, hoj', rfl, ?_⟩, ⟨di, ri, hdi, hin, hoi', ?_, ?_⟩⟩
  · have hag : ∀ x ∈ oj.op.operands, AgreeO s (put s di ri) x := fun x hx => agree_put hw hoi (ag oj di (h1 di hdi) x hx)
    cases hg : oj.guard with
    | none => rw [hg] at hvj; exact (acalm_congr _ _ hag).1 hvj
    | some g =>
      rw [hg] at hvj
      obtain ⟨e, he, hv⟩ := hvj
      refine ⟨e, ?_, (acalmG_congr _ _ hag).1 hv⟩
      rw [← he]
      exact (gval_congr (fun d' hd' => by rw [put_calm hoi, if_neg (gd oj di g (h1 di hdi) hg d' hd')])).symm
  · funext k
    rw [put_calm hoj, put_calm hoi, put_calm hoi', put_calm hoj']
    by_cases hkj : k = dj
    · subst hkj; simp [hne]
    · by_cases hki : k = di
      · subst hki; simp [hkj]
      · simp [hkj, hki]
  · have hag : ∀ x ∈ oi.op.operands, AgreeO s (put s dj rj) x := fun x hx => agree_put hw hoj' (ag oi dj (h3 dj hdj) x hx)
    cases hg : oi.guard with
    | none => rw [hg] at hvi; exact (acalm_congr _ _ hag).2 hvi
    | some g =>
      rw [hg] at hvi
      obtain ⟨e, he, hv⟩ := hvi
      refine ⟨e, ?_, (acalmG_congr _ _ hag).2 hv⟩
      rw [← he]
      exact gval_congr (fun d' hd' => by rw [put_calm hoj', if_neg (gd oi dj g (h3 dj hdj) hg d' hd')])

end Go.Ab
