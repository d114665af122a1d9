/-
  A region of operations.
-/
import Derived.Test.YtdciogjhkckigaaDoorAbCalm
namespace Go.Ab
open Go Go.RowKit
set_option linter.unusedSectionVars false
variable [Amb]

def makesOwn : Op → Bool
  | .buildSlice _ _ _ => true
  | .makeMap _ _ => true
  | .call c => match c.callee with
    | .builtin .append => true
    | _ => false
  | _ => false

/-- May the operation be exchanged with others? -/
def calmB (ops : Array Oper) (op : Op) : Bool :=
  match op with
  | .store _ _ _ => false
  | .makeMap _ _ => false
  | .mapUpdate _ _ _ _ => false
  | .assign (.tmp t) => !(ops.toList.any fun o => o.dst == some t && makesOwn o.op)
  | .call c => match c.callee with
    | .builtin .append => false
    | _ => true
  | _ => true

/-- A calm step, as it is run. -/
def aopD (P : Program) (n : Nat) (ops : Array Oper) (o : Oper) (s : St) (K : St → Prop) : Prop :=
  match o.dst with
  | none => False
  | some d => d < n ∧ (s d).isOwner = false ∧
    match o.guard with
    | none => match o.op with
      | .alloc t => match zeroOf P t with
        | some cs => K (put s d (.box cs))
        | none => False
      | .box _ x => match sv s x with
        | (p, .x xv) => p ∧ K (put s d (.box xv.cells))
        | _ => False
      | .buildSlice t len parts => (abuildSlice P (sv s) t len parts.toList).1 ∧ K (put s d (abuildSlice P (sv s) t len parts.toList).2)
      | .call c => match c.callee with
        | .value f => ∃ rv : RV, acall P s f c.args.toList rv ∧ (rv.flat || (lends s c.args.toList).isEmpty) = true ∧ K (put s d rv.av)
        | _ => (aval2 P s (.call c)).1 ∧ K (put s d (aval2 P s (.call c)).2)
      | op => (aval2 P s op).1 ∧ K (put s d (aval2 P s op).2)
    | some g => match gval ops s g with
      | some e => match o.op with
        | .call c => match c.callee with
          | .value f => callG P e (callee s f c.args.toList) (fun rv => K (put s d (.cond e rv.av)))
          | _ => (e = true → (aval2 P s (.call c)).1) ∧ (aval2 P s (.call c)).2.isOwner = false ∧ K (put s d (.cond e (aval2 P s (.call c)).2))
        | op => (e = true → (aval2 P s op).1) ∧ (aval2 P s op).2.isOwner = false ∧ K (put s d (.cond e (aval2 P s op).2))
      | none => False

theorem aopD_step {P : Program} {n : Nat} {ops : Array Oper} {o : Oper} {s : St} {K : St → Prop} (h : aopD P n ops o s K) : ∃ s', calmStep P n ops o s s' ∧ K s' := by
  unfold aopD at h
  cases hd : o.dst with
  | none => rw [hd] at h; exact h.elim
  | some d =>
    rw [hd] at h
    obtain ⟨hn, ho, h⟩ := h
    unfold calmStep
    cases hg : o.guard with
    | none =>
      rw [hg] at h
      simp only at h ⊢
      cases hop : o.op with
      | alloc t =>
        rw [hop] at h
        simp only at h
        cases hz : zeroOf P t with
        | none => rw [hz] at h; exact h.elim
        | some cs => rw [hz] at h; exact ⟨_, ⟨d, _, hd, hn, ho, rfl, by simp only [acalm, hz]⟩, h⟩
      | box t x =>
        rw [hop] at h
        simp only at h
        split at h
        · rename_i p xv e
          exact ⟨_, ⟨d, _, hd, hn, ho, rfl, by simp only [acalm, e]; first | exact ⟨h.1, rfl⟩ | exact ⟨h.1, trivial⟩⟩, h.2⟩
        · exact h.elim
      | buildSlice t len parts => rw [hop] at h; exact ⟨_, ⟨d, _, hd, hn, ho, rfl, h.1, rfl⟩, h.2⟩
      | call c =>
        rw [hop] at h
        simp only at h
        cases hc : c.callee with
        | value f =>
          rw [hc] at h
          obtain ⟨rv, h1, h2, h3⟩ := h
          exact ⟨_, ⟨d, _, hd, hn, ho, rfl, by simp only [acalm, hc]; exact ⟨rv, h1, h2, rfl⟩⟩, h3⟩
        | _ => rw [hc] at h; exact ⟨_, ⟨d, _, hd, hn, ho, rfl, by simp only [acalm, hc]; first | exact ⟨h.1, rfl⟩ | exact ⟨h.1, trivial⟩⟩, h.2⟩
      | _ => rw [hop] at h; exact ⟨_, ⟨d, _, hd, hn, ho, rfl, h.1, rfl⟩, h.2⟩
    | some g =>
      rw [hg] at h
      simp only at h ⊢
      cases he : gval ops s g with
      | none => rw [he] at h; exact h.elim
      | some e =>
        rw [he] at h
        simp only at h
        cases hop : o.op with
        | call c =>
          rw [hop] at h
          simp only at h
          cases hc : c.callee with
          | value f =>
            rw [hc] at h
            obtain ⟨rv, h1, h3⟩ := callG_exact h
            exact ⟨_, ⟨d, .cond e rv.av, hd, hn, ho, rfl, e, rfl, by simp only [acalmG, hc]; exact h1 _ rfl⟩, h3⟩
          | _ => rw [hc] at h; exact ⟨_, ⟨d, _, hd, hn, ho, rfl, e, rfl, by simp only [acalmG, hc]; first | exact ⟨h.1, h.2.1, rfl⟩ | exact ⟨h.1, h.2.1, trivial⟩⟩, h.2.2⟩
        | _ => rw [hop] at h; exact ⟨_, ⟨d, _, hd, hn, ho, rfl, e, rfl, h.1, h.2.1, rfl⟩, h.2.2⟩

def aopsD (P : Program) (n : Nat) (ops : Array Oper) : List Oper → St → (St → Prop) → Prop
  | [], s, K => K s
  | o :: r, s, K => match calmB ops o.op with
    | true => aopD P n ops o s (fun s' => aopsD P n ops r s' K)
    | false => aop P n ops o s (fun s' => aopsD P n ops r s' K)

theorem acalm_refs {P : Program} {s : St} (hw : Wf s) {op : Op} {r : AV} (h : acalm P s op r) {j : Nat} (hr : r.refs j = true) : (s j).isOwner = true := by
  cases op with
  | alloc t =>
    simp only [acalm] at h
    split at h
    · subst h; cases hr
    · exact h.elim
  | box t x =>
    simp only [acalm] at h
    split at h
    · obtain ⟨_, rfl⟩ := h; cases hr
    · exact h.elim
  | buildSlice t len parts =>
    obtain ⟨_, rfl⟩ := h
    simp only [abuildSlice] at hr
    split at hr <;> cases hr
  | call c =>
    simp only [acalm] at h
    split at h
    · obtain ⟨rv, _, _, rfl⟩ := h
      cases rv <;> cases hr
    · obtain ⟨_, rfl⟩ := h; exact aval2_refs hw _ hr
  | _ => obtain ⟨_, rfl⟩ := h; exact aval2_refs hw _ hr

theorem acalmG_refs {P : Program} {s : St} (hw : Wf s) {e : Bool} {op : Op} {r : AV} (h : acalmG P s e op r) {j : Nat} (hr : r.refs j = true) : (s j).isOwner = true := by
  cases op with
  | call c =>
    simp only [acalmG] at h
    split at h
    · obtain ⟨rv, _, _, rfl⟩ := callG_of h
      cases rv <;> cases hr
    · obtain ⟨_, _, rfl⟩ := h; exact aval2_refs (P := P) (op := .call c) hw hr
  | _ => obtain ⟨_, _, rfl⟩ := h; exact aval2_refs hw _ hr

theorem calm_wf {P : Program} {n : Nat} {ops : Array Oper} {o : Oper} {s s' : St} (hw : Wf s) (h : calmStep P n ops o s s') : Wf s' := by
  obtain ⟨d, r, _, _, _, rfl, hv⟩ := h
  refine put_wf hw (fun j hj => ?_)
  cases hg : o.guard with
  | none => rw [hg] at hv; exact acalm_refs hw hv hj
  | some g => rw [hg] at hv; obtain ⟨e, _, hv⟩ := hv; exact acalmG_refs hw hv hj

theorem freeze_wf {s : St} (hw : Wf s) (i : Nat) : Wf (freeze s i) := by
  intro j k hjk
  have hj' : (s j).refs k = true := by
    unfold freeze at hjk
    by_cases hj : j = i
    · subst hj
      simp only [if_pos] at hjk
      rcases frozenAV_own (a := s j) with ⟨e, size, xs, hs⟩ | hs
      · rw [hs] at hjk; cases hjk
      · rw [hs] at hjk; exact hjk
    · simp only [if_neg hj] at hjk
      cases hr : (s j).refs i with
      | true => rw [hr] at hjk; cases hjk
      | false => rw [hr] at hjk; exact hjk
  have hko := hw j k hj'
  have hki : k ≠ i := by
    rintro rfl
    unfold freeze at hjk
    by_cases hj : j = k
    · subst hj; have := refs_owner hj'; rw [this] at hko; cases hko
    · simp only [if_neg hj, hj', if_true] at hjk; cases hjk
  have : freeze s i k = s k := by
    unfold freeze
    cases hr : (s k).refs i with
    | true => rw [refs_owner hr] at hko; cases hko
    | false => simp [hki]
  rw [this]; exact hko

theorem freezeL_wf : ∀ (l : List Nat) {s : St}, Wf s → Wf (freezeL s l)
  | [], _, h => h
  | i :: r, _, h => freezeL_wf r (freeze_wf h i)

theorem owner_wf {s : St} (hw : Wf s) {i : Nat} {r : AV} (ho : (s i).isOwner = true) (hr : r.isOwner = true) : Wf (fun j => if j = i then r else s j) := by
  intro j k hjk
  have hj' : (s j).refs k = true := by
    by_cases hj : j = i
    · subst hj
      simp only [if_pos] at hjk
      have := refs_owner hjk
      rw [hr] at this; cases this
    · simpa only [if_neg hj] using hjk
  have := hw j k hj'
  by_cases hk : k = i
  · simp only [if_pos hk]; exact hr
  · simp only [if_neg hk]; exact this

theorem astore_wf {P : Program} {s : St} (hw : Wf s) {t : TypeId} {x y : Prop × AV} : Wf (astore P s t x y).2 := by
  unfold astore
  split
  · split
    · rename_i hs; exact owner_wf hw (by rw [hs]; rfl) rfl
    · exact hw
  · split
    · rename_i hs; exact owner_wf hw (by rw [hs]; rfl) rfl
    · exact hw
  · exact hw

theorem aappend_wf {P : Program} {s : St} (hw : Wf s) {t t' : TypeId} {x y : Prop × AV} : Wf (aappend P s t t' x y).2.1 ∧ ∀ j, (aappend P s t t' x y).2.2.refs j = false := by
  unfold aappend
  split
  · split
    · exact ⟨put_wf (v := .dead) hw (fun j h => (by cases h)), fun _ => rfl⟩
    · exact ⟨hw, fun _ => rfl⟩
    · exact ⟨hw, fun _ => rfl⟩
  · exact ⟨hw, fun _ => rfl⟩

theorem amapUpdate_wf {P : Program} {s : St} (hw : Wf s) {t : TypeId} {m k x : Prop × AV} : Wf (amapUpdate P s t m k x).2 := by
  unfold amapUpdate
  split
  · split
    · rename_i hs
      split
      · exact owner_wf hw (by rw [hs]; rfl) rfl
      · exact hw
    · exact hw
  · exact hw

/-- An argument's slot holds what is told. -/
theorem argM_slot {s : St} {x : Operand} {p : Prop} {y : AV} {i : Nat} (h : argM s x = (p, some (y, some i))) : s i = y ∧ y.isOwner = true := by
  unfold argM at h
  split at h
  · simp at h
  · split at h
    · rename_i hs; simp only [Prod.mk.injEq, Option.some.injEq] at h; obtain ⟨_, rfl, rfl⟩ := h; exact ⟨hs, rfl⟩
    · rename_i hs; simp only [Prod.mk.injEq, Option.some.injEq] at h; obtain ⟨_, rfl, rfl⟩ := h; exact ⟨hs, rfl⟩
    · simp at h
  · split at h
    · rename_i hs; simp only [Prod.mk.injEq, Option.some.injEq] at h; obtain ⟨_, rfl, rfl⟩ := h; exact ⟨hs, rfl⟩
    · simp at h
  · simp at h
theorem argMs_slot {s : St} : ∀ {l : List Operand} {p : Prop} {ys : List (AV × Option Nat)}, argMs s l = (p, some ys) → ∀ (y : AV) (i : Nat), (y, some i) ∈ ys → s i = y ∧ y.isOwner = true
  | [], p, ys, h, y, i, hm => by
    simp only [argMs, Prod.mk.injEq, Option.some.injEq] at h
    obtain ⟨_, rfl⟩ := h
    cases hm
  | x :: l, p, ys, h, y, i, hm => by
    simp only [argMs] at h
    split at h
    · rename_i q v q' vs e1 e2
      simp only [Prod.mk.injEq, Option.some.injEq] at h
      obtain ⟨_, rfl⟩ := h
      rcases List.mem_cons.1 hm with e | e
      · subst e; exact argM_slot e1
      · exact argMs_slot e2 y i e
    · simp at h
theorem capMs_slot {s : St} : ∀ {l : List (CV ⊕ (Nat × Nat))} {ys : List (AV × Option Nat)}, capMs s l = some ys → ∀ (y : AV) (i : Nat), (y, some i) ∈ ys → s i = y ∧ y.isOwner = true
  | [], ys, h, y, i, hm => by
    simp only [capMs, Option.some.injEq] at h
    subst h; cases hm
  | c :: l, ys, h, y, i, hm => by
    simp only [capMs] at h
    split at h
    · rename_i x xs e1 e2
      injection h with h
      subst h
      rcases List.mem_cons.1 hm with e | e
      · subst e
        unfold capM at e1
        split at e1
        · injection e1 with e1; simp at e1
        · split at e1
          · rename_i hs; injection e1 with e1; simp only [Prod.mk.injEq, Option.some.injEq] at e1; obtain ⟨rfl, rfl⟩ := e1; exact ⟨hs, rfl⟩
          · cases e1
        · cases e1
      · exact capMs_slot e2 y i e
    · cases h
theorem calleeM_slot {s : St} {f : Operand} {args : List Operand} {p : Prop} {g : FuncId} {ys : List (AV × Option Nat)} (h : calleeM s f args = (p, some (g, ys))) (y : AV) (i : Nat) (hm : (y, some i) ∈ ys) : s i = y ∧ y.isOwner = true := by
  unfold calleeM at h
  split at h
  · rename_i p' fv q xs ef e2
    split at h
    · rename_i g' caps e1
      simp only [Prod.mk.injEq, Option.some.injEq] at h
      obtain ⟨_, rfl, rfl⟩ := h
      rcases List.mem_append.1 hm with hm | hm
      · exact argMs_slot e2 y i hm
      · unfold fnM at e1
        split at e1
        · cases hc : capMs s _ with
          | none => rw [hc] at e1; cases e1
          | some zs =>
            rw [hc] at e1
            simp only [Option.map_some, Option.some.injEq, Prod.mk.injEq] at e1
            obtain ⟨_, rfl⟩ := e1
            exact capMs_slot hc y i hm
        · cases hc : fnOf _ with
          | none => rw [hc] at e1; cases e1
          | some zs =>
            rw [hc] at e1
            simp only [Option.map_some, Option.some.injEq, Prod.mk.injEq] at e1
            obtain ⟨_, rfl⟩ := e1
            obtain ⟨z, _, e⟩ := List.mem_map.1 hm
            simp at e
    · simp at h
  · simp at h
theorem setOuts_wf {s : St} (hw : Wf s) {f : Operand} {args : List Operand} {p : Prop} {g : FuncId} {ys : List (AV × Option Nat)} {outs : List AV} (h : calleeM s f args = (p, some (g, ys))) (hnd : (slotsOf ys).Nodup) (hf : outsFit (ys.map (·.1)) outs = true) : Wf (setOuts s ys outs) := by
  obtain ⟨hl, hfit⟩ := outsFit_at hf
  refine (setOuts_after ys outs s hw hnd (by simpa using hl) (fun j x i o h1 h2 => ?_)).wf hw
  obtain ⟨hs, ho⟩ := calleeM_slot h x i (List.mem_of_getElem? h1)
  have hff := hfit j x o (by rw [List.getElem?_map, h1]; rfl) h2
  rw [hs]
  refine ⟨hff, ho, ?_⟩
  cases x <;> cases o <;> first | rfl | (simp [outFits] at hff)

/-- A step goes to one state. -/
theorem astep_exact {P : Program} {n : Nat} {s : St} {op : Op} {dst : Option Tmp} {K : St → Prop} (hw : Wf s) (h : astep P n s op dst K) :
    ∃ s', astep P n s op dst (fun t => t = s') ∧ K s' ∧ Wf s' := by
  have nr : ∀ j, AV.refs j .dead = true → (s j).isOwner = true := fun j h => by cases h
  have plain : ∀ d, (aval2 P s op).1 ∧ d < n ∧ K (put s d (aval2 P s op).2) → ∃ s', ((aval2 P s op).1 ∧ d < n ∧ put s d (aval2 P s op).2 = s') ∧ K s' ∧ Wf s' :=
    fun d h => ⟨_, ⟨h.1, h.2.1, rfl⟩, h.2.2, put_wf hw (fun j hj => aval2_refs hw _ hj)⟩
  cases dst with
  | none =>
    cases op <;> try (exact h.elim)
    case store t addr x => exact ⟨_, ⟨h.1, h.2.1, rfl⟩, h.2.2, astore_wf (freezeL_wf _ hw)⟩
    case mapUpdate t m k x => exact ⟨_, ⟨h.1, rfl⟩, h.2, amapUpdate_wf hw⟩
    case makeMap t r => cases r <;> exact h.elim
    case assign x => cases x <;> exact h.elim
    all_goals exact h.elim
  | some d =>
    cases op <;> try (exact plain d h)
    case alloc t =>
      simp only [astep] at h ⊢
      cases hz : zeroOf P t with
      | none => rw [hz] at h; exact h.elim
      | some cs => rw [hz] at h; exact ⟨_, ⟨h.1, rfl⟩, h.2, put_wf hw (fun j hj => by cases hj)⟩
    case makeMap t r =>
      cases r with
      | none => exact ⟨_, ⟨h.1, rfl⟩, h.2, put_wf hw (fun j hj => by cases hj)⟩
      | some r => exact plain d h
    case box t x =>
      simp only [astep] at h ⊢
      split at h
      · exact ⟨_, ⟨h.1, h.2.1, rfl⟩, h.2.2, put_wf (freezeL_wf _ hw) (fun j hj => by cases hj)⟩
      · exact h.elim
    case build t parts =>
      refine ⟨_, ⟨h.1, h.2.1, rfl⟩, h.2.2, put_wf (freezeL_wf _ hw) (fun j hj => ?_)⟩
      simp only [abuild] at hj
      split at hj <;> cases hj
    case buildSlice t len parts =>
      refine ⟨_, ⟨h.1, h.2.1, rfl⟩, h.2.2, put_wf (freezeL_wf _ hw) (fun j hj => ?_)⟩
      simp only [abuildSlice] at hj
      split at hj <;> cases hj
    case assign x =>
      cases x with
      | tmp t =>
        simp only [astep] at h ⊢
        cases hs : s t with
        | own e size xs =>
          rw [hs] at h
          exact ⟨_, ⟨h.1, rfl⟩, h.2, put_wf (put_wf hw nr) (fun j hj => by cases hj)⟩
        | mp c bs es =>
          rw [hs] at h
          exact ⟨_, ⟨h.1, rfl⟩, h.2, put_wf (put_wf hw nr) (fun j hj => by cases hj)⟩
        | view i lo len wh =>
          rw [hs] at h
          dsimp only at h ⊢
          have hvr : ∀ j, (AV.view i lo len wh).refs j = true → (s j).isOwner = true := fun j hj => hw t j (by rw [hs]; exact hj)
          cases hid : decide (i = d) with
          | false =>
            rw [hid] at h
            exact ⟨_, ⟨h.1, rfl⟩, h.2, put_wf hw hvr⟩
          | true =>
            rw [hid] at h
            obtain ⟨hd, h⟩ := h
            dsimp only
            unfold aselfView at h ⊢
            split at h
            · split at h
              · exact ⟨_, ⟨hd, rfl⟩, h, put_wf (put_wf hw nr) (fun j hj => by cases hj)⟩
              · exact ⟨_, ⟨hd, rfl⟩, h, put_wf (freeze_wf hw _) (fun j hj => by cases hj)⟩
            · exact h.elim
        | _ =>
          rw [hs] at h
          exact ⟨_, ⟨h.1, rfl⟩, h.2, put_wf hw (fun j hj => look_refs hw _ hj)⟩
      | _ => exact plain d h
    case call c =>
      simp only [astep] at h ⊢
      split at h
      · rename_i f hf0
        have hM : callM P (calleeM s f c.args.toList) (fun xs r outs => d < n ∧ K (put (setOuts s xs outs) d r.av)) → ∃ s', callM P (calleeM s f c.args.toList) (fun xs r outs => d < n ∧ put (setOuts s xs outs) d r.av = s') ∧ K s' ∧ Wf s' := by
          intro h
          unfold callM at h ⊢
          split at h
          · rename_i pp g ys e0
            obtain ⟨hp, hnd, r, outs, hc, hd, hk⟩ := h
            exact ⟨_, ⟨hp, hnd, r, outs, hc, hd, rfl⟩, hk, put_wf (setOuts_wf hw e0 hnd hc.2.1) (fun j hj => by cases r <;> cases hj)⟩
          · exact h.elim
        unfold callS at h ⊢
        split at h
        · obtain ⟨hp, ⟨r, h1, h2, h3⟩ | h⟩ := h
          · have hac : Wf (afterCall s c.args.toList r) := by
              unfold afterCall
              cases r.flat with
              | true => exact hw
              | false => exact freezeL_wf _ hw
            exact ⟨_, ⟨hp, .inl ⟨r, h1, h2, rfl⟩⟩, h3, put_wf hac (fun j hj => by cases r <;> cases hj)⟩
          · obtain ⟨s', h1, h2, h3⟩ := hM h
            exact ⟨s', ⟨hp, .inr h1⟩, h2, h3⟩
        · exact hM h
      · split at h
        · exact ⟨_, ⟨h.1, h.2.1, rfl⟩, h.2.2, put_wf (aappend_wf hw).1 (fun j hj => by rw [(aappend_wf hw).2 j] at hj; cases hj)⟩
        · exact h.elim
      · exact plain d h

theorem aguard_exact {P : Program} {n : Nat} {s : St} {e : Bool} {op : Op} {dst : Option Tmp} {K : St → Prop} (hw : Wf s) (h : aguard P n s e op dst K) :
    ∃ s', aguard P n s e op dst (fun t => t = s') ∧ K s' ∧ Wf s' := by
  cases dst with
  | none => exact h.elim
  | some d =>
    cases op <;> try (exact ⟨_, ⟨h.1, h.2.1, h.2.2.1, rfl⟩, h.2.2.2, put_wf hw (fun j hj => aval2_refs hw _ hj)⟩)
    case call c =>
      simp only [aguard] at h ⊢
      split at h
      · obtain ⟨r, h1, h3, h4⟩ := callG_exact h
        exact ⟨_, h1 _ ⟨h3, rfl⟩, h4, put_wf hw (fun j hj => by cases r <;> cases hj)⟩
      · exact ⟨_, ⟨h.1, h.2.1, h.2.2.1, rfl⟩, h.2.2.2, put_wf hw (fun j hj => aval2_refs (P := P) (op := .call c) hw hj)⟩

theorem aop_exact {P : Program} {n : Nat} {ops : Array Oper} {o : Oper} {s : St} {K : St → Prop} (hw : Wf s) (h : aop P n ops o s K) :
    ∃ s', aop P n ops o s (fun t => t = s') ∧ K s' ∧ Wf s' := by
  unfold aop at h ⊢
  cases hg : o.guard with
  | none => rw [hg] at h; exact astep_exact hw h
  | some g =>
    rw [hg] at h
    simp only at h ⊢
    cases he : gval ops s g with
    | none => rw [he] at h; exact h.elim
    | some e => rw [he] at h; exact aguard_exact hw h

/-- The step of operation number i. -/
def stepD (P : Program) (n : Nat) (ops : Array Oper) (i : Nat) (s s' : St) : Prop :=
  ∃ o, ops[i]? = some o ∧ match calmB ops o.op with
    | true => calmStep P n ops o s s'
    | false => aop P n ops o s (fun t => t = s')

theorem stepD_wf {P : Program} {n : Nat} {ops : Array Oper} {i : Nat} {s s' : St} (hw : Wf s) (h : stepD P n ops i s s') : Wf s' := by
  obtain ⟨o, _, h⟩ := h
  split at h
  · exact calm_wf hw h
  · obtain ⟨s1, _, h2, h3⟩ := aop_exact hw h
    rw [← h2]; exact h3

theorem chain_of_aopsD {P : Program} {n : Nat} {ops : Array Oper} {K : St → Prop} : ∀ (l : List Oper) (k : Nat) (s : St), Wf s → (∀ j, l[j]? = ops[k + j]?) → aopsD P n ops l s K →
    ∃ s', chain (stepD P n ops) (List.range' k l.length) s s' ∧ K s'
  | [], _, s, _, _, h => ⟨s, rfl, h⟩
  | o :: l, k, s, hw, hl, h => by
    have h0 : ops[k]? = some o := by simpa using (hl 0).symm
    have hnext : ∀ j, l[j]? = ops[(k + 1) + j]? := fun j => by have := hl (j + 1); simpa [Nat.add_assoc, Nat.add_comm 1 j] using this
    simp only [aopsD] at h
    have : ∃ s1, stepD P n ops k s s1 ∧ aopsD P n ops l s1 K := by
      split at h
      · rename_i hc
        obtain ⟨s1, h1, h2⟩ := aopD_step h
        exact ⟨s1, ⟨o, h0, by rw [hc]; exact h1⟩, h2⟩
      · rename_i hc
        obtain ⟨s1, h1, h2, _⟩ := aop_exact hw h
        exact ⟨s1, ⟨o, h0, by rw [hc]; exact h1⟩, h2⟩
    obtain ⟨s1, h1, h2⟩ := this
    obtain ⟨s', h3, h4⟩ := chain_of_aopsD l (k + 1) s1 (stepD_wf hw h1) hnext h2
    exact ⟨s', ⟨s1, h1, h3⟩, h4⟩

/-! ### Which orders there are -/
def pairOk (ops : Array Oper) (b : Array Nat) (i j : Nat) : Bool :=
  (b.getD i 0).testBit j ||
  match ops[i]?, ops[j]? with
  | some oi, some oj => calmB ops oi.op && calmB ops oj.op && oj.apart ops oi
  | _, _ => false

/-- Whatever order is drawn: what is told is the same. -/
def drawOk (ops : Array Oper) : Bool :=
  let b := Region.before ops
  (List.range ops.size).all fun i =>
    (match ops[i]? with
      | some o => o.after.toList.all fun e => !Region.binds .any e || decide (e.on < i)
      | none => false) &&
    (List.range i).all fun j => pairOk ops b i j

theorem mask_inner (ops : Array Oper) (acc : Array Nat) (k : Nat) (hacc : ∀ i j, (acc.getD i 0).testBit j = true → Waits ops i j) {o : Oper} (ho : ops[k]? = some o) :
    ∀ (l : List Edge) (s : Nat), (∀ e ∈ l, e ∈ o.after) → (∀ j, s.testBit j = true → Waits ops k j) →
      ∀ j, (l.foldl (fun s e => if Region.binds .any e then s ||| 2 ^ e.on ||| acc.getD e.on 0 else s) s).testBit j = true → Waits ops k j
  | [], s, _, hs, j, h => hs j h
  | e :: l, s, hl, hs, j, h => by
    refine mask_inner ops acc k hacc ho l _ (fun x hx => hl x (by simp [hx])) (fun j hj => ?_) j h
    dsimp only at hj
    split at hj
    · rename_i hb
      rw [Nat.testBit_or, Nat.testBit_or, Bool.or_eq_true, Bool.or_eq_true] at hj
      rcases hj with (hj | hj) | hj
      · exact hs j hj
      · rw [Nat.testBit_two_pow] at hj
        obtain rfl := of_decide_eq_true hj
        exact .edge ho (hl e (by simp)) hb
      · exact .far ho (hl e (by simp)) hb (hacc _ _ hj)
    · exact hs j hj

theorem getD_push (acc : Array Nat) (v i : Nat) : (acc.push v).getD i 0 = if i = acc.size then v else acc.getD i 0 := by
  simp only [Array.getD_eq_getD_getElem?, Array.getElem?_push]
  split <;> simp

theorem before_waits (ops : Array Oper) (i j : Nat) (h : ((Region.before ops).getD i 0).testBit j = true) : Waits ops i j := by
  have key : ∀ (l : List Oper) (acc : Array Nat), (∀ m, l[m]? = ops[acc.size + m]?) → (∀ i j, (acc.getD i 0).testBit j = true → Waits ops i j) →
      ∀ i j, ((l.foldl (fun acc o => acc.push (o.after.foldl (fun s e => if Region.binds .any e then s ||| 2 ^ e.on ||| acc.getD e.on 0 else s) 0)) acc).getD i 0).testBit j = true → Waits ops i j := by
    intro l
    induction l with
    | nil => intro acc _ hacc i j h; exact hacc i j h
    | cons o l ih =>
      intro acc hl hacc i j h
      have h0 : ops[acc.size]? = some o := by simpa using (hl 0).symm
      refine ih _ (fun m => by have := hl (m + 1); simpa [Nat.add_assoc, Nat.add_comm 1 m] using this) (fun i j hij => ?_) i j h
      rw [getD_push] at hij
      split at hij
      · rename_i hi
        subst hi
        rw [← Array.foldl_toList] at hij
        exact mask_inner ops acc acc.size hacc h0 o.after.toList 0 (fun e he => by simpa using he) (fun j hj => by simp at hj) j hij
      · exact hacc i j hij
  unfold Region.before at h
  rw [← Array.foldl_toList] at h
  exact key ops.toList #[] (fun m => by simp) (fun i j hij => by simp at hij) i j h

end Go.Ab
