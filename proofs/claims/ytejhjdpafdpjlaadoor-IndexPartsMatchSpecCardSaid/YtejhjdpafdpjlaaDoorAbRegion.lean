/-
  A region of operations.
-/
import Derived.Test.YtejhjdpafdpjlaaDoorAbMix
namespace Go.Ab
open Go Go.RowKit
set_option linter.unusedSectionVars false
variable [Amb]

def makesOwn : Op → Bool
  | .buildSlice _ _ _ => true
  | .makeMap _ _ => true
  | .call c => match c.callee with
    | .builtin .append => true
    | _ => false
  | _ => false

/-- May the operation be exchanged with others? -/
def calmB (ops : Array Oper) (op : Op) : Bool :=
  match op with
  | .store _ _ _ => false
  | .makeMap _ _ => false
  | .mapUpdate _ _ _ _ => false
  | .assign (.tmp t) => !(ops.toList.any fun o => o.dst == some t && makesOwn o.op)
  | .call c => match c.callee with
    | .builtin .append => false
    | _ => true
  | _ => true

/-- A calm step, as it is run. -/
def aopD (P : Program) (n : Nat) (ops : Array Oper) (o : Oper) (s : St) (K : St → Prop) : Prop :=
  match o.dst with
  | none => False
  | some d => d < n ∧ (s d).isOwner = false ∧
    match o.guard with
    | none => match o.op with
      | .alloc t => match zeroOf P t with
        | some cs => K (put s d (.box cs))
        | none => False
      | .box _ x => match sv s x with
        | (p, .x xv) => p ∧ K (put s d (.box xv.cells))
        | _ => False
      | .buildSlice t len parts => (abuildSlice P (sv s) t len parts.toList).1 ∧ K (put s d (abuildSlice P (sv s) t len parts.toList).2)
      | .call c => match c.callee with
        | .value f => ∃ rv : RV, acall P s f c.args.toList rv ∧ (rv.flat || (lends s c.args.toList).isEmpty) = true ∧ K (put s d rv.av)
        | _ => (aval2 P s (.call c)).1 ∧ K (put s d (aval2 P s (.call c)).2)
      | op => (aval2 P s op).1 ∧ K (put s d (aval2 P s op).2)
    | some g => match gval ops s g with
      | some e => match o.op with
        | .call c => match c.callee with
          | .value f => callG P e (callee s f c.args.toList) (fun rv => K (put s d (.cond e rv.av)))
          | _ => (e = true → (aval2 P s (.call c)).1) ∧ (aval2 P s (.call c)).2.isOwner = false ∧ K (put s d (.cond e (aval2 P s (.call c)).2))
        | op => (e = true → (aval2 P s op).1) ∧ (aval2 P s op).2.isOwner = false ∧ K (put s d (.cond e (aval2 P s op).2))
      | none => False

theorem aopD_step {P : Program} {n : Nat} {ops : Array Oper} {o : Oper} {s : St} {K : St → Prop} (h : aopD P n ops o s K) : ∃ s', calmStep P n ops o s s' ∧ K s' := by
  unfold aopD at h
  cases hd : o.dst with
  | none => rw [hd] at h; exact h.elim
  | some d =>
    rw [hd] at h
    obtain ⟨hn, ho, h⟩ := h
    unfold calmStep
    cases hg : o.guard with
    | none =>
      rw [hg] at h
      simp only at h ⊢
      cases hop : o.op with
      | alloc t =>
        rw [hop] at h
        simp only at h
        cases hz : zeroOf P t with
        | none => rw [hz] at h; exact h.elim
        | some cs => rw [hz] at h; exact ⟨_, ⟨d, _, hd, hn, ho, rfl, by simp only [acalm, hz]⟩, h⟩
      | box t x =>
        rw [hop] at h
        simp only at h
        split at h
        · rename_i p xv e
          exact ⟨_, ⟨d, _, hd, hn, ho, rfl, by simp only [acalm, e]; first | exact ⟨h.1, rfl⟩ | exact ⟨h.1, trivial⟩⟩, h.2⟩
        · exact h.elim
      | buildSlice t len parts => rw [hop] at h; exact ⟨_, ⟨d, _, hd, hn, ho, rfl, h.1, rfl⟩, h.2⟩
      | call c =>
        rw [hop] at h
        simp only at h
        cases hc : c.callee with
        | value f =>
          rw [hc] at h
          obtain ⟨rv, h1, h2, h3⟩ := h
          exact ⟨_, ⟨d, _, hd, hn, ho, rfl, by simp only [acalm, hc]; exact ⟨rv, h1, h2, rfl⟩⟩, h3⟩
        | _ => rw [hc] at h; exact ⟨_, ⟨d, _, hd, hn, ho, rfl, by simp only [acalm, hc]; first | exact ⟨h.1, rfl⟩ | exact ⟨h.1, trivial⟩⟩, h.2⟩
      | _ => rw [hop] at h; exact ⟨_, ⟨d, _, hd, hn, ho, rfl, h.1, rfl⟩, h.2⟩
    | some g =>
      rw [hg] at h
      simp only at h ⊢
      cases he : gval ops s g with
      | none => rw [he] at h; exact h.elim
      | some e =>
        rw [he] at h
        simp only at h
        cases hop : o.op with
        | call c =>
          rw [hop] at h
          simp only at h
          cases hc : c.callee with
          | value f =>
            rw [hc] at h
            obtain ⟨rv, h1, h3⟩ := callG_exact h
            exact ⟨_, ⟨d, .cond e rv.av, hd, hn, ho, rfl, e, rfl, by simp only [acalmG, hc]; exact h1 _ rfl⟩, h3⟩
          | _ => rw [hc] at h; exact ⟨_, ⟨d, _, hd, hn, ho, rfl, e, rfl, by simp only [acalmG, hc]; first | exact ⟨h.1, h.2.1, rfl⟩ | exact ⟨h.1, h.2.1, trivial⟩⟩, h.2.2⟩
        | _ => rw [hop] at h; exact ⟨_, ⟨d, _, hd, hn, ho, rfl, e, rfl, h.1, h.2.1, rfl⟩, h.2.2⟩

/-- A call, with no guard. -/
def callB (o : Oper) : Bool := match o.op with
  | .call c => match c.callee with
    | .value _ => o.guard.isNone
    | _ => false
  | _ => false
/-- A store, with no guard. -/
def storeU (o : Oper) : Bool := match o.op with
  | .store _ _ _ => o.guard.isNone
  | _ => false
/-- A call in a region where calls may write. -/
def aopC (P : Program) (n : Nat) (o : Oper) (s : St) (K : St → Prop) : Prop :=
  match o.dst, o.op with
  | some d, .call c => match c.callee with
    | .value f => d < n ∧ (s d).isOwner = false ∧ callS P (callee s f c.args.toList) (fun rv => (rv.flat || (lends s c.args.toList).isEmpty) = true ∧ K (put s d rv.av)) (callM P (calleeM s f c.args.toList) (fun ys rv outs => boxOuts ys outs = true ∧ rv.av.isOwner = false ∧ K (put (setOuts s ys outs) d rv.av)))
    | _ => False
  | _, _ => False
/-- A store of what is no slice of the call's own. -/
def storeSide (s : St) (op : Op) : Prop := match op with
  | .store _ _ x => lends s [x] = []
  | _ => True

/-- 'm': calls may write. -/
def aopsD (P : Program) (n : Nat) (m : Bool) (ops : Array Oper) : List Oper → St → (St → Prop) → Prop
  | [], s, K => K s
  | o :: r, s, K => match calmB ops o.op with
    | true => match m && callB o with
      | true => aopC P n o s (fun s' => aopsD P n m ops r s' K)
      | false => (m = true → lightAt s o.op) ∧ aopD P n ops o s (fun s' => aopsD P n m ops r s' K)
    | false => match storeU o with
      | true => storeSide s o.op ∧ aop P n ops o s (fun s' => aopsD P n m ops r s' K)
      | false => aop P n ops o s (fun s' => aopsD P n m ops r s' K)

theorem acalm_refs {P : Program} {s : St} (hw : Wf s) {op : Op} {r : AV} (h : acalm P s op r) {j : Nat} (hr : r.refs j = true) : (s j).isOwner = true := by
  cases op with
  | alloc t =>
    simp only [acalm] at h
    split at h
    · subst h; cases hr
    · exact h.elim
  | box t x =>
    simp only [acalm] at h
    split at h
    · obtain ⟨_, rfl⟩ := h; cases hr
    · exact h.elim
  | buildSlice t len parts =>
    obtain ⟨_, rfl⟩ := h
    simp only [abuildSlice] at hr
    split at hr <;> cases hr
  | call c =>
    simp only [acalm] at h
    split at h
    · obtain ⟨rv, _, _, rfl⟩ := h
      cases rv <;> cases hr
    · obtain ⟨_, rfl⟩ := h; exact aval2_refs hw _ hr
  | _ => obtain ⟨_, rfl⟩ := h; exact aval2_refs hw _ hr

theorem acalmG_refs {P : Program} {s : St} (hw : Wf s) {e : Bool} {op : Op} {r : AV} (h : acalmG P s e op r) {j : Nat} (hr : r.refs j = true) : (s j).isOwner = true := by
  cases op with
  | call c =>
    simp only [acalmG] at h
    split at h
    · obtain ⟨rv, _, _, rfl⟩ := callG_of h
      cases rv <;> cases hr
    · obtain ⟨_, _, rfl⟩ := h; exact aval2_refs (P := P) (op := .call c) hw hr
  | _ => obtain ⟨_, _, rfl⟩ := h; exact aval2_refs hw _ hr

theorem calm_wf {P : Program} {n : Nat} {ops : Array Oper} {o : Oper} {s s' : St} (hw : Wf s) (h : calmStep P n ops o s s') : Wf s' := by
  obtain ⟨d, r, _, _, _, rfl, hv⟩ := h
  refine put_wf hw (fun j hj => ?_)
  cases hg : o.guard with
  | none => rw [hg] at hv; exact acalm_refs hw hv hj
  | some g => rw [hg] at hv; obtain ⟨e, _, hv⟩ := hv; exact acalmG_refs hw hv hj

theorem freeze_wf {s : St} (hw : Wf s) (i : Nat) : Wf (freeze s i) := by
  intro j k hjk
  have hj' : (s j).refs k = true := by
    unfold freeze at hjk
    by_cases hj : j = i
    · subst hj
      simp only [if_pos] at hjk
      rcases frozenAV_own (a := s j) with ⟨e, size, xs, hs⟩ | hs
      · rw [hs] at hjk; cases hjk
      · rw [hs] at hjk; exact hjk
    · simp only [if_neg hj] at hjk
      cases hr : (s j).refs i with
      | true => rw [hr] at hjk; cases hjk
      | false => rw [hr] at hjk; exact hjk
  have hko := hw j k hj'
  have hki : k ≠ i := by
    rintro rfl
    unfold freeze at hjk
    by_cases hj : j = k
    · subst hj; have := refs_owner hj'; rw [this] at hko; cases hko
    · simp only [if_neg hj, hj', if_true] at hjk; cases hjk
  have : freeze s i k = s k := by
    unfold freeze
    cases hr : (s k).refs i with
    | true => rw [refs_owner hr] at hko; cases hko
    | false => simp [hki]
  rw [this]; exact hko

theorem freezeL_wf : ∀ (l : List Nat) {s : St}, Wf s → Wf (freezeL s l)
  | [], _, h => h
  | i :: r, _, h => freezeL_wf r (freeze_wf h i)

theorem owner_wf {s : St} (hw : Wf s) {i : Nat} {r : AV} (ho : (s i).isOwner = true) (hr : r.isOwner = true) : Wf (fun j => if j = i then r else s j) := by
  intro j k hjk
  have hj' : (s j).refs k = true := by
    by_cases hj : j = i
    · subst hj
      simp only [if_pos] at hjk
      have := refs_owner hjk
      rw [hr] at this; cases this
    · simpa only [if_neg hj] using hjk
  have := hw j k hj'
  by_cases hk : k = i
  · simp only [if_pos hk]; exact hr
  · simp only [if_neg hk]; exact this

theorem astore_wf {P : Program} {s : St} (hw : Wf s) {t : TypeId} {x y : Prop × AV} : Wf (astore P s t x y).2 := by
  unfold astore
  split
  · split
    · rename_i hs; exact owner_wf hw (by rw [hs]; rfl) rfl
    · exact hw
  · split
    · rename_i hs; exact owner_wf hw (by rw [hs]; rfl) rfl
    · exact hw
  · exact hw

theorem aappend_wf {P : Program} {s : St} (hw : Wf s) {t t' : TypeId} {x y : Prop × AV} : Wf (aappend P s t t' x y).2.1 ∧ ∀ j, (aappend P s t t' x y).2.2.refs j = false := by
  unfold aappend
  split
  · split
    · exact ⟨put_wf (v := .dead) hw (fun j h => (by cases h)), fun _ => rfl⟩
    · exact ⟨hw, fun _ => rfl⟩
    · split <;> exact ⟨hw, fun _ => rfl⟩
    · exact ⟨hw, fun _ => rfl⟩
  · exact ⟨hw, fun _ => rfl⟩

theorem aclear_wf {P : Program} {s : St} (hw : Wf s) {t : TypeId} {x : Prop × AV} : Wf (aclear P s t x).2 := by
  unfold aclear
  split
  · split
    · rename_i hs; exact owner_wf hw (by rw [hs]; rfl) rfl
    · exact hw
  · exact hw

theorem amapUpdate_wf {P : Program} {s : St} (hw : Wf s) {t : TypeId} {m k x : Prop × AV} : Wf (amapUpdate P s t m k x).2 := by
  unfold amapUpdate
  split
  · split
    · rename_i hs
      split
      · exact owner_wf hw (by rw [hs]; rfl) rfl
      · exact hw
    · exact hw
  · exact hw

theorem setOuts_wf {s : St} (hw : Wf s) {f : Operand} {args : List Operand} {p : Prop} {g : FuncId} {ys : List (AV × Option Nat)} {outs : List AV} (h : calleeM s f args = (p, some (g, ys))) (hnd : (slotsOf ys).Nodup) (hf : outsFit (ys.map (·.1)) outs = true) : Wf (setOuts s ys outs) := by
  obtain ⟨hl, hfit⟩ := outsFit_at hf
  refine (setOuts_after ys outs s hw hnd (by simpa using hl) (fun j x i o h1 h2 => ?_)).wf hw
  obtain ⟨hs, ho⟩ := calleeM_slot h x i (List.mem_of_getElem? h1)
  have hff := hfit j x o (by rw [List.getElem?_map, h1]; rfl) h2
  rw [hs]
  refine ⟨hff, ho, ?_⟩
  cases x <;> cases o <;> first | rfl | (simp [outFits] at hff)

/-- A step goes to one state. -/
theorem astep_exact {P : Program} {n : Nat} {s : St} {op : Op} {dst : Option Tmp} {K : St → Prop} (hw : Wf s) (h : astep P n s op dst K) :
    ∃ s', astep P n s op dst (fun t => t = s') ∧ K s' ∧ Wf s' := by
  have nr : ∀ j, AV.refs j .dead = true → (s j).isOwner = true := fun j h => by cases h
  have plain : ∀ d, (aval2 P s op).1 ∧ d < n ∧ K (put s d (aval2 P s op).2) → ∃ s', ((aval2 P s op).1 ∧ d < n ∧ put s d (aval2 P s op).2 = s') ∧ K s' ∧ Wf s' :=
    fun d h => ⟨_, ⟨h.1, h.2.1, rfl⟩, h.2.2, put_wf hw (fun j hj => aval2_refs hw _ hj)⟩
  cases dst with
  | none =>
    cases op <;> try (exact h.elim)
    case store t addr x => exact ⟨_, ⟨h.1, h.2.1, rfl⟩, h.2.2, astore_wf (freezeL_wf _ hw)⟩
    case mapUpdate t m k x => exact ⟨_, ⟨h.1, rfl⟩, h.2, amapUpdate_wf hw⟩
    case call c =>
      simp only [astep] at h ⊢
      split at h
      · split at h
        · exact ⟨_, ⟨h.1, rfl⟩, h.2, aclear_wf hw⟩
        · exact h.elim
      · exact h.elim
    case makeMap t r => cases r <;> exact h.elim
    case assign x => cases x <;> exact h.elim
    all_goals exact h.elim
  | some d =>
    cases op <;> try (exact plain d h)
    case alloc t =>
      simp only [astep] at h ⊢
      cases hz : zeroOf P t with
      | none => rw [hz] at h; exact h.elim
      | some cs => rw [hz] at h; exact ⟨_, ⟨h.1, rfl⟩, h.2, put_wf hw (fun j hj => by cases hj)⟩
    case makeMap t r =>
      cases r with
      | none => exact ⟨_, ⟨h.1, rfl⟩, h.2, put_wf hw (fun j hj => by cases hj)⟩
      | some r => exact plain d h
    case box t x =>
      simp only [astep] at h ⊢
      split at h
      · exact ⟨_, ⟨h.1, h.2.1, rfl⟩, h.2.2, put_wf (freezeL_wf _ hw) (fun j hj => by cases hj)⟩
      · exact h.elim
    case build t parts =>
      refine ⟨_, ⟨h.1, h.2.1, rfl⟩, h.2.2, put_wf (freezeL_wf _ hw) (fun j hj => ?_)⟩
      simp only [abuild] at hj
      split at hj <;> cases hj
    case buildSlice t len parts =>
      refine ⟨_, ⟨h.1, h.2.1, rfl⟩, h.2.2, put_wf (freezeL_wf _ hw) (fun j hj => ?_)⟩
      simp only [abuildSlice] at hj
      split at hj <;> cases hj
    case assign x =>
      cases x with
      | tmp t =>
        simp only [astep] at h ⊢
        cases hs : s t with
        | own e size xs =>
          rw [hs] at h
          exact ⟨_, ⟨h.1, rfl⟩, h.2, put_wf (put_wf hw nr) (fun j hj => by cases hj)⟩
        | mp c bs es =>
          rw [hs] at h
          exact ⟨_, ⟨h.1, rfl⟩, h.2, put_wf (put_wf hw nr) (fun j hj => by cases hj)⟩
        | view i lo len wh =>
          rw [hs] at h
          dsimp only at h ⊢
          have hvr : ∀ j, (AV.view i lo len wh).refs j = true → (s j).isOwner = true := fun j hj => hw t j (by rw [hs]; exact hj)
          cases hid : decide (i = d) with
          | false =>
            rw [hid] at h
            exact ⟨_, ⟨h.1, rfl⟩, h.2, put_wf hw hvr⟩
          | true =>
            rw [hid] at h
            obtain ⟨hd, h⟩ := h
            dsimp only
            unfold aselfView at h ⊢
            split at h
            · split at h
              · exact ⟨_, ⟨hd, rfl⟩, h, put_wf (put_wf hw nr) (fun j hj => by cases hj)⟩
              · exact ⟨_, ⟨hd, rfl⟩, h, put_wf (freeze_wf hw _) (fun j hj => by cases hj)⟩
            · exact h.elim
        | _ =>
          rw [hs] at h
          exact ⟨_, ⟨h.1, rfl⟩, h.2, put_wf hw (fun j hj => look_refs hw _ hj)⟩
      | _ => exact plain d h
    case call c =>
      simp only [astep] at h ⊢
      split at h
      · rename_i f hf0
        have hM : callM P (calleeM s f c.args.toList) (fun xs r outs => d < n ∧ K (put (setOuts s xs outs) d r.av)) → ∃ s', callM P (calleeM s f c.args.toList) (fun xs r outs => d < n ∧ put (setOuts s xs outs) d r.av = s') ∧ K s' ∧ Wf s' := by
          intro h
          unfold callM at h ⊢
          split at h
          · rename_i pp g ys e0
            obtain ⟨hp, hnd, r, outs, hc, hd, hk⟩ := h
            exact ⟨_, ⟨hp, hnd, r, outs, hc, hd, rfl⟩, hk, put_wf (setOuts_wf hw e0 hnd hc.2.1) (fun j hj => by cases r <;> cases hj)⟩
          · exact h.elim
        unfold callS at h ⊢
        split at h
        · obtain ⟨hp, ⟨r, h1, h2, h3⟩ | h⟩ := h
          · have hac : Wf (afterCall s c.args.toList r) := by
              unfold afterCall
              cases r.flat with
              | true => exact hw
              | false => exact freezeL_wf _ hw
            exact ⟨_, ⟨hp, .inl ⟨r, h1, h2, rfl⟩⟩, h3, put_wf hac (fun j hj => by cases r <;> cases hj)⟩
          · obtain ⟨s', h1, h2, h3⟩ := hM h
            exact ⟨s', ⟨hp, .inr h1⟩, h2, h3⟩
        · exact hM h
      · split at h
        · exact ⟨_, ⟨h.1, h.2.1, rfl⟩, h.2.2, put_wf (aappend_wf hw).1 (fun j hj => by rw [(aappend_wf hw).2 j] at hj; cases hj)⟩
        · exact h.elim
      · exact plain d h

theorem aguard_exact {P : Program} {n : Nat} {s : St} {e : Bool} {op : Op} {dst : Option Tmp} {K : St → Prop} (hw : Wf s) (h : aguard P n s e op dst K) :
    ∃ s', aguard P n s e op dst (fun t => t = s') ∧ K s' ∧ Wf s' := by
  cases dst with
  | none => exact h.elim
  | some d =>
    cases op <;> try (exact ⟨_, ⟨h.1, h.2.1, h.2.2.1, rfl⟩, h.2.2.2, put_wf hw (fun j hj => aval2_refs hw _ hj)⟩)
    case call c =>
      simp only [aguard] at h ⊢
      split at h
      · obtain ⟨r, h1, h3, h4⟩ := callG_exact h
        exact ⟨_, h1 _ ⟨h3, rfl⟩, h4, put_wf hw (fun j hj => by cases r <;> cases hj)⟩
      · exact ⟨_, ⟨h.1, h.2.1, h.2.2.1, rfl⟩, h.2.2.2, put_wf hw (fun j hj => aval2_refs (P := P) (op := .call c) hw hj)⟩

theorem aop_exact {P : Program} {n : Nat} {ops : Array Oper} {o : Oper} {s : St} {K : St → Prop} (hw : Wf s) (h : aop P n ops o s K) :
    ∃ s', aop P n ops o s (fun t => t = s') ∧ K s' ∧ Wf s' := by
  unfold aop at h ⊢
  cases hg : o.guard with
  | none => rw [hg] at h; exact astep_exact hw h
  | some g =>
    rw [hg] at h
    simp only at h ⊢
    cases he : gval ops s g with
    | none => rw [he] at h; exact h.elim
    | some e => rw [he] at h; exact aguard_exact hw h

/-- The step of operation number i. -/
def stepD (P : Program) (n : Nat) (m : Bool) (ops : Array Oper) (i : Nat) (s s' : St) : Prop :=
  ∃ o, ops[i]? = some o ∧ match calmB ops o.op with
    | true => match m && callB o with
      | true => calmStep P n ops o s s' ∨ wStep P n o s s'
      | false => calmStep P n ops o s s' ∧ (m = true → lightAt s o.op)
    | false => match storeU o with
      | true => wStep P n o s s'
      | false => aop P n ops o s (fun t => t = s')

theorem stepD_wf {P : Program} {n : Nat} {m : Bool} {ops : Array Oper} {i : Nat} {s s' : St} (hw : Wf s) (h : stepD P n m ops i s s') : Wf s' := by
  obtain ⟨o, _, h⟩ := h
  split at h
  · split at h
    · exact h.elim (calm_wf hw) (wStep_wf hw)
    · exact calm_wf hw h.1
  · split at h
    · exact wStep_wf hw h
    · obtain ⟨s1, _, h2, h3⟩ := aop_exact hw h
      rw [← h2]; exact h3

theorem storeU_spec {o : Oper} (h : storeU o = true) : ∃ t addr x, o.op = .store t addr x ∧ o.guard = none := by
  unfold storeU at h
  split at h
  · rename_i t addr x e
    exact ⟨t, addr, x, e, by simpa using h⟩
  · cases h
theorem callB_spec {o : Oper} (h : callB o = true) : ∃ c f, o.op = .call c ∧ c.callee = .value f ∧ o.guard = none := by
  unfold callB at h
  split at h
  · rename_i c e
    split at h
    · rename_i f hf; exact ⟨c, f, e, hf, by simpa using h⟩
    · cases h
  · cases h

theorem store_wStep {P : Program} {n : Nat} {ops : Array Oper} {o : Oper} {s : St} {K : St → Prop} (hu : storeU o = true) (hl : storeSide s o.op) (h : aop P n ops o s K) : ∃ s', wStep P n o s s' ∧ K s' := by
  obtain ⟨t, addr, x, hop, hg⟩ := storeU_spec hu
  unfold aop at h
  rw [hg] at h
  rw [hop] at h hl
  have hl' : lends s [x] = [] := hl
  cases hd : o.dst with
  | some d => rw [hd] at h; exact h.1.elim
  | none =>
    rw [hd] at h
    simp only [astep, hl', freezeL] at h
    obtain ⟨h1, h2, h3⟩ := h
    obtain ⟨p, i, v, k1, k2, k3, _⟩ := astore_W h2
    refine ⟨_, ⟨[(i, v)], none, ⟨hg, ?_⟩, fun d r h => (by cases h), fun _ => hd, rfl⟩, ?_⟩
    · rw [hop]
      exact ⟨hd, rfl, h1, hl', p, i, v, k1, k2, rfl⟩
    · rw [k3] at h3
      exact h3

theorem aopC_step {P : Program} {n : Nat} {ops : Array Oper} {o : Oper} {s : St} {K : St → Prop} (hc : callB o = true) (h : aopC P n o s K) : ∃ s', (calmStep P n ops o s s' ∨ wStep P n o s s') ∧ K s' := by
  obtain ⟨c, f, hop, hf, hg⟩ := callB_spec hc
  unfold aopC at h
  rw [hop] at h
  cases hd : o.dst with
  | none => rw [hd] at h; exact h.elim
  | some d =>
    rw [hd] at h
    simp only [hf] at h
    obtain ⟨hdn, hno, h⟩ := h
    rcases callS_or h with ⟨r, h1, h2, h3⟩ | h
    · refine ⟨_, .inl ⟨d, r.av, hd, hdn, hno, rfl, ?_⟩, h3⟩
      rw [hg, hop]
      simp only [acalm, hf]
      exact ⟨r, h1, h2, rfl⟩
    · unfold callM at h
      split at h
      · rename_i p g ys e
        obtain ⟨hp, hnd, r, outs, hA, hbo, hro, hk⟩ := h
        refine ⟨_, .inr ⟨pairs ys outs, some (d, r.av), ⟨hg, ?_⟩, fun d' r' h' => ?_, fun h' => (by cases h'), rfl⟩, ?_⟩
        · rw [hop]
          simp only [hf]
          exact ⟨d, p, g, ys, r, outs, hd, hdn, e, hp, hnd, hA, hbo, hro, rfl, rfl⟩
        · simp only [Option.some.injEq, Prod.mk.injEq] at h'
          obtain ⟨rfl, rfl⟩ := h'
          exact ⟨hd, hno, hro, fun j => by cases r <;> rfl⟩
        · show K (put (setW s (pairs ys outs)) d r.av)
          rw [← setOuts_setW ys outs s hbo hnd]
          exact hk
      · exact h.elim

theorem chain_of_aopsD {P : Program} {n : Nat} {m : Bool} {ops : Array Oper} {K : St → Prop} : ∀ (l : List Oper) (k : Nat) (s : St), Wf s → (∀ j, l[j]? = ops[k + j]?) → aopsD P n m ops l s K →
    ∃ s', chain (stepD P n m ops) (List.range' k l.length) s s' ∧ K s'
  | [], _, s, _, _, h => ⟨s, rfl, h⟩
  | o :: l, k, s, hw, hl, h => by
    have h0 : ops[k]? = some o := by simpa using (hl 0).symm
    have hnext : ∀ j, l[j]? = ops[(k + 1) + j]? := fun j => by have := hl (j + 1); simpa [Nat.add_assoc, Nat.add_comm 1 j] using this
    simp only [aopsD] at h
    have : ∃ s1, stepD P n m ops k s s1 ∧ aopsD P n m ops l s1 K := by
      split at h
      · rename_i hc
        split at h
        · rename_i hm
          obtain ⟨s1, h1, h2⟩ := aopC_step (ops := ops) (by simp only [Bool.and_eq_true] at hm; exact hm.2) h
          exact ⟨s1, ⟨o, h0, by rw [hc]; simp only [hm]; exact h1⟩, h2⟩
        · rename_i hm
          obtain ⟨s1, h1, h2⟩ := aopD_step h.2
          exact ⟨s1, ⟨o, h0, by rw [hc]; simp only [hm]; exact ⟨h1, h.1⟩⟩, h2⟩
      · rename_i hc
        split at h
        · rename_i hu
          obtain ⟨s1, h1, h2⟩ := store_wStep hu h.1 h.2
          exact ⟨s1, ⟨o, h0, by rw [hc]; simp only [hu]; exact h1⟩, h2⟩
        · rename_i hu
          obtain ⟨s1, h1, h2, _⟩ := aop_exact hw h
          exact ⟨s1, ⟨o, h0, by rw [hc]; simp only [hu]; exact h1⟩, h2⟩
    obtain ⟨s1, h1, h2⟩ := this
    obtain ⟨s', h3, h4⟩ := chain_of_aopsD l (k + 1) s1 (stepD_wf hw h1) hnext h2
    exact ⟨s', ⟨s1, h1, h3⟩, h4⟩

/-! ### Which orders there are -/
def mixB (m : Bool) (ops : Array Oper) (oi oj : Oper) : Bool :=
  (calmB ops oi.op && calmB ops oj.op && !(m && callB oi && callB oj)) || (storeU oi && !calmB ops oi.op && lightB oj.op && calmB ops oj.op && !callB oj) || (storeU oj && !calmB ops oj.op && lightB oi.op && calmB ops oi.op && !callB oi)
def pairOk (m : Bool) (ops : Array Oper) (b : Array Nat) (i j : Nat) : Bool :=
  (b.getD i 0).testBit j ||
  match ops[i]?, ops[j]? with
  | some oi, some oj => mixB m ops oi oj && oj.apart ops oi
  | _, _ => false

/-- Whatever order is drawn: what is told is the same. -/
def drawOk (m : Bool) (ops : Array Oper) : Bool :=
  let b := Region.before ops
  (List.range ops.size).all fun i =>
    (match ops[i]? with
      | some o => o.after.toList.all fun e => !Region.binds .any e || decide (e.on < i)
      | none => false) &&
    (List.range i).all fun j => pairOk m ops b i j

/-- Does the region call what a slot holds? -/
def wildB (ops : Array Oper) : Bool := ops.toList.any fun o => match o.op with
  | .call c => match c.callee with
    | .value (.tmp _) => callB o
    | _ => false
  | _ => false

/-- TWO STEPS THAT MAY BE EXCHANGED. -/
theorem mix_comm {P : Program} {n : Nat} {m : Bool} {ops : Array Oper} {i j : Nat} {oi oj : Oper} {s s1 s2 : St} (hi : ops[i]? = some oi) (hj : ops[j]? = some oj) (hmix : mixB m ops oi oj = true) (hap : oj.apart ops oi = true) (hw : Wf s)
    (h1 : stepD P n m ops j s s1) (h2 : stepD P n m ops i s1 s2) : ∃ s1', stepD P n m ops i s s1' ∧ stepD P n m ops j s1' s2 := by
  obtain ⟨o1, ho1, h1⟩ := h1
  rw [hj] at ho1; injection ho1 with ho1; subst ho1
  obtain ⟨o2, ho2, h2⟩ := h2
  rw [hi] at ho2; injection ho2 with ho2; subst ho2
  obtain ⟨a1, a2, a3⟩ := Oper.apart_spec hap
  have b3 : ∀ d, oi.dst = some d → oj.dst ≠ some d := fun d h h' => a2 d h' h
  unfold mixB at hmix
  rw [Bool.or_eq_true, Bool.or_eq_true] at hmix
  have light : ∀ {s s' : St} {o : Oper}, (s : St) = s → lightB o.op = true → lightAt s o.op := fun _ h => lightB_at h
  rcases hmix with (hmix | hmix) | hmix
  · simp only [Bool.and_eq_true, Bool.not_eq_true'] at hmix
    obtain ⟨⟨ci, cj⟩, hcc⟩ := hmix
    rw [cj] at h1
    rw [ci] at h2
    cases hmi : m && callB oi with
    | false =>
      rw [hmi] at h2
      obtain ⟨h2, l2⟩ := h2
      cases hmj : m && callB oj with
      | false =>
        rw [hmj] at h1
        obtain ⟨h1, l1⟩ := h1
        obtain ⟨s1', k1, k2⟩ := calm_comm hap hw h1 h2
        have ag : ∀ {t t' : St} {o o' : Oper} {x : Operand}, Wf t → calmStep P n ops o t t' → (∀ d, o.dst = some d → d ∉ o'.looksAt ops) → x ∈ o'.op.operands → AgreeSh t t' x := by
          rintro t t' o o' x hwt ⟨d, r, hd, _, hno, rfl, _⟩ ha hx
          have := agree_put (r := r) hwt hno (ops_apart o' d (ha d hd) x hx)
          cases x with
          | tmp u => exact ⟨.inl this.1, fun b hb => .inl (this.2 b hb)⟩
          | _ => trivial
        refine ⟨s1', ⟨oi, hi, ?_⟩, ⟨oj, hj, ?_⟩⟩
        · rw [ci, hmi]
          exact ⟨k1, fun hm => lightAt_sh (l2 hm) (fun x hx => (ag hw h1 a1 hx).symm)⟩
        · rw [cj, hmj]
          exact ⟨k2, fun hm => lightAt_sh (l1 hm) (fun x hx => ag hw k1 a3 hx)⟩
      | true =>
        have hm : m = true := by rw [Bool.and_eq_true] at hmj; exact hmj.1
        rw [hmj] at h1
        rcases h1 with h1 | h1
        · obtain ⟨s1', k1, k2⟩ := calm_comm hap hw h1 h2
          have hla : lightAt s oi.op := by
            obtain ⟨d, r, hd, _, hno, rfl, _⟩ := h1
            refine lightAt_sh (l2 hm) (fun x hx => ?_)
            have := agree_put (r := r) hw hno (ops_apart oi d (a1 d hd) x hx)
            refine AgreeSh.symm ?_
            cases x with
            | tmp u => exact ⟨.inl this.1, fun b hb => .inl (this.2 b hb)⟩
            | _ => trivial
          exact ⟨s1', ⟨oi, hi, by rw [ci, hmi]; exact ⟨k1, fun _ => hla⟩⟩, ⟨oj, hj, by rw [cj, hmj]; exact .inl k2⟩⟩
        · obtain ⟨s1', k1, k2, k3⟩ := write_light (ol := oi) (ow := oj) a3 a1 b3 hw h1 h2 (l2 hm)
          exact ⟨s1', ⟨oi, hi, by rw [ci, hmi]; exact ⟨k1, fun _ => k2⟩⟩, ⟨oj, hj, by rw [cj, hmj]; exact .inr k3⟩⟩
    | true =>
      have hm : m = true := by rw [Bool.and_eq_true] at hmi; exact hmi.1
      have hmj : (m && callB oj) = false := by
        rw [hmi, Bool.true_and] at hcc
        rw [hcc, Bool.and_false]
      rw [hmi] at h2
      rw [hmj] at h1
      obtain ⟨h1, l1⟩ := h1
      rcases h2 with h2 | h2
      · obtain ⟨s1', k1, k2⟩ := calm_comm hap hw h1 h2
        have hla : lightAt s1' oj.op := by
          obtain ⟨d, r, hd, _, hno, rfl, _⟩ := k1
          refine lightAt_sh (l1 hm) (fun x hx => ?_)
          have := agree_put (r := r) hw hno (ops_apart oj d (a3 d hd) x hx)
          cases x with
          | tmp u => exact ⟨.inl this.1, fun b hb => .inl (this.2 b hb)⟩
          | _ => trivial
        exact ⟨s1', ⟨oi, hi, by rw [ci, hmi]; exact .inl k1⟩, ⟨oj, hj, by rw [cj, hmj]; exact ⟨k2, fun _ => hla⟩⟩⟩
      · obtain ⟨s1', k1, k2, k3⟩ := light_write (ol := oj) (ow := oi) a1 a3 a2 hw h1 (l1 hm) h2
        exact ⟨s1', ⟨oi, hi, by rw [ci, hmi]; exact .inr k1⟩, ⟨oj, hj, by rw [cj, hmj]; exact ⟨k2, fun _ => k3⟩⟩⟩
  · simp only [Bool.and_eq_true, Bool.not_eq_true'] at hmix
    obtain ⟨⟨⟨⟨ui, ci⟩, lj⟩, cj⟩, hcb⟩ := hmix
    rw [cj] at h1
    rw [ci] at h2
    simp only [ui] at h2
    have hmj : (m && callB oj) = false := by rw [hcb, Bool.and_false]
    simp only [hmj] at h1
    obtain ⟨s1', k1, k2, k3⟩ := light_write (ol := oj) (ow := oi) a1 a3 a2 hw h1.1 (lightB_at lj) h2
    exact ⟨s1', ⟨oi, hi, by rw [ci]; simp only [ui]; exact k1⟩, ⟨oj, hj, by rw [cj]; simp only [hmj]; exact ⟨k2, fun _ => k3⟩⟩⟩
  · simp only [Bool.and_eq_true, Bool.not_eq_true'] at hmix
    obtain ⟨⟨⟨⟨uj, cj⟩, li⟩, ci⟩, hcb⟩ := hmix
    rw [cj] at h1
    rw [ci] at h2
    simp only [uj] at h1
    have hmi : (m && callB oi) = false := by rw [hcb, Bool.and_false]
    simp only [hmi] at h2
    obtain ⟨s1', k1, k2, k3⟩ := write_light (ol := oi) (ow := oj) a3 a1 b3 hw h1 h2.1 (lightB_at li)
    exact ⟨s1', ⟨oi, hi, by rw [ci]; simp only [hmi]; exact ⟨k1, fun _ => k2⟩⟩, ⟨oj, hj, by rw [cj]; simp only [uj]; exact k3⟩⟩

theorem mask_inner (ops : Array Oper) (acc : Array Nat) (k : Nat) (hacc : ∀ i j, (acc.getD i 0).testBit j = true → Waits ops i j) {o : Oper} (ho : ops[k]? = some o) :
    ∀ (l : List Edge) (s : Nat), (∀ e ∈ l, e ∈ o.after) → (∀ j, s.testBit j = true → Waits ops k j) →
      ∀ j, (l.foldl (fun s e => if Region.binds .any e then s ||| 2 ^ e.on ||| acc.getD e.on 0 else s) s).testBit j = true → Waits ops k j
  | [], s, _, hs, j, h => hs j h
  | e :: l, s, hl, hs, j, h => by
    refine mask_inner ops acc k hacc ho l _ (fun x hx => hl x (by simp [hx])) (fun j hj => ?_) j h
    dsimp only at hj
    split at hj
    · rename_i hb
      rw [Nat.testBit_or, Nat.testBit_or, Bool.or_eq_true, Bool.or_eq_true] at hj
      rcases hj with (hj | hj) | hj
      · exact hs j hj
      · rw [Nat.testBit_two_pow] at hj
        obtain rfl := of_decide_eq_true hj
        exact .edge ho (hl e (by simp)) hb
      · exact .far ho (hl e (by simp)) hb (hacc _ _ hj)
    · exact hs j hj

theorem getD_push (acc : Array Nat) (v i : Nat) : (acc.push v).getD i 0 = if i = acc.size then v else acc.getD i 0 := by
  simp only [Array.getD_eq_getD_getElem?, Array.getElem?_push]
  split <;> simp

theorem before_waits (ops : Array Oper) (i j : Nat) (h : ((Region.before ops).getD i 0).testBit j = true) : Waits ops i j := by
  have key : ∀ (l : List Oper) (acc : Array Nat), (∀ m, l[m]? = ops[acc.size + m]?) → (∀ i j, (acc.getD i 0).testBit j = true → Waits ops i j) →
      ∀ i j, ((l.foldl (fun acc o => acc.push (o.after.foldl (fun s e => if Region.binds .any e then s ||| 2 ^ e.on ||| acc.getD e.on 0 else s) 0)) acc).getD i 0).testBit j = true → Waits ops i j := by
    intro l
    induction l with
    | nil => intro acc _ hacc i j h; exact hacc i j h
    | cons o l ih =>
      intro acc hl hacc i j h
      have h0 : ops[acc.size]? = some o := by simpa using (hl 0).symm
      refine ih _ (fun m => by have := hl (m + 1); simpa [Nat.add_assoc, Nat.add_comm 1 m] using this) (fun i j hij => ?_) i j h
      rw [getD_push] at hij
      split at hij
      · rename_i hi
        subst hi
        rw [← Array.foldl_toList] at hij
        exact mask_inner ops acc acc.size hacc h0 o.after.toList 0 (fun e he => by simpa using he) (fun j hj => by simp at hj) j hij
      · exact hacc i j hij
  unfold Region.before at h
  rw [← Array.foldl_toList] at h
  exact key ops.toList #[] (fun m => by simp) (fun i j hij => by simp at hij) i j h

end Go.Ab
