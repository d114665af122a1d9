/-
  What code comes to is one end: a contract whose outcome is told by what is true of it.
-/
import Derived.Test.YtdciogjhkckigaaDoorAbLoop
namespace Go.Ab
open Go Go.RowKit
set_option linter.unusedSectionVars false
variable [Amb]

/-- X goes to one place. -/
def Ex {α : Type} (X : (α → Prop) → Prop) : Prop := ∀ K : α → Prop, X K → ∃ x, (∀ K' : α → Prop, K' x → X K') ∧ K x

section
variable {P : Program} {n : Nat} {s : St}

theorem callM_ex {c : Prop × Option (FuncId × List (AV × Option Nat))} {K : List (AV × Option Nat) → RV → List AV → Prop} (h : callM P c K) :
    ∃ xs r outs, (∀ K', K' xs r outs → callM P c K') ∧ K xs r outs := by
  unfold callM at h ⊢
  split at h
  · obtain ⟨hp, hnd, r, outs, hc, hk⟩ := h
    exact ⟨_, r, outs, fun _ k => ⟨hp, hnd, r, outs, hc, k⟩, hk⟩
  · exact h.elim

theorem callS_ex {c : Prop × Option (FuncId × List XV)} {m : (St → Prop) → Prop} {st : RV → St} {d : RV → Prop} {K : St → Prop} (hm : Ex m) (h : callS P c (fun r => d r ∧ K (st r)) (m K)) :
    ∃ s', (∀ K' : St → Prop, K' s' → callS P c (fun r => d r ∧ K' (st r)) (m K')) ∧ K s' := by
  unfold callS at h ⊢
  split at h
  · obtain ⟨hp, ⟨r, hc, hd, hk⟩ | h⟩ := h
    · exact ⟨_, fun _ k => ⟨hp, .inl ⟨r, hc, hd, k⟩⟩, hk⟩
    · obtain ⟨s', h1, h2⟩ := hm K h
      exact ⟨s', fun K' k => ⟨hp, .inr (h1 K' k)⟩, h2⟩
  · exact hm K h

theorem astep_ex (op : Op) (dst : Option Tmp) : Ex (astep P n s op dst) := by
  intro K h
  have plain : ∀ d, (aval2 P s op).1 ∧ d < n ∧ K (put s d (aval2 P s op).2) → ∃ s', (∀ K' : St → Prop, K' s' → ((aval2 P s op).1 ∧ d < n ∧ K' (put s d (aval2 P s op).2))) ∧ K s' :=
    fun d h => ⟨_, fun _ k => ⟨h.1, h.2.1, k⟩, h.2.2⟩
  cases dst with
  | none =>
    cases op <;> try (exact h.elim)
    case store t addr x => exact ⟨_, fun _ k => ⟨h.1, h.2.1, k⟩, h.2.2⟩
    case mapUpdate t m k x => exact ⟨_, fun _ k => ⟨h.1, k⟩, h.2⟩
    case call c =>
      simp only [astep] at h ⊢
      split at h
      · split at h
        · exact ⟨_, fun _ k => ⟨h.1, k⟩, h.2⟩
        · exact h.elim
      · exact h.elim
    case makeMap t r => cases r <;> exact h.elim
    case assign x => cases x <;> exact h.elim
    all_goals exact h.elim
  | some d =>
    cases op <;> try (exact plain d h)
    case alloc t =>
      simp only [astep] at h ⊢
      cases hz : zeroOf P t with
      | none => rw [hz] at h; exact h.elim
      | some cs => rw [hz] at h; exact ⟨_, fun _ k => ⟨h.1, k⟩, h.2⟩
    case makeMap t r =>
      cases r with
      | none => exact ⟨_, fun _ k => ⟨h.1, k⟩, h.2⟩
      | some r => exact plain d h
    case box t x =>
      simp only [astep] at h ⊢
      split at h
      · exact ⟨_, fun _ k => ⟨h.1, h.2.1, k⟩, h.2.2⟩
      · exact h.elim
    case build t parts => exact ⟨_, fun _ k => ⟨h.1, h.2.1, k⟩, h.2.2⟩
    case buildSlice t len parts => exact ⟨_, fun _ k => ⟨h.1, h.2.1, k⟩, h.2.2⟩
    case assign x =>
      cases x with
      | tmp t =>
        simp only [astep] at h ⊢
        cases hs : s t with
        | own e size xs => rw [hs] at h; exact ⟨_, fun _ k => ⟨h.1, k⟩, h.2⟩
        | mp c bs es => rw [hs] at h; exact ⟨_, fun _ k => ⟨h.1, k⟩, h.2⟩
        | view i lo len wh =>
          rw [hs] at h
          dsimp only at h ⊢
          cases hid : decide (i = d) with
          | false => rw [hid] at h; exact ⟨_, fun _ k => ⟨h.1, k⟩, h.2⟩
          | true =>
            rw [hid] at h
            obtain ⟨hd, h⟩ := h
            dsimp only
            unfold aselfView at h ⊢
            split at h
            · split at h
              · exact ⟨_, fun _ k => ⟨hd, k⟩, h⟩
              · exact ⟨_, fun _ k => ⟨hd, k⟩, h⟩
            · exact h.elim
        | _ => rw [hs] at h; exact ⟨_, fun _ k => ⟨h.1, k⟩, h.2⟩
      | _ => exact plain d h
    case call c =>
      simp only [astep] at h ⊢
      split at h
      · rename_i f hf0
        refine callS_ex (m := fun K => callM P (calleeM s f c.args.toList) (fun xs r outs => d < n ∧ K (put (setOuts s xs outs) d r.av))) (fun K h => ?_) h
        obtain ⟨xs, r, outs, h1, h2⟩ := callM_ex h
        exact ⟨_, fun K' k => h1 _ ⟨h2.1, k⟩, h2.2⟩
      · split at h
        · exact ⟨_, fun _ k => ⟨h.1, h.2.1, k⟩, h.2.2⟩
        · exact h.elim
      · exact plain d h

theorem aguard_ex (e : Bool) (op : Op) (dst : Option Tmp) : Ex (aguard P n s e op dst) := by
  intro K h
  cases dst with
  | none => exact h.elim
  | some d =>
    cases op <;> try (exact ⟨_, fun _ k => ⟨h.1, h.2.1, h.2.2.1, k⟩, h.2.2.2⟩)
    case call c =>
      simp only [aguard] at h ⊢
      split at h
      · obtain ⟨r, h1, h3, h4⟩ := callG_exact h
        exact ⟨_, fun _ k => h1 _ ⟨h3, k⟩, h4⟩
      · exact ⟨_, fun _ k => ⟨h.1, h.2.1, h.2.2.1, k⟩, h.2.2.2⟩

theorem aop_ex (ops : Array Oper) (o : Oper) : Ex (aop P n ops o s) := by
  intro K h
  unfold aop at h ⊢
  cases hg : o.guard with
  | none => rw [hg] at h; exact astep_ex _ _ K h
  | some g =>
    rw [hg] at h
    simp only at h ⊢
    cases he : gval ops s g with
    | none => rw [he] at h; exact h.elim
    | some e => rw [he] at h; exact aguard_ex _ _ _ K h

theorem aops_ex (ops : Array Oper) : ∀ (l : List Oper) (s : St), Ex (aops P n ops l s)
  | [], s => fun K h => ⟨s, fun _ k => k, h⟩
  | o :: l, s => fun K h => by
    obtain ⟨s1, h1, h2⟩ := aop_ex ops o _ h
    obtain ⟨s2, h3, h4⟩ := aops_ex ops l s1 K h2
    exact ⟨s2, fun K' k => h1 _ (h3 K' k), h4⟩

theorem aopD_ex (ops : Array Oper) (o : Oper) : Ex (aopD P n ops o s) := by
  intro K h
  unfold aopD at h ⊢
  cases hd : o.dst with
  | none => rw [hd] at h; exact h.elim
  | some d =>
    rw [hd] at h
    obtain ⟨hn, ho, h⟩ := h
    dsimp only
    have go : ∀ {X : (St → Prop) → Prop}, (∃ s', (∀ K' : St → Prop, K' s' → X K') ∧ K s') → ∃ s', (∀ K' : St → Prop, K' s' → d < n ∧ (s d).isOwner = false ∧ X K') ∧ K s' := fun ⟨s', h1, h2⟩ => ⟨s', fun K' k => ⟨hn, ho, h1 K' k⟩, h2⟩
    refine go ?_
    cases hg : o.guard with
    | none =>
      rw [hg] at h
      dsimp only at h ⊢
      cases ho : o.op with
      | alloc t =>
        rw [ho] at h
        dsimp only at h ⊢
        cases hz : zeroOf P t with
        | none => rw [hz] at h; exact h.elim
        | some cs => rw [hz] at h; exact ⟨_, fun _ k => k, h⟩
      | box t x =>
        rw [ho] at h
        dsimp only at h ⊢
        split at h
        · exact ⟨_, fun _ k => ⟨h.1, k⟩, h.2⟩
        · exact h.elim
      | buildSlice t len parts => rw [ho] at h; exact ⟨_, fun _ k => ⟨h.1, k⟩, h.2⟩
      | call c =>
        rw [ho] at h
        dsimp only at h ⊢
        split at h
        · obtain ⟨rv, h1, h2, h3⟩ := h
          exact ⟨_, fun _ k => ⟨rv, h1, h2, k⟩, h3⟩
        · exact ⟨_, fun _ k => ⟨h.1, k⟩, h.2⟩
      | _ => rw [ho] at h; exact ⟨_, fun _ k => ⟨h.1, k⟩, h.2⟩
    | some g =>
      rw [hg] at h
      dsimp only at h ⊢
      cases he : gval ops s g with
      | none => rw [he] at h; exact h.elim
      | some e =>
        rw [he] at h
        dsimp only at h ⊢
        cases ho : o.op with
        | call c =>
          rw [ho] at h
          dsimp only at h ⊢
          split at h
          · obtain ⟨r, h1, h4⟩ := callG_exact h
            exact ⟨_, fun _ k => h1 _ k, h4⟩
          · exact ⟨_, fun _ k => ⟨h.1, h.2.1, k⟩, h.2.2⟩
        | _ => rw [ho] at h; exact ⟨_, fun _ k => ⟨h.1, h.2.1, k⟩, h.2.2⟩

theorem aopC_ex (o : Oper) : Ex (aopC P n o s) := by
  intro K h
  unfold aopC at h ⊢
  cases hd : o.dst with
  | none => rw [hd] at h; exact h.elim
  | some d =>
    rw [hd] at h
    cases ho : o.op with
    | call c =>
      rw [ho] at h
      dsimp only at h ⊢
      split at h
      · obtain ⟨hn, hno, h⟩ := h
        obtain ⟨s', h1, h2⟩ := callS_ex (K := K) (m := fun K => callM P (calleeM s _ c.args.toList) (fun ys rv outs => boxOuts ys outs = true ∧ rv.av.isOwner = false ∧ K (put (setOuts s ys outs) d rv.av))) (fun K h => by
          obtain ⟨xs, r, outs, h1, h2⟩ := callM_ex h
          exact ⟨_, fun K' k => h1 _ ⟨h2.1, h2.2.1, k⟩, h2.2.2⟩) h
        exact ⟨s', fun K' k => ⟨hn, hno, h1 K' k⟩, h2⟩
      · exact h.elim
    | _ => rw [ho] at h; exact h.elim

theorem aopsD_ex (m : Bool) (ops : Array Oper) : ∀ (l : List Oper) (s : St), Ex (aopsD P n m ops l s)
  | [], s => fun K h => ⟨s, fun _ k => k, h⟩
  | o :: l, s => fun K h => by
    simp only [aopsD] at h ⊢
    split at h
    · split at h
      · obtain ⟨s1, h1, h2⟩ := aopC_ex o _ h
        obtain ⟨s2, h3, h4⟩ := aopsD_ex m ops l s1 K h2
        exact ⟨s2, fun K' k => h1 _ (h3 K' k), h4⟩
      · obtain ⟨s1, h1, h2⟩ := aopD_ex ops o _ h.2
        obtain ⟨s2, h3, h4⟩ := aopsD_ex m ops l s1 K h2
        exact ⟨s2, fun K' k => ⟨h.1, h1 _ (h3 K' k)⟩, h4⟩
    · split at h
      · obtain ⟨s1, h1, h2⟩ := aop_ex ops o _ h.2
        obtain ⟨s2, h3, h4⟩ := aopsD_ex m ops l s1 K h2
        exact ⟨s2, fun K' k => ⟨h.1, h1 _ (h3 K' k)⟩, h4⟩
      · obtain ⟨s1, h1, h2⟩ := aop_ex ops o _ h
        obtain ⟨s2, h3, h4⟩ := aopsD_ex m ops l s1 K h2
        exact ⟨s2, fun K' k => h1 _ (h3 K' k), h4⟩

/-- Code goes to one end. -/
def ExC (X : (Exit → St → Prop) → Prop) : Prop := ∀ Q : Exit → St → Prop, X Q → ∃ e s', (∀ Q' : Exit → St → Prop, Q' e s' → X Q') ∧ Q e s'

theorem ExC.mono {X : (Exit → St → Prop) → Prop} (h : ExC X) {Q Q' : Exit → St → Prop} (hx : X Q) (hq : ∀ e s, Q e s → Q' e s) : X Q' := by
  obtain ⟨e, s', h1, h2⟩ := h Q hx
  exact h1 Q' (hq e s' h2)

theorem aloop_ex {body : (Exit → St → Prop) → St → Prop} (hb : ∀ s, ExC (fun Q => body Q s)) (s : St) : ExC (fun Q => ALoop body Q s) := by
  rintro Q ⟨ι, I, ok, μ, ⟨x0, hx0, hw0⟩, hround⟩
  have key : ∀ (m : Nat) (x : ι), μ x = m → ok x → ∃ e s', Q e s' ∧ ∃ ok' : ι → Prop, ok' x ∧ ∀ Q' : Exit → St → Prop, Q' e s' → ∀ y, ok' y → body (thenA (fun t => ∃ z, ok' z ∧ μ z < μ y ∧ Weak t (I z)) Q') (I y) := by
    intro m
    induction m using Nat.strongRecOn with
    | ind m ih =>
      rintro x rfl hx
      obtain ⟨e1, s1, h1, h2⟩ := hb (I x) _ (hround x hx)
      have stop : Q e1 s1 → e1 ≠ .normal → ∃ e s', Q e s' ∧ ∃ ok' : ι → Prop, ok' x ∧ ∀ Q' : Exit → St → Prop, Q' e s' → ∀ y, ok' y → body (thenA (fun t => ∃ z, ok' z ∧ μ z < μ y ∧ Weak t (I z)) Q') (I y) := by
        intro hq hne
        refine ⟨e1, s1, hq, fun y => y = x, rfl, fun Q' hq' y hy => ?_⟩
        subst hy
        refine h1 _ ?_
        cases e1 with
        | normal => exact absurd rfl hne
        | _ => exact hq'
      cases e1 with
      | normal =>
        obtain ⟨y, hy, hlt, hwk⟩ := h2
        obtain ⟨e, s', hq, ok', hok', hall⟩ := ih (μ y) hlt y rfl hy
        refine ⟨e, s', hq, fun z => z = x ∨ ok' z, .inl rfl, fun Q' hq' z hz => ?_⟩
        rcases hz with rfl | hz
        · exact h1 _ ⟨y, .inr hok', hlt, hwk⟩
        · refine (hb (I z)).mono (hall Q' hq' z hz) (fun e2 s2 h => ?_)
          cases e2 with
          | normal => obtain ⟨v, hv, hl, hwv⟩ := h; exact ⟨v, .inr hv, hl, hwv⟩
          | _ => exact h
      | exit i => exact stop h2 (by simp)
      | _ => exact stop h2 (by simp)
  obtain ⟨e, s', hq, ok', hok', hall⟩ := key _ x0 rfl hx0
  exact ⟨e, s', fun Q' hq' => ⟨ι, I, ok', μ, ⟨x0, hok', hw0⟩, hall Q' hq'⟩, hq⟩

theorem awp_ex : ∀ (c : Code) (s : St), ExC (fun Q => awp P n c Q s) := by
  intro c
  induction c with
  | skip => intro s Q h; exact ⟨_, _, fun _ k => k, h⟩
  | label l => intro s Q h; exact ⟨_, _, fun _ k => k, h⟩
  | exit id => intro s Q h; exact ⟨_, _, fun _ k => k, h⟩
  | ret => intro s Q h; exact ⟨_, _, fun _ k => k, h⟩
  | region id ops draw =>
    intro s Q h
    cases draw with
    | false =>
      obtain ⟨s', h1, h2⟩ := aops_ex ops ops.toList s _ h
      exact ⟨.normal, s', fun Q' k => h1 _ k, h2⟩
    | true =>
      simp only [awp] at h ⊢
      split at h
      · rcases h with h | ⟨h0, h⟩
        · obtain ⟨s', h1, h2⟩ := aopsD_ex _ ops ops.toList s _ h
          exact ⟨.normal, s', fun Q' k => .inl (h1 _ k), h2⟩
        · obtain ⟨s', h1, h2⟩ := aopsD_ex _ ops ops.toList s _ h
          exact ⟨.normal, s', fun Q' k => .inr ⟨h0, h1 _ k⟩, h2⟩
      · obtain ⟨s', h1, h2⟩ := aopsD_ex _ ops ops.toList s _ h
        exact ⟨.normal, s', fun Q' k => h1 _ k, h2⟩
  | seq x y ihx ihy =>
    intro s Q h
    obtain ⟨e, s1, h1, h2⟩ := ihx s _ h
    cases e with
    | normal =>
      obtain ⟨e2, s2, h3, h4⟩ := ihy s1 Q h2
      exact ⟨e2, s2, fun Q' k => h1 _ (h3 Q' k), h4⟩
    | _ => exact ⟨_, s1, fun Q' k => h1 _ k, h2⟩
  | cond c x y ihx ihy =>
    intro s Q h
    simp only [awp] at h ⊢
    unfold acond at h ⊢
    split at h
    · rename_i p b e
      obtain ⟨hp, ht, hf⟩ := h
      cases b with
      | true =>
        obtain ⟨e1, s1, h1, h2⟩ := ihx s Q (ht rfl)
        exact ⟨e1, s1, fun Q' k => ⟨hp, fun _ => h1 Q' k, fun h => (by cases h)⟩, h2⟩
      | false =>
        obtain ⟨e1, s1, h1, h2⟩ := ihy s Q (hf rfl)
        exact ⟨e1, s1, fun Q' k => ⟨hp, fun h => (by cases h), fun _ => h1 Q' k⟩, h2⟩
    · exact h.elim
  | block id c ih =>
    intro s Q h
    obtain ⟨e, s1, h1, h2⟩ := ih s _ h
    cases e with
    | exit id' =>
      by_cases hid : id' = id
      · refine ⟨.normal, s1, fun Q' k => h1 _ ?_, ?_⟩
        · simp only [inBlockA]; rw [if_pos hid]; exact k
        · simp only [inBlockA] at h2; rw [if_pos hid] at h2; exact h2
      · refine ⟨.exit id', s1, fun Q' k => h1 _ ?_, ?_⟩
        · simp only [inBlockA]; rw [if_neg hid]; exact k
        · simp only [inBlockA] at h2; rw [if_neg hid] at h2; exact h2
    | _ => exact ⟨_, s1, fun Q' k => h1 _ k, h2⟩
  | loop c ih =>
    intro s Q h
    exact aloop_ex (body := awp P n c) ih s Q h
  | _ => intro s Q h; exact h.elim

/-- THE CONTRACT, WHERE THE OUTCOME IS TOLD BY WHAT IS TRUE OF IT. -/
def RetE {α : Type} (P : Program) (rs : List ResultVar) (post : α → Prop) (r : α → RV) (outs : α → List AV) (e : Exit) (s : St) : Prop :=
  (e = .normal ∨ e = .ret) ∧ ∃ x, post x ∧ giveR P s rs (outs x) (r x) ∧ outsIn (endSt s rs (r x)) 0 (outs x)
def EndE {α : Type} (P : Program) (rs : List ResultVar) (s : St) [post : Seal (α → Prop)] [r : Seal (α → RV)] [outs : Seal (α → List AV)] : Prop :=
  ∃ x, post.val x ∧ giveR P s rs (outs.val x) (r.val x) ∧ outsIn (endSt s rs (r.val x)) 0 (outs.val x)
theorem EndE.of {α : Type} {P : Program} {rs : List ResultVar} {s : St} {post : α → Prop} {r : α → RV} {outs : α → List AV} (x : α) (h : post x) (h1 : giveR P s rs (outs x) (r x) ∧ outsIn (endSt s rs (r x)) 0 (outs x)) : @EndE α P rs s ⟨post⟩ ⟨r⟩ ⟨outs⟩ := ⟨x, h, h1⟩
@[congr] theorem RetE_congr {α : Type} {P : Program} {rs : List ResultVar} {post : α → Prop} {r : α → RV} {outs : α → List AV} {e : Exit} {s s' : St} (h : s = s') : RetE P rs post r outs e s = RetE P rs post r outs e s' := by rw [h]
@[simp] theorem RetE_normal {α : Type} (P : Program) (rs : List ResultVar) (post : α → Prop) (r : α → RV) (outs : α → List AV) (s : St) : RetE P rs post r outs .normal s = @EndE α P rs s ⟨post⟩ ⟨r⟩ ⟨outs⟩ := by
  simp only [RetE, EndE, true_or, true_and]
@[simp] theorem RetE_ret {α : Type} (P : Program) (rs : List ResultVar) (post : α → Prop) (r : α → RV) (outs : α → List AV) (s : St) : RetE P rs post r outs .ret s = @EndE α P rs s ⟨post⟩ ⟨r⟩ ⟨outs⟩ := by
  simp only [RetE, EndE, or_true, true_and]

theorem ACallsM.ofE {α : Type} {f : FuncId} {fn : Func} {c : Code} {args : List AV} (post : α → Prop) (r : α → RV) (outs : α → List AV) (hm : P.follows .mixedOrders = true) (hf : P.funcs[f]? = some fn) (hname : (fn.name == "runtime.NumGoroutine") = false)
    (hb : fn.body = some c) (hok : codeOk c = true) (m : Nat) (hlive : ∀ x, liveLen (outs x) = m) (hod : codeDst m c = true) (hfit : ∀ x, outsFit args (outs x) = true) (hl : args.length ≤ fn.ntmps)
    (h : awp P fn.ntmps c (RetE P fn.results.toList post r outs) (initM args 0)) : ∃ x, post x ∧ ACallsM P f args (r x) (outs x) := by
  obtain ⟨e, s', h1, h2, x, hx, h3⟩ := awp_ex c _ _ h
  exact ⟨x, hx, ACallsM.mk hm hf hname hb hok (by rw [hlive x]; exact hod) hl (hfit x) (Qa := fun e' t => e' = e ∧ t = s') (fun e' t ⟨ee, et⟩ => by subst ee; subst et; exact ⟨h2, h3⟩) (fun _ => h1 _ ⟨rfl, rfl⟩)⟩

theorem ACalls.ofE {α : Type} {f : FuncId} {fn : Func} {c : Code} {args : List XV} (post : α → Prop) (r : α → RV) (hm : P.follows .mixedOrders = true) (hf : P.funcs[f]? = some fn) (hname : (fn.name == "runtime.NumGoroutine") = false)
    (hb : fn.body = some c) (hok : codeOk c = true) (hl : args.length ≤ fn.ntmps)
    (h : awp P fn.ntmps c (RetE P fn.results.toList post r (fun _ => args.map fun _ => AV.dead)) (initM (args.map .x) 0)) : ∃ x, post x ∧ ACalls P f args (r x) := by
  obtain ⟨x, hx, hc⟩ := ACallsM.ofE post r (fun _ => args.map fun _ => AV.dead) hm hf hname hb hok 0 (fun _ => liveLen_dead args) (codeDst_zero c) (fun _ => outsFit_dead args) (by simpa using hl) h
  exact ⟨x, hx, ACalls.ofM hc⟩

end
end Go.Ab
