/-
  One operation of a region, with its guard.
-/
import Derived.Test.YtejhjdpafdpjlaaDoorAbStep3
namespace Go.Ab
open Go Go.RowKit
set_option linter.unusedSectionVars false
variable [Amb]

/-- What an operation yields that makes no memory. -/
def aval2 (P : Program) (s : St) (op : Op) : Prop × AV :=
  match op with
  | .build t parts => abuild P (sv s) t parts.toList
  | op => aval P s op

def Wf (s : St) : Prop := ∀ i j, (s i).refs j = true → (s j).isOwner = true

theorem look_refs {s : St} (h : Wf s) (x : Operand) {j : Nat} (hr : (look s x).refs j = true) : (s j).isOwner = true := by
  cases x with
  | tmp t =>
    simp only [look] at hr
    split at hr
    · rename_i cs hs
      obtain rfl : t = j := by simpa [AV.refs] using hr
      rw [hs]; rfl
    · rename_i e size xs hs
      obtain rfl : t = j := by simpa [AV.refs] using hr
      rw [hs]; rfl
    · rename_i c bs es hs
      obtain rfl : t = j := by simpa [AV.refs] using hr
      rw [hs]; rfl
    · exact h t j hr
  | const v =>
    simp only [look, constAV] at hr
    split at hr
    · split at hr <;> cases hr
    · cases hr
    · split at hr <;> cases hr
  | _ => cases hr

theorem sv_refs {s : St} (h : Wf s) (x : Operand) {j : Nat} (hr : (sv s x).2.refs j = true) : (s j).isOwner = true := by
  refine look_refs h x ?_
  unfold sv at hr
  generalize look s x = r at hr ⊢
  cases r with
  | cond e a => exact hr
  | _ => exact hr

theorem acut_refs {k : TK} {p : Prop} {cs : List CV} {j : Nat} : (acut k p cs).2.refs j = false := by
  cases k with
  | one => cases cs <;> rfl
  | _ => rfl

theorem aslice_refs {P : Program} {s : St} {t : TypeId} {x : Prop × AV} {lo hi mx : Option Operand} {j : Nat} (hx : ∀ j, x.2.refs j = true → (s j).isOwner = true) (hr : (aslice P s t x lo hi mx).2.refs j = true) : (s j).isOwner = true := by
  unfold aslice at hr
  split at hr
  · split at hr <;> cases hr
  · split at hr <;> cases hr
  · split at hr <;> cases hr
  · split at hr
    · split at hr
      · exact hx j hr
      · cases hr
    · cases hr
  · split at hr
    · exact hx j hr
    · cases hr
  · cases hr

theorem capsR_refs {j : Nat} : ∀ {l : List (Prop × AV)} {p : Prop} {cs : List (CV ⊕ (Nat × Nat))}, capsR l = (p, some cs) → cs.any (capRef j) = true → ∃ x ∈ l, x.2.refs j = true
  | [], p, cs, h, hr => by
    simp only [capsR, Prod.mk.injEq, Option.some.injEq] at h
    obtain ⟨_, rfl⟩ := h
    cases hr
  | (q, v) :: l, p, cs, h, hr => by
    unfold capsR at h
    split at h
    · rename_i e; cases e
    · rename_i e
      injection e with e1 e2
      subst e2
      split at h
      · rename_i q2 cs' e3
        simp only [Prod.mk.injEq, Option.some.injEq] at h
        obtain ⟨_, rfl⟩ := h
        simp only [List.any_cons, capRef, Bool.false_or] at hr
        obtain ⟨x, h1, h2⟩ := capsR_refs e3 hr
        exact ⟨x, List.mem_cons_of_mem _ h1, h2⟩
      · simp at h
    · rename_i q' i off r e
      injection e with e1 e2
      injection e1 with e1 e4
      subst e4; subst e2
      split at h
      · rename_i q2 cs' e3
        simp only [Prod.mk.injEq, Option.some.injEq] at h
        obtain ⟨_, rfl⟩ := h
        simp only [List.any_cons, Bool.or_eq_true] at hr
        rcases hr with hr | hr
        · exact ⟨_, List.mem_cons_self, hr⟩
        · obtain ⟨x, h1, h2⟩ := capsR_refs e3 hr
          exact ⟨x, List.mem_cons_of_mem _ h1, h2⟩
      · simp at h
    · simp at h

theorem aval2_refs {P : Program} {s : St} (h : Wf s) (op : Op) {j : Nat} (hr : (aval2 P s op).2.refs j = true) : (s j).isOwner = true := by
  cases op with
  | move x => exact sv_refs h x hr
  | assign x => exact look_refs h x hr
  | pick c x y =>
    exfalso
    simp only [aval2, aval, apick] at hr
    split at hr <;> cases hr
  | load t x =>
    exfalso
    simp only [aval2, aval, aload] at hr
    split at hr
    · unfold acutZ at hr
      split at hr
      · split at hr <;> cases hr
      · rw [acut_refs] at hr; cases hr
    · cases hr
  | nilCheck x =>
    simp only [aval2, aval] at hr
    split at hr
    · exact sv_refs h x hr
    · cases hr
  | binOp op t x y yt =>
    exfalso
    simp only [aval2, aval, abinX] at hr
    split at hr
    · split at hr <;> cases hr
    · unfold anil at hr; split at hr <;> cases hr
    · cases hr
    · split at hr
      · split at hr <;> cases hr
      · cases hr
    · cases hr
  | unOp op t x =>
    exfalso
    simp only [aval2, aval, aunop] at hr
    split at hr <;> cases hr
  | convert src dst x =>
    exfalso
    simp only [aval2, aval, aconvert] at hr
    split at hr
    · split at hr <;> cases hr
    · cases hr
    · cases hr
  | slice t x lo hi mx =>
    exact aslice_refs (fun j hj => sv_refs h x hj) hr
  | fieldAddr t x f =>
    simp only [aval2, aval, afieldAddr] at hr
    split at hr
    · rename_i i off _ e
      exact sv_refs h x (by rw [e]; exact hr)
    · rename_i i k off _ e
      exact sv_refs h x (by rw [e]; exact hr)
    · cases hr
    · cases hr
  | field t x f =>
    exfalso
    simp only [aval2, aval, afield] at hr
    split at hr
    · rw [acut_refs] at hr; cases hr
    · cases hr
  | indexAddr t x i =>
    simp only [aval2, aval, aindexAddr] at hr
    split at hr
    · cases hr
    · split at hr
      · rename_i hs
        obtain rfl := (beq_iff_eq.1 hr)
        rw [hs]; rfl
      · cases hr
    · rename_i j' lo len wh q k m _ e1 e2
      exact sv_refs h x (by rw [e1]; exact hr)
    · cases hr
  | index t x i =>
    exfalso
    simp only [aval2, aval, aindex] at hr
    split at hr <;> cases hr
  | makeFunc fn first captured =>
    simp only [aval2, aval, amakeFunc] at hr
    split at hr
    · split at hr
      · cases hr
      · split at hr
        · rename_i e
          obtain ⟨x, hx, hxr⟩ := capsR_refs e hr
          obtain ⟨y, _, rfl⟩ := List.mem_map.1 hx
          exact sv_refs h y hxr
        · cases hr
    · cases hr
  | lookup t x k ok =>
    exfalso
    simp only [aval2, aval, alookup] at hr
    split at hr
    · split at hr
      · split at hr
        · unfold lookV at hr; split at hr <;> split at hr <;> cases hr
        · cases hr
      · cases hr
    · cases hr
  | extract x i =>
    exfalso
    simp only [aval2, aval, aextract] at hr
    split at hr
    · split at hr <;> cases hr
    · cases hr
  | call c =>
    exfalso
    simp only [aval2, aval, abuiltin, alen, amax, amin, acap] at hr
    split at hr
    · split at hr
      · split at hr
        · cases hr
        · cases hr
        · cases hr
        · cases hr
        · split at hr <;> cases hr
        · cases hr
        · cases hr
      · cases hr
    · split at hr
      · split at hr <;> cases hr
      · cases hr
    · split at hr
      · split at hr <;> cases hr
      · cases hr
    · split at hr
      · split at hr <;> cases hr
      · cases hr
    · cases hr
  | build t parts =>
    exfalso
    simp only [aval2, abuild] at hr
    split at hr <;> cases hr
  | _ => cases hr

section
variable {P : Program} {S0 : Env} {w0 w : World} {n : Nat} {s : St} {a : Act}

theorem aval2_ok (hR : Rel S0 w0 n s a w) (o : Oper) (hp : (aval2 P s o.op).1) :
    ∃ v, (execOp a.eval o).run P w = .ok (.value v) w ∧ RepIn S0 w0 s a w (aval2 P s o.op).2 v ∧ (aval2 P s o.op).2.isOwner = false := by
  obtain ⟨dst, op, type, pos, after, guard⟩ := o
  cases op with
  | build t parts =>
    obtain ⟨v, h1, h2, h3⟩ := abuild_ok (P := P) (f := Ab.sv s) (s := s) (a := a) (w := w) (w0 := w0) (S0 := S0) (fun x _ => hR.sv x.2) hp
    exact ⟨v, run_v h1, h2, h3⟩
  | _ => exact aval_ok hR _ hp

/-- A call that reads, or one that writes. -/
def callS (P : Program) (c : Prop × Option (FuncId × List XV)) (k : RV → Prop) (m : Prop) : Prop :=
  match c with
  | (p, some (g, xs)) => p ∧ ((∃ r, ACalls P g xs r ∧ k r) ∨ m)
  | _ => m
theorem callS_or {P : Program} {s : St} {f : Operand} {args : List Operand} {k : RV → Prop} {m : Prop} (h : callS P (callee s f args) k m) : (∃ r, acall P s f args r ∧ k r) ∨ m := by
  unfold callS at h
  unfold acall
  split at h
  · rename_i e
    obtain ⟨hp, ⟨r, hc, hk⟩ | hm⟩ := h
    · exact .inl ⟨r, by rw [e]; exact ⟨hp, hc⟩, hk⟩
    · exact .inr hm
  · exact .inr h

/-- A variable is given a part of the slice that it holds. -/
def aselfView (s : St) (d lo len : Nat) (wh : Bool) (K : St → Prop) : Prop :=
  match s d with
  | .own e size xs => match wh with
    | true => K (put (put s d .dead) d (.own e size (xs.take len)))
    | false => K (put (freeze s d) d (.x (.one (.list size ((xs.drop lo).take len)))))
  | _ => False

/-- A step without a guard. -/
def astep (P : Program) (n : Nat) (s : St) (op : Op) (dst : Option Tmp) (K : St → Prop) : Prop :=
  match op, dst with
  | .alloc t, some d => match zeroOf P t with
    | some cs => d < n ∧ K (put s d (.box cs))
    | none => False
  | .box _ x, some d => match uv s x with
    | (p, .x xv) => p ∧ d < n ∧ K (put (freezeL s (lends s [x])) d (.box xv.cells))
    | _ => False
  | .build t parts, some d => (abuild P (uv s) t parts.toList).1 ∧ d < n ∧ K (put (freezeL s (lends s (parts.toList.map (·.2)))) d (abuild P (uv s) t parts.toList).2)
  | .buildSlice t len parts, some d => (abuildSlice P (uv s) t len parts.toList).1 ∧ d < n ∧ K (put (freezeL s (lends s (parts.toList.map (·.2)))) d (abuildSlice P (uv s) t len parts.toList).2)
  | .store t addr x, none => OneOk P t = true ∧ (astore P (freezeL s (lends s [x])) t (sv (freezeL s (lends s [x])) addr) (uv s x)).1 ∧ K (astore P (freezeL s (lends s [x])) t (sv (freezeL s (lends s [x])) addr) (uv s x)).2
  | .makeMap _ none, some d => d < n ∧ K (put s d (.mp 0 [] []))
  | .mapUpdate t m k x, none => (amapUpdate P s t (sv s m) (sv s k) (sv s x)).1 ∧ K (amapUpdate P s t (sv s m) (sv s k) (sv s x)).2
  | .assign (.tmp t), some d => match s t with
    | .own e size xs => d < n ∧ K (put (put s t .dead) d (.own e size xs))
    | .mp c bs es => d < n ∧ K (put (put s t .dead) d (.mp c bs es))
    | .view i lo len wh => match decide (i = d) with
      | true => d < n ∧ aselfView s d lo len wh K
      | false => d < n ∧ K (put s d (.view i lo len wh))
    | _ => d < n ∧ K (put s d (look s (.tmp t)))
  | .call c, none => match c.callee with
    | .builtin .clear => match c.args.toList, c.argTypes.toList with
      | [x], [t] => (aclear P s t (sv s x)).1 ∧ K (aclear P s t (sv s x)).2
      | _, _ => False
    | _ => False
  | .call c, some d => match c.callee with
    | .value f => callS P (callee s f c.args.toList) (fun r => d < n ∧ K (put (afterCall s c.args.toList r) d r.av)) (callM P (calleeM s f c.args.toList) (fun xs r outs => d < n ∧ K (put (setOuts s xs outs) d r.av)))
    | .builtin .append => match c.args.toList, c.argTypes.toList with
      | [x, y], [t, t'] => (aappend P s t t' (sv s x) (sv s y)).1 ∧ d < n ∧ K (put (aappend P s t t' (sv s x) (sv s y)).2.1 d (aappend P s t t' (sv s x) (sv s y)).2.2)
      | _, _ => False
    | _ => (aval2 P s (.call c)).1 ∧ d < n ∧ K (put s d (aval2 P s (.call c)).2)
  | op, some d => (aval2 P s op).1 ∧ d < n ∧ K (put s d (aval2 P s op).2)
  | _, _ => False

/-- From what is known of a value operation to the step. -/
theorem value_step (hR : Rel S0 w0 n s a w) {o : Oper} {d : Nat} {r : AV} (hd : S0.m ≤ d ∧ d < n) (hdst : o.dst = some d)
    (h : ∃ v, (execOp a.eval o).run P w = .ok (.value v) w ∧ RepIn S0 w0 s a w r v ∧ r.isOwner = false) (hrf : ∀ j, r.refs j = true → (s j).isOwner = true)
    {K : Act → World → Prop} {Q : Exit → Act → World → Prop} (hK : ∀ a' w', Rel S0 w0 n (Ab.put s d r) a' w' → K a' w') : o.wp P a w K Q := by
  obtain ⟨v, hrun, hrep, hno⟩ := h
  unfold Oper.wp
  rw [hrun]
  simp only [Oper.upon, hdst]
  exact hK _ _ (hR.put hd (World.grownBy.refl w none) hrf hrep (fun b hb => by rw [blkOf_notOwner hno] at hb; cases hb) (fun b hb => by rw [blkOf_notOwner hno] at hb; cases hb))

theorem sv_cond {x : Operand} {p : Prop} {r : AV} (h : sv s x = (p, r)) (hp : p) : (sv s x).1 := by rw [h]; exact hp

theorem astep_ok (hR : Rel S0 w0 n s a w) (o : Oper) (hdm : ∀ d, o.dst = some d → S0.m ≤ d) {K : St → Prop} (h : astep P n s o.op o.dst K) {K' : Act → World → Prop} {Q : Exit → Act → World → Prop}
    (hK : ∀ s' a' w', Rel S0 w0 n s' a' w' → K s' → K' a' w') : o.wp P a w K' Q := by
  have plain : ∀ d, o.dst = some d → (aval2 P s o.op).1 ∧ d < n ∧ K (Ab.put s d (aval2 P s o.op).2) → o.wp P a w K' Q := by
    intro d hdst ⟨hp, hd, hk⟩
    exact value_step hR ⟨hdm d hdst, hd⟩ hdst (aval2_ok hR o hp) (fun j hj => aval2_refs hR.wf _ hj) (fun a' w' hR' => hK _ a' w' hR' hk)
  obtain ⟨dst, op, type, pos, after, guard⟩ := o
  dsimp only at h plain hdm
  cases dst with
  | none =>
    cases op <;> try (exact h.elim)
    case store t addr x =>
      obtain ⟨ht, hp, hk⟩ := h
      have hRf := freezeL_ok (lends s [x]) s hR
      obtain ⟨w', hrun, hR'⟩ := astore_ok (P := P) hRf (hRf.sv addr) (uv_ok hR [x] (by simp)) ht hp
      unfold Oper.wp
      have : (execOp a.eval ({ dst := none, op := .store t addr x, type := type, pos := pos, after := after, guard := guard } : Oper)).run P w = .ok .skip w' := by
        simp only [execOp, Sem.run_bind, hrun, Result.andThen_ok, Sem.run_pure]
      rw [this]
      exact hK _ _ _ hR' hk
    case call c =>
      obtain ⟨callee, args, argTypes⟩ := c
      simp only [astep] at h
      split at h
      · obtain ⟨args⟩ := args
        obtain ⟨argTypes⟩ := argTypes
        split at h
        · rename_i x t e1 e2
          have e1' : args = [x] := e1
          have e2' : argTypes = [t] := e2
          subst e1'
          subst e2'
          obtain ⟨hp, hk⟩ := h
          obtain ⟨r, w', hrun, hR'⟩ := aclear_ok (P := P) (ty := type) hR (hR.sv _) hp
          have hx := congrArg (fun r => Result.andThen r fun (a : Value) w' => Result.ok (Next.value a) w') hrun
          unfold Oper.wp
          simp only [execOp, resolve, Sem.run_bind, Sem.run_pure, Result.andThen_ok, invoke, builtin, map_mk, List.map_cons, List.map_nil]
          have hx' : ((Sem.run P (Builtin.clear_ ⟨[t]⟩ type ⟨[a.eval x]⟩) w).andThen fun (a : Value) w' => Result.ok (Next.value a) w') = .ok (.value r) w' := hx
          rw [hx']
          exact hK _ _ _ hR' hk
        · exact h.elim
      · exact h.elim
    case mapUpdate t m k x =>
      obtain ⟨hp, hk⟩ := h
      obtain ⟨w', hrun, hR'⟩ := amapUpdate_ok (P := P) hR (hR.sv m) (hR.sv k) (hR.sv x) hp
      unfold Oper.wp
      have : (execOp a.eval ({ dst := none, op := .mapUpdate t m k x, type := type, pos := pos, after := after, guard := guard } : Oper)).run P w = .ok .skip w' := by
        simp only [execOp, Sem.run_bind, hrun, Result.andThen_ok, Sem.run_pure]
      rw [this]
      exact hK _ _ _ hR' hk
    case makeMap t r => cases r <;> exact h.elim
    case assign x => cases x <;> exact h.elim
    all_goals exact h.elim
  | some d =>
    have hmd := hdm d rfl
    cases op <;> try (exact plain d rfl h)
    case alloc t =>
      simp only [astep] at h
      cases hz : zeroOf P t with
      | none => rw [hz] at h; exact h.elim
      | some cs =>
        rw [hz] at h
        obtain ⟨hd, hk⟩ := h
        obtain ⟨z, hrun, hl⟩ := zeroOf_ok (P := P) (w := w) hz (Shared S0 w0.heap.size w s (tmOf a))
        have hx : (execOp a.eval ({ dst := some d, op := .alloc t, type := type, pos := pos, after := after, guard := guard } : Oper)).run P w = .ok (.value (.pointer (some ⟨w.heap.size, 0, none⟩))) (w.alloc (.cells z.cells t)) := by
          simp [execOp, Instr.alloc, hrun, newVar, newRow]
        unfold Oper.wp
        rw [hx]
        exact hK _ _ _ (hR.newBox ⟨hmd, hd⟩ hl) hk
    case makeMap t r =>
      cases r with
      | none =>
        obtain ⟨hd, hk⟩ := h
        unfold Oper.wp
        have hx : (execOp a.eval ({ dst := some d, op := .makeMap t none, type := type, pos := pos, after := after, guard := guard } : Oper)).run P w = .ok (.value (.map (some w.heap.size))) (w.alloc (.map #[] 0)) := by
          simp [execOp, Instr.makeMap]
        rw [hx]
        exact hK _ _ _ (hR.newMap ⟨hmd, hd⟩) hk
      | some r => exact plain d rfl h
    case box t x =>
      simp only [astep] at h
      split at h
      · rename_i p xv e
        obtain ⟨hp, hd, hk⟩ := h
        have hRf := freezeL_ok (lends s [x]) s hR
        have hrep := uv_ok hR [x] (x := x) (by simp) (by rw [e]; exact hp)
        rw [e] at hrep
        have hx : (execOp a.eval ({ dst := some d, op := .box t x, type := type, pos := pos, after := after, guard := guard } : Oper)).run P w = .ok (.value (.pointer (some ⟨w.heap.size, 0, none⟩))) (w.alloc (.cells (a.eval x).cells t)) := by
          simp [execOp, Instr.box, newVar, newRow]
        unfold Oper.wp
        rw [hx]
        exact hK _ _ _ (hRf.newBox ⟨hmd, hd⟩ (RepX.cells hrep)) hk
      · exact h.elim
    case build t parts =>
      obtain ⟨hp, hd, hk⟩ := h
      have hRf := freezeL_ok (lends s (parts.toList.map (·.2))) s hR
      obtain ⟨v, h1, h2, h3⟩ := abuild_ok (P := P) (f := uv s) (fun x hx => uv_ok hR (parts.toList.map (·.2)) (List.mem_map.2 ⟨x, hx, rfl⟩)) hp
      refine value_step hRf ⟨hmd, hd⟩ rfl ⟨v, run_v h1, h2, h3⟩ (fun j hj => ?_) (fun a' w' hR' => hK _ _ _ hR' hk)
      unfold abuild at hj
      split at hj <;> cases hj
    case buildSlice t len parts =>
      obtain ⟨hp, hd, hk⟩ := h
      have hRf := freezeL_ok (lends s (parts.toList.map (·.2))) s hR
      obtain ⟨v, w', hrun, hR'⟩ := abuildSlice_ok (P := P) (f := uv s) hRf (fun x hx => uv_ok hR (parts.toList.map (·.2)) (List.mem_map.2 ⟨x, hx, rfl⟩)) ⟨hmd, hd⟩ hp
      unfold Oper.wp
      have hx : (execOp a.eval ({ dst := some d, op := .buildSlice t len parts, type := type, pos := pos, after := after, guard := guard } : Oper)).run P w = .ok (.value v) w' := by
        simp only [execOp, Sem.run_bind, hrun, Result.andThen_ok, Sem.run_pure]
      rw [hx]
      exact hK _ _ _ hR' hk
    case assign x =>
      cases x with
      | tmp t =>
        simp only [astep] at h
        cases hs : s t with
        | own e size xs =>
          rw [hs] at h
          obtain ⟨hd, hk⟩ := h
          have hi := hR.rep t
          rw [hs] at hi
          obtain ⟨us, hown, hl, hx, hm, hO⟩ := hi
          have hbt : blkOf (s t) (tmOf a t) = (tmOf a t).ownBlock := by rw [hs]; rfl
          refine hK _ _ _ (hR.take (r := .own e size xs) ⟨hmd, hd⟩ (by rw [hs]; rfl) (World.grownBy.refl w _) (v := tmOf a t) (fun b hb => .inl (by rw [hbt]; exact hb)) (fun j => rfl) (fun s' tm' S hS => ⟨us, hown, hl.mono hS (fun _ _ => rfl), hx, hm, hO⟩)) hk
        | mp c bs es =>
          rw [hs] at h
          obtain ⟨hd, hk⟩ := h
          have hi := hR.rep t
          rw [hs] at hi
          obtain ⟨b, ents, hv, hh, hB, he⟩ := hi
          have hbt : blkOf (s t) (tmOf a t) = some b := by rw [hs, hv]; rfl
          refine hK _ _ _ (hR.take (r := .mp c bs es) ⟨hmd, hd⟩ (by rw [hs]; rfl) (World.grownBy.refl w _) (v := tmOf a t) (fun b' hb => .inl (by rw [hbt, ← hb, hv]; rfl)) (fun j => rfl) (fun s' tm' S hS => ⟨b, ents, hv, hh, hB, he.mono hS (fun _ _ => rfl)⟩)) hk
        | view i lo len wh =>
          rw [hs] at h
          dsimp only at h
          cases hid : decide (i = d) with
          | false =>
            rw [hid] at h
            refine plain d rfl ⟨trivial, h.1, ?_⟩
            show K (Ab.put s d (look s (.tmp t)))
            simp only [look, hs]
            exact h.2
          | true =>
            rw [hid] at h
            obtain rfl := of_decide_eq_true hid
            obtain ⟨hd, hk⟩ := h
            unfold aselfView at hk
            split at hk
            · rename_i e size xs hsi
              have ht := hR.rep t
              rw [hs] at ht
              have hi := hR.rep i
              rw [hsi] at hi
              obtain ⟨us, hown, hl, hx, hm, hO⟩ := hi
              split at hk
              · have hbi : blkOf (s i) (tmOf a i) = (tmOf a i).ownBlock := by rw [hsi]; rfl
                obtain ⟨ho2, hb2, hlt, hle'⟩ := view_trunc hsi ht hown hl hx
                refine hK _ _ _ (hR.take (i := i) (r := .own e size (xs.take len)) ⟨hmd, hd⟩ (by rw [hsi]; rfl) (World.grownBy.refl w _) (v := tmOf a t) (fun b hb => .inl ?_) (fun j => rfl) (fun s' tm' S hS => ⟨us.take (len * size), ho2, hlt.mono hS (fun _ _ => rfl), fun x hx' => hx x (List.mem_of_mem_take hx'), by rw [List.length_take]; omega, fun b hb => hO b (hb2 b hb)⟩)) hk
                rw [hbi]
                exact hb2 b hb
              · have hRf := hR.freeze hsi
                have hblk : ∀ k b, blkOf (freeze s i k) (tmOf a k) = some b → k ≠ i ∧ blkOf (s k) (tmOf a k) = some b := by
                  intro k b hb
                  by_cases hki : k = i
                  · subst hki
                    unfold freeze at hb
                    simp only [if_pos, hsi, frozenAV] at hb
                    cases hb
                  · refine ⟨hki, ?_⟩
                    unfold freeze at hb
                    simp only [if_neg hki] at hb
                    split at hb
                    · cases hb
                    · exact hb
                have hlist : RepC w (Shared S0 w0.heap.size w (freeze s i) (tmOf a)) (.list size ((xs.drop lo).take len)) (tmOf a t) := by
                  refine view_list hsi ht hown (hl.mono (fun b hb => ⟨hb.1, hb.2.1, fun k hk' => hb.2.2 k (hblk k b hk').2⟩) (fun _ _ => rfl)) hx (fun b hb => ⟨.inr (hO b hb), (hown.lt b hb).2, fun k hk' => ?_⟩)
                  obtain ⟨h1, h2⟩ := hblk k b hk'
                  exact h1 (hR.inj k i b h2 (by rw [hsi]; exact hb))
                exact value_step (r := .x (.one (.list size ((xs.drop lo).take len)))) hRf ⟨hmd, hd⟩ rfl ⟨tmOf a t, rfl, hlist, rfl⟩ (fun j hj => by cases hj) (fun a' w' hR' => hK _ _ _ hR' hk)
            · exact hk.elim
        | _ =>
          rw [hs] at h
          refine plain d rfl ⟨trivial, h.1, ?_⟩
          exact h.2
      | _ => exact plain d rfl h
    case call c =>
      obtain ⟨callee, args, argTypes⟩ := c
      simp only [astep] at h
      split at h
      · rename_i f
        rcases callS_or h with ⟨r, hc, hd, hk⟩ | hc
        · exact acall_ok (P := P) hR hc ⟨argTypes, rfl⟩ ⟨hmd, hd⟩ rfl (fun a' w' hR' => hK _ _ _ hR' hk)
        · exact callM_ok (P := P) hR hc ⟨argTypes, rfl⟩ rfl hmd hK
      · obtain ⟨args⟩ := args
        obtain ⟨argTypes⟩ := argTypes
        split at h
        · rename_i x y t t' e1 e2
          have e1' : args = [x, y] := e1
          have e2' : argTypes = [t, t'] := e2
          subst e1'
          subst e2'
          obtain ⟨hp, hd, hk⟩ := h
          obtain ⟨r, w', hrun, hR'⟩ := aappend_ok (P := P) (ty := type) hR ⟨hmd, hd⟩ (hR.sv _) (hR.sv _) hp
          have hx := congrArg (fun r => Result.andThen r fun (a : Value) w' => Result.ok (Next.value a) w') hrun
          unfold Oper.wp
          simp only [execOp, resolve, Sem.run_bind, Sem.run_pure, Result.andThen_ok, invoke, builtin, map_mk, List.map_cons, List.map_nil]
          have hx' : ((Sem.run P (Builtin.append_ ⟨[t, t']⟩ type ⟨[a.eval x, a.eval y]⟩) w).andThen fun (a : Value) w' => Result.ok (Next.value a) w') = .ok (.value r) w' := hx
          rw [hx']
          exact hK _ _ _ hR' hk
        · exact h.elim
      · exact plain d rfl h

end
end Go.Ab
