/- The machine over plain data, part 3: lemmas. -/
import Derived.Test.YtklnopamfncfgaaGreatDoorAbJ2
import Derived.Still
import Derived.Deep.LoopGhost
/-
  A result, where nil stands for an empty slice.
-/
namespace Go.Ab
open Go Go.RowKit
set_option linter.unusedSectionVars false
variable [Amb]
def nilOk : CV → Prop
  | .nil => True
  | .list _ xs => xs = []
  | _ => False
@[simp] theorem nilOk_nil : nilOk .nil = True := rfl
@[simp] theorem nilOk_list (z : Nat) (xs : List (List CV)) : nilOk (.list z xs) = (xs = []) := rfl
def okC (want : CV) : CV → Prop
  | .nil => nilOk want
  | c => want = c
section
variable (want : CV)
@[simp] theorem okC_nil : okC want .nil = nilOk want := rfl
@[simp] theorem okC_bool (b : Bool) : okC want (.bool b) = (want = .bool b) := rfl
@[simp] theorem okC_int (k : IntKind) (n : Int) : okC want (.int k n) = (want = .int k n) := rfl
@[simp] theorem okC_str (l : List UInt8) : okC want (.str l) = (want = .str l) := rfl
@[simp] theorem okC_empty (z : Nat) : okC want (.empty z) = (want = .empty z) := rfl
@[simp] theorem okC_list (z : Nat) (xs : List (List CV)) : okC want (.list z xs) = (want = .list z xs) := rfl
@[simp] theorem okC_clo (f : FuncId) (caps : List CV) : okC want (.clo f caps) = (want = .clo f caps) := rfl
@[simp] theorem okC_atom (v : Value) : okC want (.atom v) = (want = .atom v) := rfl
end
def okX : XV → XV → Prop
  | .one a, .one b => okC a b
  | a, b => a = b
@[simp] theorem okX_one (a b : CV) : okX (.one a) (.one b) = okC a b := rfl
@[simp] theorem okX_agg (a b : List CV) : okX (.agg a) (.agg b) = (a = b) := by simp [okX]
def okXs : List XV → List XV → Prop
  | [], [] => True
  | a :: r, b :: s => okX a b ∧ okXs r s
  | _, _ => False
@[simp] theorem okXs_nil : okXs [] [] = True := rfl
@[simp] theorem okXs_cons (a b : XV) (r s : List XV) : okXs (a :: r) (b :: s) = (okX a b ∧ okXs r s) := rfl
@[simp] theorem okXs_nc (b : XV) (s : List XV) : okXs [] (b :: s) = False := rfl
@[simp] theorem okXs_cn (b : XV) (s : List XV) : okXs (b :: s) [] = False := rfl
def okR : RV → RV → Prop
  | .x a, .x b => okX a b
  | .tup a, .tup b => okXs a b
  | _, _ => False
@[simp] theorem okR_x (a b : XV) : okR (.x a) (.x b) = okX a b := rfl
@[simp] theorem okR_tup (a b : List XV) : okR (.tup a) (.tup b) = okXs a b := rfl
@[simp] theorem okR_xt (a : XV) (b : List XV) : okR (.x a) (.tup b) = False := rfl
@[simp] theorem okR_tx (a : List XV) (b : XV) : okR (.tup a) (.x b) = False := rfl
theorem okC_rep {w : World} {S : Nat → Prop} {a b : CV} {v : Value} (h : okC a b) (hr : RepC w S b v) : RepC w S a v := by
  cases b <;> simp only [okC] at h <;> try (subst h; exact hr)
  cases a <;> simp only [nilOk] at h
  · exact hr
  · subst h; cases hr; exact .list0 none 0 _ (by decide) (fun _ => rfl)
theorem okX_rep {w : World} {S : Nat → Prop} {a b : XV} {v : Value} (h : okX a b) (hr : RepX w S b v) : RepX w S a v := by
  cases a <;> cases b <;> simp only [okX] at h
  · exact okC_rep (b := _) h hr
  · cases h
  · cases h
  · rw [h]; exact hr
theorem okXs_at : ∀ {a b : List XV}, okXs a b → a.length = b.length ∧ ∀ (j : Nat) (x : XV), a[j]? = some x → ∃ y, b[j]? = some y ∧ okX x y
  | [], [], _ => ⟨rfl, fun j x h => by simp at h⟩
  | a :: r, b :: s, h => by
    obtain ⟨h1, h2⟩ := okXs_at h.2
    refine ⟨by simp [h1], fun j x hj => ?_⟩
    cases j with
    | zero => simp at hj; subst hj; exact ⟨b, rfl, h.1⟩
    | succ j => simp at hj; exact h2 j x hj
theorem okR_rep {w : World} {S : Nat → Prop} {a b : RV} {v : Value} (h : okR a b) (hr : RepR w S b v) : RepR w S a v := by
  cases a <;> cases b <;> simp only [okR] at h
  · exact okX_rep h hr
  · obtain ⟨us, hv, hl, hx⟩ := hr
    obtain ⟨h1, h2⟩ := okXs_at h
    refine ⟨us, hv, by rw [hl, h1], fun j x hj => ?_⟩
    obtain ⟨y, hy, hok⟩ := h2 j x hj
    obtain ⟨u, hu, hr⟩ := hx j y hy
    exact ⟨u, hu, okX_rep hok hr⟩
end Go.Ab
/-
  One operation of a region, with its guard.
-/
namespace Go.Ab
open Go Go.RowKit
set_option linter.unusedSectionVars false
variable [Amb]
def aval2 (P : Program) (s : St) (op : Op) : Prop × AV :=
  match op with
  | .build t parts => abuild P (sv s) t parts.toList
  | op => aval P s op
def Wf (s : St) : Prop := ∀ i j, (s i).refs j = true → (s j).isOwner = true
theorem look_refs {s : St} (h : Wf s) (x : Operand) {j : Nat} (hr : (look s x).refs j = true) : (s j).isOwner = true := by
  cases x with
  | tmp t =>
    simp only [look] at hr
    split at hr
    · rename_i cs hs
      obtain rfl : t = j := by simpa [AV.refs] using hr
      rw [hs]; rfl
    · rename_i e size xs hs
      obtain rfl : t = j := by simpa [AV.refs] using hr
      rw [hs]; rfl
    · rename_i c bs es hs
      obtain rfl : t = j := by simpa [AV.refs] using hr
      rw [hs]; rfl
    · exact h t j hr
  | const v =>
    simp only [look, constAV] at hr
    split at hr
    · split at hr <;> cases hr
    · cases hr
    · split at hr <;> cases hr
  | _ => cases hr
theorem sv_refs {s : St} (h : Wf s) (x : Operand) {j : Nat} (hr : (sv s x).2.refs j = true) : (s j).isOwner = true := by
  refine look_refs h x ?_
  exact strip_refs hr
theorem acut_refs {k : TK} {p : Prop} {cs : List CV} {j : Nat} : (acut k p cs).2.refs j = false := by
  cases k with
  | one => cases cs <;> rfl
  | _ => rfl
theorem aslice_refs {P : Program} {s : St} {t : TypeId} {x : Prop × AV} {lo hi mx : Option Operand} {j : Nat} (hx : ∀ j, x.2.refs j = true → (s j).isOwner = true) (hr : (aslice P s t x lo hi mx).2.refs j = true) : (s j).isOwner = true := by
  unfold aslice at hr
  split at hr
  · split at hr <;> cases hr
  · split at hr <;> cases hr
  · split at hr <;> cases hr
  · split at hr
    · split at hr
      · exact hx j hr
      · cases hr
    · cases hr
  · split at hr
    · exact hx j hr
    · cases hr
  · cases hr
theorem capsR_refs {j : Nat} : ∀ {l : List (Prop × AV)} {p : Prop} {cs : List (CV ⊕ (Nat × Nat))}, capsR l = (p, some cs) → cs.any (capRef j) = true → ∃ x ∈ l, x.2.refs j = true
  | [], p, cs, h, hr => by
    simp only [capsR, Prod.mk.injEq, Option.some.injEq] at h
    obtain ⟨_, rfl⟩ := h
    cases hr
  | (q, v) :: l, p, cs, h, hr => by
    unfold capsR at h
    split at h
    · rename_i e; cases e
    · rename_i e
      injection e with e1 e2
      subst e2
      split at h
      · rename_i q2 cs' e3
        simp only [Prod.mk.injEq, Option.some.injEq] at h
        obtain ⟨_, rfl⟩ := h
        simp only [List.any_cons, capRef, Bool.false_or] at hr
        obtain ⟨x, h1, h2⟩ := capsR_refs e3 hr
        exact ⟨x, List.mem_cons_of_mem _ h1, h2⟩
      · simp at h
    · rename_i q' i off r e
      injection e with e1 e2
      injection e1 with e1 e4
      subst e4; subst e2
      split at h
      · rename_i q2 cs' e3
        simp only [Prod.mk.injEq, Option.some.injEq] at h
        obtain ⟨_, rfl⟩ := h
        simp only [List.any_cons, Bool.or_eq_true] at hr
        rcases hr with hr | hr
        · exact ⟨_, List.mem_cons_self, hr⟩
        · obtain ⟨x, h1, h2⟩ := capsR_refs e3 hr
          exact ⟨x, List.mem_cons_of_mem _ h1, h2⟩
      · simp at h
    · simp at h
theorem aval2_refs {P : Program} {s : St} (h : Wf s) (op : Op) {j : Nat} (hr : (aval2 P s op).2.refs j = true) : (s j).isOwner = true := by
  cases op with
  | move x => exact sv_refs h x hr
  | assign x => exact look_refs h x hr
  | pick c x y =>
    exfalso
    simp only [aval2, aval, apick] at hr
    split at hr <;> cases hr
  | load t x =>
    simp only [aval2, aval] at hr
    rcases linkLoad_or s (sv s x).2 (aload (tk P t) (zeroX P t) (sv s x).1 (mem s (sv s x).2)) with e | ⟨p, i, off, d, _, _, e3, e4⟩
    · rw [e] at hr
      exfalso
      simp only [aload] at hr
      split at hr
      · unfold acutZ at hr
        split at hr
        · split at hr <;> cases hr
        · rw [acut_refs] at hr; cases hr
      · cases hr
    · rw [e4] at hr
      obtain rfl : d = j := by simpa [AV.refs] using hr
      exact h (LK i off) d (by rw [e3]; simp [AV.refs])
  | nilCheck x =>
    simp only [aval2, aval] at hr
    split at hr
    · exact sv_refs h x hr
    · cases hr
  | binOp op t x y yt =>
    exfalso
    simp only [aval2, aval, abinO] at hr
    cases hy : isNilI y with
    | true =>
      rw [hy, cond_true] at hr
      rcases anilI_snd P op t (sv s x) with e | ⟨b', e⟩ <;> (rw [e] at hr; cases hr)
    | false =>
    rw [hy, cond_false] at hr
    simp only [abinX] at hr
    split at hr
    · split at hr <;> cases hr
    · unfold anil at hr; split at hr <;> cases hr
    · cases hr
    · split at hr
      · split at hr <;> cases hr
      · cases hr
    · cases hr
  | unOp op t x =>
    exfalso
    simp only [aval2, aval, aunop] at hr
    split at hr <;> cases hr
  | convert src dst x =>
    exfalso
    simp only [aval2, aval, aconvert] at hr
    split at hr
    · split at hr <;> cases hr
    · cases hr
    · split at hr <;> cases hr
  | slice t x lo hi mx =>
    exact aslice_refs (fun j hj => sv_refs h x hj) hr
  | fieldAddr t x f =>
    simp only [aval2, aval, afieldAddr] at hr
    split at hr
    · rename_i i off _ e
      exact sv_refs h x (by rw [e]; exact hr)
    · rename_i i k off _ e
      exact sv_refs h x (by rw [e]; exact hr)
    · cases hr
    · cases hr
  | field t x f =>
    exfalso
    simp only [aval2, aval, afield] at hr
    split at hr
    · rw [acut_refs] at hr; cases hr
    · cases hr
  | indexAddr t x i =>
    simp only [aval2, aval, aindexAddr] at hr
    split at hr
    · cases hr
    · split at hr
      · rename_i hs
        obtain rfl := (beq_iff_eq.1 hr)
        rw [hs]; rfl
      · cases hr
    · rename_i j' lo len wh q k m _ e1 e2
      exact sv_refs h x (by rw [e1]; exact hr)
    · unfold aindexArr at hr
      split at hr
      · rename_i e1 _
        exact sv_refs h x (by rw [e1]; exact hr)
      · cases hr
      · cases hr
  | index t x i =>
    exfalso
    simp only [aval2, aval, aindex] at hr
    split at hr <;> cases hr
  | makeFunc fn first captured =>
    simp only [aval2, aval, amakeFunc] at hr
    split at hr
    · split at hr
      · cases hr
      · split at hr
        · rename_i e
          obtain ⟨x, hx, hxr⟩ := capsR_refs e hr
          obtain ⟨y, _, rfl⟩ := List.mem_map.1 hx
          exact sv_refs h y hxr
        · cases hr
    · cases hr
  | lookup t x k ok =>
    exfalso
    simp only [aval2, aval, alookup] at hr
    split at hr
    · split at hr
      · split at hr
        · unfold lookV at hr; split at hr <;> split at hr <;> cases hr
        · cases hr
      · cases hr
    · cases hr
  | extract x i =>
    exfalso
    simp only [aval2, aval, aextract] at hr
    split at hr
    · split at hr <;> cases hr
    · cases hr
  | call c =>
    exfalso
    simp only [aval2, aval, abuiltin, alen, amax, amin, acap] at hr
    split at hr
    · split at hr
      · split at hr
        · cases hr
        · cases hr
        · cases hr
        · cases hr
        · split at hr <;> cases hr
        · cases hr
        · cases hr
      · cases hr
    · split at hr
      · split at hr <;> cases hr
      · cases hr
    · split at hr
      · split at hr <;> cases hr
      · cases hr
    · split at hr
      · split at hr <;> cases hr
      · cases hr
    · cases hr
  | build t parts =>
    exfalso
    simp only [aval2, abuild] at hr
    split at hr <;> cases hr
  | _ => cases hr
section
variable {P : Program} {S0 : Env} {w0 w : World} {n : Nat} {s : St} {a : Act}
theorem aval2_ok (hR : Rel S0 w0 n s a w) (o : Oper) (hp : (aval2 P s o.op).1) :
    ∃ v, (execOp a.eval o).run P w = .ok (.value v) w ∧ RepIn S0 w0 s a w (aval2 P s o.op).2 v ∧ (aval2 P s o.op).2.isOwner = false := by
  obtain ⟨dst, op, type, pos, after, guard⟩ := o
  cases op with
  | build t parts =>
    obtain ⟨v, h1, h2, h3⟩ := abuild_ok (P := P) (f := Ab.sv s) (s := s) (a := a) (w := w) (w0 := w0) (S0 := S0) (fun x _ => hR.sv x.2) hp
    exact ⟨v, run_v h1, h2, h3⟩
  | _ => exact aval_ok hR _ hp
def callS (P : Program) (c : Prop × Option (FuncId × List XV)) (k : RV → Prop) (m : Prop) : Prop :=
  match c with
  | (p, some (g, xs)) => p ∧ ((∃ r, ACalls P g xs r ∧ k r) ∨ m)
  | _ => m
theorem callS_or {P : Program} {s : St} {f : Operand} {args : List Operand} {k : RV → Prop} {m : Prop} (h : callS P (callee s f args) k m) : (∃ r, acall P s f args r ∧ k r) ∨ m := by
  unfold callS at h
  unfold acall
  split at h
  · rename_i e
    obtain ⟨hp, ⟨r, hc, hk⟩ | hm⟩ := h
    · exact .inl ⟨r, by rw [e]; exact ⟨hp, hc⟩, hk⟩
    · exact .inr hm
  · exact .inr h
def aselfView (s : St) (d lo len : Nat) (wh : Bool) (K : St → Prop) : Prop :=
  match s d with
  | .own e size xs => match wh with
    | true => K (put (put s d .dead) d (.own e size (xs.take len)))
    | false => K (put (freeze s d) d (.x (.one (.list size ((xs.drop lo).take len)))))
  | _ => False
def astep (P : Program) (n : Nat) (s : St) (op : Op) (dst : Option Tmp) (K : St → Prop) : Prop :=
  match op, dst with
  | .alloc t, some d => match zeroOf P t with
    | some cs => d < n ∧ K (put s d (.box cs))
    | none => False
  | .box _ x, some d => match uv s x with
    | (p, .x xv) => p ∧ d < n ∧ K (put (freezeL s (lends s [x])) d (.box xv.cells))
    | _ => False
  | .build t parts, some d => (abuild P (uv s) t parts.toList).1 ∧ d < n ∧ K (put (freezeL s (lends s (parts.toList.map (·.2)))) d (abuild P (uv s) t parts.toList).2)
  | .buildSlice t len parts, some d => (abuildSlice P (uv s) t len parts.toList).1 ∧ d < n ∧ K (put (freezeL s (lends s (parts.toList.map (·.2)))) d (abuildSlice P (uv s) t len parts.toList).2)
  | .store t addr x, none => match linkable s (sv s addr) (sv s x) with
    | some (p, i, off, d) => OneOk P t = true ∧ p ∧ (linkStore P s t i off d).1 ∧ K (linkStore P s t i off d).2
    | none => OneOk P t = true ∧ (astore P (freezeL s (lends s [x])) t (sv (freezeL s (lends s [x])) addr) (uv s x)).1 ∧ K (astore P (freezeL s (lends s [x])) t (sv (freezeL s (lends s [x])) addr) (uv s x)).2
  | .makeMap _ none, some d => d < n ∧ K (put s d (.mp 0 [] []))
  | .convert src dst x, some d => match isSliceT P dst with
    | true => (abytes P src dst (sv s x)).1 ∧ d < n ∧ K (put s d (abytes P src dst (sv s x)).2)
    | false => (aval2 P s (.convert src dst x)).1 ∧ d < n ∧ K (put s d (aval2 P s (.convert src dst x)).2)
  | .mapUpdate t m k x, none => (amapUpdate P s t (sv s m) (sv s k) (sv s x)).1 ∧ K (amapUpdate P s t (sv s m) (sv s k) (sv s x)).2
  | .assign (.tmp t), some d => match s t with
    | .own e size xs => d < n ∧ K (put (put s t .dead) d (.own e size xs))
    | .mp c bs es => d < n ∧ K (put (put s t .dead) d (.mp c bs es))
    | .view i lo len wh => match decide (i = d) with
      | true => d < n ∧ aselfView s d lo len wh K
      | false => d < n ∧ K (put s d (.view i lo len wh))
    | _ => d < n ∧ K (put s d (look s (.tmp t)))
  | .call c, none => match c.callee with
    | .builtin .clear => match c.args.toList, c.argTypes.toList with
      | [x], [t] => (aclear P s t (sv s x)).1 ∧ K (aclear P s t (sv s x)).2
      | _, _ => False
    | _ => False
  | .call c, some d => match c.callee with
    | .value f => callS P (callee s f c.args.toList) (fun r => d < n ∧ K (put (afterCall s c.args.toList r) d r.av)) (callR P (calleeR s f c.args.toList) (fun r => d < n ∧ K (put s d r.av)) (withC s (lendsC s c.args.toList) fun s => callM P (calleeM s f c.args.toList) (fun xs r outs => d < n ∧ K (put (setOuts s xs outs) d r.av))))
    | .builtin .append => match c.args.toList, c.argTypes.toList with
      | [x, y], [t, t'] => (aappend P s t t' (sv s x) (sv s y)).1 ∧ d < n ∧ K (put (aappend P s t t' (sv s x) (sv s y)).2.1 d (aappend P s t t' (sv s x) (sv s y)).2.2)
      | _, _ => False
    | _ => (aval2 P s (.call c)).1 ∧ d < n ∧ K (put s d (aval2 P s (.call c)).2)
  | op, some d => (aval2 P s op).1 ∧ d < n ∧ K (put s d (aval2 P s op).2)
  | _, _ => False
theorem value_step (hR : Rel S0 w0 n s a w) {o : Oper} {d : Nat} {r : AV} (hd : S0.m ≤ d ∧ d < n) (hdst : o.dst = some d)
    (h : ∃ v, (execOp a.eval o).run P w = .ok (.value v) w ∧ RepIn S0 w0 s a w r v ∧ r.isOwner = false) (hrf : ∀ j, r.refs j = true → (s j).isOwner = true)
    {K : Act → World → Prop} {Q : Exit → Act → World → Prop} (hK : ∀ a' w', Rel S0 w0 n (Ab.put s d r) a' w' → K a' w') : o.wp P a w K Q := by
  obtain ⟨v, hrun, hrep, hno⟩ := h
  unfold Oper.wp
  rw [hrun]
  simp only [Oper.upon, hdst]
  exact hK _ _ (hR.put hd (World.grownBy.refl w none) hrf hrep (fun b hb => by rw [blkOf_notOwner hno] at hb; cases hb) (fun b hb => by rw [blkOf_notOwner hno] at hb; cases hb))
theorem sv_cond {x : Operand} {p : Prop} {r : AV} (h : sv s x = (p, r)) (hp : p) : (sv s x).1 := by rw [h]; exact hp
theorem astep_ok (hR : Rel S0 w0 n s a w) (o : Oper) (hdm : ∀ d, o.dst = some d → S0.m ≤ d) {K : St → Prop} (h : astep P n s o.op o.dst K) {K' : Act → World → Prop} {Q : Exit → Act → World → Prop}
    (hK : ∀ s' a' w', Rel S0 w0 n s' a' w' → K s' → K' a' w') : o.wp P a w K' Q := by
  have plain : ∀ d, o.dst = some d → (aval2 P s o.op).1 ∧ d < n ∧ K (Ab.put s d (aval2 P s o.op).2) → o.wp P a w K' Q := by
    intro d hdst ⟨hp, hd, hk⟩
    exact value_step hR ⟨hdm d hdst, hd⟩ hdst (aval2_ok hR o hp) (fun j hj => aval2_refs hR.wf _ hj) (fun a' w' hR' => hK _ a' w' hR' hk)
  obtain ⟨dst, op, type, pos, after, guard⟩ := o
  dsimp only at h plain hdm
  cases dst with
  | none =>
    cases op <;> try (exact h.elim)
    case store t addr x =>
      simp only [astep] at h
      have fin : ∀ s' w', (Instr.storeAt t (a.eval addr) (a.eval x)).run P w = .ok () w' → Rel S0 w0 n s' a w' → K s' → ({ dst := none, op := .store t addr x, type := type, pos := pos, after := after, guard := guard } : Oper).wp P a w K' Q := by
        intro s' w' hrun hR' hk
        unfold Oper.wp
        have : (execOp a.eval ({ dst := none, op := .store t addr x, type := type, pos := pos, after := after, guard := guard } : Oper)).run P w = .ok .skip w' := by
          simp only [execOp, Sem.run_bind, hrun, Result.andThen_ok, Sem.run_pure]
        rw [this]
        exact hK _ _ _ hR' hk
      split at h
      · rename_i p i off d e
        obtain ⟨ht, hpq, hp, hk⟩ := h
        obtain ⟨p1, q, e1, e2, rfl⟩ := linkable_spec e
        have hx := hR.sv addr
        have hy := hR.sv x
        rw [e1] at hx
        rw [e2] at hy
        obtain ⟨w', hrun, hR'⟩ := linkStore_ok (P := P) hR hx hy ht hpq hp
        exact fin _ w' hrun hR' hk
      · obtain ⟨ht, hp, hk⟩ := h
        have hRf := freezeL_ok (lends s [x]) s hR
        obtain ⟨w', hrun, hR'⟩ := astore_ok (P := P) hRf (hRf.sv addr) (uv_ok hR [x] (by simp)) ht hp
        exact fin _ w' hrun hR' hk
    case call c =>
      obtain ⟨callee, args, argTypes⟩ := c
      simp only [astep] at h
      split at h
      · obtain ⟨args⟩ := args
        obtain ⟨argTypes⟩ := argTypes
        split at h
        · rename_i x t e1 e2
          have e1' : args = [x] := e1
          have e2' : argTypes = [t] := e2
          subst e1'
          subst e2'
          obtain ⟨hp, hk⟩ := h
          obtain ⟨r, w', hrun, hR'⟩ := aclear_ok (P := P) (ty := type) hR (hR.sv _) hp
          have hx := congrArg (fun r => Result.andThen r fun (a : Value) w' => Result.ok (Next.value a) w') hrun
          unfold Oper.wp
          simp only [execOp, resolve, Sem.run_bind, Sem.run_pure, Result.andThen_ok, invoke, builtin, map_mk, List.map_cons, List.map_nil]
          have hx' : ((Sem.run P (Builtin.clear_ ⟨[t]⟩ type ⟨[a.eval x]⟩) w).andThen fun (a : Value) w' => Result.ok (Next.value a) w') = .ok (.value r) w' := hx
          rw [hx']
          exact hK _ _ _ hR' hk
        · exact h.elim
      · exact h.elim
    case mapUpdate t m k x =>
      obtain ⟨hp, hk⟩ := h
      obtain ⟨w', hrun, hR'⟩ := amapUpdate_ok (P := P) hR (hR.sv m) (hR.sv k) (hR.sv x) hp
      unfold Oper.wp
      have : (execOp a.eval ({ dst := none, op := .mapUpdate t m k x, type := type, pos := pos, after := after, guard := guard } : Oper)).run P w = .ok .skip w' := by
        simp only [execOp, Sem.run_bind, hrun, Result.andThen_ok, Sem.run_pure]
      rw [this]
      exact hK _ _ _ hR' hk
    case makeMap t r => cases r <;> exact h.elim
    case assign x => cases x <;> exact h.elim
    all_goals exact h.elim
  | some d =>
    have hmd := hdm d rfl
    cases op <;> try (exact plain d rfl h)
    case convert src dst x =>
      simp only [astep] at h
      cases hsl : isSliceT P dst with
      | false => rw [hsl] at h; exact plain d rfl h
      | true =>
        rw [hsl] at h
        obtain ⟨hp, hd, hk⟩ := h
        obtain ⟨r, w', hrun, hR'⟩ := abytes_ok (P := P) hR ⟨hdm d rfl, hd⟩ (hR.sv x) hp
        unfold Oper.wp
        have hx : (execOp a.eval ({ dst := some d, op := .convert src dst x, type := type, pos := pos, after := after, guard := guard } : Oper)).run P w = .ok (.value r) w' := by
          simp only [execOp, Sem.run_bind, hrun, Result.andThen_ok, Sem.run_pure]
        rw [hx]
        exact hK _ _ _ hR' hk
    case alloc t =>
      simp only [astep] at h
      cases hz : zeroOf P t with
      | none => rw [hz] at h; exact h.elim
      | some cs =>
        rw [hz] at h
        obtain ⟨hd, hk⟩ := h
        obtain ⟨z, hrun, hl⟩ := zeroOf_ok (P := P) (w := w) hz (Shared S0 w0.heap.size w s (tmOf a))
        have hx : (execOp a.eval ({ dst := some d, op := .alloc t, type := type, pos := pos, after := after, guard := guard } : Oper)).run P w = .ok (.value (.pointer (some ⟨w.heap.size, 0, none⟩))) (w.alloc (.cells z.cells t)) := by
          simp [execOp, Instr.alloc, hrun, newVar, newRow]
        unfold Oper.wp
        rw [hx]
        exact hK _ _ _ (hR.newBox ⟨hmd, hd⟩ hl) hk
    case makeMap t r =>
      cases r with
      | none =>
        obtain ⟨hd, hk⟩ := h
        unfold Oper.wp
        have hx : (execOp a.eval ({ dst := some d, op := .makeMap t none, type := type, pos := pos, after := after, guard := guard } : Oper)).run P w = .ok (.value (.map (some w.heap.size))) (w.alloc (.map #[] 0)) := by
          simp [execOp, Instr.makeMap]
        rw [hx]
        exact hK _ _ _ (hR.newMap ⟨hmd, hd⟩) hk
      | some r => exact plain d rfl h
    case box t x =>
      simp only [astep] at h
      split at h
      · rename_i p xv e
        obtain ⟨hp, hd, hk⟩ := h
        have hRf := freezeL_ok (lends s [x]) s hR
        have hrep := uv_ok hR [x] (x := x) (by simp) (by rw [e]; exact hp)
        rw [e] at hrep
        have hx : (execOp a.eval ({ dst := some d, op := .box t x, type := type, pos := pos, after := after, guard := guard } : Oper)).run P w = .ok (.value (.pointer (some ⟨w.heap.size, 0, none⟩))) (w.alloc (.cells (a.eval x).cells t)) := by
          simp [execOp, Instr.box, newVar, newRow]
        unfold Oper.wp
        rw [hx]
        exact hK _ _ _ (hRf.newBox ⟨hmd, hd⟩ (RepX.cells hrep)) hk
      · exact h.elim
    case build t parts =>
      obtain ⟨hp, hd, hk⟩ := h
      have hRf := freezeL_ok (lends s (parts.toList.map (·.2))) s hR
      obtain ⟨v, h1, h2, h3⟩ := abuild_ok (P := P) (f := uv s) (fun x hx => uv_ok hR (parts.toList.map (·.2)) (List.mem_map.2 ⟨x, hx, rfl⟩)) hp
      refine value_step hRf ⟨hmd, hd⟩ rfl ⟨v, run_v h1, h2, h3⟩ (fun j hj => ?_) (fun a' w' hR' => hK _ _ _ hR' hk)
      unfold abuild at hj
      split at hj <;> cases hj
    case buildSlice t len parts =>
      obtain ⟨hp, hd, hk⟩ := h
      have hRf := freezeL_ok (lends s (parts.toList.map (·.2))) s hR
      obtain ⟨v, w', hrun, hR'⟩ := abuildSlice_ok (P := P) (f := uv s) hRf (fun x hx => uv_ok hR (parts.toList.map (·.2)) (List.mem_map.2 ⟨x, hx, rfl⟩)) ⟨hmd, hd⟩ hp
      unfold Oper.wp
      have hx : (execOp a.eval ({ dst := some d, op := .buildSlice t len parts, type := type, pos := pos, after := after, guard := guard } : Oper)).run P w = .ok (.value v) w' := by
        simp only [execOp, Sem.run_bind, hrun, Result.andThen_ok, Sem.run_pure]
      rw [hx]
      exact hK _ _ _ hR' hk
    case assign x =>
      cases x with
      | tmp t =>
        simp only [astep] at h
        cases hs : s t with
        | own e size xs =>
          rw [hs] at h
          obtain ⟨hd, hk⟩ := h
          have hi := hR.rep t
          rw [hs] at hi
          obtain ⟨us, hown, hl, hx, hm, hO⟩ := hi
          have hbt : blkOf (s t) (tmOf a t) = (tmOf a t).ownBlock := by rw [hs]; rfl
          refine hK _ _ _ (hR.take (r := .own e size xs) ⟨hmd, hd⟩ (by rw [hs]; rfl) (World.grownBy.refl w _) (v := tmOf a t) (fun b hb => .inl (by rw [hbt]; exact hb)) (fun j => rfl) (fun s' tm' S hS => ⟨us, hown, hl.mono hS (fun _ _ => rfl), hx, hm, hO⟩)) hk
        | mp c bs es =>
          rw [hs] at h
          obtain ⟨hd, hk⟩ := h
          have hi := hR.rep t
          rw [hs] at hi
          obtain ⟨b, ents, hv, hh, hB, he⟩ := hi
          have hbt : blkOf (s t) (tmOf a t) = some b := by rw [hs, hv]; rfl
          refine hK _ _ _ (hR.take (r := .mp c bs es) ⟨hmd, hd⟩ (by rw [hs]; rfl) (World.grownBy.refl w _) (v := tmOf a t) (fun b' hb => .inl (by rw [hbt, ← hb, hv]; rfl)) (fun j => rfl) (fun s' tm' S hS => ⟨b, ents, hv, hh, hB, he.mono hS (fun _ _ => rfl)⟩)) hk
        | view i lo len wh =>
          rw [hs] at h
          dsimp only at h
          cases hid : decide (i = d) with
          | false =>
            rw [hid] at h
            refine plain d rfl ⟨trivial, h.1, ?_⟩
            show K (Ab.put s d (look s (.tmp t)))
            simp only [look, hs]
            exact h.2
          | true =>
            rw [hid] at h
            obtain rfl := of_decide_eq_true hid
            obtain ⟨hd, hk⟩ := h
            unfold aselfView at hk
            split at hk
            · rename_i e size xs hsi
              have ht := hR.rep t
              rw [hs] at ht
              have hi := hR.rep i
              rw [hsi] at hi
              obtain ⟨us, hown, hl, hx, hm, hO⟩ := hi
              split at hk
              · have hbi : blkOf (s i) (tmOf a i) = (tmOf a i).ownBlock := by rw [hsi]; rfl
                obtain ⟨ho2, hb2, hlt, hle'⟩ := view_trunc hsi ht hown hl hx
                refine hK _ _ _ (hR.take (i := i) (r := .own e size (xs.take len)) ⟨hmd, hd⟩ (by rw [hsi]; rfl) (World.grownBy.refl w _) (v := tmOf a t) (fun b hb => .inl ?_) (fun j => rfl) (fun s' tm' S hS => ⟨us.take (len * size), ho2, hlt.mono hS (fun _ _ => rfl), fun x hx' => hx x (List.mem_of_mem_take hx'), by rw [List.length_take]; omega, fun b hb => hO b (hb2 b hb)⟩)) hk
                rw [hbi]
                exact hb2 b hb
              · have hRf := hR.freeze (.inl ⟨_, _, _, hsi⟩)
                have hblk : ∀ k b, blkOf (freeze s i k) (tmOf a k) = some b → k ≠ i ∧ blkOf (s k) (tmOf a k) = some b := by
                  intro k b hb
                  by_cases hki : k = i
                  · subst hki
                    unfold freeze at hb
                    simp only [if_pos, hsi, frozenAV] at hb
                    cases hb
                  · refine ⟨hki, ?_⟩
                    unfold freeze at hb
                    simp only [if_neg hki] at hb
                    split at hb
                    · rw [blkOf_notOwner (thawRef_owner _ _)] at hb; cases hb
                    · exact hb
                have hlist : RepC w (Shared S0 w0.heap.size w (freeze s i) (tmOf a)) (.list size ((xs.drop lo).take len)) (tmOf a t) := by
                  refine view_list hsi ht hown (hl.mono (fun b hb => ⟨hb.1, hb.2.1, fun k hk' => hb.2.2 k (hblk k b hk').2⟩) (fun _ _ => rfl)) hx (fun b hb => ⟨.inr (hO b hb), (hown.lt b hb).2, fun k hk' => ?_⟩)
                  obtain ⟨h1, h2⟩ := hblk k b hk'
                  exact h1 (hR.inj k i b h2 (by rw [hsi]; exact hb))
                exact value_step (r := .x (.one (.list size ((xs.drop lo).take len)))) hRf ⟨hmd, hd⟩ rfl ⟨tmOf a t, rfl, hlist, rfl⟩ (fun j hj => by cases hj) (fun a' w' hR' => hK _ _ _ hR' hk)
            · exact hk.elim
        | _ =>
          rw [hs] at h
          refine plain d rfl ⟨trivial, h.1, ?_⟩
          exact h.2
      | _ => exact plain d rfl h
    case call c =>
      obtain ⟨callee, args, argTypes⟩ := c
      simp only [astep] at h
      split at h
      · rename_i f
        rcases callS_or h with ⟨r, hc, hd, hk⟩ | hc
        · exact acall_ok (P := P) hR hc ⟨argTypes, rfl⟩ ⟨hmd, hd⟩ rfl (fun a' w' hR' => hK _ _ _ hR' hk)
        · exact callR_ok (P := P) hR hc ⟨argTypes, rfl⟩ hmd rfl (fun r hr => ⟨hr.1, fun a' w' hR' => hK _ _ _ hR' hr.2⟩) (fun hc => callM_ok (P := P) (freezeL_ok _ s hR) hc ⟨argTypes, rfl⟩ rfl hmd hK)
      · obtain ⟨args⟩ := args
        obtain ⟨argTypes⟩ := argTypes
        split at h
        · rename_i x y t t' e1 e2
          have e1' : args = [x, y] := e1
          have e2' : argTypes = [t, t'] := e2
          subst e1'
          subst e2'
          obtain ⟨hp, hd, hk⟩ := h
          obtain ⟨r, w', hrun, hR'⟩ := aappend_ok (P := P) (ty := type) hR ⟨hmd, hd⟩ (hR.sv _) (hR.sv _) hp
          have hx := congrArg (fun r => Result.andThen r fun (a : Value) w' => Result.ok (Next.value a) w') hrun
          unfold Oper.wp
          simp only [execOp, resolve, Sem.run_bind, Sem.run_pure, Result.andThen_ok, invoke, builtin, map_mk, List.map_cons, List.map_nil]
          have hx' : ((Sem.run P (Builtin.append_ ⟨[t, t']⟩ type ⟨[a.eval x, a.eval y]⟩) w).andThen fun (a : Value) w' => Result.ok (Next.value a) w') = .ok (.value r) w' := hx
          rw [hx']
          exact hK _ _ _ hR' hk
        · exact h.elim
      · exact plain d rfl h
end
end Go.Ab
/-
  Operations with a guard; a list of operations in their order.
-/
namespace Go.Ab
open Go Go.RowKit
set_option linter.unusedSectionVars false
variable [Amb]
def gval (ops : Array Oper) (s : St) (g : Nat × Bool) : Option Bool :=
  match (ops[g.1]?).bind (·.dst) with
  | some d => match s d with
    | .x (.one (.bool b)) => some (b == g.2)
    | .cond e (.x (.one (.bool b))) => some (e && (b == g.2))
    | _ => none
  | none => none
def aguard (P : Program) (n : Nat) (s : St) (e : Bool) (op : Op) (dst : Option Tmp) (K : St → Prop) : Prop :=
  match dst with
  | some d => match op with
    | .call c => match c.callee with
      | .value f => callG P e (callee s f c.args.toList) (fun r => d < n ∧ K (put s d (.cond e r.av)))
      | _ => (e = true → (aval2 P s (.call c)).1) ∧ (aval2 P s (.call c)).2.isOwner = false ∧ d < n ∧ K (put s d (.cond e (aval2 P s (.call c)).2))
    | .buildSlice t len parts => match e with
      | true => (abuildSlice P (sv s) t len parts.toList).1 ∧ d < n ∧ K (put s d (abuildSlice P (sv s) t len parts.toList).2)
      | false => d < n ∧ K (put s d (.cond false (.x (.one (.bool false)))))
    | op => (e = true → (aval2 P s op).1) ∧ (aval2 P s op).2.isOwner = false ∧ d < n ∧ K (put s d (.cond e (aval2 P s op).2))
  | none => False
def lendO (s : St) (op : Op) : Bool := match op with
  | .call c => match c.callee with
    | .value f => (callee s f c.args.toList).2.isNone
    | _ => false
  | _ => false
def glend (P : Program) (n : Nat) (s : St) (e : Bool) (op : Op) (dst : Option Tmp) (K : St → Prop) : Prop := match dst, op with
  | some d, .call c => match c.callee with
    | .value f => match e with
      | true => callM P (calleeM s f c.args.toList) (fun xs r outs => d < n ∧ r.av.isOwner = false ∧ K (put (setOuts s xs outs) d (.cond true r.av)))
      | false => d < n ∧ K (put s d (.cond false (.x (.one (.bool false)))))
    | _ => False
  | _, _ => False
def aop (P : Program) (n : Nat) (ops : Array Oper) (o : Oper) (s : St) (K : St → Prop) : Prop :=
  match o.guard with
  | none => astep P n s o.op o.dst K
  | some g => match gval ops s g with
    | some e => match lendO s o.op with
      | true => glend P n s e o.op o.dst K
      | false => aguard P n s e o.op o.dst K
    | none => False
def aops (P : Program) (n : Nat) (ops : Array Oper) : List Oper → St → (St → Prop) → Prop
  | [], s, K => K s
  | o :: r, s, K => aop P n ops o s (fun s' => aops P n ops r s' K)
section
variable {P : Program} {S0 : Env} {w0 w : World} {n : Nat} {s : St} {a : Act}
theorem Rel.condIn {d : Nat} {s' : St} (hR : Rel S0 w0 n s a w) (hdn : d < n) (hno : (s d).isOwner = false) (h : ∀ i, s' i = if i = d then .cond true (s d) else s i) : Rel S0 w0 n s' a w := by
  have hd : s' d = .cond true (s d) := by rw [h, if_pos rfl]
  have ho : ∀ i, i ≠ d → s' i = s i := fun i hi => by rw [h, if_neg hi]
  have hblk : ∀ i b, blkOf (s' i) (tmOf a i) = some b → blkOf (s i) (tmOf a i) = some b := by
    intro i b hb
    by_cases hi : i = d
    · subst hi; rw [hd] at hb; cases hb
    · rw [ho i hi] at hb; exact hb
  have hsub : ∀ b, Shared S0 w0.heap.size w s (tmOf a) b → Shared S0 w0.heap.size w s' (tmOf a) b := fun b hb => ⟨hb.1, hb.2.1, fun i hi => hb.2.2 i (hblk i b hi)⟩
  have hk : ∀ k, (s k).isOwner = true → s' k = s k := by
    intro k hk
    refine ho k ?_
    rintro rfl
    rw [hno] at hk; cases hk
  have hrefs : ∀ k, (tmOf a k = tmOf a k ∧ ((s k).isOwner = true → (s' k).isOwner = true ∧ (s' k).size = (s k).size ∧ (s' k).len = (s k).len) ∧ (∀ b, blkOf (s k) (tmOf a k) = some b → blkOf (s' k) (tmOf a k) = some b)) := by
    intro k
    refine ⟨rfl, fun h => by rw [hk k h]; exact ⟨h, rfl, rfl⟩, fun b hb => ?_⟩
    have hko : (s k).isOwner = true := by
      cases h : (s k).isOwner with
      | true => rfl
      | false => rw [blkOf_notOwner h] at hb; cases hb
    rw [hk k hko]; exact hb
  have hlk : ∀ (i' off : Nat) (cs : List CV) (b : Nat), s i' = .box cs → blkOf (s i') (tmOf a i') = some b → (∃ cs', s' i' = .box cs' ∧ cs'[off]? = cs[off]?) ∧ w.cell? ⟨b, off, none⟩ = w.cell? ⟨b, off, none⟩ :=
    fun i' off cs b hs' _ => ⟨⟨cs, by rw [hk i' (by rw [hs']; rfl)]; exact hs', rfl⟩, rfl⟩
  refine ⟨hR.defers, hR.size, hR.below, hR.lt, fun i => ?_, fun i j b hi hj => hR.inj i j b (hblk i b hi) (hblk j b hj), fun i hi => ?_, fun i j hij => ?_, hR.pin⟩
  · by_cases hi : i = d
    · subst hi
      rw [hd]
      exact ⟨hno, (hR.rep i).mono hsub (fun _ _ => rfl) (fun _ _ => rfl) (fun k _ => hrefs k) (fun i' off _ cs b _ => hlk i' off cs b)⟩
    · rw [ho i hi]
      exact (hR.rep i).mono hsub (fun _ _ => rfl) (fun _ _ => rfl) (fun k _ => hrefs k) (fun i' off _ cs b _ => hlk i' off cs b)
  · by_cases hid : i = d
    · subst hid
      exact absurd hi (by omega)
    · rw [ho i hid]; exact hR.out i hi
  · have : (s i).refs j = true := by
      by_cases hi : i = d
      · subst hi; rw [hd] at hij; exact hij
      · rw [ho i hi] at hij; exact hij
    have hjo := hR.wf i j this
    rw [hk j hjo]; exact hjo
theorem gval_ok (hR : Rel S0 w0 n s a w) {ops : Array Oper} {g : Nat × Bool} {e : Bool} (h : gval ops s g = some e) : (yielded ops a.tmps g.1 == some g.2) = e := by
  unfold gval at h
  cases hd : (ops[g.1]?).bind (·.dst) with
  | none => rw [hd] at h; cases h
  | some d =>
    rw [hd] at h
    have hrep := hR.rep d
    have hy : yielded ops a.tmps g.1 = match a.tmps[d]? with | some (.bool b) => some b | _ => none := by
      unfold yielded
      rw [hd]
      rfl
    have htm : ∀ b, tmOf a d = .bool b → a.tmps[d]? = some (.bool b) := by
      intro b hb
      simp only [tmOf, Array.getD_eq_getD_getElem?] at hb
      cases hx : a.tmps[d]? with
      | none => rw [hx] at hb; cases hb
      | some v => rw [hx] at hb; simp at hb; rw [hb]
    simp only at h
    split at h
    · rename_i b hs
      injection h with h
      rw [hs] at hrep
      rw [hy, htm b (rep_bool hrep), ← h]
      cases b <;> cases g.2 <;> rfl
    · rename_i e' b hs
      injection h with h
      rw [hs] at hrep
      obtain ⟨_, hrep⟩ := hrep
      cases e' with
      | true =>
        rw [hy, htm b (rep_bool hrep), ← h]
        cases b <;> cases g.2 <;> rfl
      | false =>
        have hu : tmOf a d = undef := hrep
        have : (match a.tmps[d]? with | some (Value.bool b) => some b | _ => none) = none := by
          simp only [tmOf, Array.getD_eq_getD_getElem?] at hu
          cases hx : a.tmps[d]? with
          | none => rfl
          | some v => rw [hx] at hu; simp at hu; rw [hu]; rfl
        rw [hy, this, ← h]
        rfl
    · cases h
theorem skip_step (hR : Rel S0 w0 n s a w) {d : Nat} {r : AV} (hd : S0.m ≤ d ∧ d < n) (hno : r.isOwner = false) (hrf : ∀ j, r.refs j = true → (s j).isOwner = true) :
    Rel S0 w0 n (Ab.put s d (.cond false r)) (a.put (some d) undef) w :=
  hR.put hd (World.grownBy.refl w none) hrf ⟨hno, by simp⟩ (fun b hb => by cases hb) (fun b hb => by cases hb)
theorem RepIn.cond {r : AV} {v : Value} (h : RepIn S0 w0 s a w r v) (hno : r.isOwner = false) : RepIn S0 w0 s a w (.cond true r) v := ⟨hno, by simpa using h⟩
theorem aguard_ok (hR : Rel S0 w0 n s a w) (o : Oper) (hdm : ∀ d, o.dst = some d → S0.m ≤ d) {e : Bool} {K : St → Prop} (h : aguard P n s e o.op o.dst K) {K' : Act → World → Prop} {Q : Exit → Act → World → Prop}
    (hK : ∀ s' a' w', Rel S0 w0 n s' a' w' → K s' → K' a' w') : if e then o.wp P a w K' Q else K' (a.put o.dst undef) w := by
  obtain ⟨dst, op, type, pos, after, guard⟩ := o
  dsimp only at h hdm
  cases dst with
  | none => exact h.elim
  | some d =>
    have hm := hdm d rfl
    have plain : (e = true → (aval2 P s op).1) ∧ (aval2 P s op).2.isOwner = false ∧ d < n ∧ K (Ab.put s d (.cond e (aval2 P s op).2)) →
        if e then ({ dst := some d, op := op, type := type, pos := pos, after := after, guard := guard } : Oper).wp P a w K' Q else K' (a.put (some d) undef) w := by
      intro ⟨hp, hno, hd, hk⟩
      cases e with
      | false => exact hK _ _ _ (skip_step hR ⟨hm, hd⟩ hno (fun j hj => aval2_refs hR.wf _ hj)) hk
      | true =>
        obtain ⟨v, h1, h2, h3⟩ := aval2_ok (P := P) hR { dst := some d, op := op, type := type, pos := pos, after := after, guard := guard } (hp rfl)
        exact value_step hR ⟨hm, hd⟩ rfl ⟨v, h1, RepIn.cond h2 h3, rfl⟩ (fun j hj => aval2_refs (P := P) (op := op) hR.wf hj) (fun a' w' hR' => hK _ _ _ hR' hk)
    cases op <;> try (exact plain h)
    case buildSlice t len parts =>
      cases e with
      | false => exact hK _ _ _ (skip_step (r := .x (.one (.bool false))) hR ⟨hm, h.1⟩ rfl (fun j hj => by cases hj)) h.2
      | true =>
        obtain ⟨hp, hd, hk⟩ := h
        obtain ⟨v, w', hrun, hR'⟩ := abuildSlice_ok (P := P) (f := Ab.sv s) hR (fun x _ => hR.sv x.2) ⟨hm, hd⟩ hp
        simp only [if_true]
        unfold Oper.wp
        have hx : (execOp a.eval ({ dst := some d, op := .buildSlice t len parts, type := type, pos := pos, after := after, guard := guard } : Oper)).run P w = .ok (.value v) w' := by
          simp only [execOp, Sem.run_bind, hrun, Result.andThen_ok, Sem.run_pure]
        rw [hx]
        exact hK _ _ _ hR' hk
    case call c =>
      obtain ⟨callee, args, argTypes⟩ := c
      simp only [aguard] at h
      split at h
      · rename_i f
        obtain ⟨r, hc, hfl, hd, hk⟩ := callG_of h
        cases e with
        | false => exact hK _ _ _ (skip_step hR ⟨hm, hd⟩ (by cases r <;> first | rfl | cases hfl) (fun j hj => by cases r <;> cases hj)) hk
        | true =>
          refine acall_ok (P := P) hR (hc rfl) ⟨argTypes, rfl⟩ ⟨hm, hd⟩ rfl (fun a' w' hR' => ?_)
          have hac : afterCall s args.toList r = s := by unfold afterCall; rw [hfl]
          rw [hac] at hR'
          refine hK _ _ _ (hR'.condIn (d := d) (hdn := hd) (s' := Ab.put s d (.cond true r.av)) (by rw [put_same (by cases r <;> rfl)]; cases r <;> first | rfl | cases hfl) (fun i => ?_)) hk
          by_cases hi : i = d
          · subst hi
            rw [if_pos rfl, put_same (by cases r <;> rfl), put_same (by cases r <;> rfl)]
          · rw [if_neg hi]
            unfold Ab.put
            cases (s d).isOwner <;> simp [hi]
      · exact plain h
theorem glend_ok (hR : Rel S0 w0 n s a w) (o : Oper) (hdm : ∀ d, o.dst = some d → S0.m ≤ d) {e : Bool} {K : St → Prop} (h : glend P n s e o.op o.dst K) {K' : Act → World → Prop} {Q : Exit → Act → World → Prop}
    (hK : ∀ s' a' w', Rel S0 w0 n s' a' w' → K s' → K' a' w') : if e then o.wp P a w K' Q else K' (a.put o.dst undef) w := by
  obtain ⟨dst, op, type, pos, after, guard⟩ := o
  dsimp only at h hdm
  unfold glend at h
  split at h
  · rename_i d c
    obtain ⟨callee, args, argTypes⟩ := c
    have hm := hdm d rfl
    dsimp only at h
    split at h
    · rename_i f
      cases e with
      | false => exact hK _ _ _ (skip_step (r := .x (.one (.bool false))) hR ⟨hm, h.1⟩ rfl (fun j hj => by cases hj)) h.2
      | true =>
        have hc : callM P (calleeM s f args.toList) (fun xs r outs => d < n ∧ (fun t => (t d).isOwner = false ∧ d < n ∧ K (fun i => if i = d then .cond true (t d) else t i)) (Ab.put (setOuts s xs outs) d r.av)) := by
          dsimp only at h
          unfold callM at h ⊢
          split at h
          · rename_i pp g ys e0
            obtain ⟨hp, hnl, hnd, r, outs, hc, hd, ho, hk⟩ := h
            have hr : ∀ j, r.av.refs j = false := fun j => by cases r <;> rfl
            refine ⟨hp, hnl, hnd, r, outs, hc, hd, by rw [put_same (hr d)]; exact ho, hd, ?_⟩
            have e : (fun i => if i = d then AV.cond true (Ab.put (setOuts s ys outs) d r.av d) else Ab.put (setOuts s ys outs) d r.av i) = Ab.put (setOuts s ys outs) d (.cond true r.av) := by
              funext i
              by_cases hi : i = d
              · subst hi
                rw [if_pos rfl, put_same (hr i), put_same (show (AV.cond true r.av).refs i = false from hr i)]
              · rw [if_neg hi]
                unfold Ab.put
                cases (setOuts s ys outs d).isOwner <;> simp [hi]
            rw [e]; exact hk
          · exact h.elim
        exact callM_ok (P := P) (K := fun t => (t d).isOwner = false ∧ d < n ∧ K (fun i => if i = d then .cond true (t d) else t i)) hR hc ⟨argTypes, rfl⟩ rfl hm (fun s' a' w' hR' hs => hK _ a' w' (hR'.condIn hs.2.1 hs.1 (fun i => rfl)) hs.2.2)
    · exact h.elim
  · exact h.elim
theorem gstep_ok (hR : Rel S0 w0 n s a w) (o : Oper) (hdm : ∀ d, o.dst = some d → S0.m ≤ d) {e : Bool} {K : St → Prop} (h : match lendO s o.op with | true => glend P n s e o.op o.dst K | false => aguard P n s e o.op o.dst K) {K' : Act → World → Prop} {Q : Exit → Act → World → Prop}
    (hK : ∀ s' a' w', Rel S0 w0 n s' a' w' → K s' → K' a' w') : if e then o.wp P a w K' Q else K' (a.put o.dst undef) w := by
  split at h
  · exact glend_ok hR o hdm h hK
  · exact aguard_ok hR o hdm h hK
theorem aops_ok {ops : Array Oper} {Q' : Exit → Act → World → Prop} {K : St → Prop} : ∀ (l : List Oper) (s : St) (a : Act) (w : World), (∀ o ∈ l, ∀ d, o.dst = some d → S0.m ≤ d) → Rel S0 w0 n s a w → aops P n ops l s K →
    (∀ s' a' w', Rel S0 w0 n s' a' w' → K s' → Q' .normal a' w') → wpList P ops Q' l a w := by
  intro l
  induction l with
  | nil => intro s a w _ hR h hQ; exact hQ s a w hR h
  | cons o l ih =>
    intro s a w hl hR h hQ
    have hl' : ∀ o ∈ l, ∀ d, o.dst = some d → S0.m ≤ d := fun o ho => hl o (List.mem_cons_of_mem _ ho)
    have ho := hl o List.mem_cons_self
    simp only [aops, aop] at h
    unfold wpList
    cases hg : o.guard with
    | none =>
      rw [hg] at h
      have hw : Region.wanted o (yielded ops a.tmps) = true := by simp [Region.wanted, hg]
      rw [if_pos hw]
      exact .inl (astep_ok (P := P) hR o ho h (fun s' a' w' hR' hk => ih s' a' w' hl' hR' hk hQ))
    | some g =>
      rw [hg] at h
      simp only at h
      cases hv : gval ops s g with
      | none => rw [hv] at h; exact h.elim
      | some e =>
        rw [hv] at h
        have hw : Region.wanted o (yielded ops a.tmps) = e := by
          simp only [Region.wanted, hg]
          exact gval_ok hR hv
        have := gstep_ok (P := P) (Q := Q') hR o ho h (fun s' a' w' hR' hk => ih s' a' w' hl' hR' hk hQ)
        rw [hw]
        cases e with
        | true => exact .inl this
        | false => exact this
end
end Go.Ab
/-
  Regions that draw their order: what is told of them does not hang on the order.
-/
namespace Go.Ab
open Go Go.RowKit
set_option linter.unusedSectionVars false
variable [Amb]
section
variable (ops : Array Oper) (step : Nat → St → St → Prop)
def chain : List Nat → St → St → Prop
  | [], s, s' => s = s'
  | i :: l, s, s' => ∃ s1, step i s s1 ∧ chain l s1 s'
inductive Waits : Nat → Nat → Prop where
  | edge {i : Nat} {o : Oper} {e : Edge} : ops[i]? = some o → e ∈ o.after → Region.binds .any e = true → Waits i e.on
  | far {i j : Nat} {o : Oper} {e : Edge} : ops[i]? = some o → e ∈ o.after → Region.binds .any e = true → Waits e.on j → Waits i j
def anyA (fin : St → Prop) : Nat → Array Bool → St → Prop
  | 0, listed, s => Region.ready .any ops listed = [] ∧ fin s
  | fuel + 1, listed, s => (Region.ready .any ops listed = [] → fin s) ∧ ∀ i ∈ Region.ready .any ops listed, ∃ s', step i s s' ∧ anyA fin fuel (listed.setIfInBounds i true) s'
def Closed (listed : Array Bool) : Prop := ∀ (i : Nat) (o : Oper), ops[i]? = some o → listed.getD i true = true → ∀ e ∈ o.after, Region.binds .any e = true → listed.getD e.on false = true
variable {ops step}
theorem waits_listed {listed : Array Bool} (hc : Closed ops listed) {i j : Nat} (h : Waits ops i j) (hi : ∀ (o : Oper), ops[i]? = some o → ∀ e ∈ o.after, Region.binds .any e = true → listed.getD e.on false = true) : listed.getD j false = true := by
  induction h with
  | edge ho he hb => exact hi _ ho _ he hb
  | @far i j o e ho he hb _ ih =>
    refine ih (fun o' ho' => ?_)
    have hl := hi o ho e he hb
    have hl' : listed.getD e.on true = true := by
      simp only [Array.getD_eq_getD_getElem?] at hl ⊢
      cases hx : listed[e.on]? with
      | none => rfl
      | some b => rw [hx] at hl; simpa using hl
    exact hc _ o' ho' hl'
theorem front {wf : St → Prop} {indep : Nat → Nat → Prop} (hwf : ∀ i s s', wf s → step i s s' → wf s')
    (hcomm : ∀ i j s s1 s2, indep i j → wf s → step i s s1 → step j s1 s2 → ∃ s1', step j s s1' ∧ step i s1' s2) {i : Nat} {l2 : List Nat} {s' : St} :
    ∀ (l1 : List Nat) (s : St), wf s → (∀ j ∈ l1, indep j i) → chain step (l1 ++ i :: l2) s s' → ∃ s1, step i s s1 ∧ chain step (l1 ++ l2) s1 s' := by
  intro l1
  induction l1 with
  | nil => intro s _ _ h; exact h
  | cons j l1 ih =>
    intro s hw hi h
    obtain ⟨sj, hj, h⟩ := h
    obtain ⟨s2, h2, h3⟩ := ih sj (hwf j s sj hw hj) (fun k hk => hi k (by simp [hk])) h
    obtain ⟨s1', h4, h5⟩ := hcomm j i s sj s2 (hi j (by simp)) hw hj h2
    exact ⟨s1', h4, s2, h5, h3⟩
theorem chain_any {wf : St → Prop} {indep : Nat → Nat → Prop} {fin : St → Prop} (hwf : ∀ i s s', wf s → step i s s' → wf s')
    (hcomm : ∀ i j s s1 s2, indep i j → wf s → step i s s1 → step j s1 s2 → ∃ s1', step j s s1' ∧ step i s1' s2)
    (hback : ∀ (i : Nat) (o : Oper), ops[i]? = some o → ∀ e ∈ o.after, Region.binds .any e = true → e.on < i)
    (hpair : ∀ j i, j < i → i < ops.size → Waits ops i j ∨ indep j i) {s' : St} (hfin : fin s') :
    ∀ (m : Nat) (l : List Nat) (listed : Array Bool) (s : St), l.length = m → listed.size = ops.size → Closed ops listed → l.Pairwise (· < ·) → (∀ i, i ∈ l ↔ i < ops.size ∧ listed.getD i true = false) → wf s → chain step l s s' → anyA ops step fin m listed s := by
  intro m
  induction m with
  | zero =>
    intro l listed s hm hsz hc hs hl hw h
    have hnil : l = [] := List.eq_nil_of_length_eq_zero hm
    subst hnil
    have : s = s' := h
    subst this
    refine ⟨?_, hfin⟩
    cases hr : Region.ready .any ops listed with
    | nil => rfl
    | cons i r =>
      have hi : i ∈ Region.ready .any ops listed := by rw [hr]; simp
      obtain ⟨h1, o, ho, _⟩ := mem_ready.1 hi
      have := (hl i).2 ⟨(Array.getElem?_eq_some_iff.1 ho).1, h1⟩
      cases this
  | succ m ih =>
    intro l listed s hm hsz hc hs hl hw h
    refine ⟨fun hr => ?_, fun i hi => ?_⟩
    · -- nothing is ready: but the least of those that have not come up is
      exfalso
      cases l with
      | nil => simp at hm
      | cons i r =>
        obtain ⟨hlt, hun⟩ := (hl i).1 (by simp)
        have ho : ops[i]? = some ops[i] := Array.getElem?_eq_getElem hlt
        have hri : i ∈ Region.ready .any ops listed := by
          refine mem_ready.2 ⟨hun, ops[i], ho, fun e he hb => ?_⟩
          have hei := hback i ops[i] ho e he hb
          have hne : e.on ∉ i :: r := by
            intro hmem
            rcases List.mem_cons.1 hmem with h | h
            · omega
            · have := (List.pairwise_cons.1 hs).1 e.on h; omega
          have : listed.getD e.on true ≠ false := fun h => hne ((hl e.on).2 ⟨by omega, h⟩)
          simp only [Array.getD_eq_getD_getElem?] at this ⊢
          cases hx : listed[e.on]? with
          | none =>
            have : listed.size ≤ e.on := by simpa using hx
            omega
          | some b => rw [hx] at this; simpa using this
        rw [hr] at hri
        cases hri
    · obtain ⟨h1, o, ho, hall⟩ := mem_ready.1 hi
      have hlt := (Array.getElem?_eq_some_iff.1 ho).1
      have hmem := (hl i).2 ⟨hlt, h1⟩
      obtain ⟨l1, l2, rfl⟩ := List.append_of_mem hmem
      have hsplit := List.pairwise_append.1 hs
      have hind : ∀ j ∈ l1, indep j i := by
        intro j hj
        have hji : j < i := hsplit.2.2 j hj i (by simp)
        rcases hpair j i hji hlt with h | h
        · exfalso
          have hlj := waits_listed hc h (fun o' ho' e he hb => by
            rw [ho] at ho'; injection ho' with ho'; subst ho'
            exact hall e he hb)
          have := ((hl j).1 (by simp [hj])).2
          simp only [Array.getD_eq_getD_getElem?] at this hlj
          cases hx : listed[j]? with
          | none => rw [hx] at hlj; cases hlj
          | some b => rw [hx] at hlj this; simp at hlj this; rw [hlj] at this; cases this
        · exact h
      obtain ⟨s1, h2, h3⟩ := front hwf hcomm l1 s hw hind h
      have hsz' : (listed.setIfInBounds i true).size = ops.size := by simpa using hsz
      have hget : ∀ k d, (listed.setIfInBounds i true).getD k d = if k = i then true else listed.getD k d := by
        intro k d
        simp only [Array.getD_eq_getD_getElem?]
        by_cases hk : k = i
        · subst hk; simp [hsz, hlt]
        · rw [Array.getElem?_setIfInBounds_ne (by omega)]; simp [hk]
      refine ⟨s1, h2, ih (l1 ++ l2) _ s1 (by simp at hm ⊢; omega) hsz' ?_ ?_ ?_ (hwf i s s1 hw h2) h3⟩
      · intro k o' ho' hk e he hb
        rw [hget] at hk ⊢
        by_cases hki : k = i
        · subst hki
          rw [ho] at ho'; injection ho' with ho'; subst ho'
          split
          · rfl
          · exact hall e he hb
        · rw [if_neg hki] at hk
          split
          · rfl
          · exact hc k o' ho' hk e he hb
      · refine List.pairwise_append.2 ⟨hsplit.1, (List.pairwise_cons.1 hsplit.2.1).2, fun x hx y hy => hsplit.2.2 x hx y (by simp [hy])⟩
      · intro k
        rw [hget]
        have hk := hl k
        simp only [List.mem_append, List.mem_cons] at hk ⊢
        by_cases hki : k = i
        · subst hki
          simp only [if_pos]
          constructor
          · rintro (h | h)
            · have := hsplit.2.2 k h k (by simp); omega
            · have := (List.pairwise_cons.1 hsplit.2.1).1 k h; omega
          · rintro ⟨_, h⟩; cases h
        · rw [if_neg hki, ← hk]
          constructor
          · rintro (h | h)
            · exact .inl h
            · exact .inr (.inr h)
          · rintro (h | h | h)
            · exact .inl h
            · exact absurd h hki
            · exact .inr h
end
end Go.Ab
/-
  Calm operations: what they yield hangs on their operands alone.
-/
namespace Go.Ab
open Go Go.RowKit
set_option linter.unusedSectionVars false
variable [Amb]
def AgreeO (s s' : St) : Operand → Prop
  | .tmp t => s' t = s t ∧ (∀ b, (s t).refs b = true → s' b = s b) ∧ ∀ i off, s' (LK i off) = s (LK i off)
  | _ => True
section
variable {P : Program} {s s' : St}
theorem look_congr {x : Operand} (h : AgreeO s s' x) : look s' x = look s x := by
  cases x with
  | tmp t => simp only [look, h.1]
  | _ => rfl
theorem sv_congr {x : Operand} (h : AgreeO s s' x) : sv s' x = sv s x := by simp only [sv, look_congr h]
theorem base_congr {x : Operand} (h : AgreeO s s' x) {b : Nat} (hb : (sv s x).2.refs b = true) : s' b = s b := by
  have hl : (look s x).refs b = true := strip_refs hb
  cases x with
  | tmp t =>
    simp only [look] at hl
    split at hl
    · obtain rfl : t = b := by simpa [AV.refs] using hl
      exact h.1
    · obtain rfl : t = b := by simpa [AV.refs] using hl
      exact h.1
    · obtain rfl : t = b := by simpa [AV.refs] using hl
      exact h.1
    · exact h.2.1 b hl
  | const v =>
    simp only [look, constAV] at hl
    split at hl
    · split at hl <;> cases hl
    · cases hl
    · split at hl <;> cases hl
  | _ => cases hl
theorem mem_congr {r : AV} (h : ∀ b, r.refs b = true → s' b = s b) : mem s' r = mem s r := by
  cases r with
  | ptr i off => simp only [mem, h i (by simp [AV.refs])]
  | eptr i k off => simp only [mem, h i (by simp [AV.refs])]
  | _ => rfl
theorem linkLoad_congr {x : Operand} (h : AgreeO s s' x) (v : Prop × AV) : linkLoad s' (sv s x).2 v = linkLoad s (sv s x).2 v := by
  have key : (∀ i off, s' (LK i off) = s (LK i off)) ∨ ∀ i off, (sv s x).2 ≠ .ptr i off := by
    cases x with
    | tmp t => exact .inl h.2.2
    | const v =>
      refine .inr (fun i off e => ?_)
      have hl : (sv s (.const v)).2.refs i = true := by rw [e]; simp [AV.refs]
      have := look_refs (s := fun _ => .dead) (fun _ _ h => by cases h) (.const v) (j := i) (strip_refs hl)
      cases this
    | global g => exact .inr (fun i off e => by simp [sv, look, strip] at e)
    | func f => exact .inr (fun i off e => by simp [sv, look, strip] at e)
  rcases key with k | k
  · unfold linkLoad
    split
    · split
      · rw [k]
      · rfl
    · rfl
  · unfold linkLoad
    split
    · split
      · rename_i e; exact absurd e (k _ _)
      · rfl
    · rfl
theorem abound_congr {o : Option Operand} {z : Int} (h : ∀ x, o = some x → AgreeO s s' x) : abound s' o z = abound s o z := by
  cases o with
  | none => rfl
  | some x => simp only [abound, sv_congr (h x rfl)]
theorem fillC_congr : ∀ (parts : List (Nat × Operand)), (∀ x ∈ parts, AgreeO s s' x.2) → (parts.map fun x => (x.1, sv s' x.2)) = (parts.map fun x => (x.1, sv s x.2)) := by
  intro parts h
  apply List.map_congr_left
  intro x hx
  rw [sv_congr (h x hx)]
theorem aindexAddr_congr {t : TypeId} {x i : Prop × AV} (h : ∀ b, x.2.refs b = true → s' b = s b) : aindexAddr P s' t x i = aindexAddr P s t x i := by
  unfold aindexAddr
  split
  · rfl
  · simp only [h _ (beq_self_eq_true _)]
  · simp only [h _ (beq_self_eq_true _)]
  · rfl
theorem aslice_congr {t : TypeId} {x : Prop × AV} {lo hi mx : Option Operand} (h : ∀ b, x.2.refs b = true → s' b = s b) (h1 : ∀ z, abound s' lo z = abound s lo z) (h2 : ∀ z, abound s' hi z = abound s hi z) (h3 : ∀ z, abound s' mx z = abound s mx z) : aslice P s' t x lo hi mx = aslice P s t x lo hi mx := by
  unfold aslice
  split
  · simp only [h1, h2, h3]
  · simp only [h1, h2, h3]
  · simp only [h1, h2, h3]
  · simp only [h _ (beq_self_eq_true _), h1, h2, h3]
  · simp only [h _ (beq_self_eq_true _), h1, h2, h3]
  · rfl
theorem alen_congr {t : TypeId} {x : Prop × AV} (h : ∀ b, x.2.refs b = true → s' b = s b) : alen P s' t x = alen P s t x := by
  unfold alen
  split
  · rfl
  · rfl
  · rfl
  · rfl
  · simp only [h _ (beq_self_eq_true _)]
  · rfl
  · rfl
theorem alookup_congr {t : TypeId} {x k : Prop × AV} {ok : Bool} (h : ∀ b, x.2.refs b = true → s' b = s b) : alookup P s' t x k ok = alookup P s t x k ok := by
  unfold alookup
  split
  · simp only [h _ (beq_self_eq_true _)]
  · rfl
theorem newsOf_congr {v : AV} {size : Nat} (h : ∀ b, v.refs b = true → s' b = s b) : newsOf s' size v = newsOf s size v := by
  unfold newsOf
  split
  · rfl
  · rfl
  · rfl
  · simp only [h _ (beq_self_eq_true _)]
  · simp only [h _ (beq_self_eq_true _)]
  · rfl
theorem aconvert_congr {src dst : TypeId} {x : Prop × AV} (h : ∀ b, x.2.refs b = true → s' b = s b) : aconvert P s' src dst x = aconvert P s src dst x := by
  unfold aconvert
  split
  · rfl
  · rfl
  · rw [newsOf_congr h]
theorem aval2_congr (op : Op) (h : ∀ x ∈ op.operands, AgreeO s s' x) : aval2 P s' op = aval2 P s op := by
  cases op with
  | move x => exact sv_congr (h x (by simp [Op.operands]))
  | assign x => exact look_congr' (h x (by simp [Op.operands]))
  | pick c x y => simp only [aval2, aval, sv_congr (h c (by simp [Op.operands])), sv_congr (h x (by simp [Op.operands])), sv_congr (h y (by simp [Op.operands]))]
  | load t x =>
    have hx := h x (by simp [Op.operands])
    simp only [aval2, aval, sv_congr hx, mem_congr (fun b hb => base_congr hx hb), linkLoad_congr hx]
  | nilCheck x => simp only [aval2, aval, sv_congr (h x (by simp [Op.operands]))]
  | binOp op t x y yt => simp only [aval2, aval, abinO, sv_congr (h x (by simp [Op.operands])), sv_congr (h y (by simp [Op.operands]))]
  | unOp op t x => simp only [aval2, aval, sv_congr (h x (by simp [Op.operands]))]
  | convert src dst x =>
    have hx := h x (by simp [Op.operands])
    simp only [aval2, aval, sv_congr hx, aconvert_congr (fun b hb => base_congr hx hb)]
  | slice t x lo hi mx =>
    have hx := h x (by simp [Op.operands])
    have h1 : ∀ z, abound s' lo z = abound s lo z := fun z => abound_congr (fun y hy => h y (by subst hy; simp [Op.operands]))
    have h2 : ∀ z, abound s' hi z = abound s hi z := fun z => abound_congr (fun y hy => h y (by subst hy; simp [Op.operands]))
    have h3 : ∀ z, abound s' mx z = abound s mx z := fun z => abound_congr (fun y hy => h y (by subst hy; simp [Op.operands]))
    simp only [aval2, aval, sv_congr hx, aslice_congr (fun b hb => base_congr hx hb) h1 h2 h3]
  | fieldAddr t x f => simp only [aval2, aval, sv_congr (h x (by simp [Op.operands]))]
  | field t x f => simp only [aval2, aval, sv_congr (h x (by simp [Op.operands]))]
  | indexAddr t x i =>
    have hx := h x (by simp [Op.operands])
    simp only [aval2, aval, sv_congr hx, sv_congr (h i (by simp [Op.operands])), aindexAddr_congr (fun b hb => base_congr hx hb)]
  | index t x i => simp only [aval2, aval, sv_congr (h x (by simp [Op.operands])), sv_congr (h i (by simp [Op.operands]))]
  | makeFunc fn first captured =>
    have : captured.toList.map (Ab.sv s') = captured.toList.map (Ab.sv s) := by
      apply List.map_congr_left
      intro x hx
      exact sv_congr (h x (by simp [Op.operands]; exact .inr (by simpa using hx)))
    simp only [aval2, aval, amakeFunc, this]
  | lookup t x k ok =>
    have hx := h x (by simp [Op.operands])
    simp only [aval2, aval, sv_congr hx, sv_congr (h k (by simp [Op.operands])), alookup_congr (fun b hb => base_congr hx hb)]
  | extract x i => simp only [aval2, aval, sv_congr (h x (by simp [Op.operands]))]
  | call c =>
    obtain ⟨callee, ⟨args⟩, ts⟩ := c
    have ha : ∀ x ∈ args, AgreeO s s' x := fun x hx => h x (by simp [Op.operands, Call.operands, hx])
    simp only [aval2, aval]
    unfold abuiltin
    split
    · split
      · rw [sv_congr (ha _ (by simp)), alen_congr (fun b hb => base_congr (ha _ (by simp)) hb)]
      · rfl
    · split
      · rw [sv_congr (ha _ (by simp))]
      · rfl
    · split
      · rw [sv_congr (ha _ (by simp)), sv_congr (ha _ (by simp))]
      · rfl
    · split
      · rw [sv_congr (ha _ (by simp)), sv_congr (ha _ (by simp))]
      · rfl
    · rfl
  | build t parts =>
    have : ∀ x ∈ parts.toList, AgreeO s s' x.2 := fun x hx => h x.2 (by simp only [Op.operands, List.mem_toArray, List.mem_map]; exact ⟨x, hx, rfl⟩)
    simp only [aval2, abuild, fillC_congr _ this]
  | _ => rfl
where look_congr' {x : Operand} (h : AgreeO s s' x) : ((True, look s' x) : Prop × AV) = (True, look s x) := by rw [look_congr h]
theorem capXs_congr : ∀ {caps : List (CV ⊕ (Nat × Nat))}, (∀ b, caps.any (capRef b) = true → s' b = s b) → capXs s' caps = capXs s caps
  | [], _ => rfl
  | .inl c :: r, h => by
    simp only [capXs, capX, capXs_congr (caps := r) (fun b hb => h b (by simp [hb]))]
  | .inr (i, off) :: r, h => by
    simp only [capXs, capX, capXs_congr (caps := r) (fun b hb => h b (by simp [hb])), h i (by simp [capRef])]
theorem argX_congr {x : Operand} (h : AgreeO s s' x) : argX s' x = argX s x := by
  have hb := fun b hb => base_congr h (b := b) hb
  simp only [argX, sv_congr h]
  generalize Ab.sv s x = r at hb
  obtain ⟨p, r⟩ := r
  cases r with
  | alias j => simp only [hb j (by simp [AV.refs])]
  | view j lo len wh => simp only [hb j (by simp [AV.refs])]
  | cloR f caps => simp only [capXs_congr (caps := caps) (fun b h => hb b h)]
  | _ => rfl
theorem argXs_congr : ∀ (args : List Operand), (∀ x ∈ args, AgreeO s s' x) → argXs s' args = argXs s args
  | [], _ => rfl
  | x :: r, h => by simp only [argXs, argX_congr (h x (by simp)), argXs_congr r (fun y hy => h y (by simp [hy]))]
theorem lends_congr : ∀ (args : List Operand), (∀ x ∈ args, AgreeO s s' x) → lends s' args = lends s args
  | [], _ => rfl
  | x :: r, h => by simp only [lends, sv_congr (h x (by simp)), lends_congr r (fun y hy => h y (by simp [hy]))]
theorem acall_congr {f : Operand} {args : List Operand} {r : RV} (hf : AgreeO s s' f) (h : ∀ x ∈ args, AgreeO s s' x) : acall P s' f args r = acall P s f args r := by
  simp only [acall, callee, sv_congr hf, argXs_congr args h]
end
def acalm (P : Program) (s : St) (op : Op) (r : AV) : Prop :=
  match op with
  | .alloc t => match zeroOf P t with
    | some cs => r = .box cs
    | none => False
  | .box _ x => match sv s x with
    | (p, .x xv) => p ∧ r = .box xv.cells
    | _ => False
  | .buildSlice t len parts => (abuildSlice P (sv s) t len parts.toList).1 ∧ r = (abuildSlice P (sv s) t len parts.toList).2
  | .convert src dst x => match isSliceT P dst with
    | true => (abytes P src dst (sv s x)).1 ∧ r = (abytes P src dst (sv s x)).2
    | false => (aval2 P s (.convert src dst x)).1 ∧ r = (aval2 P s (.convert src dst x)).2
  | .call c => match c.callee with
    | .value f => ∃ rv : RV, acall P s f c.args.toList rv ∧ (rv.flat || (lends s c.args.toList).isEmpty) = true ∧ r = rv.av
    | _ => (aval2 P s (.call c)).1 ∧ r = (aval2 P s (.call c)).2
  | op => (aval2 P s op).1 ∧ r = (aval2 P s op).2
theorem acalm_congr {P : Program} {s s' : St} (op : Op) (r : AV) (h : ∀ x ∈ op.operands, AgreeO s s' x) : acalm P s' op r ↔ acalm P s op r := by
  cases op with
  | alloc t => exact Iff.rfl
  | box t x => simp only [acalm, sv_congr (h x (by simp [Op.operands]))]
  | convert src dst x => simp only [acalm, sv_congr (h x (by simp [Op.operands])), aval2_congr _ h]
  | buildSlice t len parts =>
    have : ∀ x ∈ parts.toList, AgreeO s s' x.2 := fun x hx => h x.2 (by simp only [Op.operands, List.mem_toArray, List.mem_map]; exact ⟨x, hx, rfl⟩)
    simp only [acalm, abuildSlice, fillC_congr _ this]
  | call c =>
    obtain ⟨callee, ⟨args⟩, ts⟩ := c
    have ha : ∀ x ∈ args, AgreeO s s' x := fun x hx => h x (by simp [Op.operands, Call.operands, hx])
    cases callee with
    | value f =>
      have hf : AgreeO s s' f := h f (by simp [Op.operands, Call.operands])
      simp only [acalm, acall_congr hf ha, lends_congr args ha]
    | _ => simp only [acalm, aval2_congr _ h]
  | _ => simp only [acalm, aval2_congr _ h]
def acalmG (P : Program) (s : St) (e : Bool) (op : Op) (r : AV) : Prop :=
  match op with
  | .call c => match c.callee with
    | .value f => callG P e (callee s f c.args.toList) (fun rv => r = .cond e rv.av)
    | _ => (e = true → (aval2 P s (.call c)).1) ∧ (aval2 P s (.call c)).2.isOwner = false ∧ r = .cond e (aval2 P s (.call c)).2
  | .buildSlice t len parts => match e with
    | true => acalm P s (.buildSlice t len parts) r
    | false => r = .cond false (.x (.one (.bool false)))
  | op => (e = true → (aval2 P s op).1) ∧ (aval2 P s op).2.isOwner = false ∧ r = .cond e (aval2 P s op).2
theorem acalmG_congr {P : Program} {s s' : St} {e : Bool} (op : Op) (r : AV) (h : ∀ x ∈ op.operands, AgreeO s s' x) : acalmG P s' e op r ↔ acalmG P s e op r := by
  cases op with
  | call c =>
    obtain ⟨callee, ⟨args⟩, ts⟩ := c
    have ha : ∀ x ∈ args, AgreeO s s' x := fun x hx => h x (by simp [Op.operands, Call.operands, hx])
    cases callee with
    | value f =>
      have hf : AgreeO s s' f := h f (by simp [Op.operands, Call.operands])
      simp only [acalmG, callee, sv_congr hf, argXs_congr args ha]
    | _ => simp only [acalmG, aval2_congr _ h]
  | buildSlice t len parts =>
    cases e with
    | true => exact acalm_congr (.buildSlice t len parts) r h
    | false => exact Iff.rfl
  | _ => simp only [acalmG, aval2_congr _ h]
def calmStep (P : Program) (n : Nat) (ops : Array Oper) (o : Oper) (s s' : St) : Prop :=
  ∃ d r, o.dst = some d ∧ d < n ∧ (s d).isOwner = false ∧ s' = put s d r ∧
    match o.guard with
    | none => acalm P s o.op r
    | some g => ∃ e, gval ops s g = some e ∧ acalmG P s e o.op r
theorem gval_congr {ops : Array Oper} {s s' : St} {g : Nat × Bool} (h : ∀ d, (ops[g.1]?).bind (·.dst) = some d → s' d = s d) : gval ops s' g = gval ops s g := by
  unfold gval
  cases hd : (ops[g.1]?).bind (·.dst) with
  | none => rfl
  | some d => simp only [h d hd]
theorem put_calm {s : St} {d : Nat} {r : AV} (h : (s d).isOwner = false) (i : Nat) : put s d r i = if i = d then (match r.refs d with | true => .dead | false => r) else s i := by
  unfold put; rw [h]; rfl
theorem agree_put {s : St} {d : Nat} {r : AV} (hw : Wf s) (h : (s d).isOwner = false) (hdm : d < MARK) {x : Operand} (hx : x ≠ .tmp d) : AgreeO s (put s d r) x := by
  cases x with
  | tmp t =>
    have ht : t ≠ d := fun e => hx (by rw [e])
    refine ⟨by rw [put_calm h, if_neg ht], fun b hb => ?_, fun i off => by rw [put_calm h, if_neg (by unfold LK; unfold MARK at hdm; omega)]⟩
    have hbd : b ≠ d := by
      rintro rfl
      have := hw t b hb
      rw [h] at this; cases this
    rw [put_calm h, if_neg hbd]
  | _ => trivial
theorem calm_comm {P : Program} {n : Nat} {ops : Array Oper} {oi oj : Oper} {s s1 s2 : St} (hmi : ∀ d, oi.dst = some d → d < MARK) (hmj : ∀ d, oj.dst = some d → d < MARK) (hap : oi.apart ops oj = true) (hw : Wf s)
    (hi : calmStep P n ops oi s s1) (hj : calmStep P n ops oj s1 s2) : ∃ s1', calmStep P n ops oj s s1' ∧ calmStep P n ops oi s1' s2 := by
  obtain ⟨di, ri, hdi, hin, hoi, rfl, hvi⟩ := hi
  obtain ⟨dj, rj, hdj, hjn, hoj, rfl, hvj⟩ := hj
  obtain ⟨h1, h2, h3⟩ := Oper.apart_spec hap
  have hne : dj ≠ di := fun e => h2 di hdi (by rw [hdj, e])
  have hoj' : (s dj).isOwner = false := by rw [put_calm hoi, if_neg hne] at hoj; exact hoj
  have hoi' : (put s dj rj di).isOwner = false := by rw [put_calm hoj', if_neg (Ne.symm hne)]; exact hoi
  have ag : ∀ (o : Oper) (d : Nat), d ∉ o.looksAt ops → ∀ x ∈ o.op.operands, x ≠ .tmp d := by
    intro o d hd x hx e
    subst e
    exact hd (by simp only [Oper.looksAt, List.mem_append, List.mem_filterMap]; exact .inl ⟨.tmp d, by simpa using hx, rfl⟩)
  have gd : ∀ (o : Oper) (d : Nat) (g : Nat × Bool), d ∉ o.looksAt ops → o.guard = some g → ∀ d', (ops[g.1]?).bind (·.dst) = some d' → d' ≠ d := by
    intro o d g hd hg d' hd' e
    subst e
    refine hd ?_
    simp only [Oper.looksAt, List.mem_append, hg, hd']
    exact .inr (by simp)
  refine ⟨put s dj rj, ⟨dj, rj, hdj, hjn, hoj', rfl, ?_⟩, ⟨di, ri, hdi, hin, hoi', ?_, ?_⟩⟩
  · have hag : ∀ x ∈ oj.op.operands, AgreeO s (put s di ri) x := fun x hx => agree_put hw hoi (hmi di hdi) (ag oj di (h1 di hdi) x hx)
    cases hg : oj.guard with
    | none => rw [hg] at hvj; exact (acalm_congr _ _ hag).1 hvj
    | some g =>
      rw [hg] at hvj
      obtain ⟨e, he, hv⟩ := hvj
      refine ⟨e, ?_, (acalmG_congr _ _ hag).1 hv⟩
      rw [← he]
      exact (gval_congr (fun d' hd' => by rw [put_calm hoi, if_neg (gd oj di g (h1 di hdi) hg d' hd')])).symm
  · funext k
    rw [put_calm hoj, put_calm hoi, put_calm hoi', put_calm hoj']
    by_cases hkj : k = dj
    · subst hkj; simp [hne]
    · by_cases hki : k = di
      · subst hki; simp [hkj]
      · simp [hkj, hki]
  · have hag : ∀ x ∈ oi.op.operands, AgreeO s (put s dj rj) x := fun x hx => agree_put hw hoj' (hmj dj hdj) (ag oi dj (h3 dj hdj) x hx)
    cases hg : oi.guard with
    | none => rw [hg] at hvi; exact (acalm_congr _ _ hag).2 hvi
    | some g =>
      rw [hg] at hvi
      obtain ⟨e, he, hv⟩ := hvi
      refine ⟨e, ?_, (acalmG_congr _ _ hag).2 hv⟩
      rw [← he]
      exact gval_congr (fun d' hd' => by rw [put_calm hoj', if_neg (gd oi dj g (h3 dj hdj) hg d' hd')])
end Go.Ab
/-
  Steps that write, beside steps that hang on no content.
-/
namespace Go.Ab
open Go Go.RowKit
set_option linter.unusedSectionVars false
variable [Amb]
def Sh (a b : AV) : Prop := b = a ∨ (∃ cs cs', a = .box cs ∧ b = .box cs') ∨ (∃ e z xs xs', a = .own e z xs ∧ b = .own e z xs' ∧ xs'.length = xs.length)
theorem Sh.owner {a b : AV} (h : Sh a b) : b.isOwner = a.isOwner := by
  rcases h with rfl | ⟨_, _, rfl, rfl⟩ | ⟨_, _, _, _, rfl, rfl, _⟩ <;> rfl
theorem Sh.refs {a b : AV} (h : Sh a b) (j : Nat) : b.refs j = a.refs j := by
  rcases h with rfl | ⟨_, _, rfl, rfl⟩ | ⟨_, _, _, _, rfl, rfl, _⟩ <;> rfl
def AgreeSh (s s' : St) : Operand → Prop
  | .tmp t => Sh (s t) (s' t) ∧ ∀ b, (s t).refs b = true → Sh (s b) (s' b)
  | _ => True
section
variable {P : Program} {s s' : St}
theorem look_sh {x : Operand} (h : AgreeSh s s' x) : look s' x = look s x := by
  cases x with
  | tmp t =>
    obtain ⟨h1, _⟩ := h
    simp only [look]
    rcases h1 with h1 | ⟨_, _, h1, h2⟩ | ⟨_, _, _, _, h1, h2, _⟩
    · rw [h1]
    · rw [h1, h2]
    · rw [h1, h2]
  | _ => rfl
theorem sv_sh {x : Operand} (h : AgreeSh s s' x) : sv s' x = sv s x := by simp only [sv, look_sh h]
theorem base_sh {x : Operand} (h : AgreeSh s s' x) {b : Nat} (hb : (sv s x).2.refs b = true) : Sh (s b) (s' b) := by
  have hl : (look s x).refs b = true := strip_refs hb
  cases x with
  | tmp t =>
    simp only [look] at hl
    split at hl
    · obtain rfl : t = b := by simpa [AV.refs] using hl
      exact h.1
    · obtain rfl : t = b := by simpa [AV.refs] using hl
      exact h.1
    · obtain rfl : t = b := by simpa [AV.refs] using hl
      exact h.1
    · exact h.2 b hl
  | const v =>
    simp only [look, constAV] at hl
    split at hl
    · split at hl <;> cases hl
    · cases hl
    · split at hl <;> cases hl
  | _ => cases hl
theorem abound_sh {o : Option Operand} {z : Int} (h : ∀ x, o = some x → AgreeSh s s' x) : abound s' o z = abound s o z := by
  cases o with
  | none => rfl
  | some x => simp only [abound, sv_sh (h x rfl)]
theorem aindexAddr_sh {t : TypeId} {x i : Prop × AV} (h : ∀ b, x.2.refs b = true → Sh (s b) (s' b)) : aindexAddr P s' t x i = aindexAddr P s t x i := by
  unfold aindexAddr
  split
  · rfl
  · rcases h _ (beq_self_eq_true _) with e | ⟨_, _, e1, e2⟩ | ⟨_, _, _, _, e1, e2, e3⟩
    · rw [e]
    · rw [e1, e2]
    · rw [e1, e2]; simp only [e3]
  · rcases h _ (beq_self_eq_true _) with e | ⟨_, _, e1, e2⟩ | ⟨_, _, _, _, e1, e2, e3⟩
    · rw [e]
    · rw [e1, e2]; rfl
    · rw [e1, e2]; rfl
  · rfl
theorem aslice_sh {t : TypeId} {x : Prop × AV} {lo hi mx : Option Operand} (h : ∀ b, x.2.refs b = true → Sh (s b) (s' b)) (h1 : ∀ z, abound s' lo z = abound s lo z) (h2 : ∀ z, abound s' hi z = abound s hi z) (h3 : ∀ z, abound s' mx z = abound s mx z) : aslice P s' t x lo hi mx = aslice P s t x lo hi mx := by
  unfold aslice
  split
  · simp only [h1, h2, h3]
  · simp only [h1, h2, h3]
  · simp only [h1, h2, h3]
  · rcases h _ (beq_self_eq_true _) with e | ⟨_, _, e1, e2⟩ | ⟨_, _, _, _, e1, e2, e3⟩
    · rw [e]; simp only [h1, h2, h3]
    · rw [e1, e2]
    · rw [e1, e2]; simp only [e3, h1, h2, h3]
  · rcases h _ (beq_self_eq_true _) with e | ⟨_, _, e1, e2⟩ | ⟨_, _, _, _, e1, e2, e3⟩
    · rw [e]; simp only [h1, h2, h3]
    · rw [e1, e2]; simp only [h1, h2, h3]; rfl
    · rw [e1, e2]; simp only [h1, h2, h3]; rfl
  · rfl
theorem alen_sh {t : TypeId} {x : Prop × AV} (h : ∀ b, x.2.refs b = true → Sh (s b) (s' b)) : alen P s' t x = alen P s t x := by
  unfold alen
  split
  · rfl
  · rfl
  · rfl
  · rfl
  · rcases h _ (beq_self_eq_true _) with e | ⟨_, _, e1, e2⟩ | ⟨_, _, _, _, e1, e2, e3⟩
    · rw [e]
    · rw [e1, e2]
    · rw [e1, e2]; simp only [e3]
  · rfl
  · rfl
def lightB : Op → Bool
  | .move _ => true
  | .assign _ => true
  | .pick _ _ _ => true
  | .nilCheck _ => true
  | .binOp _ _ _ _ _ => true
  | .unOp _ _ _ => true
  | .slice _ _ _ _ _ => true
  | .fieldAddr _ _ _ => true
  | .field _ _ _ => true
  | .indexAddr _ _ _ => true
  | .index _ _ _ => true
  | .makeFunc _ _ _ => true
  | .extract _ _ => true
  | .build _ _ => true
  | .call c => match c.callee with
    | .builtin .len => true
    | .builtin .max => true
    | .builtin .min => true
    | _ => false
  | _ => false
def lightAt (s : St) (op : Op) : Prop := match op with
  | .load _ x => ∃ cs, (sv s x).2 = .elem cs
  | .convert _ _ x => ∃ k m, (sv s x).2 = .x (.one (.int k m))
  | op => lightB op = true
theorem aval2_sh (op : Op) (hl : lightAt s op) (h : ∀ x ∈ op.operands, AgreeSh s s' x) : aval2 P s' op = aval2 P s op := by
  cases op with
  | move x => exact sv_sh (h x (by simp [Op.operands]))
  | assign x => simp only [aval2, aval, look_sh (h x (by simp [Op.operands]))]
  | pick c x y => simp only [aval2, aval, sv_sh (h c (by simp [Op.operands])), sv_sh (h x (by simp [Op.operands])), sv_sh (h y (by simp [Op.operands]))]
  | load t x =>
    obtain ⟨cs, hcs⟩ := hl
    have hx := sv_sh (h x (by simp [Op.operands]))
    simp only [aval2, aval, hx, hcs, mem, linkLoad_elem]
  | nilCheck x => simp only [aval2, aval, sv_sh (h x (by simp [Op.operands]))]
  | binOp op t x y yt => simp only [aval2, aval, abinO, sv_sh (h x (by simp [Op.operands])), sv_sh (h y (by simp [Op.operands]))]
  | unOp op t x => simp only [aval2, aval, sv_sh (h x (by simp [Op.operands]))]
  | convert src dst x =>
    obtain ⟨k, m, hcs⟩ := hl
    have hx := sv_sh (h x (by simp [Op.operands]))
    simp only [aval2, aval, hx]
    generalize Ab.sv s x = q at hcs ⊢
    obtain ⟨p, v⟩ := q
    dsimp only at hcs
    subst hcs
    rfl
  | slice t x lo hi mx =>
    have hx := h x (by simp [Op.operands])
    have h1 : ∀ z, abound s' lo z = abound s lo z := fun z => abound_sh (fun y hy => h y (by subst hy; simp [Op.operands]))
    have h2 : ∀ z, abound s' hi z = abound s hi z := fun z => abound_sh (fun y hy => h y (by subst hy; simp [Op.operands]))
    have h3 : ∀ z, abound s' mx z = abound s mx z := fun z => abound_sh (fun y hy => h y (by subst hy; simp [Op.operands]))
    simp only [aval2, aval, sv_sh hx, aslice_sh (fun b hb => base_sh hx hb) h1 h2 h3]
  | fieldAddr t x f => simp only [aval2, aval, sv_sh (h x (by simp [Op.operands]))]
  | field t x f => simp only [aval2, aval, sv_sh (h x (by simp [Op.operands]))]
  | indexAddr t x i =>
    have hx := h x (by simp [Op.operands])
    simp only [aval2, aval, sv_sh hx, sv_sh (h i (by simp [Op.operands])), aindexAddr_sh (fun b hb => base_sh hx hb)]
  | index t x i => simp only [aval2, aval, sv_sh (h x (by simp [Op.operands])), sv_sh (h i (by simp [Op.operands]))]
  | makeFunc fn first captured =>
    have : captured.toList.map (Ab.sv s') = captured.toList.map (Ab.sv s) := by
      apply List.map_congr_left
      intro x hx
      exact sv_sh (h x (by simp [Op.operands]; exact .inr (by simpa using hx)))
    simp only [aval2, aval, amakeFunc, this]
  | extract x i => simp only [aval2, aval, sv_sh (h x (by simp [Op.operands]))]
  | call c =>
    obtain ⟨callee, ⟨args⟩, ts⟩ := c
    have ha : ∀ x ∈ args, AgreeSh s s' x := fun x hx => h x (by simp [Op.operands, Call.operands, hx])
    simp only [aval2, aval]
    unfold abuiltin
    split
    · split
      · rw [sv_sh (ha _ (by simp)), alen_sh (fun b hb => base_sh (ha _ (by simp)) hb)]
      · rfl
    · split
      · rw [sv_sh (ha _ (by simp))]
      · rfl
    · split
      · rw [sv_sh (ha _ (by simp)), sv_sh (ha _ (by simp))]
      · rfl
    · split
      · rw [sv_sh (ha _ (by simp)), sv_sh (ha _ (by simp))]
      · rfl
    · rfl
  | build t parts =>
    have : (parts.toList.map fun x => (x.1, sv s' x.2)) = (parts.toList.map fun x => (x.1, sv s x.2)) := by
      apply List.map_congr_left
      intro x hx
      rw [sv_sh (h x.2 (by simp only [Op.operands, List.mem_toArray, List.mem_map]; exact ⟨x, hx, rfl⟩))]
    simp only [aval2, abuild, this]
  | _ => simp [lightAt, lightB] at hl
theorem lightAt_sh {op : Op} (hl : lightAt s op) (h : ∀ x ∈ op.operands, AgreeSh s s' x) : lightAt s' op := by
  cases op with
  | load t x =>
    obtain ⟨cs, hcs⟩ := hl
    exact ⟨cs, by rw [sv_sh (h x (by simp [Op.operands]))]; exact hcs⟩
  | convert src dst x =>
    obtain ⟨k, m, hcs⟩ := hl
    exact ⟨k, m, by rw [sv_sh (h x (by simp [Op.operands]))]; exact hcs⟩
  | _ => exact hl
theorem acalm_sh {op : Op} {r : AV} (hl : lightAt s op) (h : ∀ x ∈ op.operands, AgreeSh s s' x) (hc : acalm P s op r) : acalm P s' op r := by
  have key := aval2_sh (P := P) op hl h
  cases op with
  | call c =>
    obtain ⟨callee, args, ts⟩ := c
    cases callee with
    | value f => simp [lightAt, lightB] at hl
    | _ => simp only [acalm] at hc ⊢; rw [key]; exact hc
  | alloc t => simp [lightAt, lightB] at hl
  | box t x => simp [lightAt, lightB] at hl
  | buildSlice t len parts => simp [lightAt, lightB] at hl
  | convert src dst x =>
    simp only [acalm] at hc ⊢
    rw [key, sv_sh (h x (by simp [Op.operands]))]
    exact hc
  | _ => simp only [acalm] at hc ⊢; rw [key]; exact hc
theorem acalmG_sh {e : Bool} {op : Op} {r : AV} (hl : lightAt s op) (h : ∀ x ∈ op.operands, AgreeSh s s' x) (hc : acalmG P s e op r) : acalmG P s' e op r := by
  have key := aval2_sh (P := P) op hl h
  cases op with
  | call c =>
    obtain ⟨callee, args, ts⟩ := c
    cases callee with
    | value f => simp [lightAt, lightB] at hl
    | _ => simp only [acalmG] at hc ⊢; rw [key]; exact hc
  | buildSlice t len parts => simp [lightAt, lightB] at hl
  | _ => simp only [acalmG] at hc ⊢; rw [key]; exact hc
end
def setW (s : St) (W : List (Nat × AV)) : St := fun i => match W.find? (fun p => p.1 == i) with
  | some p => p.2
  | none => s i
def storeW (P : Program) (s : St) (t : TypeId) (addr x : Prop × AV) : Option (Prop × Nat × AV) :=
  match addr, x, (tk P t).cells with
  | (p, .ptr i off), (q, .x xv), some m => match s i with
    | .box cs => some ((p ∧ q ∧ xv.cells.length = m ∧ off + m ≤ cs.length) ∧ anyIn cs off m = false, i, .box (setRange cs off xv.cells))
    | _ => none
  | (p, .eptr i k off), (q, .x xv), some m => match s i with
    | .own e size xs => some (p ∧ q ∧ xv.cells.length = m ∧ k < xs.length ∧ off + m ≤ size, i, .own e size (xs.set k (setRange (xs.getD k []) off xv.cells)))
    | _ => none
  | _, _, _ => none
def ptrTold (s : St) : AV → Bool
  | .ptr i _ => (s i).told
  | _ => true
theorem told_anyIn {cs : List CV} (h : (AV.box cs).told = true) (off m : Nat) : anyIn cs off m = false := by
  unfold anyIn
  rw [List.any_eq_false]
  simp only [AV.told, Bool.not_eq_true'] at h
  rw [List.any_eq_false] at h
  intro x hx
  exact h x (List.mem_of_mem_drop (List.mem_of_mem_take hx))
theorem astore_W {P : Program} {s : St} {t : TypeId} {addr x : Prop × AV} (h : (astore P s t addr x).1) (ht : ptrTold s addr.2 = true) : ∃ p i v, storeW P s t addr x = some (p, i, v) ∧ p ∧ (astore P s t addr x).2 = setW s [(i, v)] ∧ Sh (s i) v ∧ (s i).isOwner = true ∧ addr.2.refs i = true := by
  have hset : ∀ i v, (fun j => if j = i then v else s j) = setW s [(i, v)] := by
    intro i v
    funext j
    unfold setW
    by_cases hj : j = i
    · subst hj; simp
    · have : (i == j) = false := by simpa using fun e => hj e.symm
      simp [hj, this]
  unfold astore at h ⊢
  unfold storeW
  split at h
  · rename_i p i off q xv m e
    split at h
    · rename_i cs hs
      have hany : anyIn cs off m = false := told_anyIn (by rw [← hs]; exact ht) off m
      refine ⟨(p ∧ q ∧ xv.cells.length = m ∧ off + m ≤ cs.length) ∧ anyIn cs off m = false, i, .box (setRange cs off xv.cells), by simp only [e, hs], ⟨h, hany⟩, by simp only [hs, hany]; exact hset i _, by rw [hs]; exact .inr (.inl ⟨_, _, rfl, rfl⟩), by rw [hs]; rfl, by simp [AV.refs]⟩
    · exact h.elim
  · rename_i p i k off q xv m e
    split at h
    · rename_i e' size xs hs
      refine ⟨_, i, _, by simp only [e, hs]; rfl, h, by simp only [hs]; exact hset i _, by rw [hs]; exact .inr (.inr ⟨_, _, _, _, rfl, rfl, by simp⟩), by rw [hs]; rfl, by simp [AV.refs]⟩
    · exact h.elim
  · exact h.elim
def boxOuts : List (AV × Option Nat) → List AV → Bool
  | (_, some _) :: l, .box _ :: outs => boxOuts l outs
  | (_, none) :: l, _ :: outs => boxOuts l outs
  | [], _ => true
  | _, _ => false
def writes (P : Program) (n : Nat) (o : Oper) (s : St) (W : List (Nat × AV)) (dr : Option (Nat × AV)) : Prop :=
  o.guard = none ∧ match o.op with
  | .store t addr x => o.dst = none ∧ dr = none ∧ OneOk P t = true ∧ lends s [x] = [] ∧ ∃ p i v, storeW P s t (sv s addr) (uv s x) = some (p, i, v) ∧ p ∧ W = [(i, v)]
  | .call c => match c.callee with
    | .value f => ∃ d p g ys r outs, o.dst = some d ∧ d < n ∧ calleeM s f c.args.toList = (p, some (g, ys)) ∧ p ∧ noLinks ys = true ∧ (slotsOf ys).Nodup ∧ ACallsM P g (ys.map (·.1)) r outs ∧ boxOuts ys outs = true ∧ r.av.isOwner = false ∧ W = pairs ys outs ∧ dr = some (d, r.av)
    | _ => False
  | _ => False
def goW (s : St) (W : List (Nat × AV)) : Option (Nat × AV) → St
  | none => setW s W
  | some (d, r) => put (setW s W) d r
def wStep (P : Program) (n : Nat) (o : Oper) (s s' : St) : Prop :=
  ∃ W dr, writes P n o s W dr ∧ (∀ d r, dr = some (d, r) → o.dst = some d ∧ (s d).isOwner = false ∧ r.isOwner = false ∧ ∀ j, r.refs j = false) ∧ (dr = none → o.dst = none) ∧ s' = goW s W dr
section
variable {P : Program} {s s' : St}
theorem setW_at (W : List (Nat × AV)) (i : Nat) : (∃ v, (i, v) ∈ W ∧ setW s W i = v) ∨ ((∀ v, (i, v) ∉ W) ∧ setW s W i = s i) := by
  unfold setW
  cases hf : W.find? (fun p => p.1 == i) with
  | none =>
    refine .inr ⟨fun v hv => ?_, rfl⟩
    have := List.find?_eq_none.1 hf (i, v) hv
    simp at this
  | some p =>
    have h1 := List.mem_of_find?_eq_some hf
    have h2 := List.find?_some hf
    simp at h2
    refine .inl ⟨p.2, ?_, rfl⟩
    rw [← h2]; exact h1
theorem setW_not {W : List (Nat × AV)} {i : Nat} (h : ∀ v, (i, v) ∉ W) : setW s W i = s i := by
  unfold setW
  cases hf : W.find? (fun p => p.1 == i) with
  | none => rfl
  | some p =>
    have h1 := List.mem_of_find?_eq_some hf
    have h2 := List.find?_some hf
    simp at h2
    exact absurd (by rw [← h2]; exact h1) (h p.2)
theorem setW_same (t t' : St) {W : List (Nat × AV)} {i : Nat} {v : AV} (h : (i, v) ∈ W) : setW t W i = setW t' W i := by
  unfold setW
  cases hf : W.find? (fun p => p.1 == i) with
  | none => have := List.find?_eq_none.1 hf (i, v) h; simp at this
  | some p => rfl
theorem setW_sh {W : List (Nat × AV)} (h : ∀ i v, (i, v) ∈ W → Sh (s i) v ∧ (s i).isOwner = true) (i : Nat) : Sh (s i) (setW s W i) := by
  rcases setW_at (s := s) W i with ⟨v, hv, e⟩ | ⟨_, e⟩
  · rw [e]; exact (h i v hv).1
  · rw [e]; exact .inl rfl
theorem argM_congr {x : Operand} (h : AgreeO s s' x) : argM s' x = argM s x := by
  have hb := fun b hb => base_congr h (b := b) hb
  simp only [argM, sv_congr h]
  generalize Ab.sv s x = r at hb
  obtain ⟨p, r⟩ := r
  cases r with
  | alias j => simp only [hb j (by simp [AV.refs])]
  | ptr j off =>
    cases off with
    | zero => simp only [hb j (by simp [AV.refs])]
    | succ k => rfl
  | _ => rfl
theorem argMs_congr : ∀ (args : List Operand), (∀ x ∈ args, AgreeO s s' x) → argMs s' args = argMs s args
  | [], _ => rfl
  | x :: r, h => by simp only [argMs, argM_congr (h x (by simp)), argMs_congr r (fun y hy => h y (by simp [hy]))]
theorem capMs_congr : ∀ (caps : List (CV ⊕ (Nat × Nat))), (∀ b, caps.any (capRef b) = true → s' b = s b) → capMs s' caps = capMs s caps
  | [], _ => rfl
  | c :: r, h => by
    have h1 : capM s' c = capM s c := by
      unfold capM
      split
      · rfl
      · rename_i i; rw [h i (by simp [capRef])]
      · rfl
    simp only [capMs, h1, capMs_congr r (fun b hb => h b (by simp [hb]))]
theorem calleeM_congr {f : Operand} {args : List Operand} (hf : AgreeO s s' f) (h : ∀ x ∈ args, AgreeO s s' x) : calleeM s' f args = calleeM s f args := by
  have hb := fun b hb => base_congr hf (b := b) hb
  simp only [calleeM, sv_congr hf, argMs_congr args h]
  generalize Ab.sv s f = r at hb
  obtain ⟨p, r⟩ := r
  have : fnM s' r = fnM s r := by
    cases r with
    | cloR g caps => simp only [fnM, capMs_congr caps (fun b hc => hb b (by simpa [AV.refs] using hc))]
    | _ => rfl
  generalize argMs s args = b
  obtain ⟨q, b⟩ := b
  cases b with
  | none => rfl
  | some xs => dsimp only; rw [this]
theorem writes_congr {n : Nat} {o : Oper} {W : List (Nat × AV)} {dr : Option (Nat × AV)} (h : ∀ x ∈ o.op.operands, AgreeO s s' x) : writes P n o s' W dr ↔ writes P n o s W dr := by
  unfold writes
  cases hop : o.op with
  | store t addr x =>
    rw [hop] at h
    have ha := h addr (by simp [Op.operands])
    have hx := h x (by simp [Op.operands])
    have huv : uv s' x = uv s x := by simp only [uv, argX_congr hx]
    have hl : lends s' [x] = lends s [x] := lends_congr [x] (fun y hy => by simp at hy; subst hy; exact hx)
    have hst : storeW P s' t (sv s addr) (uv s x) = storeW P s t (sv s addr) (uv s x) := by
      unfold storeW
      split
      · rename_i e _ _; rw [base_congr ha (by rw [e]; simp [AV.refs])]
      · rename_i e _ _; rw [base_congr ha (by rw [e]; simp [AV.refs])]
      · rfl
    simp only [huv, hl, sv_congr ha, hst]
  | call c =>
    rw [hop] at h
    obtain ⟨callee, ⟨args⟩, ts⟩ := c
    cases callee with
    | value f =>
      have hf : AgreeO s s' f := h f (by simp [Op.operands, Call.operands])
      have ha : ∀ x ∈ args, AgreeO s s' x := fun x hx => h x (by simp [Op.operands, Call.operands, hx])
      simp only [calleeM_congr hf ha]
    | _ => rfl
  | _ => rfl
end
theorem gval_keep {ops : Array Oper} {s s' : St} {g : Nat × Bool} {e : Bool} (he : gval ops s g = some e) (h : ∀ d, (ops[g.1]?).bind (·.dst) = some d → (s d).isOwner = false → s' d = s d) : gval ops s' g = gval ops s g := by
  unfold gval at he ⊢
  cases hd : (ops[g.1]?).bind (·.dst) with
  | none => rfl
  | some d =>
    rw [hd] at he
    simp only at he ⊢
    rw [h d hd]
    cases hs : s d <;> rw [hs] at he <;> first | rfl | cases he
theorem pairs_fst : ∀ (l : List (AV × Option Nat)) (outs : List AV), ((pairs l outs).map (·.1)).Sublist (slotsOf l)
  | [], _ => by simp [pairs]
  | (x, none) :: l, [] => by simp [pairs]
  | (x, some i) :: l, [] => by simp [pairs]
  | (x, none) :: l, o :: outs => by simpa [pairs, slotsOf] using pairs_fst l outs
  | (x, some i) :: l, o :: outs => by
    have := pairs_fst l outs
    simp only [pairs, slotsOf, List.map_cons, List.filterMap_cons]
    exact this.cons_cons i
theorem boxOuts_at : ∀ {l : List (AV × Option Nat)} {outs : List AV}, boxOuts l outs = true → ∀ i o, (i, o) ∈ pairs l outs → ∃ cs, o = .box cs
  | [], _, _, i, o, h => by simp [pairs] at h
  | (x, none) :: l, [], hb, i, o, h => by simp [pairs] at h
  | (x, some k) :: l, [], hb, i, o, h => by simp [pairs] at h
  | (x, none) :: l, q :: outs, hb, i, o, h => by
    simp only [pairs] at h
    exact boxOuts_at (l := l) (outs := outs) (by simpa [boxOuts] using hb) i o h
  | (x, some k) :: l, q :: outs, hb, i, o, h => by
    cases q with
    | box cs =>
      simp only [pairs] at h
      rcases List.mem_cons.1 h with e | e
      · injection e with e1 e2; exact ⟨cs, e2⟩
      · exact boxOuts_at (l := l) (outs := outs) (by simpa [boxOuts] using hb) i o e
    | _ => simp [boxOuts] at hb
theorem argM_slot {s : St} {x : Operand} {p : Prop} {y : AV} {i : Nat} (h : argM s x = (p, some (y, some i))) : s i = y ∧ y.isOwner = true := by
  unfold argM at h
  split at h
  · simp at h
  · split at h
    · rename_i hs; simp only [Prod.mk.injEq, Option.some.injEq] at h; obtain ⟨_, rfl, rfl⟩ := h; exact ⟨hs, rfl⟩
    · rename_i hs; simp only [Prod.mk.injEq, Option.some.injEq] at h; obtain ⟨_, rfl, rfl⟩ := h; exact ⟨hs, rfl⟩
    · simp at h
  · split at h
    · rename_i hs; simp only [Prod.mk.injEq, Option.some.injEq] at h; obtain ⟨_, rfl, rfl⟩ := h; exact ⟨hs, rfl⟩
    · simp at h
  · simp at h
theorem argMs_slot {s : St} : ∀ {l : List Operand} {p : Prop} {ys : List (AV × Option Nat)}, argMs s l = (p, some ys) → ∀ (y : AV) (i : Nat), (y, some i) ∈ ys → s i = y ∧ y.isOwner = true
  | [], p, ys, h, y, i, hm => by
    simp only [argMs, Prod.mk.injEq, Option.some.injEq] at h
    obtain ⟨_, rfl⟩ := h
    cases hm
  | x :: l, p, ys, h, y, i, hm => by
    simp only [argMs] at h
    split at h
    · rename_i q v q' vs e1 e2
      simp only [Prod.mk.injEq, Option.some.injEq] at h
      obtain ⟨_, rfl⟩ := h
      rcases List.mem_cons.1 hm with e | e
      · subst e; exact argM_slot e1
      · exact argMs_slot e2 y i e
    · simp at h
theorem capMs_slot {s : St} : ∀ {l : List (CV ⊕ (Nat × Nat))} {ys : List (AV × Option Nat)}, capMs s l = some ys → ∀ (y : AV) (i : Nat), (y, some i) ∈ ys → s i = y ∧ y.isOwner = true
  | [], ys, h, y, i, hm => by
    simp only [capMs, Option.some.injEq] at h
    subst h; cases hm
  | c :: l, ys, h, y, i, hm => by
    simp only [capMs] at h
    split at h
    · rename_i x xs e1 e2
      injection h with h
      subst h
      rcases List.mem_cons.1 hm with e | e
      · subst e
        unfold capM at e1
        split at e1
        · injection e1 with e1; simp at e1
        · split at e1
          · rename_i hs; injection e1 with e1; simp only [Prod.mk.injEq, Option.some.injEq] at e1; obtain ⟨rfl, rfl⟩ := e1; exact ⟨hs, rfl⟩
          · cases e1
        · cases e1
      · exact capMs_slot e2 y i e
    · cases h
theorem calleeM_slot {s : St} {f : Operand} {args : List Operand} {p : Prop} {g : FuncId} {ys : List (AV × Option Nat)} (h : calleeM s f args = (p, some (g, ys))) (y : AV) (i : Nat) (hm : (y, some i) ∈ ys) : s i = y ∧ y.isOwner = true := by
  unfold calleeM at h
  split at h
  · rename_i p' fv q xs ef e2
    split at h
    · rename_i g' caps e1
      simp only [Prod.mk.injEq, Option.some.injEq] at h
      obtain ⟨_, rfl, rfl⟩ := h
      rcases List.mem_append.1 hm with hm | hm
      · exact argMs_slot e2 y i hm
      · unfold fnM at e1
        split at e1
        · cases hc : capMs s _ with
          | none => rw [hc] at e1; cases e1
          | some zs =>
            rw [hc] at e1
            simp only [Option.map_some, Option.some.injEq, Prod.mk.injEq] at e1
            obtain ⟨_, rfl⟩ := e1
            exact capMs_slot hc y i hm
        · cases hc : fnOf _ with
          | none => rw [hc] at e1; cases e1
          | some zs =>
            rw [hc] at e1
            simp only [Option.map_some, Option.some.injEq, Prod.mk.injEq] at e1
            obtain ⟨_, rfl⟩ := e1
            obtain ⟨z, _, e⟩ := List.mem_map.1 hm
            simp at e
    · simp at h
  · simp at h
theorem writes_W {P : Program} {n : Nat} {o : Oper} {s : St} {W : List (Nat × AV)} {dr : Option (Nat × AV)} (h : writes P n o s W dr) : (∀ i v, (i, v) ∈ W → Sh (s i) v ∧ (s i).isOwner = true) ∧ (W.map (·.1)).Nodup := by
  unfold writes at h
  obtain ⟨_, h⟩ := h
  split at h
  · rename_i t addr x hop
    obtain ⟨_, _, _, _, p, i, v, hst, _, rfl⟩ := h
    refine ⟨fun j u hj => ?_, by simp⟩
    simp only [List.mem_singleton, Prod.mk.injEq] at hj
    obtain ⟨rfl, rfl⟩ := hj
    unfold storeW at hst
    split at hst
    · split at hst
      · rename_i cs hs
        simp only [Option.some.injEq, Prod.mk.injEq] at hst
        obtain ⟨_, rfl, rfl⟩ := hst
        rw [hs]
        exact ⟨.inr (.inl ⟨_, _, rfl, rfl⟩), rfl⟩
      · cases hst
    · split at hst
      · rename_i e size xs hs
        simp only [Option.some.injEq, Prod.mk.injEq] at hst
        obtain ⟨_, rfl, rfl⟩ := hst
        rw [hs]
        exact ⟨.inr (.inr ⟨_, _, _, _, rfl, rfl, by simp⟩), rfl⟩
      · cases hst
    · cases hst
  · split at h
    · obtain ⟨d, p, g, ys, r, outs, _, _, hc, _, _, hnd, hA, hbo, _, rfl, _⟩ := h
      refine ⟨fun i v hiv => ?_, (pairs_fst ys outs).nodup hnd⟩
      obtain ⟨cs, rfl⟩ := boxOuts_at hbo i v hiv
      obtain ⟨j, x, h1, h2⟩ := pairs_mem hiv
      obtain ⟨hs, ho⟩ := calleeM_slot hc x i (List.mem_of_getElem? h1)
      have hf := (outsFit_at hA.2.1).2 j x (.box cs) (by rw [List.getElem?_map, h1]; rfl) h2
      rw [hs]
      cases x <;> first | exact ⟨.inr (.inl ⟨_, _, rfl, rfl⟩), rfl⟩ | (simp [outFits] at hf)
    · exact h.elim
  · exact h.elim
theorem ops_apart {ops : Array Oper} (o : Oper) (d : Nat) (hd : d ∉ o.looksAt ops) : ∀ x ∈ o.op.operands, x ≠ .tmp d := by
  intro x hx e
  subst e
  exact hd (by simp only [Oper.looksAt, List.mem_append, List.mem_filterMap]; exact .inl ⟨.tmp d, by simpa using hx, rfl⟩)
theorem guard_apart {ops : Array Oper} (o : Oper) (d : Nat) (g : Nat × Bool) (hd : d ∉ o.looksAt ops) (hg : o.guard = some g) : ∀ d', (ops[g.1]?).bind (·.dst) = some d' → d' ≠ d := by
  intro d' hd' e
  subst e
  refine hd ?_
  simp only [Oper.looksAt, List.mem_append, hg, hd']
  exact .inr (by simp)
def goV (s : St) (W : List (Nat × AV)) (i : Nat) : Option (Nat × AV) → AV
  | some (d, r) => if i = d then r else setW s W i
  | none => setW s W i
@[simp] theorem goV_none (s : St) (W : List (Nat × AV)) (i : Nat) : goV s W i none = setW s W i := rfl
@[simp] theorem goV_some (s : St) (W : List (Nat × AV)) (i d : Nat) (r : AV) : goV s W i (some (d, r)) = if i = d then r else setW s W i := rfl
theorem goW_at {s : St} {W : List (Nat × AV)} {dr : Option (Nat × AV)} (hd : ∀ d r, dr = some (d, r) → (setW s W d).isOwner = false ∧ ∀ j, r.refs j = false) (i : Nat) : goW s W dr i = goV s W i dr := by
  cases dr with
  | none => rfl
  | some p =>
    obtain ⟨d, r⟩ := p
    obtain ⟨h1, h2⟩ := hd d r rfl
    show put (setW s W) d r i = _
    rw [put_calm h1]
    by_cases hi : i = d
    · simp [hi, h2]
    · simp [hi]
theorem light_write {P : Program} {n : Nat} {ops : Array Oper} {ol ow : Oper} {s s1 s2 : St} (hml : ∀ d, ol.dst = some d → d < MARK) (hap1 : ∀ d, ol.dst = some d → d ∉ ow.looksAt ops) (hap2 : ∀ d, ow.dst = some d → d ∉ ol.looksAt ops) (hap3 : ∀ d, ol.dst = some d → ow.dst ≠ some d) (hw : Wf s)
    (hl : calmStep P n ops ol s s1) (hlt : lightAt s ol.op) (hi : wStep P n ow s1 s2) : ∃ s1', wStep P n ow s s1' ∧ calmStep P n ops ol s1' s2 ∧ lightAt s1' ol.op := by
  obtain ⟨d, r, hd, hdn, hno, rfl, hv⟩ := hl
  obtain ⟨W, dr, hwr, hdr, hdn', rfl⟩ := hi
  have hag : ∀ x ∈ ow.op.operands, AgreeO s (put s d r) x := fun x hx => agree_put hw hno (hml d hd) (ops_apart ow d (hap1 d hd) x hx)
  have hp : ∀ i, i ≠ d → put s d r i = s i := fun i hi => by rw [put_calm hno, if_neg hi]
  have hwr' := (writes_congr hag).1 hwr
  obtain ⟨hW', _⟩ := writes_W hwr'
  have hWd : ∀ i v, (i, v) ∈ W → i ≠ d := by
    rintro i v hiv rfl
    have := (hW' i v hiv).2
    rw [hno] at this; cases this
  have hW : ∀ i v, (i, v) ∈ W → (put s d r i).isOwner = true := by
    intro i v hiv
    rw [hp i (hWd i v hiv)]; exact (hW' i v hiv).2
  have hdr' : ∀ d' r', dr = some (d', r') → ow.dst = some d' ∧ (s d').isOwner = false ∧ r'.isOwner = false ∧ ∀ j, r'.refs j = false := by
    intro d' r' h
    obtain ⟨h1, h2, h3, h4⟩ := hdr d' r' h
    have hne : d' ≠ d := fun e => hap3 d hd (by rw [h1, e])
    rw [hp d' hne] at h2
    exact ⟨h1, h2, h3, h4⟩
  have hsd : ∀ (t : St) (d' : Nat), (t d').isOwner = false → (∀ i v, (i, v) ∈ W → (t i).isOwner = true) → setW t W d' = t d' := by
    intro t d' h1 h2
    exact setW_not (fun v hv => by have := h2 d' v hv; rw [h1] at this; cases this)
  have hg1 : ∀ d' r', dr = some (d', r') → (setW s W d').isOwner = false ∧ ∀ j, r'.refs j = false := fun d' r' h => by
    obtain ⟨_, h2, _, h4⟩ := hdr' d' r' h
    exact ⟨by rw [hsd s d' h2 (fun i v hv => (hW' i v hv).2)]; exact h2, h4⟩
  have hg2 : ∀ d' r', dr = some (d', r') → (setW (put s d r) W d').isOwner = false ∧ ∀ j, r'.refs j = false := fun d' r' h => by
    obtain ⟨_, h2, _, h4⟩ := hdr d' r' h
    exact ⟨by rw [hsd _ d' h2 (fun i v hv => hW i v hv)]; exact h2, h4⟩
  have hsd0 : setW s W d = s d := hsd s d hno (fun i v hv => (hW' i v hv).2)
  have hs1d : (goW s W dr d) = s d := by
    rw [goW_at hg1]
    cases dr with
    | none => exact hsd0
    | some p =>
      obtain ⟨d', r'⟩ := p
      have hne : d ≠ d' := fun e => hap3 d hd (by rw [e]; exact (hdr' d' r' rfl).1)
      simp only [goV_some, if_neg hne]; exact hsd0
  have hno' : (goW s W dr d).isOwner = false := by rw [hs1d]; exact hno
  have hsh : ∀ i, (∀ d', ow.dst = some d' → i ≠ d') → Sh (s i) (goW s W dr i) := by
    intro i hid
    rw [goW_at hg1]
    cases dr with
    | none => exact setW_sh hW' i
    | some p =>
      obtain ⟨d', r'⟩ := p
      simp only [goV_some, if_neg (hid d' (hdr' d' r' rfl).1)]
      exact setW_sh hW' i
  have hags : ∀ x ∈ ol.op.operands, AgreeSh s (goW s W dr) x := by
    intro x hx
    cases x with
    | tmp t =>
      refine ⟨hsh t (fun d' hd' e => ?_), fun b hb => hsh b (fun d' hd' e => ?_)⟩
      · subst e; exact ops_apart ol t (hap2 t hd') _ hx rfl
      · subst e
        obtain ⟨h1, h2, _⟩ : ow.dst = some b ∧ (s b).isOwner = false ∧ True := by
          cases hdd : dr with
          | none => rw [hdn' hdd] at hd'; cases hd'
          | some p =>
            obtain ⟨d', r'⟩ := p
            obtain ⟨k1, k2, _⟩ := hdr' d' r' hdd
            rw [hd'] at k1
            injection k1 with k1
            subst k1
            exact ⟨hd', k2, trivial⟩
        have := hw t b hb
        rw [h2] at this; cases this
    | _ => trivial
  refine ⟨goW s W dr, ⟨W, dr, hwr', hdr', hdn', rfl⟩, ⟨d, r, hd, hdn, hno', ?_, ?_⟩, lightAt_sh hlt hags⟩
  · funext i
    rw [goW_at hg2, put_calm hno', goW_at hg1]
    by_cases hi : i = d
    · subst hi
      have e1 : setW (put s i r) W i = put s i r i := setW_not (fun v hv => hWd i v hv rfl)
      cases dr with
      | none => simp [e1, put_calm hno]
      | some p =>
        obtain ⟨d', r'⟩ := p
        have hne : i ≠ d' := fun e => hap3 i hd (by rw [e]; exact (hdr' d' r' rfl).1)
        simp [hne, e1, put_calm hno]
    · have e1 : setW (put s d r) W i = setW s W i := by
        by_cases hW2 : ∃ v, (i, v) ∈ W
        · obtain ⟨v, hv⟩ := hW2; exact setW_same _ _ hv
        · have hnn : ∀ v, (i, v) ∉ W := fun v hv => hW2 ⟨v, hv⟩
          rw [setW_not hnn, setW_not hnn, hp i hi]
      cases dr with
      | none => simp only [goV_none, if_neg hi, e1]
      | some p =>
        obtain ⟨d', r'⟩ := p
        simp only [goV_some, if_neg hi, e1]
  · cases hg : ol.guard with
    | none => rw [hg] at hv; exact acalm_sh hlt hags hv
    | some g =>
      rw [hg] at hv
      obtain ⟨e, he, hv⟩ := hv
      refine ⟨e, ?_, acalmG_sh hlt hags hv⟩
      rw [← he]
      refine gval_keep he (fun d' hd' ho => ?_)
      rw [goW_at hg1]
      have hnn : ∀ v, (d', v) ∉ W := fun v hv => by have := (hW' d' v hv).2; rw [ho] at this; cases this
      cases hdd : dr with
      | none => exact setW_not hnn
      | some p =>
        obtain ⟨d2, r2⟩ := p
        have hne : d' ≠ d2 := guard_apart ol d2 g (hap2 d2 (hdr' d2 r2 hdd).1) hg d' hd'
        simp only [goV_some, if_neg hne]
        exact setW_not hnn
theorem Sh.symm {a b : AV} (h : Sh a b) : Sh b a := by
  rcases h with rfl | ⟨_, _, rfl, rfl⟩ | ⟨_, _, _, _, rfl, rfl, h⟩
  · exact .inl rfl
  · exact .inr (.inl ⟨_, _, rfl, rfl⟩)
  · exact .inr (.inr ⟨_, _, _, _, rfl, rfl, h.symm⟩)
theorem AgreeSh.symm {s s' : St} {x : Operand} (h : AgreeSh s s' x) : AgreeSh s' s x := by
  cases x with
  | tmp t => exact ⟨h.1.symm, fun b hb => (h.2 b (by rw [← h.1.refs b]; exact hb)).symm⟩
  | _ => trivial
theorem write_light {P : Program} {n : Nat} {ops : Array Oper} {ol ow : Oper} {s s1 s2 : St} (hml : ∀ d, ol.dst = some d → d < MARK) (hap1 : ∀ d, ol.dst = some d → d ∉ ow.looksAt ops) (hap2 : ∀ d, ow.dst = some d → d ∉ ol.looksAt ops) (hap3 : ∀ d, ol.dst = some d → ow.dst ≠ some d) (hw : Wf s)
    (hi : wStep P n ow s s1) (hl : calmStep P n ops ol s1 s2) (hlt : lightAt s1 ol.op) : ∃ s1', calmStep P n ops ol s s1' ∧ lightAt s ol.op ∧ wStep P n ow s1' s2 := by
  obtain ⟨W, dr, hwr, hdr, hdn', rfl⟩ := hi
  obtain ⟨hW, _⟩ := writes_W hwr
  obtain ⟨d, r, hd, hdn, hno1, rfl, hv⟩ := hl
  have hsd : ∀ (t : St) (d' : Nat), (t d').isOwner = false → (∀ i v, (i, v) ∈ W → (t i).isOwner = true) → setW t W d' = t d' := by
    intro t d' h1 h2
    exact setW_not (fun v hv => by have := h2 d' v hv; rw [h1] at this; cases this)
  have hg1 : ∀ d' r', dr = some (d', r') → (setW s W d').isOwner = false ∧ ∀ j, r'.refs j = false := fun d' r' h => by
    obtain ⟨_, h2, _, h4⟩ := hdr d' r' h
    exact ⟨by rw [hsd s d' h2 (fun i v hv => (hW i v hv).2)]; exact h2, h4⟩
  have hne : ∀ d' r', dr = some (d', r') → d ≠ d' := fun d' r' h e => hap3 d hd (by rw [e]; exact (hdr d' r' h).1)
  have hg0 : goW s W dr d = setW s W d := by
    rw [goW_at hg1]
    cases hdd : dr with
    | none => rfl
    | some p => obtain ⟨d', r'⟩ := p; simp only [goV_some, if_neg (hne d' r' hdd)]
  have hno : (s d).isOwner = false := by
    have := (setW_sh (s := s) hW d).owner
    rw [← hg0, hno1] at this
    exact this.symm
  have hWd : ∀ i v, (i, v) ∈ W → i ≠ d := by
    rintro i v hiv rfl
    have := (hW i v hiv).2
    rw [hno] at this; cases this
  have hsh : ∀ i, (∀ d', ow.dst = some d' → i ≠ d') → Sh (s i) (goW s W dr i) := by
    intro i hid
    rw [goW_at hg1]
    cases hdd : dr with
    | none => exact setW_sh hW i
    | some p =>
      obtain ⟨d', r'⟩ := p
      simp only [goV_some, if_neg (hid d' (hdr d' r' hdd).1)]
      exact setW_sh hW i
  have hags : ∀ x ∈ ol.op.operands, AgreeSh s (goW s W dr) x := by
    intro x hx
    cases x with
    | tmp t =>
      refine ⟨hsh t (fun d' hd' e => ?_), fun b hb => hsh b (fun d' hd' e => ?_)⟩
      · subst e; exact ops_apart ol t (hap2 t hd') _ hx rfl
      · subst e
        have h2 : (s b).isOwner = false := by
          cases hdd : dr with
          | none => rw [hdn' hdd] at hd'; cases hd'
          | some p =>
            obtain ⟨d', r'⟩ := p
            obtain ⟨k1, k2, _⟩ := hdr d' r' hdd
            rw [hd'] at k1
            injection k1 with k1
            subst k1
            exact k2
        have := hw t b hb
        rw [h2] at this; cases this
    | _ => trivial
  have hp : ∀ i, i ≠ d → put s d r i = s i := fun i hi => by rw [put_calm hno, if_neg hi]
  have hag : ∀ x ∈ ow.op.operands, AgreeO s (put s d r) x := fun x hx => agree_put hw hno (hml d hd) (ops_apart ow d (hap1 d hd) x hx)
  have hlt' := lightAt_sh hlt (fun x hx => (hags x hx).symm)
  have hdr2 : ∀ d' r', dr = some (d', r') → ow.dst = some d' ∧ (put s d r d').isOwner = false ∧ r'.isOwner = false ∧ ∀ j, r'.refs j = false := by
    intro d' r' h
    obtain ⟨h1, h2, h3, h4⟩ := hdr d' r' h
    rw [← hp d' (Ne.symm (hne d' r' h))] at h2
    exact ⟨h1, h2, h3, h4⟩
  have hg2 : ∀ d' r', dr = some (d', r') → (setW (put s d r) W d').isOwner = false ∧ ∀ j, r'.refs j = false := fun d' r' h => by
    obtain ⟨_, h2, _, h4⟩ := hdr2 d' r' h
    refine ⟨?_, h4⟩
    rw [hsd _ d' h2 (fun i v hv => by rw [hp i (hWd i v hv)]; exact (hW i v hv).2)]
    exact h2
  refine ⟨put s d r, ⟨d, r, hd, hdn, hno, rfl, ?_⟩, hlt', ⟨W, dr, (writes_congr hag).2 hwr, hdr2, hdn', ?_⟩⟩
  · cases hg : ol.guard with
    | none => rw [hg] at hv; exact acalm_sh hlt (fun x hx => (hags x hx).symm) hv
    | some g =>
      rw [hg] at hv
      obtain ⟨e, he, hv⟩ := hv
      refine ⟨e, ?_, acalmG_sh hlt (fun x hx => (hags x hx).symm) hv⟩
      rw [← he]
      refine gval_keep he (fun d' hd' ho => ?_)
      rw [goW_at hg1] at ho ⊢
      cases hdd : dr with
      | none =>
        rw [hdd] at ho
        have hnn : ∀ v, (d', v) ∉ W := fun v hv => by
          have := (setW_sh (s := s) hW d').owner
          rw [(hW d' v hv).2] at this
          simp only [goV_none] at ho
          rw [ho] at this; cases this
        exact (setW_not hnn).symm
      | some p =>
        obtain ⟨d2, r2⟩ := p
        have hne2 : d' ≠ d2 := guard_apart ol d2 g (hap2 d2 (hdr d2 r2 hdd).1) hg d' hd'
        rw [hdd] at ho
        simp only [goV_some, if_neg hne2] at ho ⊢
        have hnn : ∀ v, (d', v) ∉ W := fun v hv => by
          have := (setW_sh (s := s) hW d').owner
          rw [(hW d' v hv).2, ho] at this; cases this
        exact (setW_not hnn).symm
  · funext i
    rw [goW_at hg2, put_calm hno1, goW_at hg1]
    by_cases hi : i = d
    · subst hi
      have e1 : setW (put s i r) W i = put s i r i := setW_not (fun v hv => hWd i v hv rfl)
      cases hdd : dr with
      | none => simp [e1, put_calm hno]
      | some p =>
        obtain ⟨d', r'⟩ := p
        simp [hne d' r' hdd, e1, put_calm hno]
    · have e1 : setW (put s d r) W i = setW s W i := by
        by_cases hW2 : ∃ v, (i, v) ∈ W
        · obtain ⟨v, hv⟩ := hW2; exact setW_same _ _ hv
        · have hnn : ∀ v, (i, v) ∉ W := fun v hv => hW2 ⟨v, hv⟩
          rw [setW_not hnn, setW_not hnn, hp i hi]
      cases hdd : dr with
      | none => simp only [goV_none, if_neg hi, e1]
      | some p =>
        obtain ⟨d', r'⟩ := p
        simp only [goV_some, if_neg hi, e1]
theorem lightB_at {s : St} {op : Op} (h : lightB op = true) : lightAt s op := by
  cases op <;> first | exact h | (simp [lightB] at h)
theorem storeW_astore {P : Program} {s : St} {t : TypeId} {addr x : Prop × AV} {p : Prop} {i : Nat} {v : AV} (h : storeW P s t addr x = some (p, i, v)) (hp : p) : (astore P s t addr x).1 ∧ (astore P s t addr x).2 = setW s [(i, v)] := by
  have hset : ∀ i v, (fun j => if j = i then v else s j) = setW s [(i, v)] := by
    intro i v
    funext j
    unfold setW
    by_cases hj : j = i
    · subst hj; simp
    · have : (i == j) = false := by simpa using fun e => hj e.symm
      simp [hj, this]
  unfold storeW at h
  unfold astore
  split at h
  · rename_i e
    split at h
    · rename_i hs
      simp only [Option.some.injEq, Prod.mk.injEq] at h
      obtain ⟨rfl, rfl, rfl⟩ := h
      simp only [e, hs, hp.2]; exact ⟨hp.1, hset _ _⟩
    · cases h
  · rename_i e
    split at h
    · rename_i hs
      simp only [Option.some.injEq, Prod.mk.injEq] at h
      obtain ⟨rfl, rfl, rfl⟩ := h
      simp only [e, hs]; exact ⟨hp, hset _ _⟩
    · cases h
  · cases h
theorem setOuts_setW : ∀ (l : List (AV × Option Nat)) (outs : List AV) (s : St), boxOuts l outs = true → (slotsOf l).Nodup → setOuts s l outs = setW s (pairs l outs)
  | [], outs, s, _, _ => by
    cases outs <;> (funext i; rfl)
  | (x, none) :: l, [], s, h, _ => by simp [boxOuts] at h
  | (x, some k) :: l, [], s, h, _ => by simp [boxOuts] at h
  | (x, none) :: l, o :: outs, s, h, hn => by
    simp only [setOuts, pairs]
    exact setOuts_setW l outs s (by simpa [boxOuts] using h) (by simpa [slotsOf] using hn)
  | (x, some k) :: l, o :: outs, s, h, hn => by
    cases o with
    | box cs =>
      simp only [setOuts, pairs]
      simp only [slotsOf, List.filterMap_cons] at hn
      have hni := (List.nodup_cons.1 hn).1
      rw [setOuts_setW l outs _ (by simpa [boxOuts] using h) (List.nodup_cons.1 hn).2]
      funext i
      unfold setW
      simp only [List.find?_cons]
      by_cases hik : k = i
      · subst hik
        simp only [beq_self_eq_true]
        have : (pairs l outs).find? (fun p => p.1 == k) = none := by
          rw [List.find?_eq_none]
          rintro ⟨j, v⟩ hj
          simp only [beq_iff_eq]
          rintro rfl
          obtain ⟨m, y, h1, _⟩ := pairs_mem hj
          exact hni (mem_slots h1)
        rw [this]
        simp [setOut]
      · have : (k == i) = false := by simpa using hik
        simp only [this]
        cases (pairs l outs).find? (fun p => p.1 == i) with
        | some p => rfl
        | none => simp [setOut, Ne.symm hik]
    | _ => simp [boxOuts] at h
section
variable {P : Program} {S0 : Env} {w0 w : World} {n : Nat} {s : St} {a : Act}
theorem wStep_ok (hR : Rel S0 w0 n s a w) (o : Oper) (hdm : ∀ d, o.dst = some d → S0.m ≤ d) {s' : St} (h : wStep P n o s s') {K' : Act → World → Prop} {Q : Exit → Act → World → Prop}
    (hK : ∀ a' w', Rel S0 w0 n s' a' w' → K' a' w') : o.wp P a w K' Q := by
  obtain ⟨W, dr, hw, hdr, hdn, rfl⟩ := h
  unfold writes at hw
  obtain ⟨hg, hw⟩ := hw
  split at hw
  · rename_i t addr x hop
    obtain ⟨hdst, rfl, ho, hl, p, i, v, hst, hp, rfl⟩ := hw
    obtain ⟨h1, h2⟩ := storeW_astore hst hp
    refine astep_ok (P := P) (K := fun t => t = setW s [(i, v)]) hR o hdm ?_ (fun s1 a' w' hR' hs' => by subst hs'; exact hK a' w' hR')
    rw [hop, hdst]
    have hnl : linkable s (sv s addr) (sv s x) = none := by
      cases hlk : linkable s (sv s addr) (sv s x) with
      | none => rfl
      | some y =>
        obtain ⟨p', i', off, d⟩ := y
        obtain ⟨_, _, _, e2, _⟩ := linkable_spec hlk
        simp [lends, e2, lendsOf] at hl
    simp only [astep, hnl, hl, freezeL]
    exact ⟨ho, h1, h2⟩
  · rename_i c hop
    split at hw
    · rename_i f hf
      obtain ⟨d, p, g, ys, r, outs, hdst, hdn', hc, hpp, hnl, hnd, hA, hbo, hro, rfl, rfl⟩ := hw
      refine callM_ok (P := P) (f := f) (args := c.args) (K := fun t => t = goW s (pairs ys outs) (some (d, r.av))) hR ?_ ⟨c.argTypes, by rw [hop]; cases c; simp at hf; simp [hf]⟩ hdst (hdm d hdst) (fun s1 a' w' hR' hs' => by subst hs'; exact hK a' w' hR')
      unfold callM
      rw [hc]
      refine ⟨hpp, hnl, hnd, r, outs, hA, hdn', ?_⟩
      show put (setOuts s ys outs) d r.av = put (setW s (pairs ys outs)) d r.av
      rw [setOuts_setW ys outs s hbo hnd]
    · exact hw.elim
  · exact hw.elim
theorem wStep_wf {o : Oper} {s' : St} (hw : Wf s) (h : wStep P n o s s') : Wf s' := by
  obtain ⟨W, dr, hwr, hdr, _, rfl⟩ := h
  obtain ⟨hW, _⟩ := writes_W hwr
  have h1 : Wf (setW s W) := by
    intro i j hij
    have hi := setW_sh (s := s) hW i
    rw [hi.refs] at hij
    rw [(setW_sh (s := s) hW j).owner]
    exact hw i j hij
  cases dr with
  | none => exact h1
  | some p =>
    obtain ⟨d, r⟩ := p
    exact put_wf h1 (fun j hj => by rw [(hdr d r rfl).2.2.2 j] at hj; cases hj)
end
end Go.Ab
/-
  A region of operations.
-/
namespace Go.Ab
open Go Go.RowKit
set_option linter.unusedSectionVars false
variable [Amb]
def makesOwn : Op → Bool
  | .buildSlice _ _ _ => true
  | .makeMap _ _ => true
  | .call c => match c.callee with
    | .builtin .append => true
    | _ => false
  | _ => false
def calmB (ops : Array Oper) (op : Op) : Bool :=
  match op with
  | .store _ _ _ => false
  | .makeMap _ _ => false
  | .mapUpdate _ _ _ _ => false
  | .assign (.tmp t) => !(ops.toList.any fun o => o.dst == some t && makesOwn o.op)
  | .call c => match c.callee with
    | .builtin .append => false
    | _ => true
  | _ => true
def aopD (P : Program) (n : Nat) (ops : Array Oper) (o : Oper) (s : St) (K : St → Prop) : Prop :=
  match o.dst with
  | none => False
  | some d => d < n ∧ (s d).isOwner = false ∧
    match o.guard with
    | none => match o.op with
      | .alloc t => match zeroOf P t with
        | some cs => K (put s d (.box cs))
        | none => False
      | .box _ x => match sv s x with
        | (p, .x xv) => p ∧ K (put s d (.box xv.cells))
        | _ => False
      | .buildSlice t len parts => (abuildSlice P (sv s) t len parts.toList).1 ∧ K (put s d (abuildSlice P (sv s) t len parts.toList).2)
      | .convert src dst x => match isSliceT P dst with
        | true => (abytes P src dst (sv s x)).1 ∧ K (put s d (abytes P src dst (sv s x)).2)
        | false => (aval2 P s (.convert src dst x)).1 ∧ K (put s d (aval2 P s (.convert src dst x)).2)
      | .call c => match c.callee with
        | .value f => ∃ rv : RV, acall P s f c.args.toList rv ∧ (rv.flat || (lends s c.args.toList).isEmpty) = true ∧ K (put s d rv.av)
        | _ => (aval2 P s (.call c)).1 ∧ K (put s d (aval2 P s (.call c)).2)
      | op => (aval2 P s op).1 ∧ K (put s d (aval2 P s op).2)
    | some g => match gval ops s g with
      | some e => match o.op with
        | .call c => match c.callee with
          | .value f => callG P e (callee s f c.args.toList) (fun rv => K (put s d (.cond e rv.av)))
          | _ => (e = true → (aval2 P s (.call c)).1) ∧ (aval2 P s (.call c)).2.isOwner = false ∧ K (put s d (.cond e (aval2 P s (.call c)).2))
        | .buildSlice t len parts => match e with
          | true => (abuildSlice P (sv s) t len parts.toList).1 ∧ K (put s d (abuildSlice P (sv s) t len parts.toList).2)
          | false => K (put s d (.cond false (.x (.one (.bool false)))))
        | op => (e = true → (aval2 P s op).1) ∧ (aval2 P s op).2.isOwner = false ∧ K (put s d (.cond e (aval2 P s op).2))
      | none => False
theorem aopD_step {P : Program} {n : Nat} {ops : Array Oper} {o : Oper} {s : St} {K : St → Prop} (h : aopD P n ops o s K) : ∃ s', calmStep P n ops o s s' ∧ K s' := by
  unfold aopD at h
  cases hd : o.dst with
  | none => rw [hd] at h; exact h.elim
  | some d =>
    rw [hd] at h
    obtain ⟨hn, ho, h⟩ := h
    unfold calmStep
    cases hg : o.guard with
    | none =>
      rw [hg] at h
      simp only at h ⊢
      cases hop : o.op with
      | alloc t =>
        rw [hop] at h
        simp only at h
        cases hz : zeroOf P t with
        | none => rw [hz] at h; exact h.elim
        | some cs => rw [hz] at h; exact ⟨_, ⟨d, _, hd, hn, ho, rfl, by simp only [acalm, hz]⟩, h⟩
      | box t x =>
        rw [hop] at h
        simp only at h
        split at h
        · rename_i p xv e
          exact ⟨_, ⟨d, _, hd, hn, ho, rfl, by simp only [acalm, e]; first | exact ⟨h.1, rfl⟩ | exact ⟨h.1, trivial⟩⟩, h.2⟩
        · exact h.elim
      | buildSlice t len parts => rw [hop] at h; exact ⟨_, ⟨d, _, hd, hn, ho, rfl, h.1, rfl⟩, h.2⟩
      | convert src dst x =>
        rw [hop] at h
        simp only at h
        cases hsl : isSliceT P dst with
        | true => rw [hsl] at h; exact ⟨_, ⟨d, _, hd, hn, ho, rfl, by simp only [acalm, hsl]; first | exact ⟨h.1, rfl⟩ | exact ⟨h.1, trivial⟩⟩, h.2⟩
        | false => rw [hsl] at h; exact ⟨_, ⟨d, _, hd, hn, ho, rfl, by simp only [acalm, hsl]; first | exact ⟨h.1, rfl⟩ | exact ⟨h.1, trivial⟩⟩, h.2⟩
      | call c =>
        rw [hop] at h
        simp only at h
        cases hc : c.callee with
        | value f =>
          rw [hc] at h
          obtain ⟨rv, h1, h2, h3⟩ := h
          exact ⟨_, ⟨d, _, hd, hn, ho, rfl, by simp only [acalm, hc]; exact ⟨rv, h1, h2, rfl⟩⟩, h3⟩
        | _ => rw [hc] at h; exact ⟨_, ⟨d, _, hd, hn, ho, rfl, by simp only [acalm, hc]; first | exact ⟨h.1, rfl⟩ | exact ⟨h.1, trivial⟩⟩, h.2⟩
      | _ => rw [hop] at h; exact ⟨_, ⟨d, _, hd, hn, ho, rfl, h.1, rfl⟩, h.2⟩
    | some g =>
      rw [hg] at h
      simp only at h ⊢
      cases he : gval ops s g with
      | none => rw [he] at h; exact h.elim
      | some e =>
        rw [he] at h
        simp only at h
        cases hop : o.op with
        | call c =>
          rw [hop] at h
          simp only at h
          cases hc : c.callee with
          | value f =>
            rw [hc] at h
            obtain ⟨rv, h1, h3⟩ := callG_exact h
            exact ⟨_, ⟨d, .cond e rv.av, hd, hn, ho, rfl, e, rfl, by simp only [acalmG, hc]; exact h1 _ rfl⟩, h3⟩
          | _ => rw [hc] at h; exact ⟨_, ⟨d, _, hd, hn, ho, rfl, e, rfl, by simp only [acalmG, hc]; first | exact ⟨h.1, h.2.1, rfl⟩ | exact ⟨h.1, h.2.1, trivial⟩⟩, h.2.2⟩
        | buildSlice t len parts =>
          rw [hop] at h
          cases e with
          | true => exact ⟨_, ⟨d, _, hd, hn, ho, rfl, true, rfl, h.1, rfl⟩, h.2⟩
          | false => exact ⟨_, ⟨d, _, hd, hn, ho, rfl, false, rfl, rfl⟩, h⟩
        | _ => rw [hop] at h; exact ⟨_, ⟨d, _, hd, hn, ho, rfl, e, rfl, h.1, h.2.1, rfl⟩, h.2.2⟩
def callB (o : Oper) : Bool := match o.op with
  | .call c => match c.callee with
    | .value _ => o.guard.isNone
    | _ => false
  | _ => false
def storeU (o : Oper) : Bool := match o.op with
  | .store _ _ _ => o.guard.isNone
  | _ => false
def aopC (P : Program) (n : Nat) (o : Oper) (s : St) (K : St → Prop) : Prop :=
  match o.dst, o.op with
  | some d, .call c => match c.callee with
    | .value f => d < n ∧ (s d).isOwner = false ∧ callS P (callee s f c.args.toList) (fun rv => (rv.flat || (lends s c.args.toList).isEmpty) = true ∧ K (put s d rv.av)) (callM P (calleeM s f c.args.toList) (fun ys rv outs => boxOuts ys outs = true ∧ rv.av.isOwner = false ∧ K (put (setOuts s ys outs) d rv.av)))
    | _ => False
  | _, _ => False
def storeSide (s : St) (op : Op) : Prop := match op with
  | .store _ a x => lends s [x] = [] ∧ ptrTold s (sv s a).2 = true
  | _ => True
def aopsD (P : Program) (n : Nat) (m : Bool) (ops : Array Oper) : List Oper → St → (St → Prop) → Prop
  | [], s, K => K s
  | o :: r, s, K => match calmB ops o.op with
    | true => match m && callB o with
      | true => aopC P n o s (fun s' => aopsD P n m ops r s' K)
      | false => (m = true → lightAt s o.op) ∧ aopD P n ops o s (fun s' => aopsD P n m ops r s' K)
    | false => match storeU o with
      | true => storeSide s o.op ∧ aop P n ops o s (fun s' => aopsD P n m ops r s' K)
      | false => aop P n ops o s (fun s' => aopsD P n m ops r s' K)
theorem abytes_refs {P : Program} {src dst : TypeId} {x : Prop × AV} {j : Nat} : (abytes P src dst x).2.refs j = false := by
  unfold abytes
  split <;> rfl
theorem acalm_refs {P : Program} {s : St} (hw : Wf s) {op : Op} {r : AV} (h : acalm P s op r) {j : Nat} (hr : r.refs j = true) : (s j).isOwner = true := by
  cases op with
  | convert src dst x =>
    simp only [acalm] at h
    split at h
    · obtain ⟨_, rfl⟩ := h; rw [abytes_refs] at hr; cases hr
    · obtain ⟨_, rfl⟩ := h; exact aval2_refs hw _ hr
  | alloc t =>
    simp only [acalm] at h
    split at h
    · subst h; cases hr
    · exact h.elim
  | box t x =>
    simp only [acalm] at h
    split at h
    · obtain ⟨_, rfl⟩ := h; cases hr
    · exact h.elim
  | buildSlice t len parts =>
    obtain ⟨_, rfl⟩ := h
    simp only [abuildSlice] at hr
    split at hr <;> cases hr
  | call c =>
    simp only [acalm] at h
    split at h
    · obtain ⟨rv, _, _, rfl⟩ := h
      cases rv <;> cases hr
    · obtain ⟨_, rfl⟩ := h; exact aval2_refs hw _ hr
  | _ => obtain ⟨_, rfl⟩ := h; exact aval2_refs hw _ hr
theorem acalmG_refs {P : Program} {s : St} (hw : Wf s) {e : Bool} {op : Op} {r : AV} (h : acalmG P s e op r) {j : Nat} (hr : r.refs j = true) : (s j).isOwner = true := by
  cases op with
  | call c =>
    simp only [acalmG] at h
    split at h
    · obtain ⟨rv, _, _, rfl⟩ := callG_of h
      cases rv <;> cases hr
    · obtain ⟨_, _, rfl⟩ := h; exact aval2_refs (P := P) (op := .call c) hw hr
  | buildSlice t len parts =>
    cases e with
    | true => exact acalm_refs (op := .buildSlice t len parts) hw h hr
    | false => obtain rfl := h; cases hr
  | _ => obtain ⟨_, _, rfl⟩ := h; exact aval2_refs hw _ hr
theorem calm_wf {P : Program} {n : Nat} {ops : Array Oper} {o : Oper} {s s' : St} (hw : Wf s) (h : calmStep P n ops o s s') : Wf s' := by
  obtain ⟨d, r, _, _, _, rfl, hv⟩ := h
  refine put_wf hw (fun j hj => ?_)
  cases hg : o.guard with
  | none => rw [hg] at hv; exact acalm_refs hw hv hj
  | some g => rw [hg] at hv; obtain ⟨e, _, hv⟩ := hv; exact acalmG_refs hw hv hj
theorem freeze_wf {s : St} (hw : Wf s) (i : Nat) : Wf (freeze s i) := by
  intro j k hjk
  have hj' : (s j).refs k = true := by
    unfold freeze at hjk
    by_cases hj : j = i
    · subst hj
      simp only [if_pos] at hjk
      rcases frozenAV_own (a := s j) with (⟨e, size, xs, hs⟩ | ⟨cs, hs⟩) | hs
      · rw [hs] at hjk; cases hjk
      · rw [hs] at hjk; cases hjk
      · rw [hs] at hjk; exact hjk
    · simp only [if_neg hj] at hjk
      cases hr : (s j).refs i with
      | true => rw [hr] at hjk; simp only [if_true] at hjk; rw [thawRef_refs] at hjk; cases hjk
      | false => rw [hr] at hjk; exact hjk
  have hko := hw j k hj'
  have hki : k ≠ i := by
    rintro rfl
    unfold freeze at hjk
    by_cases hj : j = k
    · subst hj; have := refs_owner hj'; rw [this] at hko; cases hko
    · simp only [if_neg hj, hj', if_true, thawRef_refs] at hjk; cases hjk
  have : freeze s i k = s k := by
    unfold freeze
    cases hr : (s k).refs i with
    | true => rw [refs_owner hr] at hko; cases hko
    | false => simp [hki]
  rw [this]; exact hko
theorem freezeL_wf : ∀ (l : List Nat) {s : St}, Wf s → Wf (freezeL s l)
  | [], _, h => h
  | i :: r, _, h => freezeL_wf r (freeze_wf h i)
theorem owner_wf {s : St} (hw : Wf s) {i : Nat} {r : AV} (ho : (s i).isOwner = true) (hr : r.isOwner = true) : Wf (fun j => if j = i then r else s j) := by
  intro j k hjk
  have hj' : (s j).refs k = true := by
    by_cases hj : j = i
    · subst hj
      simp only [if_pos] at hjk
      have := refs_owner hjk
      rw [hr] at this; cases this
    · simpa only [if_neg hj] using hjk
  have := hw j k hj'
  by_cases hk : k = i
  · simp only [if_pos hk]; exact hr
  · simp only [if_neg hk]; exact this
theorem unlink_wf {s : St} (hw : Wf s) (i off m : Nat) : Wf (unlink s i off m) := by
  intro j k hjk
  rcases unlink_or s i off m j with e | e <;> rw [e] at hjk
  · have := hw j k hjk
    rw [unlink_owner this]; exact this
  · cases hjk
theorem linkStore_wf {P : Program} {s : St} (hw : Wf s) {t : TypeId} {i off d : Nat} (h : (linkStore P s t i off d).1) : Wf (linkStore P s t i off d).2 := by
  unfold linkStore at h ⊢
  split at h
  · rename_i cs hk hs
    obtain ⟨_, hd, hf⟩ := h
    have hso : (s i).isOwner = true := by rw [hs]; rfl
    have hu := unlink_wf hw i off 1
    have hown : ∀ k, (s k).isOwner = true → (if k = i then AV.box (cs.set off .any) else if k = LK i off then AV.link i off d else unlink s i off 1 k).isOwner = true := by
      intro k hk
      by_cases h1 : k = i
      · simp only [if_pos h1]; rfl
      · have h2 : k ≠ LK i off := by rintro rfl; rw [free_owner hf] at hk; cases hk
        simp only [if_neg h1, if_neg h2]
        rw [unlink_owner hk]; exact hk
    intro j k hjk
    refine hown k ?_
    by_cases h1 : j = i
    · simp only [if_pos h1] at hjk; cases hjk
    · by_cases h2 : j = LK i off
      · simp only [if_neg h1, if_pos h2, AV.refs, Bool.or_eq_true, beq_iff_eq] at hjk
        rcases hjk with rfl | rfl
        · exact hso
        · exact hd
      · simp only [if_neg h1, if_neg h2] at hjk
        rcases unlink_or s i off 1 j with e | e <;> rw [e] at hjk
        · exact hw j k hjk
        · cases hjk
  · exact h.elim
theorem astore_wf {P : Program} {s : St} (hw : Wf s) {t : TypeId} {x y : Prop × AV} : Wf (astore P s t x y).2 := by
  unfold astore
  split
  · split
    · rename_i hs
      dsimp only
      split
      · exact owner_wf hw (by rw [hs]; rfl) rfl
      · exact owner_wf (unlink_wf hw _ _ _) (by rw [unlink_owner (by rw [hs]; rfl), hs]; rfl) rfl
    · exact hw
  · split
    · rename_i hs; exact owner_wf hw (by rw [hs]; rfl) rfl
    · exact hw
  · exact hw
theorem aappend_wf {P : Program} {s : St} (hw : Wf s) {t t' : TypeId} {x y : Prop × AV} : Wf (aappend P s t t' x y).2.1 ∧ ∀ j, (aappend P s t t' x y).2.2.refs j = false := by
  unfold aappend
  split
  · unfold aappendS
    split
    · exact ⟨put_wf (v := .dead) hw (fun j h => (by cases h)), fun _ => rfl⟩
    · exact ⟨hw, fun _ => rfl⟩
    · exact ⟨hw, fun _ => rfl⟩
  unfold aappend0
  split
  · split
    · exact ⟨put_wf (v := .dead) hw (fun j h => (by cases h)), fun _ => rfl⟩
    · exact ⟨hw, fun _ => rfl⟩
    · split <;> exact ⟨hw, fun _ => rfl⟩
    · exact ⟨hw, fun _ => rfl⟩
  · exact ⟨hw, fun _ => rfl⟩
theorem aclear_wf {P : Program} {s : St} (hw : Wf s) {t : TypeId} {x : Prop × AV} : Wf (aclear P s t x).2 := by
  unfold aclear
  split
  · split
    · rename_i hs; exact owner_wf hw (by rw [hs]; rfl) rfl
    · exact hw
  · exact hw
theorem amapUpdate_wf {P : Program} {s : St} (hw : Wf s) {t : TypeId} {m k x : Prop × AV} : Wf (amapUpdate P s t m k x).2 := by
  unfold amapUpdate
  split
  · split
    · rename_i hs
      split
      · exact owner_wf hw (by rw [hs]; rfl) rfl
      · exact hw
    · exact hw
  · exact hw
theorem setOuts_wf {s : St} (hw : Wf s) {f : Operand} {args : List Operand} {p : Prop} {g : FuncId} {ys : List (AV × Option Nat)} {outs : List AV} (h : calleeM s f args = (p, some (g, ys))) (hnd : (slotsOf ys).Nodup) (hf : outsFit (ys.map (·.1)) outs = true) : Wf (setOuts s ys outs) := by
  obtain ⟨hl, hfit⟩ := outsFit_at hf
  refine (setOuts_after ys outs s hw hnd (by simpa using hl) (fun j x i o h1 h2 => ?_)).wf hw
  obtain ⟨hs, ho⟩ := calleeM_slot h x i (List.mem_of_getElem? h1)
  have hff := hfit j x o (by rw [List.getElem?_map, h1]; rfl) h2
  rw [hs]
  refine ⟨hff, ho, ?_⟩
  cases x <;> cases o <;> first | rfl | (simp [outFits] at hff)
theorem astep_exact {P : Program} {n : Nat} {s : St} {op : Op} {dst : Option Tmp} {K : St → Prop} (hw : Wf s) (h : astep P n s op dst K) :
    ∃ s', astep P n s op dst (fun t => t = s') ∧ K s' ∧ Wf s' := by
  have nr : ∀ j, AV.refs j .dead = true → (s j).isOwner = true := fun j h => by cases h
  have plain : ∀ d, (aval2 P s op).1 ∧ d < n ∧ K (put s d (aval2 P s op).2) → ∃ s', ((aval2 P s op).1 ∧ d < n ∧ put s d (aval2 P s op).2 = s') ∧ K s' ∧ Wf s' :=
    fun d h => ⟨_, ⟨h.1, h.2.1, rfl⟩, h.2.2, put_wf hw (fun j hj => aval2_refs hw _ hj)⟩
  cases dst with
  | none =>
    cases op <;> try (exact h.elim)
    case store t addr x =>
      simp only [astep] at h ⊢
      split at h
      · rename_i e
        exact ⟨_, ⟨h.1, h.2.1, h.2.2.1, rfl⟩, h.2.2.2, linkStore_wf hw h.2.2.1⟩
      · rename_i e
        exact ⟨_, ⟨h.1, h.2.1, rfl⟩, h.2.2, astore_wf (freezeL_wf _ hw)⟩
    case mapUpdate t m k x => exact ⟨_, ⟨h.1, rfl⟩, h.2, amapUpdate_wf hw⟩
    case call c =>
      simp only [astep] at h ⊢
      split at h
      · split at h
        · exact ⟨_, ⟨h.1, rfl⟩, h.2, aclear_wf hw⟩
        · exact h.elim
      · exact h.elim
    case makeMap t r => cases r <;> exact h.elim
    case assign x => cases x <;> exact h.elim
    all_goals exact h.elim
  | some d =>
    cases op <;> try (exact plain d h)
    case alloc t =>
      simp only [astep] at h ⊢
      cases hz : zeroOf P t with
      | none => rw [hz] at h; exact h.elim
      | some cs => rw [hz] at h; exact ⟨_, ⟨h.1, rfl⟩, h.2, put_wf hw (fun j hj => by cases hj)⟩
    case makeMap t r =>
      cases r with
      | none => exact ⟨_, ⟨h.1, rfl⟩, h.2, put_wf hw (fun j hj => by cases hj)⟩
      | some r => exact plain d h
    case convert src dst x =>
      simp only [astep] at h ⊢
      cases hsl : isSliceT P dst with
      | false => rw [hsl] at h; exact plain d h
      | true => rw [hsl] at h; exact ⟨_, ⟨h.1, h.2.1, rfl⟩, h.2.2, put_wf hw (fun j hj => by rw [abytes_refs] at hj; cases hj)⟩
    case box t x =>
      simp only [astep] at h ⊢
      split at h
      · exact ⟨_, ⟨h.1, h.2.1, rfl⟩, h.2.2, put_wf (freezeL_wf _ hw) (fun j hj => by cases hj)⟩
      · exact h.elim
    case build t parts =>
      refine ⟨_, ⟨h.1, h.2.1, rfl⟩, h.2.2, put_wf (freezeL_wf _ hw) (fun j hj => ?_)⟩
      simp only [abuild] at hj
      split at hj <;> cases hj
    case buildSlice t len parts =>
      refine ⟨_, ⟨h.1, h.2.1, rfl⟩, h.2.2, put_wf (freezeL_wf _ hw) (fun j hj => ?_)⟩
      simp only [abuildSlice] at hj
      split at hj <;> cases hj
    case assign x =>
      cases x with
      | tmp t =>
        simp only [astep] at h ⊢
        cases hs : s t with
        | own e size xs =>
          rw [hs] at h
          exact ⟨_, ⟨h.1, rfl⟩, h.2, put_wf (put_wf hw nr) (fun j hj => by cases hj)⟩
        | mp c bs es =>
          rw [hs] at h
          exact ⟨_, ⟨h.1, rfl⟩, h.2, put_wf (put_wf hw nr) (fun j hj => by cases hj)⟩
        | view i lo len wh =>
          rw [hs] at h
          dsimp only at h ⊢
          have hvr : ∀ j, (AV.view i lo len wh).refs j = true → (s j).isOwner = true := fun j hj => hw t j (by rw [hs]; exact hj)
          cases hid : decide (i = d) with
          | false =>
            rw [hid] at h
            exact ⟨_, ⟨h.1, rfl⟩, h.2, put_wf hw hvr⟩
          | true =>
            rw [hid] at h
            obtain ⟨hd, h⟩ := h
            dsimp only
            unfold aselfView at h ⊢
            split at h
            · split at h
              · exact ⟨_, ⟨hd, rfl⟩, h, put_wf (put_wf hw nr) (fun j hj => by cases hj)⟩
              · exact ⟨_, ⟨hd, rfl⟩, h, put_wf (freeze_wf hw _) (fun j hj => by cases hj)⟩
            · exact h.elim
        | _ =>
          rw [hs] at h
          exact ⟨_, ⟨h.1, rfl⟩, h.2, put_wf hw (fun j hj => look_refs hw _ hj)⟩
      | _ => exact plain d h
    case call c =>
      simp only [astep] at h ⊢
      split at h
      · rename_i f hf0
        have hM : (withC s (lendsC s c.args.toList) fun s => callM P (calleeM s f c.args.toList) (fun xs r outs => d < n ∧ K (put (setOuts s xs outs) d r.av))) → ∃ s', (withC s (lendsC s c.args.toList) fun s => callM P (calleeM s f c.args.toList) (fun xs r outs => d < n ∧ put (setOuts s xs outs) d r.av = s')) ∧ K s' ∧ Wf s' := by
          intro h
          have hw := freezeL_wf (lendsC s c.args.toList) hw
          unfold withC at h ⊢
          generalize freezeL s (lendsC s c.args.toList) = s at hw h ⊢
          unfold callM at h ⊢
          split at h
          · rename_i pp g ys e0
            obtain ⟨hp, hnl, hnd, r, outs, hc, hd, hk⟩ := h
            refine ⟨_, ?_, hk, put_wf (setOuts_wf hw e0 hnd hc.2.1) (fun j hj => by cases r <;> cases hj)⟩
            dsimp only; rw [e0]
            exact ⟨hp, hnl, hnd, r, outs, hc, hd, rfl⟩
          · exact h.elim
        replace hM : (callR P (calleeR s f c.args.toList) (fun r => d < n ∧ K (put s d r.av)) (withC s (lendsC s c.args.toList) fun s => callM P (calleeM s f c.args.toList) (fun xs r outs => d < n ∧ K (put (setOuts s xs outs) d r.av)))) → ∃ s', (callR P (calleeR s f c.args.toList) (fun r => d < n ∧ put s d r.av = s') (withC s (lendsC s c.args.toList) fun s => callM P (calleeM s f c.args.toList) (fun xs r outs => d < n ∧ put (setOuts s xs outs) d r.av = s'))) ∧ K s' ∧ Wf s' := by
          intro h
          unfold callR at h ⊢
          split at h
          · obtain ⟨hp, ⟨r, h1, hfl, h2, h3⟩ | h⟩ := h
            · exact ⟨_, ⟨hp, .inl ⟨r, h1, hfl, h2, rfl⟩⟩, h3, put_wf hw (fun j hj => by cases r <;> cases hj)⟩
            · obtain ⟨s', h1, h2, h3⟩ := hM h
              exact ⟨s', ⟨hp, .inr h1⟩, h2, h3⟩
          · exact hM h
        unfold callS at h ⊢
        split at h
        · obtain ⟨hp, ⟨r, h1, h2, h3⟩ | h⟩ := h
          · have hac : Wf (afterCall s c.args.toList r) := by
              unfold afterCall
              cases r.flat with
              | true => exact hw
              | false => exact freezeL_wf _ hw
            exact ⟨_, ⟨hp, .inl ⟨r, h1, h2, rfl⟩⟩, h3, put_wf hac (fun j hj => by cases r <;> cases hj)⟩
          · obtain ⟨s', h1, h2, h3⟩ := hM h
            exact ⟨s', ⟨hp, .inr h1⟩, h2, h3⟩
        · exact hM h
      · split at h
        · exact ⟨_, ⟨h.1, h.2.1, rfl⟩, h.2.2, put_wf (aappend_wf hw).1 (fun j hj => by rw [(aappend_wf hw).2 j] at hj; cases hj)⟩
        · exact h.elim
      · exact plain d h
theorem aguard_exact {P : Program} {n : Nat} {s : St} {e : Bool} {op : Op} {dst : Option Tmp} {K : St → Prop} (hw : Wf s) (h : aguard P n s e op dst K) :
    ∃ s', aguard P n s e op dst (fun t => t = s') ∧ K s' ∧ Wf s' := by
  cases dst with
  | none => exact h.elim
  | some d =>
    cases op <;> try (exact ⟨_, ⟨h.1, h.2.1, h.2.2.1, rfl⟩, h.2.2.2, put_wf hw (fun j hj => aval2_refs hw _ hj)⟩)
    case buildSlice t len parts =>
      cases e with
      | true => exact ⟨_, ⟨h.1, h.2.1, rfl⟩, h.2.2, put_wf hw (fun j hj => acalm_refs (P := P) (op := .buildSlice t len parts) hw ⟨h.1, rfl⟩ hj)⟩
      | false => exact ⟨_, ⟨h.1, rfl⟩, h.2, put_wf hw (fun j hj => by cases hj)⟩
    case call c =>
      simp only [aguard] at h ⊢
      split at h
      · obtain ⟨r, h1, h3, h4⟩ := callG_exact h
        exact ⟨_, h1 _ ⟨h3, rfl⟩, h4, put_wf hw (fun j hj => by cases r <;> cases hj)⟩
      · exact ⟨_, ⟨h.1, h.2.1, h.2.2.1, rfl⟩, h.2.2.2, put_wf hw (fun j hj => aval2_refs (P := P) (op := .call c) hw hj)⟩
theorem glend_exact {P : Program} {n : Nat} {s : St} {e : Bool} {op : Op} {dst : Option Tmp} {K : St → Prop} (hw : Wf s) (h : glend P n s e op dst K) :
    ∃ s', glend P n s e op dst (fun t => t = s') ∧ K s' ∧ Wf s' := by
  unfold glend at h ⊢
  split at h
  · rename_i d c
    dsimp only at h ⊢
    split at h
    · rename_i f hf
      cases e with
      | false => exact ⟨_, ⟨h.1, rfl⟩, h.2, put_wf hw (fun j hj => by cases hj)⟩
      | true =>
        dsimp only at h ⊢
        unfold callM at h ⊢
        split at h
        · rename_i pp g ys e0
          obtain ⟨hp, hnl, hnd, r, outs, hc, hd, ho, hk⟩ := h
          exact ⟨_, ⟨hp, hnl, hnd, r, outs, hc, hd, ho, rfl⟩, hk, put_wf (setOuts_wf hw e0 hnd hc.2.1) (fun j hj => by cases r <;> cases hj)⟩
        · exact h.elim
    · exact h.elim
  · exact h.elim
theorem aop_exact {P : Program} {n : Nat} {ops : Array Oper} {o : Oper} {s : St} {K : St → Prop} (hw : Wf s) (h : aop P n ops o s K) :
    ∃ s', aop P n ops o s (fun t => t = s') ∧ K s' ∧ Wf s' := by
  unfold aop at h ⊢
  cases hg : o.guard with
  | none => rw [hg] at h; exact astep_exact hw h
  | some g =>
    rw [hg] at h
    simp only at h ⊢
    cases he : gval ops s g with
    | none => rw [he] at h; exact h.elim
    | some e =>
      rw [he] at h
      simp only at h ⊢
      split at h
      · exact glend_exact hw h
      · exact aguard_exact hw h
def stepD (P : Program) (n : Nat) (m : Bool) (ops : Array Oper) (i : Nat) (s s' : St) : Prop :=
  ∃ o, ops[i]? = some o ∧ match calmB ops o.op with
    | true => match m && callB o with
      | true => calmStep P n ops o s s' ∨ wStep P n o s s'
      | false => calmStep P n ops o s s' ∧ (m = true → lightAt s o.op)
    | false => match storeU o with
      | true => wStep P n o s s'
      | false => aop P n ops o s (fun t => t = s')
theorem stepD_wf {P : Program} {n : Nat} {m : Bool} {ops : Array Oper} {i : Nat} {s s' : St} (hw : Wf s) (h : stepD P n m ops i s s') : Wf s' := by
  obtain ⟨o, _, h⟩ := h
  split at h
  · split at h
    · exact h.elim (calm_wf hw) (wStep_wf hw)
    · exact calm_wf hw h.1
  · split at h
    · exact wStep_wf hw h
    · obtain ⟨s1, _, h2, h3⟩ := aop_exact hw h
      rw [← h2]; exact h3
theorem storeU_spec {o : Oper} (h : storeU o = true) : ∃ t addr x, o.op = .store t addr x ∧ o.guard = none := by
  unfold storeU at h
  split at h
  · rename_i t addr x e
    exact ⟨t, addr, x, e, by simpa using h⟩
  · cases h
theorem callB_spec {o : Oper} (h : callB o = true) : ∃ c f, o.op = .call c ∧ c.callee = .value f ∧ o.guard = none := by
  unfold callB at h
  split at h
  · rename_i c e
    split at h
    · rename_i f hf; exact ⟨c, f, e, hf, by simpa using h⟩
    · cases h
  · cases h
theorem store_wStep {P : Program} {n : Nat} {ops : Array Oper} {o : Oper} {s : St} {K : St → Prop} (hu : storeU o = true) (hl : storeSide s o.op) (h : aop P n ops o s K) : ∃ s', wStep P n o s s' ∧ K s' := by
  obtain ⟨t, addr, x, hop, hg⟩ := storeU_spec hu
  unfold aop at h
  rw [hg] at h
  rw [hop] at h hl
  have hl' : lends s [x] = [] := hl.1
  cases hd : o.dst with
  | some d => rw [hd] at h; exact h.1.elim
  | none =>
    rw [hd] at h
    have hnl : linkable s (sv s addr) (sv s x) = none := by
      cases hlk : linkable s (sv s addr) (sv s x) with
      | none => rfl
      | some y =>
        obtain ⟨p', i', off, d⟩ := y
        obtain ⟨_, _, _, e2, _⟩ := linkable_spec hlk
        simp [lends, e2, lendsOf] at hl'
    simp only [astep, hnl, hl', freezeL] at h
    obtain ⟨h1, h2, h3⟩ := h
    obtain ⟨p, i, v, k1, k2, k3, _⟩ := astore_W h2 hl.2
    refine ⟨_, ⟨[(i, v)], none, ⟨hg, ?_⟩, fun d r h => (by cases h), fun _ => hd, rfl⟩, ?_⟩
    · rw [hop]
      exact ⟨hd, rfl, h1, hl', p, i, v, k1, k2, rfl⟩
    · rw [k3] at h3
      exact h3
theorem aopC_step {P : Program} {n : Nat} {ops : Array Oper} {o : Oper} {s : St} {K : St → Prop} (hc : callB o = true) (h : aopC P n o s K) : ∃ s', (calmStep P n ops o s s' ∨ wStep P n o s s') ∧ K s' := by
  obtain ⟨c, f, hop, hf, hg⟩ := callB_spec hc
  unfold aopC at h
  rw [hop] at h
  cases hd : o.dst with
  | none => rw [hd] at h; exact h.elim
  | some d =>
    rw [hd] at h
    simp only [hf] at h
    obtain ⟨hdn, hno, h⟩ := h
    rcases callS_or h with ⟨r, h1, h2, h3⟩ | h
    · refine ⟨_, .inl ⟨d, r.av, hd, hdn, hno, rfl, ?_⟩, h3⟩
      rw [hg, hop]
      simp only [acalm, hf]
      exact ⟨r, h1, h2, rfl⟩
    · unfold callM at h
      split at h
      · rename_i p g ys e
        obtain ⟨hp, hnl, hnd, r, outs, hA, hbo, hro, hk⟩ := h
        refine ⟨_, .inr ⟨pairs ys outs, some (d, r.av), ⟨hg, ?_⟩, fun d' r' h' => ?_, fun h' => (by cases h'), rfl⟩, ?_⟩
        · rw [hop]
          simp only [hf]
          exact ⟨d, p, g, ys, r, outs, hd, hdn, e, hp, hnl, hnd, hA, hbo, hro, rfl, rfl⟩
        · simp only [Option.some.injEq, Prod.mk.injEq] at h'
          obtain ⟨rfl, rfl⟩ := h'
          exact ⟨hd, hno, hro, fun j => by cases r <;> rfl⟩
        · show K (put (setW s (pairs ys outs)) d r.av)
          rw [← setOuts_setW ys outs s hbo hnd]
          exact hk
      · exact h.elim
theorem chain_of_aopsD {P : Program} {n : Nat} {m : Bool} {ops : Array Oper} {K : St → Prop} : ∀ (l : List Oper) (k : Nat) (s : St), Wf s → (∀ j, l[j]? = ops[k + j]?) → aopsD P n m ops l s K →
    ∃ s', chain (stepD P n m ops) (List.range' k l.length) s s' ∧ K s'
  | [], _, s, _, _, h => ⟨s, rfl, h⟩
  | o :: l, k, s, hw, hl, h => by
    have h0 : ops[k]? = some o := by simpa using (hl 0).symm
    have hnext : ∀ j, l[j]? = ops[(k + 1) + j]? := fun j => by have := hl (j + 1); simpa [Nat.add_assoc, Nat.add_comm 1 j] using this
    simp only [aopsD] at h
    have : ∃ s1, stepD P n m ops k s s1 ∧ aopsD P n m ops l s1 K := by
      split at h
      · rename_i hc
        split at h
        · rename_i hm
          obtain ⟨s1, h1, h2⟩ := aopC_step (ops := ops) (by simp only [Bool.and_eq_true] at hm; exact hm.2) h
          exact ⟨s1, ⟨o, h0, by rw [hc]; simp only [hm]; exact h1⟩, h2⟩
        · rename_i hm
          obtain ⟨s1, h1, h2⟩ := aopD_step h.2
          exact ⟨s1, ⟨o, h0, by rw [hc]; simp only [hm]; exact ⟨h1, h.1⟩⟩, h2⟩
      · rename_i hc
        split at h
        · rename_i hu
          obtain ⟨s1, h1, h2⟩ := store_wStep hu h.1 h.2
          exact ⟨s1, ⟨o, h0, by rw [hc]; simp only [hu]; exact h1⟩, h2⟩
        · rename_i hu
          obtain ⟨s1, h1, h2, _⟩ := aop_exact hw h
          exact ⟨s1, ⟨o, h0, by rw [hc]; simp only [hu]; exact h1⟩, h2⟩
    obtain ⟨s1, h1, h2⟩ := this
    obtain ⟨s', h3, h4⟩ := chain_of_aopsD l (k + 1) s1 (stepD_wf hw h1) hnext h2
    exact ⟨s', ⟨s1, h1, h3⟩, h4⟩
def mixB (m : Bool) (ops : Array Oper) (oi oj : Oper) : Bool :=
  (calmB ops oi.op && calmB ops oj.op && !(m && callB oi && callB oj)) || (storeU oi && !calmB ops oi.op && (m || lightB oj.op) && calmB ops oj.op && !callB oj) || (storeU oj && !calmB ops oj.op && (m || lightB oi.op) && calmB ops oi.op && !callB oi)
def pairOk (m : Bool) (ops : Array Oper) (b : Array Nat) (i j : Nat) : Bool :=
  (b.getD i 0).testBit j ||
  match ops[i]?, ops[j]? with
  | some oi, some oj => mixB m ops oi oj && oj.apart ops oi
  | _, _ => false
def lowDst (o : Oper) : Bool := match o.dst with
  | some d => decide (d < MARK)
  | none => true
theorem lowDst_spec {o : Oper} (h : lowDst o = true) : ∀ d, o.dst = some d → d < MARK := by
  intro d hd
  unfold lowDst at h
  rw [hd] at h
  exact of_decide_eq_true h
def drawOk (m : Bool) (ops : Array Oper) : Bool :=
  let b := Region.before ops
  ops.toList.all lowDst && (List.range ops.size).all fun i =>
    (match ops[i]? with
      | some o => o.after.toList.all fun e => !Region.binds .any e || decide (e.on < i)
      | none => false) &&
    (List.range i).all fun j => pairOk m ops b i j
def wildB (ops : Array Oper) : Bool := ops.toList.any fun o => match o.op with
  | .call c => match c.callee with
    | .value (.tmp _) => callB o
    | _ => false
  | .store _ _ _ => storeU o
  | _ => false
theorem lightM {m : Bool} {s : St} {op : Op} (h : m = true → lightAt s op) (hl : (m || lightB op) = true) : lightAt s op := by
  cases m with
  | true => exact h rfl
  | false => exact lightB_at (by simpa using hl)
theorem mix_comm {P : Program} {n : Nat} {m : Bool} {ops : Array Oper} {i j : Nat} {oi oj : Oper} {s s1 s2 : St} (lwi : ∀ d, oi.dst = some d → d < MARK) (lwj : ∀ d, oj.dst = some d → d < MARK) (hi : ops[i]? = some oi) (hj : ops[j]? = some oj) (hmix : mixB m ops oi oj = true) (hap : oj.apart ops oi = true) (hw : Wf s)
    (h1 : stepD P n m ops j s s1) (h2 : stepD P n m ops i s1 s2) : ∃ s1', stepD P n m ops i s s1' ∧ stepD P n m ops j s1' s2 := by
  obtain ⟨o1, ho1, h1⟩ := h1
  rw [hj] at ho1; injection ho1 with ho1; subst ho1
  obtain ⟨o2, ho2, h2⟩ := h2
  rw [hi] at ho2; injection ho2 with ho2; subst ho2
  obtain ⟨a1, a2, a3⟩ := Oper.apart_spec hap
  have b3 : ∀ d, oi.dst = some d → oj.dst ≠ some d := fun d h h' => a2 d h' h
  unfold mixB at hmix
  rw [Bool.or_eq_true, Bool.or_eq_true] at hmix
  rcases hmix with (hmix | hmix) | hmix
  · simp only [Bool.and_eq_true, Bool.not_eq_true'] at hmix
    obtain ⟨⟨ci, cj⟩, hcc⟩ := hmix
    rw [cj] at h1
    rw [ci] at h2
    cases hmi : m && callB oi with
    | false =>
      rw [hmi] at h2
      obtain ⟨h2, l2⟩ := h2
      cases hmj : m && callB oj with
      | false =>
        rw [hmj] at h1
        obtain ⟨h1, l1⟩ := h1
        obtain ⟨s1', k1, k2⟩ := calm_comm lwj lwi hap hw h1 h2
        have ag : ∀ {t t' : St} {o o' : Oper} {x : Operand}, Wf t → calmStep P n ops o t t' → (∀ d, o.dst = some d → d < MARK) → (∀ d, o.dst = some d → d ∉ o'.looksAt ops) → x ∈ o'.op.operands → AgreeSh t t' x := by
          rintro t t' o o' x hwt ⟨d, r, hd, hdn, hno, rfl, _⟩ hml ha hx
          have := agree_put (r := r) hwt hno (hml d hd) (ops_apart o' d (ha d hd) x hx)
          cases x with
          | tmp u => exact ⟨.inl this.1, fun b hb => .inl (this.2.1 b hb)⟩
          | _ => trivial
        refine ⟨s1', ⟨oi, hi, ?_⟩, ⟨oj, hj, ?_⟩⟩
        · rw [ci, hmi]
          exact ⟨k1, fun hm => lightAt_sh (l2 hm) (fun x hx => (ag hw h1 lwj a1 hx).symm)⟩
        · rw [cj, hmj]
          exact ⟨k2, fun hm => lightAt_sh (l1 hm) (fun x hx => ag hw k1 lwi a3 hx)⟩
      | true =>
        have hm : m = true := by rw [Bool.and_eq_true] at hmj; exact hmj.1
        rw [hmj] at h1
        rcases h1 with h1 | h1
        · obtain ⟨s1', k1, k2⟩ := calm_comm lwj lwi hap hw h1 h2
          have hla : lightAt s oi.op := by
            obtain ⟨d, r, hd, hdn, hno, rfl, _⟩ := h1
            refine lightAt_sh (l2 hm) (fun x hx => ?_)
            have := agree_put (r := r) hw hno (lwj d hd) (ops_apart oi d (a1 d hd) x hx)
            refine AgreeSh.symm ?_
            cases x with
            | tmp u => exact ⟨.inl this.1, fun b hb => .inl (this.2.1 b hb)⟩
            | _ => trivial
          exact ⟨s1', ⟨oi, hi, by rw [ci, hmi]; exact ⟨k1, fun _ => hla⟩⟩, ⟨oj, hj, by rw [cj, hmj]; exact .inl k2⟩⟩
        · obtain ⟨s1', k1, k2, k3⟩ := write_light lwi (ol := oi) (ow := oj) a3 a1 b3 hw h1 h2 (l2 hm)
          exact ⟨s1', ⟨oi, hi, by rw [ci, hmi]; exact ⟨k1, fun _ => k2⟩⟩, ⟨oj, hj, by rw [cj, hmj]; exact .inr k3⟩⟩
    | true =>
      have hm : m = true := by rw [Bool.and_eq_true] at hmi; exact hmi.1
      have hmj : (m && callB oj) = false := by
        rw [hmi, Bool.true_and] at hcc
        rw [hcc, Bool.and_false]
      rw [hmi] at h2
      rw [hmj] at h1
      obtain ⟨h1, l1⟩ := h1
      rcases h2 with h2 | h2
      · obtain ⟨s1', k1, k2⟩ := calm_comm lwj lwi hap hw h1 h2
        have hla : lightAt s1' oj.op := by
          obtain ⟨d, r, hd, hdn, hno, rfl, _⟩ := k1
          refine lightAt_sh (l1 hm) (fun x hx => ?_)
          have := agree_put (r := r) hw hno (lwi d hd) (ops_apart oj d (a3 d hd) x hx)
          cases x with
          | tmp u => exact ⟨.inl this.1, fun b hb => .inl (this.2.1 b hb)⟩
          | _ => trivial
        exact ⟨s1', ⟨oi, hi, by rw [ci, hmi]; exact .inl k1⟩, ⟨oj, hj, by rw [cj, hmj]; exact ⟨k2, fun _ => hla⟩⟩⟩
      · obtain ⟨s1', k1, k2, k3⟩ := light_write lwj (ol := oj) (ow := oi) a1 a3 a2 hw h1 (l1 hm) h2
        exact ⟨s1', ⟨oi, hi, by rw [ci, hmi]; exact .inr k1⟩, ⟨oj, hj, by rw [cj, hmj]; exact ⟨k2, fun _ => k3⟩⟩⟩
  · simp only [Bool.and_eq_true, Bool.not_eq_true'] at hmix
    obtain ⟨⟨⟨⟨ui, ci⟩, lj⟩, cj⟩, hcb⟩ := hmix
    rw [cj] at h1
    rw [ci] at h2
    simp only [ui] at h2
    have hmj : (m && callB oj) = false := by rw [hcb, Bool.and_false]
    simp only [hmj] at h1
    obtain ⟨s1', k1, k2, k3⟩ := light_write lwj (ol := oj) (ow := oi) a1 a3 a2 hw h1.1 (lightM h1.2 lj) h2
    exact ⟨s1', ⟨oi, hi, by rw [ci]; simp only [ui]; exact k1⟩, ⟨oj, hj, by rw [cj]; simp only [hmj]; exact ⟨k2, fun _ => k3⟩⟩⟩
  · simp only [Bool.and_eq_true, Bool.not_eq_true'] at hmix
    obtain ⟨⟨⟨⟨uj, cj⟩, li⟩, ci⟩, hcb⟩ := hmix
    rw [cj] at h1
    rw [ci] at h2
    simp only [uj] at h1
    have hmi : (m && callB oi) = false := by rw [hcb, Bool.and_false]
    simp only [hmi] at h2
    obtain ⟨s1', k1, k2, k3⟩ := write_light lwi (ol := oi) (ow := oj) a3 a1 b3 hw h1 h2.1 (lightM h2.2 li)
    exact ⟨s1', ⟨oi, hi, by rw [ci]; simp only [hmi]; exact ⟨k1, fun _ => k2⟩⟩, ⟨oj, hj, by rw [cj]; simp only [uj]; exact k3⟩⟩
theorem mask_inner (ops : Array Oper) (acc : Array Nat) (k : Nat) (hacc : ∀ i j, (acc.getD i 0).testBit j = true → Waits ops i j) {o : Oper} (ho : ops[k]? = some o) :
    ∀ (l : List Edge) (s : Nat), (∀ e ∈ l, e ∈ o.after) → (∀ j, s.testBit j = true → Waits ops k j) →
      ∀ j, (l.foldl (fun s e => if Region.binds .any e then s ||| 2 ^ e.on ||| acc.getD e.on 0 else s) s).testBit j = true → Waits ops k j
  | [], s, _, hs, j, h => hs j h
  | e :: l, s, hl, hs, j, h => by
    refine mask_inner ops acc k hacc ho l _ (fun x hx => hl x (by simp [hx])) (fun j hj => ?_) j h
    dsimp only at hj
    split at hj
    · rename_i hb
      rw [Nat.testBit_or, Nat.testBit_or, Bool.or_eq_true, Bool.or_eq_true] at hj
      rcases hj with (hj | hj) | hj
      · exact hs j hj
      · rw [Nat.testBit_two_pow] at hj
        obtain rfl := of_decide_eq_true hj
        exact .edge ho (hl e (by simp)) hb
      · exact .far ho (hl e (by simp)) hb (hacc _ _ hj)
    · exact hs j hj
theorem getD_push (acc : Array Nat) (v i : Nat) : (acc.push v).getD i 0 = if i = acc.size then v else acc.getD i 0 := by
  simp only [Array.getD_eq_getD_getElem?, Array.getElem?_push]
  split <;> simp
theorem before_waits (ops : Array Oper) (i j : Nat) (h : ((Region.before ops).getD i 0).testBit j = true) : Waits ops i j := by
  have key : ∀ (l : List Oper) (acc : Array Nat), (∀ m, l[m]? = ops[acc.size + m]?) → (∀ i j, (acc.getD i 0).testBit j = true → Waits ops i j) →
      ∀ i j, ((l.foldl (fun acc o => acc.push (o.after.foldl (fun s e => if Region.binds .any e then s ||| 2 ^ e.on ||| acc.getD e.on 0 else s) 0)) acc).getD i 0).testBit j = true → Waits ops i j := by
    intro l
    induction l with
    | nil => intro acc _ hacc i j h; exact hacc i j h
    | cons o l ih =>
      intro acc hl hacc i j h
      have h0 : ops[acc.size]? = some o := by simpa using (hl 0).symm
      refine ih _ (fun m => by have := hl (m + 1); simpa [Nat.add_assoc, Nat.add_comm 1 m] using this) (fun i j hij => ?_) i j h
      rw [getD_push] at hij
      split at hij
      · rename_i hi
        subst hi
        rw [← Array.foldl_toList] at hij
        exact mask_inner ops acc acc.size hacc h0 o.after.toList 0 (fun e he => by simpa using he) (fun j hj => by simp at hj) j hij
      · exact hacc i j hij
  unfold Region.before at h
  rw [← Array.foldl_toList] at h
  exact key ops.toList #[] (fun m => by simp) (fun i j hij => by simp at hij) i j h
end Go.Ab
/-
  Code over abstract slots; the contract of a function out of its code.
-/
namespace Go.Ab
open Go Go.RowKit
set_option linter.unusedSectionVars false
variable [Amb]
section
variable {P : Program} {S0 : Env} {w0 w : World} {n : Nat} {s : St} {a : Act}
theorem acalm_ok (hR : Rel S0 w0 n s a w) (o : Oper) {d : Nat} {r : AV} (hdst : o.dst = some d) (hd : S0.m ≤ d ∧ d < n) (h : acalm P s o.op r) {K' : Act → World → Prop} {Q : Exit → Act → World → Prop}
    (hK : ∀ a' w', Rel S0 w0 n (Ab.put s d r) a' w' → K' a' w') : o.wp P a w K' Q := by
  have plain : (aval2 P s o.op).1 ∧ r = (aval2 P s o.op).2 → o.wp P a w K' Q := by
    rintro ⟨hp, rfl⟩
    exact value_step hR hd hdst (aval2_ok hR o hp) (fun j hj => aval2_refs hR.wf _ hj) hK
  obtain ⟨dst, op, type, pos, after, guard⟩ := o
  dsimp only at h plain hdst
  subst hdst
  cases op <;> try (exact plain h)
  case alloc t =>
    simp only [acalm] at h
    cases hz : zeroOf P t with
    | none => rw [hz] at h; exact h.elim
    | some cs =>
      rw [hz] at h
      simp only at h
      subst h
      exact astep_ok (P := P) (K := fun s' => s' = Ab.put s d (.box cs)) hR _ (fun d' h' => by injection h' with h'; subst h'; exact hd.1) (by simp only [astep, hz]; exact ⟨hd.2, trivial⟩) (fun s' a' w' hR' hs' => by subst hs'; exact hK a' w' hR')
  case box t x =>
    simp only [acalm] at h
    split at h
    · rename_i p xv e
      obtain ⟨hp, rfl⟩ := h
      obtain ⟨e1, e2⟩ := uv_of_sv e
      exact astep_ok (P := P) (K := fun s' => s' = Ab.put s d (.box xv.cells)) hR _ (fun d' h' => by injection h' with h'; subst h'; exact hd.1) (by simp only [astep, e1, e2, freezeL]; exact ⟨hp, hd.2, trivial⟩) (fun s' a' w' hR' hs' => by subst hs'; exact hK a' w' hR')
    · exact h.elim
  case convert src dst x =>
    simp only [acalm] at h
    cases hsl : isSliceT P dst with
    | false => rw [hsl] at h; exact plain h
    | true =>
      rw [hsl] at h
      obtain ⟨hp, rfl⟩ := h
      obtain ⟨r, w', hrun, hR'⟩ := abytes_ok (P := P) hR hd (hR.sv x) hp
      unfold Oper.wp
      have hx : (execOp a.eval ({ dst := some d, op := .convert src dst x, type := type, pos := pos, after := after, guard := guard } : Oper)).run P w = .ok (.value r) w' := by
        simp only [execOp, Sem.run_bind, hrun, Result.andThen_ok, Sem.run_pure]
      rw [hx]
      exact hK _ _ hR'
  case buildSlice t len parts =>
    obtain ⟨hp, rfl⟩ := h
    obtain ⟨v, w', hrun, hR'⟩ := abuildSlice_ok (P := P) (f := Ab.sv s) hR (fun x _ => hR.sv x.2) hd hp
    unfold Oper.wp
    have hx : (execOp a.eval ({ dst := some d, op := .buildSlice t len parts, type := type, pos := pos, after := after, guard := guard } : Oper)).run P w = .ok (.value v) w' := by
      simp only [execOp, Sem.run_bind, hrun, Result.andThen_ok, Sem.run_pure]
    rw [hx]
    exact hK _ _ hR'
  case call c =>
    obtain ⟨callee, args, argTypes⟩ := c
    simp only [acalm] at h
    split at h
    · rename_i f
      obtain ⟨rv, hc, hfl, rfl⟩ := h
      have hac : afterCall s args.toList rv = s := by
        unfold afterCall
        rw [Bool.or_eq_true] at hfl
        cases hf : rv.flat with
        | true => rfl
        | false =>
          rcases hfl with h | h
          · rw [hf] at h; cases h
          · have : lends s args.toList = [] := by simpa using h
            simp only [this]; rfl
      refine acall_ok (P := P) hR hc ⟨argTypes, rfl⟩ hd rfl (fun a' w' hR' => ?_)
      rw [hac] at hR'
      exact hK _ _ hR'
    · exact plain h
theorem acalmG_ok (hR : Rel S0 w0 n s a w) (o : Oper) {d : Nat} {r : AV} {e : Bool} (hdst : o.dst = some d) (hd : S0.m ≤ d ∧ d < n) (h : acalmG P s e o.op r) {K' : Act → World → Prop} {Q : Exit → Act → World → Prop}
    (hK : ∀ a' w', Rel S0 w0 n (Ab.put s d r) a' w' → K' a' w') : if e then o.wp P a w K' Q else K' (a.put o.dst undef) w := by
  refine aguard_ok (P := P) (K := fun s' => s' = Ab.put s d r) hR o (fun d' h' => by rw [hdst] at h'; injection h' with h'; subst h'; exact hd.1) ?_ (fun s' a' w' hR' hs' => by subst hs'; exact hK a' w' hR')
  obtain ⟨dst, op, type, pos, after, guard⟩ := o
  dsimp only at h hdst ⊢
  subst hdst
  cases op <;> try (obtain ⟨h1, h2, rfl⟩ := h; exact ⟨h1, h2, hd.2, rfl⟩)
  case buildSlice t len parts =>
    cases e with
    | true => obtain ⟨h1, rfl⟩ := h; exact ⟨h1, hd.2, rfl⟩
    | false => obtain rfl := h; exact ⟨hd.2, rfl⟩
  case call c =>
    obtain ⟨callee, args, ts⟩ := c
    cases callee with
    | value f =>
      obtain ⟨rv, h1, h2⟩ := callG_exact h
      exact h1 _ ⟨hd.2, by rw [h2]⟩
    | _ =>
      obtain ⟨h1, h2, rfl⟩ := h
      exact ⟨h1, h2, hd.2, rfl⟩
theorem stepD_ok {m : Bool} {ops : Array Oper} {i : Nat} {s' : St} (hdm : ∀ o ∈ ops.toList, ∀ d, o.dst = some d → S0.m ≤ d) (hR : Rel S0 w0 n s a w) (h : stepD P n m ops i s s') {K' : Act → World → Prop} {Q : Exit → Act → World → Prop}
    (hK : ∀ a' w', Rel S0 w0 n s' a' w' → K' a' w') : wpOp P ops Q i K' a w := by
  obtain ⟨o, ho, h⟩ := h
  have hom := hdm o (by have := Array.mem_of_getElem? ho; simpa using this)
  unfold wpOp
  rw [ho]
  simp only
  have calm : calmStep P n ops o s s' → if Region.wanted o (yielded ops a.tmps) then o.wp P a w K' Q ∨ (o.asks P a w ∧ LetsOut Q) else K' (a.put o.dst undef) w := by
    rintro ⟨d, r, hdst, hd, _, rfl, hv⟩
    cases hg : o.guard with
    | none =>
      rw [hg] at hv
      rw [if_pos (by simp [Region.wanted, hg])]
      exact .inl (acalm_ok (P := P) hR o hdst ⟨hom d hdst, hd⟩ hv hK)
    | some g =>
      rw [hg] at hv
      obtain ⟨e, he, hv⟩ := hv
      have hw : Region.wanted o (yielded ops a.tmps) = e := by
        simp only [Region.wanted, hg]
        exact gval_ok hR he
      have := acalmG_ok (P := P) (Q := Q) hR o hdst ⟨hom d hdst, hd⟩ hv hK
      rw [hw]
      cases e with
      | true => exact .inl this
      | false => exact this
  have wr : wStep P n o s s' → if Region.wanted o (yielded ops a.tmps) then o.wp P a w K' Q ∨ (o.asks P a w ∧ LetsOut Q) else K' (a.put o.dst undef) w := by
    intro hw
    have hg : o.guard = none := by obtain ⟨_, _, h, _⟩ := hw; exact h.1
    rw [if_pos (by simp [Region.wanted, hg])]
    exact .inl (wStep_ok hR o hom hw hK)
  split at h
  · split at h
    · exact h.elim calm wr
    · exact calm h.1
  · split at h
    · exact wr h
    · unfold aop at h
      cases hg : o.guard with
      | none =>
        rw [hg] at h
        rw [if_pos (by simp [Region.wanted, hg])]
        exact .inl (astep_ok (P := P) hR o hom h (fun s1 a' w' hR' hs => by subst hs; exact hK a' w' hR'))
      | some g =>
        rw [hg] at h
        simp only at h
        cases he : gval ops s g with
        | none => rw [he] at h; exact h.elim
        | some e =>
          rw [he] at h
          simp only at h
          have hw : Region.wanted o (yielded ops a.tmps) = e := by
            simp only [Region.wanted, hg]
            exact gval_ok hR he
          have := gstep_ok (P := P) (Q := Q) hR o hom h (fun s1 a' w' hR' hs => by subst hs; exact hK a' w' hR')
          rw [hw]
          cases e with
          | true => exact .inl this
          | false => exact this
theorem any_ok {m : Bool} {ops : Array Oper} (hdm : ∀ o ∈ ops.toList, ∀ d, o.dst = some d → S0.m ≤ d) {fin : St → Prop} {Q : Exit → Act → World → Prop} (hQ : ∀ s' a' w', Rel S0 w0 n s' a' w' → fin s' → Q .normal a' w') :
    ∀ (fuel : Nat) (listed : Array Bool) (s : St) (a : Act) (w : World), Rel S0 w0 n s a w → anyA ops (stepD P n m ops) fin fuel listed s → wpAny P .any ops Q fuel listed a w
  | 0, _, s, a, w, hR, h => ⟨h.1, hQ s a w hR h.2⟩
  | fuel + 1, listed, s, a, w, hR, h => ⟨fun h0 => hQ s a w hR (h.1 h0), fun i hi => by
      obtain ⟨s', h1, h2⟩ := h.2 i hi
      exact stepD_ok hdm hR h1 (fun a' w' hR' => any_ok hdm hQ fuel _ s' a' w' hR' h2)⟩
theorem Rel.drawn (hR : Rel S0 w0 n s a w) : Rel S0 w0 n s a { w with drawn := w.drawn + 1 } := by
  have hb : ∀ b : Nat, ({ w with drawn := w.drawn + 1 } : World).heap[b]? = w.heap[b]? := fun _ => rfl
  exact ⟨hR.defers, hR.size, hR.below.drew _, hR.lt, fun i => (hR.rep i).mono (fun b hb => hb) (fun b _ => rfl) (fun b _ => rfl) (fun k _ => ⟨rfl, fun h => ⟨h, rfl, rfl⟩, fun c hc => hc⟩) (fun _ _ _ cs _ _ hs _ => ⟨⟨cs, hs, rfl⟩, rfl⟩), hR.inj, hR.out, hR.wf, hR.pin⟩
theorem region_draw_ok {m : Bool} {ops : Array Oper} {id : Nat} {Q : Exit → Act → World → Prop} {K : St → Prop} (hm : P.follows .mixedOrders = true) (hok : drawOk m ops = true) (hdm : ∀ o ∈ ops.toList, ∀ d, o.dst = some d → S0.m ≤ d)
    (hR : Rel S0 w0 n s a w) (h : aopsD P n m ops ops.toList s K) (hQ : ∀ s' a' w', Rel S0 w0 n s' a' w' → K s' → Q .normal a' w') : (Code.region id ops true).wp P Q a w := by
  obtain ⟨s', hch, hk⟩ := chain_of_aopsD ops.toList 0 s hR.wf (fun j => by simp) h
  refine wp_region_any hm (any_ok (m := m) hdm hQ _ _ s a _ hR.drawn ?_)
  have hlow : ∀ {i : Nat} {o : Oper}, ops[i]? = some o → ∀ d, o.dst = some d → d < MARK := by
    intro i o ho
    have h := hok
    simp only [drawOk, Bool.and_eq_true] at h
    exact lowDst_spec (List.all_eq_true.1 h.1 o (by have := Array.mem_of_getElem? ho; simpa using this))
  have hok' := hok
  simp only [drawOk, Bool.and_eq_true] at hok'
  replace hok' := hok'.2
  have hdr : ∀ i, i < ops.size → ((match ops[i]? with
      | some o => o.after.toList.all fun e => !Region.binds .any e || decide (e.on < i)
      | none => false) = true ∧ ∀ j, j < i → pairOk m ops (Region.before ops) i j = true) := by
    intro i hi
    have := List.all_eq_true.1 hok' i (by simp [hi])
    simp only [Bool.and_eq_true, List.all_eq_true, List.mem_range] at this
    exact ⟨this.1, fun j hj => this.2 j hj⟩
  refine chain_any (wf := Wf) (indep := fun j i => ∃ oi oj, ops[i]? = some oi ∧ ops[j]? = some oj ∧ mixB m ops oi oj = true ∧ oj.apart ops oi = true)
    (fun i s s' hw h => stepD_wf hw h) ?_ ?_ ?_ hk ops.size (List.range' 0 ops.toList.length) _ s (by simp) (by simp) ?_ ?_ ?_ hR.wf hch
  · rintro j i s s1 s2 ⟨oi, oj, hoi, hoj, hm, hap⟩ hw h1 h2
    exact mix_comm (hlow hoi) (hlow hoj) hoi hoj hm hap hw h1 h2
  · intro i o ho e he hb
    have := (hdr i (Array.getElem?_eq_some_iff.1 ho).1).1
    rw [ho] at this
    have := List.all_eq_true.1 this e (by simpa using he)
    simpa [hb] using this
  · intro j i hji hi
    have := (hdr i hi).2 j hji
    unfold pairOk at this
    rw [Bool.or_eq_true] at this
    rcases this with h | h
    · exact .inl (before_waits ops i j h)
    · split at h
      · rename_i oi oj hoi hoj
        simp only [Bool.and_eq_true] at h
        exact .inr ⟨oi, oj, hoi, hoj, h.1, h.2⟩
      · cases h
  · intro i o ho hl
    have hlt := (Array.getElem?_eq_some_iff.1 ho).1
    simp [hlt] at hl
  · exact List.pairwise_lt_range'
  · intro i
    simp only [List.mem_range'_1, Array.length_toList, Nat.zero_add, Nat.zero_le, true_and]
    constructor
    · intro hi; exact ⟨hi, by simp [hi]⟩
    · intro hi; exact hi.1
end
end Go.Ab
/-
  Code over abstract slots; a function's contract out of its code.
-/
namespace Go.Ab
open Go Go.RowKit
set_option linter.unusedSectionVars false
variable [Amb]
def thenA (next : St → Prop) (Q : Exit → St → Prop) : Exit → St → Prop
  | .normal, s => next s
  | e, s => Q e s
def inBlockA (id : Nat) (Q : Exit → St → Prop) : Exit → St → Prop
  | .exit id', s => if id' = id then Q .normal s else Q (.exit id') s
  | e, s => Q e s
def foldD (s : St) (i off d : Nat) (b o : AV) : St :=
  match o, b with
  | .own _ z xs, .box cs => fun j => if j = i then .box (cs.set off (.list z xs)) else unlink (freeze s d) i off 1 j
  | _, _ => s
def foldA (s : St) (i off : Nat) (l : AV) : St :=
  match l with
  | .link i' o d => match i' == i && o == off with
    | true => foldD s i off d (s i) (s d)
    | false => s
  | _ => s
def foldS (s : St) (i off : Nat) : St := foldA s i off (s (LK i off))
def foldL (s : St) : List (Nat × Nat) → St
  | [] => s
  | (i, off) :: r => foldL (foldS s i off) r
def Weak0 (s s' : St) : Prop :=
  (∀ i, s' i = s i ∨ s' i = .dead ∨ (s i = .x (.one .nil) ∧ ∃ e size, s' i = .own e size [])) ∧ ∀ i j, (s' i).refs j = true → s' j = s j
def Weak (s s' : St) : Prop := ∃ l, Weak0 (foldL s l) s'
def acond (c : Prop × AV) (A B : Prop) : Prop :=
  match c with
  | (p, .x (.one (.bool b))) => p ∧ (b = true → A) ∧ (b = false → B)
  | _ => False
def ALoop (body : (Exit → St → Prop) → St → Prop) (Q : Exit → St → Prop) (s : St) : Prop :=
  ∃ (ι : Type) (I : ι → St) (ok : ι → Prop) (μ : ι → Nat), (∃ x, ok x ∧ Weak s (I x)) ∧ ∀ x, ok x → body (thenA (fun s' => ∃ y, ok y ∧ μ y < μ x ∧ Weak s' (I y)) Q) (I x)
def awp (P : Program) (n : Nat) : Code → (Exit → St → Prop) → St → Prop
  | .skip, Q, s => Q .normal s
  | .label _, Q, s => Q .normal s
  | .region _ ops draw, Q, s => match draw with
    | false => aops P n ops ops.toList s (Q .normal)
    | true => match wildB ops with
      | true => (drawOk false ops = true ∧ aopsD P n false ops ops.toList s (Q .normal)) ∨ (∃ l : List Nat, drawOk true ops = true ∧ aopsD P n true ops ops.toList (freezeL s l) (Q .normal))
      | false => aopsD P n false ops ops.toList s (Q .normal)
  | .seq a b, Q, s => awp P n a (thenA (awp P n b Q) Q) s
  | .cond c a b, Q, s => acond (sv s c) (awp P n a Q s) (awp P n b Q s)
  | .block id c, Q, s => awp P n c (inBlockA id Q) s
  | .loop c, Q, s => ALoop (awp P n c) Q s
  | .exit id, Q, s => Q (.exit id) s
  | .ret, Q, s => Q .ret s
  | _, _, _ => False
def codeOk : Code → Bool
  | .region _ ops draw => match draw with
    | true => drawOk false ops || wildB ops
    | false => true
  | .seq a b => codeOk a && codeOk b
  | .cond _ a b => codeOk a && codeOk b
  | .block _ c => codeOk c
  | .loop c => codeOk c
  | _ => true
def dstOk (m : Nat) (o : Oper) : Bool := match o.dst with
  | some d => decide (m ≤ d)
  | none => true
def codeDst (m : Nat) : Code → Bool
  | .region _ ops _ => ops.toList.all (dstOk m)
  | .seq a b => codeDst m a && codeDst m b
  | .cond _ a b => codeDst m a && codeDst m b
  | .block _ c => codeDst m c
  | .loop c => codeDst m c
  | _ => true
theorem dstOk_all {m : Nat} {l : List Oper} (h : l.all (dstOk m) = true) : ∀ o ∈ l, ∀ d, o.dst = some d → m ≤ d := by
  intro o ho d hd
  have := List.all_eq_true.1 h o ho
  unfold dstOk at this
  rw [hd] at this
  exact of_decide_eq_true this
theorem codeDst_zero : ∀ c : Code, codeDst 0 c = true := by
  intro c
  induction c with
  | region id ops draw =>
    refine List.all_eq_true.2 (fun o _ => ?_)
    unfold dstOk
    cases o.dst <;> simp
  | seq a b iha ihb => simp [codeDst, iha, ihb]
  | cond c a b iha ihb => simp [codeDst, iha, ihb]
  | block id c ih => simpa [codeDst] using ih
  | loop c ih => simpa [codeDst] using ih
  | _ => rfl
section
variable {P : Program} {S0 : Env} {w0 w : World} {n : Nat} {s : St} {a : Act}
theorem Rel.foldS (hR : Rel S0 w0 n s a w) (i off : Nat) : Rel S0 w0 n (foldS s i off) a w := by
  unfold Ab.foldS foldA
  split
  · rename_i i' o d hlk
    split
    · rename_i hio
      simp only [Bool.and_eq_true, beq_iff_eq] at hio
      obtain ⟨rfl, rfl⟩ := hio
      unfold foldD
      split
      · rename_i e z xs cs hd hi
        have hid : i' ≠ d := by rintro rfl; rw [hi] at hd; cases hd
        have hl := hR.rep (LK i' o)
        rw [hlk] at hl
        obtain ⟨_, cs2, b2, k1, k2, k3, k4⟩ := hl
        rw [hi] at k1
        injection k1 with k1
        subst k1
        have hlt : o < cs.length := (List.getElem?_eq_some_iff.1 k2).1
        have h1 := hR.freeze (i := d) (.inl ⟨e, z, xs, hd⟩)
        have e1 : Ab.freeze s d i' = .box cs := by
          unfold Ab.freeze
          have : (AV.box cs).refs d = false := rfl
          simp [hid, hi, this]
        have e2 : Ab.freeze s d d = .x (.one (.list z xs)) := by simp [Ab.freeze, hd, frozenAV]
        have h2 : Rel S0 w0 n (unlink (Ab.freeze s d) i' o 1) a w := by
          refine h1.forget (fun j => unlink_or _ i' o 1 j) (fun j k hjk => ?_)
          rcases unlink_or (Ab.freeze s d) i' o 1 j with e | e <;> rw [e] at hjk
          · exact unlink_owner (h1.wf j k hjk)
          · cases hjk
        have e3 : unlink (Ab.freeze s d) i' o 1 i' = .box cs := by rw [unlink_owner (by rw [e1]; rfl), e1]
        have e4 : unlink (Ab.freeze s d) i' o 1 d = .x (.one (.list z xs)) := by
          unfold unlink
          rw [e2]
          rfl
        have hb := h2.rep i'
        rw [e3] at hb
        obtain ⟨b, arr, t, hv, hh, hrl, hB⟩ := hb
        have hbb : b2 = b := by
          rw [hi, hv] at k3
          have : some b = some b2 := k3
          injection this with this; exact this.symm
        subst hbb
        rw [cell_of_row w b2 o arr t (0, 0) hh] at k4
        have hlist := h2.rep d
        rw [e4] at hlist
        refine h2.write (r := .box (cs.set o (.list z xs))) (b := b2) (by rw [e3, hv]; rfl) (World.grownBy.refl w _) rfl (by rw [hv]; rfl) rfl (by rw [e3]; rfl) (by rw [e3]; rfl) (fun s' => ?_) (fun j o' d' cs2 hl hs2 => ?_)
        · refine ⟨b2, arr, t, hv, hh, ⟨by simpa using hrl.1, fun j c hj => ?_⟩, hB⟩
          rw [List.getElem?_set] at hj
          split at hj
          · rename_i he
            subst he
            simp only [Option.some.injEq] at hj
            subst hj
            exact ⟨_, by simpa using k4, hlist⟩
          · exact hrl.2 j c hj
        · rw [e3] at hs2
          injection hs2 with hs2
          subst hs2
          refine ⟨⟨_, rfl, ?_⟩, rfl⟩
          rw [List.getElem?_set]
          split
          · rename_i he
            exfalso
            subst he
            have : unlink (Ab.freeze s d) i' o 1 j = .dead := by
              unfold unlink
              have : (Ab.freeze s d j).linkIn i' o 1 = true := by
                rcases unlink_or (Ab.freeze s d) i' o 1 j with e | e
                · rw [e] at hl; exact AV.linkIn_has hl (by omega) (by omega)
                · rw [e] at hl; exact hl.elim
              rw [this]
            rw [this] at hl; exact hl.elim
          · rfl
      · exact hR
    · exact hR
  · exact hR
theorem Rel.foldL : ∀ (l : List (Nat × Nat)) {s : St}, Rel S0 w0 n s a w → Rel S0 w0 n (foldL s l) a w
  | [], _, h => h
  | (i, off) :: r, _, h => Rel.foldL r (h.foldS i off)
theorem Rel.weak0 {s' : St} (hR : Rel S0 w0 n s a w) (h : Weak0 s s') : Rel S0 w0 n s' a w := by
  obtain ⟨h1, h2⟩ := h
  have hblk : ∀ j c, blkOf (s' j) (tmOf a j) = some c → blkOf (s j) (tmOf a j) = some c := by
    intro j c hc
    rcases h1 j with e | e | ⟨e, e', size, e2⟩
    · rw [e] at hc; exact hc
    · rw [e] at hc; cases hc
    · rw [e2] at hc
      have hn := hR.rep j
      rw [e] at hn
      have := rep_nil hn
      rw [this] at hc
      simp [blkOf, Value.ownBlock] at hc
  have hsub : ∀ c, Shared S0 w0.heap.size w s (tmOf a) c → Shared S0 w0.heap.size w s' (tmOf a) c := fun c hc => ⟨hc.1, hc.2.1, fun j hj => hc.2.2 j (hblk j c hj)⟩
  refine ⟨hR.defers, hR.size, hR.below, hR.lt, fun i => ?_, fun i j b hi hj => hR.inj i j b (hblk i b hi) (hblk j b hj), fun i hi => ?_, fun i j hij => ?_, hR.pin⟩
  · rcases h1 i with e | e | ⟨e, e', size, e2⟩
    · rw [e]
      refine (hR.rep i).mono hsub (fun _ _ => rfl) (fun _ _ => rfl) (fun k hk => ?_) (fun i' off d' cs b hl hs' _ => ⟨⟨cs, by rw [h2 i i' (by rw [e]; exact (AV.hasLink_refs hl).1)]; exact hs', rfl⟩, rfl⟩)
      have := h2 i k (by rw [e]; exact AV.refs_of_refsL hk)
      exact ⟨rfl, fun h => by rw [this]; exact ⟨h, rfl, rfl⟩, fun c hc => by rw [this]; exact hc⟩
    · rw [e]; trivial
    · rw [e2]
      have hn := hR.rep i
      rw [e] at hn
      rw [rep_nil hn]
      exact ⟨[], World.ownsT_nil w _ _ _, ⟨rfl, fun j c hj => by simp at hj⟩, fun x hx => (by cases hx), by simp, fun b hb => by cases hb⟩
  · rcases h1 i with e | e | ⟨e, e', size, e2⟩
    · rw [e]; exact hR.out i hi
    · rw [e]; rfl
    · have := hR.out i hi
      rw [e] at this; cases this
  · rw [h2 i j hij]
    rcases h1 i with e | e | ⟨e, e', size, e2⟩
    · rw [e] at hij; exact hR.wf i j hij
    · rw [e] at hij; cases hij
    · rw [e2] at hij; cases hij
theorem Rel.weak {s' : St} (hR : Rel S0 w0 n s a w) (h : Weak s s') : Rel S0 w0 n s' a w := by
  obtain ⟨l, hl⟩ := h
  exact (hR.foldL l).weak0 hl
def resv (s : St) : List (Nat × Nat) → St
  | [] => s
  | l => fun j => if j = MARK then .res l else s j
theorem Rel.resv (hR : Rel S0 w0 n s a w) (h : (s MARK).free = true) (l : List (Nat × Nat)) : Rel S0 w0 n (resv s l) a w := by
  unfold Ab.resv
  split
  · exact hR
  · have hko : ∀ j, (s j).isOwner = true → j ≠ MARK := by rintro j h' rfl; rw [free_owner h] at h'; cases h'
    have hblk : ∀ j c, blkOf (if j = MARK then AV.res l else s j) (tmOf a j) = some c → blkOf (s j) (tmOf a j) = some c := by
      intro j c hj
      by_cases hjk : j = MARK
      · rw [if_pos hjk] at hj; cases hj
      · rw [if_neg hjk] at hj; exact hj
    have hsub : ∀ c, Shared S0 w0.heap.size w s (tmOf a) c → Shared S0 w0.heap.size w (fun j => if j = MARK then .res l else s j) (tmOf a) c := fun c hc => ⟨hc.1, hc.2.1, fun j hj => hc.2.2 j (hblk j c hj)⟩
    refine ⟨hR.defers, hR.size, hR.below, hR.lt, fun j => ?_, fun j m c hj hm => hR.inj j m c (hblk j c hj) (hblk m c hm), fun j hj => ?_, fun j m hjm => ?_, hR.pin⟩
    · by_cases hjk : j = MARK
      · simp only [if_pos hjk]; trivial
      · simp only [if_neg hjk]
        refine (hR.rep j).mono hsub (fun _ _ => rfl) (fun _ _ => rfl) (fun m hm => ?_) (fun i' off' d' cs' b' hl hs' _ => ⟨⟨cs', by simp only [if_neg (hko i' (by rw [hs']; rfl))]; exact hs', rfl⟩, rfl⟩)
        have hmk := hko m ((hR.rep j).leads hm)
        simp only [if_neg hmk]
        exact ⟨trivial, fun h => ⟨h, trivial, trivial⟩, fun c hc => hc⟩
    · by_cases hjk : j = MARK
      · simp only [if_pos hjk]; rfl
      · simp only [if_neg hjk]; exact hR.out j hj
    · by_cases hjk : j = MARK
      · simp only [if_pos hjk] at hjm; cases hjm
      · simp only [if_neg hjk] at hjm
        have := hR.wf j m hjm
        simp only [if_neg (hko m this)]
        exact this
theorem awp_ok (hm : P.follows .mixedOrders = true) : ∀ (c : Code) (Q : Exit → St → Prop) (Q' : Exit → Act → World → Prop) (s : St) (a : Act) (w : World), codeOk c = true → codeDst S0.m c = true → Rel S0 w0 n s a w → awp P n c Q s →
    (∀ e s' a' w', Rel S0 w0 n s' a' w' → Q e s' → Q' e a' w') → c.wp P Q' a w := by
  intro c
  induction c with
  | skip => intro Q Q' s a w _ _ hR h hQ; exact wp_skip (hQ _ s a w hR h)
  | label l => intro Q Q' s a w _ _ hR h hQ; exact wp_label (hQ _ s a w hR h)
  | exit id => intro Q Q' s a w _ _ hR h hQ; exact wp_exit (hQ _ s a w hR h)
  | ret => intro Q Q' s a w _ _ hR h hQ; exact wp_ret (hQ _ s a w hR h)
  | region id ops draw =>
    intro Q Q' s a w hok hod hR h hQ
    cases draw with
    | false => exact wp_region_list (aops_ok ops.toList s a w (dstOk_all hod) hR h (fun s' a' w' hR' hk => hQ _ s' a' w' hR' hk))
    | true =>
      have plain := fun hok h => region_draw_ok (P := P) (m := false) (id := id) (Q := Q') hm hok (dstOk_all hod) hR (K := Q .normal) h (fun s' a' w' hR' hk => hQ _ s' a' w' hR' hk)
      simp only [awp] at h
      split at h
      · rcases h with h | ⟨l, h1, h2⟩
        · exact plain h.1 h.2
        · exact region_draw_ok (m := true) hm h1 (dstOk_all hod) (freezeL_ok l s hR) h2 (fun s' a' w' hR' hk => hQ _ s' a' w' hR' hk)
      · rename_i hwb
        simp only [codeOk, hwb, Bool.or_false] at hok
        exact plain hok h
  | seq x y ihx ihy =>
    intro Q Q' s a w hok hod hR h hQ
    simp only [codeOk, Bool.and_eq_true] at hok
    simp only [codeDst, Bool.and_eq_true] at hod
    refine wp_seq (ihx _ _ s a w hok.1 hod.1 hR h (fun e s' a' w' hR' hq => ?_))
    cases e with
    | normal => exact ihy Q Q' s' a' w' hok.2 hod.2 hR' hq hQ
    | _ => exact hQ _ s' a' w' hR' hq
  | cond c x y ihx ihy =>
    intro Q Q' s a w hok hod hR h hQ
    simp only [codeOk, Bool.and_eq_true] at hok
    simp only [codeDst, Bool.and_eq_true] at hod
    simp only [awp] at h
    unfold acond at h
    split at h
    · rename_i p b e
      obtain ⟨hp, ht, hf⟩ := h
      have hv := hR.sv c (sv_cond e hp)
      rw [e] at hv
      have hv' := rep_bool hv
      exact wp_cond_split hv' (fun hb => ihx Q Q' s a w hok.1 hod.1 hR (ht hb) hQ) (fun hb => ihy Q Q' s a w hok.2 hod.2 hR (hf hb) hQ)
    · exact h.elim
  | block id c ih =>
    intro Q Q' s a w hok hod hR h hQ
    refine wp_block (ih _ _ s a w hok hod hR h (fun e s' a' w' hR' hq => ?_))
    cases e with
    | exit id' =>
      simp only [inBlockA] at hq
      simp only [Exit.inBlock]
      split
      · rename_i hid; rw [if_pos hid] at hq; exact hQ _ s' a' w' hR' hq
      · rename_i hid; rw [if_neg hid] at hq; exact hQ _ s' a' w' hR' hq
    | _ => exact hQ _ s' a' w' hR' hq
  | loop c ih =>
    intro Q Q' s a w hok hod hR h hQ
    obtain ⟨ι, I, ok, μ, ⟨x0, hx0, hw0⟩, hround⟩ := h
    refine wp_loop_ghost (fun m a w => ∃ x, ok x ∧ μ x = m ∧ Rel S0 w0 n (I x) a w) (μ x0) ⟨x0, hx0, rfl, hR.weak hw0⟩ ?_
    rintro m a1 w1 ⟨x, hx, rfl, hR1⟩
    refine ih _ _ (I x) a1 w1 hok hod hR1 (hround x hx) (fun e s' a' w' hR' hq => ?_)
    cases e with
    | normal =>
      obtain ⟨y, hy, hlt, hwk⟩ := hq
      exact ⟨μ y, hlt, y, hy, rfl, hR'.weak hwk⟩
    | _ => exact hQ _ s' a' w' hR' hq
  | _ => intro Q Q' s a w _ _ _ h _; exact h.elim
def resX (P : Program) (s : St) : ResultVar → Prop × Option XV
  | .tmp t => argX s (.tmp t)
  | .cell t ty => match aload (tk P ty) (zeroX P ty) (sv s (.tmp t)).1 (mem s (sv s (.tmp t)).2) with
    | (p, .x xv) => (p, some xv)
    | _ => (False, none)
def resXs (P : Program) (s : St) : List ResultVar → Prop × Option (List XV)
  | [] => (True, some [])
  | x :: r => match resX P s x, resXs P s r with
    | (p, some v), (q, some vs) => (p ∧ q, some (v :: vs))
    | _, _ => (False, none)
def Gives (P : Program) (s : St) (rs : List ResultVar) (r : RV) : Prop :=
  match resXs P s rs with
  | (p, some [x]) => p ∧ r = .x x
  | (p, some xs) => p ∧ r = .tup xs
  | _ => False
def resM (tmps : Array Value) : ResultVar → Sem Value
  | .tmp t => pure (tmps.getD t undef)
  | .cell t ty => do loadVar ty (← asAddr (tmps.getD t undef))
theorem results_eq (fn : Func) (tmps : Array Value) : results fn tmps = (do
    let vs ← fn.results.mapM (resM tmps)
    pure (if h : vs.size = 1 then vs[0] else .tuple vs)) := rfl
def initSt : List XV → Nat → St
  | [], _ => fun _ => .dead
  | x :: r, k => fun i => if i = k then .x x else initSt r (k + 1) i
mutual
def CV.ok : CV → Prop
  | .str l => l.length ≤ maxLen
  | .list size xs => xs.length ≤ maxLen ∧ CV.okAll size xs
  | _ => True
def CV.okAll (size : Nat) : List (List CV) → Prop
  | [] => True
  | x :: r => x.length = size ∧ CV.okL x ∧ CV.okAll size r
def CV.okL : List CV → Prop
  | [] => True
  | c :: r => c.ok ∧ CV.okL r
end
def XV.ok : XV → Prop
  | .one c => c.ok
  | .agg cs => CV.okL cs
theorem okL_mem : ∀ {cs : List CV}, (∀ c ∈ cs, c.ok) → CV.okL cs
  | [], _ => by simp [CV.okL]
  | c :: r, h => by
    simp only [CV.okL]
    exact ⟨h c (by simp), okL_mem (fun c' hc => h c' (by simp [hc]))⟩
theorem okAll_mem {size : Nat} : ∀ {xs : List (List CV)}, (∀ x ∈ xs, x.length = size) → (∀ x ∈ xs, ∀ c ∈ x, CV.ok c) → CV.okAll size xs
  | [], _, _ => by simp [CV.okAll]
  | x :: r, h, k => by
    simp only [CV.okAll]
    exact ⟨h x (by simp), okL_mem (k x (by simp)), okAll_mem (fun y hy => h y (by simp [hy])) (fun y hy => k y (by simp [hy]))⟩
theorem RepC.ok {S : Nat → Prop} {c : CV} {v : Value} (h : RepC w S c v) : c.ok := by
  induction h with
  | str l h => simpa only [CV.ok] using h
  | empty a cap size h => simp only [CV.ok]
  | clo f caps U h ih => simp only [CV.ok]
  | list0 a cap size h hn => simp only [CV.ok, CV.okAll, List.length_nil]; exact ⟨Nat.zero_le _, trivial⟩
  | list ad cap size xs U hs hsp hc hm hx hU hr ih =>
    simp only [CV.ok]
    refine ⟨by omega, okAll_mem hx (fun x hx' c hc' => ?_)⟩
    obtain ⟨j, hj⟩ := List.getElem?_of_mem (List.mem_flatten.2 ⟨x, hx', hc'⟩ : c ∈ xs.flatten)
    exact ih j c hj
  | _ => simp only [CV.ok]
theorem RepX.ok {S : Nat → Prop} {x : XV} {v : Value} (h : RepX w S x v) : x.ok := by
  cases x with
  | one c => exact RepC.ok h
  | agg cs =>
    obtain ⟨us, _, hl⟩ := h
    refine okL_mem (fun c hc => ?_)
    obtain ⟨j, hj⟩ := List.getElem?_of_mem hc
    obtain ⟨u, _, hr⟩ := hl.2 j c hj
    exact hr.ok
def givesW (r : RV) (q : Prop × Option (List XV)) : Prop := match q with
  | (p, some [x]) => p ∧ okR r (.x x)
  | (p, some xs) => p ∧ okR r (.tup xs)
  | _ => False
theorem givesW_ex {s : St} {rs : List ResultVar} {r : RV} (h : givesW r (resXs P s rs)) : ∃ r', Gives P s rs r' ∧ okR r r' := by
  unfold givesW at h
  unfold Gives
  split at h
  · exact ⟨_, ⟨h.1, rfl⟩, h.2⟩
  · rename_i p xs hne e
    refine ⟨.tup xs, ?_, h.2⟩
    cases xs with
    | nil => exact ⟨h.1, rfl⟩
    | cons x r => cases r with
      | nil => exact absurd rfl (hne x)
      | cons y r => exact ⟨h.1, rfl⟩
  · exact h.elim
def resOp : ResultVar → Operand
  | .tmp t => .tmp t
  | .cell _ _ => .const (.bool true)
def outDead : List AV → Nat → Prop
  | [], _ => True
  | o :: _, 0 => o = .dead
  | _ :: r, i + 1 => outDead r i
def ownAt (outs : List AV) (e z : Nat) (xs : List (List CV)) (i : Nat) (len : Option Nat) : AV → Prop
  | .own e' z' xs' => e' = e ∧ z' = z ∧ xs = (match len with | some k => xs'.take k | none => xs') ∧ outDead outs i
  | _ => False
def ownV (s : St) (outs : List AV) (e z : Nat) (xs : List (List CV)) (t : Nat) : AV → Prop
  | .own e' z' xs' => ownAt outs e z xs t none (.own e' z' xs')
  | .alias i => ownAt outs e z xs i none (s i)
  | .view i _ len true => ownAt outs e z xs i (some len) (s i)
  | .x (.one .nil) => xs = []
  | _ => False
def giveR (P : Program) (s : St) (rs : List ResultVar) (outs : List AV) (r : RV) : Prop :=
  match r with
  | .own e z xs => match rs with
    | [.tmp t] => ownV s outs e z xs t (s t)
    | _ => False
  | r => givesW r (resXs P s rs)
def endSt (s : St) (rs : List ResultVar) (r : RV) : St :=
  match r with
  | .own _ _ _ => s
  | _ => freezeL s (lends s (rs.map resOp))
def outsIn (s : St) : Nat → List AV → Prop
  | _, [] => True
  | k, o :: r => (match o with | .dead => True | o => s k = o) ∧ outsIn s (k + 1) r
theorem outsIn_at {s : St} : ∀ {k : Nat} {l : List AV}, outsIn s k l → ∀ (j : Nat) (o : AV), l[j]? = some o → o ≠ .dead → s (k + j) = o
  | k, [], _, j, o, h, _ => by simp at h
  | k, o :: r, h, j, o', hj, hne => by
    obtain ⟨h1, h2⟩ := h
    cases j with
    | zero =>
      simp at hj; subst hj
      cases o <;> first | exact h1 | exact absurd rfl hne
    | succ j =>
      simp at hj
      have := outsIn_at h2 j o' hj hne
      rw [← this]; congr 1; omega
theorem outDead_at : ∀ {l : List AV} {i : Nat} {o : AV}, outDead l i → l[i]? = some o → o = .dead
  | [], i, o, _, h => by simp at h
  | a :: r, 0, o, h, h' => by simp at h'; subst h'; exact h
  | a :: r, i + 1, o, h, h' => by simp at h'; exact outDead_at (l := r) h h'
def initM : List AV → Nat → St
  | [], _ => fun _ => .dead
  | x :: r, k => fun i => if i = k then x else initM r (k + 1) i
theorem initM_at : ∀ (args : List AV) (k i : Nat), initM args k i = ((if k ≤ i then args[i - k]? else none).getD .dead)
  | [], k, i => by simp [initM]
  | x :: r, k, i => by
    simp only [initM]
    by_cases h : i = k
    · subst h; simp
    · rw [if_neg h, initM_at r (k + 1) i]
      by_cases hk : k ≤ i
      · have h1 : k + 1 ≤ i := by omega
        have h2 : i - k = (i - (k + 1)) + 1 := by omega
        rw [if_pos h1, if_pos hk, h2]
        simp
      · rw [if_neg (by omega), if_neg hk]
theorem initSt_M : ∀ (args : List XV) (k : Nat), initSt args k = initM (args.map .x) k
  | [], k => rfl
  | x :: r, k => by
    funext i
    simp only [initSt, initM, List.map_cons, initSt_M r (k + 1)]
def AV.ok : AV → Prop
  | .x v => v.ok
  | .box cs => CV.okL cs
  | .own _ size xs => xs.length ≤ maxLen ∧ CV.okAll size xs
  | _ => True
theorem RepL.okL {S : Nat → Prop} {cs : List CV} {us : List Value} (h : RepL w S cs us) : CV.okL cs := by
  refine okL_mem (fun c hc => ?_)
  obtain ⟨j, hj⟩ := List.getElem?_of_mem hc
  obtain ⟨u, _, hr⟩ := h.2 j c hj
  exact hr.ok
theorem RepAV.ok {S : Nat → Prop} {B : Nat → Prop} {s : St} {tm : Nat → Value} {x : AV} {v : Value} (h : RepAV w S B s tm x v) : x.ok := by
  cases x with
  | x v => exact RepX.ok h
  | box cs => obtain ⟨b, arr, t, _, _, hl, _⟩ := h; exact hl.okL
  | own e z xs =>
    obtain ⟨us, _, hl, hx, hm, _⟩ := h
    refine ⟨hm, okAll_mem hx (fun y hy c hc => ?_)⟩
    obtain ⟨j, hj⟩ := List.getElem?_of_mem (List.mem_flatten.2 ⟨y, hy, hc⟩ : c ∈ xs.flatten)
    obtain ⟨u, _, hr⟩ := hl.2 j c hj
    exact hr.ok
  | _ => trivial
theorem resX_frozen (hR : Rel S0 w0 n s a w) {x : ResultVar} {p : Prop} {xv : XV} (h : resX P s x = (p, some xv)) (hp : p) (l : List Nat) (hl : ∀ i ∈ lends s [resOp x], i ∈ l) :
    ∃ v, (resM a.tmps x).run P w = .ok v w ∧ RepX w (Shared S0 w0.heap.size w (freezeL s l) (tmOf a)) xv v := by
  cases x with
  | tmp t => exact ⟨_, rfl, argX_frozen hR h hp l (fun i hi => hl i (lends_mem (x := .tmp t) (by simp [resOp]) hi))⟩
  | cell t ty =>
    have hsub : ∀ b, Shared S0 w0.heap.size w s (tmOf a) b → Shared S0 w0.heap.size w (freezeL s l) (tmOf a) b := fun b hb => ⟨hb.1, hb.2.1, fun k hk => by
      have ho : (freezeL s l k).isOwner = true := by
        cases ho : (freezeL s l k).isOwner with
        | true => rfl
        | false => rw [blkOf_notOwner ho] at hk; cases hk
      rw [freezeL_owner l s k ho] at hk
      exact hb.2.2 k hk⟩
    simp only [resX] at h
    split at h
    · rename_i q xv' e
      simp only [Prod.mk.injEq, Option.some.injEq] at h
      obtain ⟨rfl, rfl⟩ := h
      obtain ⟨v, hrun, hrep, _⟩ := aload_ok (P := P) (t := ty) (v := a.eval (.tmp t)) (fun hp cs hm => hR.mem (hR.sv (.tmp t) hp) hm) (by rw [e]; exact hp)
      rw [e] at hrep
      refine ⟨v, ?_, RepX.mono hrep hsub (fun _ _ => rfl)⟩
      have he : a.eval (.tmp t) = a.tmps.getD t undef := rfl
      rw [he] at hrun
      show (do loadVar ty (← asAddr (a.tmps.getD t undef)) : Sem Value).run P w = .ok v w
      generalize a.tmps.getD t undef = u at hrun ⊢
      unfold Instr.loadAt Instr.sureAddr at hrun
      unfold asAddr
      cases u with
      | pointer o => cases o with
        | some ad => exact hrun
        | none => simp at hrun
      | _ => simp at hrun
    · simp at h
theorem resXs_frozen (hR : Rel S0 w0 n s a w) (l : List Nat) : ∀ {rs : List ResultVar} {p : Prop} {xs : List XV}, resXs P s rs = (p, some xs) → p → (∀ i ∈ lends s (rs.map resOp), i ∈ l) →
    ∃ vs : List Value, (rs.mapM (resM a.tmps)).run P w = .ok vs w ∧ vs.length = xs.length ∧ ∀ (j : Nat) (x : XV), xs[j]? = some x → ∃ u, vs[j]? = some u ∧ RepX w (Shared S0 w0.heap.size w (freezeL s l) (tmOf a)) x u := by
  intro rs
  induction rs with
  | nil =>
    intro p xs h _ _
    simp only [resXs, Prod.mk.injEq, Option.some.injEq] at h
    obtain ⟨_, rfl⟩ := h
    exact ⟨[], rfl, rfl, fun j x hj => by simp at hj⟩
  | cons x r ih =>
    intro p xs h hp hl
    simp only [resXs] at h
    split at h
    · rename_i q v q' vs e1 e2
      simp only [Prod.mk.injEq, Option.some.injEq] at h
      obtain ⟨rfl, rfl⟩ := h
      have hl1 : ∀ i ∈ lends s [resOp x], i ∈ l := by
        intro i hi
        refine hl i ?_
        simp only [List.map_cons, lends, List.append_nil, List.mem_append] at hi ⊢
        exact .inl hi
      have hl2 : ∀ i ∈ lends s (r.map resOp), i ∈ l := by
        intro i hi
        refine hl i ?_
        simp only [List.map_cons, lends, List.mem_append]
        exact .inr hi
      obtain ⟨u, h1, h2⟩ := resX_frozen hR e1 hp.1 l hl1
      obtain ⟨us, h3, h4, h5⟩ := ih e2 hp.2 hl2
      refine ⟨u :: us, ?_, by simp [h4], fun j x' hj => ?_⟩
      · simp only [List.mapM_cons, Sem.run_bind, h1, h3, Result.andThen_ok, Sem.run_pure]
      · cases j with
        | zero => simp at hj; subst hj; exact ⟨u, rfl, h2⟩
        | succ j => simp only [List.getElem?_cons_succ] at hj; exact h5 j x' hj
    · simp at h
theorem givesW_frozen (hR : Rel S0 w0 n s a w) {fn : Func} {r : RV} (h : givesW r (resXs P s fn.results.toList)) : ∃ v, (results fn a.tmps).run P w = .ok v w ∧ RepR w (Shared S0 w0.heap.size w (freezeL s (lends s (fn.results.toList.map resOp))) (tmOf a)) r v := by
  have key : ∀ {p : Prop} {xs : List XV}, resXs P s fn.results.toList = (p, some xs) → p → ∃ vs : List Value, (results fn a.tmps).run P w = .ok (if h : vs.length = 1 then vs[0] else .tuple vs.toArray) w ∧
      vs.length = xs.length ∧ ∀ (j : Nat) (x : XV), xs[j]? = some x → ∃ u, vs[j]? = some u ∧ RepX w (Shared S0 w0.heap.size w (freezeL s (lends s (fn.results.toList.map resOp))) (tmOf a)) x u := by
    intro p xs e hp
    obtain ⟨vs, h1, h2, h3⟩ := resXs_frozen hR (lends s (fn.results.toList.map resOp)) e hp (fun i hi => hi)
    refine ⟨vs, ?_, h2, h3⟩
    rw [results_eq, ← Array.toArray_toList (xs := fn.results), List.mapM_toArray]
    simp only [Sem.run_bind, Sem.run_map, h1, Result.andThen_ok, Sem.run_pure]
    congr 1
  obtain ⟨r', hg, hok⟩ := givesW_ex h
  refine (fun ⟨v, h1, h2⟩ => ⟨v, h1, okR_rep hok h2⟩ : (∃ v, (results fn a.tmps).run P w = .ok v w ∧ RepR w (Shared S0 w0.heap.size w (freezeL s (lends s (fn.results.toList.map resOp))) (tmOf a)) r' v) → _) ?_
  unfold Gives at hg
  split at hg
  · rename_i p x e
    obtain ⟨hp, rfl⟩ := hg
    obtain ⟨vs, h1, h2, h3⟩ := key e hp
    have hl : vs.length = 1 := by simpa using h2
    rw [dif_pos hl] at h1
    obtain ⟨u, hu, hr⟩ := h3 0 x rfl
    refine ⟨_, h1, ?_⟩
    have : vs[0] = u := by rw [List.getElem?_eq_getElem (by omega)] at hu; injection hu
    rw [this]; exact hr
  · rename_i p xs hne e
    obtain ⟨hp, rfl⟩ := hg
    obtain ⟨vs, h1, h2, h3⟩ := key e hp
    have hl : ¬ vs.length = 1 := by
      intro hl
      rw [hl] at h2
      obtain ⟨y, hy⟩ := List.length_eq_one_iff.1 h2.symm
      exact hne y hy
    rw [dif_neg hl] at h1
    exact ⟨_, h1, vs.toArray, rfl, by simpa using h2, fun j x hj => by simpa using h3 j x hj⟩
  · exact hg.elim
theorem givesW_blk {r : RV} {q : Prop × Option (List XV)} (h : givesW r q) (v : Value) : r.blk v = none := by
  cases r with
  | own e z xs =>
    unfold givesW at h
    split at h
    · exact h.2.elim
    · exact h.2.elim
    · exact h.elim
  | _ => rfl
theorem giveR_ok {w1 : World} (hR : Rel S0 w1 n s a w) {fn : Func} {r : RV} {outs : List AV} (h : giveR P s fn.results.toList outs r) :
    ∃ v, (results fn a.tmps).run P w = .ok v w ∧ Rel S0 w1 n (endSt s fn.results.toList r) a w ∧ RepR w (fun b => (Shared S0 w1.heap.size w (endSt s fn.results.toList r) (tmOf a) b ∨ r.blk v = some b)) r v ∧
      ∀ b, r.blk v = some b → ∃ i, blkOf (endSt s fn.results.toList r i) (tmOf a i) = some b ∧ outDead outs i := by
  unfold giveR at h
  split at h
  · rename_i e z xs
    split at h
    · rename_i t hrs
      have hres : (results fn a.tmps).run P w = .ok (tmOf a t) w := by
        rw [results_eq, ← Array.toArray_toList (xs := fn.results), List.mapM_toArray, hrs]
        simp [resM]
      have fin : ∀ {v : Value} {us : List Value} (i : Nat) , v = tmOf a t → w.ownsT 0 e z v xs.length us → RepL w (Shared S0 w1.heap.size w s (tmOf a)) xs.flatten us → (∀ x ∈ xs, x.length = z) → xs.length ≤ maxLen →
          (∀ b, v.ownBlock = some b → blkOf (s i) (tmOf a i) = some b ∧ outDead outs i) →
          ∃ v, (results fn a.tmps).run P w = .ok v w ∧ Rel S0 w1 n (endSt s [.tmp t] (.own e z xs)) a w ∧ RepR w (fun b => (Shared S0 w1.heap.size w (endSt s [.tmp t] (.own e z xs)) (tmOf a) b ∨ (RV.own e z xs).blk v = some b)) (.own e z xs) v ∧
            ∀ b, (RV.own e z xs).blk v = some b → ∃ i, blkOf (endSt s [.tmp t] (.own e z xs) i) (tmOf a i) = some b ∧ outDead outs i := by
        intro v us i hv hown hl hx hm hb
        refine ⟨v, by rw [hv]; exact hres, hR, ⟨us, hown, hl.mono (fun b hbb => ⟨.inl hbb, fun h => hbb.2.2 i (hb b h).1⟩) (fun _ _ => rfl), hx, hm, fun b h => .inr h⟩, fun b h => ⟨i, hb b h⟩⟩
      rw [hrs]
      have ht := hR.rep t
      revert h ht
      generalize hst : s t = q
      intro h ht
      unfold ownV at h
      split at h
      · rename_i e' z' xs'
        obtain ⟨rfl, rfl, rfl, hod⟩ := h
        obtain ⟨us, hown, hl, hx, hm, _⟩ := ht
        exact fin t rfl hown hl hx hm (fun b hb => ⟨by rw [hst]; exact hb, hod⟩)
      · rename_i i
        obtain ⟨hv, _⟩ := ht
        have hi := hR.rep i
        revert h hi
        generalize hsi : s i = q
        intro h hi
        unfold ownAt at h
        split at h
        · obtain ⟨rfl, rfl, rfl, hod⟩ := h
          obtain ⟨us, hown, hl, hx, hm, _⟩ := hi
          exact fin i hv.symm hown hl hx hm (fun b hb => ⟨by rw [hsi]; exact hb, hod⟩)
        · exact h.elim
      · rename_i i lo len
        have hi := hR.rep i
        revert h hi
        generalize hsi : s i = q
        intro h hi
        unfold ownAt at h
        split at h
        · obtain ⟨rfl, rfl, rfl, hod⟩ := h
          obtain ⟨us, hown, hl, hx, hm, _⟩ := hi
          obtain ⟨h1, h2, h3, h4⟩ := view_trunc hsi ht hown hl hx
          exact fin i rfl h1 h3 (fun x hx' => hx x (List.mem_of_mem_take hx')) (by rw [List.length_take]; omega) (fun b hb => ⟨by rw [hsi]; exact h2 b hb, hod⟩)
        · exact h.elim
      · subst h
        have hv := rep_nil ht
        exact fin t (us := []) rfl (by rw [hv]; exact World.ownsT_nil w 0 e z) ⟨rfl, fun j c hj => by simp at hj⟩ (fun x hx => by cases hx) (by simp) (fun b hb => by rw [hv] at hb; cases hb)
      · exact h.elim
    · exact h.elim
  · rename_i hne
    have he : endSt s fn.results.toList r = freezeL s (lends s (fn.results.toList.map resOp)) := by
      unfold endSt
      split
      · exact absurd rfl (hne _ _ _)
      · rfl
    obtain ⟨v, h1, h2⟩ := givesW_frozen hR h
    rw [he]
    refine ⟨v, h1, freezeL_ok _ _ hR, h2.mono (fun b hb => .inl hb) (fun _ _ => rfl), fun b hb => ?_⟩
    rw [givesW_blk h] at hb; cases hb
def liveLen : List AV → Nat
  | [] => 0
  | o :: r => match o with
    | .dead => match liveLen r with
      | 0 => 0
      | n + 1 => n + 2
    | _ => liveLen r + 1
theorem liveLen_at : ∀ {l : List AV} {j : Nat} {o : AV}, l[j]? = some o → o ≠ .dead → j < liveLen l
  | [], j, o, h, _ => by simp at h
  | a :: r, 0, o, h, hne => by
    simp at h; subst h
    unfold liveLen
    cases a <;> first | exact absurd rfl hne | simp
  | a :: r, j + 1, o, h, hne => by
    have := liveLen_at (l := r) (j := j) (by simpa using h) hne
    unfold liveLen
    split
    · split
      · rename_i e; rw [e] at this; omega
      · rename_i e; rw [e] at this; omega
    · omega
theorem liveLen_dead {α : Type} : ∀ (l : List α), liveLen (l.map fun _ => AV.dead) = 0
  | [] => rfl
  | a :: r => by simp only [List.map_cons, liveLen, liveLen_dead r]
theorem ACallsM.mkL {f : FuncId} {fn : Func} {c : Code} {args : List AV} {r : RV} {outs : List AV} (hm : P.follows .mixedOrders = true) (hf : P.funcs[f]? = some fn) (hname : (fn.name == "runtime.NumGoroutine") = false)
    (hb : fn.body = some c) (hok : codeOk c = true) (hod : codeDst (liveLen outs) c = true) (hl : args.length ≤ fn.ntmps) (hfit : outsFit args outs = true) {Qa : Exit → St → Prop} (lk lf : List (Nat × Nat)) (hlk : lk = [] ∨ args.length ≤ 999999)
    (hQa : ∀ e s, Qa e s → (e = .normal ∨ e = .ret) ∧ giveR P (foldL s lf) fn.results.toList outs r ∧ outsIn (endSt (foldL s lf) fn.results.toList r) 0 outs)
    (h : (∀ x ∈ args, x.ok) → awp P fn.ntmps c Qa (resv (initM args 0) lk)) : ACallsM P f args r outs := by
  refine ⟨⟨fn, hf, hname, by rw [hb]; rfl⟩, hfit, fun w E0 vs hE0 hargs => ?_⟩
  have hargok : ∀ x ∈ args, x.ok := by
    intro x hx
    obtain ⟨j, hj⟩ := List.getElem?_of_mem hx
    obtain ⟨u, _, _, hr⟩ := hargs.rep j x hj
    exact hr.ok
  refine calls_of_wp hf hb ?_
  have hsz : vs.size ≤ fn.ntmps := by rw [hargs.size]; exact hl
  have htm : ∀ i, tmOf { tmps := vs ++ Array.replicate (fn.ntmps - vs.size) undef, defers := [] } i = (vs[i]?).getD undef := by
    intro i
    simp only [tmOf, Array.getD_eq_getD_getElem?, Array.getElem?_append]
    split
    · rfl
    · rename_i hi
      rw [Array.getElem?_eq_none (by omega : vs.size ≤ i), Array.getElem?_replicate]
      split <;> rfl
  let E : Env := ⟨E0.rd, E0.lent, liveLen outs, fun i => (vs[i]?).getD undef⟩
  have hE : Base E w := ⟨hE0.rd, hE0.lent, hE0.apart, hE0.amb, hE0.far⟩
  have hinit : ∀ i, initM args 0 i = (args[i]?).getD .dead := fun i => by rw [initM_at]; simp
  have hcase : ∀ i, initM args 0 i = .dead ∨ ∃ x u, args[i]? = some x ∧ vs[i]? = some u ∧ initM args 0 i = x ∧ x.bare = true ∧ RepAV w E0.rd E0.lent deadSt noTm x u := by
    intro i
    rw [hinit]
    cases hx : args[i]? with
    | none => exact .inl rfl
    | some x =>
      obtain ⟨u, hu, hbr, hr⟩ := hargs.rep i x hx
      exact .inr ⟨x, u, rfl, hu, rfl, hbr, hr⟩
  have hblk : ∀ i b, blkOf (initM args 0 i) ((vs[i]?).getD undef) = some b → E0.lent b := by
    intro i b hbb
    rcases hcase i with h | ⟨x, u, h1, h2, h3, h4, h5⟩
    · rw [h] at hbb; cases hbb
    · rw [h3, h2] at hbb; exact (h5.blk_lt hbb).1
  have hnr : ∀ i j, (initM args 0 i).refs j = false := by
    intro i j
    rcases hcase i with h | ⟨x, u, h1, h2, h3, h4, h5⟩
    · rw [h]; rfl
    · rw [h3]; exact AV.bare_refs h4 j
  have hR : Rel E w fn.ntmps (initM args 0) { tmps := vs ++ Array.replicate (fn.ntmps - vs.size) undef, defers := [] } w := by
    refine ⟨rfl, by simp; omega, Kept.refl _ _, hE, fun i => ?_, fun i j b hi hj => ?_, fun i hi => ?_, fun i j hij => ?_, fun j hj => htm j⟩
    · rw [htm]
      rcases hcase i with h | ⟨x, u, h1, h2, h3, h4, h5⟩
      · rw [h]; trivial
      · rw [h3, h2]
        refine h5.bare h4 (fun b hb => ⟨.inl hb, hE0.rd b hb, fun k hk => ?_⟩) (fun b _ hb => .inr hb)
        rw [htm] at hk
        exact hE0.apart b hb (hblk k b hk)
    · rw [htm] at hi hj
      rcases hcase i with h | ⟨x, u, h1, h2, h3, h4, h5⟩
      · rw [h] at hi; cases hi
      rcases hcase j with h | ⟨y, v, k1, k2, k3, k4, k5⟩
      · rw [h] at hj; cases hj
      rw [h3, h2] at hi
      rw [k3, k2] at hj
      exact hargs.inj i j x y u v b h1 h2 hi k1 k2 hj
    · rw [hinit, List.getElem?_eq_none (by omega)]; rfl
    · rw [hnr] at hij; cases hij
  have hRv : Rel E w fn.ntmps (Ab.resv (initM args 0) lk) { tmps := vs ++ Array.replicate (fn.ntmps - vs.size) undef, defers := [] } w := by
    rcases hlk with rfl | hlk
    · exact hR
    · exact hR.resv (by rw [hinit, List.getElem?_eq_none (show args.length ≤ MARK from hlk)]; rfl) lk
  refine awp_ok hm c _ _ _ _ _ hok hod hRv (h hargok) (fun e s0' a' w' hR0' hq => ?_)
  obtain ⟨he, hg, hout⟩ := hQa _ _ hq
  have hR' := hR0'.foldL lf
  generalize Ab.foldL s0' lf = s' at hR' hg hout
  obtain ⟨v, hrun, hR2, hrep, hrb⟩ := giveR_ok hR' hg
  obtain ⟨hfl, hfa⟩ := outsFit_at hfit
  generalize endSt s' fn.results.toList r = s2 at hR2 hrep hrb hout
  have hpin : ∀ j, j < liveLen outs → tmOf a' j = (vs[j]?).getD undef := fun j hj => hR2.pin j hj
  have houts : ∀ (j : Nat) (o : AV) (u : Value), outs[j]? = some o → vs[j]? = some u → o ≠ .dead → s2 j = o ∧ tmOf a' j = u := by
    intro j o u h1 h2 h3
    have := outsIn_at hout j o h1 h3
    rw [Nat.zero_add] at this
    refine ⟨this, ?_⟩
    rw [hpin j (liveLen_at h1 h3), h2]
    rfl
  have hno : ∀ (b : Nat), Owned outs vs b → ∃ (j : Nat) (o : AV), outs[j]? = some o ∧ o ≠ .dead ∧ blkOf (s2 j) (tmOf a' j) = some b := by
    rintro b ⟨j, o, u, h1, h2, h3⟩
    have hne : o ≠ .dead := by rintro rfl; cases h3
    obtain ⟨h4, h5⟩ := houts j o u h1 h2 hne
    exact ⟨j, o, h1, hne, by rw [h4, h5]; exact h3⟩
  have hafter : ∀ b, Shared E w.heap.size w' s2 (tmOf a') b → After w w' E0 outs vs b := by
    intro b hb
    refine ⟨?_, fun ho => ?_⟩
    · rcases hb.1 with h | h | h
      · exact .inl h
      · exact .inr (.inr ⟨h, hb.2.1⟩)
      · exact .inr (.inl h)
    · obtain ⟨j, o, _, _, h⟩ := hno b ho
      exact hb.2.2 j h
  have hblkA : ∀ b, r.blk v = some b → After w w' E0 outs vs b ∧ ¬ E0.rd b := by
    intro b hb
    obtain ⟨i, hi, hod'⟩ := hrb b hb
    obtain ⟨h1, h2⟩ := (hR2.rep i).blk_lt hi
    refine ⟨⟨?_, fun ho => ?_⟩, fun hrd => ?_⟩
    · rcases h1 with h | h
      · exact .inr (.inr ⟨h, h2⟩)
      · exact .inr (.inl h)
    · obtain ⟨j, o, h3, h4, h5⟩ := hno b ho
      have := hR2.inj i j b hi h5
      subst this
      exact h4 (outDead_at hod' h3)
    · rcases h1 with h | h
      · have := hE0.rd b hrd; omega
      · exact hE0.apart b hrd h
  have hnb : ∀ b, Shared E w.heap.size w' s2 (tmOf a') b → r.blk v ≠ some b := by
    intro b hb h
    obtain ⟨i, hi, _⟩ := hrb b h
    exact hb.2.2 i hi
  have hfin : a'.defers = [] ∧ ∃ v, (results fn a'.tmps).run P w' = .ok v w' ∧ ∃ v', Ending.returned v = .returned v' ∧ Kept E0.lent w w' ∧ RepR w' (After w w' E0 outs vs) r v' ∧ (∀ b, r.blk v' = some b → After w w' E0 outs vs b ∧ ¬ E0.rd b) ∧
      ∀ (j : Nat) (o : AV) (u : Value), outs[j]? = some o → vs[j]? = some u → RepAV w' (fun b => After w w' E0 outs vs b ∧ r.blk v' ≠ some b) E0.lent deadSt noTm o u := by
    refine ⟨hR'.defers, v, hrun, v, rfl, hR'.below, hrep.mono (fun b hb => hb.elim (hafter b) (fun h => (hblkA b h).1)) (fun _ _ => rfl), hblkA, fun j o u h1 h2 => ?_⟩
    by_cases hne : o = .dead
    · subst hne; trivial
    obtain ⟨h3, h4⟩ := houts j o u h1 h2 hne
    have hlt : j < args.length := by rw [hfl]; exact (List.getElem?_eq_some_iff.1 h1).1
    obtain ⟨x, hx⟩ : ∃ x, args[j]? = some x := ⟨_, List.getElem?_eq_getElem hlt⟩
    have hff := hfa j x o hx h1
    obtain ⟨u', hu', hbx, hrx⟩ := hargs.rep j x hx
    rw [h2] at hu'
    injection hu' with hu'
    subst hu'
    have hr := hR2.rep j
    rw [h3, h4] at hr
    have hbo : o.bare = true := by cases x <;> cases o <;> first | rfl | (simp [outFits] at hff)
    exact hr.bare hbo (fun b hb => ⟨hafter b hb, hnb b hb⟩) (fun b hb _ => (hrx.blk_lt (blk_out hff hrx hb)).1)
  rcases he with rfl | rfl
  · exact hfin
  · exact hfin
theorem ACalls.ofM {f : FuncId} {args : List XV} {r : RV} (h : ACallsM P f (args.map .x) r (args.map fun _ => .dead)) : ACalls P f args r := by
  refine ⟨h.1, fun w S vs hS hargs => ?_⟩
  have hnob : ∀ (j : Nat) (x : AV) (u : Value) (b : Nat), (args.map AV.x)[j]? = some x → blkOf x u = some b → False := by
    intro j x u b hj hb
    rw [List.getElem?_map] at hj
    cases hx : args[j]? with
    | none => rw [hx] at hj; cases hj
    | some y => rw [hx] at hj; injection hj with hj; subst hj; cases hb
  have hnow : ∀ b, ¬ Owned (args.map fun _ => AV.dead) vs b := by
    rintro b ⟨j, o, u, h1, _, h3⟩
    rw [List.getElem?_map] at h1
    cases hx : args[j]? with
    | none => rw [hx] at h1; cases h1
    | some y => rw [hx] at h1; injection h1 with h1; subst h1; cases h3
  refine (h.2.2 w ⟨S, fun _ => False, 0, fun _ => undef⟩ vs hS ⟨by simpa using hargs.1, fun j x hj => ?_, fun i j x y u v b h1 _ h3 => (hnob i x u b h1 h3).elim, fun b hb => hb.elim⟩).mono ?_
  · rw [List.getElem?_map] at hj
    cases hx : args[j]? with
    | none => rw [hx] at hj; cases hj
    | some y =>
      rw [hx] at hj
      injection hj with hj
      subst hj
      obtain ⟨u, hu, hr⟩ := hargs.2 j y hx
      exact ⟨u, hu, rfl, hr⟩
  · rintro e w' ⟨v, rfl, hk, hr, hb, _⟩
    refine ⟨v, rfl, hk.below (fun _ h => h), hr.mono (fun b hb => ?_) (fun _ _ => rfl), fun b hbb => ?_⟩
    · rcases hb.1 with h | h | h
      · exact .inl h
      · exact h.elim
      · exact .inr h
    · obtain ⟨⟨h1, _⟩, h2⟩ := hb b hbb
      rcases h1 with h | h | h
      · exact absurd h h2
      · exact h.elim
      · exact h.1
theorem outsIn_dead {s : St} {α : Type} : ∀ (l : List α) (k : Nat), outsIn s k (l.map fun _ => AV.dead)
  | [], _ => trivial
  | _ :: r, k => ⟨trivial, outsIn_dead r (k + 1)⟩
theorem outDead_dead {α : Type} : ∀ (l : List α) (i : Nat), outDead (l.map fun _ => AV.dead) i
  | [], _ => by unfold outDead; trivial
  | _ :: r, 0 => rfl
  | _ :: r, i + 1 => outDead_dead r i
theorem outsFit_dead : ∀ l : List XV, outsFit (l.map .x) (l.map fun _ => AV.dead) = true
  | [] => rfl
  | _ :: r => by simp [outsFit, outFits, outsFit_dead r]
theorem ACallsM.mk {f : FuncId} {fn : Func} {c : Code} {args : List AV} {r : RV} {outs : List AV} (hm : P.follows .mixedOrders = true) (hf : P.funcs[f]? = some fn) (hname : (fn.name == "runtime.NumGoroutine") = false)
    (hb : fn.body = some c) (hok : codeOk c = true) (hod : codeDst (liveLen outs) c = true) (hl : args.length ≤ fn.ntmps) (hfit : outsFit args outs = true) {Qa : Exit → St → Prop}
    (hQa : ∀ e s, Qa e s → (e = .normal ∨ e = .ret) ∧ giveR P s fn.results.toList outs r ∧ outsIn (endSt s fn.results.toList r) 0 outs)
    (h : (∀ x ∈ args, x.ok) → awp P fn.ntmps c Qa (initM args 0)) : ACallsM P f args r outs := ACallsM.mkL hm hf hname hb hok hod hl hfit [] [] (.inl rfl) hQa h
theorem ACalls.mk {f : FuncId} {fn : Func} {c : Code} {args : List XV} {r : RV} (hm : P.follows .mixedOrders = true) (hf : P.funcs[f]? = some fn) (hname : (fn.name == "runtime.NumGoroutine") = false)
    (hb : fn.body = some c) (hok : codeOk c = true) (hl : args.length ≤ fn.ntmps)
    (h : (∀ x ∈ args, x.ok) → awp P fn.ntmps c (fun e s => (e = .normal ∨ e = .ret) ∧ giveR P s fn.results.toList [] r) (initSt args 0)) : ACalls P f args r := by
  refine ACalls.ofM (ACallsM.mk hm hf hname hb hok (by rw [liveLen_dead]; exact codeDst_zero c) (by simpa using hl) (outsFit_dead args) (Qa := fun e s => (e = .normal ∨ e = .ret) ∧ giveR P s fn.results.toList [] r) (fun e s hq => ⟨hq.1, ?_, outsIn_dead args 0⟩) (fun hx => by rw [← initSt_M]; exact h (fun x hx' => hx (.x x) (List.mem_map.2 ⟨x, hx', rfl⟩))))
  have hgive := hq.2
  unfold giveR at hgive ⊢
  split at hgive
  · split at hgive
    · unfold ownV at hgive ⊢
      split at hgive
      · exact ⟨hgive.1, hgive.2.1, hgive.2.2.1, outDead_dead args _⟩
      · unfold ownAt at hgive ⊢
        split at hgive
        · exact ⟨hgive.1, hgive.2.1, hgive.2.2.1, outDead_dead args _⟩
        · exact hgive.elim
      · unfold ownAt at hgive ⊢
        split at hgive
        · exact ⟨hgive.1, hgive.2.1, hgive.2.2.1, outDead_dead args _⟩
        · exact hgive.elim
      · exact hgive
      · exact hgive.elim
    · exact hgive.elim
  · exact hgive
end
end Go.Ab
