/-
  Code over abstract slots; a function's contract out of its code.
-/
import Derived.Test.YtdciogjhkckigaaDoorAbWp
import Derived.Test.YtdciogjhkckigaaDoorAbOk
import Derived.Deep.LoopGhost
namespace Go.Ab
open Go Go.RowKit

def thenA (next : St → Prop) (Q : Exit → St → Prop) : Exit → St → Prop
  | .normal, s => next s
  | e, s => Q e s

def inBlockA (id : Nat) (Q : Exit → St → Prop) : Exit → St → Prop
  | .exit id', s => if id' = id then Q .normal s else Q (.exit id') s
  | e, s => Q e s

/-- s' tells no more than s: a slot is told as it was, or not at all; nil is a slice of the call's own with nothing in it. -/
def Weak (s s' : St) : Prop :=
  (∀ i, s' i = s i ∨ s' i = .dead ∨ (s i = .x (.one .nil) ∧ ∃ e size, s' i = .own e size [])) ∧ ∀ i j, (s' i).refs j = true → s' j = s j

def acond (c : Prop × AV) (A B : Prop) : Prop :=
  match c with
  | (p, .x (.one (.bool b))) => p ∧ (b = true → A) ∧ (b = false → B)
  | _ => False

/-- A loop: what holds at each round's head (told by a ghost x), and a measure of x that each round lowers. 'body': what a round comes to. -/
def ALoop (body : (Exit → St → Prop) → St → Prop) (Q : Exit → St → Prop) (s : St) : Prop :=
  ∃ (ι : Type) (I : ι → St) (ok : ι → Prop) (μ : ι → Nat), (∃ x, ok x ∧ Weak s (I x)) ∧ ∀ x, ok x → body (thenA (fun s' => ∃ y, ok y ∧ μ y < μ x ∧ Weak s' (I y)) Q) (I x)

def awp (P : Program) (n : Nat) : Code → (Exit → St → Prop) → St → Prop
  | .skip, Q, s => Q .normal s
  | .label _, Q, s => Q .normal s
  | .region _ ops draw, Q, s => match draw with
    | false => aops P n ops ops.toList s (Q .normal)
    | true => aopsD P n ops ops.toList s (Q .normal)
  | .seq a b, Q, s => awp P n a (thenA (awp P n b Q) Q) s
  | .cond c a b, Q, s => acond (sv s c) (awp P n a Q s) (awp P n b Q s)
  | .block id c, Q, s => awp P n c (inBlockA id Q) s
  | .loop c, Q, s => ALoop (awp P n c) Q s
  | .exit id, Q, s => Q (.exit id) s
  | .ret, Q, s => Q .ret s
  | _, _, _ => False

def codeOk : Code → Bool
  | .region _ ops draw => match draw with
    | true => drawOk ops
    | false => true
  | .seq a b => codeOk a && codeOk b
  | .cond _ a b => codeOk a && codeOk b
  | .block _ c => codeOk c
  | .loop c => codeOk c
  | _ => true

section
variable {P : Program} {S0 : Nat → Prop} {w0 w : World} {n : Nat} {s : St} {a : Act}

theorem Rel.weak {s' : St} (hR : Rel S0 w0 n s a w) (h : Weak s s') : Rel S0 w0 n s' a w := by
  obtain ⟨h1, h2⟩ := h
  have hblk : ∀ j c, blkOf (s' j) (tmOf a j) = some c → blkOf (s j) (tmOf a j) = some c := by
    intro j c hc
    rcases h1 j with e | e | ⟨e, e', size, e2⟩
    · rw [e] at hc; exact hc
    · rw [e] at hc; cases hc
    · rw [e2] at hc
      have hn := hR.rep j
      rw [e] at hn
      have := rep_nil hn
      rw [this] at hc
      simp [blkOf, Value.ownBlock] at hc
  have hsub : ∀ c, Shared S0 w0.heap.size w s (tmOf a) c → Shared S0 w0.heap.size w s' (tmOf a) c := fun c hc => ⟨hc.1, hc.2.1, fun j hj => hc.2.2 j (hblk j c hj)⟩
  refine ⟨hR.defers, hR.size, hR.below, hR.lt, fun i => ?_, fun i j b hi hj => hR.inj i j b (hblk i b hi) (hblk j b hj), fun i hi => ?_, fun i j hij => ?_⟩
  · rcases h1 i with e | e | ⟨e, e', size, e2⟩
    · rw [e]
      refine (hR.rep i).mono hsub (fun _ _ => rfl) (fun _ _ => rfl) (fun k hk => ?_)
      have := h2 i k (by rw [e]; exact AV.refs_of_refsL hk)
      exact ⟨rfl, fun h => by rw [this]; exact h, fun c hc => by rw [this]; exact ⟨hc, rfl⟩⟩
    · rw [e]; trivial
    · rw [e2]
      have hn := hR.rep i
      rw [e] at hn
      rw [rep_nil hn]
      exact ⟨[], World.ownsRow_nil w _ _ _, ⟨rfl, fun j c hj => by simp at hj⟩, fun x hx => (by cases hx), by simp⟩
  · rcases h1 i with e | e | ⟨e, e', size, e2⟩
    · rw [e]; exact hR.out i hi
    · exact e
    · rw [hR.out i hi] at e; cases e
  · rw [h2 i j hij]
    rcases h1 i with e | e | ⟨e, e', size, e2⟩
    · rw [e] at hij; exact hR.wf i j hij
    · rw [e] at hij; cases hij
    · rw [e2] at hij; cases hij

theorem awp_ok (hm : P.follows .mixedOrders = true) : ∀ (c : Code) (Q : Exit → St → Prop) (Q' : Exit → Act → World → Prop) (s : St) (a : Act) (w : World), codeOk c = true → Rel S0 w0 n s a w → awp P n c Q s →
    (∀ e s' a' w', Rel S0 w0 n s' a' w' → Q e s' → Q' e a' w') → c.wp P Q' a w := by
  intro c
  induction c with
  | skip => intro Q Q' s a w _ hR h hQ; exact wp_skip (hQ _ s a w hR h)
  | label l => intro Q Q' s a w _ hR h hQ; exact wp_label (hQ _ s a w hR h)
  | exit id => intro Q Q' s a w _ hR h hQ; exact wp_exit (hQ _ s a w hR h)
  | ret => intro Q Q' s a w _ hR h hQ; exact wp_ret (hQ _ s a w hR h)
  | region id ops draw =>
    intro Q Q' s a w hok hR h hQ
    cases draw with
    | false => exact wp_region_list (aops_ok ops.toList s a w hR h (fun s' a' w' hR' hk => hQ _ s' a' w' hR' hk))
    | true => exact region_draw_ok hm hok hR h (fun s' a' w' hR' hk => hQ _ s' a' w' hR' hk)
  | seq x y ihx ihy =>
    intro Q Q' s a w hok hR h hQ
    simp only [codeOk, Bool.and_eq_true] at hok
    refine wp_seq (ihx _ _ s a w hok.1 hR h (fun e s' a' w' hR' hq => ?_))
    cases e with
    | normal => exact ihy Q Q' s' a' w' hok.2 hR' hq hQ
    | _ => exact hQ _ s' a' w' hR' hq
  | cond c x y ihx ihy =>
    intro Q Q' s a w hok hR h hQ
    simp only [codeOk, Bool.and_eq_true] at hok
    simp only [awp] at h
    unfold acond at h
    split at h
    · rename_i p b e
      obtain ⟨hp, ht, hf⟩ := h
      have hv := hR.sv c (sv_cond e hp)
      rw [e] at hv
      have hv' := rep_bool hv
      exact wp_cond_split hv' (fun hb => ihx Q Q' s a w hok.1 hR (ht hb) hQ) (fun hb => ihy Q Q' s a w hok.2 hR (hf hb) hQ)
    · exact h.elim
  | block id c ih =>
    intro Q Q' s a w hok hR h hQ
    refine wp_block (ih _ _ s a w hok hR h (fun e s' a' w' hR' hq => ?_))
    cases e with
    | exit id' =>
      simp only [inBlockA] at hq
      simp only [Exit.inBlock]
      split
      · rename_i hid; rw [if_pos hid] at hq; exact hQ _ s' a' w' hR' hq
      · rename_i hid; rw [if_neg hid] at hq; exact hQ _ s' a' w' hR' hq
    | _ => exact hQ _ s' a' w' hR' hq
  | loop c ih =>
    intro Q Q' s a w hok hR h hQ
    obtain ⟨ι, I, ok, μ, ⟨x0, hx0, hw0⟩, hround⟩ := h
    refine wp_loop_ghost (fun m a w => ∃ x, ok x ∧ μ x = m ∧ Rel S0 w0 n (I x) a w) (μ x0) ⟨x0, hx0, rfl, hR.weak hw0⟩ ?_
    rintro m a1 w1 ⟨x, hx, rfl, hR1⟩
    refine ih _ _ (I x) a1 w1 hok hR1 (hround x hx) (fun e s' a' w' hR' hq => ?_)
    cases e with
    | normal =>
      obtain ⟨y, hy, hlt, hwk⟩ := hq
      exact ⟨μ y, hlt, y, hy, rfl, hR'.weak hwk⟩
    | _ => exact hQ _ s' a' w' hR' hq
  | _ => intro Q Q' s a w _ _ h _; exact h.elim

/-! ### What a function hands back -/
def resX (P : Program) (s : St) : ResultVar → Prop × Option XV
  | .tmp t => argX s (.tmp t)
  | .cell t ty => match aload (tk P ty) (zeroX P ty) (sv s (.tmp t)).1 (mem s (sv s (.tmp t)).2) with
    | (p, .x xv) => (p, some xv)
    | _ => (False, none)

def resXs (P : Program) (s : St) : List ResultVar → Prop × Option (List XV)
  | [] => (True, some [])
  | x :: r => match resX P s x, resXs P s r with
    | (p, some v), (q, some vs) => (p ∧ q, some (v :: vs))
    | _, _ => (False, none)

/-- The function hands back r. -/
def Gives (P : Program) (s : St) (rs : List ResultVar) (r : RV) : Prop :=
  match resXs P s rs with
  | (p, some [x]) => p ∧ r = .x x
  | (p, some xs) => p ∧ r = .tup xs
  | _ => False

def resM (tmps : Array Value) : ResultVar → Sem Value
  | .tmp t => pure (tmps.getD t undef)
  | .cell t ty => do loadVar ty (← asAddr (tmps.getD t undef))

theorem results_eq (fn : Func) (tmps : Array Value) : results fn tmps = (do
    let vs ← fn.results.mapM (resM tmps)
    pure (if h : vs.size = 1 then vs[0] else .tuple vs)) := rfl

theorem resX_ok (hR : Rel S0 w0 n s a w) {x : ResultVar} {p : Prop} {xv : XV} (h : resX P s x = (p, some xv)) (hp : p) :
    ∃ v, (resM a.tmps x).run P w = .ok v w ∧ RepX w (Lent S0 w0.heap.size w) xv v := by
  cases x with
  | tmp t => exact ⟨_, rfl, argX_ok hR h hp⟩
  | cell t ty =>
    simp only [resX] at h
    split at h
    · rename_i q xv' e
      simp only [Prod.mk.injEq, Option.some.injEq] at h
      obtain ⟨rfl, rfl⟩ := h
      obtain ⟨v, hrun, hrep, _⟩ := aload_ok (P := P) (t := ty) (v := a.eval (.tmp t)) (fun hp cs hm => hR.mem (hR.sv (.tmp t) hp) hm) (by rw [e]; exact hp)
      rw [e] at hrep
      refine ⟨v, ?_, RepX.mono hrep (fun b hb => ⟨hb.1, hb.2.1⟩) (fun _ _ => rfl)⟩
      have he : a.eval (.tmp t) = a.tmps.getD t undef := rfl
      rw [he] at hrun
      show (do loadVar ty (← asAddr (a.tmps.getD t undef)) : Sem Value).run P w = .ok v w
      generalize a.tmps.getD t undef = u at hrun ⊢
      unfold Instr.loadAt Instr.sureAddr at hrun
      unfold asAddr
      cases u with
      | pointer o => cases o with
        | some ad => exact hrun
        | none => simp at hrun
      | _ => simp at hrun
    · simp at h

theorem resXs_ok (hR : Rel S0 w0 n s a w) : ∀ {rs : List ResultVar} {p : Prop} {xs : List XV}, resXs P s rs = (p, some xs) → p →
    ∃ vs : List Value, (rs.mapM (resM a.tmps)).run P w = .ok vs w ∧ vs.length = xs.length ∧ ∀ (j : Nat) (x : XV), xs[j]? = some x → ∃ u, vs[j]? = some u ∧ RepX w (Lent S0 w0.heap.size w) x u := by
  intro rs
  induction rs with
  | nil =>
    intro p xs h _
    simp only [resXs, Prod.mk.injEq, Option.some.injEq] at h
    obtain ⟨_, rfl⟩ := h
    exact ⟨[], rfl, rfl, fun j x hj => by simp at hj⟩
  | cons x r ih =>
    intro p xs h hp
    simp only [resXs] at h
    split at h
    · rename_i q v q' vs e1 e2
      simp only [Prod.mk.injEq, Option.some.injEq] at h
      obtain ⟨rfl, rfl⟩ := h
      obtain ⟨u, h1, h2⟩ := resX_ok hR e1 hp.1
      obtain ⟨us, h3, h4, h5⟩ := ih e2 hp.2
      refine ⟨u :: us, ?_, by simp [h4], fun j x' hj => ?_⟩
      · simp only [List.mapM_cons, Sem.run_bind, h1, h3, Result.andThen_ok, Sem.run_pure]
      · cases j with
        | zero => simp at hj; subst hj; exact ⟨u, rfl, h2⟩
        | succ j => simp only [List.getElem?_cons_succ] at hj; exact h5 j x' hj
    · simp at h

theorem gives_ok (hR : Rel S0 w0 n s a w) {fn : Func} {r : RV} (h : Gives P s fn.results.toList r) : ∃ v, (results fn a.tmps).run P w = .ok v w ∧ RepR w (Lent S0 w0.heap.size w) r v := by
  have key : ∀ {p : Prop} {xs : List XV}, resXs P s fn.results.toList = (p, some xs) → p → ∃ vs : List Value, (results fn a.tmps).run P w = .ok (if h : vs.length = 1 then vs[0] else .tuple vs.toArray) w ∧
      vs.length = xs.length ∧ ∀ (j : Nat) (x : XV), xs[j]? = some x → ∃ u, vs[j]? = some u ∧ RepX w (Lent S0 w0.heap.size w) x u := by
    intro p xs e hp
    obtain ⟨vs, h1, h2, h3⟩ := resXs_ok hR e hp
    refine ⟨vs, ?_, h2, h3⟩
    rw [results_eq, ← Array.toArray_toList (xs := fn.results), List.mapM_toArray]
    simp only [Sem.run_bind, Sem.run_map, h1, Result.andThen_ok, Sem.run_pure]
    congr 1
  unfold Gives at h
  split at h
  · rename_i p x e
    obtain ⟨hp, rfl⟩ := h
    obtain ⟨vs, h1, h2, h3⟩ := key e hp
    have hl : vs.length = 1 := by simpa using h2
    rw [dif_pos hl] at h1
    obtain ⟨u, hu, hr⟩ := h3 0 x rfl
    refine ⟨_, h1, ?_⟩
    have : vs[0] = u := by rw [List.getElem?_eq_getElem (by omega)] at hu; injection hu
    rw [this]; exact hr
  · rename_i p xs hne e
    obtain ⟨hp, rfl⟩ := h
    obtain ⟨vs, h1, h2, h3⟩ := key e hp
    have hl : ¬ vs.length = 1 := by
      intro hl
      rw [hl] at h2
      obtain ⟨y, hy⟩ := List.length_eq_one_iff.1 h2.symm
      exact hne y hy
    rw [dif_neg hl] at h1
    exact ⟨_, h1, vs.toArray, rfl, by simpa using h2, fun j x hj => by simpa using h3 j x hj⟩
  · exact h.elim

/-- The slots when the function begins. -/
def initSt : List XV → Nat → St
  | [], _ => fun _ => .dead
  | x :: r, k => fun i => if i = k then .x x else initSt r (k + 1) i

theorem initSt_at : ∀ (args : List XV) (k i : Nat), initSt args k i = match (if k ≤ i then args[i - k]? else none) with | some x => .x x | none => .dead
  | [], k, i => by simp [initSt]
  | x :: r, k, i => by
    simp only [initSt]
    by_cases h : i = k
    · subst h; simp
    · rw [if_neg h, initSt_at r (k + 1) i]
      by_cases hk : k ≤ i
      · have h1 : k + 1 ≤ i := by omega
        have h2 : i - k = (i - (k + 1)) + 1 := by omega
        rw [if_pos h1, if_pos hk, h2]
        simp
      · rw [if_neg (by omega), if_neg hk]

/-! ### What holds of whatever is read -/
mutual
def CV.ok : CV → Prop
  | .str l => l.length ≤ maxLen
  | .list size xs => xs.length ≤ maxLen ∧ CV.okAll size xs
  | _ => True
def CV.okAll (size : Nat) : List (List CV) → Prop
  | [] => True
  | x :: r => x.length = size ∧ CV.okL x ∧ CV.okAll size r
def CV.okL : List CV → Prop
  | [] => True
  | c :: r => c.ok ∧ CV.okL r
end

def XV.ok : XV → Prop
  | .one c => c.ok
  | .agg cs => CV.okL cs

theorem okL_mem : ∀ {cs : List CV}, (∀ c ∈ cs, c.ok) → CV.okL cs
  | [], _ => by simp [CV.okL]
  | c :: r, h => by
    simp only [CV.okL]
    exact ⟨h c (by simp), okL_mem (fun c' hc => h c' (by simp [hc]))⟩

theorem okAll_mem {size : Nat} : ∀ {xs : List (List CV)}, (∀ x ∈ xs, x.length = size) → (∀ x ∈ xs, ∀ c ∈ x, CV.ok c) → CV.okAll size xs
  | [], _, _ => by simp [CV.okAll]
  | x :: r, h, k => by
    simp only [CV.okAll]
    exact ⟨h x (by simp), okL_mem (k x (by simp)), okAll_mem (fun y hy => h y (by simp [hy])) (fun y hy => k y (by simp [hy]))⟩

theorem RepC.ok {S : Nat → Prop} {c : CV} {v : Value} (h : RepC w S c v) : c.ok := by
  induction h with
  | str l h => simpa only [CV.ok] using h
  | empty a cap size h => simp only [CV.ok]
  | clo f caps U h ih => simp only [CV.ok]
  | list0 a cap size h hn => simp only [CV.ok, CV.okAll, List.length_nil]; exact ⟨Nat.zero_le _, trivial⟩
  | list ad cap size xs U hs hsp hc hm hx hU hr ih =>
    simp only [CV.ok]
    refine ⟨by omega, okAll_mem hx (fun x hx' c hc' => ?_)⟩
    obtain ⟨j, hj⟩ := List.getElem?_of_mem (List.mem_flatten.2 ⟨x, hx', hc'⟩ : c ∈ xs.flatten)
    exact ih j c hj
  | _ => simp only [CV.ok]

theorem RepX.ok {S : Nat → Prop} {x : XV} {v : Value} (h : RepX w S x v) : x.ok := by
  cases x with
  | one c => exact RepC.ok h
  | agg cs =>
    obtain ⟨us, _, hl⟩ := h
    refine okL_mem (fun c hc => ?_)
    obtain ⟨j, hj⟩ := List.getElem?_of_mem hc
    obtain ⟨u, _, hr⟩ := hl.2 j c hj
    exact hr.ok

def givesW (r : RV) (q : Prop × Option (List XV)) : Prop := match q with
  | (p, some [x]) => p ∧ okR r (.x x)
  | (p, some xs) => p ∧ okR r (.tup xs)
  | _ => False
theorem givesW_ex {s : St} {rs : List ResultVar} {r : RV} (h : givesW r (resXs P s rs)) : ∃ r', Gives P s rs r' ∧ okR r r' := by
  unfold givesW at h
  unfold Gives
  split at h
  · exact ⟨_, ⟨h.1, rfl⟩, h.2⟩
  · rename_i p xs hne e
    refine ⟨.tup xs, ?_, h.2⟩
    cases xs with
    | nil => exact ⟨h.1, rfl⟩
    | cons x r => cases r with
      | nil => exact absurd rfl (hne x)
      | cons y r => exact ⟨h.1, rfl⟩
  · exact h.elim

/-- THE CONTRACT OF A FUNCTION OUT OF ITS CODE. -/
theorem ACalls.mk {f : FuncId} {fn : Func} {c : Code} {args : List XV} {r : RV} (hm : P.follows .mixedOrders = true) (hf : P.funcs[f]? = some fn) (hname : (fn.name == "runtime.NumGoroutine") = false)
    (hb : fn.body = some c) (hok : codeOk c = true) (hl : args.length ≤ fn.ntmps)
    (h : (∀ x ∈ args, x.ok) → awp P fn.ntmps c (fun e s => (e = .normal ∨ e = .ret) ∧ givesW r (resXs P s fn.results.toList)) (initSt args 0)) : ACalls P f args r := by
  refine ⟨⟨fn, hf, hname, by rw [hb]; rfl⟩, fun w S vs hS hargs => ?_⟩
  have hargok : ∀ x ∈ args, x.ok := by
    intro x hx
    obtain ⟨j, hj⟩ := List.getElem?_of_mem hx
    obtain ⟨u, _, hr⟩ := hargs.2 j x hj
    exact hr.ok
  refine calls_of_wp hf hb ?_
  have hsz : vs.size ≤ fn.ntmps := by rw [hargs.1]; exact hl
  have htm : ∀ i, tmOf { tmps := vs ++ Array.replicate (fn.ntmps - vs.size) undef, defers := [] } i = (vs[i]?).getD undef := by
    intro i
    simp only [tmOf, Array.getD_eq_getD_getElem?, Array.getElem?_append]
    split
    · rfl
    · rename_i hi
      rw [Array.getElem?_eq_none (by omega : vs.size ≤ i), Array.getElem?_replicate]
      split <;> rfl
  have hinit : ∀ i, initSt args 0 i = match args[i]? with | some x => .x x | none => .dead := fun i => by rw [initSt_at]; simp
  have hno : ∀ i v, blkOf (initSt args 0 i) v = none := by
    intro i v
    rw [hinit]
    cases args[i]? <;> rfl
  have hnr : ∀ i j, (initSt args 0 i).refs j = false := by
    intro i j
    rw [hinit]
    cases args[i]? <;> rfl
  have hR : Rel S w fn.ntmps (initSt args 0) { tmps := vs ++ Array.replicate (fn.ntmps - vs.size) undef, defers := [] } w := by
    refine ⟨rfl, by simp; omega, Below.refl _ _, hS, fun i => ?_, fun i j b hi => ?_, fun i hi => ?_, fun i j hij => ?_⟩
    · rw [hinit, htm]
      cases hx : args[i]? with
      | none => trivial
      | some x =>
        obtain ⟨u, hu, hr⟩ := hargs.2 i x hx
        rw [hu]
        exact RepX.mono hr (fun b hb => ⟨.inl hb, hS b hb, fun k hk => by rw [hno] at hk; cases hk⟩) (fun _ _ => rfl)
    · rw [hno] at hi; cases hi
    · rw [hinit, List.getElem?_eq_none (by omega)]
    · rw [hnr] at hij; cases hij
  refine awp_ok hm c _ _ _ _ _ hok hR (h hargok) (fun e s' a' w' hR' hq => ?_)
  obtain ⟨he, hg⟩ := hq
  obtain ⟨r', hg', hok'⟩ := givesW_ex hg
  obtain ⟨v, hrun, hrep'⟩ := gives_ok hR' hg'
  have hrep := okR_rep hok' hrep'
  have hfin : a'.defers = [] ∧ ∃ v, (results fn a'.tmps).run P w' = .ok v w' ∧ ∃ v', Ending.returned v = .returned v' ∧ Below w.heap.size w w' ∧ RepR w' (fun b => S b ∨ (w.heap.size ≤ b ∧ b < w'.heap.size)) r v' :=
    ⟨hR'.defers, v, hrun, v, rfl, hR'.below, hrep.mono (fun b hb => hb.1.elim .inl (fun h => .inr ⟨h, hb.2⟩)) (fun _ _ => rfl)⟩
  rcases he with rfl | rfl
  · exact hfin
  · exact hfin

end
end Go.Ab
