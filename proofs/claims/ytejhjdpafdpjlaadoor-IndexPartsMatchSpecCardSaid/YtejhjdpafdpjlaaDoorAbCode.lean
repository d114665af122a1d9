/-
  Code over abstract slots; a function's contract out of its code.
-/
import Derived.Test.YtejhjdpafdpjlaaDoorAbWp
import Derived.Test.YtejhjdpafdpjlaaDoorAbOk
import Derived.Deep.LoopGhost
namespace Go.Ab
open Go Go.RowKit
set_option linter.unusedSectionVars false
variable [Amb]

def thenA (next : St → Prop) (Q : Exit → St → Prop) : Exit → St → Prop
  | .normal, s => next s
  | e, s => Q e s

def inBlockA (id : Nat) (Q : Exit → St → Prop) : Exit → St → Prop
  | .exit id', s => if id' = id then Q .normal s else Q (.exit id') s
  | e, s => Q e s

/-- s' tells no more than s: a slot is told as it was, or not at all; nil is a slice of the call's own with nothing in it. -/
def Weak (s s' : St) : Prop :=
  (∀ i, s' i = s i ∨ s' i = .dead ∨ (s i = .x (.one .nil) ∧ ∃ e size, s' i = .own e size [])) ∧ ∀ i j, (s' i).refs j = true → s' j = s j

def acond (c : Prop × AV) (A B : Prop) : Prop :=
  match c with
  | (p, .x (.one (.bool b))) => p ∧ (b = true → A) ∧ (b = false → B)
  | _ => False

/-- A loop: what holds at each round's head (told by a ghost x), and a measure of x that each round lowers. 'body': what a round comes to. -/
def ALoop (body : (Exit → St → Prop) → St → Prop) (Q : Exit → St → Prop) (s : St) : Prop :=
  ∃ (ι : Type) (I : ι → St) (ok : ι → Prop) (μ : ι → Nat), (∃ x, ok x ∧ Weak s (I x)) ∧ ∀ x, ok x → body (thenA (fun s' => ∃ y, ok y ∧ μ y < μ x ∧ Weak s' (I y)) Q) (I x)

def awp (P : Program) (n : Nat) : Code → (Exit → St → Prop) → St → Prop
  | .skip, Q, s => Q .normal s
  | .label _, Q, s => Q .normal s
  | .region _ ops draw, Q, s => match draw with
    | false => aops P n ops ops.toList s (Q .normal)
    | true => match wildB ops with
      | true => aopsD P n false ops ops.toList s (Q .normal) ∨ (drawOk true ops = true ∧ aopsD P n true ops ops.toList s (Q .normal))
      | false => aopsD P n false ops ops.toList s (Q .normal)
  | .seq a b, Q, s => awp P n a (thenA (awp P n b Q) Q) s
  | .cond c a b, Q, s => acond (sv s c) (awp P n a Q s) (awp P n b Q s)
  | .block id c, Q, s => awp P n c (inBlockA id Q) s
  | .loop c, Q, s => ALoop (awp P n c) Q s
  | .exit id, Q, s => Q (.exit id) s
  | .ret, Q, s => Q .ret s
  | _, _, _ => False

def codeOk : Code → Bool
  | .region _ ops draw => match draw with
    | true => drawOk false ops
    | false => true
  | .seq a b => codeOk a && codeOk b
  | .cond _ a b => codeOk a && codeOk b
  | .block _ c => codeOk c
  | .loop c => codeOk c
  | _ => true

/-- No operation writes to the first m slots. -/
def dstOk (m : Nat) (o : Oper) : Bool := match o.dst with
  | some d => decide (m ≤ d)
  | none => true
def codeDst (m : Nat) : Code → Bool
  | .region _ ops _ => ops.toList.all (dstOk m)
  | .seq a b => codeDst m a && codeDst m b
  | .cond _ a b => codeDst m a && codeDst m b
  | .block _ c => codeDst m c
  | .loop c => codeDst m c
  | _ => true
theorem dstOk_all {m : Nat} {l : List Oper} (h : l.all (dstOk m) = true) : ∀ o ∈ l, ∀ d, o.dst = some d → m ≤ d := by
  intro o ho d hd
  have := List.all_eq_true.1 h o ho
  unfold dstOk at this
  rw [hd] at this
  exact of_decide_eq_true this
theorem codeDst_zero : ∀ c : Code, codeDst 0 c = true := by
  intro c
  induction c with
  | region id ops draw =>
    refine List.all_eq_true.2 (fun o _ => ?_)
    unfold dstOk
    cases o.dst <;> simp
  | seq a b iha ihb => simp [codeDst, iha, ihb]
  | cond c a b iha ihb => simp [codeDst, iha, ihb]
  | block id c ih => simpa [codeDst] using ih
  | loop c ih => simpa [codeDst] using ih
  | _ => rfl

section
variable {P : Program} {S0 : Env} {w0 w : World} {n : Nat} {s : St} {a : Act}

theorem Rel.weak {s' : St} (hR : Rel S0 w0 n s a w) (h : Weak s s') : Rel S0 w0 n s' a w := by
  obtain ⟨h1, h2⟩ := h
  have hblk : ∀ j c, blkOf (s' j) (tmOf a j) = some c → blkOf (s j) (tmOf a j) = some c := by
    intro j c hc
    rcases h1 j with e | e | ⟨e, e', size, e2⟩
    · rw [e] at hc; exact hc
    · rw [e] at hc; cases hc
    · rw [e2] at hc
      have hn := hR.rep j
      rw [e] at hn
      have := rep_nil hn
      rw [this] at hc
      simp [blkOf, Value.ownBlock] at hc
  have hsub : ∀ c, Shared S0 w0.heap.size w s (tmOf a) c → Shared S0 w0.heap.size w s' (tmOf a) c := fun c hc => ⟨hc.1, hc.2.1, fun j hj => hc.2.2 j (hblk j c hj)⟩
  refine ⟨hR.defers, hR.size, hR.below, hR.lt, fun i => ?_, fun i j b hi hj => hR.inj i j b (hblk i b hi) (hblk j b hj), fun i hi => ?_, fun i j hij => ?_, hR.pin⟩
  · rcases h1 i with e | e | ⟨e, e', size, e2⟩
    · rw [e]
      refine (hR.rep i).mono hsub (fun _ _ => rfl) (fun _ _ => rfl) (fun k hk => ?_)
      have := h2 i k (by rw [e]; exact AV.refs_of_refsL hk)
      exact ⟨rfl, fun h => by rw [this]; exact ⟨h, rfl, rfl⟩, fun c hc => by rw [this]; exact hc⟩
    · rw [e]; trivial
    · rw [e2]
      have hn := hR.rep i
      rw [e] at hn
      rw [rep_nil hn]
      exact ⟨[], World.ownsRow_nil w _ _ _, ⟨rfl, fun j c hj => by simp at hj⟩, fun x hx => (by cases hx), by simp, fun b hb => by cases hb⟩
  · rcases h1 i with e | e | ⟨e, e', size, e2⟩
    · rw [e]; exact hR.out i hi
    · exact e
    · rw [hR.out i hi] at e; cases e
  · rw [h2 i j hij]
    rcases h1 i with e | e | ⟨e, e', size, e2⟩
    · rw [e] at hij; exact hR.wf i j hij
    · rw [e] at hij; cases hij
    · rw [e2] at hij; cases hij

theorem awp_ok (hm : P.follows .mixedOrders = true) : ∀ (c : Code) (Q : Exit → St → Prop) (Q' : Exit → Act → World → Prop) (s : St) (a : Act) (w : World), codeOk c = true → codeDst S0.m c = true → Rel S0 w0 n s a w → awp P n c Q s →
    (∀ e s' a' w', Rel S0 w0 n s' a' w' → Q e s' → Q' e a' w') → c.wp P Q' a w := by
  intro c
  induction c with
  | skip => intro Q Q' s a w _ _ hR h hQ; exact wp_skip (hQ _ s a w hR h)
  | label l => intro Q Q' s a w _ _ hR h hQ; exact wp_label (hQ _ s a w hR h)
  | exit id => intro Q Q' s a w _ _ hR h hQ; exact wp_exit (hQ _ s a w hR h)
  | ret => intro Q Q' s a w _ _ hR h hQ; exact wp_ret (hQ _ s a w hR h)
  | region id ops draw =>
    intro Q Q' s a w hok hod hR h hQ
    cases draw with
    | false => exact wp_region_list (aops_ok ops.toList s a w (dstOk_all hod) hR h (fun s' a' w' hR' hk => hQ _ s' a' w' hR' hk))
    | true =>
      have plain := fun h => region_draw_ok (P := P) (m := false) (id := id) (Q := Q') hm hok (dstOk_all hod) hR (K := Q .normal) h (fun s' a' w' hR' hk => hQ _ s' a' w' hR' hk)
      simp only [awp] at h
      split at h
      · rcases h with h | ⟨h1, h2⟩
        · exact plain h
        · exact region_draw_ok (m := true) hm h1 (dstOk_all hod) hR h2 (fun s' a' w' hR' hk => hQ _ s' a' w' hR' hk)
      · exact plain h
  | seq x y ihx ihy =>
    intro Q Q' s a w hok hod hR h hQ
    simp only [codeOk, Bool.and_eq_true] at hok
    simp only [codeDst, Bool.and_eq_true] at hod
    refine wp_seq (ihx _ _ s a w hok.1 hod.1 hR h (fun e s' a' w' hR' hq => ?_))
    cases e with
    | normal => exact ihy Q Q' s' a' w' hok.2 hod.2 hR' hq hQ
    | _ => exact hQ _ s' a' w' hR' hq
  | cond c x y ihx ihy =>
    intro Q Q' s a w hok hod hR h hQ
    simp only [codeOk, Bool.and_eq_true] at hok
    simp only [codeDst, Bool.and_eq_true] at hod
    simp only [awp] at h
    unfold acond at h
    split at h
    · rename_i p b e
      obtain ⟨hp, ht, hf⟩ := h
      have hv := hR.sv c (sv_cond e hp)
      rw [e] at hv
      have hv' := rep_bool hv
      exact wp_cond_split hv' (fun hb => ihx Q Q' s a w hok.1 hod.1 hR (ht hb) hQ) (fun hb => ihy Q Q' s a w hok.2 hod.2 hR (hf hb) hQ)
    · exact h.elim
  | block id c ih =>
    intro Q Q' s a w hok hod hR h hQ
    refine wp_block (ih _ _ s a w hok hod hR h (fun e s' a' w' hR' hq => ?_))
    cases e with
    | exit id' =>
      simp only [inBlockA] at hq
      simp only [Exit.inBlock]
      split
      · rename_i hid; rw [if_pos hid] at hq; exact hQ _ s' a' w' hR' hq
      · rename_i hid; rw [if_neg hid] at hq; exact hQ _ s' a' w' hR' hq
    | _ => exact hQ _ s' a' w' hR' hq
  | loop c ih =>
    intro Q Q' s a w hok hod hR h hQ
    obtain ⟨ι, I, ok, μ, ⟨x0, hx0, hw0⟩, hround⟩ := h
    refine wp_loop_ghost (fun m a w => ∃ x, ok x ∧ μ x = m ∧ Rel S0 w0 n (I x) a w) (μ x0) ⟨x0, hx0, rfl, hR.weak hw0⟩ ?_
    rintro m a1 w1 ⟨x, hx, rfl, hR1⟩
    refine ih _ _ (I x) a1 w1 hok hod hR1 (hround x hx) (fun e s' a' w' hR' hq => ?_)
    cases e with
    | normal =>
      obtain ⟨y, hy, hlt, hwk⟩ := hq
      exact ⟨μ y, hlt, y, hy, rfl, hR'.weak hwk⟩
    | _ => exact hQ _ s' a' w' hR' hq
  | _ => intro Q Q' s a w _ _ _ h _; exact h.elim

/-! ### What a function hands back -/
def resX (P : Program) (s : St) : ResultVar → Prop × Option XV
  | .tmp t => argX s (.tmp t)
  | .cell t ty => match aload (tk P ty) (zeroX P ty) (sv s (.tmp t)).1 (mem s (sv s (.tmp t)).2) with
    | (p, .x xv) => (p, some xv)
    | _ => (False, none)

def resXs (P : Program) (s : St) : List ResultVar → Prop × Option (List XV)
  | [] => (True, some [])
  | x :: r => match resX P s x, resXs P s r with
    | (p, some v), (q, some vs) => (p ∧ q, some (v :: vs))
    | _, _ => (False, none)

/-- The function hands back r. -/
def Gives (P : Program) (s : St) (rs : List ResultVar) (r : RV) : Prop :=
  match resXs P s rs with
  | (p, some [x]) => p ∧ r = .x x
  | (p, some xs) => p ∧ r = .tup xs
  | _ => False

def resM (tmps : Array Value) : ResultVar → Sem Value
  | .tmp t => pure (tmps.getD t undef)
  | .cell t ty => do loadVar ty (← asAddr (tmps.getD t undef))

theorem results_eq (fn : Func) (tmps : Array Value) : results fn tmps = (do
    let vs ← fn.results.mapM (resM tmps)
    pure (if h : vs.size = 1 then vs[0] else .tuple vs)) := rfl

theorem resX_ok (hR : Rel S0 w0 n s a w) {x : ResultVar} {p : Prop} {xv : XV} (h : resX P s x = (p, some xv)) (hp : p) :
    ∃ v, (resM a.tmps x).run P w = .ok v w ∧ RepX w (Lent S0 w0.heap.size w) xv v := by
  cases x with
  | tmp t => exact ⟨_, rfl, argX_ok hR h hp⟩
  | cell t ty =>
    simp only [resX] at h
    split at h
    · rename_i q xv' e
      simp only [Prod.mk.injEq, Option.some.injEq] at h
      obtain ⟨rfl, rfl⟩ := h
      obtain ⟨v, hrun, hrep, _⟩ := aload_ok (P := P) (t := ty) (v := a.eval (.tmp t)) (fun hp cs hm => hR.mem (hR.sv (.tmp t) hp) hm) (by rw [e]; exact hp)
      rw [e] at hrep
      refine ⟨v, ?_, RepX.mono hrep (fun b hb => ⟨hb.1, hb.2.1⟩) (fun _ _ => rfl)⟩
      have he : a.eval (.tmp t) = a.tmps.getD t undef := rfl
      rw [he] at hrun
      show (do loadVar ty (← asAddr (a.tmps.getD t undef)) : Sem Value).run P w = .ok v w
      generalize a.tmps.getD t undef = u at hrun ⊢
      unfold Instr.loadAt Instr.sureAddr at hrun
      unfold asAddr
      cases u with
      | pointer o => cases o with
        | some ad => exact hrun
        | none => simp at hrun
      | _ => simp at hrun
    · simp at h

theorem resXs_ok (hR : Rel S0 w0 n s a w) : ∀ {rs : List ResultVar} {p : Prop} {xs : List XV}, resXs P s rs = (p, some xs) → p →
    ∃ vs : List Value, (rs.mapM (resM a.tmps)).run P w = .ok vs w ∧ vs.length = xs.length ∧ ∀ (j : Nat) (x : XV), xs[j]? = some x → ∃ u, vs[j]? = some u ∧ RepX w (Lent S0 w0.heap.size w) x u := by
  intro rs
  induction rs with
  | nil =>
    intro p xs h _
    simp only [resXs, Prod.mk.injEq, Option.some.injEq] at h
    obtain ⟨_, rfl⟩ := h
    exact ⟨[], rfl, rfl, fun j x hj => by simp at hj⟩
  | cons x r ih =>
    intro p xs h hp
    simp only [resXs] at h
    split at h
    · rename_i q v q' vs e1 e2
      simp only [Prod.mk.injEq, Option.some.injEq] at h
      obtain ⟨rfl, rfl⟩ := h
      obtain ⟨u, h1, h2⟩ := resX_ok hR e1 hp.1
      obtain ⟨us, h3, h4, h5⟩ := ih e2 hp.2
      refine ⟨u :: us, ?_, by simp [h4], fun j x' hj => ?_⟩
      · simp only [List.mapM_cons, Sem.run_bind, h1, h3, Result.andThen_ok, Sem.run_pure]
      · cases j with
        | zero => simp at hj; subst hj; exact ⟨u, rfl, h2⟩
        | succ j => simp only [List.getElem?_cons_succ] at hj; exact h5 j x' hj
    · simp at h

theorem gives_ok (hR : Rel S0 w0 n s a w) {fn : Func} {r : RV} (h : Gives P s fn.results.toList r) : ∃ v, (results fn a.tmps).run P w = .ok v w ∧ RepR w (Lent S0 w0.heap.size w) r v := by
  have key : ∀ {p : Prop} {xs : List XV}, resXs P s fn.results.toList = (p, some xs) → p → ∃ vs : List Value, (results fn a.tmps).run P w = .ok (if h : vs.length = 1 then vs[0] else .tuple vs.toArray) w ∧
      vs.length = xs.length ∧ ∀ (j : Nat) (x : XV), xs[j]? = some x → ∃ u, vs[j]? = some u ∧ RepX w (Lent S0 w0.heap.size w) x u := by
    intro p xs e hp
    obtain ⟨vs, h1, h2, h3⟩ := resXs_ok hR e hp
    refine ⟨vs, ?_, h2, h3⟩
    rw [results_eq, ← Array.toArray_toList (xs := fn.results), List.mapM_toArray]
    simp only [Sem.run_bind, Sem.run_map, h1, Result.andThen_ok, Sem.run_pure]
    congr 1
  unfold Gives at h
  split at h
  · rename_i p x e
    obtain ⟨hp, rfl⟩ := h
    obtain ⟨vs, h1, h2, h3⟩ := key e hp
    have hl : vs.length = 1 := by simpa using h2
    rw [dif_pos hl] at h1
    obtain ⟨u, hu, hr⟩ := h3 0 x rfl
    refine ⟨_, h1, ?_⟩
    have : vs[0] = u := by rw [List.getElem?_eq_getElem (by omega)] at hu; injection hu
    rw [this]; exact hr
  · rename_i p xs hne e
    obtain ⟨hp, rfl⟩ := h
    obtain ⟨vs, h1, h2, h3⟩ := key e hp
    have hl : ¬ vs.length = 1 := by
      intro hl
      rw [hl] at h2
      obtain ⟨y, hy⟩ := List.length_eq_one_iff.1 h2.symm
      exact hne y hy
    rw [dif_neg hl] at h1
    exact ⟨_, h1, vs.toArray, rfl, by simpa using h2, fun j x hj => by simpa using h3 j x hj⟩
  · exact h.elim

/-- The slots when the function begins. -/
def initSt : List XV → Nat → St
  | [], _ => fun _ => .dead
  | x :: r, k => fun i => if i = k then .x x else initSt r (k + 1) i

theorem initSt_at : ∀ (args : List XV) (k i : Nat), initSt args k i = match (if k ≤ i then args[i - k]? else none) with | some x => .x x | none => .dead
  | [], k, i => by simp [initSt]
  | x :: r, k, i => by
    simp only [initSt]
    by_cases h : i = k
    · subst h; simp
    · rw [if_neg h, initSt_at r (k + 1) i]
      by_cases hk : k ≤ i
      · have h1 : k + 1 ≤ i := by omega
        have h2 : i - k = (i - (k + 1)) + 1 := by omega
        rw [if_pos h1, if_pos hk, h2]
        simp
      · rw [if_neg (by omega), if_neg hk]

/-! ### What holds of whatever is read -/
mutual
def CV.ok : CV → Prop
  | .str l => l.length ≤ maxLen
  | .list size xs => xs.length ≤ maxLen ∧ CV.okAll size xs
  | _ => True
def CV.okAll (size : Nat) : List (List CV) → Prop
  | [] => True
  | x :: r => x.length = size ∧ CV.okL x ∧ CV.okAll size r
def CV.okL : List CV → Prop
  | [] => True
  | c :: r => c.ok ∧ CV.okL r
end

def XV.ok : XV → Prop
  | .one c => c.ok
  | .agg cs => CV.okL cs

theorem okL_mem : ∀ {cs : List CV}, (∀ c ∈ cs, c.ok) → CV.okL cs
  | [], _ => by simp [CV.okL]
  | c :: r, h => by
    simp only [CV.okL]
    exact ⟨h c (by simp), okL_mem (fun c' hc => h c' (by simp [hc]))⟩

theorem okAll_mem {size : Nat} : ∀ {xs : List (List CV)}, (∀ x ∈ xs, x.length = size) → (∀ x ∈ xs, ∀ c ∈ x, CV.ok c) → CV.okAll size xs
  | [], _, _ => by simp [CV.okAll]
  | x :: r, h, k => by
    simp only [CV.okAll]
    exact ⟨h x (by simp), okL_mem (k x (by simp)), okAll_mem (fun y hy => h y (by simp [hy])) (fun y hy => k y (by simp [hy]))⟩

theorem RepC.ok {S : Nat → Prop} {c : CV} {v : Value} (h : RepC w S c v) : c.ok := by
  induction h with
  | str l h => simpa only [CV.ok] using h
  | empty a cap size h => simp only [CV.ok]
  | clo f caps U h ih => simp only [CV.ok]
  | list0 a cap size h hn => simp only [CV.ok, CV.okAll, List.length_nil]; exact ⟨Nat.zero_le _, trivial⟩
  | list ad cap size xs U hs hsp hc hm hx hU hr ih =>
    simp only [CV.ok]
    refine ⟨by omega, okAll_mem hx (fun x hx' c hc' => ?_)⟩
    obtain ⟨j, hj⟩ := List.getElem?_of_mem (List.mem_flatten.2 ⟨x, hx', hc'⟩ : c ∈ xs.flatten)
    exact ih j c hj
  | _ => simp only [CV.ok]

theorem RepX.ok {S : Nat → Prop} {x : XV} {v : Value} (h : RepX w S x v) : x.ok := by
  cases x with
  | one c => exact RepC.ok h
  | agg cs =>
    obtain ⟨us, _, hl⟩ := h
    refine okL_mem (fun c hc => ?_)
    obtain ⟨j, hj⟩ := List.getElem?_of_mem hc
    obtain ⟨u, _, hr⟩ := hl.2 j c hj
    exact hr.ok

def givesW (r : RV) (q : Prop × Option (List XV)) : Prop := match q with
  | (p, some [x]) => p ∧ okR r (.x x)
  | (p, some xs) => p ∧ okR r (.tup xs)
  | _ => False
theorem givesW_ex {s : St} {rs : List ResultVar} {r : RV} (h : givesW r (resXs P s rs)) : ∃ r', Gives P s rs r' ∧ okR r r' := by
  unfold givesW at h
  unfold Gives
  split at h
  · exact ⟨_, ⟨h.1, rfl⟩, h.2⟩
  · rename_i p xs hne e
    refine ⟨.tup xs, ?_, h.2⟩
    cases xs with
    | nil => exact ⟨h.1, rfl⟩
    | cons x r => cases r with
      | nil => exact absurd rfl (hne x)
      | cons y r => exact ⟨h.1, rfl⟩
  · exact h.elim

/-! ### What goes back to the caller -/
def resOp : ResultVar → Operand
  | .tmp t => .tmp t
  | .cell _ _ => .const (.bool true)
def outDead : List AV → Nat → Prop
  | [], _ => True
  | o :: _, 0 => o = .dead
  | _ :: r, i + 1 => outDead r i
def ownAt (outs : List AV) (e z : Nat) (xs : List (List CV)) (i : Nat) (len : Option Nat) : AV → Prop
  | .own e' z' xs' => e' = e ∧ z' = z ∧ xs = (match len with | some k => xs'.take k | none => xs') ∧ outDead outs i
  | _ => False
def ownV (s : St) (outs : List AV) (e z : Nat) (xs : List (List CV)) (t : Nat) : AV → Prop
  | .own e' z' xs' => ownAt outs e z xs t none (.own e' z' xs')
  | .alias i => ownAt outs e z xs i none (s i)
  | .view i _ len true => ownAt outs e z xs i (some len) (s i)
  | .x (.one .nil) => xs = []
  | _ => False
/-- What is handed back. -/
def giveR (P : Program) (s : St) (rs : List ResultVar) (outs : List AV) (r : RV) : Prop :=
  match r with
  | .own e z xs => match rs with
    | [.tmp t] => ownV s outs e z xs t (s t)
    | _ => False
  | r => givesW r (resXs P s rs)
/-- What is written to no more. -/
def endSt (s : St) (rs : List ResultVar) (r : RV) : St :=
  match r with
  | .own _ _ _ => s
  | _ => freezeL s (lends s (rs.map resOp))
def outsIn (s : St) : Nat → List AV → Prop
  | _, [] => True
  | k, o :: r => (match o with | .dead => True | o => s k = o) ∧ outsIn s (k + 1) r

theorem outsIn_at {s : St} : ∀ {k : Nat} {l : List AV}, outsIn s k l → ∀ (j : Nat) (o : AV), l[j]? = some o → o ≠ .dead → s (k + j) = o
  | k, [], _, j, o, h, _ => by simp at h
  | k, o :: r, h, j, o', hj, hne => by
    obtain ⟨h1, h2⟩ := h
    cases j with
    | zero =>
      simp at hj; subst hj
      cases o <;> first | exact h1 | exact absurd rfl hne
    | succ j =>
      simp at hj
      have := outsIn_at h2 j o' hj hne
      rw [← this]; congr 1; omega

theorem outDead_at : ∀ {l : List AV} {i : Nat} {o : AV}, outDead l i → l[i]? = some o → o = .dead
  | [], i, o, _, h => by simp at h
  | a :: r, 0, o, h, h' => by simp at h'; subst h'; exact h
  | a :: r, i + 1, o, h, h' => by simp at h'; exact outDead_at (l := r) h h'

/-- The slots when the function begins. -/
def initM : List AV → Nat → St
  | [], _ => fun _ => .dead
  | x :: r, k => fun i => if i = k then x else initM r (k + 1) i
theorem initM_at : ∀ (args : List AV) (k i : Nat), initM args k i = ((if k ≤ i then args[i - k]? else none).getD .dead)
  | [], k, i => by simp [initM]
  | x :: r, k, i => by
    simp only [initM]
    by_cases h : i = k
    · subst h; simp
    · rw [if_neg h, initM_at r (k + 1) i]
      by_cases hk : k ≤ i
      · have h1 : k + 1 ≤ i := by omega
        have h2 : i - k = (i - (k + 1)) + 1 := by omega
        rw [if_pos h1, if_pos hk, h2]
        simp
      · rw [if_neg (by omega), if_neg hk]
theorem initSt_M : ∀ (args : List XV) (k : Nat), initSt args k = initM (args.map .x) k
  | [], k => rfl
  | x :: r, k => by
    funext i
    simp only [initSt, initM, List.map_cons, initSt_M r (k + 1)]

def AV.ok : AV → Prop
  | .x v => v.ok
  | .box cs => CV.okL cs
  | .own _ size xs => xs.length ≤ maxLen ∧ CV.okAll size xs
  | _ => True

theorem RepL.okL {S : Nat → Prop} {cs : List CV} {us : List Value} (h : RepL w S cs us) : CV.okL cs := by
  refine okL_mem (fun c hc => ?_)
  obtain ⟨j, hj⟩ := List.getElem?_of_mem hc
  obtain ⟨u, _, hr⟩ := h.2 j c hj
  exact hr.ok

theorem RepAV.ok {S : Nat → Prop} {B : Nat → Prop} {s : St} {tm : Nat → Value} {x : AV} {v : Value} (h : RepAV w S B s tm x v) : x.ok := by
  cases x with
  | x v => exact RepX.ok h
  | box cs => obtain ⟨b, arr, t, _, _, hl, _⟩ := h; exact hl.okL
  | own e z xs =>
    obtain ⟨us, _, hl, hx, hm, _⟩ := h
    refine ⟨hm, okAll_mem hx (fun y hy c hc => ?_)⟩
    obtain ⟨j, hj⟩ := List.getElem?_of_mem (List.mem_flatten.2 ⟨y, hy, hc⟩ : c ∈ xs.flatten)
    obtain ⟨u, _, hr⟩ := hl.2 j c hj
    exact hr.ok
  | _ => trivial

theorem resX_frozen (hR : Rel S0 w0 n s a w) {x : ResultVar} {p : Prop} {xv : XV} (h : resX P s x = (p, some xv)) (hp : p) (l : List Nat) (hl : ∀ i ∈ lends s [resOp x], i ∈ l) :
    ∃ v, (resM a.tmps x).run P w = .ok v w ∧ RepX w (Shared S0 w0.heap.size w (freezeL s l) (tmOf a)) xv v := by
  cases x with
  | tmp t => exact ⟨_, rfl, argX_frozen hR h hp l (fun i hi => hl i (lends_mem (x := .tmp t) (by simp [resOp]) hi))⟩
  | cell t ty =>
    have hsub : ∀ b, Shared S0 w0.heap.size w s (tmOf a) b → Shared S0 w0.heap.size w (freezeL s l) (tmOf a) b := fun b hb => ⟨hb.1, hb.2.1, fun k hk => by
      have ho : (freezeL s l k).isOwner = true := by
        cases ho : (freezeL s l k).isOwner with
        | true => rfl
        | false => rw [blkOf_notOwner ho] at hk; cases hk
      rw [freezeL_owner l s k ho] at hk
      exact hb.2.2 k hk⟩
    simp only [resX] at h
    split at h
    · rename_i q xv' e
      simp only [Prod.mk.injEq, Option.some.injEq] at h
      obtain ⟨rfl, rfl⟩ := h
      obtain ⟨v, hrun, hrep, _⟩ := aload_ok (P := P) (t := ty) (v := a.eval (.tmp t)) (fun hp cs hm => hR.mem (hR.sv (.tmp t) hp) hm) (by rw [e]; exact hp)
      rw [e] at hrep
      refine ⟨v, ?_, RepX.mono hrep hsub (fun _ _ => rfl)⟩
      have he : a.eval (.tmp t) = a.tmps.getD t undef := rfl
      rw [he] at hrun
      show (do loadVar ty (← asAddr (a.tmps.getD t undef)) : Sem Value).run P w = .ok v w
      generalize a.tmps.getD t undef = u at hrun ⊢
      unfold Instr.loadAt Instr.sureAddr at hrun
      unfold asAddr
      cases u with
      | pointer o => cases o with
        | some ad => exact hrun
        | none => simp at hrun
      | _ => simp at hrun
    · simp at h

theorem resXs_frozen (hR : Rel S0 w0 n s a w) (l : List Nat) : ∀ {rs : List ResultVar} {p : Prop} {xs : List XV}, resXs P s rs = (p, some xs) → p → (∀ i ∈ lends s (rs.map resOp), i ∈ l) →
    ∃ vs : List Value, (rs.mapM (resM a.tmps)).run P w = .ok vs w ∧ vs.length = xs.length ∧ ∀ (j : Nat) (x : XV), xs[j]? = some x → ∃ u, vs[j]? = some u ∧ RepX w (Shared S0 w0.heap.size w (freezeL s l) (tmOf a)) x u := by
  intro rs
  induction rs with
  | nil =>
    intro p xs h _ _
    simp only [resXs, Prod.mk.injEq, Option.some.injEq] at h
    obtain ⟨_, rfl⟩ := h
    exact ⟨[], rfl, rfl, fun j x hj => by simp at hj⟩
  | cons x r ih =>
    intro p xs h hp hl
    simp only [resXs] at h
    split at h
    · rename_i q v q' vs e1 e2
      simp only [Prod.mk.injEq, Option.some.injEq] at h
      obtain ⟨rfl, rfl⟩ := h
      have hl1 : ∀ i ∈ lends s [resOp x], i ∈ l := by
        intro i hi
        refine hl i ?_
        simp only [List.map_cons, lends] at hi ⊢
        split at hi
        · simp at hi; subst hi; exact List.mem_cons_self
        · simp at hi; subst hi; exact List.mem_cons_self
        · cases hi
      have hl2 : ∀ i ∈ lends s (r.map resOp), i ∈ l := by
        intro i hi
        refine hl i ?_
        simp only [List.map_cons, lends]
        split
        · exact List.mem_cons_of_mem _ hi
        · exact List.mem_cons_of_mem _ hi
        · exact hi
      obtain ⟨u, h1, h2⟩ := resX_frozen hR e1 hp.1 l hl1
      obtain ⟨us, h3, h4, h5⟩ := ih e2 hp.2 hl2
      refine ⟨u :: us, ?_, by simp [h4], fun j x' hj => ?_⟩
      · simp only [List.mapM_cons, Sem.run_bind, h1, h3, Result.andThen_ok, Sem.run_pure]
      · cases j with
        | zero => simp at hj; subst hj; exact ⟨u, rfl, h2⟩
        | succ j => simp only [List.getElem?_cons_succ] at hj; exact h5 j x' hj
    · simp at h

theorem givesW_frozen (hR : Rel S0 w0 n s a w) {fn : Func} {r : RV} (h : givesW r (resXs P s fn.results.toList)) : ∃ v, (results fn a.tmps).run P w = .ok v w ∧ RepR w (Shared S0 w0.heap.size w (freezeL s (lends s (fn.results.toList.map resOp))) (tmOf a)) r v := by
  have key : ∀ {p : Prop} {xs : List XV}, resXs P s fn.results.toList = (p, some xs) → p → ∃ vs : List Value, (results fn a.tmps).run P w = .ok (if h : vs.length = 1 then vs[0] else .tuple vs.toArray) w ∧
      vs.length = xs.length ∧ ∀ (j : Nat) (x : XV), xs[j]? = some x → ∃ u, vs[j]? = some u ∧ RepX w (Shared S0 w0.heap.size w (freezeL s (lends s (fn.results.toList.map resOp))) (tmOf a)) x u := by
    intro p xs e hp
    obtain ⟨vs, h1, h2, h3⟩ := resXs_frozen hR (lends s (fn.results.toList.map resOp)) e hp (fun i hi => hi)
    refine ⟨vs, ?_, h2, h3⟩
    rw [results_eq, ← Array.toArray_toList (xs := fn.results), List.mapM_toArray]
    simp only [Sem.run_bind, Sem.run_map, h1, Result.andThen_ok, Sem.run_pure]
    congr 1
  obtain ⟨r', hg, hok⟩ := givesW_ex h
  refine (fun ⟨v, h1, h2⟩ => ⟨v, h1, okR_rep hok h2⟩ : (∃ v, (results fn a.tmps).run P w = .ok v w ∧ RepR w (Shared S0 w0.heap.size w (freezeL s (lends s (fn.results.toList.map resOp))) (tmOf a)) r' v) → _) ?_
  unfold Gives at hg
  split at hg
  · rename_i p x e
    obtain ⟨hp, rfl⟩ := hg
    obtain ⟨vs, h1, h2, h3⟩ := key e hp
    have hl : vs.length = 1 := by simpa using h2
    rw [dif_pos hl] at h1
    obtain ⟨u, hu, hr⟩ := h3 0 x rfl
    refine ⟨_, h1, ?_⟩
    have : vs[0] = u := by rw [List.getElem?_eq_getElem (by omega)] at hu; injection hu
    rw [this]; exact hr
  · rename_i p xs hne e
    obtain ⟨hp, rfl⟩ := hg
    obtain ⟨vs, h1, h2, h3⟩ := key e hp
    have hl : ¬ vs.length = 1 := by
      intro hl
      rw [hl] at h2
      obtain ⟨y, hy⟩ := List.length_eq_one_iff.1 h2.symm
      exact hne y hy
    rw [dif_neg hl] at h1
    exact ⟨_, h1, vs.toArray, rfl, by simpa using h2, fun j x hj => by simpa using h3 j x hj⟩
  · exact hg.elim

theorem givesW_blk {r : RV} {q : Prop × Option (List XV)} (h : givesW r q) (v : Value) : r.blk v = none := by
  cases r with
  | own e z xs =>
    unfold givesW at h
    split at h
    · exact h.2.elim
    · exact h.2.elim
    · exact h.elim
  | _ => rfl

/-- What the end tells. -/
theorem giveR_ok {w1 : World} (hR : Rel S0 w1 n s a w) {fn : Func} {r : RV} {outs : List AV} (h : giveR P s fn.results.toList outs r) :
    ∃ v, (results fn a.tmps).run P w = .ok v w ∧ Rel S0 w1 n (endSt s fn.results.toList r) a w ∧ RepR w (fun b => (Shared S0 w1.heap.size w (endSt s fn.results.toList r) (tmOf a) b ∨ r.blk v = some b)) r v ∧
      ∀ b, r.blk v = some b → ∃ i, blkOf (endSt s fn.results.toList r i) (tmOf a i) = some b ∧ outDead outs i := by
  unfold giveR at h
  split at h
  · rename_i e z xs
    split at h
    · rename_i t hrs
      have hres : (results fn a.tmps).run P w = .ok (tmOf a t) w := by
        rw [results_eq, ← Array.toArray_toList (xs := fn.results), List.mapM_toArray, hrs]
        simp [resM]
      have fin : ∀ {v : Value} {us : List Value} (i : Nat) , v = tmOf a t → w.ownsRow 0 e z v xs.length us → RepL w (Shared S0 w1.heap.size w s (tmOf a)) xs.flatten us → (∀ x ∈ xs, x.length = z) → xs.length ≤ maxLen →
          (∀ b, v.ownBlock = some b → blkOf (s i) (tmOf a i) = some b ∧ outDead outs i) →
          ∃ v, (results fn a.tmps).run P w = .ok v w ∧ Rel S0 w1 n (endSt s [.tmp t] (.own e z xs)) a w ∧ RepR w (fun b => (Shared S0 w1.heap.size w (endSt s [.tmp t] (.own e z xs)) (tmOf a) b ∨ (RV.own e z xs).blk v = some b)) (.own e z xs) v ∧
            ∀ b, (RV.own e z xs).blk v = some b → ∃ i, blkOf (endSt s [.tmp t] (.own e z xs) i) (tmOf a i) = some b ∧ outDead outs i := by
        intro v us i hv hown hl hx hm hb
        refine ⟨v, by rw [hv]; exact hres, hR, ⟨us, hown, hl.mono (fun b hbb => ⟨.inl hbb, fun h => hbb.2.2 i (hb b h).1⟩) (fun _ _ => rfl), hx, hm, fun b h => .inr h⟩, fun b h => ⟨i, hb b h⟩⟩
      rw [hrs]
      have ht := hR.rep t
      revert h ht
      generalize hst : s t = q
      intro h ht
      unfold ownV at h
      split at h
      · rename_i e' z' xs'
        obtain ⟨rfl, rfl, rfl, hod⟩ := h
        obtain ⟨us, hown, hl, hx, hm, _⟩ := ht
        exact fin t rfl hown hl hx hm (fun b hb => ⟨by rw [hst]; exact hb, hod⟩)
      · rename_i i
        obtain ⟨hv, _⟩ := ht
        have hi := hR.rep i
        revert h hi
        generalize hsi : s i = q
        intro h hi
        unfold ownAt at h
        split at h
        · obtain ⟨rfl, rfl, rfl, hod⟩ := h
          obtain ⟨us, hown, hl, hx, hm, _⟩ := hi
          exact fin i hv.symm hown hl hx hm (fun b hb => ⟨by rw [hsi]; exact hb, hod⟩)
        · exact h.elim
      · rename_i i lo len
        have hi := hR.rep i
        revert h hi
        generalize hsi : s i = q
        intro h hi
        unfold ownAt at h
        split at h
        · obtain ⟨rfl, rfl, rfl, hod⟩ := h
          obtain ⟨us, hown, hl, hx, hm, _⟩ := hi
          obtain ⟨h1, h2, h3, h4⟩ := view_trunc hsi ht hown hl hx
          exact fin i rfl h1 h3 (fun x hx' => hx x (List.mem_of_mem_take hx')) (by rw [List.length_take]; omega) (fun b hb => ⟨by rw [hsi]; exact h2 b hb, hod⟩)
        · exact h.elim
      · subst h
        have hv := rep_nil ht
        exact fin t (us := []) rfl (by rw [hv]; exact World.ownsRow_nil w 0 e z) ⟨rfl, fun j c hj => by simp at hj⟩ (fun x hx => by cases hx) (by simp) (fun b hb => by rw [hv] at hb; cases hb)
      · exact h.elim
    · exact h.elim
  · rename_i hne
    have he : endSt s fn.results.toList r = freezeL s (lends s (fn.results.toList.map resOp)) := by
      unfold endSt
      split
      · exact absurd rfl (hne _ _ _)
      · rfl
    obtain ⟨v, h1, h2⟩ := givesW_frozen hR h
    rw [he]
    refine ⟨v, h1, freezeL_ok _ _ hR, h2.mono (fun b hb => .inl hb) (fun _ _ => rfl), fun b hb => ?_⟩
    rw [givesW_blk h] at hb; cases hb

/-- So many slots are to be written once. -/
def liveLen : List AV → Nat
  | [] => 0
  | o :: r => match o with
    | .dead => match liveLen r with
      | 0 => 0
      | n + 1 => n + 2
    | _ => liveLen r + 1
theorem liveLen_at : ∀ {l : List AV} {j : Nat} {o : AV}, l[j]? = some o → o ≠ .dead → j < liveLen l
  | [], j, o, h, _ => by simp at h
  | a :: r, 0, o, h, hne => by
    simp at h; subst h
    unfold liveLen
    cases a <;> first | exact absurd rfl hne | simp
  | a :: r, j + 1, o, h, hne => by
    have := liveLen_at (l := r) (j := j) (by simpa using h) hne
    unfold liveLen
    split
    · split
      · rename_i e; rw [e] at this; omega
      · rename_i e; rw [e] at this; omega
    · omega
theorem liveLen_dead {α : Type} : ∀ (l : List α), liveLen (l.map fun _ => AV.dead) = 0
  | [] => rfl
  | a :: r => by simp only [List.map_cons, liveLen, liveLen_dead r]

/-- THE CONTRACT OF A FUNCTION OUT OF ITS CODE. -/
theorem ACallsM.mk {f : FuncId} {fn : Func} {c : Code} {args : List AV} {r : RV} {outs : List AV} (hm : P.follows .mixedOrders = true) (hf : P.funcs[f]? = some fn) (hname : (fn.name == "runtime.NumGoroutine") = false)
    (hb : fn.body = some c) (hok : codeOk c = true) (hod : codeDst (liveLen outs) c = true) (hl : args.length ≤ fn.ntmps) (hfit : outsFit args outs = true) {Qa : Exit → St → Prop}
    (hQa : ∀ e s, Qa e s → (e = .normal ∨ e = .ret) ∧ giveR P s fn.results.toList outs r ∧ outsIn (endSt s fn.results.toList r) 0 outs)
    (h : (∀ x ∈ args, x.ok) → awp P fn.ntmps c Qa (initM args 0)) : ACallsM P f args r outs := by
  refine ⟨⟨fn, hf, hname, by rw [hb]; rfl⟩, hfit, fun w E0 vs hE0 hargs => ?_⟩
  have hargok : ∀ x ∈ args, x.ok := by
    intro x hx
    obtain ⟨j, hj⟩ := List.getElem?_of_mem hx
    obtain ⟨u, _, _, hr⟩ := hargs.rep j x hj
    exact hr.ok
  refine calls_of_wp hf hb ?_
  have hsz : vs.size ≤ fn.ntmps := by rw [hargs.size]; exact hl
  have htm : ∀ i, tmOf { tmps := vs ++ Array.replicate (fn.ntmps - vs.size) undef, defers := [] } i = (vs[i]?).getD undef := by
    intro i
    simp only [tmOf, Array.getD_eq_getD_getElem?, Array.getElem?_append]
    split
    · rfl
    · rename_i hi
      rw [Array.getElem?_eq_none (by omega : vs.size ≤ i), Array.getElem?_replicate]
      split <;> rfl
  let E : Env := ⟨E0.rd, E0.lent, liveLen outs, fun i => (vs[i]?).getD undef⟩
  have hE : Base E w := ⟨hE0.rd, hE0.lent, hE0.apart, hE0.amb, hE0.far⟩
  have hinit : ∀ i, initM args 0 i = (args[i]?).getD .dead := fun i => by rw [initM_at]; simp
  have hcase : ∀ i, initM args 0 i = .dead ∨ ∃ x u, args[i]? = some x ∧ vs[i]? = some u ∧ initM args 0 i = x ∧ x.bare = true ∧ RepAV w E0.rd E0.lent deadSt noTm x u := by
    intro i
    rw [hinit]
    cases hx : args[i]? with
    | none => exact .inl rfl
    | some x =>
      obtain ⟨u, hu, hbr, hr⟩ := hargs.rep i x hx
      exact .inr ⟨x, u, rfl, hu, rfl, hbr, hr⟩
  have hblk : ∀ i b, blkOf (initM args 0 i) ((vs[i]?).getD undef) = some b → E0.lent b := by
    intro i b hbb
    rcases hcase i with h | ⟨x, u, h1, h2, h3, h4, h5⟩
    · rw [h] at hbb; cases hbb
    · rw [h3, h2] at hbb; exact (h5.blk_lt hbb).1
  have hnr : ∀ i j, (initM args 0 i).refs j = false := by
    intro i j
    rcases hcase i with h | ⟨x, u, h1, h2, h3, h4, h5⟩
    · rw [h]; rfl
    · rw [h3]; exact AV.bare_refs h4 j
  have hR : Rel E w fn.ntmps (initM args 0) { tmps := vs ++ Array.replicate (fn.ntmps - vs.size) undef, defers := [] } w := by
    refine ⟨rfl, by simp; omega, Kept.refl _ _, hE, fun i => ?_, fun i j b hi hj => ?_, fun i hi => ?_, fun i j hij => ?_, fun j hj => htm j⟩
    · rw [htm]
      rcases hcase i with h | ⟨x, u, h1, h2, h3, h4, h5⟩
      · rw [h]; trivial
      · rw [h3, h2]
        refine h5.bare h4 (fun b hb => ⟨.inl hb, hE0.rd b hb, fun k hk => ?_⟩) (fun b _ hb => .inr hb)
        rw [htm] at hk
        exact hE0.apart b hb (hblk k b hk)
    · rw [htm] at hi hj
      rcases hcase i with h | ⟨x, u, h1, h2, h3, h4, h5⟩
      · rw [h] at hi; cases hi
      rcases hcase j with h | ⟨y, v, k1, k2, k3, k4, k5⟩
      · rw [h] at hj; cases hj
      rw [h3, h2] at hi
      rw [k3, k2] at hj
      exact hargs.inj i j x y u v b h1 h2 hi k1 k2 hj
    · rw [hinit, List.getElem?_eq_none (by omega)]; rfl
    · rw [hnr] at hij; cases hij
  refine awp_ok hm c _ _ _ _ _ hok hod hR (h hargok) (fun e s' a' w' hR' hq => ?_)
  obtain ⟨he, hg, hout⟩ := hQa _ _ hq
  obtain ⟨v, hrun, hR2, hrep, hrb⟩ := giveR_ok hR' hg
  obtain ⟨hfl, hfa⟩ := outsFit_at hfit
  generalize endSt s' fn.results.toList r = s2 at hR2 hrep hrb hout
  have hpin : ∀ j, j < liveLen outs → tmOf a' j = (vs[j]?).getD undef := fun j hj => hR2.pin j hj
  have houts : ∀ (j : Nat) (o : AV) (u : Value), outs[j]? = some o → vs[j]? = some u → o ≠ .dead → s2 j = o ∧ tmOf a' j = u := by
    intro j o u h1 h2 h3
    have := outsIn_at hout j o h1 h3
    rw [Nat.zero_add] at this
    refine ⟨this, ?_⟩
    rw [hpin j (liveLen_at h1 h3), h2]
    rfl
  have hno : ∀ (b : Nat), Owned outs vs b → ∃ (j : Nat) (o : AV), outs[j]? = some o ∧ o ≠ .dead ∧ blkOf (s2 j) (tmOf a' j) = some b := by
    rintro b ⟨j, o, u, h1, h2, h3⟩
    have hne : o ≠ .dead := by rintro rfl; cases h3
    obtain ⟨h4, h5⟩ := houts j o u h1 h2 hne
    exact ⟨j, o, h1, hne, by rw [h4, h5]; exact h3⟩
  have hafter : ∀ b, Shared E w.heap.size w' s2 (tmOf a') b → After w w' E0 outs vs b := by
    intro b hb
    refine ⟨?_, fun ho => ?_⟩
    · rcases hb.1 with h | h | h
      · exact .inl h
      · exact .inr (.inr ⟨h, hb.2.1⟩)
      · exact .inr (.inl h)
    · obtain ⟨j, o, _, _, h⟩ := hno b ho
      exact hb.2.2 j h
  have hblkA : ∀ b, r.blk v = some b → After w w' E0 outs vs b ∧ ¬ E0.rd b := by
    intro b hb
    obtain ⟨i, hi, hod'⟩ := hrb b hb
    obtain ⟨h1, h2⟩ := (hR2.rep i).blk_lt hi
    refine ⟨⟨?_, fun ho => ?_⟩, fun hrd => ?_⟩
    · rcases h1 with h | h
      · exact .inr (.inr ⟨h, h2⟩)
      · exact .inr (.inl h)
    · obtain ⟨j, o, h3, h4, h5⟩ := hno b ho
      have := hR2.inj i j b hi h5
      subst this
      exact h4 (outDead_at hod' h3)
    · rcases h1 with h | h
      · have := hE0.rd b hrd; omega
      · exact hE0.apart b hrd h
  have hnb : ∀ b, Shared E w.heap.size w' s2 (tmOf a') b → r.blk v ≠ some b := by
    intro b hb h
    obtain ⟨i, hi, _⟩ := hrb b h
    exact hb.2.2 i hi
  have hfin : a'.defers = [] ∧ ∃ v, (results fn a'.tmps).run P w' = .ok v w' ∧ ∃ v', Ending.returned v = .returned v' ∧ Kept E0.lent w w' ∧ RepR w' (After w w' E0 outs vs) r v' ∧ (∀ b, r.blk v' = some b → After w w' E0 outs vs b ∧ ¬ E0.rd b) ∧
      ∀ (j : Nat) (o : AV) (u : Value), outs[j]? = some o → vs[j]? = some u → RepAV w' (fun b => After w w' E0 outs vs b ∧ r.blk v' ≠ some b) E0.lent deadSt noTm o u := by
    refine ⟨hR'.defers, v, hrun, v, rfl, hR'.below, hrep.mono (fun b hb => hb.elim (hafter b) (fun h => (hblkA b h).1)) (fun _ _ => rfl), hblkA, fun j o u h1 h2 => ?_⟩
    by_cases hne : o = .dead
    · subst hne; trivial
    obtain ⟨h3, h4⟩ := houts j o u h1 h2 hne
    have hlt : j < args.length := by rw [hfl]; exact (List.getElem?_eq_some_iff.1 h1).1
    obtain ⟨x, hx⟩ : ∃ x, args[j]? = some x := ⟨_, List.getElem?_eq_getElem hlt⟩
    have hff := hfa j x o hx h1
    obtain ⟨u', hu', hbx, hrx⟩ := hargs.rep j x hx
    rw [h2] at hu'
    injection hu' with hu'
    subst hu'
    have hr := hR2.rep j
    rw [h3, h4] at hr
    have hbo : o.bare = true := by cases x <;> cases o <;> first | rfl | (simp [outFits] at hff)
    exact hr.bare hbo (fun b hb => ⟨hafter b hb, hnb b hb⟩) (fun b hb _ => (hrx.blk_lt (blk_out hff hrx hb)).1)
  rcases he with rfl | rfl
  · exact hfin
  · exact hfin

/-- Where nothing is lent. -/
theorem ACalls.ofM {f : FuncId} {args : List XV} {r : RV} (h : ACallsM P f (args.map .x) r (args.map fun _ => .dead)) : ACalls P f args r := by
  refine ⟨h.1, fun w S vs hS hargs => ?_⟩
  have hnob : ∀ (j : Nat) (x : AV) (u : Value) (b : Nat), (args.map AV.x)[j]? = some x → blkOf x u = some b → False := by
    intro j x u b hj hb
    rw [List.getElem?_map] at hj
    cases hx : args[j]? with
    | none => rw [hx] at hj; cases hj
    | some y => rw [hx] at hj; injection hj with hj; subst hj; cases hb
  have hnow : ∀ b, ¬ Owned (args.map fun _ => AV.dead) vs b := by
    rintro b ⟨j, o, u, h1, _, h3⟩
    rw [List.getElem?_map] at h1
    cases hx : args[j]? with
    | none => rw [hx] at h1; cases h1
    | some y => rw [hx] at h1; injection h1 with h1; subst h1; cases h3
  refine (h.2.2 w ⟨S, fun _ => False, 0, fun _ => undef⟩ vs hS ⟨by simpa using hargs.1, fun j x hj => ?_, fun i j x y u v b h1 _ h3 => (hnob i x u b h1 h3).elim, fun b hb => hb.elim⟩).mono ?_
  · rw [List.getElem?_map] at hj
    cases hx : args[j]? with
    | none => rw [hx] at hj; cases hj
    | some y =>
      rw [hx] at hj
      injection hj with hj
      subst hj
      obtain ⟨u, hu, hr⟩ := hargs.2 j y hx
      exact ⟨u, hu, rfl, hr⟩
  · rintro e w' ⟨v, rfl, hk, hr, hb, _⟩
    refine ⟨v, rfl, hk.below (fun _ h => h), hr.mono (fun b hb => ?_) (fun _ _ => rfl), fun b hbb => ?_⟩
    · rcases hb.1 with h | h | h
      · exact .inl h
      · exact h.elim
      · exact .inr h
    · obtain ⟨⟨h1, _⟩, h2⟩ := hb b hbb
      rcases h1 with h | h | h
      · exact absurd h h2
      · exact h.elim
      · exact h.1

theorem outsIn_dead {s : St} {α : Type} : ∀ (l : List α) (k : Nat), outsIn s k (l.map fun _ => AV.dead)
  | [], _ => trivial
  | _ :: r, k => ⟨trivial, outsIn_dead r (k + 1)⟩
theorem outDead_dead {α : Type} : ∀ (l : List α) (i : Nat), outDead (l.map fun _ => AV.dead) i
  | [], _ => by unfold outDead; trivial
  | _ :: r, 0 => rfl
  | _ :: r, i + 1 => outDead_dead r i
theorem outsFit_dead : ∀ l : List XV, outsFit (l.map .x) (l.map fun _ => AV.dead) = true
  | [] => rfl
  | _ :: r => by simp [outsFit, outFits, outsFit_dead r]

theorem ACalls.mk {f : FuncId} {fn : Func} {c : Code} {args : List XV} {r : RV} (hm : P.follows .mixedOrders = true) (hf : P.funcs[f]? = some fn) (hname : (fn.name == "runtime.NumGoroutine") = false)
    (hb : fn.body = some c) (hok : codeOk c = true) (hl : args.length ≤ fn.ntmps)
    (h : (∀ x ∈ args, x.ok) → awp P fn.ntmps c (fun e s => (e = .normal ∨ e = .ret) ∧ giveR P s fn.results.toList [] r) (initSt args 0)) : ACalls P f args r := by
  refine ACalls.ofM (ACallsM.mk hm hf hname hb hok (by rw [liveLen_dead]; exact codeDst_zero c) (by simpa using hl) (outsFit_dead args) (Qa := fun e s => (e = .normal ∨ e = .ret) ∧ giveR P s fn.results.toList [] r) (fun e s hq => ⟨hq.1, ?_, outsIn_dead args 0⟩) (fun hx => by rw [← initSt_M]; exact h (fun x hx' => hx (.x x) (List.mem_map.2 ⟨x, hx', rfl⟩))))
  have hgive := hq.2
  unfold giveR at hgive ⊢
  split at hgive
  · split at hgive
    · unfold ownV at hgive ⊢
      split at hgive
      · exact ⟨hgive.1, hgive.2.1, hgive.2.2.1, outDead_dead args _⟩
      · unfold ownAt at hgive ⊢
        split at hgive
        · exact ⟨hgive.1, hgive.2.1, hgive.2.2.1, outDead_dead args _⟩
        · exact hgive.elim
      · unfold ownAt at hgive ⊢
        split at hgive
        · exact ⟨hgive.1, hgive.2.1, hgive.2.2.1, outDead_dead args _⟩
        · exact hgive.elim
      · exact hgive
      · exact hgive.elim
    · exact hgive.elim
  · exact hgive

end
end Go.Ab
