/-
  One operation over abstract slots.
-/
import Derived.Test.YtejhjdpafdpjlaaDoorAbBuild
namespace Go.Ab
open Go Go.RowKit
set_option linter.unusedSectionVars false
variable [Amb]

/-- What a call hands back. -/
inductive RV where
  | x (v : XV)
  | tup (vs : List XV)
  | own (e size : Nat) (xs : List (List CV))

def RV.av : RV → AV
  | .x v => .x v
  | .tup vs => .tup vs
  | .own e size xs => .own e size xs
/-- The block that comes back as the caller's own. -/
def RV.blk : RV → Value → Option Nat
  | .own _ _ _, v => v.ownBlock
  | _, _ => none

def RepR (w : World) (S : Nat → Prop) : RV → Value → Prop
  | .x xv, v => RepX w S xv v
  | .tup vs, v => ∃ us : Array Value, v = .tuple us ∧ us.size = vs.length ∧ ∀ (j : Nat) (x : XV), vs[j]? = some x → ∃ u, us[j]? = some u ∧ RepX w S x u
  | .own e size xs, v => ∃ us : List Value, w.ownsRow 0 e size v xs.length us ∧ RepL w (fun b => S b ∧ v.ownBlock ≠ some b) xs.flatten us ∧ (∀ x ∈ xs, x.length = size) ∧ xs.length ≤ maxLen ∧ ∀ b, v.ownBlock = some b → S b

theorem RepR.mono {w w' : World} {S S' : Nat → Prop} {r : RV} {v : Value} (h : RepR w S r v) (hS : ∀ b, S b → S' b)
    (hb : ∀ b, S b → w'.heap[b]? = w.heap[b]?) : RepR w' S' r v := by
  cases r with
  | x xv => exact RepX.mono h hS hb
  | tup vs =>
    obtain ⟨us, hv, hl, hx⟩ := h
    exact ⟨us, hv, hl, fun j x hj => let ⟨u, hu, hr⟩ := hx j x hj; ⟨u, hu, hr.mono hS hb⟩⟩
  | own e size xs =>
    obtain ⟨us, hown, hl, hx, hm, hB⟩ := h
    refine ⟨us, ⟨hown.1, ?_⟩, hl.mono (fun b hb' => ⟨hS b hb'.1, hb'.2⟩) (fun b hb' => hb b hb'.1), hx, hm, fun b hb' => hS b (hB b hb')⟩
    rcases hown.2 with hn | ⟨g, cap, cur, rfl, hbg, hh, rest⟩
    · exact .inl hn
    · exact .inr ⟨g, cap, cur, rfl, hbg, by rw [hb g (hB g rfl)]; exact hh, rest⟩

def RepArgs (w : World) (S : Nat → Prop) (args : List XV) (vs : Array Value) : Prop :=
  vs.size = args.length ∧ ∀ (j : Nat) (x : XV), args[j]? = some x → ∃ u, vs[j]? = some u ∧ RepX w S x u

def Callable (P : Program) (f : FuncId) : Prop := ∃ fn, P.funcs[f]? = some fn ∧ (fn.name == "runtime.NumGoroutine") = false ∧ fn.body.isNone = false

/-- THE CONTRACT: called with what reads as 'args', the function hands back what reads as 'r', and leaves all that was there as it was. -/
def ACalls (P : Program) (f : FuncId) (args : List XV) (r : RV) : Prop :=
  Callable P f ∧ ∀ (w : World) (S : Nat → Prop) (vs : Array Value), Base ⟨S, fun _ => False, 0, fun _ => undef⟩ w → RepArgs w S args vs →
    Calls P f vs w fun e w' => ∃ v, e = .returned v ∧ Below w.heap.size w w' ∧ RepR w' (fun b => S b ∨ (w.heap.size ≤ b ∧ b < w'.heap.size)) r v ∧ ∀ b, r.blk v = some b → w.heap.size ≤ b

/-- No slice in it. -/
def CV.flat : CV → Bool
  | .list _ _ => false
  | .nil => false
  | .empty _ => false
  | .clo _ _ => false
  | _ => true

def XV.flat : XV → Bool
  | .one c => c.flat
  | .agg cs => cs.all CV.flat

def RV.flat : RV → Bool
  | .x v => v.flat
  | .tup vs => vs.all XV.flat
  | .own _ _ _ => false

theorem RepC.flat {w w' : World} {S S' : Nat → Prop} {c : CV} {v : Value} (h : RepC w S c v) (hf : c.flat = true) : RepC w' S' c v := by
  cases h with
  | bool b => exact .bool b
  | int k n => exact .int k n
  | str l h => exact .str l h
  | atom v h => exact .atom v h
  | _ => cases hf

theorem RepX.flat {w w' : World} {S S' : Nat → Prop} {x : XV} {v : Value} (h : RepX w S x v) (hf : x.flat = true) : RepX w' S' x v := by
  cases x with
  | one c => exact RepC.flat h hf
  | agg cs =>
    obtain ⟨us, hv, hl, hx⟩ := h
    exact ⟨us, hv, hl, fun j c hj => let ⟨u, hu, hr⟩ := hx j c hj; ⟨u, hu, hr.flat (List.all_eq_true.1 hf c (List.mem_of_getElem? hj))⟩⟩

theorem RepR.flat {w w' : World} {S S' : Nat → Prop} {r : RV} {v : Value} (h : RepR w S r v) (hf : r.flat = true) : RepR w' S' r v := by
  cases r with
  | x xv => exact RepX.flat h hf
  | tup vs =>
    obtain ⟨us, hv, hl, hx⟩ := h
    exact ⟨us, hv, hl, fun j x hj => let ⟨u, hu, hr⟩ := hx j x hj; ⟨u, hu, hr.flat (List.all_eq_true.1 hf x (List.mem_of_getElem? hj))⟩⟩
  | own e size xs => cases hf

def argXs (s : St) : List Operand → Prop × Option (List XV)
  | [] => (True, some [])
  | x :: r => match argX s x, argXs s r with
    | (p, some v), (q, some vs) => (p ∧ q, some (v :: vs))
    | _, _ => (False, none)

/-- The function that a value calls, and what it holds besides. -/
def fnOf : AV → Option (FuncId × List XV)
  | .x (.one (.atom (.func (.func f) ⟨[]⟩ ⟨[]⟩))) => some (f, [])
  | .x (.one (.clo f caps)) => some (f, caps.map .one)
  | _ => none
def callee (s : St) (f : Operand) (args : List Operand) : Prop × Option (FuncId × List XV) :=
  match sv s f, argXs s args with
  | (p, a), (q, some xs) => match fnOf a with
    | some (g, caps) => (p ∧ q, some (g, xs ++ caps))
    | none => (False, none)
  | _, _ => (False, none)

/-- What a call of a function comes to. -/
def acall (P : Program) (s : St) (f : Operand) (args : List Operand) (r : RV) : Prop :=
  match callee s f args with
  | (p, some (g, xs)) => p ∧ ACalls P g xs r
  | _ => False

/-- A call under a guard: the contract is met by hand. -/
def ACallG (P : Program) (e : Bool) (g : FuncId) (xs : List XV) (k : RV → Prop) : Prop := ∃ r, (e = true → ACalls P g xs r) ∧ r.flat = true ∧ k r
theorem ACallG.of {P : Program} {e : Bool} {g : FuncId} {xs : List XV} {k : RV → Prop} {r : RV} (h : e = true → ACalls P g xs r) (hf : r.flat = true) (hk : k r) : ACallG P e g xs k := ⟨r, h, hf, hk⟩
def callG (P : Program) (e : Bool) (c : Prop × Option (FuncId × List XV)) (k : RV → Prop) : Prop :=
  match c with
  | (p, some (g, xs)) => (e = true → p) ∧ ACallG P e g xs k
  | _ => False
theorem callG_of {P : Program} {s : St} {e : Bool} {f : Operand} {args : List Operand} {k : RV → Prop} (h : callG P e (callee s f args) k) : ∃ r, (e = true → acall P s f args r) ∧ r.flat = true ∧ k r := by
  unfold callG ACallG at h
  unfold acall
  split at h
  · obtain ⟨hp, r, hc, hf, hk⟩ := h
    exact ⟨r, fun he => ⟨hp he, hc he⟩, hf, hk⟩
  · exact h.elim
theorem callG_exact {P : Program} {e : Bool} {c : Prop × Option (FuncId × List XV)} {k : RV → Prop} (h : callG P e c k) : ∃ r, (∀ k' : RV → Prop, k' r → callG P e c k') ∧ k r := by
  unfold callG ACallG at h ⊢
  split at h
  · obtain ⟨hp, r, hc, hf, hk⟩ := h
    exact ⟨r, fun k' hk' => ⟨hp, r, hc, hf, hk'⟩, hk⟩
  · exact h.elim

section
variable {P : Program} {S0 : Env} {w0 w : World} {n : Nat} {s : St} {a : Act}

theorem argXs_ok (hR : Rel S0 w0 n s a w) : ∀ {args : List Operand} {p : Prop} {xs : List XV}, argXs s args = (p, some xs) → p → RepArgs w (Lent S0 w0.heap.size w) xs (args.map a.eval).toArray := by
  intro args
  induction args with
  | nil =>
    intro p xs h _
    simp only [argXs, Prod.mk.injEq, Option.some.injEq] at h
    obtain ⟨_, rfl⟩ := h
    exact ⟨rfl, fun j x hj => by simp at hj⟩
  | cons x r ih =>
    intro p xs h hp
    simp only [argXs] at h
    split at h
    · rename_i q v q' vs e1 e2
      simp only [Prod.mk.injEq, Option.some.injEq] at h
      obtain ⟨rfl, rfl⟩ := h
      have h1 := argX_ok hR e1 hp.1
      obtain ⟨h2, h3⟩ := ih e2 hp.2
      refine ⟨by simpa using h2, fun j x' hj => ?_⟩
      cases j with
      | zero => simp at hj; subst hj; exact ⟨_, rfl, h1⟩
      | succ j =>
        simp only [List.getElem?_cons_succ] at hj
        obtain ⟨u, hu, hr⟩ := h3 j x' hj
        exact ⟨u, by simpa using hu, hr⟩
    · simp at h

theorem argXs_frozen (hR : Rel S0 w0 n s a w) (l : List Nat) : ∀ {args : List Operand} {p : Prop} {xs : List XV}, argXs s args = (p, some xs) → p → (∀ i ∈ lends s args, i ∈ l) →
    RepArgs w (Shared S0 w0.heap.size w (freezeL s l) (tmOf a)) xs (args.map a.eval).toArray := by
  intro args
  induction args with
  | nil =>
    intro p xs h _ _
    simp only [argXs, Prod.mk.injEq, Option.some.injEq] at h
    obtain ⟨_, rfl⟩ := h
    exact ⟨rfl, fun j x hj => by simp at hj⟩
  | cons x r ih =>
    intro p xs h hp hl
    simp only [argXs] at h
    split at h
    · rename_i q v q' vs e1 e2
      simp only [Prod.mk.injEq, Option.some.injEq] at h
      obtain ⟨rfl, rfl⟩ := h
      have h1 := argX_frozen hR e1 hp.1 l (fun i hi => hl i (lends_mem List.mem_cons_self hi))
      obtain ⟨h2, h3⟩ := ih e2 hp.2 (fun i hi => hl i (by
        simp only [lends]
        split
        · exact List.mem_cons_of_mem _ hi
        · exact List.mem_cons_of_mem _ hi
        · exact hi))
      refine ⟨by simpa using h2, fun j x' hj => ?_⟩
      cases j with
      | zero => simp at hj; subst hj; exact ⟨_, rfl, h1⟩
      | succ j =>
        simp only [List.getElem?_cons_succ] at hj
        obtain ⟨u, hu, hr⟩ := h3 j x' hj
        exact ⟨u, by simpa using hu, hr⟩
    · simp at h

/-- What is known behind a call: where slices of the call's own were handed over and a slice came back, they are written to no more. -/
def afterCall (s : St) (args : List Operand) (r : RV) : St :=
  match r.flat with
  | true => s
  | false => freezeL s (lends s args)

theorem grownBy_of_below {w w' : World} (h : Below w.heap.size w w') : w.grownBy w' none := ⟨h.os, h.tape, h.output, h.size, fun k hk _ => h.block k hk⟩

theorem RepArgs.append {S : Nat → Prop} {xs ys : List XV} {us vs : Array Value} (h1 : RepArgs w S xs us) (h2 : RepArgs w S ys vs) : RepArgs w S (xs ++ ys) (us ++ vs) := by
  refine ⟨by simp [h1.1, h2.1], fun j x hj => ?_⟩
  by_cases hlt : j < xs.length
  · rw [List.getElem?_append_left hlt] at hj
    rw [Array.getElem?_append_left (by rw [h1.1]; exact hlt)]
    exact h1.2 j x hj
  · rw [List.getElem?_append_right (by omega)] at hj
    rw [Array.getElem?_append_right (by rw [h1.1]; omega), h1.1]
    exact h2.2 _ x hj

/-- What a function's value holds. -/
theorem fnOf_ok {S : Nat → Prop} {B : Nat → Prop} {tm : Nat → Value} {v : AV} {u : Value} {g : FuncId} {caps : List XV} (h : RepAV w S B s tm v u) (hf : fnOf v = some (g, caps)) :
    ∃ us : Array Value, u = .func (.func g) #[] us ∧ RepArgs w S caps us := by
  unfold fnOf at hf
  split at hf
  · injection hf with hf
    injection hf with hf1 hf2
    subst hf1; subst hf2
    cases h
    exact ⟨#[], rfl, rfl, fun j x hj => by simp at hj⟩
  · rename_i f' cs
    injection hf with hf
    injection hf with hf1 hf2
    subst hf1; subst hf2
    cases h with
    | clo _ _ U hU =>
      refine ⟨_, rfl, by simp, fun j x hj => ?_⟩
      rw [List.getElem?_map] at hj
      cases hc : cs[j]? with
      | none => rw [hc] at hj; cases hj
      | some c =>
        rw [hc] at hj
        injection hj with hj
        subst hj
        have hlt := (List.getElem?_eq_some_iff.1 hc).1
        exact ⟨U j, by simp [List.getElem?_range hlt], hU j c hc⟩
  · cases hf

theorem RepArgs.mono {S S' : Nat → Prop} {xs : List XV} {us : Array Value} (h : RepArgs w S xs us) (hS : ∀ b, S b → S' b) : RepArgs w S' xs us :=
  ⟨h.1, fun j x hj => let ⟨u, hu, hr⟩ := h.2 j x hj; ⟨u, hu, RepX.mono hr hS (fun _ _ => rfl)⟩⟩

/-- What came back goes to slot d. -/
theorem Rel.back {d : Nat} {r : RV} {v : Value} {w' : World} {S : Nat → Prop} (hR : Rel S0 w0 n s a w) (hd : S0.m ≤ d ∧ d < n) (hb : Below w.heap.size w w')
    (hr : RepR w' S r v) (hS : ∀ b, S b → (Shared S0 w0.heap.size w s (tmOf a) b ∨ (w.heap.size ≤ b ∧ b < w'.heap.size))) (hf : ∀ b, r.blk v = some b → w.heap.size ≤ b) : Rel S0 w0 n (Ab.put s d r.av) (a.put (some d) v) w' := by
  have hsh : ∀ b, (Shared S0 w0.heap.size w s (tmOf a) b ∨ (w.heap.size ≤ b ∧ b < w'.heap.size)) → Shared S0 w0.heap.size w' s (tmOf a) b := by
    intro b hbb
    rcases hbb with h | ⟨h1, h2⟩
    · exact ⟨h.1, Nat.lt_of_lt_of_le h.2.1 hb.size, h.2.2⟩
    · refine ⟨.inr (.inl (Nat.le_trans hR.below.size h1)), h2, fun k hk => ?_⟩
      have := ((hR.rep k).blk_lt hk).2
      omega
  cases r with
  | x xv => exact hR.put hd (grownBy_of_below hb) (fun j h => by cases h) (RepX.mono hr (fun b h => hsh b (hS b h)) (fun _ _ => rfl)) (fun b h => by cases h) (fun b h => by cases h)
  | tup vs =>
    obtain ⟨us, hv, hl, hx⟩ := hr
    exact hR.put hd (grownBy_of_below hb) (fun j h => by cases h) ⟨us, hv, hl, fun j x hj => let ⟨u, hu, hr⟩ := hx j x hj; ⟨u, hu, RepX.mono hr (fun b h => hsh b (hS b h)) (fun _ _ => rfl)⟩⟩ (fun b h => by cases h) (fun b h => by cases h)
  | own e size xs =>
    obtain ⟨us, hown, hl, hx, hm, hB⟩ := hr
    have hfr : ∀ b, v.ownBlock = some b → OwnB S0 w0.heap.size b := fun b h => .inl (Nat.le_trans hR.below.size (hf b h))
    refine hR.put hd (grownBy_of_below hb) (fun j h => by cases h) ⟨us, hown, hl.mono (fun b h => hsh b (hS b h.1)) (fun _ _ => rfl), hx, hm, hfr⟩ hf (fun b hbb => ?_)
    have hvb : v.ownBlock = some b := hbb
    exact ⟨us, hown, hl.mono (fun c h => ⟨hsh c (hS c h.1), fun e => h.2 (by rw [hvb, e])⟩) (fun _ _ => rfl), hx, hm, hfr⟩

/-- THE STEP OF A CALL. -/
theorem acall_ok (hR : Rel S0 w0 n s a w) {f : Operand} {args : Array Operand} {r : RV} (hc : acall P s f args.toList r)
    {o : Oper} (ho : ∃ ts, o.op = .call { callee := .value f, args := args, argTypes := ts }) {d : Nat} (hd : S0.m ≤ d ∧ d < n) (hdst : o.dst = some d) {K : Act → World → Prop} {Q : Exit → Act → World → Prop}
    (hK : ∀ a' w', Rel S0 w0 n (Ab.put (afterCall s args.toList r) d r.av) a' w' → K a' w') : o.wp P a w K Q := by
  obtain ⟨ts, hop⟩ := ho
  unfold acall at hc
  split at hc
  · rename_i pp g xs0 e0
    obtain ⟨hpp, ⟨fn, hfn, hname, hbody⟩, hcalls⟩ := hc
    obtain ⟨caps, xs, p, q, fv, ef, e2, e1, rfl, rfl⟩ : ∃ caps xs p q fv, sv s f = (p, fv) ∧ argXs s args.toList = (q, some xs) ∧ fnOf fv = some (g, caps) ∧ pp = (p ∧ q) ∧ xs0 = xs ++ caps := by
      unfold callee at e0
      split at e0
      · rename_i p fv q xs ef e2
        split at e0
        · rename_i g' caps e1
          simp only [Prod.mk.injEq, Option.some.injEq] at e0
          obtain ⟨rfl, rfl, rfl⟩ := e0
          exact ⟨caps, xs, p, q, fv, ef, e2, e1, rfl, rfl⟩
        · simp at e0
      · simp at e0
    obtain ⟨hpf, hp⟩ := hpp
    have hsvf := hR.sv f (by rw [ef]; exact hpf)
    rw [ef] at hsvf
    obtain ⟨us, hfv, hcap⟩ := fnOf_ok hsvf e1
    have hm : args.map a.eval = (args.toList.map a.eval).toArray := by apply Array.ext'; simp
    have hrun : (execOp a.eval o).run P w = .ok (.enter g (args.map a.eval ++ us)) w := by
      simp only [execOp, hop, resolve, hfv, Deferred.ofValue, Sem.run_bind, Sem.run_pure, Result.andThen_ok, invoke, callFunc, run_program, hfn, hname, hbody, Bool.false_eq_true, if_false]
      simp
    unfold Oper.wp
    rw [hrun]
    simp only [Oper.upon]
    rw [hm, hdst]
    have hamb := hR.lt.amb' hR.below
    cases hfl : r.flat with
    | true =>
      have hac : afterCall s args.toList r = s := by unfold afterCall; rw [hfl]
      rw [hac] at hK
      refine (hcalls w (Lent S0 w0.heap.size w) _ ⟨fun b hb => hb.2, fun b hb => hb.elim, fun b _ hb => hb.elim, hamb, fun b _ hb => hb.elim⟩ ((argXs_ok hR e2 hp).append (hcap.mono (fun b hb => ⟨hb.1, hb.2.1⟩)))).mono ?_
      rintro e w' ⟨v, rfl, hb, hr, hfr⟩
      exact hK _ w' (hR.back hd hb (hr.flat (S' := fun _ => False) hfl) (fun b hb => hb.elim) hfr)
    | false =>
      have hac : afterCall s args.toList r = freezeL s (lends s args.toList) := by unfold afterCall; rw [hfl]
      rw [hac] at hK
      have hR' := freezeL_ok (lends s args.toList) s hR
      refine (hcalls w (Shared S0 w0.heap.size w (freezeL s (lends s args.toList)) (tmOf a)) _ ⟨fun b hb => hb.2.1, fun b hb => hb.elim, fun b _ hb => hb.elim, hamb, fun b _ hb => hb.elim⟩ ((argXs_frozen hR _ e2 hp (fun i hi => hi)).append (hcap.mono (fun b hb => ⟨hb.1, hb.2.1, fun k hk => by
        have ho : (freezeL s (lends s args.toList) k).isOwner = true := by
          cases ho : (freezeL s (lends s args.toList) k).isOwner with
          | true => rfl
          | false => rw [blkOf_notOwner ho] at hk; cases hk
        rw [freezeL_owner _ s k ho] at hk
        exact hb.2.2 k hk⟩)))).mono ?_
      rintro e w' ⟨v, rfl, hb, hr, hfr⟩
      exact hK _ w' (hR'.back hd hb hr (fun b h => h) hfr)
  · exact hc.elim

end
end Go.Ab
