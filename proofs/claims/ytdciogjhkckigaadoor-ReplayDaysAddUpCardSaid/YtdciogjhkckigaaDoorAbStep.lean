/-
  One operation over abstract slots.
-/
import Derived.Test.YtdciogjhkckigaaDoorAbBuild
namespace Go.Ab
open Go Go.RowKit

/-- What a call hands back. -/
inductive RV where
  | x (v : XV)
  | tup (vs : List XV)

def RV.av : RV → AV
  | .x v => .x v
  | .tup vs => .tup vs

def RepR (w : World) (S : Nat → Prop) : RV → Value → Prop
  | .x xv, v => RepX w S xv v
  | .tup vs, v => ∃ us : Array Value, v = .tuple us ∧ us.size = vs.length ∧ ∀ (j : Nat) (x : XV), vs[j]? = some x → ∃ u, us[j]? = some u ∧ RepX w S x u

theorem RepR.mono {w w' : World} {S S' : Nat → Prop} {r : RV} {v : Value} (h : RepR w S r v) (hS : ∀ b, S b → S' b)
    (hb : ∀ b, S b → w'.heap[b]? = w.heap[b]?) : RepR w' S' r v := by
  cases r with
  | x xv => exact RepX.mono h hS hb
  | tup vs =>
    obtain ⟨us, hv, hl, hx⟩ := h
    exact ⟨us, hv, hl, fun j x hj => let ⟨u, hu, hr⟩ := hx j x hj; ⟨u, hu, hr.mono hS hb⟩⟩

def RepArgs (w : World) (S : Nat → Prop) (args : List XV) (vs : Array Value) : Prop :=
  vs.size = args.length ∧ ∀ (j : Nat) (x : XV), args[j]? = some x → ∃ u, vs[j]? = some u ∧ RepX w S x u

def Callable (P : Program) (f : FuncId) : Prop := ∃ fn, P.funcs[f]? = some fn ∧ (fn.name == "runtime.NumGoroutine") = false ∧ fn.body.isNone = false

/-- THE CONTRACT: called with what reads as 'args', the function hands back what reads as 'r', and leaves all that was there as it was. -/
def ACalls (P : Program) (f : FuncId) (args : List XV) (r : RV) : Prop :=
  Callable P f ∧ ∀ (w : World) (S : Nat → Prop) (vs : Array Value), (∀ b, S b → b < w.heap.size) → RepArgs w S args vs →
    Calls P f vs w fun e w' => ∃ v, e = .returned v ∧ Below w.heap.size w w' ∧ RepR w' (fun b => S b ∨ (w.heap.size ≤ b ∧ b < w'.heap.size)) r v

/-- No slice in it. -/
def CV.flat : CV → Bool
  | .list _ _ => false
  | .nil => false
  | .empty _ => false
  | .clo _ _ => false
  | _ => true

def XV.flat : XV → Bool
  | .one c => c.flat
  | .agg cs => cs.all CV.flat

def RV.flat : RV → Bool
  | .x v => v.flat
  | .tup vs => vs.all XV.flat

theorem RepC.flat {w w' : World} {S S' : Nat → Prop} {c : CV} {v : Value} (h : RepC w S c v) (hf : c.flat = true) : RepC w' S' c v := by
  cases h with
  | bool b => exact .bool b
  | int k n => exact .int k n
  | str l h => exact .str l h
  | atom v h => exact .atom v h
  | _ => cases hf

theorem RepX.flat {w w' : World} {S S' : Nat → Prop} {x : XV} {v : Value} (h : RepX w S x v) (hf : x.flat = true) : RepX w' S' x v := by
  cases x with
  | one c => exact RepC.flat h hf
  | agg cs =>
    obtain ⟨us, hv, hl, hx⟩ := h
    exact ⟨us, hv, hl, fun j c hj => let ⟨u, hu, hr⟩ := hx j c hj; ⟨u, hu, hr.flat (List.all_eq_true.1 hf c (List.mem_of_getElem? hj))⟩⟩

theorem RepR.flat {w w' : World} {S S' : Nat → Prop} {r : RV} {v : Value} (h : RepR w S r v) (hf : r.flat = true) : RepR w' S' r v := by
  cases r with
  | x xv => exact RepX.flat h hf
  | tup vs =>
    obtain ⟨us, hv, hl, hx⟩ := h
    exact ⟨us, hv, hl, fun j x hj => let ⟨u, hu, hr⟩ := hx j x hj; ⟨u, hu, hr.flat (List.all_eq_true.1 hf x (List.mem_of_getElem? hj))⟩⟩

/-- An operand that is handed to a call: a slice of the call's own is read as a slice. -/
def argX (s : St) (x : Operand) : Prop × Option XV :=
  match sv s x with
  | (p, .x xv) => (p, some xv)
  | (p, .alias i) => match s i with
    | .own _ size xs => (p, some (.one (.list size xs)))
    | _ => (False, none)
  | _ => (False, none)

def argXs (s : St) : List Operand → Prop × Option (List XV)
  | [] => (True, some [])
  | x :: r => match argX s x, argXs s r with
    | (p, some v), (q, some vs) => (p ∧ q, some (v :: vs))
    | _, _ => (False, none)

/-- The function that a value calls, and what it holds besides. -/
def fnOf : AV → Option (FuncId × List XV)
  | .x (.one (.atom (.func (.func f) ⟨[]⟩ ⟨[]⟩))) => some (f, [])
  | .x (.one (.clo f caps)) => some (f, caps.map .one)
  | _ => none
def callee (s : St) (f : Operand) (args : List Operand) : Prop × Option (FuncId × List XV) :=
  match sv s f, argXs s args with
  | (p, a), (q, some xs) => match fnOf a with
    | some (g, caps) => (p ∧ q, some (g, xs ++ caps))
    | none => (False, none)
  | _, _ => (False, none)

/-- What a call of a function comes to. -/
def acall (P : Program) (s : St) (f : Operand) (args : List Operand) (r : RV) : Prop :=
  match callee s f args with
  | (p, some (g, xs)) => p ∧ ACalls P g xs r
  | _ => False

/-- A call under a guard: the contract is met by hand. -/
def ACallG (P : Program) (e : Bool) (g : FuncId) (xs : List XV) (k : RV → Prop) : Prop := ∃ r, (e = true → ACalls P g xs r) ∧ r.flat = true ∧ k r
theorem ACallG.of {P : Program} {e : Bool} {g : FuncId} {xs : List XV} {k : RV → Prop} {r : RV} (h : e = true → ACalls P g xs r) (hf : r.flat = true) (hk : k r) : ACallG P e g xs k := ⟨r, h, hf, hk⟩
def callG (P : Program) (e : Bool) (c : Prop × Option (FuncId × List XV)) (k : RV → Prop) : Prop :=
  match c with
  | (p, some (g, xs)) => (e = true → p) ∧ ACallG P e g xs k
  | _ => False
theorem callG_of {P : Program} {s : St} {e : Bool} {f : Operand} {args : List Operand} {k : RV → Prop} (h : callG P e (callee s f args) k) : ∃ r, (e = true → acall P s f args r) ∧ r.flat = true ∧ k r := by
  unfold callG ACallG at h
  unfold acall
  split at h
  · obtain ⟨hp, r, hc, hf, hk⟩ := h
    exact ⟨r, fun he => ⟨hp he, hc he⟩, hf, hk⟩
  · exact h.elim
theorem callG_exact {P : Program} {e : Bool} {c : Prop × Option (FuncId × List XV)} {k : RV → Prop} (h : callG P e c k) : ∃ r, (∀ k' : RV → Prop, k' r → callG P e c k') ∧ k r := by
  unfold callG ACallG at h ⊢
  split at h
  · obtain ⟨hp, r, hc, hf, hk⟩ := h
    exact ⟨r, fun k' hk' => ⟨hp, r, hc, hf, hk'⟩, hk⟩
  · exact h.elim

section
variable {P : Program} {S0 : Nat → Prop} {w0 w : World} {n : Nat} {s : St} {a : Act}

/-- The call's own blocks may be read for the while of a call. -/
def Lent (S0 : Nat → Prop) (B : Nat) (w : World) : Nat → Prop := fun b => (S0 b ∨ B ≤ b) ∧ b < w.heap.size

theorem argX_ok (hR : Rel S0 w0 n s a w) {x : Operand} {p : Prop} {xv : XV} (h : argX s x = (p, some xv)) (hp : p) : RepX w (Lent S0 w0.heap.size w) xv (a.eval x) := by
  have hsv := hR.sv x
  unfold argX at h
  split at h
  · rename_i q xv' e
    simp only [Prod.mk.injEq, Option.some.injEq] at h
    obtain ⟨rfl, rfl⟩ := h
    rw [e] at hsv
    exact RepX.mono (hsv hp) (fun b hb => ⟨hb.1, hb.2.1⟩) (fun _ _ => rfl)
  · rename_i q i e
    split at h
    · rename_i e' size xs hs
      simp only [Prod.mk.injEq, Option.some.injEq] at h
      obtain ⟨rfl, rfl⟩ := h
      rw [e] at hsv
      obtain ⟨hv, _⟩ := hsv hp
      have hi := hR.rep i
      rw [hs] at hi
      obtain ⟨us, hown, hl, hx, hm⟩ := hi
      rw [hv]
      exact own_list hown (hl.mono (fun b hb => ⟨hb.1, hb.2.1⟩) (fun _ _ => rfl)) hx hm (fun b hb => ⟨.inr (hown.lt b hb).1, (hown.lt b hb).2⟩)
    · simp at h
  · simp at h

theorem argXs_ok (hR : Rel S0 w0 n s a w) : ∀ {args : List Operand} {p : Prop} {xs : List XV}, argXs s args = (p, some xs) → p → RepArgs w (Lent S0 w0.heap.size w) xs (args.map a.eval).toArray := by
  intro args
  induction args with
  | nil =>
    intro p xs h _
    simp only [argXs, Prod.mk.injEq, Option.some.injEq] at h
    obtain ⟨_, rfl⟩ := h
    exact ⟨rfl, fun j x hj => by simp at hj⟩
  | cons x r ih =>
    intro p xs h hp
    simp only [argXs] at h
    split at h
    · rename_i q v q' vs e1 e2
      simp only [Prod.mk.injEq, Option.some.injEq] at h
      obtain ⟨rfl, rfl⟩ := h
      have h1 := argX_ok hR e1 hp.1
      obtain ⟨h2, h3⟩ := ih e2 hp.2
      refine ⟨by simpa using h2, fun j x' hj => ?_⟩
      cases j with
      | zero => simp at hj; subst hj; exact ⟨_, rfl, h1⟩
      | succ j =>
        simp only [List.getElem?_cons_succ] at hj
        obtain ⟨u, hu, hr⟩ := h3 j x' hj
        exact ⟨u, by simpa using hu, hr⟩
    · simp at h

theorem frozenAV_own {a : AV} : (∃ e size xs, a = .own e size xs) ∨ frozenAV a = a := by
  cases a with
  | own e size xs => exact .inl ⟨e, size, xs, rfl⟩
  | _ => exact .inr rfl

theorem freeze_any (hR : Rel S0 w0 n s a w) (i : Nat) : Rel S0 w0 n (freeze s i) a w := by
  rcases frozenAV_own (a := s i) with ⟨e, size, xs, hs⟩ | hs
  · exact hR.freeze hs
  · have hi : freeze s i i = s i := by unfold freeze; simp [hs]
    have ho : ∀ j, j ≠ i → (s j).refs i = false → freeze s i j = s j := by intro j hj hr; unfold freeze; simp [hj, hr]
    have hk : ∀ j, j ≠ i → (s j).refs i = true → freeze s i j = .dead := by intro j hj hr; unfold freeze; simp [hj, hr]
    refine hR.forget (fun j => ?_) (fun j k hjk => ?_)
    · by_cases hj : j = i
      · subst hj; exact .inl hi
      · cases hr : (s j).refs i with
        | true => exact .inr (hk j hj hr)
        | false => exact .inl (ho j hj hr)
    · by_cases hki : k = i
      · subst hki; exact hi
      · have hsj : freeze s i j = s j := by
          by_cases hj : j = i
          · subst hj; exact hi
          · cases hr : (s j).refs i with
            | true => rw [hk j hj hr] at hjk; cases hjk
            | false => exact ho j hj hr
        rw [hsj] at hjk
        have hko := hR.wf j k hjk
        refine ho k hki ?_
        cases hr : (s k).refs i with
        | true => rw [refs_owner hr] at hko; cases hko
        | false => rfl

/-- Which slots of the call's own are handed over. -/
def lends (s : St) : List Operand → List Nat
  | [] => []
  | x :: r => match (sv s x).2 with
    | .alias i => i :: lends s r
    | _ => lends s r

def freezeL (s : St) : List Nat → St
  | [] => s
  | i :: r => freezeL (freeze s i) r

theorem freezeL_ok : ∀ (l : List Nat) (s : St), Rel S0 w0 n s a w → Rel S0 w0 n (freezeL s l) a w
  | [], _, h => h
  | i :: r, _, h => freezeL_ok r _ (freeze_any h i)

theorem freeze_owner {i k : Nat} (h : (freeze s i k).isOwner = true) : freeze s i k = s k := by
  unfold freeze at h ⊢
  by_cases hk : k = i
  · subst hk
    simp only [if_pos] at h ⊢
    rcases frozenAV_own (a := s k) with ⟨e, size, xs, hs⟩ | hs
    · rw [hs] at h; cases h
    · exact hs
  · simp only [if_neg hk] at h ⊢
    cases hr : (s k).refs i with
    | true => rw [hr] at h; cases h
    | false => rfl

theorem freezeL_owner : ∀ (l : List Nat) (s : St) (k : Nat), (freezeL s l k).isOwner = true → freezeL s l k = s k
  | [], _, _, _ => rfl
  | i :: r, s, k, h => by
    have h1 := freezeL_owner r (freeze s i) k h
    simp only [freezeL] at h ⊢
    rw [h1] at h ⊢
    exact freeze_owner h

theorem freezeL_frozen : ∀ (l : List Nat) (s : St) (i : Nat), (∃ e size xs, s i = .own e size xs) → i ∈ l → (freezeL s l i).isOwner = false
  | [], _, _, _, h => by cases h
  | j :: r, s, i, hs, hm => by
    simp only [freezeL]
    by_cases hij : i = j
    · subst hij
      cases ho : (freezeL (freeze s i) r i).isOwner with
      | false => rfl
      | true =>
        have := freezeL_owner r _ _ ho
        rw [this] at ho
        obtain ⟨e, size, xs, hs⟩ := hs
        unfold freeze at ho
        simp [hs, frozenAV, AV.isOwner] at ho
    · refine freezeL_frozen r _ i ?_ (by simpa [hij] using hm)
      obtain ⟨e, size, xs, hs⟩ := hs
      refine ⟨e, size, xs, ?_⟩
      unfold freeze
      simp [hij, hs, AV.refs]

/-- The arguments, where what is handed over is written to no more. -/
theorem argX_frozen (hR : Rel S0 w0 n s a w) {x : Operand} {p : Prop} {xv : XV} (h : argX s x = (p, some xv)) (hp : p) (l : List Nat) (hl : ∀ i, (sv s x).2 = .alias i → i ∈ l) :
    RepX w (Shared S0 w0.heap.size w (freezeL s l) (tmOf a)) xv (a.eval x) := by
  have hsv := hR.sv x
  have hblk : ∀ k b, blkOf (freezeL s l k) (tmOf a k) = some b → (freezeL s l k).isOwner = true ∧ blkOf (s k) (tmOf a k) = some b := by
    intro k b hb
    have ho : (freezeL s l k).isOwner = true := by
      cases ho : (freezeL s l k).isOwner with
      | true => rfl
      | false => rw [blkOf_notOwner ho] at hb; cases hb
    rw [freezeL_owner l s k ho] at hb
    exact ⟨ho, hb⟩
  have hsub : ∀ b, Shared S0 w0.heap.size w s (tmOf a) b → Shared S0 w0.heap.size w (freezeL s l) (tmOf a) b := fun b hb => ⟨hb.1, hb.2.1, fun k hk => hb.2.2 k (hblk k b hk).2⟩
  unfold argX at h
  split at h
  · rename_i q xv' e
    simp only [Prod.mk.injEq, Option.some.injEq] at h
    obtain ⟨rfl, rfl⟩ := h
    rw [e] at hsv
    exact RepX.mono (hsv hp) hsub (fun _ _ => rfl)
  · rename_i q i e
    split at h
    · rename_i e' size xs hs
      simp only [Prod.mk.injEq, Option.some.injEq] at h
      obtain ⟨rfl, rfl⟩ := h
      have hil := hl i (by rw [e])
      rw [e] at hsv
      obtain ⟨hv, _⟩ := hsv hp
      have hi := hR.rep i
      rw [hs] at hi
      obtain ⟨us, hown, hlr, hx, hm⟩ := hi
      rw [hv]
      refine own_list hown (hlr.mono hsub (fun _ _ => rfl)) hx hm (fun b hb => ⟨.inr (hown.lt b hb).1, (hown.lt b hb).2, fun k hk => ?_⟩)
      obtain ⟨ho, hkb⟩ := hblk k b hk
      have hki := hR.inj k i b hkb (by rw [hs]; exact hb)
      subst hki
      rw [freezeL_frozen l s k ⟨_, _, _, hs⟩ hil] at ho
      cases ho
    · simp at h
  · simp at h

theorem argXs_frozen (hR : Rel S0 w0 n s a w) (l : List Nat) : ∀ {args : List Operand} {p : Prop} {xs : List XV}, argXs s args = (p, some xs) → p → (∀ i ∈ lends s args, i ∈ l) →
    RepArgs w (Shared S0 w0.heap.size w (freezeL s l) (tmOf a)) xs (args.map a.eval).toArray := by
  intro args
  induction args with
  | nil =>
    intro p xs h _ _
    simp only [argXs, Prod.mk.injEq, Option.some.injEq] at h
    obtain ⟨_, rfl⟩ := h
    exact ⟨rfl, fun j x hj => by simp at hj⟩
  | cons x r ih =>
    intro p xs h hp hl
    simp only [argXs] at h
    split at h
    · rename_i q v q' vs e1 e2
      simp only [Prod.mk.injEq, Option.some.injEq] at h
      obtain ⟨rfl, rfl⟩ := h
      have h1 := argX_frozen hR e1 hp.1 l (fun i hi => hl i (by simp [lends, hi]))
      obtain ⟨h2, h3⟩ := ih e2 hp.2 (fun i hi => hl i (by
        simp only [lends]
        split
        · exact List.mem_cons_of_mem _ hi
        · exact hi))
      refine ⟨by simpa using h2, fun j x' hj => ?_⟩
      cases j with
      | zero => simp at hj; subst hj; exact ⟨_, rfl, h1⟩
      | succ j =>
        simp only [List.getElem?_cons_succ] at hj
        obtain ⟨u, hu, hr⟩ := h3 j x' hj
        exact ⟨u, by simpa using hu, hr⟩
    · simp at h

/-- What is known behind a call: where slices of the call's own were handed over and a slice came back, they are written to no more. -/
def afterCall (s : St) (args : List Operand) (r : RV) : St :=
  match r.flat with
  | true => s
  | false => freezeL s (lends s args)

theorem RV.rep {S : Nat → Prop} {B : Nat} {tm : Nat → Value} {r : RV} {v : Value} (h : RepR w S r v) : RepAV w S B s tm r.av v := by
  cases r with
  | x xv => exact h
  | tup vs => exact h

theorem RV.notOwner (r : RV) : r.av.isOwner = false := by cases r <;> rfl

theorem grownBy_of_below {w w' : World} (h : Below w.heap.size w w') : w.grownBy w' none := ⟨h.os, h.tape, h.output, h.size, fun k hk _ => h.block k hk⟩

theorem RepArgs.append {S : Nat → Prop} {xs ys : List XV} {us vs : Array Value} (h1 : RepArgs w S xs us) (h2 : RepArgs w S ys vs) : RepArgs w S (xs ++ ys) (us ++ vs) := by
  refine ⟨by simp [h1.1, h2.1], fun j x hj => ?_⟩
  by_cases hlt : j < xs.length
  · rw [List.getElem?_append_left hlt] at hj
    rw [Array.getElem?_append_left (by rw [h1.1]; exact hlt)]
    exact h1.2 j x hj
  · rw [List.getElem?_append_right (by omega)] at hj
    rw [Array.getElem?_append_right (by rw [h1.1]; omega), h1.1]
    exact h2.2 _ x hj

/-- What a function's value holds. -/
theorem fnOf_ok {S : Nat → Prop} {B : Nat} {tm : Nat → Value} {v : AV} {u : Value} {g : FuncId} {caps : List XV} (h : RepAV w S B s tm v u) (hf : fnOf v = some (g, caps)) :
    ∃ us : Array Value, u = .func (.func g) #[] us ∧ RepArgs w S caps us := by
  unfold fnOf at hf
  split at hf
  · injection hf with hf
    injection hf with hf1 hf2
    subst hf1; subst hf2
    cases h
    exact ⟨#[], rfl, rfl, fun j x hj => by simp at hj⟩
  · rename_i f' cs
    injection hf with hf
    injection hf with hf1 hf2
    subst hf1; subst hf2
    cases h with
    | clo _ _ U hU =>
      refine ⟨_, rfl, by simp, fun j x hj => ?_⟩
      rw [List.getElem?_map] at hj
      cases hc : cs[j]? with
      | none => rw [hc] at hj; cases hj
      | some c =>
        rw [hc] at hj
        injection hj with hj
        subst hj
        have hlt := (List.getElem?_eq_some_iff.1 hc).1
        exact ⟨U j, by simp [List.getElem?_range hlt], hU j c hc⟩
  · cases hf

theorem RepArgs.mono {S S' : Nat → Prop} {xs : List XV} {us : Array Value} (h : RepArgs w S xs us) (hS : ∀ b, S b → S' b) : RepArgs w S' xs us :=
  ⟨h.1, fun j x hj => let ⟨u, hu, hr⟩ := h.2 j x hj; ⟨u, hu, RepX.mono hr hS (fun _ _ => rfl)⟩⟩

/-- THE STEP OF A CALL. -/
theorem acall_ok (hR : Rel S0 w0 n s a w) {f : Operand} {args : Array Operand} {r : RV} (hc : acall P s f args.toList r)
    {o : Oper} (ho : ∃ ts, o.op = .call { callee := .value f, args := args, argTypes := ts }) {K : Act → World → Prop} {Q : Exit → Act → World → Prop}
    (hK : ∀ v w', w.grownBy w' none → RepIn S0 w0 (afterCall s args.toList r) a w' r.av v → Rel S0 w0 n (afterCall s args.toList r) a w → K (a.put o.dst v) w') : o.wp P a w K Q := by
  obtain ⟨ts, hop⟩ := ho
  unfold acall at hc
  split at hc
  · rename_i pp g xs0 e0
    obtain ⟨hpp, ⟨fn, hfn, hname, hbody⟩, hcalls⟩ := hc
    obtain ⟨caps, xs, p, q, fv, ef, e2, e1, rfl, rfl⟩ : ∃ caps xs p q fv, sv s f = (p, fv) ∧ argXs s args.toList = (q, some xs) ∧ fnOf fv = some (g, caps) ∧ pp = (p ∧ q) ∧ xs0 = xs ++ caps := by
      unfold callee at e0
      split at e0
      · rename_i p fv q xs ef e2
        split at e0
        · rename_i g' caps e1
          simp only [Prod.mk.injEq, Option.some.injEq] at e0
          obtain ⟨rfl, rfl, rfl⟩ := e0
          exact ⟨caps, xs, p, q, fv, ef, e2, e1, rfl, rfl⟩
        · simp at e0
      · simp at e0
    obtain ⟨hpf, hp⟩ := hpp
    have hsvf := hR.sv f (by rw [ef]; exact hpf)
    rw [ef] at hsvf
    obtain ⟨us, hfv, hcap⟩ := fnOf_ok hsvf e1
    have hm : args.map a.eval = (args.toList.map a.eval).toArray := by apply Array.ext'; simp
    have hrun : (execOp a.eval o).run P w = .ok (.enter g (args.map a.eval ++ us)) w := by
      simp only [execOp, hop, resolve, hfv, Deferred.ofValue, Sem.run_bind, Sem.run_pure, Result.andThen_ok, invoke, callFunc, run_program, hfn, hname, hbody, Bool.false_eq_true, if_false]
      simp
    unfold Oper.wp
    rw [hrun]
    simp only [Oper.upon]
    rw [hm]
    cases hfl : r.flat with
    | true =>
      have hac : afterCall s args.toList r = s := by unfold afterCall; rw [hfl]
      rw [hac] at hK
      refine (hcalls w (Lent S0 w0.heap.size w) _ (fun b hb => hb.2) ((argXs_ok hR e2 hp).append (hcap.mono (fun b hb => ⟨hb.1, hb.2.1⟩)))).mono ?_
      rintro e w' ⟨v, rfl, hb, hr⟩
      exact hK v w' (grownBy_of_below hb) (RV.rep (hr.flat hfl)) hR
    | false =>
      have hac : afterCall s args.toList r = freezeL s (lends s args.toList) := by unfold afterCall; rw [hfl]
      rw [hac] at hK
      have hR' := freezeL_ok (lends s args.toList) s hR
      refine (hcalls w (Shared S0 w0.heap.size w (freezeL s (lends s args.toList)) (tmOf a)) _ (fun b hb => hb.2.1) ((argXs_frozen hR _ e2 hp (fun i hi => hi)).append (hcap.mono (fun b hb => ⟨hb.1, hb.2.1, fun k hk => by
        have ho : (freezeL s (lends s args.toList) k).isOwner = true := by
          cases ho : (freezeL s (lends s args.toList) k).isOwner with
          | true => rfl
          | false => rw [blkOf_notOwner ho] at hk; cases hk
        rw [freezeL_owner _ s k ho] at hk
        exact hb.2.2 k hk⟩)))).mono ?_
      rintro e w' ⟨v, rfl, hb, hr⟩
      refine hK v w' (grownBy_of_below hb) (RV.rep (hr.mono (fun b hbb => ?_) (fun _ _ => rfl))) hR'
      rcases hbb with h | ⟨h1, h2⟩
      · exact ⟨h.1, Nat.lt_of_lt_of_le h.2.1 hb.size, h.2.2⟩
      · refine ⟨.inr (Nat.le_trans hR.below.size h1), h2, fun k hk => ?_⟩
        have := ((hR'.rep k).blk_lt hk).2
        omega
  · exact hc.elim

end
end Go.Ab
