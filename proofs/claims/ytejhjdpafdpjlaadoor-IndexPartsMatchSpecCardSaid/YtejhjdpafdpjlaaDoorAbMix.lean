/-
  Steps that write, beside steps that hang on no content.
-/
import Derived.Test.YtejhjdpafdpjlaaDoorAbCalm
namespace Go.Ab
open Go Go.RowKit
set_option linter.unusedSectionVars false
variable [Amb]

/-- The same but for what it holds. -/
def Sh (a b : AV) : Prop := b = a ∨ (∃ cs cs', a = .box cs ∧ b = .box cs') ∨ (∃ e z xs xs', a = .own e z xs ∧ b = .own e z xs' ∧ xs'.length = xs.length)
theorem Sh.refl (a : AV) : Sh a a := .inl rfl
theorem Sh.owner {a b : AV} (h : Sh a b) : b.isOwner = a.isOwner := by
  rcases h with rfl | ⟨_, _, rfl, rfl⟩ | ⟨_, _, _, _, rfl, rfl, _⟩ <;> rfl
theorem Sh.refs {a b : AV} (h : Sh a b) (j : Nat) : b.refs j = a.refs j := by
  rcases h with rfl | ⟨_, _, rfl, rfl⟩ | ⟨_, _, _, _, rfl, rfl, _⟩ <;> rfl

/-- Two states agree on what an operand leads to, but for contents. -/
def AgreeSh (s s' : St) : Operand → Prop
  | .tmp t => Sh (s t) (s' t) ∧ ∀ b, (s t).refs b = true → Sh (s b) (s' b)
  | _ => True

section
variable {P : Program} {s s' : St}

theorem look_sh {x : Operand} (h : AgreeSh s s' x) : look s' x = look s x := by
  cases x with
  | tmp t =>
    obtain ⟨h1, _⟩ := h
    simp only [look]
    rcases h1 with h1 | ⟨_, _, h1, h2⟩ | ⟨_, _, _, _, h1, h2, _⟩
    · rw [h1]
    · rw [h1, h2]
    · rw [h1, h2]
  | _ => rfl
theorem sv_sh {x : Operand} (h : AgreeSh s s' x) : sv s' x = sv s x := by simp only [sv, look_sh h]
theorem base_sh {x : Operand} (h : AgreeSh s s' x) {b : Nat} (hb : (sv s x).2.refs b = true) : Sh (s b) (s' b) := by
  have hl : (look s x).refs b = true := by
    unfold sv at hb
    generalize look s x = r at hb ⊢
    cases r with
    | cond e a => exact hb
    | _ => exact hb
  cases x with
  | tmp t =>
    simp only [look] at hl
    split at hl
    · obtain rfl : t = b := by simpa [AV.refs] using hl
      exact h.1
    · obtain rfl : t = b := by simpa [AV.refs] using hl
      exact h.1
    · obtain rfl : t = b := by simpa [AV.refs] using hl
      exact h.1
    · exact h.2 b hl
  | const v =>
    simp only [look, constAV] at hl
    split at hl
    · split at hl <;> cases hl
    · cases hl
    · split at hl <;> cases hl
  | _ => cases hl
theorem abound_sh {o : Option Operand} {z : Int} (h : ∀ x, o = some x → AgreeSh s s' x) : abound s' o z = abound s o z := by
  cases o with
  | none => rfl
  | some x => simp only [abound, sv_sh (h x rfl)]
theorem aindexAddr_sh {t : TypeId} {x i : Prop × AV} (h : ∀ b, x.2.refs b = true → Sh (s b) (s' b)) : aindexAddr P s' t x i = aindexAddr P s t x i := by
  unfold aindexAddr
  split
  · rfl
  · rcases h _ (beq_self_eq_true _) with e | ⟨_, _, e1, e2⟩ | ⟨_, _, _, _, e1, e2, e3⟩
    · rw [e]
    · rw [e1, e2]
    · rw [e1, e2]; simp only [e3]
  · rcases h _ (beq_self_eq_true _) with e | ⟨_, _, e1, e2⟩ | ⟨_, _, _, _, e1, e2, e3⟩
    · rw [e]
    · rw [e1, e2]; rfl
    · rw [e1, e2]; rfl
  · rfl
theorem aslice_sh {t : TypeId} {x : Prop × AV} {lo hi mx : Option Operand} (h : ∀ b, x.2.refs b = true → Sh (s b) (s' b)) (h1 : ∀ z, abound s' lo z = abound s lo z) (h2 : ∀ z, abound s' hi z = abound s hi z) (h3 : ∀ z, abound s' mx z = abound s mx z) : aslice P s' t x lo hi mx = aslice P s t x lo hi mx := by
  unfold aslice
  split
  · simp only [h1, h2, h3]
  · simp only [h1, h2, h3]
  · simp only [h1, h2, h3]
  · rcases h _ (beq_self_eq_true _) with e | ⟨_, _, e1, e2⟩ | ⟨_, _, _, _, e1, e2, e3⟩
    · rw [e]; simp only [h1, h2, h3]
    · rw [e1, e2]
    · rw [e1, e2]; simp only [e3, h1, h2, h3]
  · rcases h _ (beq_self_eq_true _) with e | ⟨_, _, e1, e2⟩ | ⟨_, _, _, _, e1, e2, e3⟩
    · rw [e]; simp only [h1, h2, h3]
    · rw [e1, e2]; simp only [h1, h2, h3]; rfl
    · rw [e1, e2]; simp only [h1, h2, h3]; rfl
  · rfl
theorem alen_sh {t : TypeId} {x : Prop × AV} (h : ∀ b, x.2.refs b = true → Sh (s b) (s' b)) : alen P s' t x = alen P s t x := by
  unfold alen
  split
  · rfl
  · rfl
  · rfl
  · rfl
  · rcases h _ (beq_self_eq_true _) with e | ⟨_, _, e1, e2⟩ | ⟨_, _, _, _, e1, e2, e3⟩
    · rw [e]
    · rw [e1, e2]
    · rw [e1, e2]; simp only [e3]
  · rfl
  · rfl

/-- An operation that looks at no content. -/
def lightB : Op → Bool
  | .move _ => true
  | .assign _ => true
  | .pick _ _ _ => true
  | .nilCheck _ => true
  | .binOp _ _ _ _ _ => true
  | .unOp _ _ _ => true
  | .convert _ _ _ => true
  | .slice _ _ _ _ _ => true
  | .fieldAddr _ _ _ => true
  | .field _ _ _ => true
  | .indexAddr _ _ _ => true
  | .index _ _ _ => true
  | .makeFunc _ _ _ => true
  | .extract _ _ => true
  | .build _ _ => true
  | .call c => match c.callee with
    | .builtin .len => true
    | .builtin .max => true
    | .builtin .min => true
    | _ => false
  | _ => false
/-- .. or that loads what is in no slot. -/
def lightAt (s : St) (op : Op) : Prop := match op with
  | .load _ x => ∃ cs, (sv s x).2 = .elem cs
  | op => lightB op = true

theorem aval2_sh (op : Op) (hl : lightAt s op) (h : ∀ x ∈ op.operands, AgreeSh s s' x) : aval2 P s' op = aval2 P s op := by
  cases op with
  | move x => exact sv_sh (h x (by simp [Op.operands]))
  | assign x => simp only [aval2, aval, look_sh (h x (by simp [Op.operands]))]
  | pick c x y => simp only [aval2, aval, sv_sh (h c (by simp [Op.operands])), sv_sh (h x (by simp [Op.operands])), sv_sh (h y (by simp [Op.operands]))]
  | load t x =>
    obtain ⟨cs, hcs⟩ := hl
    have hx := sv_sh (h x (by simp [Op.operands]))
    simp only [aval2, aval, hx, hcs, mem]
  | nilCheck x => simp only [aval2, aval, sv_sh (h x (by simp [Op.operands]))]
  | binOp op t x y yt => simp only [aval2, aval, sv_sh (h x (by simp [Op.operands])), sv_sh (h y (by simp [Op.operands]))]
  | unOp op t x => simp only [aval2, aval, sv_sh (h x (by simp [Op.operands]))]
  | convert src dst x => simp only [aval2, aval, sv_sh (h x (by simp [Op.operands]))]
  | slice t x lo hi mx =>
    have hx := h x (by simp [Op.operands])
    have h1 : ∀ z, abound s' lo z = abound s lo z := fun z => abound_sh (fun y hy => h y (by subst hy; simp [Op.operands]))
    have h2 : ∀ z, abound s' hi z = abound s hi z := fun z => abound_sh (fun y hy => h y (by subst hy; simp [Op.operands]))
    have h3 : ∀ z, abound s' mx z = abound s mx z := fun z => abound_sh (fun y hy => h y (by subst hy; simp [Op.operands]))
    simp only [aval2, aval, sv_sh hx, aslice_sh (fun b hb => base_sh hx hb) h1 h2 h3]
  | fieldAddr t x f => simp only [aval2, aval, sv_sh (h x (by simp [Op.operands]))]
  | field t x f => simp only [aval2, aval, sv_sh (h x (by simp [Op.operands]))]
  | indexAddr t x i =>
    have hx := h x (by simp [Op.operands])
    simp only [aval2, aval, sv_sh hx, sv_sh (h i (by simp [Op.operands])), aindexAddr_sh (fun b hb => base_sh hx hb)]
  | index t x i => simp only [aval2, aval, sv_sh (h x (by simp [Op.operands])), sv_sh (h i (by simp [Op.operands]))]
  | makeFunc fn first captured =>
    have : captured.toList.map (Ab.sv s') = captured.toList.map (Ab.sv s) := by
      apply List.map_congr_left
      intro x hx
      exact sv_sh (h x (by simp [Op.operands]; exact .inr (by simpa using hx)))
    simp only [aval2, aval, amakeFunc, this]
  | extract x i => simp only [aval2, aval, sv_sh (h x (by simp [Op.operands]))]
  | call c =>
    obtain ⟨callee, ⟨args⟩, ts⟩ := c
    have ha : ∀ x ∈ args, AgreeSh s s' x := fun x hx => h x (by simp [Op.operands, Call.operands, hx])
    simp only [aval2, aval]
    unfold abuiltin
    split
    · split
      · rw [sv_sh (ha _ (by simp)), alen_sh (fun b hb => base_sh (ha _ (by simp)) hb)]
      · rfl
    · split
      · rw [sv_sh (ha _ (by simp))]
      · rfl
    · split
      · rw [sv_sh (ha _ (by simp)), sv_sh (ha _ (by simp))]
      · rfl
    · split
      · rw [sv_sh (ha _ (by simp)), sv_sh (ha _ (by simp))]
      · rfl
    · rfl
  | build t parts =>
    have : (parts.toList.map fun x => (x.1, sv s' x.2)) = (parts.toList.map fun x => (x.1, sv s x.2)) := by
      apply List.map_congr_left
      intro x hx
      rw [sv_sh (h x.2 (by simp only [Op.operands, List.mem_toArray, List.mem_map]; exact ⟨x, hx, rfl⟩))]
    simp only [aval2, abuild, this]
  | _ => simp [lightAt, lightB] at hl

theorem lightAt_sh {op : Op} (hl : lightAt s op) (h : ∀ x ∈ op.operands, AgreeSh s s' x) : lightAt s' op := by
  cases op with
  | load t x =>
    obtain ⟨cs, hcs⟩ := hl
    exact ⟨cs, by rw [sv_sh (h x (by simp [Op.operands]))]; exact hcs⟩
  | _ => exact hl

theorem acalm_sh {op : Op} {r : AV} (hl : lightAt s op) (h : ∀ x ∈ op.operands, AgreeSh s s' x) (hc : acalm P s op r) : acalm P s' op r := by
  have key := aval2_sh (P := P) op hl h
  cases op with
  | call c =>
    obtain ⟨callee, args, ts⟩ := c
    cases callee with
    | value f => simp [lightAt, lightB] at hl
    | _ => simp only [acalm] at hc ⊢; rw [key]; exact hc
  | alloc t => simp [lightAt, lightB] at hl
  | box t x => simp [lightAt, lightB] at hl
  | buildSlice t len parts => simp [lightAt, lightB] at hl
  | _ => simp only [acalm] at hc ⊢; rw [key]; exact hc

theorem acalmG_sh {e : Bool} {op : Op} {r : AV} (hl : lightAt s op) (h : ∀ x ∈ op.operands, AgreeSh s s' x) (hc : acalmG P s e op r) : acalmG P s' e op r := by
  have key := aval2_sh (P := P) op hl h
  cases op with
  | call c =>
    obtain ⟨callee, args, ts⟩ := c
    cases callee with
    | value f => simp [lightAt, lightB] at hl
    | _ => simp only [acalmG] at hc ⊢; rw [key]; exact hc
  | _ => simp only [acalmG] at hc ⊢; rw [key]; exact hc

/-- What light operations yield owns nothing. -/
theorem acalm_light {op : Op} {r : AV} (hl : lightAt s op) (hc : acalm P s op r) : r = (aval2 P s op).2 := by
  cases op with
  | call c =>
    obtain ⟨callee, args, ts⟩ := c
    cases callee with
    | value f => simp [lightAt, lightB] at hl
    | _ => simp only [acalm] at hc; exact hc.2
  | alloc t => simp [lightAt, lightB] at hl
  | box t x => simp [lightAt, lightB] at hl
  | buildSlice t len parts => simp [lightAt, lightB] at hl
  | _ => simp only [acalm] at hc; exact hc.2
end

/-! ### What is written -/
/-- The slots that are written, and what they hold then. -/
def setW (s : St) (W : List (Nat × AV)) : St := fun i => match W.find? (fun p => p.1 == i) with
  | some p => p.2
  | none => s i

/-- The slot that a store writes. -/
def storeW (P : Program) (s : St) (t : TypeId) (addr x : Prop × AV) : Option (Prop × Nat × AV) :=
  match addr, x, (tk P t).cells with
  | (p, .ptr i off), (q, .x xv), some m => match s i with
    | .box cs => some (p ∧ q ∧ xv.cells.length = m ∧ off + m ≤ cs.length, i, .box (setRange cs off xv.cells))
    | _ => none
  | (p, .eptr i k off), (q, .x xv), some m => match s i with
    | .own e size xs => some (p ∧ q ∧ xv.cells.length = m ∧ k < xs.length ∧ off + m ≤ size, i, .own e size (xs.set k (setRange (xs.getD k []) off xv.cells)))
    | _ => none
  | _, _, _ => none
theorem astore_W {P : Program} {s : St} {t : TypeId} {addr x : Prop × AV} (h : (astore P s t addr x).1) : ∃ p i v, storeW P s t addr x = some (p, i, v) ∧ p ∧ (astore P s t addr x).2 = setW s [(i, v)] ∧ Sh (s i) v ∧ (s i).isOwner = true ∧ addr.2.refs i = true := by
  have hset : ∀ i v, (fun j => if j = i then v else s j) = setW s [(i, v)] := by
    intro i v
    funext j
    unfold setW
    by_cases hj : j = i
    · subst hj; simp
    · have : (i == j) = false := by simpa using fun e => hj e.symm
      simp [hj, this]
  unfold astore at h ⊢
  unfold storeW
  split at h
  · rename_i p i off q xv m e
    split at h
    · rename_i cs hs
      refine ⟨_, i, _, by simp only [e, hs]; rfl, h, by simp only [hs]; exact hset i _, by rw [hs]; exact .inr (.inl ⟨_, _, rfl, rfl⟩), by rw [hs]; rfl, by simp [AV.refs]⟩
    · exact h.elim
  · rename_i p i k off q xv m e
    split at h
    · rename_i e' size xs hs
      refine ⟨_, i, _, by simp only [e, hs]; rfl, h, by simp only [hs]; exact hset i _, by rw [hs]; exact .inr (.inr ⟨_, _, _, _, rfl, rfl, by simp⟩), by rw [hs]; rfl, by simp [AV.refs]⟩
    · exact h.elim
  · exact h.elim

/-! ### Writing steps -/
def boxOuts : List (AV × Option Nat) → List AV → Bool
  | (_, some _) :: l, .box _ :: outs => boxOuts l outs
  | (_, none) :: l, _ :: outs => boxOuts l outs
  | [], _ => true
  | _, _ => false

/-- In state s the operation writes W and hands dr back. -/
def writes (P : Program) (n : Nat) (o : Oper) (s : St) (W : List (Nat × AV)) (dr : Option (Nat × AV)) : Prop :=
  o.guard = none ∧ match o.op with
  | .store t addr x => o.dst = none ∧ dr = none ∧ OneOk P t = true ∧ lends s [x] = [] ∧ ∃ p i v, storeW P s t (sv s addr) (uv s x) = some (p, i, v) ∧ p ∧ W = [(i, v)]
  | .call c => match c.callee with
    | .value f => ∃ d p g ys r outs, o.dst = some d ∧ d < n ∧ calleeM s f c.args.toList = (p, some (g, ys)) ∧ p ∧ (slotsOf ys).Nodup ∧ ACallsM P g (ys.map (·.1)) r outs ∧ boxOuts ys outs = true ∧ r.av.isOwner = false ∧ W = pairs ys outs ∧ dr = some (d, r.av)
    | _ => False
  | _ => False

def goW (s : St) (W : List (Nat × AV)) : Option (Nat × AV) → St
  | none => setW s W
  | some (d, r) => put (setW s W) d r

/-- A step that writes to slots of boxes and rows, and hands back at most one value. -/
def wStep (P : Program) (n : Nat) (o : Oper) (s s' : St) : Prop :=
  ∃ W dr, writes P n o s W dr ∧ (∀ d r, dr = some (d, r) → o.dst = some d ∧ (s d).isOwner = false ∧ r.isOwner = false ∧ ∀ j, r.refs j = false) ∧ (dr = none → o.dst = none) ∧ s' = goW s W dr

section
variable {P : Program} {s s' : St}

theorem setW_at (W : List (Nat × AV)) (i : Nat) : (∃ v, (i, v) ∈ W ∧ setW s W i = v) ∨ ((∀ v, (i, v) ∉ W) ∧ setW s W i = s i) := by
  unfold setW
  cases hf : W.find? (fun p => p.1 == i) with
  | none =>
    refine .inr ⟨fun v hv => ?_, rfl⟩
    have := List.find?_eq_none.1 hf (i, v) hv
    simp at this
  | some p =>
    have h1 := List.mem_of_find?_eq_some hf
    have h2 := List.find?_some hf
    simp at h2
    refine .inl ⟨p.2, ?_, rfl⟩
    rw [← h2]; exact h1
theorem setW_not {W : List (Nat × AV)} {i : Nat} (h : ∀ v, (i, v) ∉ W) : setW s W i = s i := by
  unfold setW
  cases hf : W.find? (fun p => p.1 == i) with
  | none => rfl
  | some p =>
    have h1 := List.mem_of_find?_eq_some hf
    have h2 := List.find?_some hf
    simp at h2
    exact absurd (by rw [← h2]; exact h1) (h p.2)
theorem setW_same (t t' : St) {W : List (Nat × AV)} {i : Nat} {v : AV} (h : (i, v) ∈ W) : setW t W i = setW t' W i := by
  unfold setW
  cases hf : W.find? (fun p => p.1 == i) with
  | none => have := List.find?_eq_none.1 hf (i, v) h; simp at this
  | some p => rfl

theorem setW_sh {W : List (Nat × AV)} (h : ∀ i v, (i, v) ∈ W → Sh (s i) v ∧ (s i).isOwner = true) (i : Nat) : Sh (s i) (setW s W i) := by
  rcases setW_at (s := s) W i with ⟨v, hv, e⟩ | ⟨_, e⟩
  · rw [e]; exact (h i v hv).1
  · rw [e]; exact .inl rfl

theorem argM_congr {x : Operand} (h : AgreeO s s' x) : argM s' x = argM s x := by
  have hb := fun b hb => base_congr h (b := b) hb
  simp only [argM, sv_congr h]
  generalize Ab.sv s x = r at hb
  obtain ⟨p, r⟩ := r
  cases r with
  | alias j => simp only [hb j (by simp [AV.refs])]
  | ptr j off =>
    cases off with
    | zero => simp only [hb j (by simp [AV.refs])]
    | succ k => rfl
  | _ => rfl
theorem argMs_congr : ∀ (args : List Operand), (∀ x ∈ args, AgreeO s s' x) → argMs s' args = argMs s args
  | [], _ => rfl
  | x :: r, h => by simp only [argMs, argM_congr (h x (by simp)), argMs_congr r (fun y hy => h y (by simp [hy]))]
theorem capMs_congr : ∀ (caps : List (CV ⊕ (Nat × Nat))), (∀ b, caps.any (capRef b) = true → s' b = s b) → capMs s' caps = capMs s caps
  | [], _ => rfl
  | c :: r, h => by
    have h1 : capM s' c = capM s c := by
      unfold capM
      split
      · rfl
      · rename_i i; rw [h i (by simp [capRef])]
      · rfl
    simp only [capMs, h1, capMs_congr r (fun b hb => h b (by simp [hb]))]
theorem calleeM_congr {f : Operand} {args : List Operand} (hf : AgreeO s s' f) (h : ∀ x ∈ args, AgreeO s s' x) : calleeM s' f args = calleeM s f args := by
  have hb := fun b hb => base_congr hf (b := b) hb
  simp only [calleeM, sv_congr hf, argMs_congr args h]
  generalize Ab.sv s f = r at hb
  obtain ⟨p, r⟩ := r
  have : fnM s' r = fnM s r := by
    cases r with
    | cloR g caps => simp only [fnM, capMs_congr caps (fun b hc => hb b (by simpa [AV.refs] using hc))]
    | _ => rfl
  generalize argMs s args = b
  obtain ⟨q, b⟩ := b
  cases b with
  | none => rfl
  | some xs => dsimp only; rw [this]

theorem writes_congr {n : Nat} {o : Oper} {W : List (Nat × AV)} {dr : Option (Nat × AV)} (h : ∀ x ∈ o.op.operands, AgreeO s s' x) : writes P n o s' W dr ↔ writes P n o s W dr := by
  unfold writes
  cases hop : o.op with
  | store t addr x =>
    rw [hop] at h
    have ha := h addr (by simp [Op.operands])
    have hx := h x (by simp [Op.operands])
    have huv : uv s' x = uv s x := by simp only [uv, argX_congr hx]
    have hl : lends s' [x] = lends s [x] := lends_congr [x] (fun y hy => by simp at hy; subst hy; exact hx)
    have hst : storeW P s' t (sv s addr) (uv s x) = storeW P s t (sv s addr) (uv s x) := by
      unfold storeW
      split
      · rename_i e _ _; rw [base_congr ha (by rw [e]; simp [AV.refs])]
      · rename_i e _ _; rw [base_congr ha (by rw [e]; simp [AV.refs])]
      · rfl
    simp only [huv, hl, sv_congr ha, hst]
  | call c =>
    rw [hop] at h
    obtain ⟨callee, ⟨args⟩, ts⟩ := c
    cases callee with
    | value f =>
      have hf : AgreeO s s' f := h f (by simp [Op.operands, Call.operands])
      have ha : ∀ x ∈ args, AgreeO s s' x := fun x hx => h x (by simp [Op.operands, Call.operands, hx])
      simp only [calleeM_congr hf ha]
    | _ => rfl
  | _ => rfl
end

theorem gval_keep {ops : Array Oper} {s s' : St} {g : Nat × Bool} {e : Bool} (he : gval ops s g = some e) (h : ∀ d, (ops[g.1]?).bind (·.dst) = some d → (s d).isOwner = false → s' d = s d) : gval ops s' g = gval ops s g := by
  unfold gval at he ⊢
  cases hd : (ops[g.1]?).bind (·.dst) with
  | none => rfl
  | some d =>
    rw [hd] at he
    simp only at he ⊢
    rw [h d hd]
    cases hs : s d <;> rw [hs] at he <;> first | rfl | cases he

theorem pairs_fst : ∀ (l : List (AV × Option Nat)) (outs : List AV), ((pairs l outs).map (·.1)).Sublist (slotsOf l)
  | [], _ => by simp [pairs]
  | (x, none) :: l, [] => by simp [pairs]
  | (x, some i) :: l, [] => by simp [pairs]
  | (x, none) :: l, o :: outs => by simpa [pairs, slotsOf] using pairs_fst l outs
  | (x, some i) :: l, o :: outs => by
    have := pairs_fst l outs
    simp only [pairs, slotsOf, List.map_cons, List.filterMap_cons]
    exact this.cons_cons i
theorem boxOuts_at : ∀ {l : List (AV × Option Nat)} {outs : List AV}, boxOuts l outs = true → ∀ i o, (i, o) ∈ pairs l outs → ∃ cs, o = .box cs
  | [], _, _, i, o, h => by simp [pairs] at h
  | (x, none) :: l, [], hb, i, o, h => by simp [pairs] at h
  | (x, some k) :: l, [], hb, i, o, h => by simp [pairs] at h
  | (x, none) :: l, q :: outs, hb, i, o, h => by
    simp only [pairs] at h
    exact boxOuts_at (l := l) (outs := outs) (by simpa [boxOuts] using hb) i o h
  | (x, some k) :: l, q :: outs, hb, i, o, h => by
    cases q with
    | box cs =>
      simp only [pairs] at h
      rcases List.mem_cons.1 h with e | e
      · injection e with e1 e2; exact ⟨cs, e2⟩
      · exact boxOuts_at (l := l) (outs := outs) (by simpa [boxOuts] using hb) i o e
    | _ => simp [boxOuts] at hb

/-- What an argument's slot holds. -/
theorem argM_slot {s : St} {x : Operand} {p : Prop} {y : AV} {i : Nat} (h : argM s x = (p, some (y, some i))) : s i = y ∧ y.isOwner = true := by
  unfold argM at h
  split at h
  · simp at h
  · split at h
    · rename_i hs; simp only [Prod.mk.injEq, Option.some.injEq] at h; obtain ⟨_, rfl, rfl⟩ := h; exact ⟨hs, rfl⟩
    · rename_i hs; simp only [Prod.mk.injEq, Option.some.injEq] at h; obtain ⟨_, rfl, rfl⟩ := h; exact ⟨hs, rfl⟩
    · simp at h
  · split at h
    · rename_i hs; simp only [Prod.mk.injEq, Option.some.injEq] at h; obtain ⟨_, rfl, rfl⟩ := h; exact ⟨hs, rfl⟩
    · simp at h
  · simp at h
theorem argMs_slot {s : St} : ∀ {l : List Operand} {p : Prop} {ys : List (AV × Option Nat)}, argMs s l = (p, some ys) → ∀ (y : AV) (i : Nat), (y, some i) ∈ ys → s i = y ∧ y.isOwner = true
  | [], p, ys, h, y, i, hm => by
    simp only [argMs, Prod.mk.injEq, Option.some.injEq] at h
    obtain ⟨_, rfl⟩ := h
    cases hm
  | x :: l, p, ys, h, y, i, hm => by
    simp only [argMs] at h
    split at h
    · rename_i q v q' vs e1 e2
      simp only [Prod.mk.injEq, Option.some.injEq] at h
      obtain ⟨_, rfl⟩ := h
      rcases List.mem_cons.1 hm with e | e
      · subst e; exact argM_slot e1
      · exact argMs_slot e2 y i e
    · simp at h
theorem capMs_slot {s : St} : ∀ {l : List (CV ⊕ (Nat × Nat))} {ys : List (AV × Option Nat)}, capMs s l = some ys → ∀ (y : AV) (i : Nat), (y, some i) ∈ ys → s i = y ∧ y.isOwner = true
  | [], ys, h, y, i, hm => by
    simp only [capMs, Option.some.injEq] at h
    subst h; cases hm
  | c :: l, ys, h, y, i, hm => by
    simp only [capMs] at h
    split at h
    · rename_i x xs e1 e2
      injection h with h
      subst h
      rcases List.mem_cons.1 hm with e | e
      · subst e
        unfold capM at e1
        split at e1
        · injection e1 with e1; simp at e1
        · split at e1
          · rename_i hs; injection e1 with e1; simp only [Prod.mk.injEq, Option.some.injEq] at e1; obtain ⟨rfl, rfl⟩ := e1; exact ⟨hs, rfl⟩
          · cases e1
        · cases e1
      · exact capMs_slot e2 y i e
    · cases h
theorem calleeM_slot {s : St} {f : Operand} {args : List Operand} {p : Prop} {g : FuncId} {ys : List (AV × Option Nat)} (h : calleeM s f args = (p, some (g, ys))) (y : AV) (i : Nat) (hm : (y, some i) ∈ ys) : s i = y ∧ y.isOwner = true := by
  unfold calleeM at h
  split at h
  · rename_i p' fv q xs ef e2
    split at h
    · rename_i g' caps e1
      simp only [Prod.mk.injEq, Option.some.injEq] at h
      obtain ⟨_, rfl, rfl⟩ := h
      rcases List.mem_append.1 hm with hm | hm
      · exact argMs_slot e2 y i hm
      · unfold fnM at e1
        split at e1
        · cases hc : capMs s _ with
          | none => rw [hc] at e1; cases e1
          | some zs =>
            rw [hc] at e1
            simp only [Option.map_some, Option.some.injEq, Prod.mk.injEq] at e1
            obtain ⟨_, rfl⟩ := e1
            exact capMs_slot hc y i hm
        · cases hc : fnOf _ with
          | none => rw [hc] at e1; cases e1
          | some zs =>
            rw [hc] at e1
            simp only [Option.map_some, Option.some.injEq, Prod.mk.injEq] at e1
            obtain ⟨_, rfl⟩ := e1
            obtain ⟨z, _, e⟩ := List.mem_map.1 hm
            simp at e
    · simp at h
  · simp at h

theorem writes_W {P : Program} {n : Nat} {o : Oper} {s : St} {W : List (Nat × AV)} {dr : Option (Nat × AV)} (h : writes P n o s W dr) : (∀ i v, (i, v) ∈ W → Sh (s i) v ∧ (s i).isOwner = true) ∧ (W.map (·.1)).Nodup := by
  unfold writes at h
  obtain ⟨_, h⟩ := h
  split at h
  · rename_i t addr x hop
    obtain ⟨_, _, _, _, p, i, v, hst, _, rfl⟩ := h
    refine ⟨fun j u hj => ?_, by simp⟩
    simp only [List.mem_singleton, Prod.mk.injEq] at hj
    obtain ⟨rfl, rfl⟩ := hj
    unfold storeW at hst
    split at hst
    · split at hst
      · rename_i cs hs
        simp only [Option.some.injEq, Prod.mk.injEq] at hst
        obtain ⟨_, rfl, rfl⟩ := hst
        rw [hs]
        exact ⟨.inr (.inl ⟨_, _, rfl, rfl⟩), rfl⟩
      · cases hst
    · split at hst
      · rename_i e size xs hs
        simp only [Option.some.injEq, Prod.mk.injEq] at hst
        obtain ⟨_, rfl, rfl⟩ := hst
        rw [hs]
        exact ⟨.inr (.inr ⟨_, _, _, _, rfl, rfl, by simp⟩), rfl⟩
      · cases hst
    · cases hst
  · split at h
    · obtain ⟨d, p, g, ys, r, outs, _, _, hc, _, hnd, hA, hbo, _, rfl, _⟩ := h
      refine ⟨fun i v hiv => ?_, (pairs_fst ys outs).nodup hnd⟩
      obtain ⟨cs, rfl⟩ := boxOuts_at hbo i v hiv
      obtain ⟨j, x, h1, h2⟩ := pairs_mem hiv
      obtain ⟨hs, ho⟩ := calleeM_slot hc x i (List.mem_of_getElem? h1)
      have hf := (outsFit_at hA.2.1).2 j x (.box cs) (by rw [List.getElem?_map, h1]; rfl) h2
      rw [hs]
      cases x <;> first | exact ⟨.inr (.inl ⟨_, _, rfl, rfl⟩), rfl⟩ | (simp [outFits] at hf)
    · exact h.elim
  · exact h.elim

theorem ops_apart {ops : Array Oper} (o : Oper) (d : Nat) (hd : d ∉ o.looksAt ops) : ∀ x ∈ o.op.operands, x ≠ .tmp d := by
  intro x hx e
  subst e
  exact hd (by simp only [Oper.looksAt, List.mem_append, List.mem_filterMap]; exact .inl ⟨.tmp d, by simpa using hx, rfl⟩)
theorem guard_apart {ops : Array Oper} (o : Oper) (d : Nat) (g : Nat × Bool) (hd : d ∉ o.looksAt ops) (hg : o.guard = some g) : ∀ d', (ops[g.1]?).bind (·.dst) = some d' → d' ≠ d := by
  intro d' hd' e
  subst e
  refine hd ?_
  simp only [Oper.looksAt, List.mem_append, hg, hd']
  exact .inr (by simp)

def goV (s : St) (W : List (Nat × AV)) (i : Nat) : Option (Nat × AV) → AV
  | some (d, r) => if i = d then r else setW s W i
  | none => setW s W i
@[simp] theorem goV_none (s : St) (W : List (Nat × AV)) (i : Nat) : goV s W i none = setW s W i := rfl
@[simp] theorem goV_some (s : St) (W : List (Nat × AV)) (i d : Nat) (r : AV) : goV s W i (some (d, r)) = if i = d then r else setW s W i := rfl
theorem goW_at {s : St} {W : List (Nat × AV)} {dr : Option (Nat × AV)} (hd : ∀ d r, dr = some (d, r) → (setW s W d).isOwner = false ∧ ∀ j, r.refs j = false) (i : Nat) : goW s W dr i = goV s W i dr := by
  cases dr with
  | none => rfl
  | some p =>
    obtain ⟨d, r⟩ := p
    obtain ⟨h1, h2⟩ := hd d r rfl
    show put (setW s W) d r i = _
    rw [put_calm h1]
    by_cases hi : i = d
    · simp [hi, h2]
    · simp [hi]

/-- A LIGHT STEP, THEN ONE THAT WRITES: they may be exchanged. -/
theorem light_write {P : Program} {n : Nat} {ops : Array Oper} {ol ow : Oper} {s s1 s2 : St} (hap1 : ∀ d, ol.dst = some d → d ∉ ow.looksAt ops) (hap2 : ∀ d, ow.dst = some d → d ∉ ol.looksAt ops) (hap3 : ∀ d, ol.dst = some d → ow.dst ≠ some d) (hw : Wf s)
    (hl : calmStep P n ops ol s s1) (hlt : lightAt s ol.op) (hi : wStep P n ow s1 s2) : ∃ s1', wStep P n ow s s1' ∧ calmStep P n ops ol s1' s2 ∧ lightAt s1' ol.op := by
  obtain ⟨d, r, hd, hdn, hno, rfl, hv⟩ := hl
  obtain ⟨W, dr, hwr, hdr, hdn', rfl⟩ := hi
  have hag : ∀ x ∈ ow.op.operands, AgreeO s (put s d r) x := fun x hx => agree_put hw hno (ops_apart ow d (hap1 d hd) x hx)
  have hp : ∀ i, i ≠ d → put s d r i = s i := fun i hi => by rw [put_calm hno, if_neg hi]
  have hwr' := (writes_congr hag).1 hwr
  obtain ⟨hW', _⟩ := writes_W hwr'
  have hWd : ∀ i v, (i, v) ∈ W → i ≠ d := by
    rintro i v hiv rfl
    have := (hW' i v hiv).2
    rw [hno] at this; cases this
  have hW : ∀ i v, (i, v) ∈ W → (put s d r i).isOwner = true := by
    intro i v hiv
    rw [hp i (hWd i v hiv)]; exact (hW' i v hiv).2
  have hdr' : ∀ d' r', dr = some (d', r') → ow.dst = some d' ∧ (s d').isOwner = false ∧ r'.isOwner = false ∧ ∀ j, r'.refs j = false := by
    intro d' r' h
    obtain ⟨h1, h2, h3, h4⟩ := hdr d' r' h
    have hne : d' ≠ d := fun e => hap3 d hd (by rw [h1, e])
    rw [hp d' hne] at h2
    exact ⟨h1, h2, h3, h4⟩
  have hsd : ∀ (t : St) (d' : Nat), (t d').isOwner = false → (∀ i v, (i, v) ∈ W → (t i).isOwner = true) → setW t W d' = t d' := by
    intro t d' h1 h2
    exact setW_not (fun v hv => by have := h2 d' v hv; rw [h1] at this; cases this)
  have hg1 : ∀ d' r', dr = some (d', r') → (setW s W d').isOwner = false ∧ ∀ j, r'.refs j = false := fun d' r' h => by
    obtain ⟨_, h2, _, h4⟩ := hdr' d' r' h
    exact ⟨by rw [hsd s d' h2 (fun i v hv => (hW' i v hv).2)]; exact h2, h4⟩
  have hg2 : ∀ d' r', dr = some (d', r') → (setW (put s d r) W d').isOwner = false ∧ ∀ j, r'.refs j = false := fun d' r' h => by
    obtain ⟨_, h2, _, h4⟩ := hdr d' r' h
    exact ⟨by rw [hsd _ d' h2 (fun i v hv => hW i v hv)]; exact h2, h4⟩
  have hsd0 : setW s W d = s d := hsd s d hno (fun i v hv => (hW' i v hv).2)
  have hs1d : (goW s W dr d) = s d := by
    rw [goW_at hg1]
    cases dr with
    | none => exact hsd0
    | some p =>
      obtain ⟨d', r'⟩ := p
      have hne : d ≠ d' := fun e => hap3 d hd (by rw [e]; exact (hdr' d' r' rfl).1)
      simp only [goV_some, if_neg hne]; exact hsd0
  have hno' : (goW s W dr d).isOwner = false := by rw [hs1d]; exact hno
  have hsh : ∀ i, (∀ d', ow.dst = some d' → i ≠ d') → Sh (s i) (goW s W dr i) := by
    intro i hid
    rw [goW_at hg1]
    cases dr with
    | none => exact setW_sh hW' i
    | some p =>
      obtain ⟨d', r'⟩ := p
      simp only [goV_some, if_neg (hid d' (hdr' d' r' rfl).1)]
      exact setW_sh hW' i
  have hags : ∀ x ∈ ol.op.operands, AgreeSh s (goW s W dr) x := by
    intro x hx
    cases x with
    | tmp t =>
      refine ⟨hsh t (fun d' hd' e => ?_), fun b hb => hsh b (fun d' hd' e => ?_)⟩
      · subst e; exact ops_apart ol t (hap2 t hd') _ hx rfl
      · subst e
        obtain ⟨h1, h2, _⟩ : ow.dst = some b ∧ (s b).isOwner = false ∧ True := by
          cases hdd : dr with
          | none => rw [hdn' hdd] at hd'; cases hd'
          | some p =>
            obtain ⟨d', r'⟩ := p
            obtain ⟨k1, k2, _⟩ := hdr' d' r' hdd
            rw [hd'] at k1
            injection k1 with k1
            subst k1
            exact ⟨hd', k2, trivial⟩
        have := hw t b hb
        rw [h2] at this; cases this
    | _ => trivial
  refine ⟨goW s W dr, ⟨W, dr, hwr', hdr', hdn', rfl⟩, ⟨d, r, hd, hdn, hno', ?_, ?_⟩, lightAt_sh hlt hags⟩
  · funext i
    rw [goW_at hg2, put_calm hno', goW_at hg1]
    by_cases hi : i = d
    · subst hi
      have e1 : setW (put s i r) W i = put s i r i := setW_not (fun v hv => hWd i v hv rfl)
      cases dr with
      | none => simp [e1, put_calm hno]
      | some p =>
        obtain ⟨d', r'⟩ := p
        have hne : i ≠ d' := fun e => hap3 i hd (by rw [e]; exact (hdr' d' r' rfl).1)
        simp [hne, e1, put_calm hno]
    · have e1 : setW (put s d r) W i = setW s W i := by
        by_cases hW2 : ∃ v, (i, v) ∈ W
        · obtain ⟨v, hv⟩ := hW2; exact setW_same _ _ hv
        · have hnn : ∀ v, (i, v) ∉ W := fun v hv => hW2 ⟨v, hv⟩
          rw [setW_not hnn, setW_not hnn, hp i hi]
      cases dr with
      | none => simp only [goV_none, if_neg hi, e1]
      | some p =>
        obtain ⟨d', r'⟩ := p
        simp only [goV_some, if_neg hi, e1]
  · cases hg : ol.guard with
    | none => rw [hg] at hv; exact acalm_sh hlt hags hv
    | some g =>
      rw [hg] at hv
      obtain ⟨e, he, hv⟩ := hv
      refine ⟨e, ?_, acalmG_sh hlt hags hv⟩
      rw [← he]
      refine gval_keep he (fun d' hd' ho => ?_)
      rw [goW_at hg1]
      have hnn : ∀ v, (d', v) ∉ W := fun v hv => by have := (hW' d' v hv).2; rw [ho] at this; cases this
      cases hdd : dr with
      | none => exact setW_not hnn
      | some p =>
        obtain ⟨d2, r2⟩ := p
        have hne : d' ≠ d2 := guard_apart ol d2 g (hap2 d2 (hdr' d2 r2 hdd).1) hg d' hd'
        simp only [goV_some, if_neg hne]
        exact setW_not hnn

theorem Sh.symm {a b : AV} (h : Sh a b) : Sh b a := by
  rcases h with rfl | ⟨_, _, rfl, rfl⟩ | ⟨_, _, _, _, rfl, rfl, h⟩
  · exact .inl rfl
  · exact .inr (.inl ⟨_, _, rfl, rfl⟩)
  · exact .inr (.inr ⟨_, _, _, _, rfl, rfl, h.symm⟩)
theorem AgreeSh.symm {s s' : St} {x : Operand} (h : AgreeSh s s' x) : AgreeSh s' s x := by
  cases x with
  | tmp t => exact ⟨h.1.symm, fun b hb => (h.2 b (by rw [← h.1.refs b]; exact hb)).symm⟩
  | _ => trivial

/-- A STEP THAT WRITES, THEN A LIGHT ONE: they may be exchanged. -/
theorem write_light {P : Program} {n : Nat} {ops : Array Oper} {ol ow : Oper} {s s1 s2 : St} (hap1 : ∀ d, ol.dst = some d → d ∉ ow.looksAt ops) (hap2 : ∀ d, ow.dst = some d → d ∉ ol.looksAt ops) (hap3 : ∀ d, ol.dst = some d → ow.dst ≠ some d) (hw : Wf s)
    (hi : wStep P n ow s s1) (hl : calmStep P n ops ol s1 s2) (hlt : lightAt s1 ol.op) : ∃ s1', calmStep P n ops ol s s1' ∧ lightAt s ol.op ∧ wStep P n ow s1' s2 := by
  obtain ⟨W, dr, hwr, hdr, hdn', rfl⟩ := hi
  obtain ⟨hW, _⟩ := writes_W hwr
  obtain ⟨d, r, hd, hdn, hno1, rfl, hv⟩ := hl
  have hsd : ∀ (t : St) (d' : Nat), (t d').isOwner = false → (∀ i v, (i, v) ∈ W → (t i).isOwner = true) → setW t W d' = t d' := by
    intro t d' h1 h2
    exact setW_not (fun v hv => by have := h2 d' v hv; rw [h1] at this; cases this)
  have hg1 : ∀ d' r', dr = some (d', r') → (setW s W d').isOwner = false ∧ ∀ j, r'.refs j = false := fun d' r' h => by
    obtain ⟨_, h2, _, h4⟩ := hdr d' r' h
    exact ⟨by rw [hsd s d' h2 (fun i v hv => (hW i v hv).2)]; exact h2, h4⟩
  have hne : ∀ d' r', dr = some (d', r') → d ≠ d' := fun d' r' h e => hap3 d hd (by rw [e]; exact (hdr d' r' h).1)
  have hg0 : goW s W dr d = setW s W d := by
    rw [goW_at hg1]
    cases hdd : dr with
    | none => rfl
    | some p => obtain ⟨d', r'⟩ := p; simp only [goV_some, if_neg (hne d' r' hdd)]
  have hno : (s d).isOwner = false := by
    have := (setW_sh (s := s) hW d).owner
    rw [← hg0, hno1] at this
    exact this.symm
  have hWd : ∀ i v, (i, v) ∈ W → i ≠ d := by
    rintro i v hiv rfl
    have := (hW i v hiv).2
    rw [hno] at this; cases this
  have hsh : ∀ i, (∀ d', ow.dst = some d' → i ≠ d') → Sh (s i) (goW s W dr i) := by
    intro i hid
    rw [goW_at hg1]
    cases hdd : dr with
    | none => exact setW_sh hW i
    | some p =>
      obtain ⟨d', r'⟩ := p
      simp only [goV_some, if_neg (hid d' (hdr d' r' hdd).1)]
      exact setW_sh hW i
  have hags : ∀ x ∈ ol.op.operands, AgreeSh s (goW s W dr) x := by
    intro x hx
    cases x with
    | tmp t =>
      refine ⟨hsh t (fun d' hd' e => ?_), fun b hb => hsh b (fun d' hd' e => ?_)⟩
      · subst e; exact ops_apart ol t (hap2 t hd') _ hx rfl
      · subst e
        have h2 : (s b).isOwner = false := by
          cases hdd : dr with
          | none => rw [hdn' hdd] at hd'; cases hd'
          | some p =>
            obtain ⟨d', r'⟩ := p
            obtain ⟨k1, k2, _⟩ := hdr d' r' hdd
            rw [hd'] at k1
            injection k1 with k1
            subst k1
            exact k2
        have := hw t b hb
        rw [h2] at this; cases this
    | _ => trivial
  have hp : ∀ i, i ≠ d → put s d r i = s i := fun i hi => by rw [put_calm hno, if_neg hi]
  have hag : ∀ x ∈ ow.op.operands, AgreeO s (put s d r) x := fun x hx => agree_put hw hno (ops_apart ow d (hap1 d hd) x hx)
  have hlt' := lightAt_sh hlt (fun x hx => (hags x hx).symm)
  have hdr2 : ∀ d' r', dr = some (d', r') → ow.dst = some d' ∧ (put s d r d').isOwner = false ∧ r'.isOwner = false ∧ ∀ j, r'.refs j = false := by
    intro d' r' h
    obtain ⟨h1, h2, h3, h4⟩ := hdr d' r' h
    rw [← hp d' (Ne.symm (hne d' r' h))] at h2
    exact ⟨h1, h2, h3, h4⟩
  have hg2 : ∀ d' r', dr = some (d', r') → (setW (put s d r) W d').isOwner = false ∧ ∀ j, r'.refs j = false := fun d' r' h => by
    obtain ⟨_, h2, _, h4⟩ := hdr2 d' r' h
    refine ⟨?_, h4⟩
    rw [hsd _ d' h2 (fun i v hv => by rw [hp i (hWd i v hv)]; exact (hW i v hv).2)]
    exact h2
  refine ⟨put s d r, ⟨d, r, hd, hdn, hno, rfl, ?_⟩, hlt', ⟨W, dr, (writes_congr hag).2 hwr, hdr2, hdn', ?_⟩⟩
  · cases hg : ol.guard with
    | none => rw [hg] at hv; exact acalm_sh hlt (fun x hx => (hags x hx).symm) hv
    | some g =>
      rw [hg] at hv
      obtain ⟨e, he, hv⟩ := hv
      refine ⟨e, ?_, acalmG_sh hlt (fun x hx => (hags x hx).symm) hv⟩
      rw [← he]
      refine gval_keep he (fun d' hd' ho => ?_)
      rw [goW_at hg1] at ho ⊢
      cases hdd : dr with
      | none =>
        rw [hdd] at ho
        have hnn : ∀ v, (d', v) ∉ W := fun v hv => by
          have := (setW_sh (s := s) hW d').owner
          rw [(hW d' v hv).2] at this
          simp only [goV_none] at ho
          rw [ho] at this; cases this
        exact (setW_not hnn).symm
      | some p =>
        obtain ⟨d2, r2⟩ := p
        have hne2 : d' ≠ d2 := guard_apart ol d2 g (hap2 d2 (hdr d2 r2 hdd).1) hg d' hd'
        rw [hdd] at ho
        simp only [goV_some, if_neg hne2] at ho ⊢
        have hnn : ∀ v, (d', v) ∉ W := fun v hv => by
          have := (setW_sh (s := s) hW d').owner
          rw [(hW d' v hv).2, ho] at this; cases this
        exact (setW_not hnn).symm
  · funext i
    rw [goW_at hg2, put_calm hno1, goW_at hg1]
    by_cases hi : i = d
    · subst hi
      have e1 : setW (put s i r) W i = put s i r i := setW_not (fun v hv => hWd i v hv rfl)
      cases hdd : dr with
      | none => simp [e1, put_calm hno]
      | some p =>
        obtain ⟨d', r'⟩ := p
        simp [hne d' r' hdd, e1, put_calm hno]
    · have e1 : setW (put s d r) W i = setW s W i := by
        by_cases hW2 : ∃ v, (i, v) ∈ W
        · obtain ⟨v, hv⟩ := hW2; exact setW_same _ _ hv
        · have hnn : ∀ v, (i, v) ∉ W := fun v hv => hW2 ⟨v, hv⟩
          rw [setW_not hnn, setW_not hnn, hp i hi]
      cases hdd : dr with
      | none => simp only [goV_none, if_neg hi, e1]
      | some p =>
        obtain ⟨d', r'⟩ := p
        simp only [goV_some, if_neg hi, e1]

theorem lightB_at {s : St} {op : Op} (h : lightB op = true) : lightAt s op := by
  cases op <;> first | exact h | (simp [lightB] at h)
theorem storeW_astore {P : Program} {s : St} {t : TypeId} {addr x : Prop × AV} {p : Prop} {i : Nat} {v : AV} (h : storeW P s t addr x = some (p, i, v)) (hp : p) : (astore P s t addr x).1 ∧ (astore P s t addr x).2 = setW s [(i, v)] := by
  have key : (astore P s t addr x).1 := by
    unfold storeW at h
    unfold astore
    split at h
    · rename_i e
      split at h
      · rename_i hs
        simp only [Option.some.injEq, Prod.mk.injEq] at h
        obtain ⟨rfl, _⟩ := h
        simp only [e, hs]; exact hp
      · cases h
    · rename_i e
      split at h
      · rename_i hs
        simp only [Option.some.injEq, Prod.mk.injEq] at h
        obtain ⟨rfl, _⟩ := h
        simp only [e, hs]; exact hp
      · cases h
    · cases h
  obtain ⟨p', i', v', h1, _, h2, _⟩ := astore_W key
  rw [h] at h1
  simp only [Option.some.injEq, Prod.mk.injEq] at h1
  obtain ⟨_, rfl, rfl⟩ := h1
  exact ⟨key, h2⟩
theorem setOuts_setW : ∀ (l : List (AV × Option Nat)) (outs : List AV) (s : St), boxOuts l outs = true → (slotsOf l).Nodup → setOuts s l outs = setW s (pairs l outs)
  | [], outs, s, _, _ => by
    cases outs <;> (funext i; rfl)
  | (x, none) :: l, [], s, h, _ => by simp [boxOuts] at h
  | (x, some k) :: l, [], s, h, _ => by simp [boxOuts] at h
  | (x, none) :: l, o :: outs, s, h, hn => by
    simp only [setOuts, pairs]
    exact setOuts_setW l outs s (by simpa [boxOuts] using h) (by simpa [slotsOf] using hn)
  | (x, some k) :: l, o :: outs, s, h, hn => by
    cases o with
    | box cs =>
      simp only [setOuts, pairs]
      simp only [slotsOf, List.filterMap_cons] at hn
      have hni := (List.nodup_cons.1 hn).1
      rw [setOuts_setW l outs _ (by simpa [boxOuts] using h) (List.nodup_cons.1 hn).2]
      funext i
      unfold setW
      simp only [List.find?_cons]
      by_cases hik : k = i
      · subst hik
        simp only [beq_self_eq_true]
        have : (pairs l outs).find? (fun p => p.1 == k) = none := by
          rw [List.find?_eq_none]
          rintro ⟨j, v⟩ hj
          simp only [beq_iff_eq]
          rintro rfl
          obtain ⟨m, y, h1, _⟩ := pairs_mem hj
          exact hni (mem_slots h1)
        rw [this]
        simp [setOut]
      · have : (k == i) = false := by simpa using hik
        simp only [this]
        cases (pairs l outs).find? (fun p => p.1 == i) with
        | some p => rfl
        | none => simp [setOut, Ne.symm hik]
    | _ => simp [boxOuts] at h

section
variable {P : Program} {S0 : Env} {w0 w : World} {n : Nat} {s : St} {a : Act}
/-- A writing step is run. -/
theorem wStep_ok (hR : Rel S0 w0 n s a w) (o : Oper) (hdm : ∀ d, o.dst = some d → S0.m ≤ d) {s' : St} (h : wStep P n o s s') {K' : Act → World → Prop} {Q : Exit → Act → World → Prop}
    (hK : ∀ a' w', Rel S0 w0 n s' a' w' → K' a' w') : o.wp P a w K' Q := by
  obtain ⟨W, dr, hw, hdr, hdn, rfl⟩ := h
  unfold writes at hw
  obtain ⟨hg, hw⟩ := hw
  split at hw
  · rename_i t addr x hop
    obtain ⟨hdst, rfl, ho, hl, p, i, v, hst, hp, rfl⟩ := hw
    obtain ⟨h1, h2⟩ := storeW_astore hst hp
    refine astep_ok (P := P) (K := fun t => t = setW s [(i, v)]) hR o hdm ?_ (fun s1 a' w' hR' hs' => by subst hs'; exact hK a' w' hR')
    rw [hop, hdst]
    simp only [astep, hl, freezeL]
    exact ⟨ho, h1, h2⟩
  · rename_i c hop
    split at hw
    · rename_i f hf
      obtain ⟨d, p, g, ys, r, outs, hdst, hdn', hc, hpp, hnd, hA, hbo, hro, rfl, rfl⟩ := hw
      refine callM_ok (P := P) (f := f) (args := c.args) (K := fun t => t = goW s (pairs ys outs) (some (d, r.av))) hR ?_ ⟨c.argTypes, by rw [hop]; cases c; simp at hf; simp [hf]⟩ hdst (hdm d hdst) (fun s1 a' w' hR' hs' => by subst hs'; exact hK a' w' hR')
      unfold callM
      rw [hc]
      refine ⟨hpp, hnd, r, outs, hA, hdn', ?_⟩
      show put (setOuts s ys outs) d r.av = put (setW s (pairs ys outs)) d r.av
      rw [setOuts_setW ys outs s hbo hnd]
    · exact hw.elim
  · exact hw.elim

theorem wStep_wf {o : Oper} {s' : St} (hw : Wf s) (h : wStep P n o s s') : Wf s' := by
  obtain ⟨W, dr, hwr, hdr, _, rfl⟩ := h
  obtain ⟨hW, _⟩ := writes_W hwr
  have h1 : Wf (setW s W) := by
    intro i j hij
    have hi := setW_sh (s := s) hW i
    rw [hi.refs] at hij
    rw [(setW_sh (s := s) hW j).owner]
    exact hw i j hij
  cases dr with
  | none => exact h1
  | some p =>
    obtain ⟨d, r⟩ := p
    exact put_wf h1 (fun j hj => by rw [(hdr d r rfl).2.2.2 j] at hj; cases hj)
end
end Go.Ab
