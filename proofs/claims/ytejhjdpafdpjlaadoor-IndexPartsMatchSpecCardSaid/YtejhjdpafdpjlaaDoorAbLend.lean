/-
  Calls that write to what is lent to them.
-/
import Derived.Test.YtejhjdpafdpjlaaDoorAbStep
namespace Go.Ab
open Go Go.RowKit
set_option linter.unusedSectionVars false
variable [Amb]

/-- It leads to no slot. -/
def AV.bare : AV → Bool
  | .x _ => true
  | .box _ => true
  | .own _ _ _ => true
  | .mp _ _ _ => true
  | .dead => true
  | _ => false

theorem AV.bare_refs {a : AV} (h : a.bare = true) (j : Nat) : a.refs j = false := by
  cases a <;> first | rfl | (simp [AV.bare] at h)
theorem AV.bare_refsL {a : AV} (h : a.bare = true) (j : Nat) : a.refsL j = false := by
  cases a <;> first | rfl | (simp [AV.bare] at h)

theorem RepAV.bare {w : World} {S S' O O' : Nat → Prop} {s s' : St} {tm tm' : Nat → Value} {a : AV} {v : Value} (h : RepAV w S O s tm a v) (hb : a.bare = true) (hS : ∀ b, S b → S' b) (hO : ∀ b, blkOf a v = some b → O b → O' b) : RepAV w S' O' s' tm' a v := by
  cases a with
  | dead => trivial
  | x xv => exact RepX.mono h hS (fun _ _ => rfl)
  | box cs =>
    obtain ⟨b, arr, t, rfl, hh, hl, hB⟩ := h
    exact ⟨b, arr, t, rfl, hh, hl.mono hS (fun _ _ => rfl), hO b rfl hB⟩
  | own e size xs =>
    obtain ⟨us, hown, hl, hx, hm, hB⟩ := h
    exact ⟨us, hown, hl.mono hS (fun _ _ => rfl), hx, hm, fun b hb => hO b hb (hB b hb)⟩
  | mp c bs es =>
    obtain ⟨b, ents, rfl, hh, hB, he⟩ := h
    exact ⟨b, ents, rfl, hh, hO b rfl hB, he.mono hS (fun _ _ => rfl)⟩
  | _ => simp [AV.bare] at hb

abbrev deadSt : St := fun _ => .dead
abbrev noTm : Nat → Value := fun _ => undef

/-- Arguments: to be read, or lent. -/
structure RepMs (w : World) (E : Env) (args : List AV) (vs : Array Value) : Prop where
  size : vs.size = args.length
  rep : ∀ (j : Nat) (a : AV), args[j]? = some a → ∃ u, vs[j]? = some u ∧ a.bare = true ∧ RepAV w E.rd E.lent deadSt noTm a u
  inj : ∀ (i j : Nat) (x y : AV) (u v : Value) (b : Nat), args[i]? = some x → vs[i]? = some u → blkOf x u = some b → args[j]? = some y → vs[j]? = some v → blkOf y v = some b → i = j
  all : ∀ b, E.lent b → ∃ (j : Nat) (x : AV) (u : Value), args[j]? = some x ∧ vs[j]? = some u ∧ blkOf x u = some b

/-- Blocks that are the caller's again. -/
def Owned (outs : List AV) (vs : Array Value) (b : Nat) : Prop := ∃ (j : Nat) (o : AV) (u : Value), outs[j]? = some o ∧ vs[j]? = some u ∧ blkOf o u = some b

/-- What may be read behind a call. -/
def After (w w' : World) (E : Env) (outs : List AV) (vs : Array Value) : Nat → Prop :=
  fun b => (E.rd b ∨ E.lent b ∨ (w.heap.size ≤ b ∧ b < w'.heap.size)) ∧ ¬ Owned outs vs b

/-- What goes out is of the kind of what came in. -/
def outFits : AV → AV → Bool
  | .x _, .dead => true
  | .box _, .box _ => true
  | .box _, .dead => true
  | .own _ _ _, .own _ _ _ => true
  | .own _ _ _, .x _ => true
  | .own _ _ _, .dead => true
  | .mp _ _ _, .mp _ _ _ => true
  | .mp _ _ _, .dead => true
  | _, _ => false
def outsFit : List AV → List AV → Bool
  | [], [] => true
  | a :: r, o :: q => outFits a o && outsFit r q
  | _, _ => false

theorem outsFit_at : ∀ {args outs : List AV}, outsFit args outs = true → args.length = outs.length ∧ ∀ (j : Nat) (a o : AV), args[j]? = some a → outs[j]? = some o → outFits a o = true
  | [], [], _ => ⟨rfl, fun j a o h => by simp at h⟩
  | a :: r, o :: q, h => by
    simp only [outsFit, Bool.and_eq_true] at h
    obtain ⟨h1, h2⟩ := outsFit_at h.2
    refine ⟨by simp [h1], fun j a' o' ha ho => ?_⟩
    cases j with
    | zero => simp at ha ho; subst ha; subst ho; exact h.1
    | succ j => simp at ha ho; exact h2 j a' o' ha ho

/-- THE CONTRACT of a function that writes to what is lent to it. -/
def ACallsM (P : Program) (f : FuncId) (args : List AV) (r : RV) (outs : List AV) : Prop :=
  Callable P f ∧ outsFit args outs = true ∧ ∀ (w : World) (E : Env) (vs : Array Value), Base E w → RepMs w E args vs →
    Calls P f vs w fun e w' => ∃ v, e = .returned v ∧ Kept E.lent w w' ∧ RepR w' (After w w' E outs vs) r v ∧ (∀ b, r.blk v = some b → After w w' E outs vs b ∧ ¬ E.rd b) ∧
      ∀ (j : Nat) (o : AV) (u : Value), outs[j]? = some o → vs[j]? = some u → RepAV w' (fun b => After w w' E outs vs b ∧ r.blk v ≠ some b) E.lent deadSt noTm o u

theorem blk_out {a o : AV} {u : Value} {b : Nat} {w : World} {S O : Nat → Prop} (hf : outFits a o = true) (hr : RepAV w S O deadSt noTm a u) (h : blkOf o u = some b) : blkOf a u = some b := by
  cases a with
  | box cs => cases o with
    | box cs' => obtain ⟨b', arr, t, rfl, _⟩ := hr; exact h
    | dead => cases h
    | _ => simp [outFits] at hf
  | mp c bs es => cases o with
    | mp c' bs' es' => obtain ⟨b', ents, rfl, _⟩ := hr; exact h
    | dead => cases h
    | _ => simp [outFits] at hf
  | own e z xs => cases o with
    | own e' z' xs' => exact h
    | dead => cases h
    | x v => cases h
    | _ => simp [outFits] at hf
  | _ => cases o <;> first | (simp [outFits] at hf; done) | (cases h)

theorem blk_in {a o : AV} {u : Value} {b : Nat} {w : World} {S O : Nat → Prop} (hf : outFits a o = true) (ho : o.isOwner = true) (hr : RepAV w S O deadSt noTm a u) (h : blkOf a u = some b) : blkOf o u = some b := by
  cases a with
  | box cs => cases o with
    | box cs' => obtain ⟨b', arr, t, rfl, _⟩ := hr; exact h
    | dead => cases ho
    | _ => simp [outFits] at hf
  | mp c bs es => cases o with
    | mp c' bs' es' => obtain ⟨b', ents, rfl, _⟩ := hr; exact h
    | dead => cases ho
    | _ => simp [outFits] at hf
  | own e z xs => cases o with
    | own e' z' xs' => exact h
    | dead => cases ho
    | x v => cases ho
    | _ => simp [outFits] at hf
  | _ => cases o <;> first | (simp [outFits] at hf; done) | (cases ho)

section
variable {P : Program} {S0 : Env} {w0 w : World} {n : Nat} {s : St} {a : Act}

/-- An operand that may be lent, and its slot. -/
def argM (s : St) (x : Operand) : Prop × Option (AV × Option Nat) :=
  match sv s x with
  | (p, .x xv) => (p, some (.x xv, none))
  | (p, .alias i) => match s i with
    | .own e z xs => (p, some (.own e z xs, some i))
    | .mp c bs es => (p, some (.mp c bs es, some i))
    | _ => (False, none)
  | (p, .ptr i 0) => match s i with
    | .box cs => (p, some (.box cs, some i))
    | _ => (False, none)
  | _ => (False, none)

def argMs (s : St) : List Operand → Prop × Option (List (AV × Option Nat))
  | [] => (True, some [])
  | x :: r => match argM s x, argMs s r with
    | (p, some v), (q, some vs) => (p ∧ q, some (v :: vs))
    | _, _ => (False, none)

/-- What a function's value holds, shared or not. -/
def capM (s : St) : CV ⊕ (Nat × Nat) → Option (AV × Option Nat)
  | .inl c => some (.x (.one c), none)
  | .inr (i, 0) => match s i with
    | .box cs => some (.box cs, some i)
    | _ => none
  | _ => none
def capMs (s : St) : List (CV ⊕ (Nat × Nat)) → Option (List (AV × Option Nat))
  | [] => some []
  | c :: r => match capM s c, capMs s r with
    | some x, some xs => some (x :: xs)
    | _, _ => none
def fnM (s : St) : AV → Option (FuncId × List (AV × Option Nat))
  | .cloR f caps => (capMs s caps).map fun xs => (f, xs)
  | a => (fnOf a).map fun p => (p.1, p.2.map fun x => (.x x, none))

def calleeM (s : St) (f : Operand) (args : List Operand) : Prop × Option (FuncId × List (AV × Option Nat)) :=
  match sv s f, argMs s args with
  | (p, a), (q, some xs) => match fnM s a with
    | some (g, caps) => (p ∧ q, some (g, xs ++ caps))
    | none => (False, none)
  | _, _ => (False, none)

/-- A lent slot behind the call. -/
def setOut (s : St) (i : Nat) (o : AV) : St :=
  match o with
  | .box _ => fun j => if j = i then o else s j
  | .mp _ _ _ => fun j => if j = i then o else s j
  | _ => fun j => if j = i then o else if (s j).refs i then .dead else s j
def setOuts (s : St) : List (AV × Option Nat) → List AV → St
  | (_, some i) :: l, o :: outs => setOuts (setOut s i o) l outs
  | (_, none) :: l, _ :: outs => setOuts s l outs
  | _, _ => s

def slotsOf (l : List (AV × Option Nat)) : List Nat := l.filterMap (·.2)

/-- Reading an argument. -/
def IsArg (S0 : Env) (w0 : World) (s : St) (a : Act) (w : World) (x : AV × Option Nat) (u : Value) : Prop :=
  match x.2 with
  | none => (∃ xv, x.1 = .x xv) ∧ RepIn S0 w0 s a w x.1 u
  | some i => s i = x.1 ∧ x.1.bare = true ∧ x.1.isOwner = true ∧ u = tmOf a i

theorem argM_ok (hR : Rel S0 w0 n s a w) {x : Operand} {p : Prop} {y : AV × Option Nat} (h : argM s x = (p, some y)) (hp : p) : IsArg S0 w0 s a w y (a.eval x) := by
  have hsv := hR.sv x
  unfold argM at h
  split at h
  · rename_i q xv e
    simp only [Prod.mk.injEq, Option.some.injEq] at h
    obtain ⟨rfl, rfl⟩ := h
    rw [e] at hsv
    exact ⟨⟨xv, rfl⟩, hsv hp⟩
  · rename_i q i e
    rw [e] at hsv
    split at h
    · rename_i hs
      simp only [Prod.mk.injEq, Option.some.injEq] at h
      obtain ⟨rfl, rfl⟩ := h
      exact ⟨hs, rfl, rfl, (hsv hp).1⟩
    · rename_i hs
      simp only [Prod.mk.injEq, Option.some.injEq] at h
      obtain ⟨rfl, rfl⟩ := h
      exact ⟨hs, rfl, rfl, (hsv hp).1⟩
    · simp at h
  · rename_i q i e
    rw [e] at hsv
    split at h
    · rename_i cs hs
      simp only [Prod.mk.injEq, Option.some.injEq] at h
      obtain ⟨rfl, rfl⟩ := h
      obtain ⟨b, hv, hk⟩ := hsv hp
      have hi := hR.rep i
      rw [hs] at hi hk
      obtain ⟨b', arr, t, hv', _⟩ := hi
      rw [hv'] at hk
      obtain rfl : b' = b := by simpa [blkOf] using hk
      exact ⟨hs, rfl, rfl, by rw [hv, hv']⟩
    · simp at h
  · simp at h

theorem argMs_ok (hR : Rel S0 w0 n s a w) : ∀ {args : List Operand} {p : Prop} {ys : List (AV × Option Nat)}, argMs s args = (p, some ys) → p → ys.length = args.length ∧ ∀ (j : Nat) (y : AV × Option Nat), ys[j]? = some y → ∃ u, (args.map a.eval)[j]? = some u ∧ IsArg S0 w0 s a w y u := by
  intro args
  induction args with
  | nil =>
    intro p ys h _
    simp only [argMs, Prod.mk.injEq, Option.some.injEq] at h
    obtain ⟨_, rfl⟩ := h
    exact ⟨rfl, fun j y hj => by simp at hj⟩
  | cons x r ih =>
    intro p ys h hp
    simp only [argMs] at h
    split at h
    · rename_i q v q' vs e1 e2
      simp only [Prod.mk.injEq, Option.some.injEq] at h
      obtain ⟨rfl, rfl⟩ := h
      obtain ⟨h1, h2⟩ := ih e2 hp.2
      refine ⟨by simp [h1], fun j y hj => ?_⟩
      cases j with
      | zero => simp at hj; subst hj; exact ⟨_, rfl, argM_ok hR e1 hp.1⟩
      | succ j => simp at hj; simpa using h2 j y hj
    · simp at h

theorem capMs_ok : ∀ {caps : List (CV ⊕ (Nat × Nat))} {us : List Value} {ys : List (AV × Option Nat)}, Rel S0 w0 n s a w → us.length = caps.length →
    (∀ (j : Nat) (c : CV ⊕ (Nat × Nat)), caps[j]? = some c → ∃ u, us[j]? = some u ∧ CapRep w (Shared S0 w0.heap.size w s (tmOf a)) s (tmOf a) c u) → capMs s caps = some ys → ys.length = us.length ∧ ∀ (j : Nat) (y : AV × Option Nat), ys[j]? = some y → ∃ u, us[j]? = some u ∧ IsArg S0 w0 s a w y u
  | [], us, ys, _, hl, _, h => by
    simp only [capMs, Option.some.injEq] at h
    subst h
    exact ⟨by simpa using hl.symm, fun j y hj => by simp at hj⟩
  | c :: caps, us, ys, hR, hl, hc, h => by
    cases us with
    | nil => simp at hl
    | cons u us =>
      simp only [capMs] at h
      split at h
      · rename_i x xs e1 e2
        injection h with h
        subst h
        obtain ⟨h1, h2⟩ := capMs_ok (us := us) hR (by simpa using hl) (fun j c hj => by simpa using hc (j + 1) c (by simpa using hj)) e2
        refine ⟨by simp [h1], fun j y hj => ?_⟩
        cases j with
        | succ j => simp at hj; simpa using h2 j y hj
        | zero =>
          simp at hj; subst hj
          obtain ⟨u', hu, hcu⟩ := hc 0 c rfl
          simp at hu; subst hu
          refine ⟨u, rfl, ?_⟩
          unfold capM at e1
          split at e1
          · injection e1 with e1; subst e1
            exact ⟨⟨_, rfl⟩, hcu⟩
          · rename_i i
            split at e1
            · rename_i cs hs
              injection e1 with e1; subst e1
              obtain ⟨b, hv, hk⟩ := hcu
              have hi := hR.rep i
              dsimp only at hk
              rw [hs] at hi hk
              obtain ⟨b', arr, t, hv', _⟩ := hi
              rw [hv'] at hk
              obtain rfl : b' = b := by simpa [blkOf] using hk
              exact ⟨hs, rfl, rfl, by rw [hv, hv']⟩
            · cases e1
          · cases e1
      · cases h

/-- What is known of the slots behind a call. -/
structure AfterSt (s s1 : St) (L : List (Nat × AV)) : Prop where
  new : ∀ i o, (i, o) ∈ L → s1 i = o
  old : ∀ j, (∀ o, (j, o) ∉ L) → s1 j = s j ∨ (s1 j = .dead ∧ ∃ k, (s j).refs k = true)
  ref : ∀ j k, (s1 j).refs k = true → s1 j = s j ∧ (∀ o, (k, o) ∈ L → o.isOwner = true ∧ o.size = (s k).size ∧ o.len = (s k).len) ∧ ((∀ o, (k, o) ∉ L) → s1 k = s k)

theorem AfterSt.nil (s : St) : AfterSt s s [] :=
  ⟨fun i o h => (by cases h), fun j _ => .inl rfl, fun j k h => ⟨rfl, fun o h => (by cases h), fun _ => rfl⟩⟩

theorem setOut_after {s : St} {i : Nat} {o : AV} (hwf : ∀ i j, (s i).refs j = true → (s j).isOwner = true) (hf : outFits (s i) o = true) (hso : (s i).isOwner = true) (hb : o.bare = true) : AfterSt s (setOut s i o) [(i, o)] := by
  have hown : ∀ j, (s j).refs i = true → j ≠ i := by
    rintro j h rfl
    rw [refs_owner h] at hso; cases hso
  have plain : (o.isOwner = true ∧ o.size = (s i).size ∧ o.len = (s i).len) → AfterSt s (fun j => if j = i then o else s j) [(i, o)] := by
    intro hk
    refine ⟨fun i' o' h => ?_, fun j h => .inl ?_, fun j k h => ?_⟩
    · simp at h; obtain ⟨rfl, rfl⟩ := h; simp
    · have : j ≠ i := by rintro rfl; exact h o (by simp)
      simp [this]
    · by_cases hj : j = i
      · subst hj; simp only [if_pos] at h; rw [AV.bare_refs hb] at h; cases h
      · simp only [if_neg hj] at h ⊢
        refine ⟨trivial, fun o' ho => ?_, fun hk' => ?_⟩
        · simp at ho; obtain ⟨rfl, rfl⟩ := ho; exact hk
        · have : k ≠ i := by rintro rfl; exact hk' o (by simp)
          simp [this]
  have kill : AfterSt s (fun j => if j = i then o else if (s j).refs i then .dead else s j) [(i, o)] := by
    refine ⟨fun i' o' h => ?_, fun j h => ?_, fun j k h => ?_⟩
    · simp at h; obtain ⟨rfl, rfl⟩ := h; simp
    · have : j ≠ i := by rintro rfl; exact h o (by simp)
      simp only [if_neg this]
      cases hr : (s j).refs i with
      | true => exact .inr ⟨by simp, i, hr⟩
      | false => exact .inl (by simp)
    · by_cases hj : j = i
      · subst hj; simp only [if_pos] at h; rw [AV.bare_refs hb] at h; cases h
      · simp only [if_neg hj] at h ⊢
        cases hr : (s j).refs i with
        | true => rw [hr] at h; cases h
        | false =>
          rw [hr] at h
          simp only [Bool.false_eq_true, if_false] at h ⊢
          have hki : k ≠ i := by rintro rfl; rw [hr] at h; cases h
          refine ⟨trivial, fun o' ho => ?_, fun _ => ?_⟩
          · simp at ho; exact absurd ho.1 hki
          · simp only [if_neg hki]
            have hko := hwf j k h
            cases hr2 : (s k).refs i with
            | true => rw [refs_owner hr2] at hko; cases hko
            | false => simp
  unfold setOut
  cases o with
  | box cs =>
    refine plain ⟨rfl, ?_⟩
    cases hs : s i <;> rw [hs] at hf <;> first | exact ⟨rfl, rfl⟩ | (simp [outFits] at hf)
  | mp c bs es =>
    refine plain ⟨rfl, ?_⟩
    cases hs : s i <;> rw [hs] at hf <;> first | exact ⟨rfl, rfl⟩ | (simp [outFits] at hf)
  | _ => exact kill

theorem AfterSt.wf {s s1 : St} {L : List (Nat × AV)} (h : AfterSt s s1 L) (hwf : ∀ i j, (s i).refs j = true → (s j).isOwner = true) : ∀ i j, (s1 i).refs j = true → (s1 j).isOwner = true := by
  intro i j hij
  obtain ⟨h1, h2, h3⟩ := h.ref i j hij
  by_cases hj : ∃ o, (j, o) ∈ L
  · obtain ⟨o, ho⟩ := hj
    rw [h.new j o ho]; exact (h2 o ho).1
  · rw [h3 (fun o ho => hj ⟨o, ho⟩)]
    rw [h1] at hij
    exact hwf i j hij

theorem AfterSt.trans {s s' s1 : St} {i : Nat} {o : AV} {L : List (Nat × AV)} (h : AfterSt s s' [(i, o)]) (k : AfterSt s' s1 L) (hb : o.bare = true) (hi : ∀ o', (i, o') ∉ L) : AfterSt s s1 ((i, o) :: L) := by
  have hsi : s' i = o := h.new i o (by simp)
  have hs1i : s1 i = o := by
    rcases k.old i hi with e | ⟨_, m, e⟩
    · rw [e, hsi]
    · rw [hsi, AV.bare_refs hb] at e; cases e
  refine ⟨fun j o' hj => ?_, fun j hj => ?_, fun j m hjm => ?_⟩
  · rcases List.mem_cons.1 hj with e | e
    · injection e with e1 e2; subst e1; subst e2; exact hs1i
    · exact k.new j o' e
  · have hji : j ≠ i := by rintro rfl; exact hj o (by simp)
    have hjL : ∀ o', (j, o') ∉ L := fun o' h' => hj o' (by simp [h'])
    rcases h.old j (fun o' h' => by simp at h'; exact hji h'.1) with e | ⟨e1, m, e2⟩
    · rcases k.old j hjL with e' | ⟨e1, m, e2⟩
      · exact .inl (by rw [e', e])
      · exact .inr ⟨e1, m, by rw [← e]; exact e2⟩
    · rcases k.old j hjL with e' | ⟨e3, _⟩
      · exact .inr ⟨by rw [e', e1], m, e2⟩
      · exact .inr ⟨e3, m, e2⟩
  · obtain ⟨h1, h2, h3⟩ := k.ref j m hjm
    obtain ⟨h4, h5, h6⟩ := h.ref j m (by rw [← h1]; exact hjm)
    refine ⟨by rw [h1, h4], fun o' ho => ?_, fun ho => ?_⟩
    · rcases List.mem_cons.1 ho with e | e
      · injection e with e1 e2; subst e1; subst e2; exact h5 _ (by simp)
      · have hmi : m ≠ i := by rintro rfl; exact hi o' e
        have := h2 o' e
        rw [h6 (fun o'' h' => by simp at h'; exact hmi h'.1)] at this
        exact this
    · have hmi : m ≠ i := by rintro rfl; exact ho o (by simp)
      rw [h3 (fun o' h' => ho o' (by simp [h'])), h6 (fun o'' h' => by simp at h'; exact hmi h'.1)]

/-- The lent slots and what they hold behind the call. -/
def pairs : List (AV × Option Nat) → List AV → List (Nat × AV)
  | (_, some i) :: l, o :: outs => (i, o) :: pairs l outs
  | (_, none) :: l, _ :: outs => pairs l outs
  | _, _ => []

theorem pairs_mem : ∀ {l : List (AV × Option Nat)} {outs : List AV} {i : Nat} {o : AV}, (i, o) ∈ pairs l outs → ∃ (j : Nat) (x : AV), l[j]? = some (x, some i) ∧ outs[j]? = some o
  | [], _, i, o, h => by simp [pairs] at h
  | (x, none) :: l, [], i, o, h => by simp [pairs] at h
  | (x, some k) :: l, [], i, o, h => by simp [pairs] at h
  | (x, none) :: l, q :: outs, i, o, h => by
    simp only [pairs] at h
    obtain ⟨j, y, h1, h2⟩ := pairs_mem h
    exact ⟨j + 1, y, by simpa using h1, by simpa using h2⟩
  | (x, some k) :: l, q :: outs, i, o, h => by
    simp only [pairs] at h
    rcases List.mem_cons.1 h with e | e
    · injection e with e1 e2; subst e1; subst e2; exact ⟨0, x, rfl, rfl⟩
    · obtain ⟨j, y, h1, h2⟩ := pairs_mem e
      exact ⟨j + 1, y, by simpa using h1, by simpa using h2⟩
theorem mem_pairs : ∀ {l : List (AV × Option Nat)} {outs : List AV} {i j : Nat} {x o : AV}, l[j]? = some (x, some i) → outs[j]? = some o → (i, o) ∈ pairs l outs
  | [], _, i, j, x, o, h, _ => by simp at h
  | p :: l, [], i, j, x, o, _, h => by simp at h
  | (y, q) :: l, p :: outs, i, 0, x, o, h, k => by
    simp at h k
    obtain ⟨rfl, rfl⟩ := h
    subst k
    simp [pairs]
  | (y, q) :: l, p :: outs, i, j + 1, x, o, h, k => by
    simp at h k
    have := mem_pairs h k
    cases q with
    | none => simpa [pairs] using this
    | some m => simp [pairs, this]
theorem mem_slots {l : List (AV × Option Nat)} {i j : Nat} {x : AV} (h : l[j]? = some (x, some i)) : i ∈ slotsOf l := by
  unfold slotsOf
  rw [List.mem_filterMap]
  exact ⟨_, List.mem_of_getElem? h, rfl⟩
theorem slot_inj : ∀ {l : List (AV × Option Nat)} {i j k : Nat} {x y : AV}, (slotsOf l).Nodup → l[j]? = some (x, some i) → l[k]? = some (y, some i) → j = k
  | [], i, j, k, x, y, _, h, _ => by simp at h
  | p :: l, i, 0, 0, x, y, _, _, _ => rfl
  | (p, q) :: l, i, 0, k + 1, x, y, hn, h, h' => by
    simp at h h'
    obtain ⟨rfl, rfl⟩ := h
    simp only [slotsOf, List.filterMap_cons] at hn
    exact absurd (mem_slots h') (List.nodup_cons.1 hn).1
  | (p, q) :: l, i, j + 1, 0, x, y, hn, h, h' => by
    simp at h h'
    obtain ⟨rfl, rfl⟩ := h'
    simp only [slotsOf, List.filterMap_cons] at hn
    exact absurd (mem_slots h) (List.nodup_cons.1 hn).1
  | (p, q) :: l, i, j + 1, k + 1, x, y, hn, h, h' => by
    simp at h h'
    have hn' : (slotsOf l).Nodup := by
      cases q with
      | none => simpa [slotsOf] using hn
      | some m => simp only [slotsOf, List.filterMap_cons] at hn; exact (List.nodup_cons.1 hn).2
    rw [slot_inj hn' h h']

theorem setOuts_after : ∀ (l : List (AV × Option Nat)) (outs : List AV) (s : St), (∀ i j, (s i).refs j = true → (s j).isOwner = true) → (slotsOf l).Nodup → l.length = outs.length →
    (∀ (j : Nat) (x : AV) (i : Nat) (o : AV), l[j]? = some (x, some i) → outs[j]? = some o → outFits (s i) o = true ∧ (s i).isOwner = true ∧ o.bare = true) → AfterSt s (setOuts s l outs) (pairs l outs)
  | [], outs, s, hwf, _, _, _ => by cases outs <;> exact AfterSt.nil s
  | (x, q) :: l, [], s, _, _, h, _ => by simp at h
  | (x, none) :: l, o :: outs, s, hwf, hn, hl, h => by
    simp only [setOuts, pairs]
    exact setOuts_after l outs s hwf (by simpa [slotsOf] using hn) (by simpa using hl) (fun j y i o' h1 h2 => h (j + 1) y i o' (by simpa using h1) (by simpa using h2))
  | (x, some i) :: l, o :: outs, s, hwf, hn, hl, h => by
    simp only [setOuts, pairs]
    obtain ⟨h1, h2, h3⟩ := h 0 x i o rfl rfl
    have hA := setOut_after hwf h1 h2 h3
    simp only [slotsOf, List.filterMap_cons] at hn
    have hni := (List.nodup_cons.1 hn).1
    have hkeep : ∀ j, j ∈ slotsOf l → (s j).isOwner = true → setOut s i o j = s j := by
      intro j hj ho
      have hji : j ≠ i := by rintro rfl; exact hni hj
      rcases hA.old j (fun o' h' => by simp at h'; exact hji h'.1) with e | ⟨_, k, e⟩
      · exact e
      · rw [refs_owner e] at ho; cases ho
    refine hA.trans (setOuts_after l outs _ (hA.wf hwf) (List.nodup_cons.1 hn).2 (by simpa using hl) (fun j y m o' k1 k2 => ?_)) h3 (fun o' h' => ?_)
    · obtain ⟨e1, e2, e3⟩ := h (j + 1) y m o' (by simpa using k1) (by simpa using k2)
      rw [hkeep m (mem_slots k1) e2]
      exact ⟨e1, e2, e3⟩
    · obtain ⟨j, y, h4, _⟩ := pairs_mem h'
      exact hni (mem_slots h4)

/-- Slot d is given what no slot owns. -/
theorem Rel.put2 {X : Nat → Prop} {d : Nat} {r : AV} {v : Value} (hd : S0.m ≤ d ∧ d < n) (hpin : ∀ j, j < S0.m → tmOf a j = S0.val j) (hdef : a.defers = []) (hsz : a.tmps.size = n) (hbel : Kept S0.lent w0 w) (hlt : Base S0 w0)
    (hrep : ∀ i, RepAV w (fun b => Shared S0 w0.heap.size w s (tmOf a) b ∧ ¬ X b) (OwnB S0 w0.heap.size) s (tmOf a) (s i) (tmOf a i))
    (hinj : ∀ i j b, blkOf (s i) (tmOf a i) = some b → blkOf (s j) (tmOf a j) = some b → i = j) (hout : ∀ i, n ≤ i → s i = .dead) (hwf : ∀ i j, (s i).refs j = true → (s j).isOwner = true)
    (hrr : ∀ j, r.refs j = false) (hr : RepAV w (fun b => Shared S0 w0.heap.size w s (tmOf a) b ∧ ¬ X b) (OwnB S0 w0.heap.size) s (tmOf a) r v) (hX : ∀ b, blkOf r v = some b → X b) (hXo : ∀ i b, blkOf (s i) (tmOf a i) = some b → ¬ X b) :
    Rel S0 w0 n (Ab.put s d r) (a.put (some d) v) w := by
  have hdt : d < a.tmps.size := by rw [hsz]; exact hd.2
  have htm := tmOf_put a d v hdt
  have htmo : ∀ i, i ≠ d → tmOf (a.put (some d) v) i = tmOf a i := fun i hi => by rw [htm, if_neg hi]
  have htmd : tmOf (a.put (some d) v) d = v := by rw [htm, if_pos rfl]
  have hblk : ∀ i b, blkOf (Ab.put s d r i) (tmOf (a.put (some d) v) i) = some b → (i = d ∧ blkOf r v = some b) ∨ (i ≠ d ∧ blkOf (s i) (tmOf a i) = some b) := by
    intro i b hb
    by_cases hi : i = d
    · subst hi
      rw [htmd, put_same (hrr i)] at hb
      exact .inl ⟨rfl, hb⟩
    · rw [htmo i hi] at hb
      exact .inr ⟨hi, put_blk hi hb⟩
  have hsub : ∀ b, (Shared S0 w0.heap.size w s (tmOf a) b ∧ ¬ X b) → Shared S0 w0.heap.size w (Ab.put s d r) (tmOf (a.put (some d) v)) b := by
    rintro b ⟨⟨h1, h2, h3⟩, hx⟩
    refine ⟨h1, h2, fun i hi => ?_⟩
    rcases hblk i b hi with ⟨_, h⟩ | ⟨_, h⟩
    · exact hx (hX b h)
    · exact h3 i h
  refine ⟨hdef, by simp [Act.put, hsz], hbel, hlt, fun i => ?_, fun i j b hbi hbj => ?_, fun i hi => ?_, put_wf hwf (fun j hj => by rw [hrr] at hj; cases hj), fun j hj => by rw [htmo j (by omega)]; exact hpin j hj⟩
  · by_cases hi : i = d
    · subst hi
      rw [htmd, put_same (hrr i)]
      refine hr.mono hsub (fun _ _ => rfl) (fun _ _ => rfl) (fun j hj => ?_)
      have := hrr j
      rw [AV.refs_of_refsL hj] at this; cases this
    · rw [htmo i hi]
      rcases put_other (s := s) (v := r) hi with hp | ⟨_, _, hp⟩
      · rw [hp]
        refine (hrep i).mono hsub (fun _ _ => rfl) (fun _ _ => rfl) (fun j hj => ?_)
        have hjr := AV.refs_of_refsL hj
        have hjo := hwf i j hjr
        have hjd : j ≠ d := by
          rintro rfl
          have : Ab.put s j r i = .dead := put_killed hi hjo hjr
          rw [hp] at this
          rw [this] at hjr; cases hjr
        exact ⟨htmo j hjd, fun _ => by rw [put_owner hjd hjo]; exact ⟨hjo, rfl, rfl⟩, fun b hb => by rw [put_owner hjd hjo]; exact hb⟩
      · rw [hp]; trivial
  · rcases hblk i b hbi with ⟨hi, h1⟩ | ⟨hi, h1⟩ <;> rcases hblk j b hbj with ⟨hj, h2⟩ | ⟨hj, h2⟩
    · rw [hi, hj]
    · exact absurd (hX b h1) (hXo j b h2)
    · exact absurd (hX b h2) (hXo i b h1)
    · exact hinj i j b h1 h2
  · have hid : i ≠ d := by omega
    rcases put_other (s := s) (v := r) hid with hp | ⟨_, _, hp⟩
    · rw [hp]; exact hout i hi
    · exact hp

/-- THE STEP OF A CALL that writes to what is lent to it: what is known behind it. -/
theorem Rel.lentBack (hR : Rel S0 w0 n s a w) {ys : List (AV × Option Nat)} {outs : List AV} {vs : Array Value} {r : RV} {v : Value} {w' : World} {s1 : St} {d : Nat} {E : Env} (hd : S0.m ≤ d ∧ d < n)
    (hvs : ∀ (j : Nat) (y : AV × Option Nat), ys[j]? = some y → ∃ u, vs[j]? = some u ∧ IsArg S0 w0 s a w y u) (hfit : outsFit (ys.map (·.1)) outs = true)
    (hErd : E.rd = Shared S0 w0.heap.size w s (tmOf a)) (hElent : ∀ b, E.lent b ↔ ∃ i, i ∈ slotsOf ys ∧ blkOf (s i) (tmOf a i) = some b)
    (hk : Kept E.lent w w') (hr : RepR w' (After w w' E outs vs) r v) (hrb : ∀ b, r.blk v = some b → After w w' E outs vs b ∧ ¬ E.rd b)
    (hout : ∀ (j : Nat) (o : AV) (u : Value), outs[j]? = some o → vs[j]? = some u → RepAV w' (fun b => After w w' E outs vs b ∧ r.blk v ≠ some b) E.lent deadSt noTm o u)
    (hA : AfterSt s s1 (pairs ys outs)) : Rel S0 w0 n (Ab.put s1 d r.av) (a.put (some d) v) w' := by
  obtain ⟨hl1, hfit'⟩ := outsFit_at hfit
  have hl : ys.length = outs.length := by simpa using hl1
  -- an argument's slot
  have hslot : ∀ i, i ∈ slotsOf ys → ∃ (j : Nat) (x : AV) (o : AV), ys[j]? = some (x, some i) ∧ outs[j]? = some o ∧ vs[j]? = some (tmOf a i) ∧ s i = x ∧ x.bare = true ∧ x.isOwner = true ∧ outFits x o = true := by
    intro i hi
    unfold slotsOf at hi
    rw [List.mem_filterMap] at hi
    obtain ⟨⟨x, q⟩, hm, hq⟩ := hi
    dsimp only at hq
    subst hq
    obtain ⟨j, hj⟩ := List.getElem?_of_mem hm
    have hlt : j < outs.length := by rw [← hl]; exact (List.getElem?_eq_some_iff.1 hj).1
    obtain ⟨u, hu, hs, hb, ho, rfl⟩ := hvs j _ hj
    exact ⟨j, x, outs[j], hj, List.getElem?_eq_getElem hlt, hu, hs, hb, ho, hfit' j x _ (by rw [List.getElem?_map, hj]; rfl) (List.getElem?_eq_getElem hlt)⟩
  have hpair : ∀ i o, (i, o) ∈ pairs ys outs → i ∈ slotsOf ys ∧ ∃ (j : Nat), outs[j]? = some o ∧ vs[j]? = some (tmOf a i) ∧ (s i).bare = true ∧ (s i).isOwner = true ∧ outFits (s i) o = true := by
    intro i o h
    obtain ⟨j, x, h1, h2⟩ := pairs_mem h
    obtain ⟨u, hu, hs, hb, ho, rfl⟩ := hvs j _ h1
    dsimp only at hs hb ho
    subst hs
    exact ⟨mem_slots h1, j, h2, hu, hb, ho, hfit' j _ o (by rw [List.getElem?_map, h1]; rfl) h2⟩
  have hkey : ∀ i, i ∈ slotsOf ys → ∃ o, (i, o) ∈ pairs ys outs := by
    intro i hi
    obtain ⟨j, x, o, h1, h2, _⟩ := hslot i hi
    exact ⟨o, mem_pairs h1 h2⟩
  have hbareO : ∀ {x o : AV}, outFits x o = true → o.bare = true := by
    intro x o h
    cases x <;> cases o <;> first | rfl | (simp [outFits] at h)
  -- the blocks that are owned behind the call were owned
  have hblk1 : ∀ j b, blkOf (s1 j) (tmOf a j) = some b → blkOf (s j) (tmOf a j) = some b := by
    intro j b hb
    by_cases hj : ∃ o, (j, o) ∈ pairs ys outs
    · obtain ⟨o, ho⟩ := hj
      rw [hA.new j o ho] at hb
      obtain ⟨_, k, _, hvk, hbare, _, hf⟩ := hpair j o ho
      exact blk_out hf ((hR.rep j).bare hbare (fun _ h => h) (fun _ _ h => h)) hb
    · rcases hA.old j (fun o ho => hj ⟨o, ho⟩) with e | ⟨e, _⟩ <;> rw [e] at hb
      · exact hb
      · cases hb
  have howned : ∀ b, Owned outs vs b → ∃ i o, (i, o) ∈ pairs ys outs ∧ blkOf o (tmOf a i) = some b ∧ blkOf (s i) (tmOf a i) = some b := by
    rintro b ⟨j, o, u, h1, h2, h3⟩
    have hlt : j < ys.length := by rw [hl]; exact (List.getElem?_eq_some_iff.1 h1).1
    obtain ⟨⟨x, q⟩, hy⟩ : ∃ y, ys[j]? = some y := ⟨_, List.getElem?_eq_getElem hlt⟩
    obtain ⟨u', hu', hq⟩ := hvs j _ hy
    rw [h2] at hu'
    injection hu' with hu'
    subst hu'
    have hf := hfit' j x o (by rw [List.getElem?_map, hy]; rfl) h1
    cases q with
    | none =>
      obtain ⟨⟨xv, hx⟩, _⟩ := hq
      dsimp only at hx
      subst hx
      have : o = .dead := by cases o <;> first | rfl | (simp [outFits] at hf)
      rw [this] at h3; cases h3
    | some i =>
      obtain ⟨hs, hb, ho, rfl⟩ := hq
      dsimp only at hs
      subst hs
      exact ⟨i, o, mem_pairs hy h1, h3, blk_out hf ((hR.rep i).bare hb (fun _ h => h) (fun _ _ h => h)) h3⟩
  have hown1 : ∀ i o b, (i, o) ∈ pairs ys outs → blkOf o (tmOf a i) = some b → Owned outs vs b := by
    intro i o b h hb
    obtain ⟨_, j, h1, h2, _⟩ := hpair i o h
    exact ⟨j, o, _, h1, h2, hb⟩
  have hlentO : ∀ b, E.lent b → OwnB S0 w0.heap.size b ∧ b < w.heap.size := by
    intro b hb
    obtain ⟨i, _, hi⟩ := (hElent b).1 hb
    exact (hR.rep i).blk_lt hi
  have hafter : ∀ b, After w w' E outs vs b → Shared S0 w0.heap.size w' s1 (tmOf a) b := by
    rintro b ⟨h, hno⟩
    have hnone : ∀ i, blkOf (s1 i) (tmOf a i) = some b → (∀ o, (i, o) ∉ pairs ys outs) ∧ blkOf (s i) (tmOf a i) = some b := by
      intro i hi
      refine ⟨fun o ho => hno (hown1 i o b ho (by rw [← hA.new i o ho]; exact hi)), hblk1 i b hi⟩
    rcases h with h | h | ⟨h1, h2⟩
    · rw [hErd] at h
      exact ⟨h.1, Nat.lt_of_lt_of_le h.2.1 hk.size, fun i hi => h.2.2 i (hnone i hi).2⟩
    · obtain ⟨k1, k2⟩ := hlentO b h
      refine ⟨.inr k1, Nat.lt_of_lt_of_le k2 hk.size, fun i hi => ?_⟩
      obtain ⟨h3, h4⟩ := hnone i hi
      obtain ⟨m, hm, hmb⟩ := (hElent b).1 h
      have := hR.inj i m b h4 hmb
      subst this
      obtain ⟨o, ho⟩ := hkey i hm
      exact h3 o ho
    · refine ⟨.inr (.inl (Nat.le_trans hR.below.size h1)), h2, fun i hi => ?_⟩
      have := ((hR.rep i).blk_lt (hnone i hi).2).2
      omega
  have hsh : ∀ b, Shared S0 w0.heap.size w s (tmOf a) b → Shared S0 w0.heap.size w' s1 (tmOf a) b ∧ ¬ r.blk v = some b := by
    intro b hb
    refine ⟨hafter b ⟨.inl (by rw [hErd]; exact hb), fun ho => ?_⟩, fun h => (hrb b h).2 (by rw [hErd]; exact hb)⟩
    obtain ⟨i, o, _, _, h⟩ := howned b ho
    exact hb.2.2 i h
  have hnl : ∀ b, Shared S0 w0.heap.size w s (tmOf a) b → ¬ E.lent b := by
    intro b hb hl
    obtain ⟨i, _, hi⟩ := (hElent b).1 hl
    exact hb.2.2 i hi
  have hrep : ∀ i, RepAV w' (fun b => Shared S0 w0.heap.size w' s1 (tmOf a) b ∧ ¬ r.blk v = some b) (OwnB S0 w0.heap.size) s1 (tmOf a) (s1 i) (tmOf a i) := by
    intro i
    by_cases hi : ∃ o, (i, o) ∈ pairs ys outs
    · obtain ⟨o, ho⟩ := hi
      obtain ⟨_, j, h1, h2, _, _, hf⟩ := hpair i o ho
      rw [hA.new i o ho]
      refine (hout j o _ h1 h2).bare (hbareO hf) (fun b hb => ⟨hafter b hb.1, hb.2⟩) (fun b _ hb => (hlentO b hb).1)
    · have hno : ∀ o, (i, o) ∉ pairs ys outs := fun o ho => hi ⟨o, ho⟩
      rcases hA.old i hno with e | ⟨e, _⟩
      · rw [e]
        refine (hR.rep i).mono hsh (fun b hb => hk.block b hb.2.1 (hnl b hb)) (fun b hb => ?_) (fun k hkr => ?_)
        · refine hk.block b ((hR.rep i).blk_lt hb).2 (fun hl => ?_)
          obtain ⟨m, hm, hmb⟩ := (hElent b).1 hl
          have := hR.inj i m b hb hmb
          subst this
          exact hi (hkey i hm)
        · obtain ⟨_, h2, h3⟩ := hA.ref i k (by rw [e]; exact AV.refs_of_refsL hkr)
          by_cases hkL : ∃ o, (k, o) ∈ pairs ys outs
          · obtain ⟨o, ho⟩ := hkL
            have h4 := h2 o ho
            rw [hA.new k o ho]
            refine ⟨rfl, fun _ => h4, fun b hb => ?_⟩
            obtain ⟨_, j, k1, k2, kb, ko, kf⟩ := hpair k o ho
            have hrk := (hR.rep k).bare (S' := fun _ => True) (O' := fun _ => True) (s' := deadSt) (tm' := noTm) kb (fun _ _ => trivial) (fun _ _ _ => trivial)
            exact blk_in kf h4.1 hrk hb
          · have h4 := h3 (fun o ho => hkL ⟨o, ho⟩)
            exact ⟨rfl, fun h => by rw [h4]; exact ⟨h, rfl, rfl⟩, fun b hb => by rw [h4]; exact hb⟩
      · rw [e]; trivial
  have hbel : Kept S0.lent w0 w' := by
    refine ⟨hk.os.trans hR.below.os, hk.tape.trans hR.below.tape, hk.output.trans hR.below.output, Nat.le_trans hR.below.size hk.size, fun b hb hn => ?_⟩
    rw [hk.block b (Nat.lt_of_lt_of_le hb hR.below.size) (fun hl => ?_)]
    · exact hR.below.block b hb hn
    · rcases (hlentO b hl).1 with h | h
      · omega
      · exact hn h
  have hout1 : ∀ i, n ≤ i → s1 i = .dead := by
    intro i hi
    have hsi := hR.out i hi
    by_cases hL : ∃ o, (i, o) ∈ pairs ys outs
    · obtain ⟨o, ho⟩ := hL
      obtain ⟨_, _, _, _, _, hown, _⟩ := hpair i o ho
      rw [hsi] at hown; cases hown
    · rcases hA.old i (fun o ho => hL ⟨o, ho⟩) with e | ⟨e, _⟩
      · rw [e, hsi]
      · exact e
  have hXo : ∀ i b, blkOf (s1 i) (tmOf a i) = some b → ¬ r.blk v = some b := by
    intro i b hb hrv
    exact (hafter b (hrb b hrv).1).2.2 i hb
  have hav : RepAV w' (fun b => Shared S0 w0.heap.size w' s1 (tmOf a) b ∧ ¬ r.blk v = some b) (OwnB S0 w0.heap.size) s1 (tmOf a) r.av v := by
    cases r with
    | x xv => exact RepX.mono hr (fun b hb => ⟨hafter b hb, fun h => by cases h⟩) (fun _ _ => rfl)
    | tup us => exact ⟨hr.choose, hr.choose_spec.1, hr.choose_spec.2.1, fun j x hj => let ⟨u, hu, hx⟩ := hr.choose_spec.2.2 j x hj; ⟨u, hu, RepX.mono hx (fun b hb => ⟨hafter b hb, fun h => by cases h⟩) (fun _ _ => rfl)⟩⟩
    | own e z xs =>
      obtain ⟨us, hown, hl', hx, hm, hB⟩ := hr
      refine ⟨us, hown, hl'.mono (fun b hb => ⟨hafter b hb.1, hb.2⟩) (fun _ _ => rfl), hx, hm, fun b hb => ?_⟩
      obtain ⟨h1, h2⟩ := hrb b hb
      rcases h1.1 with h | h | h
      · exact absurd h h2
      · exact (hlentO b h).1
      · exact .inl (Nat.le_trans hR.below.size h.1)
  refine Rel.put2 (X := fun b => r.blk v = some b) hd hR.pin hR.defers hR.size hbel hR.lt hrep (fun i j b hi hj => hR.inj i j b (hblk1 i b hi) (hblk1 j b hj)) hout1 (hA.wf hR.wf) (fun j => by cases r <;> rfl) hav (fun b hb => ?_) hXo
  cases r with
  | own e z xs => exact hb
  | _ => cases hb

/-- A call that writes: what it comes to. -/
def callM (P : Program) (c : Prop × Option (FuncId × List (AV × Option Nat))) (k : List (AV × Option Nat) → RV → List AV → Prop) : Prop :=
  match c with
  | (p, some (g, xs)) => p ∧ (slotsOf xs).Nodup ∧ ∃ r outs, ACallsM P g (xs.map (·.1)) r outs ∧ k xs r outs
  | _ => False

theorem fnM_ok (hR : Rel S0 w0 n s a w) {v : AV} {u : Value} {g : FuncId} {caps : List (AV × Option Nat)} (h : RepIn S0 w0 s a w v u) (hf : fnM s v = some (g, caps)) :
    ∃ us : Array Value, u = .func (.func g) #[] us ∧ us.size = caps.length ∧ ∀ (j : Nat) (y : AV × Option Nat), caps[j]? = some y → ∃ x, us[j]? = some x ∧ IsArg S0 w0 s a w y x := by
  have plain : ∀ {q : FuncId × List XV}, fnOf v = some q → g = q.1 → caps = q.2.map (fun x => (AV.x x, none)) → ∃ us : Array Value, u = .func (.func g) #[] us ∧ us.size = caps.length ∧ ∀ (j : Nat) (y : AV × Option Nat), caps[j]? = some y → ∃ x, us[j]? = some x ∧ IsArg S0 w0 s a w y x := by
    rintro ⟨g', xs⟩ hq rfl rfl
    obtain ⟨us, h1, h2, h3⟩ := fnOf_ok h hq
    refine ⟨us, h1, by simp [h2], fun j y hj => ?_⟩
    rw [List.getElem?_map] at hj
    cases hx : xs[j]? with
    | none => rw [hx] at hj; cases hj
    | some x =>
      rw [hx] at hj
      injection hj with hj
      subst hj
      obtain ⟨z, hz, hr⟩ := h3 j x hx
      exact ⟨z, hz, ⟨x, rfl⟩, hr⟩
  cases v with
  | cloR f cs =>
    obtain ⟨us, rfl, hl, hc⟩ := h
    simp only [fnM] at hf
    cases hcm : capMs s cs with
    | none => rw [hcm] at hf; cases hf
    | some ys =>
      rw [hcm] at hf
      simp only [Option.map_some, Option.some.injEq, Prod.mk.injEq] at hf
      obtain ⟨rfl, rfl⟩ := hf
      obtain ⟨h1, h2⟩ := capMs_ok (us := us.toList) hR (by simpa using hl) (fun j c hj => by simpa using hc j c hj) hcm
      exact ⟨us, rfl, by simpa using h1.symm, fun j y hj => by simpa using h2 j y hj⟩
  | _ =>
    simp only [fnM] at hf
    cases hq : fnOf _ with
    | none => rw [hq] at hf; cases hf
    | some q =>
      rw [hq] at hf
      simp only [Option.map_some, Option.some.injEq, Prod.mk.injEq] at hf
      exact plain hq hf.1.symm hf.2.symm

theorem callM_ok (hR : Rel S0 w0 n s a w) {f : Operand} {args : Array Operand} {d : Nat} {K : St → Prop} (hc : callM P (calleeM s f args.toList) (fun xs r outs => d < n ∧ K (Ab.put (setOuts s xs outs) d r.av)))
    {o : Oper} (ho : ∃ ts, o.op = .call { callee := .value f, args := args, argTypes := ts }) (hdst : o.dst = some d) (hdm : S0.m ≤ d) {K' : Act → World → Prop} {Q : Exit → Act → World → Prop}
    (hK : ∀ s' a' w', Rel S0 w0 n s' a' w' → K s' → K' a' w') : o.wp P a w K' Q := by
  obtain ⟨ts, hop⟩ := ho
  unfold callM at hc
  split at hc
  · rename_i pp g ys e0
    obtain ⟨hpp, hnd, r, outs, ⟨⟨fn, hfn, hname, hbody⟩, hfit, hcalls⟩, hd, hk⟩ := hc
    obtain ⟨caps, xs, p, q, fv, ef, e2, e1, rfl, rfl⟩ : ∃ caps xs p q fv, sv s f = (p, fv) ∧ argMs s args.toList = (q, some xs) ∧ fnM s fv = some (g, caps) ∧ pp = (p ∧ q) ∧ ys = xs ++ caps := by
      unfold calleeM at e0
      split at e0
      · rename_i p fv q xs ef e2
        split at e0
        · rename_i g' caps e1
          simp only [Prod.mk.injEq, Option.some.injEq] at e0
          obtain ⟨rfl, rfl, rfl⟩ := e0
          exact ⟨caps, xs, p, q, fv, ef, e2, e1, rfl, rfl⟩
        · simp at e0
      · simp at e0
    obtain ⟨hpf, hp⟩ := hpp
    have hsvf := hR.sv f (by rw [ef]; exact hpf)
    rw [ef] at hsvf
    obtain ⟨us, hfv, hul, hcap⟩ := fnM_ok hR hsvf e1
    obtain ⟨hal, harg⟩ := argMs_ok hR e2 hp
    have hm : args.map a.eval = (args.toList.map a.eval).toArray := by apply Array.ext'; simp
    have hrun : (execOp a.eval o).run P w = .ok (.enter g (args.map a.eval ++ us)) w := by
      simp only [execOp, hop, resolve, hfv, Deferred.ofValue, Sem.run_bind, Sem.run_pure, Result.andThen_ok, invoke, callFunc, run_program, hfn, hname, hbody, Bool.false_eq_true, if_false]
      simp
    unfold Oper.wp
    rw [hrun]
    simp only [Oper.upon]
    rw [hm, hdst]
    -- the arguments, all
    have hvs : ∀ (j : Nat) (y : AV × Option Nat), (xs ++ caps)[j]? = some y → ∃ u, ((args.toList.map a.eval).toArray ++ us)[j]? = some u ∧ IsArg S0 w0 s a w y u := by
      intro j y hj
      by_cases hlt : j < xs.length
      · rw [List.getElem?_append_left hlt] at hj
        obtain ⟨u, hu, hi⟩ := harg j y hj
        refine ⟨u, ?_, hi⟩
        rw [Array.getElem?_append_left (by simp [← hal]; exact hlt)]
        simpa using hu
      · rw [List.getElem?_append_right (by omega)] at hj
        obtain ⟨u, hu, hi⟩ := hcap _ y hj
        refine ⟨u, ?_, hi⟩
        rw [Array.getElem?_append_right (by simp [← hal]; omega)]
        simpa [hal] using hu
    have hsz : ((args.toList.map a.eval).toArray ++ us).size = (xs ++ caps).length := by simp [hal, hul]
    generalize ((args.toList.map a.eval).toArray ++ us) = vs at hvs hsz ⊢
    generalize xs ++ caps = ys at hvs hsz hnd hfit hcalls hk
    have hbl : ∀ (j : Nat) (y : AV × Option Nat) (u : Value) (b : Nat), ys[j]? = some y → vs[j]? = some u → blkOf y.1 u = some b → ∃ i, y.2 = some i ∧ s i = y.1 ∧ u = tmOf a i := by
      intro j y u b h1 h2 h3
      obtain ⟨u', hu, hi⟩ := hvs j y h1
      rw [h2] at hu
      injection hu with hu
      subst hu
      unfold IsArg at hi
      split at hi
      · obtain ⟨⟨xv, hx⟩, _⟩ := hi
        rw [hx] at h3; cases h3
      · rename_i i hy
        exact ⟨i, hy, hi.1, hi.2.2.2⟩
    let E : Env := ⟨Shared S0 w0.heap.size w s (tmOf a), fun b => ∃ i, i ∈ slotsOf ys ∧ blkOf (s i) (tmOf a i) = some b, 0, fun _ => undef⟩
    have hE : Base E w := by
      refine ⟨fun b hb => hb.2.1, fun b ⟨i, _, hi⟩ => ((hR.rep i).blk_lt hi).2, fun b hb ⟨i, _, hi⟩ => hb.2.2 i hi, hR.lt.amb' hR.below, fun b hb ⟨i, _, hi⟩ => ?_⟩
      rcases ((hR.rep i).blk_lt hi).1 with h | h
      · have := Amb.lt hR.lt.amb hb; omega
      · exact hR.lt.far b hb h
    have hargs : RepMs w E (ys.map (·.1)) vs := by
      refine ⟨by simpa using hsz, fun j x hj => ?_, fun i j x y u v b h1 h2 h3 h4 h5 h6 => ?_, fun b ⟨i, hi, hb⟩ => ?_⟩
      · rw [List.getElem?_map] at hj
        cases hy : ys[j]? with
        | none => rw [hy] at hj; cases hj
        | some y =>
          rw [hy] at hj
          injection hj with hj
          subst hj
          obtain ⟨u, hu, hi⟩ := hvs j y hy
          refine ⟨u, hu, ?_⟩
          obtain ⟨x, q⟩ := y
          cases q with
          | none =>
            obtain ⟨⟨xv, hx⟩, hr⟩ := hi
            dsimp only at hx hr
            subst hx
            exact ⟨rfl, RepAV.bare hr rfl (fun _ h => h) (fun b h _ => by cases h)⟩
          | some i =>
            obtain ⟨hs, hb, _, rfl⟩ := hi
            dsimp only at hs hb
            subst hs
            exact ⟨hb, (hR.rep i).bare hb (fun _ h => h) (fun b h _ => ⟨i, mem_slots hy, h⟩)⟩
      · rw [List.getElem?_map] at h1 h4
        cases hx : ys[i]? with
        | none => rw [hx] at h1; cases h1
        | some p1 =>
          cases hy : ys[j]? with
          | none => rw [hy] at h4; cases h4
          | some p2 =>
            rw [hx] at h1
            rw [hy] at h4
            injection h1 with h1
            injection h4 with h4
            subst h1; subst h4
            obtain ⟨i1, e1, e2, e3⟩ := hbl i p1 u b hx h2 h3
            obtain ⟨i2, f1, f2, f3⟩ := hbl j p2 v b hy h5 h6
            dsimp only at h3 h6
            rw [← e2, e3] at h3
            rw [← f2, f3] at h6
            have := hR.inj i1 i2 b h3 h6
            subst this
            exact slot_inj hnd (x := p1.1) (y := p2.1) (i := i1) (by rw [hx, ← e1]) (by rw [hy, ← f1])
      · unfold slotsOf at hi
        rw [List.mem_filterMap] at hi
        obtain ⟨⟨x, q⟩, hm, hq⟩ := hi
        dsimp only at hq
        subst hq
        obtain ⟨j, hj⟩ := List.getElem?_of_mem hm
        obtain ⟨u, hu, hs, _, _, rfl⟩ := hvs j _ hj
        dsimp only at hs
        exact ⟨j, x, _, by rw [List.getElem?_map, hj]; rfl, hu, by rw [← hs]; exact hb⟩
    refine (hcalls w E vs hE hargs).mono ?_
    rintro e w' ⟨v, rfl, hkept, hr, hrb, hout⟩
    obtain ⟨hl1, hfit'⟩ := outsFit_at hfit
    have hA : AfterSt s (setOuts s ys outs) (pairs ys outs) := by
      refine setOuts_after ys outs s hR.wf hnd (by simpa using hl1) (fun j x i o h1 h2 => ?_)
      obtain ⟨u, hu, hs, hb, ho, _⟩ := hvs j _ h1
      dsimp only at hs hb ho
      subst hs
      have hf := hfit' j _ o (by rw [List.getElem?_map, h1]; rfl) h2
      refine ⟨hf, ho, ?_⟩
      revert hf
      generalize s i = z
      intro hf
      cases z <;> cases o <;> first | rfl | (simp [outFits] at hf)
    exact hK _ _ _ (hR.lentBack ⟨hdm, hd⟩ hvs hfit rfl (fun b => Iff.rfl) hkept hr hrb hout hA) hk
  · exact hc.elim

end
end Go.Ab
