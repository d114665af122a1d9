/-
  Structs and slices that are written out.
-/
import Derived.Test.YtejhjdpafdpjlaaDoorAbArg
namespace Go.Ab
open Go Go.RowKit
set_option linter.unusedSectionVars false
variable [Amb]

theorem foldl_setRange (off : Nat) : ∀ (l : List Value) (k : Nat) (cells : Array Value), off + k + l.length ≤ cells.size →
    ((l.zipIdx k).foldl (fun (cs : Array Value) (x : Value × Nat) => cs.setIfInBounds (off + x.2) x.1) cells).toList = setRange cells.toList (off + k) l := by
  intro l
  induction l with
  | nil => intro k cells _; simp [setRange]
  | cons v l ih =>
    intro k cells h
    simp only [List.zipIdx_cons, List.foldl_cons]
    rw [ih (k + 1) _ (by simp at h ⊢; omega)]
    simp only [setRange, Array.toList_setIfInBounds, List.length_cons]
    have hlt : off + k < cells.toList.length := by simp at h ⊢; omega
    rw [List.drop_set_of_lt (by omega)]
    have e1 : off + (k + 1) = (off + k) + 1 := by omega
    rw [e1, List.take_succ_eq_append_getElem (by simpa using hlt)]
    rw [List.take_set_of_le (by omega)]
    simp only [List.getElem_set_self, List.append_assoc, List.cons_append, List.nil_append]
    congr 3
    congr 1
    omega

section
variable {P : Program} {S0 : Env} {w0 w : World} {n : Nat} {s : St} {a : Act}

/-- A struct type's zero, and where its fields lie. -/
def buildT (P : Program) (t : TypeId) : Option (List CV × List (Nat × Nat)) :=
  match P.info? t, P.underlying t with
  | some it, some (.struct fields) => match it.zero, fields.toList.mapM (fun f => (P.info? f.type).map fun i => (f.offset, i.size)) with
    | some z, some places => if z.cells.toList.all smallCell then some (z.cells.toList.map ofCell, places) else none
    | _, _ => none
  | _, _ => none

def fillC (places : List (Nat × Nat)) : List CV → List (Nat × (Prop × AV)) → Prop × List CV
  | cells, [] => (True, cells)
  | cells, (i, (p, .x xv)) :: r => match places[i]? with
    | some (off, size) => (p ∧ xv.cells.length = size ∧ off + size ≤ cells.length ∧ (fillC places (setRange cells off xv.cells) r).1, (fillC places (setRange cells off xv.cells) r).2)
    | none => (False, cells)
  | cells, _ => (False, cells)

def abuild (P : Program) (f : Operand → Prop × AV) (t : TypeId) (parts : List (Nat × Operand)) : Prop × AV :=
  match buildT P t with
  | some (cs, places) => ((fillC places cs (parts.map fun x => (x.1, f x.2))).1, .x (.agg (fillC places cs (parts.map fun x => (x.1, f x.2))).2))
  | none => (False, .dead)

theorem setRange_len {α : Type} (cs vs : List α) (off : Nat) (h : off + vs.length ≤ cs.length) : (setRange cs off vs).length = cs.length := by
  simp only [setRange, List.length_append, List.length_take, List.length_drop]; omega

theorem fill_ok {f : Operand → Prop × AV} (places : List (Nat × Nat)) : ∀ (parts : List (Nat × Operand)) (cs : List CV) (arr : Array Value), (∀ x ∈ parts, Knows S0 w0 s a w (f x.2) (a.eval x.2)) → RepL w (Shared S0 w0.heap.size w s (tmOf a)) cs arr.toList →
    (fillC places cs (parts.map fun x => (x.1, f x.2))).1 →
    ∃ arr', Instr.fill (places.toArray[·]?) arr (parts.map fun x => (x.1, a.eval x.2)) = some arr' ∧ RepL w (Shared S0 w0.heap.size w s (tmOf a)) (fillC places cs (parts.map fun x => (x.1, f x.2))).2 arr'.toList := by
  intro parts
  induction parts with
  | nil => intro cs arr _ h _; exact ⟨arr, rfl, h⟩
  | cons x parts ih =>
    intro cs arr hf h hp
    obtain ⟨i, x⟩ := x
    have hsv := hf _ List.mem_cons_self
    dsimp only at hsv
    simp only [List.map_cons] at hp ⊢
    generalize f x = sx at hp hsv ⊢
    obtain ⟨p, r⟩ := sx
    cases r with
    | x xv =>
      simp only [fillC] at hp ⊢
      cases hpl : places[i]? with
      | none => rw [hpl] at hp; exact hp.elim
      | some os =>
        obtain ⟨off, size⟩ := os
        rw [hpl] at hp
        obtain ⟨h1, h2, h3, h4⟩ := hp
        have hrep := RepX.cells (hsv h1)
        have hsz : (a.eval x).cells.size = size := by
          have := hrep.1
          simp only [Array.length_toList] at this
          rw [this, h2]
        have hcl : arr.size = cs.length := by have := h.1; simpa using this
        have hfold : ((a.eval x).cells.zipIdx.foldl (fun cs (c, j) => cs.setIfInBounds (off + j) c) arr).toList = setRange arr.toList off (a.eval x).cells.toList := by
          have := foldl_setRange off (a.eval x).cells.toList 0 arr (by simp; omega)
          rw [← Array.foldl_toList, Array.toList_zipIdx]
          exact this
        have hnext := h.setRange hrep off
        rw [← hfold] at hnext
        obtain ⟨arr', hf, hr⟩ := ih _ _ (fun y hy => hf y (List.mem_cons_of_mem _ hy)) hnext h4
        refine ⟨arr', ?_, hr⟩
        have hat : places.toArray[i]? = some (off, size) := by simpa using hpl
        simp only [Instr.fill, hat, hsz, ne_eq, not_true_eq_false, Bool.false_or, decide_false]
        rw [if_neg (by simp; omega)]
        exact hf
    | _ => exact hp.elim

theorem abuild_ok {f : Operand → Prop × AV} {t : TypeId} {parts : Array (Nat × Operand)} (hf : ∀ x ∈ parts.toList, Knows S0 w0 s a w (f x.2) (a.eval x.2)) (hp : (abuild P f t parts.toList).1) :
    ∃ v, (Instr.build t (parts.map fun (i, x) => (i, a.eval x))).run P w = .ok v w ∧ RepIn S0 w0 s a w (abuild P f t parts.toList).2 v ∧ (abuild P f t parts.toList).2.isOwner = false := by
  unfold abuild at hp ⊢
  split at hp
  · rename_i cs places hb
    unfold buildT at hb
    split at hb
    · rename_i it fields hi hu
      split at hb
      · rename_i z places' hz hpl
        split at hb
        · rename_i hall
          injection hb with hb
          injection hb with hb1 hb2
          subst hb1; subst hb2
          obtain ⟨arr', hf, hr⟩ := fill_ok places' parts.toList _ z.cells hf (ofCells_rep hall) hp
          refine ⟨.agg arr', run_build (P := P) w t _ arr' ?_, ⟨arr', rfl, hr⟩, rfl⟩
          simp only [Program.built, hi, hu, hz, hpl]
          rw [← hf]
          congr 1
          simp
        · cases hb
      · cases hb
    · cases hb
  · exact hp.elim

/-- Elements, written over. -/
def fillX (size : Nat) : List (List CV) → List (Nat × (Prop × AV)) → Prop × List (List CV)
  | xs, [] => (True, xs)
  | xs, (i, (p, .x xv)) :: r => (p ∧ xv.cells.length = size ∧ i < xs.length ∧ (fillX size (xs.set i xv.cells) r).1, (fillX size (xs.set i xv.cells) r).2)
  | xs, _ => (False, xs)

/-- An element type's zero and bytes. -/
def rowT (P : Program) (t : TypeId) : Option (TypeId × Nat × List CV) :=
  match sliceT P t with
  | some (e, size) => match zeroOf P e with
    | some z => if z.length = size then some (e, size, z) else none
    | none => none
  | none => none

def abuildSlice (P : Program) (f : Operand → Prop × AV) (t : TypeId) (len : Nat) (parts : List (Nat × Operand)) : Prop × AV :=
  match rowT P t with
  | some (e, size, z) => (len * size ≤ 16777216 ∧ (fillX size (List.replicate len z) (parts.map fun x => (x.1, f x.2))).1, .own e size (fillX size (List.replicate len z) (parts.map fun x => (x.1, f x.2))).2)
  | none => (False, .dead)

theorem flatten_set {xs : List (List CV)} {size : Nat} (hx : ∀ x ∈ xs, x.length = size) {i : Nat} (hi : i < xs.length) {c : List CV} (hc : c.length = size) :
    (xs.set i c).flatten = setRange xs.flatten (i * size) c := by
  induction xs generalizing i with
  | nil => simp at hi
  | cons x xs ih =>
    have hl := hx x (by simp)
    cases i with
    | zero =>
      simp only [List.set_cons_zero, List.flatten_cons, setRange, Nat.zero_mul, List.take_zero, List.nil_append, Nat.zero_add]
      rw [List.drop_append, List.drop_eq_nil_of_le (by omega : x.length ≤ c.length), hc, hl]
      simp
    | succ i =>
      simp only [List.set_cons_succ, List.flatten_cons]
      rw [ih (fun y hy => hx y (by simp [hy])) (by simpa using hi)]
      have e1 : (i + 1) * size = x.length + i * size := by rw [Nat.add_mul, hl]; omega
      have e2 : (x ++ xs.flatten).drop (x.length + i * size + c.length) = xs.flatten.drop (i * size + c.length) := by
        rw [List.drop_append, List.drop_eq_nil_of_le (by omega), List.nil_append]
        congr 1; omega
      have e3 : (x ++ xs.flatten).take (x.length + i * size) = x ++ xs.flatten.take (i * size) := by
        rw [List.take_append, List.take_of_length_le (by omega)]
        congr 2; omega
      simp only [setRange, e1, e2, e3, List.append_assoc]

theorem fillX_ok {f : Operand → Prop × AV} (size : Nat) : ∀ (parts : List (Nat × Operand)) (xs : List (List CV)) (arr : Array Value), (∀ x ∈ parts, Knows S0 w0 s a w (f x.2) (a.eval x.2)) → (∀ x ∈ xs, x.length = size) → RepL w (Shared S0 w0.heap.size w s (tmOf a)) xs.flatten arr.toList →
    (fillX size xs (parts.map fun x => (x.1, f x.2))).1 →
    (fillX size xs (parts.map fun x => (x.1, f x.2))).2.length = xs.length ∧ (∀ x ∈ (fillX size xs (parts.map fun x => (x.1, f x.2))).2, x.length = size) ∧
    ∃ arr', Instr.fill (fun i => some (i * size, size)) arr (parts.map fun x => (x.1, a.eval x.2)) = some arr' ∧ RepL w (Shared S0 w0.heap.size w s (tmOf a)) (fillX size xs (parts.map fun x => (x.1, f x.2))).2.flatten arr'.toList := by
  intro parts
  induction parts with
  | nil => intro xs arr _ hx h _; exact ⟨rfl, hx, arr, rfl, h⟩
  | cons x parts ih =>
    intro xs arr hf hx h hp
    obtain ⟨i, x⟩ := x
    have hsv := hf _ List.mem_cons_self
    dsimp only at hsv
    simp only [List.map_cons] at hp ⊢
    generalize f x = sx at hp hsv ⊢
    obtain ⟨p, r⟩ := sx
    cases r with
    | x xv =>
      simp only [fillX] at hp ⊢
      obtain ⟨h1, h2, h3, h4⟩ := hp
      have hrep := RepX.cells (hsv h1)
      have hsz : (a.eval x).cells.size = size := by
        have := hrep.1
        simp only [Array.length_toList] at this
        rw [this, h2]
      have hcl : arr.size = xs.length * size := by have := h.1; rw [flatten_length hx] at this; simpa using this
      have hin : i * size + size ≤ arr.size := by
        rw [hcl]
        have : (i + 1) * size ≤ xs.length * size := Nat.mul_le_mul_right _ h3
        rw [Nat.add_mul] at this; omega
      have hfold : ((a.eval x).cells.zipIdx.foldl (fun cs (c, j) => cs.setIfInBounds (i * size + j) c) arr).toList = setRange arr.toList (i * size) (a.eval x).cells.toList := by
        have := foldl_setRange (i * size) (a.eval x).cells.toList 0 arr (by simp; omega)
        rw [← Array.foldl_toList, Array.toList_zipIdx]
        exact this
      have hnext := h.setRange hrep (i * size)
      rw [← hfold, ← flatten_set hx h3 h2] at hnext
      have hx' : ∀ y ∈ xs.set i xv.cells, y.length = size := by
        intro y hy
        rcases List.mem_or_eq_of_mem_set hy with hy | hy
        · exact hx y hy
        · rw [hy, h2]
      obtain ⟨hl, hxs, arr', hf, hr⟩ := ih _ _ (fun y hy => hf y (List.mem_cons_of_mem _ hy)) hx' hnext h4
      refine ⟨by rw [hl]; simp, hxs, arr', ?_, hr⟩
      simp only [Instr.fill, hsz, ne_eq, not_true_eq_false, Bool.false_or, decide_false]
      rw [if_neg (by simp; omega)]
      exact hf
    | _ => exact hp.elim

theorem replicate_flatten (z : List Value) : ∀ (len j : Nat), j < len * z.length → (List.replicate len z).flatten[j]? = z[j % z.length]? := by
  intro len
  induction len with
  | zero => intro j h; simp at h
  | succ len ih =>
    intro j h
    simp only [List.replicate_succ, List.flatten_cons]
    rw [List.getElem?_append]
    split
    · rename_i hlt; rw [Nat.mod_eq_of_lt hlt]
    · rename_i hge
      rw [ih _ (by rw [Nat.add_mul] at h; omega)]
      congr 1
      have : j = (j - z.length) + z.length := by omega
      conv => rhs; rw [this, Nat.add_mod_right]

theorem zeros_rep {S : Nat → Prop} {zc : List CV} {z : Array Value} (h : RepL w S zc z.toList) (len : Nat) :
    RepL w S (List.replicate len zc).flatten ((Array.range (len * z.size)).map (z[· % z.size]!)).toList := by
  have hl : zc.length = z.size := by have := h.1; simpa using this.symm
  refine ⟨by simp [hl], fun j c hj => ?_⟩
  have hlt : j < len * z.size := by
    have := (List.getElem?_eq_some_iff.1 hj).1
    simpa [hl] using this
  have hpos : 0 < z.size := by
    rcases Nat.eq_zero_or_pos z.size with h0 | h0
    · rw [h0] at hlt; simp at hlt
    · exact h0
  have hj' : zc[j % z.size]? = some c := by
    -- the same law on cells
    have key : ∀ (len j : Nat), j < len * zc.length → (List.replicate len zc).flatten[j]? = zc[j % zc.length]? := by
      intro len
      induction len with
      | zero => intro j h; simp at h
      | succ len ih =>
        intro j h
        simp only [List.replicate_succ, List.flatten_cons]
        rw [List.getElem?_append]
        split
        · rename_i hlt; rw [Nat.mod_eq_of_lt hlt]
        · rename_i hge
          rw [ih _ (by rw [Nat.add_mul] at h; omega)]
          congr 1
          have : j = (j - zc.length) + zc.length := by omega
          conv => rhs; rw [this, Nat.add_mod_right]
    rw [key _ _ (by rw [hl]; exact hlt), hl] at hj
    exact hj
  obtain ⟨u, hu, hr⟩ := h.2 _ c hj'
  refine ⟨u, ?_, hr⟩
  have hm : j % z.size < z.size := Nat.mod_lt _ hpos
  have hz : z[j % z.size] = u := by
    rw [Array.getElem?_toList, Array.getElem?_eq_getElem hm] at hu
    injection hu
  simp [hlt, hm, hz]

theorem rowT_ok {t e : TypeId} {size : Nat} {zc : List CV} (h : rowT P t = some (e, size, zc)) :
    ∃ i z, P.underlying t = some (.slice e) ∧ P.info? e = some i ∧ i.size = size ∧ 0 < size ∧ (zeroValue e).run P w = .ok z w ∧ (∀ S, RepL w S zc z.cells.toList) ∧ zc.length = size := by
  unfold rowT at h
  split at h
  · rename_i e' size' hT
    split at h
    · rename_i z hz
      split at h
      · rename_i hzl
        injection h with h
        simp only [Prod.mk.injEq] at h
        obtain ⟨rfl, rfl, rfl⟩ := h
        obtain ⟨i, hu, hi, hs, hp⟩ := sliceT_ok hT
        obtain ⟨zv, hrun, _⟩ := zeroOf_ok (P := P) (w := w) hz (fun _ => True)
        refine ⟨i, zv, hu, hi, hs, hp, hrun, fun S => ?_, hzl⟩
        obtain ⟨zv', hrun', hrep⟩ := zeroOf_ok (P := P) (w := w) hz S
        rw [hrun] at hrun'
        injection hrun' with e1
        subst e1
        exact hrep
      · cases h
    · cases h
  · cases h

theorem abuildSlice_ok {f : Operand → Prop × AV} {t : TypeId} {len d : Nat} {parts : Array (Nat × Operand)} (hR : Rel S0 w0 n s a w) (hf : ∀ x ∈ parts.toList, Knows S0 w0 s a w (f x.2) (a.eval x.2)) (hd : S0.m ≤ d ∧ d < n) (hp : (abuildSlice P f t len parts.toList).1) :
    ∃ v w', (Instr.buildSlice t len (parts.map fun (i, x) => (i, a.eval x))).run P w = .ok v w' ∧ Rel S0 w0 n (Ab.put s d (abuildSlice P f t len parts.toList).2) (a.put (some d) v) w' := by
  unfold abuildSlice at hp ⊢
  split at hp
  · rename_i e size zc hT
    obtain ⟨hlim, hp⟩ := hp
    obtain ⟨i, z, hu, hi, hs, hpos, hz, hzr, hzl⟩ := rowT_ok (w := w) hT
    have hzsz : z.cells.size = size := by have := (hzr (fun _ => True)).1; rw [hzl] at this; simpa using this
    have hrep := zeros_rep (hzr (Shared S0 w0.heap.size w s (tmOf a))) len
    rw [hzsz] at hrep
    have hx : ∀ x ∈ List.replicate len zc, x.length = size := fun x hx => by rw [List.eq_of_mem_replicate hx, hzl]
    obtain ⟨hl, hxs, arr', hf, hr⟩ := fillX_ok size parts.toList _ _ hf hx hrep hp
    have hlen : (fillX size (List.replicate len zc) (parts.toList.map fun x => (x.1, f x.2))).2.length = len := by rw [hl]; simp
    have hfill : Instr.fill (fun i => some (i * size, size)) ((Array.range (len * size)).map (z.cells[· % size]!)) (parts.map fun (i, x) => (i, a.eval x)).toList = some arr' := by
      rw [← hf]; congr 1; simp
    have harr : arr'.size = len * size := by
      have := hr.1
      rw [flatten_length hxs, hlen] at this
      simpa using this
    have hcap : len ≤ maxLen := by
      have : len * 1 ≤ len * size := Nat.mul_le_mul_left _ hpos
      simp only [maxLen]; omega
    refine ⟨.slice (some ⟨w.heap.size, 0, none⟩) len len, w.alloc (.cells arr' e), ?_, ?_⟩
    · have hlim' : ¬ len * size > 2 ^ 24 := by omega
      have hfin : ∀ c : Array Value, c = ((Array.range (len * size)).map (z.cells[· % size]!)) → (Instr.fill (fun i => some (i * size, size)) c (parts.map fun (i, x) => (i, a.eval x)).toList) = some arr' := fun c hc => by rw [hc]; exact hfill
      by_cases h0 : len * size = 0
      · have h1 := hfin #[] (by rw [h0]; simp)
        have hr0 : ∀ f : Nat → Value, Array.map f (Array.range 0) = #[] := fun f => by simp
        simp only [Instr.buildSlice, Sem.run_bind, run_underlying hu, Result.andThen_ok, run_sizeOf hi, hs]
        rw [h0]
        simp only [show ¬ ((0 : Nat) > 2 ^ 24) by omega, if_false, if_true, Sem.run_pure, Result.andThen_ok, hr0, h1, Sem.run_bind]
        rfl
      · have h1 := hfin _ rfl
        simp only [Instr.buildSlice, Sem.run_bind, run_underlying hu, Result.andThen_ok, run_sizeOf hi, hs, if_neg hlim', if_neg h0, hz, Sem.run_pure, hzsz, h1]
        rfl
    · refine hR.newOwn hd (World.grownBy_alloc w _ none) (us := arr'.toList) ⟨by simp [harr, hlen], .inr ⟨w.heap.size, len, arr', by rw [hlen], Nat.zero_le _, heap_alloc_new w _, by omega, hcap, harr, ?_⟩⟩ hr hxs (by rw [hlen]; exact hcap) ?_
      · rw [hlen, List.take_of_length_le (by simp [harr])]
      · intro b hb
        have : w.heap.size = b := by simpa [Value.ownBlock] using hb
        omega
  · exact hp.elim

end
end Go.Ab
