/-
  That the model's operation yields what 'aval' says.
-/
import Derived.Test.YtejhjdpafdpjlaaDoorAbVal
namespace Go.Ab
open Go Go.RowKit
set_option linter.unusedSectionVars false
variable [Amb]

section
variable {P : Program} {S0 : Env} {w0 w : World} {n : Nat} {s : St} {a : Act}

/-- A value of one cell that is read as 'one c'. -/
theorem rep_bool {w : World} {S : Nat → Prop} {b : Bool} {v : Value} (h : RepC w S (.bool b) v) : v = .bool b := by cases h; rfl
theorem rep_int {w : World} {S : Nat → Prop} {k : IntKind} {m : Int} {v : Value} (h : RepC w S (.int k m) v) : v = .int k m := by cases h; rfl
theorem rep_str {w : World} {S : Nat → Prop} {l : List UInt8} {v : Value} (h : RepC w S (.str l) v) : v = .string ⟨l.toArray⟩ ∧ l.length ≤ maxLen := by
  cases h with
  | str _ h => exact ⟨rfl, h⟩
theorem rep_nil {w : World} {S : Nat → Prop} {v : Value} (h : RepC w S .nil v) : v = .slice none 0 0 := by cases h; rfl

theorem bytesList (l : List UInt8) : (⟨l.toArray⟩ : ByteArray).toList = l := ByteArray.toList_mk l
theorem bytesSize (l : List UInt8) : (⟨l.toArray⟩ : ByteArray).size = l.length := by simp [ByteArray.size]

theorem abin_ok (op : BinOp) (t : TypeId) {x y : CV} {u v : Value} {S : Nat → Prop} (hx : RepC w S x u) (hy : RepC w S y v) (hp : (abin op x y).1) :
    ∃ r, (binOp op t u v).run P w = .ok r w ∧ RepC w S (abin op x y).2 r := by
  cases x <;> cases y <;> try (exact hp.elim)
  case int.int k m k' m' =>
    obtain rfl := rep_int hx
    obtain rfl := rep_int hy
    cases op <;> simp only [abin] at hp ⊢ <;> simp only [binOp]
    case shl => exact ⟨_, by simp only [Op.shift]; rw [if_neg (by omega)]; rfl, .int _ _⟩
    case shr => exact ⟨_, by simp only [Op.shift]; rw [if_neg (by omega)]; rfl, .int _ _⟩
    case quo => obtain ⟨rfl, hp⟩ := hp; exact ⟨_, by simp [Op.intDiv, hp], .int _ _⟩
    case rem => obtain ⟨rfl, hp⟩ := hp; exact ⟨_, by simp [Op.intDiv, hp], .int _ _⟩
    all_goals subst hp
    all_goals simp only [ne_eq, not_true_eq_false, if_false]
    case add => exact ⟨_, rfl, .int _ _⟩
    case sub => exact ⟨_, rfl, .int _ _⟩
    case mul => exact ⟨_, rfl, .int _ _⟩
    case and => exact ⟨_, rfl, .int _ _⟩
    case or => exact ⟨_, rfl, .int _ _⟩
    case xor => exact ⟨_, rfl, .int _ _⟩
    case andNot => exact ⟨_, rfl, .int _ _⟩
    all_goals exact ⟨_, rfl, .bool _⟩
  case str.str l l' =>
    obtain ⟨rfl, hl⟩ := rep_str hx
    obtain ⟨rfl, hl'⟩ := rep_str hy
    cases op <;> simp only [abin] at hp ⊢ <;> (try exact hp.elim) <;> simp only [binOp, Op.stringOp, bytesList, bytesSize]
    case add =>
      refine ⟨.string ⟨(l ++ l').toArray⟩, ?_, .str _ (by simpa using hp)⟩
      rw [if_neg (by simp only [maxLen] at hp; simp [IntKind.max, IntKind.signed, IntKind.bits]; omega)]
      show Result.ok (Value.string (⟨l.toArray⟩ ++ ⟨l'.toArray⟩)) w = _
      congr 2
    all_goals exact ⟨_, rfl, .bool _⟩

theorem eqGuard_one (op : BinOp) (t : TypeId) (o1 o2 : Operand) {x y : CV} {u v : Value} {S : Nat → Prop} (hx : RepC w S x u) (hy : RepC w S y v) (hp : (abin op x y).1) :
    (eqGuard op t o1 o2 u v).run P w = .ok () w := by
  cases x <;> cases y <;> try (exact hp.elim)
  case int.int => obtain rfl := rep_int hx; rw [eqGuard_at_int]; rfl
  case str.str => obtain ⟨rfl, _⟩ := rep_str hx; rw [eqGuard_at_string]; rfl

theorem run_isAgg {t : TypeId} {d : TypeDesc} (h : P.underlying t = some d) (w : World) : (isAgg t).run P w = .ok (match d with | .struct _ => true | .array _ _ => true | _ => false) w := by
  simp only [isAgg, Sem.run_bind, run_underlying h, Result.andThen_ok]
  cases d <;> rfl

theorem run_sizeOf {t : TypeId} {i : TypeInfo} (h : P.info? t = some i) (w : World) : (sizeOf t).run P w = .ok i.size w := by
  simp [sizeOf, typeInfo, h]

theorem info_of_underlying {t : TypeId} {d : TypeDesc} (h : P.underlying t = some d) : ∃ i, P.info? t = some i := by
  cases hi : P.info? t with
  | some i => exact ⟨i, rfl⟩
  | none => simp [Program.underlying, hi] at h

/-- The value of a type off its cells. -/
def valOf (P : Program) (t : TypeId) (us : List Value) : Value :=
  match P.underlying t with
  | some (.struct _) => .agg us.toArray
  | some (.array _ _) => .agg us.toArray
  | _ => us.headD undef

theorem run_part {t : TypeId} {d : TypeDesc} {i : TypeInfo} (h : P.underlying t = some d) (hi : P.info? t = some i) (us : Array Value) (off : Nat) (hl : off + i.size ≤ us.size) (hs : 0 < i.size) (w : World) :
    (part t us off).run P w = .ok (valOf P t ((us.toList.drop off).take i.size)) w := by
  have hat : us[off]? = some us[off] := Array.getElem?_eq_getElem (by omega)
  have hdrop : us.toList.drop off = us[off] :: us.toList.drop (off + 1) := by
    rw [List.drop_eq_getElem_cons (by simp; omega)]; simp
  have hagg : us.extract off (off + i.size) = ((us.toList.drop off).take i.size).toArray := by
    apply Array.ext'
    simp only [Array.toList_extract, List.extract_eq_take_drop]
    simp
  have hhead : ((us.toList.drop off).take i.size).head?.getD undef = us[off] := by
    rw [hdrop]
    obtain ⟨m, hm⟩ : ∃ m, i.size = m + 1 := ⟨i.size - 1, by omega⟩
    rw [hm]; rfl
  simp only [part, Sem.run_bind, run_isAgg h, Result.andThen_ok, valOf, h]
  cases d with
  | struct fs => simp [run_sizeOf hi, hagg]
  | array k e => simp [run_sizeOf hi, hagg]
  | _ => simp [hat, hhead]

theorem fitCs_len : ∀ {ks : List BK} {xs ys : List CV}, fitCs ks xs ys → xs.length = ks.length ∧ ys.length = ks.length := by
  intro ks
  induction ks with
  | nil => intro xs ys h; cases xs <;> cases ys <;> simp_all [fitCs]
  | cons k ks ih =>
    intro xs ys h
    cases k <;> cases xs with
    | nil => simp [fitCs] at h
    | cons x xs =>
      cases ys with
      | nil => cases x <;> simp [fitCs] at h
      | cons y ys =>
        cases x <;> cases y <;> simp only [fitCs] at h <;> first
          | exact h.elim
          | (have := ih h; simp [this.1, this.2])
          | (have := ih h.2; simp [this.1, this.2])

theorem fitCs_split : ∀ {k1 k2 : List BK} {xs ys : List CV}, fitCs (k1 ++ k2) xs ys →
    fitCs k1 (xs.take k1.length) (ys.take k1.length) ∧ fitCs k2 (xs.drop k1.length) (ys.drop k1.length) ∧
    eqCs xs ys = (eqCs (xs.take k1.length) (ys.take k1.length) && eqCs (xs.drop k1.length) (ys.drop k1.length)) := by
  intro k1
  induction k1 with
  | nil => intro k2 xs ys h; exact ⟨trivial, h, by simp [eqCs]⟩
  | cons k k1 ih =>
    intro k2 xs ys h
    cases k <;> cases xs with
    | nil => simp [fitCs] at h
    | cons x xs =>
      cases ys with
      | nil => cases x <;> simp [fitCs] at h
      | cons y ys =>
        cases x <;> cases y <;> simp only [List.cons_append, fitCs] at h <;> first
          | exact h.elim
          | (obtain ⟨h1, h2, h3⟩ := ih h; exact ⟨h1, h2, by simp only [List.length_cons, List.take_succ_cons, List.drop_succ_cons, eqCs, h3, Bool.and_assoc]⟩)
          | (obtain ⟨h0, h⟩ := h; obtain ⟨h1, h2, h3⟩ := ih h; exact ⟨⟨h0, h1⟩, h2, by simp only [List.length_cons, List.take_succ_cons, List.drop_succ_cons, eqCs, h3, Bool.and_assoc]⟩)

theorem RepL.sub {S : Nat → Prop} {xs : List CV} {us : List Value} (h : RepL w S xs us) (o m : Nat) : RepL w S ((xs.drop o).take m) ((us.drop o).take m) := by
  refine ⟨by simp [h.1], fun j c hj => ?_⟩
  rw [List.getElem?_take] at hj
  split at hj
  · rename_i hlt
    rw [List.getElem?_drop] at hj
    obtain ⟨u, hu, hr⟩ := h.2 _ _ hj
    exact ⟨u, by rw [List.getElem?_take, if_pos hlt, List.getElem?_drop]; exact hu, hr⟩
  · cases hj

theorem RepL.drop {S : Nat → Prop} {xs : List CV} {us : List Value} (h : RepL w S xs us) (o : Nat) : RepL w S (xs.drop o) (us.drop o) := by
  refine ⟨by simp [h.1], fun j c hj => ?_⟩
  rw [List.getElem?_drop] at hj
  obtain ⟨u, hu, hr⟩ := h.2 _ _ hj
  exact ⟨u, by rw [List.getElem?_drop]; exact hu, hr⟩

theorem RepL.head {S : Nat → Prop} {x : CV} {xs : List CV} {us : List Value} (h : RepL w S (x :: xs) us) : ∃ u r, us = u :: r ∧ RepC w S x u := by
  obtain ⟨u, hu, hr⟩ := h.2 0 x rfl
  cases us with
  | nil => simp at hu
  | cons u' r => simp at hu; subst hu; exact ⟨_, _, rfl, hr⟩

theorem fit_b {xs ys : List CV} (h : fitCs [.b] xs ys) : ∃ p q, xs = [.bool p] ∧ ys = [.bool q] := by
  obtain ⟨h1, h2⟩ := fitCs_len h
  match xs, ys, h1, h2 with
  | [x], [y], _, _ => cases x <;> cases y <;> simp_all [fitCs]
theorem fit_i {xs ys : List CV} (h : fitCs [.i] xs ys) : ∃ k p q, xs = [.int k p] ∧ ys = [.int k q] := by
  obtain ⟨h1, h2⟩ := fitCs_len h
  match xs, ys, h1, h2 with
  | [x], [y], _, _ => cases x <;> cases y <;> simp_all [fitCs]
theorem fit_s {xs ys : List CV} (h : fitCs [.s] xs ys) : ∃ p q, xs = [.str p] ∧ ys = [.str q] := by
  obtain ⟨h1, h2⟩ := fitCs_len h
  match xs, ys, h1, h2 with
  | [x], [y], _, _ => cases x <;> cases y <;> simp_all [fitCs]

def kindStep (P : Program) (d : Nat) (acc : Option (List BK)) (f : Field) : Option (List BK) :=
  match acc, kindsT P d f.type with
  | some l, some ks => if f.name = "_" ∨ f.offset ≠ l.length ∨ (P.info? f.type).map (·.size) ≠ some ks.length ∨ ks.length = 0 then none else some (l ++ ks)
  | _, _ => none

theorem kindStep_none (d : Nat) : ∀ (fs : List Field), fs.foldl (kindStep P d) none = none
  | [] => rfl
  | _ :: fs => kindStep_none d fs

theorem kindsT_underlying {d : Nat} {t : TypeId} {ks : List BK} (h : kindsT P d t = some ks) : ∃ ty, P.underlying t = some ty := by
  cases d with
  | zero => simp [kindsT] at h
  | succ d =>
    simp only [kindsT] at h
    cases hu : P.underlying t with
    | some ty => exact ⟨ty, rfl⟩
    | none => rw [hu] at h; cases h

theorem equalIn_ok {S : Nat → Prop} : ∀ (d D : Nat) (t : TypeId) (ks : List BK) (xs ys : List CV) (us vs : List Value), d ≤ D → kindsT P d t = some ks → RepL w S xs us → RepL w S ys vs → fitCs ks xs ys → 0 < ks.length →
    (Op.equalIn D t (valOf P t us) (valOf P t vs)).run P w = .ok (eqCs xs ys) w := by
  intro d
  induction d with
  | zero => intro D t ks xs ys us vs _ h; simp [kindsT] at h
  | succ d ih =>
    intro D t ks xs ys us vs hD hk hx hy hf hpos
    obtain ⟨D, rfl⟩ : ∃ D', D = D' + 1 := ⟨D - 1, by omega⟩
    simp only [kindsT] at hk
    cases hu : P.underlying t with
    | none => rw [hu] at hk; cases hk
    | some ty =>
      rw [hu] at hk
      cases ty with
      | bool =>
        simp only [Option.some.injEq] at hk; subst hk
        obtain ⟨p, q, rfl, rfl⟩ := fit_b hf
        · obtain ⟨u, r, rfl, h1⟩ := hx.head
          obtain ⟨v, r', rfl, h2⟩ := hy.head
          rw [rep_bool h1, rep_bool h2]
          simp [valOf, hu, eqCs, run_equalIn_bool' w D t p q hu]
      | int k =>
        simp only [Option.some.injEq] at hk; subst hk
        obtain ⟨k1, p, q, rfl, rfl⟩ := fit_i hf
        · obtain ⟨u, r, rfl, h1⟩ := hx.head
          obtain ⟨v, r', rfl, h2⟩ := hy.head
          rw [rep_int h1, rep_int h2]
          simp [valOf, hu, eqCs, run_equalIn_int w D t k1 k p q hu]
      | string =>
        simp only [Option.some.injEq] at hk; subst hk
        obtain ⟨p, q, rfl, rfl⟩ := fit_s hf
        · obtain ⟨u, r, rfl, h1⟩ := hx.head
          obtain ⟨v, r', rfl, h2⟩ := hy.head
          rw [(rep_str h1).1, (rep_str h2).1]
          simp [valOf, hu, eqCs, run_equalIn_string w D t _ _ hu]
      | struct fs =>
        simp only at hk
        split at hk
        · cases hk
        · rename_i hst
          have hfo : P.fieldsOf t = fs := by simp [Program.fieldsOf, hu]
          have hrun := run_equalIn_struct (P := P) w D t us.toArray vs.toArray (by rw [hfo]; exact hu) (by simpa using hst)
          rw [hfo] at hrun
          have hval : ∀ l : List Value, valOf P t l = .agg l.toArray := fun l => by simp [valOf, hu]
          rw [hval, hval, hrun]
          have key : ∀ (l : List Field) (acc : List BK), l.foldl (kindStep P d) (some acc) = some ks → acc.length ≤ ks.length →
              (∃ r, ks = acc ++ r) ∧ (Op.eqFields D us.toArray vs.toArray l).run P w = .ok (eqCs (xs.drop acc.length) (ys.drop acc.length)) w := by
            intro l
            induction l with
            | nil =>
              intro acc h _
              simp only [List.foldl_nil, Option.some.injEq] at h
              subst h
              obtain ⟨h1, h2⟩ := fitCs_len hf
              refine ⟨⟨[], by simp⟩, ?_⟩
              rw [List.drop_eq_nil_of_le (by omega), List.drop_eq_nil_of_le (by omega)]
              rfl
            | cons f l ihl =>
              intro acc h hacc
              simp only [List.foldl_cons] at h
              cases hkf : kindsT P d f.type with
              | none => simp [kindStep, hkf, kindStep_none] at h
              | some kf =>
                simp only [kindStep, hkf] at h
                split at h
                · rw [kindStep_none] at h; cases h
                · rename_i hcond
                  have hn : f.name ≠ "_" := fun e => hcond (.inl e)
                  have ho : f.offset = acc.length := Classical.byContradiction fun e => hcond (.inr (.inl e))
                  have hsz : (P.info? f.type).map (·.size) = some kf.length := Classical.byContradiction fun e => hcond (.inr (.inr (.inl e)))
                  have hkp : 0 < kf.length := Nat.pos_of_ne_zero fun e => hcond (.inr (.inr (.inr e)))
                  obtain ⟨i, hi, hisz⟩ : ∃ i, P.info? f.type = some i ∧ i.size = kf.length := by
                    cases hi : P.info? f.type with
                    | none => rw [hi] at hsz; cases hsz
                    | some i => rw [hi] at hsz; exact ⟨i, rfl, by simpa using hsz⟩
                  -- what the rest gives
                  have hlen : (acc ++ kf).length ≤ ks.length := by
                    have : ∀ (l : List Field) (a b : List BK), l.foldl (kindStep P d) (some a) = some b → a.length ≤ b.length := by
                      intro l
                      induction l with
                      | nil => intro a b h; simp at h; subst h; exact Nat.le_refl _
                      | cons g l ihg =>
                        intro a b h
                        simp only [List.foldl_cons] at h
                        cases hg : kindStep P d (some a) g with
                        | none => rw [hg, kindStep_none] at h; cases h
                        | some a' =>
                          rw [hg] at h
                          have := ihg _ _ h
                          simp only [kindStep] at hg
                          split at hg
                          · split at hg
                            · cases hg
                            · rename_i e1 e2 _
                              injection e1 with e1
                              injection hg with hg
                              subst e1; subst hg
                              simp at this; omega
                          · cases hg
                    exact this _ _ _ h
                  obtain ⟨⟨r, hr⟩, hrest⟩ := ihl _ h hlen
                  refine ⟨⟨kf ++ r, by rw [hr, List.append_assoc]⟩, ?_⟩
                  have hks : ks = acc ++ (kf ++ r) := by rw [hr, List.append_assoc]
                  rw [hks] at hf
                  obtain ⟨_, hf2, _⟩ := fitCs_split hf
                  obtain ⟨hf3, _, he⟩ := fitCs_split hf2
                  obtain ⟨hl1, hl2⟩ := fitCs_len hf
                  have hul : us.length = xs.length := hx.1
                  have hvl : vs.length = ys.length := hy.1
                  obtain ⟨ty, hty⟩ := kindsT_underlying hkf
                  · have hp1 := run_part (P := P) hty hi us.toArray f.offset (by simp [hisz, ho, hul, hl1] <;> omega) (by omega) w
                    have hp2 := run_part (P := P) hty hi vs.toArray f.offset (by simp [hisz, ho, hvl, hl2] <;> omega) (by omega) w
                    have heq := ih D f.type kf ((xs.drop f.offset).take i.size) ((ys.drop f.offset).take i.size) ((us.drop f.offset).take i.size) ((vs.drop f.offset).take i.size) (by omega) hkf
                      (hx.sub _ _) (hy.sub _ _) (by rw [ho, hisz]; exact hf3) hkp
                    simp only [Op.eqFields, hn, ne_eq, not_false_eq_true, if_true, Sem.run_bind, hp1, hp2, Result.andThen_ok, heq]
                    rw [he, ho, hisz]
                    cases hb : eqCs ((xs.drop acc.length).take kf.length) ((ys.drop acc.length).take kf.length) with
                    | false => simp
                    | true =>
                      simp only [Bool.not_true, Bool.false_eq_true, if_false, Bool.true_and]
                      rw [hrest]
                      simp [List.drop_drop]
          obtain ⟨_, hres⟩ := key fs.toList [] hk (Nat.zero_le _)
          simpa using hres
      | _ => cases hk

end
end Go.Ab
