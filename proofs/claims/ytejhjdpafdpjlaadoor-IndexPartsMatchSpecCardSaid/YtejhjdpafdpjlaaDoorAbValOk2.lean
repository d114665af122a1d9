/-
  That the model's operation yields what 'aval' says: the rest.
-/
import Derived.Test.YtejhjdpafdpjlaaDoorAbValOk
namespace Go.Ab
open Go Go.RowKit
set_option linter.unusedSectionVars false
variable [Amb]

section
variable {P : Program} {S0 : Env} {w0 w : World} {n : Nat} {s : St} {a : Act}

/-- What an operand is known to be. -/
abbrev Knows (S0 : Env) (w0 : World) (s : St) (a : Act) (w : World) (r : Prop × AV) (v : Value) : Prop := r.1 → RepIn S0 w0 s a w r.2 v

/-- That a computation of a value comes to this. -/
abbrev Yields (P : Program) (S0 : Env) (w0 : World) (s : St) (a : Act) (w : World) (m : Sem Value) (r : AV) : Prop :=
  ∃ v, m.run P w = .ok v w ∧ RepIn S0 w0 s a w r v ∧ r.isOwner = false

theorem isSliceT_ok {t : TypeId} (h : isSliceT P t = true) : ∃ e, P.underlying t = some (.slice e) := by
  unfold isSliceT at h
  split at h
  · exact ⟨_, by assumption⟩
  · cases h

/-- A slice that is nil, or is not. -/
inductive NilIs : Value → Bool → Prop where
  | yes : NilIs (.slice none 0 0) true
  | no (a : Addr) (l c : Nat) : NilIs (.slice (some a) l c) false

theorem nilTest_ok {S : Nat → Prop} {c : CV} {v : Value} {b : Bool} (h : RepC w S c v) (hb : nilTest c = some b) : ∃ b', NilIs v b' ∧ b' = b := by
  unfold nilTest at hb
  split at hb
  · cases h; injection hb with hb; exact ⟨_, .yes, hb⟩
  · cases h; injection hb with hb; exact ⟨_, .no _ _ _, hb⟩
  · cases h; injection hb with hb; exact ⟨_, .no _ _ _, hb⟩
  · cases hb

theorem run_equalIn_slice (d : Nat) {t e : TypeId} {v : Value} {b : Bool} (h : NilIs v b) (he : P.underlying t = some (.slice e)) : (Op.equalIn (d + 1) t v (.slice none 0 0)).run P w = .ok b w := by
  cases h <;> simp [Op.equalIn, run_underlying he]

theorem eqGuard_slice (op : BinOp) (t : TypeId) (o1 o2 : Operand) {u v : Value} {b : Bool} (hu : NilIs u b) : (eqGuard op t o1 o2 u v).run P w = .ok () w := by
  cases hu <;> simp [eqGuard]

theorem abinX_ok (op : BinOp) (t : TypeId) (o1 o2 : Operand) {x y : Prop × AV} {u v : Value} (hx : Knows S0 w0 s a w x u) (hy : Knows S0 w0 s a w y v) (hp : (abinX P op t x y).1) :
    Yields P S0 w0 s a w (do eqGuard op t o1 o2 u v; binOp op t u v) (abinX P op t x y).2 := by
  obtain ⟨p, x⟩ := x
  obtain ⟨q, y⟩ := y
  unfold abinX at hp ⊢
  split at hp
  · rename_i b1 b2 e1 e2
    injection e1 with e1a e1b; subst e1a; subst e1b
    injection e2 with e2a e2b; subst e2a; subst e2b
    cases op <;> first | exact hp.elim | skip
    all_goals
      simp only at hp ⊢
      obtain ⟨hp1, hp2, hu⟩ := hp
      obtain rfl := rep_bool (hx hp1)
      obtain rfl := rep_bool (hy hp2)
      refine ⟨_, ?_, RepC.bool _, rfl⟩
      rw [eqGuard_at_bool]
      simp [binOp, Op.equal, Op.maxDepth, run_equalIn_bool' w 9999 t _ _ hu, bne]
  · rename_i c1 e1 e2
    injection e1 with e1a e1b; subst e1a; subst e1b
    injection e2 with e2a e2b; subst e2a; subst e2b
    unfold anil at hp ⊢
    split at hp
    · rename_i b hb
      obtain ⟨hp1, hp2, ht⟩ := hp
      obtain ⟨e, he⟩ := isSliceT_ok ht
      obtain ⟨r, hr, hb'⟩ := nilTest_ok (hx hp1) hb
      subst hb'
      obtain rfl := rep_nil (hy hp2)
      refine ⟨_, ?_, RepC.bool _, rfl⟩
      simp only [Sem.run_bind, eqGuard_slice (P := P) .eql t o1 o2 hr, Result.andThen_ok]
      have hq := run_equalIn_slice (P := P) (w := w) 9999 hr he
      cases hr <;> simp only [binOp, Op.equal, Op.maxDepth, Sem.run_bind, hq, Result.andThen_ok] <;> rfl
    · rename_i b hb
      obtain ⟨hp1, hp2, ht⟩ := hp
      obtain ⟨e, he⟩ := isSliceT_ok ht
      obtain ⟨r, hr, hb'⟩ := nilTest_ok (hx hp1) hb
      subst hb'
      obtain rfl := rep_nil (hy hp2)
      refine ⟨_, ?_, RepC.bool _, rfl⟩
      simp only [Sem.run_bind, eqGuard_slice (P := P) .neq t o1 o2 hr, Result.andThen_ok]
      have hq := run_equalIn_slice (P := P) (w := w) 9999 hr he
      cases hr <;> simp only [binOp, Op.equal, Op.maxDepth, Sem.run_bind, hq, Result.andThen_ok] <;> rfl
    · exact hp.elim
  · rename_i c1 c2 hne hne2 e1 e2
    injection e1 with e1a e1b; subst e1a; subst e1b
    injection e2 with e2a e2b; subst e2a; subst e2b
    simp only at hp ⊢
    obtain ⟨hp1, hp2, hp3⟩ := hp
    obtain ⟨r, hr, hrep⟩ := abin_ok (P := P) op t (hx hp1) (hy hp2) hp3
    refine ⟨r, ?_, hrep, rfl⟩
    simp only [Sem.run_bind, eqGuard_one (P := P) op t o1 o2 (hx hp1) (hy hp2) hp3, Result.andThen_ok, hr]
  · rename_i xs ys e1 e2
    injection e1 with e1a e1b; subst e1a; subst e1b
    injection e2 with e2a e2b; subst e2a; subst e2b
    cases hks : eqT P t with
    | none => rw [hks] at hp; exact hp.elim
    | some ks =>
      rw [hks] at hp
      unfold eqT at hks
      split at hks
      · rename_i fs k ks' hg hfs hkt
        injection hks with hks
        subst hks
        cases op <;> first | exact hp.elim | skip
        all_goals
          simp only at hp ⊢
          obtain ⟨hp1, hp2, hf⟩ := hp
          obtain ⟨us, rfl, hus⟩ := hx hp1
          obtain ⟨vs, rfl, hvs⟩ := hy hp2
          refine ⟨_, ?_, RepC.bool _, rfl⟩
          simp only [Sem.run_bind, run_eqGuard_agg (P := P) w _ t o1 o2 us vs hg, Result.andThen_ok, run_eql_struct, run_neq_struct]
          have hval : ∀ l : Array Value, valOf P t l.toList = .agg l := fun l => by simp [valOf, hfs]
          have heq := equalIn_ok (P := P) (w := w) 100 10000 t (k :: ks') _ _ us.toList vs.toList (by omega) hkt hus hvs hf (by simp)
          rw [hval, hval] at heq
          rw [heq]
          rfl
      · cases hks
  · exact hp.elim

theorem apick_ok {c x y : Prop × AV} {cv xv yv : Value} (hc : Knows S0 w0 s a w c cv) (hx : Knows S0 w0 s a w x xv) (hy : Knows S0 w0 s a w y yv) (hp : (apick c x y).1) :
    Yields P S0 w0 s a w (do pure (if ← asBool cv then xv else yv)) (apick c x y).2 := by
  obtain ⟨pc, c⟩ := c
  obtain ⟨px, x⟩ := x
  obtain ⟨py, y⟩ := y
  match c, x, y, hp with
  | .x (.one (.bool e)), .x xa, .x xb, hp =>
    obtain ⟨h1, h2, h3⟩ := hp
    obtain rfl := rep_bool (hc h1)
    refine ⟨if e then xv else yv, by simp [asBool], ?_, rfl⟩
    have hpick : ∀ (S : Nat → Prop) (v : Value), RepX w S (bif e then xa else xb) v → RepX w S (pickX e xa xb) v := by
      intro S v h
      unfold pickX
      split
      · cases e <;> exact h
      · exact h
    refine hpick _ _ ?_
    cases e with
    | true => exact hx (h2 rfl)
    | false => exact hy (h3 rfl)

theorem tk_agg {t : TypeId} {m : Nat} (h : tk P t = .agg m) : ∃ i, P.info? t = some i ∧ i.size = m ∧ (isAgg t).run P w = .ok true w := by
  unfold tk at h
  split at h <;> first | cases h | skip
  all_goals rename_i hu hi; exact ⟨_, hi, rfl, by rw [run_isAgg hu]⟩

theorem tk_one {t : TypeId} (h : tk P t = .one) : (isAgg t).run P w = .ok false w := by
  unfold tk at h
  split at h <;> first | cases h | skip
  rename_i ty hu hn1 hn2 hn3 hn4
  rw [run_isAgg hu]
  cases ty with
  | struct fs =>
    exfalso
    cases hi : P.info? t with
    | some i => exact hn1 _ _ hi rfl
    | none => exact hn3 _ hi rfl
  | array k e =>
    exfalso
    cases hi : P.info? t with
    | some i => exact hn2 _ _ _ hi rfl
    | none => exact hn4 _ _ hi rfl
  | _ => rfl

theorem aload_ok {t : TypeId} {p : Prop} {m : Option (List CV)} {v : Value}
    (hm : p → ∀ cs, m = some cs → ∃ ad : Addr, v = .pointer (some ad) ∧ ad.spot = none ∧ ∀ (j : Nat) (c : CV), cs[j]? = some c → ∃ u, w.cell? (ad.add j) = some u ∧ RepC w (Shared S0 w0.heap.size w s (tmOf a)) c u)
    {z : Option XV} (hp : (aload (tk P t) z p m).1) : Yields P S0 w0 s a w (Instr.loadAt t v) (aload (tk P t) z p m).2 := by
  cases m with
  | none => exact hp.elim
  | some cs =>
    simp only [aload] at hp ⊢
    cases hk : tk P t with
    | bad => rw [hk] at hp; exact hp.elim
    | one =>
      rw [hk] at hp
      cases cs with
      | nil => cases z <;> exact hp.elim
      | cons c cs =>
        obtain ⟨ad, rfl, hsp, hc⟩ := hm hp _ rfl
        obtain ⟨u, hu, hr⟩ := hc 0 c rfl
        refine ⟨u, ?_, hr, rfl⟩
        have hu' : w.cell? ad = some u := by simpa [Addr.add] using hu
        simp [Instr.loadAt, Instr.sureAddr, loadVar, tk_one (w := w) hk, hu']
    | agg m =>
      rw [hk] at hp
      obtain ⟨hp, hl⟩ := hp
      obtain ⟨ad, rfl, hsp, hc⟩ := hm hp _ rfl
      obtain ⟨i, hi, hsz, hag⟩ := tk_agg (w := w) hk
      -- the values of the cells
      have hex : ∀ j, ∃ u, ∀ c, (cs.take m)[j]? = some c → w.cell? (ad.add j) = some u ∧ RepC w (Shared S0 w0.heap.size w s (tmOf a)) c u := by
        intro j
        cases hj : (cs.take m)[j]? with
        | none => exact ⟨undef, fun c h => by cases h⟩
        | some c =>
          rw [List.getElem?_take] at hj
          split at hj
          · obtain ⟨u, h1, h2⟩ := hc j c hj
            exact ⟨u, fun c' h => by injection h with h; subst h; exact ⟨h1, h2⟩⟩
          · cases hj
      obtain ⟨U, hU⟩ := Classical.axiomOfChoice hex
      have hlen : (cs.take m).length = m := by rw [List.length_take]; omega
      have hcells : ∀ j, j < m → w.cell? (ad.add j) = some (U j) := fun j hj => (hU j _ (List.getElem?_eq_getElem (by omega : j < (cs.take m).length))).1
      refine ⟨.agg ((List.range m).map U).toArray, ?_, ⟨_, rfl, by simp; omega, fun j c hj => ?_⟩, rfl⟩
      · have := run_loadCells (P := P) (w := w) ad m U hcells
        simp only [Instr.loadAt, Instr.sureAddr, loadVar, Sem.run_bind, Sem.run_pure, Result.andThen_ok, hag, if_true, run_sizeOf hi, hsz, this]
      · have hjl : j < m := by have := (List.getElem?_eq_some_iff.1 hj).1; omega
        exact ⟨U j, by simp [hjl], (hU j c hj).2⟩

theorem acut_value {k : TK} {p : Prop} {cs : List CV} (hp : (acut k p cs).1) : p ∧ ∃ xv, (acut k p cs).2 = .x xv := by
  cases k with
  | bad => exact hp.elim
  | agg m => exact ⟨hp.1, _, rfl⟩
  | one => cases cs with
    | nil => exact hp.elim
    | cons c cs => exact ⟨hp, _, rfl⟩

end
end Go.Ab
