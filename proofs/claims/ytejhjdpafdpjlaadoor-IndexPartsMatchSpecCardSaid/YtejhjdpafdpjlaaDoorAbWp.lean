/-
  Code over abstract slots; the contract of a function out of its code.
-/
import Derived.Test.YtejhjdpafdpjlaaDoorAbRegion
namespace Go.Ab
open Go Go.RowKit
set_option linter.unusedSectionVars false
variable [Amb]

section
variable {P : Program} {S0 : Env} {w0 w : World} {n : Nat} {s : St} {a : Act}

theorem acalm_ok (hR : Rel S0 w0 n s a w) (o : Oper) {d : Nat} {r : AV} (hdst : o.dst = some d) (hd : S0.m ≤ d ∧ d < n) (h : acalm P s o.op r) {K' : Act → World → Prop} {Q : Exit → Act → World → Prop}
    (hK : ∀ a' w', Rel S0 w0 n (Ab.put s d r) a' w' → K' a' w') : o.wp P a w K' Q := by
  have plain : (aval2 P s o.op).1 ∧ r = (aval2 P s o.op).2 → o.wp P a w K' Q := by
    rintro ⟨hp, rfl⟩
    exact value_step hR hd hdst (aval2_ok hR o hp) (fun j hj => aval2_refs hR.wf _ hj) hK
  obtain ⟨dst, op, type, pos, after, guard⟩ := o
  dsimp only at h plain hdst
  subst hdst
  cases op <;> try (exact plain h)
  case alloc t =>
    simp only [acalm] at h
    cases hz : zeroOf P t with
    | none => rw [hz] at h; exact h.elim
    | some cs =>
      rw [hz] at h
      simp only at h
      subst h
      exact astep_ok (P := P) (K := fun s' => s' = Ab.put s d (.box cs)) hR _ (fun d' h' => by injection h' with h'; subst h'; exact hd.1) (by simp only [astep, hz]; exact ⟨hd.2, trivial⟩) (fun s' a' w' hR' hs' => by subst hs'; exact hK a' w' hR')
  case box t x =>
    simp only [acalm] at h
    split at h
    · rename_i p xv e
      obtain ⟨hp, rfl⟩ := h
      obtain ⟨e1, e2⟩ := uv_of_sv e
      exact astep_ok (P := P) (K := fun s' => s' = Ab.put s d (.box xv.cells)) hR _ (fun d' h' => by injection h' with h'; subst h'; exact hd.1) (by simp only [astep, e1, e2, freezeL]; exact ⟨hp, hd.2, trivial⟩) (fun s' a' w' hR' hs' => by subst hs'; exact hK a' w' hR')
    · exact h.elim
  case buildSlice t len parts =>
    obtain ⟨hp, rfl⟩ := h
    obtain ⟨v, w', hrun, hR'⟩ := abuildSlice_ok (P := P) (f := Ab.sv s) hR (fun x _ => hR.sv x.2) hd hp
    unfold Oper.wp
    have hx : (execOp a.eval ({ dst := some d, op := .buildSlice t len parts, type := type, pos := pos, after := after, guard := guard } : Oper)).run P w = .ok (.value v) w' := by
      simp only [execOp, Sem.run_bind, hrun, Result.andThen_ok, Sem.run_pure]
    rw [hx]
    exact hK _ _ hR'
  case call c =>
    obtain ⟨callee, args, argTypes⟩ := c
    simp only [acalm] at h
    split at h
    · rename_i f
      obtain ⟨rv, hc, hfl, rfl⟩ := h
      have hac : afterCall s args.toList rv = s := by
        unfold afterCall
        rw [Bool.or_eq_true] at hfl
        cases hf : rv.flat with
        | true => rfl
        | false =>
          rcases hfl with h | h
          · rw [hf] at h; cases h
          · have : lends s args.toList = [] := by simpa using h
            simp only [this]; rfl
      refine acall_ok (P := P) hR hc ⟨argTypes, rfl⟩ hd rfl (fun a' w' hR' => ?_)
      rw [hac] at hR'
      exact hK _ _ hR'
    · exact plain h

theorem acalmG_ok (hR : Rel S0 w0 n s a w) (o : Oper) {d : Nat} {r : AV} {e : Bool} (hdst : o.dst = some d) (hd : S0.m ≤ d ∧ d < n) (h : acalmG P s e o.op r) {K' : Act → World → Prop} {Q : Exit → Act → World → Prop}
    (hK : ∀ a' w', Rel S0 w0 n (Ab.put s d r) a' w' → K' a' w') : if e then o.wp P a w K' Q else K' (a.put o.dst undef) w := by
  refine aguard_ok (P := P) (K := fun s' => s' = Ab.put s d r) hR o (fun d' h' => by rw [hdst] at h'; injection h' with h'; subst h'; exact hd.1) ?_ (fun s' a' w' hR' hs' => by subst hs'; exact hK a' w' hR')
  obtain ⟨dst, op, type, pos, after, guard⟩ := o
  dsimp only at h hdst ⊢
  subst hdst
  cases op <;> try (obtain ⟨h1, h2, rfl⟩ := h; exact ⟨h1, h2, hd.2, rfl⟩)
  case call c =>
    obtain ⟨callee, args, ts⟩ := c
    cases callee with
    | value f =>
      obtain ⟨rv, h1, h2⟩ := callG_exact h
      exact h1 _ ⟨hd.2, by rw [h2]⟩
    | _ =>
      obtain ⟨h1, h2, rfl⟩ := h
      exact ⟨h1, h2, hd.2, rfl⟩

theorem stepD_ok {m : Bool} {ops : Array Oper} {i : Nat} {s' : St} (hdm : ∀ o ∈ ops.toList, ∀ d, o.dst = some d → S0.m ≤ d) (hR : Rel S0 w0 n s a w) (h : stepD P n m ops i s s') {K' : Act → World → Prop} {Q : Exit → Act → World → Prop}
    (hK : ∀ a' w', Rel S0 w0 n s' a' w' → K' a' w') : wpOp P ops Q i K' a w := by
  obtain ⟨o, ho, h⟩ := h
  have hom := hdm o (by have := Array.mem_of_getElem? ho; simpa using this)
  unfold wpOp
  rw [ho]
  simp only
  have calm : calmStep P n ops o s s' → if Region.wanted o (yielded ops a.tmps) then o.wp P a w K' Q ∨ (o.asks P a w ∧ LetsOut Q) else K' (a.put o.dst undef) w := by
    rintro ⟨d, r, hdst, hd, _, rfl, hv⟩
    cases hg : o.guard with
    | none =>
      rw [hg] at hv
      rw [if_pos (by simp [Region.wanted, hg])]
      exact .inl (acalm_ok (P := P) hR o hdst ⟨hom d hdst, hd⟩ hv hK)
    | some g =>
      rw [hg] at hv
      obtain ⟨e, he, hv⟩ := hv
      have hw : Region.wanted o (yielded ops a.tmps) = e := by
        simp only [Region.wanted, hg]
        exact gval_ok hR he
      have := acalmG_ok (P := P) (Q := Q) hR o hdst ⟨hom d hdst, hd⟩ hv hK
      rw [hw]
      cases e with
      | true => exact .inl this
      | false => exact this
  have wr : wStep P n o s s' → if Region.wanted o (yielded ops a.tmps) then o.wp P a w K' Q ∨ (o.asks P a w ∧ LetsOut Q) else K' (a.put o.dst undef) w := by
    intro hw
    have hg : o.guard = none := by obtain ⟨_, _, h, _⟩ := hw; exact h.1
    rw [if_pos (by simp [Region.wanted, hg])]
    exact .inl (wStep_ok hR o hom hw hK)
  split at h
  · split at h
    · exact h.elim calm wr
    · exact calm h.1
  · split at h
    · exact wr h
    · unfold aop at h
      cases hg : o.guard with
      | none =>
        rw [hg] at h
        rw [if_pos (by simp [Region.wanted, hg])]
        exact .inl (astep_ok (P := P) hR o hom h (fun s1 a' w' hR' hs => by subst hs; exact hK a' w' hR'))
      | some g =>
        rw [hg] at h
        simp only at h
        cases he : gval ops s g with
        | none => rw [he] at h; exact h.elim
        | some e =>
          rw [he] at h
          simp only at h
          have hw : Region.wanted o (yielded ops a.tmps) = e := by
            simp only [Region.wanted, hg]
            exact gval_ok hR he
          have := aguard_ok (P := P) (Q := Q) hR o hom h (fun s1 a' w' hR' hs => by subst hs; exact hK a' w' hR')
          rw [hw]
          cases e with
          | true => exact .inl this
          | false => exact this

theorem any_ok {m : Bool} {ops : Array Oper} (hdm : ∀ o ∈ ops.toList, ∀ d, o.dst = some d → S0.m ≤ d) {fin : St → Prop} {Q : Exit → Act → World → Prop} (hQ : ∀ s' a' w', Rel S0 w0 n s' a' w' → fin s' → Q .normal a' w') :
    ∀ (fuel : Nat) (listed : Array Bool) (s : St) (a : Act) (w : World), Rel S0 w0 n s a w → anyA ops (stepD P n m ops) fin fuel listed s → wpAny P .any ops Q fuel listed a w
  | 0, _, s, a, w, hR, h => ⟨h.1, hQ s a w hR h.2⟩
  | fuel + 1, listed, s, a, w, hR, h => ⟨fun h0 => hQ s a w hR (h.1 h0), fun i hi => by
      obtain ⟨s', h1, h2⟩ := h.2 i hi
      exact stepD_ok hdm hR h1 (fun a' w' hR' => any_ok hdm hQ fuel _ s' a' w' hR' h2)⟩

theorem Rel.drawn (hR : Rel S0 w0 n s a w) : Rel S0 w0 n s a { w with drawn := w.drawn + 1 } := by
  have hb : ∀ b : Nat, ({ w with drawn := w.drawn + 1 } : World).heap[b]? = w.heap[b]? := fun _ => rfl
  exact ⟨hR.defers, hR.size, hR.below.drew _, hR.lt, fun i => (hR.rep i).mono (fun b hb => hb) (fun b _ => rfl) (fun b _ => rfl) (fun k _ => ⟨rfl, fun h => ⟨h, rfl, rfl⟩, fun c hc => hc⟩), hR.inj, hR.out, hR.wf, hR.pin⟩

/-- A REGION THAT DRAWS ITS ORDER: walked once, in the order of the text. -/
theorem region_draw_ok {m : Bool} {ops : Array Oper} {id : Nat} {Q : Exit → Act → World → Prop} {K : St → Prop} (hm : P.follows .mixedOrders = true) (hok : drawOk m ops = true) (hdm : ∀ o ∈ ops.toList, ∀ d, o.dst = some d → S0.m ≤ d)
    (hR : Rel S0 w0 n s a w) (h : aopsD P n m ops ops.toList s K) (hQ : ∀ s' a' w', Rel S0 w0 n s' a' w' → K s' → Q .normal a' w') : (Code.region id ops true).wp P Q a w := by
  obtain ⟨s', hch, hk⟩ := chain_of_aopsD ops.toList 0 s hR.wf (fun j => by simp) h
  refine wp_region_any hm (any_ok (m := m) hdm hQ _ _ s a _ hR.drawn ?_)
  have hdr : ∀ i, i < ops.size → ((match ops[i]? with
      | some o => o.after.toList.all fun e => !Region.binds .any e || decide (e.on < i)
      | none => false) = true ∧ ∀ j, j < i → pairOk m ops (Region.before ops) i j = true) := by
    intro i hi
    have := List.all_eq_true.1 hok i (by simp [hi])
    simp only [Bool.and_eq_true, List.all_eq_true, List.mem_range] at this
    exact ⟨this.1, fun j hj => this.2 j hj⟩
  refine chain_any (wf := Wf) (indep := fun j i => ∃ oi oj, ops[i]? = some oi ∧ ops[j]? = some oj ∧ mixB m ops oi oj = true ∧ oj.apart ops oi = true)
    (fun i s s' hw h => stepD_wf hw h) ?_ ?_ ?_ hk ops.size (List.range' 0 ops.toList.length) _ s (by simp) (by simp) ?_ ?_ ?_ hR.wf hch
  · rintro j i s s1 s2 ⟨oi, oj, hoi, hoj, hm, hap⟩ hw h1 h2
    exact mix_comm hoi hoj hm hap hw h1 h2
  · intro i o ho e he hb
    have := (hdr i (Array.getElem?_eq_some_iff.1 ho).1).1
    rw [ho] at this
    have := List.all_eq_true.1 this e (by simpa using he)
    simpa [hb] using this
  · intro j i hji hi
    have := (hdr i hi).2 j hji
    unfold pairOk at this
    rw [Bool.or_eq_true] at this
    rcases this with h | h
    · exact .inl (before_waits ops i j h)
    · split at h
      · rename_i oi oj hoi hoj
        simp only [Bool.and_eq_true] at h
        exact .inr ⟨oi, oj, hoi, hoj, h.1, h.2⟩
      · cases h
  · intro i o ho hl
    have hlt := (Array.getElem?_eq_some_iff.1 ho).1
    simp [hlt] at hl
  · exact List.pairwise_lt_range'
  · intro i
    simp only [List.mem_range'_1, Array.length_toList, Nat.zero_add, Nat.zero_le, true_and]
    constructor
    · intro hi; exact ⟨hi, by simp [hi]⟩
    · intro hi; exact hi.1

end
end Go.Ab
