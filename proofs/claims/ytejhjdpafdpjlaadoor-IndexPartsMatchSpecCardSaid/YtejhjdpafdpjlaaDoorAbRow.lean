/-
  From a law's contract over plain data to its row's contract.
-/
import Derived.Test.YtejhjdpafdpjlaaDoorAbPost
import Derived.Test.YtejhjdpafdpjlaaDoorAbKit
import Derived.WalkKit
import Derived.ProofKit
import Derived.OpenShut
import Derived.JoinedCond
namespace Go.Ab
open Go Go.RowKit Go.ChangeShapes Go.WideShapes Go.ChangeAt
set_option linter.unusedSectionVars false
variable [Amb]

/-- A value of this kind. -/
def KT.fitsX : KT → XV → Prop
  | .st ks, .agg cs => KT.fits (.st ks) cs
  | .st _, _ => False
  | k, .one c => k.fits [c]
  | _, _ => False
def fitsXs : List KT → List XV → Prop
  | [], [] => True
  | k :: ks, x :: xs => k.fitsX x ∧ fitsXs ks xs
  | _, _ => False
def haveTs (P : Program) : List KT → List TypeId → Prop
  | [], [] => True
  | k :: ks, t :: ts => k.has P t ∧ haveTs P ks ts
  | _, _ => False

section
variable {H : Type} {enc : TypeId × Value → H} {P : Program} {W : World}

theorem cell_is {v u : Value} (h : v.cells.toList = [u]) (hn : ∀ cs, v ≠ .agg cs) : v = u := by
  cases v <;> first | (exact absurd rfl (hn _)) | (simpa [Value.cells] using h)

theorem arg_read (k : KT) (t : TypeId) {v : Value} {d : DataW H} {p : List MemPlace} {base : Nat} {sp : Nat → Bool} {held : Bool} (hk : k.has P t) (hok : ∃ b, Value.okWide P W .any b t v) (h : DataW.Trod enc P W base sp held t v d p) :
    ∃ x : XV, RepX W (fun b => b < W.heap.size) x v ∧ k.fitsX x := by
  obtain ⟨fuel, hf⟩ := h
  obtain ⟨b0, hok⟩ := hok
  obtain ⟨cvs, hrep, hfit, hlen⟩ := KT.read k t fuel _ _ hk hf
  unfold Value.okWide at hok
  have one : ∀ c, cvs = [c] → (∀ cs, v ≠ .agg cs) → RepX W (fun b => b < W.heap.size) (.one c) v := by
    intro c hc hn
    subst hc
    obtain ⟨h1, h2⟩ := hrep
    obtain ⟨u, hu⟩ : ∃ u, v.cells.toList = [u] := List.length_eq_one_iff.1 h1
    obtain rfl := cell_is hu hn
    obtain ⟨u', hu', hr⟩ := h2 0 c rfl
    rw [hu] at hu'
    simp at hu'
    rw [← hu'] at hr
    exact hr
  cases k with
  | b =>
    have ht : P.underlying t = some .bool := hk
    obtain ⟨x, rfl⟩ := hfit
    refine ⟨.one (.bool x), one _ rfl (fun cs e => ?_), ⟨x, rfl⟩⟩
    subst e
    rw [ht] at hok
    simp [Cell.okWide, Cell.ok, ht] at hok
  | i q =>
    have ht : P.underlying t = some (.int q) := hk
    obtain ⟨x, rfl, hw⟩ := hfit
    refine ⟨.one (.int q x), one _ rfl (fun cs e => ?_), ⟨x, rfl, hw⟩⟩
    subst e
    rw [ht] at hok
    simp [Cell.okWide, Cell.ok, ht] at hok
  | s =>
    have ht : P.underlying t = some .string := hk
    obtain ⟨x, rfl, hw⟩ := hfit
    refine ⟨.one (.str x), one _ rfl (fun cs e => ?_), ⟨x, rfl, hw⟩⟩
    subst e
    rw [ht] at hok
    simp [Cell.okWide, Cell.ok, ht] at hok
  | sl size e =>
    obtain ⟨te, ht, _⟩ := hk
    obtain ⟨x, rfl, hw⟩ := hfit
    refine ⟨.one (.list size x), one _ rfl (fun cs e => ?_), ⟨x, rfl, hw⟩⟩
    subst e
    rw [ht] at hok
    simp [Cell.okWide, Cell.ok, ht] at hok
  | st ks =>
    obtain ⟨fs, ht, _⟩ := hk
    rw [ht] at hok
    obtain ⟨cs, rfl, _⟩ := hok
    exact ⟨.agg cvs, ⟨cs, rfl, hrep⟩, hfit⟩

theorem args_read : ∀ (ks : List KT) (ts : List TypeId) (vs : List Value) (ds : List (DataW H)) (p : List MemPlace) {base : Nat} {sp : Nat → Bool} {held : Bool}, haveTs P ks ts →
    (∀ (j : Nat) t v, ts[j]? = some t → vs[j]? = some v → ∃ b, Value.okWide P W .any b t v) → DataW.TrodAll enc P W base sp held ts vs ds p →
    ∃ xs : List XV, RepArgs W (fun b => b < W.heap.size) xs vs.toArray ∧ fitsXs ks xs
  | [], ts, vs, ds, p, _, _, _, hk, _, h => by
    cases ts with
    | nil =>
      obtain ⟨rfl, _, _⟩ := trodAll_nil h
      exact ⟨[], ⟨rfl, fun j x hj => by simp at hj⟩, trivial⟩
    | cons t ts => exact hk.elim
  | k :: ks, ts, vs, ds, p, _, _, _, hk, hok, h => by
    cases ts with
    | nil => exact hk.elim
    | cons t ts =>
      obtain ⟨v, vs', d, ds', p', q', rfl, rfl, rfl, h0, hr⟩ := trodAll_cons h
      obtain ⟨x, h1, h2⟩ := arg_read k t hk.1 (hok 0 t v rfl rfl) h0
      obtain ⟨xs, h3, h4⟩ := args_read ks ts vs' ds' q' hk.2 (fun j t v ht hv => hok (j + 1) t v (by simpa using ht) (by simpa using hv)) hr
      refine ⟨x :: xs, ⟨by have := h3.1; simp at this ⊢; exact this, fun j y hj => ?_⟩, h2, h4⟩
      cases j with
      | zero => simp at hj; subst hj; exact ⟨v, by simp, h1⟩
      | succ j =>
        simp at hj
        obtain ⟨u, hu, hr'⟩ := h3.2 j y hj
        exact ⟨u, by simpa using hu, hr'⟩

/-- What came in reads as before. -/
theorem args_stay {W' : World} (hl : laidOutB P = true) : ∀ (ts : List TypeId) (vs : List Value) (ds : List (DataW H)) (p : List MemPlace) {base : Nat} {sp' : Nat → Bool}, (∀ t ∈ ts, P.readableRec t = true ∧ t < P.types.size) →
    DataW.TrodAll enc P W base (fun _ => true) true ts vs ds p → (∀ x ∈ p, W.sameAt W' x) → (∀ x ∈ p, sp' x.block = true) → DataW.TrodAll enc P W' base sp' true ts vs ds p
  | [], vs, ds, p, _, _, _, h, _, _ => by
    obtain ⟨rfl, rfl, rfl⟩ := trodAll_nil h
    exact trodAll_mk0
  | t :: ts, vs, ds, p, _, _, ht, h, hs, hp => by
    obtain ⟨v, vs', d, ds', p', q', rfl, rfl, rfl, h0, hr⟩ := trodAll_cons h
    exact trodAll_cons_mk (WideElems.Trod_stays hl (ht t (by simp)).1 (ht t (by simp)).2 h0 (fun x hx => hs x (by simp [hx])) (fun x hx => hp x (by simp [hx])))
      (args_stay hl ts vs' ds' q' (fun t h => ht t (by simp [h])) hr (fun x hx => hs x (by simp [hx])) (fun x hx => hp x (by simp [hx])))
end

/-- A LAW'S CONTRACT, ROW FOR ROW. -/
theorem law_contract {H : Type} {enc : TypeId × Value → H} {P : Program} {f : FuncId} {fn : Func} {s : ChangeSpec} {W : World} {args : Array Value} {ds gs : List (DataW H)} {before : List MemPlace} {tb : TypeId} {fresh handsOn again : Bool}
    (ks : List KT) (hks : haveTs P ks fn.params.toList) (law : ∀ xs, fitsXs ks xs → ACalls P f xs (.x (.one (.bool true))))
    (hl : laidOutB P = true) (hts : ∀ t ∈ fn.params.toList, P.readableRec t = true ∧ t < P.types.size) (hb : P.underlying tb = some .bool) (hres : fn.resultTypes = #[tb]) (hvars : s.vars = [])
    (hsp : ∀ ds : List (DataW H), ds.length = ks.length → s.fn H ds = { results := [.lit (.bool true)], args := ds })
    (hval : ∃ base, ∀ (j : Nat) t v, fn.params[j]? = some t → args[j]? = some v → Value.okWide P W .any base t v)
    (hW : DataW.Whole enc P fn.params.toList s.vars false W args.toList ds gs before) (hamb : Amb.holds W) :
    Calls P f args W fun e W' => ∃ v, e = .returned v ∧ s.post enc P fn false fresh handsOn again W args v W' := by
  have hW' := hW
  obtain ⟨p, q, hA0, hV, rfl, hfz, hnd⟩ := hW
  have hA : DataW.TrodAll enc P W 0 (fun _ => true) true fn.params.toList args.toList ds p := hA0
  rw [hvars] at hV
  obtain ⟨rfl, rfl⟩ := trodVars_none hV
  obtain ⟨base, hval⟩ := hval
  obtain ⟨xs, hrep, hfit⟩ := args_read ks _ _ _ _ hks (fun j t v ht hv => ⟨base, hval j t v (by simpa using ht) (by simpa using hv)⟩) hA
  have hlen : ds.length = ks.length := by
    have l1 : ∀ (ts : List TypeId) (vs : List Value) (ds : List (DataW H)) (p : List MemPlace), DataW.TrodAll enc P W 0 (fun _ => true) true ts vs ds p → ds.length = ts.length := by
      intro ts
      induction ts with
      | nil => intro vs ds p h; obtain ⟨_, rfl, _⟩ := trodAll_nil h; rfl
      | cons t ts ih =>
        intro vs ds p h
        obtain ⟨v, vs', d, ds', p', q', _, rfl, _, _, hr⟩ := trodAll_cons h
        simp [ih _ _ _ hr]
    have l2 : ∀ (ks : List KT) (ts : List TypeId), haveTs P ks ts → ks.length = ts.length := by
      intro ks
      induction ks with
      | nil => intro ts h; cases ts with | nil => rfl | cons t ts => exact h.elim
      | cons k ks ih => intro ts h; cases ts with | nil => exact h.elim | cons t ts => simp [ih ts h.2]
    rw [l1 _ _ _ _ hA, l2 _ _ hks]
  have hc := (law xs hfit).2 W (fun b => b < W.heap.size) args ⟨fun b hb => hb, fun _ h => h.elim, fun _ _ h => h.elim, hamb, fun _ _ h => h.elim⟩ (by simpa using hrep)
  clear hA0
  refine hc.mono fun e W' ⟨u, he, hg, hr, _⟩ => ?_
  subst he
  obtain rfl : u = .bool true := by cases hr; rfl
  have hlt : ∀ x ∈ p, x.block < W.heap.size := fun x hx => by simpa using hW'.lt x (by simpa using hx)
  have hfn : s.fn H (ds ++ []) = { results := [.lit (.bool true)], args := ds } := by rw [List.append_nil]; exact hsp ds hlen
  refine ⟨_, rfl, post_calm (pa := p) (pv := []) hW' hg ?_ ?_ ?_ (by simp) ?_⟩
  · intro _ _ _
    rw [hres, hfn]
    exact trodAll_cons_mk (shut_bool hb _) trodAll_mk0
  · intro sp hsp
    rw [hfn]
    exact args_stay hl _ _ _ _ hts hA (fun x hx => hg.same (hlt x hx)) (fun x hx => hsp x (by simpa using hx))
  · intro _ _
    rw [hfn, hvars]
    rfl
  · exact ok_one hres rfl (okWide_bool_mk hb _)
end Go.Ab
