/-
  Loops: an invariant told slot by slot; results; arithmetic within bounds; a contract met by what says more.
-/
import Derived.Test.YtejhjdpafdpjlaaDoorAbSimp2
namespace Go.Ab
open Go Go.RowKit
set_option linter.unusedSectionVars false
variable [Amb]


/-- The state that tells these slots, and no other. -/
def mk : List (Nat × AV) → St
  | [] => st0
  | (i, v) :: r => upd (mk r) i v
@[simp] theorem mk_nil : mk [] = st0 := rfl
@[simp] theorem mk_cons (i : Nat) (v : AV) (r : List (Nat × AV)) : mk ((i, v) :: r) = upd (mk r) i v := rfl

/-- Slot by slot: what is told was so. -/
def keepOne (a v : AV) : Prop := match v with
  | .own _ _ [] => a = v ∨ a = .x (.one .nil)
  | v => a = v
def refsC (s : St) (full : List (Nat × AV)) : List (CV ⊕ (Nat × Nat)) → Prop
  | [] => True
  | .inl _ :: r => refsC s full r
  | .inr p :: r => mk full p.1 = s p.1 ∧ refsC s full r
def refsIn (s : St) (full : List (Nat × AV)) : AV → Prop
  | .ptr j _ => mk full j = s j
  | .eptr j _ _ => mk full j = s j
  | .alias j => mk full j = s j
  | .view j _ _ _ => mk full j = s j
  | .cloR _ caps => refsC s full caps
  | .cond _ v => refsIn s full v
  | _ => True
def Keeps (s : St) (full : List (Nat × AV)) : List (Nat × AV) → Prop
  | [] => True
  | (i, v) :: r => keepOne (s i) v ∧ refsIn s full v ∧ Keeps s full r

theorem refsC_of {s : St} {full : List (Nat × AV)} {j : Nat} : ∀ {caps : List (CV ⊕ (Nat × Nat))}, refsC s full caps → caps.any (capRef j) = true → mk full j = s j
  | .inl _ :: r, h, hr => refsC_of (caps := r) h (by simpa using hr)
  | .inr p :: r, h, hr => by
    simp only [List.any_cons, capRef_inr, Bool.or_eq_true, beq_iff_eq] at hr
    rcases hr with hr | hr
    · subst hr; exact h.1
    · exact refsC_of (caps := r) h.2 hr

theorem refsIn_of {s : St} {full : List (Nat × AV)} {j : Nat} : ∀ {v : AV}, refsIn s full v → v.refs j = true → mk full j = s j := by
  intro v
  induction v with
  | ptr i o => intro h hr; simp at hr; subst hr; exact h
  | eptr i o k => intro h hr; simp at hr; subst hr; exact h
  | alias i => intro h hr; simp at hr; subst hr; exact h
  | view i lo len wh => intro h hr; simp at hr; subst hr; exact h
  | cloR f caps => intro h hr; exact refsC_of h hr
  | cond e v ih => intro h hr; simp at hr; exact ih h hr
  | _ => intro h hr; cases hr

theorem Keeps.at {s : St} {full : List (Nat × AV)} : ∀ {l : List (Nat × AV)}, Keeps s full l → ∀ i, (mk l i = s i ∨ mk l i = .dead ∨ (s i = .x (.one .nil) ∧ ∃ e size, mk l i = .own e size [])) ∧ ∀ j, (mk l i).refs j = true → mk full j = s j
  | [], _, i => ⟨.inr (.inl rfl), fun j h => by cases h⟩
  | (k, v) :: r, h, i => by
    obtain ⟨h1, h2, h3⟩ := h
    have ih := Keeps.at h3 i
    simp only [mk_cons, upd_at]
    split
    · rename_i hk
      subst hk
      refine ⟨?_, fun j hj => refsIn_of h2 hj⟩
      unfold keepOne at h1
      split at h1
      · rcases h1 with h1 | h1
        · exact .inl h1.symm
        · exact .inr (.inr ⟨h1, _, _, rfl⟩)
      · exact .inl h1.symm
    · exact ih

theorem weak_mk {s : St} {l : List (Nat × AV)} (h : Keeps s l l) : Weak s (mk l) := ⟨fun i => (Keeps.at h i).1, fun i j hj => (Keeps.at h i).2 j hj⟩
attribute [simp] refsIn Keeps refsC
section
variable (a : AV)
@[simp] theorem keepOne_dead : keepOne a .dead = (a = .dead) := rfl
@[simp] theorem keepOne_x (v : XV) : keepOne a (.x v) = (a = .x v) := rfl
@[simp] theorem keepOne_tup (v : List XV) : keepOne a (.tup v) = (a = .tup v) := rfl
@[simp] theorem keepOne_box (v : List CV) : keepOne a (.box v) = (a = .box v) := rfl
@[simp] theorem keepOne_ptr (s o : Nat) : keepOne a (.ptr s o) = (a = .ptr s o) := rfl
@[simp] theorem keepOne_eptr (s i o : Nat) : keepOne a (.eptr s i o) = (a = .eptr s i o) := rfl
@[simp] theorem keepOne_elem (v : List CV) : keepOne a (.elem v) = (a = .elem v) := rfl
@[simp] theorem keepOne_alias (s : Nat) : keepOne a (.alias s) = (a = .alias s) := rfl
@[simp] theorem keepOne_view (s lo len : Nat) (wh : Bool) : keepOne a (.view s lo len wh) = (a = .view s lo len wh) := rfl
@[simp] theorem keepOne_cloR (f : FuncId) (caps : List (CV ⊕ (Nat × Nat))) : keepOne a (.cloR f caps) = (a = .cloR f caps) := rfl
@[simp] theorem keepOne_cond (e : Bool) (v : AV) : keepOne a (.cond e v) = (a = .cond e v) := rfl
@[simp] theorem keepOne_own (e z e' z' : Nat) (xs xs' : List (List CV)) : keepOne (.own e z xs) (.own e' z' xs') = (AV.own e z xs = .own e' z' xs') := by
  unfold keepOne
  split
  · rename_i h; injection h with h1 h2 h3; subst h1; subst h2; subst h3; simp
  · rfl
@[simp] theorem keepOne_mp (c : Nat) (bs : List Nat) (es : List (XV × XV)) : keepOne a (.mp c bs es) = (a = .mp c bs es) := rfl
@[simp] theorem keepOne_nil (e z : Nat) (xs : List (List CV)) : keepOne (.x (.one .nil)) (.own e z xs) = (xs = []) := by
  unfold keepOne
  split
  · rename_i h; injection h with h1 h2 h3; subst h3; simp
  · rename_i h
    have : xs ≠ [] := by rintro rfl; exact h _ _ rfl
    simp [this]
end

/-- A round ends where one begins, and has come nearer. -/
def Again {ι : Type} [I : Seal (ι → List (Nat × AV))] [ok : Seal (ι → Prop)] [μ : Seal (ι → Nat)] (m : Nat) (s : St) : Prop := ∃ y, ok.val y ∧ μ.val y < m ∧ Weak s (mk (I.val y))
theorem Again.of {ι : Type} {I : ι → List (Nat × AV)} {ok : ι → Prop} {μ : ι → Nat} {m : Nat} {s : St} (y : ι) (h1 : ok y) (h2 : μ y < m) (h3 : Keeps s (I y) (I y)) : @Again ι ⟨I⟩ ⟨ok⟩ ⟨μ⟩ m s := ⟨y, h1, h2, weak_mk h3⟩
theorem ALoopS.of {body : (Exit → St → Prop) → St → Prop} {Q : Exit → St → Prop} {s : St} (ι : Type) (I : ι → List (Nat × AV)) (ok : ι → Prop) (μ : ι → Nat) (x : ι) (hx : ok x) (hs : Keeps s (I x) (I x))
    (h : ∀ x, ok x → body (thenA (@Again ι ⟨I⟩ ⟨ok⟩ ⟨μ⟩ (μ x)) Q) (mk (I x))) : @ALoopS ⟨body⟩ ⟨Q⟩ s := ⟨ι, fun x => mk (I x), ok, μ, ⟨x, hx, weak_mk hs⟩, h⟩

/-! ### The end -/
def Ret (P : Program) (rs : List ResultVar) (r : RV) (e : Exit) (s : St) : Prop := (e = .normal ∨ e = .ret) ∧ giveR P s rs [] r
@[congr] theorem Ret_congr {P : Program} {rs : List ResultVar} {r : RV} {e : Exit} {s s' : St} (h : s = s') : Ret P rs r e s = Ret P rs r e s' := by rw [h]
@[congr] theorem givesW_congr {r : RV} {q q' : Prop × Option (List XV)} (h : q = q') : givesW r q = givesW r q' := by rw [h]
@[simp] theorem givesW_one (r : RV) (p : Prop) (x : XV) : givesW r (p, some [x]) = (p ∧ okR r (.x x)) := rfl
@[simp] theorem givesW_none (r : RV) (p : Prop) : givesW r (p, some []) = (p ∧ okR r (.tup [])) := rfl
@[simp] theorem givesW_more (r : RV) (p : Prop) (x y : XV) (l : List XV) : givesW r (p, some (x :: y :: l)) = (p ∧ okR r (.tup (x :: y :: l))) := rfl
@[simp] theorem Ret_normal (P : Program) (rs : List ResultVar) (r : RV) (s : St) : Ret P rs r .normal s = giveR P s rs [] r := by
  simp only [Ret, true_or, true_and]
@[simp] theorem Ret_ret (P : Program) (rs : List ResultVar) (r : RV) (s : St) : Ret P rs r .ret s = giveR P s rs [] r := by
  simp only [Ret, or_true, true_and]
section
variable (P : Program) (s : St) (outs : List AV) (e z : Nat) (xs : List (List CV))
@[simp] theorem giveR_x (rs : List ResultVar) (v : XV) : giveR P s rs outs (.x v) = givesW (.x v) (resXs P s rs) := rfl
@[simp] theorem giveR_tup (rs : List ResultVar) (v : List XV) : giveR P s rs outs (.tup v) = givesW (.tup v) (resXs P s rs) := rfl
@[simp] theorem giveR_own (t : Nat) : giveR P s [.tmp t] outs (.own e z xs) = ownV s outs e z xs t (s t) := rfl
@[congr] theorem ownV_congr {s : St} {outs : List AV} {e z : Nat} {xs : List (List CV)} {t : Nat} {v v' : AV} (h : v = v') : ownV s outs e z xs t v = ownV s outs e z xs t v' := by rw [h]
@[simp] theorem ownV_own (t e' z' : Nat) (ys : List (List CV)) : ownV s outs e z xs t (.own e' z' ys) = (e' = e ∧ z' = z ∧ xs = ys ∧ outDead outs t) := rfl
@[simp] theorem ownV_alias (t i : Nat) : ownV s outs e z xs t (.alias i) = ownAt outs e z xs i none (s i) := rfl
@[simp] theorem ownV_view (t i lo len : Nat) : ownV s outs e z xs t (.view i lo len true) = ownAt outs e z xs i (some len) (s i) := rfl
@[simp] theorem ownV_nil (t : Nat) : ownV s outs e z xs t (.x (.one .nil)) = (xs = []) := rfl
@[congr] theorem ownAt_congr {outs : List AV} {e z : Nat} {xs : List (List CV)} {i : Nat} {len : Option Nat} {v v' : AV} (h : v = v') : ownAt outs e z xs i len v = ownAt outs e z xs i len v' := by rw [h]
@[simp] theorem ownAt_none (i e' z' : Nat) (ys : List (List CV)) : ownAt outs e z xs i none (.own e' z' ys) = (e' = e ∧ z' = z ∧ xs = ys ∧ outDead outs i) := rfl
@[simp] theorem ownAt_some (i e' z' k : Nat) (ys : List (List CV)) : ownAt outs e z xs i (some k) (.own e' z' ys) = (e' = e ∧ z' = z ∧ xs = ys.take k ∧ outDead outs i) := rfl
@[simp] theorem outDead_nil (i : Nat) : outDead [] i = True := by simp only [outDead]
@[simp] theorem outDead_zero (o : AV) (r : List AV) : outDead (o :: r) 0 = (o = .dead) := rfl
@[simp] theorem outDead_succ (o : AV) (r : List AV) (i : Nat) : outDead (o :: r) (i + 1) = outDead r i := rfl
end
def outOne (o a : AV) : Prop := match o with
  | .dead => True
  | o => a = o
def RetM (P : Program) (rs : List ResultVar) (r : RV) (outs : List AV) (e : Exit) (s : St) : Prop := (e = .normal ∨ e = .ret) ∧ giveR P s rs outs r ∧ outsIn (endSt s rs r) 0 outs
@[congr] theorem RetM_congr {P : Program} {rs : List ResultVar} {r : RV} {outs : List AV} {e : Exit} {s s' : St} (h : s = s') : RetM P rs r outs e s = RetM P rs r outs e s' := by rw [h]
@[simp] theorem RetM_normal (P : Program) (rs : List ResultVar) (r : RV) (outs : List AV) (s : St) : RetM P rs r outs .normal s = (giveR P s rs outs r ∧ outsIn (endSt s rs r) 0 outs) := by
  simp only [RetM, true_or, true_and]
@[simp] theorem RetM_ret (P : Program) (rs : List ResultVar) (r : RV) (outs : List AV) (s : St) : RetM P rs r outs .ret s = (giveR P s rs outs r ∧ outsIn (endSt s rs r) 0 outs) := by
  simp only [RetM, or_true, true_and]
@[congr] theorem outsIn_congr {s s' : St} {k : Nat} {outs : List AV} (h : s = s') : outsIn s k outs = outsIn s' k outs := by rw [h]
@[simp] theorem endSt_x (s : St) (rs : List ResultVar) (v : XV) : endSt s rs (.x v) = freezeL s (lends s (rs.map resOp)) := rfl
@[simp] theorem endSt_tup (s : St) (rs : List ResultVar) (v : List XV) : endSt s rs (.tup v) = freezeL s (lends s (rs.map resOp)) := rfl
@[simp] theorem endSt_own (s : St) (rs : List ResultVar) (e z : Nat) (xs : List (List CV)) : endSt s rs (.own e z xs) = s := rfl
@[simp] theorem resOp_tmp (t : Nat) : resOp (.tmp t) = .tmp t := rfl
@[simp] theorem resOp_cell (t : Nat) (ty : TypeId) : resOp (.cell t ty) = .const (.bool true) := rfl
@[simp] theorem outsIn_nil (s : St) (k : Nat) : outsIn s k [] = True := rfl
@[simp] theorem outsIn_dead' (s : St) (k : Nat) (r : List AV) : outsIn s k (.dead :: r) = outsIn s (k + 1) r := by simp only [outsIn, true_and]
@[simp] theorem outsIn_box (s : St) (k : Nat) (cs : List CV) (r : List AV) : outsIn s k (.box cs :: r) = (s k = .box cs ∧ outsIn s (k + 1) r) := rfl
@[simp] theorem outsIn_own (s : St) (k e z : Nat) (xs : List (List CV)) (r : List AV) : outsIn s k (.own e z xs :: r) = (s k = .own e z xs ∧ outsIn s (k + 1) r) := rfl
@[simp] theorem outsIn_mp (s : St) (k c : Nat) (bs : List Nat) (es : List (XV × XV)) (r : List AV) : outsIn s k (.mp c bs es :: r) = (s k = .mp c bs es ∧ outsIn s (k + 1) r) := rfl
@[simp] theorem outsIn_x (s : St) (k : Nat) (v : XV) (r : List AV) : outsIn s k (.x v :: r) = (s k = .x v ∧ outsIn s (k + 1) r) := rfl
@[simp] theorem initM_nil (k : Nat) : initM [] k = st0 := rfl
@[simp] theorem initM_cons (x : AV) (r : List AV) (k : Nat) : initM (x :: r) k = upd (initM r (k + 1)) k x := rfl
theorem ACalls.of {P : Program} {f : FuncId} {fn : Func} {c : Code} {args : List XV} {r : RV} (hm : P.follows .mixedOrders = true) (hf : P.funcs[f]? = some fn) (hname : (fn.name == "runtime.NumGoroutine") = false)
    (hb : fn.body = some c) (hok : codeOk c = true) (hl : args.length ≤ fn.ntmps) (h : (∀ x ∈ args, x.ok) → awp P fn.ntmps c (Ret P fn.results.toList r) (initSt args 0)) : ACalls P f args r := ACalls.mk hm hf hname hb hok hl h
theorem ACallsM.of {P : Program} {f : FuncId} {fn : Func} {c : Code} {args : List AV} {r : RV} {outs : List AV} (hm : P.follows .mixedOrders = true) (hf : P.funcs[f]? = some fn) (hname : (fn.name == "runtime.NumGoroutine") = false)
    (hb : fn.body = some c) (hok : codeOk c = true) (hod : codeDst (liveLen outs) c = true) (hfit : outsFit args outs = true) (hl : args.length ≤ fn.ntmps) (h : (∀ x ∈ args, x.ok) → awp P fn.ntmps c (RetM P fn.results.toList r outs) (initM args 0)) : ACallsM P f args r outs :=
  ACallsM.mk hm hf hname hb hok hod hl hfit (fun _ _ h => h) h

/-! ### A contract met by one that asks less -/
theorem RepX.nil_list {w : World} {S : Nat → Prop} {v : Value} (size : Nat) (h : RepX w S (.one .nil) v) : RepX w S (.one (.list size [])) v := by
  cases h
  exact .list0 none 0 size (by decide) (fun _ => rfl)

def leC (c c' : CV) : Prop := c = c' ∨ (c = .nil ∧ ∃ size, c' = .list size [])
def leL : List CV → List CV → Prop
  | [], [] => True
  | c :: r, c' :: r' => leC c c' ∧ leL r r'
  | _, _ => False
theorem leL.at : ∀ {cs cs' : List CV}, leL cs cs' → cs.length = cs'.length ∧ ∀ (j : Nat) (c' : CV), cs'[j]? = some c' → ∃ c, cs[j]? = some c ∧ leC c c'
  | [], [], _ => ⟨rfl, fun j c' h => by simp at h⟩
  | c :: r, c' :: r', h => by
    obtain ⟨h1, h2⟩ := leL.at h.2
    refine ⟨by simp [h1], fun j d hj => ?_⟩
    cases j with
    | zero => simp at hj; subst hj; exact ⟨c, rfl, h.1⟩
    | succ j => simp at hj; exact h2 j d hj
theorem RepX.le {w : World} {S : Nat → Prop} {v : Value} {cs cs' : List CV} (h : leL cs cs') (hr : RepX w S (.agg cs) v) : RepX w S (.agg cs') v := by
  obtain ⟨us, hv, hl, hx⟩ := hr
  obtain ⟨h1, h2⟩ := leL.at h
  refine ⟨us, hv, by rw [hl, h1], fun j c' hj => ?_⟩
  obtain ⟨c, hc, hle⟩ := h2 j c' hj
  obtain ⟨u, hu, hrep⟩ := hx j c hc
  rcases hle with rfl | ⟨rfl, size, rfl⟩
  · exact ⟨u, hu, hrep⟩
  · exact ⟨u, hu, RepX.nil_list size hrep⟩
theorem ACalls.le1 {P : Program} {f : FuncId} {cs cs' : List CV} {r : RV} (h : leL cs cs') (hc : ACalls P f [.agg cs'] r) : ACalls P f [.agg cs] r := by
  refine ⟨hc.1, fun w S vs hS ha => hc.2 w S vs hS ⟨ha.1, fun j x hj => ?_⟩⟩
  cases j with
  | zero =>
    simp at hj; subst hj
    obtain ⟨u, hu, hr⟩ := ha.2 0 _ rfl
    exact ⟨u, hu, RepX.le h hr⟩
  | succ j => simp at hj
end Go.Ab
