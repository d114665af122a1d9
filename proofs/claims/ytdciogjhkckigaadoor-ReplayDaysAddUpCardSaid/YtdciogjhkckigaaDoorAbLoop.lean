/-
  Loops: an invariant told slot by slot; results; arithmetic within bounds; a contract met by what says more.
-/
import Derived.Test.YtdciogjhkckigaaDoorAbSimp2
namespace Go.Ab
open Go Go.RowKit


/-- The state that tells these slots, and no other. -/
def mk : List (Nat × AV) → St
  | [] => st0
  | (i, v) :: r => upd (mk r) i v
@[simp] theorem mk_nil : mk [] = st0 := rfl
@[simp] theorem mk_cons (i : Nat) (v : AV) (r : List (Nat × AV)) : mk ((i, v) :: r) = upd (mk r) i v := rfl

/-- Slot by slot: what is told was so. -/
def keepOne (a v : AV) : Prop := match v with
  | .own _ _ [] => a = v ∨ a = .x (.one .nil)
  | v => a = v
def refsIn (s : St) (full : List (Nat × AV)) : AV → Prop
  | .ptr j _ => mk full j = s j
  | .eptr j _ _ => mk full j = s j
  | .alias j => mk full j = s j
  | .cond _ v => refsIn s full v
  | _ => True
def Keeps (s : St) (full : List (Nat × AV)) : List (Nat × AV) → Prop
  | [] => True
  | (i, v) :: r => keepOne (s i) v ∧ refsIn s full v ∧ Keeps s full r

theorem refsIn_of {s : St} {full : List (Nat × AV)} {j : Nat} : ∀ {v : AV}, refsIn s full v → v.refs j = true → mk full j = s j := by
  intro v
  induction v with
  | ptr i o => intro h hr; simp at hr; subst hr; exact h
  | eptr i o k => intro h hr; simp at hr; subst hr; exact h
  | alias i => intro h hr; simp at hr; subst hr; exact h
  | cond e v ih => intro h hr; simp at hr; exact ih h hr
  | _ => intro h hr; cases hr

theorem Keeps.at {s : St} {full : List (Nat × AV)} : ∀ {l : List (Nat × AV)}, Keeps s full l → ∀ i, (mk l i = s i ∨ mk l i = .dead ∨ (s i = .x (.one .nil) ∧ ∃ e size, mk l i = .own e size [])) ∧ ∀ j, (mk l i).refs j = true → mk full j = s j
  | [], _, i => ⟨.inr (.inl rfl), fun j h => by cases h⟩
  | (k, v) :: r, h, i => by
    obtain ⟨h1, h2, h3⟩ := h
    have ih := Keeps.at h3 i
    simp only [mk_cons, upd_at]
    split
    · rename_i hk
      subst hk
      refine ⟨?_, fun j hj => refsIn_of h2 hj⟩
      unfold keepOne at h1
      split at h1
      · rcases h1 with h1 | h1
        · exact .inl h1.symm
        · exact .inr (.inr ⟨h1, _, _, rfl⟩)
      · exact .inl h1.symm
    · exact ih

theorem weak_mk {s : St} {l : List (Nat × AV)} (h : Keeps s l l) : Weak s (mk l) := ⟨fun i => (Keeps.at h i).1, fun i j hj => (Keeps.at h i).2 j hj⟩
attribute [simp] refsIn Keeps
section
variable (a : AV)
@[simp] theorem keepOne_dead : keepOne a .dead = (a = .dead) := rfl
@[simp] theorem keepOne_x (v : XV) : keepOne a (.x v) = (a = .x v) := rfl
@[simp] theorem keepOne_tup (v : List XV) : keepOne a (.tup v) = (a = .tup v) := rfl
@[simp] theorem keepOne_box (v : List CV) : keepOne a (.box v) = (a = .box v) := rfl
@[simp] theorem keepOne_ptr (s o : Nat) : keepOne a (.ptr s o) = (a = .ptr s o) := rfl
@[simp] theorem keepOne_eptr (s i o : Nat) : keepOne a (.eptr s i o) = (a = .eptr s i o) := rfl
@[simp] theorem keepOne_elem (v : List CV) : keepOne a (.elem v) = (a = .elem v) := rfl
@[simp] theorem keepOne_alias (s : Nat) : keepOne a (.alias s) = (a = .alias s) := rfl
@[simp] theorem keepOne_cond (e : Bool) (v : AV) : keepOne a (.cond e v) = (a = .cond e v) := rfl
@[simp] theorem keepOne_own (e z e' z' : Nat) (xs xs' : List (List CV)) : keepOne (.own e z xs) (.own e' z' xs') = (AV.own e z xs = .own e' z' xs') := by
  unfold keepOne
  split
  · rename_i h; injection h with h1 h2 h3; subst h1; subst h2; subst h3; simp
  · rfl
@[simp] theorem keepOne_mp (c : Nat) (bs : List Nat) (es : List (XV × XV)) : keepOne a (.mp c bs es) = (a = .mp c bs es) := rfl
@[simp] theorem keepOne_nil (e z : Nat) (xs : List (List CV)) : keepOne (.x (.one .nil)) (.own e z xs) = (xs = []) := by
  unfold keepOne
  split
  · rename_i h; injection h with h1 h2 h3; subst h3; simp
  · rename_i h
    have : xs ≠ [] := by rintro rfl; exact h _ _ rfl
    simp [this]
end

/-- A round ends where one begins, and has come nearer. -/
def Again {ι : Type} [I : Seal (ι → List (Nat × AV))] [ok : Seal (ι → Prop)] [μ : Seal (ι → Nat)] (m : Nat) (s : St) : Prop := ∃ y, ok.val y ∧ μ.val y < m ∧ Weak s (mk (I.val y))
theorem Again.of {ι : Type} {I : ι → List (Nat × AV)} {ok : ι → Prop} {μ : ι → Nat} {m : Nat} {s : St} (y : ι) (h1 : ok y) (h2 : μ y < m) (h3 : Keeps s (I y) (I y)) : @Again ι ⟨I⟩ ⟨ok⟩ ⟨μ⟩ m s := ⟨y, h1, h2, weak_mk h3⟩
theorem ALoopS.of {body : (Exit → St → Prop) → St → Prop} {Q : Exit → St → Prop} {s : St} (ι : Type) (I : ι → List (Nat × AV)) (ok : ι → Prop) (μ : ι → Nat) (x : ι) (hx : ok x) (hs : Keeps s (I x) (I x))
    (h : ∀ x, ok x → body (thenA (@Again ι ⟨I⟩ ⟨ok⟩ ⟨μ⟩ (μ x)) Q) (mk (I x))) : @ALoopS ⟨body⟩ ⟨Q⟩ s := ⟨ι, fun x => mk (I x), ok, μ, ⟨x, hx, weak_mk hs⟩, h⟩

/-! ### The end -/
def Ret (P : Program) (rs : List ResultVar) (r : RV) (e : Exit) (s : St) : Prop := (e = .normal ∨ e = .ret) ∧ givesW r (resXs P s rs)
@[congr] theorem Ret_congr {P : Program} {rs : List ResultVar} {r : RV} {e : Exit} {s s' : St} (h : s = s') : Ret P rs r e s = Ret P rs r e s' := by rw [h]
@[congr] theorem givesW_congr {r : RV} {q q' : Prop × Option (List XV)} (h : q = q') : givesW r q = givesW r q' := by rw [h]
@[simp] theorem givesW_one (r : RV) (p : Prop) (x : XV) : givesW r (p, some [x]) = (p ∧ okR r (.x x)) := rfl
@[simp] theorem givesW_none (r : RV) (p : Prop) : givesW r (p, some []) = (p ∧ okR r (.tup [])) := rfl
@[simp] theorem givesW_more (r : RV) (p : Prop) (x y : XV) (l : List XV) : givesW r (p, some (x :: y :: l)) = (p ∧ okR r (.tup (x :: y :: l))) := rfl
@[simp] theorem Ret_normal (P : Program) (rs : List ResultVar) (r : RV) (s : St) : Ret P rs r .normal s = givesW r (resXs P s rs) := by
  simp only [Ret, true_or, true_and]
@[simp] theorem Ret_ret (P : Program) (rs : List ResultVar) (r : RV) (s : St) : Ret P rs r .ret s = givesW r (resXs P s rs) := by
  simp only [Ret, or_true, true_and]
theorem ACalls.of {P : Program} {f : FuncId} {fn : Func} {c : Code} {args : List XV} {r : RV} (hm : P.follows .mixedOrders = true) (hf : P.funcs[f]? = some fn) (hname : (fn.name == "runtime.NumGoroutine") = false)
    (hb : fn.body = some c) (hok : codeOk c = true) (hl : args.length ≤ fn.ntmps) (h : (∀ x ∈ args, x.ok) → awp P fn.ntmps c (Ret P fn.results.toList r) (initSt args 0)) : ACalls P f args r := ACalls.mk hm hf hname hb hok hl h

/-! ### A contract met by one that asks less -/
theorem RepX.nil_list {w : World} {S : Nat → Prop} {v : Value} (size : Nat) (h : RepX w S (.one .nil) v) : RepX w S (.one (.list size [])) v := by
  cases h
  exact .list0 none 0 size (by decide) (fun _ => rfl)

def leC (c c' : CV) : Prop := c = c' ∨ (c = .nil ∧ ∃ size, c' = .list size [])
def leL : List CV → List CV → Prop
  | [], [] => True
  | c :: r, c' :: r' => leC c c' ∧ leL r r'
  | _, _ => False
theorem leL.at : ∀ {cs cs' : List CV}, leL cs cs' → cs.length = cs'.length ∧ ∀ (j : Nat) (c' : CV), cs'[j]? = some c' → ∃ c, cs[j]? = some c ∧ leC c c'
  | [], [], _ => ⟨rfl, fun j c' h => by simp at h⟩
  | c :: r, c' :: r', h => by
    obtain ⟨h1, h2⟩ := leL.at h.2
    refine ⟨by simp [h1], fun j d hj => ?_⟩
    cases j with
    | zero => simp at hj; subst hj; exact ⟨c, rfl, h.1⟩
    | succ j => simp at hj; exact h2 j d hj
theorem RepX.le {w : World} {S : Nat → Prop} {v : Value} {cs cs' : List CV} (h : leL cs cs') (hr : RepX w S (.agg cs) v) : RepX w S (.agg cs') v := by
  obtain ⟨us, hv, hl, hx⟩ := hr
  obtain ⟨h1, h2⟩ := leL.at h
  refine ⟨us, hv, by rw [hl, h1], fun j c' hj => ?_⟩
  obtain ⟨c, hc, hle⟩ := h2 j c' hj
  obtain ⟨u, hu, hrep⟩ := hx j c hc
  rcases hle with rfl | ⟨rfl, size, rfl⟩
  · exact ⟨u, hu, hrep⟩
  · exact ⟨u, hu, RepX.nil_list size hrep⟩
theorem ACalls.le1 {P : Program} {f : FuncId} {cs cs' : List CV} {r : RV} (h : leL cs cs') (hc : ACalls P f [.agg cs'] r) : ACalls P f [.agg cs] r := by
  refine ⟨hc.1, fun w S vs hS ha => hc.2 w S vs hS ⟨ha.1, fun j x hj => ?_⟩⟩
  cases j with
  | zero =>
    simp at hj; subst hj
    obtain ⟨u, hu, hr⟩ := ha.2 0 _ rfl
    exact ⟨u, hu, RepX.le h hr⟩
  | succ j => simp at hj
end Go.Ab
