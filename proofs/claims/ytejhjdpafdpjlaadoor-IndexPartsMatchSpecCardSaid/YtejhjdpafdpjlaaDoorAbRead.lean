/-
  A reading of cells, told as plain data.
-/
import Derived.Test.YtejhjdpafdpjlaaDoorAbLoop
import Derived.ChangeArms
import Derived.Deep.Slices
namespace Go.Ab
open Go Go.RowKit
set_option linter.unusedSectionVars false
variable [Amb]

/-- A list out of what is there at each place. -/
theorem list_of {α : Type} : ∀ {n : Nat} {p : Nat → α → Prop}, (∀ i, i < n → ∃ x, p i x) → ∃ l : List α, l.length = n ∧ ∀ i x, l[i]? = some x → p i x
  | 0, p, _ => ⟨[], rfl, fun i x h => by simp at h⟩
  | n + 1, p, h => by
    obtain ⟨x, hx⟩ := h 0 (by omega)
    obtain ⟨l, hl, hp⟩ := list_of (n := n) (p := fun i => p (i + 1)) (fun i hi => h (i + 1) (by omega))
    refine ⟨x :: l, by simp [hl], fun i y hy => ?_⟩
    cases i with
    | zero => simp at hy; subst hy; exact hx
    | succ i => simp at hy; exact hp i y hy

inductive KT where
  | b
  | i (k : IntKind)
  | s
  | sl (size : Nat) (e : KT)
  | st (fs : List KT)

mutual
def KT.size : KT → Nat
  | .st fs => KT.sizes fs
  | _ => 1
def KT.sizes : List KT → Nat
  | [] => 0
  | k :: r => k.size + KT.sizes r
end

/-- The type is of this kind. -/
def KT.has (P : Program) : KT → TypeId → Prop
  | .b, t => P.underlying t = some .bool
  | .i k, t => P.underlying t = some (.int k)
  | .s, t => P.underlying t = some .string
  | .sl size e, t => ∃ te, P.underlying t = some (.slice te) ∧ P.cellsOf te = size ∧ e.size = size ∧ 0 < size ∧ KT.has P e te
  | .st ks, t => ∃ fs : Array Field, P.underlying t = some (.struct fs) ∧ P.cellsOf t = KT.sizes ks ∧ hasAll fs.toList 0 ks
where hasAll : List Field → Nat → List KT → Prop
  | [], _, [] => True
  | f :: fs, off, k :: ks => f.offset = off ∧ P.cellsOf f.type = k.size ∧ KT.has P k f.type ∧ hasAll fs (off + k.size) ks
  | _, _, _ => False

/-- The cells are of this kind. -/
def KT.fits : KT → List CV → Prop
  | .b, cs => ∃ x, cs = [.bool x]
  | .i k, cs => ∃ n, cs = [.int k n] ∧ (Lit.int k n).wf = true
  | .s, cs => ∃ l, cs = [.str l] ∧ l.length ≤ maxLen
  | .sl size e, cs => ∃ xs, cs = [.list size xs] ∧ ∀ x ∈ xs, e.fits x
  | .st ks, cs => fitsAll ks cs
where fitsAll : List KT → List CV → Prop
  | [], cs => cs = []
  | k :: ks, cs => ∃ a b, cs = a ++ b ∧ k.fits a ∧ fitsAll ks b

theorem flatten_div {α : Type} {size : Nat} (h0 : 0 < size) : ∀ {xs : List (List α)} (_ : ∀ x ∈ xs, x.length = size) (j : Nat), xs.flatten[j]? = (xs[j / size]?).bind (·[j % size]?)
  | [], _, j => by simp
  | x :: r, h, j => by
    have hx : x.length = size := h x (by simp)
    simp only [List.flatten_cons]
    by_cases hj : j < size
    · rw [List.getElem?_append_left (by omega), Nat.div_eq_of_lt hj, Nat.mod_eq_of_lt hj]
      rfl
    · obtain ⟨k, rfl⟩ : ∃ k, j = k + size := ⟨j - size, by omega⟩
      rw [List.getElem?_append_right (by omega), hx, Nat.add_sub_cancel, flatten_div h0 (fun y hy => h y (by simp [hy])) k, Nat.add_div_right k h0, Nat.add_mod_right]
      rfl

theorem RepL.append {w : World} {S : Nat → Prop} {a b : List CV} {us vs : List Value} (h1 : RepL w S a us) (h2 : RepL w S b vs) : RepL w S (a ++ b) (us ++ vs) := by
  refine ⟨by simp [h1.1, h2.1], fun j c hj => ?_⟩
  by_cases hl : j < a.length
  · rw [List.getElem?_append_left hl] at hj
    rw [List.getElem?_append_left (by rw [h1.1]; exact hl)]
    exact h1.2 j c hj
  · rw [List.getElem?_append_right (by omega)] at hj
    rw [List.getElem?_append_right (by rw [h1.1]; omega), h1.1]
    exact h2.2 _ c hj

theorem RepL.one {w : World} {S : Nat → Prop} {c : CV} {v : Value} (h : RepC w S c v) : RepL w S [c] [v] := by
  refine ⟨rfl, fun j d hj => ?_⟩
  cases j with
  | zero => simp at hj; subst hj; exact ⟨v, rfl, h⟩
  | succ j => simp at hj

section
variable {H : Type} {enc : TypeId × Value → H} {P : Program} {w : World} {base : Nat} {spare : Nat → Bool} {held : Bool}
mutual
theorem KT.read : (k : KT) → ∀ (t : TypeId) (fuel : Nat) (cs : List Value) (x : DataW H × List MemPlace), k.has P t → DataW.trod enc P w base spare held fuel t cs = some x →
    ∃ cvs : List CV, RepL w (fun b => b < w.heap.size) cvs cs ∧ k.fits cvs ∧ cvs.length = k.size
  | .b, t, fuel, cs, x, hk, h => by
    obtain ⟨b, rfl, _⟩ := DataW.trod_bool hk h
    exact ⟨[.bool b], RepL.one (.bool b), ⟨b, rfl⟩, rfl⟩
  | .i k, t, fuel, cs, x, hk, h => by
    obtain ⟨n, rfl, _, hw⟩ := DataW.trod_int hk h
    exact ⟨[.int k n], RepL.one (.int k n), ⟨n, rfl, hw⟩, rfl⟩
  | .s, t, fuel, cs, x, hk, h => by
    obtain ⟨s, rfl, _, hs⟩ := DataW.trod_string hk h
    have hl : s.data.toList.length ≤ maxLen := by simpa using hs
    exact ⟨[.str s.data.toList], RepL.one (by simpa using RepC.str (w := w) (S := fun b => b < w.heap.size) s.data.toList hl), ⟨_, rfl, hl⟩, rfl⟩
  | .sl size e, t, fuel, cs, x, hk, h => by
    obtain ⟨te, ht, hc, hz, h0, he⟩ := hk
    rcases Go.Deep.open_slice ht h with ⟨rfl, _⟩ | ⟨a, len, cap, m, n, D, Pl, rfl, hb, hl, hm, hmm, _, hx⟩
    · exact ⟨[.list size []], RepL.one (.list0 none 0 size (by decide) (fun _ => rfl)), ⟨[], rfl, fun x hx => (by cases hx)⟩, rfl⟩
    · have hlm : len ≤ m := by rw [hmm]; split <;> omega
      obtain ⟨xs, hlen, hxs⟩ := list_of (n := len) (p := fun i (cvs : List CV) => ∃ cs', w.cells? base (a.add (i * size)) size = some cs' ∧ RepL w (fun b => b < w.heap.size) cvs cs' ∧ e.fits cvs ∧ cvs.length = size) (fun i hi => by
        obtain ⟨cs', h1, h2⟩ := hx i (by omega)
        rw [hc] at h1
        obtain ⟨cvs, h3, h4, h5⟩ := KT.read e te n cs' _ he h2
        exact ⟨cvs, cs', h1, h3, h4, by rw [h5, hz]⟩)
      have hsz : ∀ x ∈ xs, x.length = size := fun x hx' => by
        obtain ⟨i, hi⟩ := List.getElem?_of_mem hx'
        obtain ⟨_, _, _, _, h⟩ := hxs i x hi
        exact h
      refine ⟨[.list size xs], RepL.one ?_, ⟨xs, rfl, fun x hx' => ?_⟩, rfl⟩
      · have hcell : ∀ (j : Nat) (c : CV), xs.flatten[j]? = some c → ∃ u, w.cell? (a.add j) = some u ∧ RepC w (fun b => b < w.heap.size) c u := by
          intro j c hj
          rw [flatten_div h0 hsz] at hj
          obtain ⟨y, hy, hyc⟩ := Option.bind_eq_some_iff.1 hj
          obtain ⟨cs', h1, h2, _, h4⟩ := hxs _ y hy
          obtain ⟨u, hu, hr⟩ := h2.2 _ c hyc
          refine ⟨u, ?_, hr⟩
          unfold World.cells? at h1
          split at h1
          · have := mapM_some_get h1 (j % size) (j % size) (by simp [Nat.mod_lt _ h0])
            rw [hu, addr_add_add] at this
            have e2 : j / size * size + j % size = j := by rw [Nat.mul_comm]; exact Nat.div_add_mod j size
            rw [e2] at this
            exact this
          · cases h1
        cases xs with
        | nil =>
          simp at hlen
          subst hlen
          exact .list0 (some a) cap size hm (fun h => by cases h)
        | cons y ys =>
          have hy : (y :: ys).flatten[0]? ≠ none := by
            have := hsz y (by simp)
            simp only [List.flatten_cons]
            rw [List.getElem?_append_left (by omega), ne_eq, List.getElem?_eq_none_iff]
            omega
          obtain ⟨c, hc0⟩ := Option.ne_none_iff_exists'.1 hy
          obtain ⟨u, hu, _⟩ := hcell 0 c hc0
          have hsp : a.block < w.heap.size ∧ a.spot = none := by
            have e0 : a.add 0 = a := by simp [Addr.add]
            rw [e0] at hu
            unfold World.cell? at hu
            split at hu
            · rename_i heq
              refine ⟨(Array.getElem?_eq_some_iff.1 heq).1, ?_⟩
              split at hu
              · cases hu
              · rename_i hns; simpa using hns
            · cases hu
          rw [← hlen]
          refine .list a cap size (y :: ys) (fun j => (w.cell? (a.add j)).getD undef) hsp.1 hsp.2 (by omega) hm hsz (fun j c hj => ?_) (fun j c hj => ?_)
          · obtain ⟨u, hu, _⟩ := hcell j c hj
            rw [hu]; rfl
          · obtain ⟨u, hu, hr⟩ := hcell j c hj
            rw [hu]; exact hr
      · obtain ⟨i, hi⟩ := List.getElem?_of_mem hx'
        obtain ⟨_, _, _, h, _⟩ := hxs i x hi
        exact h
  | .st ks, t, fuel, cs, x, hk, h => by
    obtain ⟨fs, ht, hc, ha⟩ := hk
    obtain ⟨xs, n, rfl, _, hl, hxl, hx⟩ := DataW.trod_struct ht h
    obtain ⟨cvs, h1, h2, h3⟩ := KT.readAll ks fs.toList 0 n cs ha (by rw [hl, hc]; omega) (fun i f hf => by
      have hf' : fs[i]? = some f := by simpa using hf
      rw [hx i f hf']
      have : i < xs.length := by rw [hxl]; exact (Array.getElem?_eq_some_iff.1 hf').1
      exact ⟨xs[i], List.getElem?_eq_getElem this⟩)
    exact ⟨cvs, by simpa using h1, h2, h3⟩
theorem KT.readAll : (ks : List KT) → ∀ (fs : List Field) (off n : Nat) (cs : List Value), KT.has.hasAll P fs off ks → cs.length = off + KT.sizes ks →
    (∀ (i : Nat) (f : Field), fs[i]? = some f → ∃ x, DataW.trod enc P w base spare held n f.type ((cs.drop f.offset).take (P.cellsOf f.type)) = some x) →
    ∃ cvs : List CV, RepL w (fun b => b < w.heap.size) cvs (cs.drop off) ∧ KT.fits.fitsAll ks cvs ∧ cvs.length = KT.sizes ks
  | [], fs, off, n, cs, ha, hl, h => by
    cases fs with
    | nil => exact ⟨[], ⟨by simp [hl, KT.sizes], fun j c hj => by simp at hj⟩, rfl, rfl⟩
    | cons f fs => exact ha.elim
  | k :: ks, fs, off, n, cs, ha, hl, h => by
    cases fs with
    | nil => exact ha.elim
    | cons f fs =>
      obtain ⟨ho, hc, hk, hr⟩ := ha
      obtain ⟨x, hx⟩ := h 0 f rfl
      rw [ho, hc] at hx
      obtain ⟨c1, h1, h2, h3⟩ := KT.read k f.type n _ x hk hx
      obtain ⟨c2, h4, h5, h6⟩ := KT.readAll ks fs (off + k.size) n cs hr (by rw [hl]; simp only [KT.sizes]; omega) (fun i g hg => h (i + 1) g hg)
      refine ⟨c1 ++ c2, ?_, ⟨c1, c2, rfl, h2, h5⟩, by simp [h3, h6, KT.sizes]⟩
      have := h1.append h4
      rw [← List.drop_drop, List.take_append_drop] at this
      exact this
end
end
end Go.Ab
