/-
  An abstract reading of Go's values and frames: what a slot holds, said as plain data; which steps keep it.
-/
import Derived.WalkKit
import Derived.WalkSpells
import Derived.WalkLawsBesides
namespace Go.Ab
open Go Go.RowKit
set_option linter.unusedSectionVars false

/-- What one cell holds, as plain data. A slice is its elements' cells. -/
inductive CV where
  | bool (b : Bool)
  | int (k : IntKind) (n : Int)
  | str (l : List UInt8)
  | nil
  | empty (size : Nat)
  | list (size : Nat) (xs : List (List CV))
  | atom (v : Value)
  | clo (f : FuncId) (caps : List CV)

/-- A value: of one cell, or a struct or an array. -/
inductive XV where
  | one (c : CV)
  | agg (cs : List CV)

/-- What a slot holds. -/
inductive AV where
  | dead
  | x (v : XV)
  | tup (vs : List XV)
  | box (cs : List CV)
  | ptr (s off : Nat)
  | eptr (s i off : Nat)
  | elem (cs : List CV)
  | own (e size : Nat) (xs : List (List CV))
  | alias (s : Nat)
  | mp (c : Nat) (bs : List Nat) (es : List (XV × XV))
  | view (s lo len : Nat) (whole : Bool)
  | cloR (f : FuncId) (caps : List (CV ⊕ (Nat × Nat)))
  | cond (e : Bool) (v : AV)

abbrev St := Nat → AV

/-- 'v' is the value that 'c' tells of, in world w; what it leads to lies in blocks of S. -/
inductive RepC (w : World) (S : Nat → Prop) : CV → Value → Prop where
  | bool (b : Bool) : RepC w S (.bool b) (.bool b)
  | int (k : IntKind) (n : Int) : RepC w S (.int k n) (.int k n)
  | str (l : List UInt8) (h : l.length ≤ maxLen) : RepC w S (.str l) (.string ⟨l.toArray⟩)
  | nil : RepC w S .nil (.slice none 0 0)
  | empty (a : Addr) (cap size : Nat) (h : cap ≤ maxLen) : RepC w S (.empty size) (.slice (some a) 0 cap)
  | list0 (a : Option Addr) (cap size : Nat) (h : cap ≤ maxLen) (hn : a = none → cap = 0) : RepC w S (.list size []) (.slice a 0 cap)
  | list (ad : Addr) (cap size : Nat) (xs : List (List CV)) (U : Nat → Value) (hs : S ad.block) (hsp : ad.spot = none) (hc : xs.length ≤ cap) (hm : cap ≤ maxLen)
      (hx : ∀ x ∈ xs, x.length = size) (hU : ∀ (j : Nat) (c : CV), xs.flatten[j]? = some c → w.cell? (ad.add j) = some (U j))
      (hr : ∀ (j : Nat) (c : CV), xs.flatten[j]? = some c → RepC w S c (U j)) : RepC w S (.list size xs) (.slice (some ad) xs.length cap)
  | atom (v : Value) (h : v.oneCell' = true) : RepC w S (.atom v) v
  | clo (f : FuncId) (caps : List CV) (U : Nat → Value) (h : ∀ (j : Nat) (c : CV), caps[j]? = some c → RepC w S c (U j)) : RepC w S (.clo f caps) (.func (.func f) #[] ((List.range caps.length).map U).toArray)

/-- Cells, one by one. -/
def RepL (w : World) (S : Nat → Prop) (cs : List CV) (vs : List Value) : Prop :=
  vs.length = cs.length ∧ ∀ (j : Nat) (c : CV), cs[j]? = some c → ∃ u, vs[j]? = some u ∧ RepC w S c u

def RepX (w : World) (S : Nat → Prop) : XV → Value → Prop
  | .one c, v => RepC w S c v
  | .agg cs, v => ∃ us : Array Value, v = .agg us ∧ RepL w S cs us.toList

theorem RepC.oneCell {w : World} {S : Nat → Prop} {c : CV} {v : Value} (h : RepC w S c v) : v.oneCell' = true := by
  cases h <;> first | rfl | assumption

theorem RepC.mono {w w' : World} {S S' : Nat → Prop} {c : CV} {v : Value} (h : RepC w S c v) (hS : ∀ b, S b → S' b)
    (hb : ∀ b, S b → w'.heap[b]? = w.heap[b]?) : RepC w' S' c v := by
  induction h with
  | bool b => exact .bool b
  | int k n => exact .int k n
  | str l h => exact .str l h
  | nil => exact .nil
  | empty a cap size h => exact .empty a cap size h
  | list0 a cap size h hn => exact .list0 a cap size h hn
  | list ad cap size xs U hs hsp hc hm hx hU hr ih =>
    refine .list ad cap size xs U (hS _ hs) hsp hc hm hx (fun j c hj => ?_) ih
    have hadd : (ad.add j).block = ad.block := by unfold Addr.add; split <;> rfl
    rw [World.cell?_of_block (w := w) (w' := w') (by rw [hadd]; exact hb _ hs)]
    exact hU j c hj
  | atom v h => exact .atom v h
  | clo f caps U h ih => exact .clo f caps U ih

theorem RepL.mono {w w' : World} {S S' : Nat → Prop} {cs : List CV} {vs : List Value} (h : RepL w S cs vs) (hS : ∀ b, S b → S' b)
    (hb : ∀ b, S b → w'.heap[b]? = w.heap[b]?) : RepL w' S' cs vs :=
  ⟨h.1, fun j c hj => let ⟨u, hu, hr⟩ := h.2 j c hj; ⟨u, hu, hr.mono hS hb⟩⟩

theorem RepX.mono {w w' : World} {S S' : Nat → Prop} {x : XV} {v : Value} (h : RepX w S x v) (hS : ∀ b, S b → S' b)
    (hb : ∀ b, S b → w'.heap[b]? = w.heap[b]?) : RepX w' S' x v := by
  cases x with
  | one c => exact RepC.mono h hS hb
  | agg cs => obtain ⟨us, hv, hl⟩ := h; exact ⟨us, hv, hl.mono hS hb⟩

/-- Entries, told one by one. -/
def RepE (w : World) (S : Nat → Prop) (bs : List Nat) (es : List (XV × XV)) (ents : List MapEntry) : Prop :=
  ents.length = es.length ∧ bs.length = es.length ∧ ∀ (j : Nat) (x : XV × XV), es[j]? = some x → ∃ e, ents[j]? = some e ∧ bs[j]? = some e.born ∧ RepX w S x.1 e.key ∧ RepX w S x.2 e.val

theorem RepE.mono {w w' : World} {S S' : Nat → Prop} {bs : List Nat} {es : List (XV × XV)} {ents : List MapEntry} (h : RepE w S bs es ents) (hS : ∀ b, S b → S' b)
    (hb : ∀ b, S b → w'.heap[b]? = w.heap[b]?) : RepE w' S' bs es ents :=
  ⟨h.1, h.2.1, fun j x hj => let ⟨e, h1, h2, h3, h4⟩ := h.2.2 j x hj; ⟨e, h1, h2, h3.mono hS hb, h4.mono hS hb⟩⟩

/-- The block that a slot alone owns. -/
def blkOf : AV → Value → Option Nat
  | .box _, .pointer (some a) => some a.block
  | .own _ _ _, v => v.ownBlock
  | .mp _ _ _, .map (some b) => some b
  | _, _ => none

def AV.isOwner : AV → Bool
  | .box _ => true
  | .own _ _ _ => true
  | .mp _ _ _ => true
  | _ => false

def AV.size : AV → Nat
  | .own _ size _ => size
  | _ => 0

def AV.len : AV → Nat
  | .own _ _ xs => xs.length
  | _ => 0

/-- A captured variable that is shared. -/
def capRef (d : Nat) : CV ⊕ (Nat × Nat) → Bool
  | .inl _ => false
  | .inr p => p.1 == d

/-- Does it lead to slot d? -/
def AV.refs (d : Nat) : AV → Bool
  | .ptr s _ => s == d
  | .eptr s _ _ => s == d
  | .alias s => s == d
  | .view s _ _ _ => s == d
  | .cloR _ caps => caps.any (capRef d)
  | .cond _ v => v.refs d
  | _ => false

theorem blkOf_notOwner {a : AV} {v : Value} (h : a.isOwner = false) : blkOf a v = none := by
  cases a <;> first | rfl | (simp [AV.isOwner] at h)

/-- Does it lead to slot d, where its guard holds? -/
def AV.refsL (d : Nat) : AV → Bool
  | .ptr s _ => s == d
  | .eptr s _ _ => s == d
  | .alias s => s == d
  | .view s _ _ _ => s == d
  | .cloR _ caps => caps.any (capRef d)
  | .cond e v => e && v.refsL d
  | _ => false

theorem AV.refs_of_refsL {d : Nat} : ∀ {a : AV}, a.refsL d = true → a.refs d = true
  | .ptr _ _, h => h
  | .eptr _ _ _, h => h
  | .alias _, h => h
  | .view _ _ _ _, h => h
  | .cloR _ _, h => h
  | .cond e v, h => by
    simp only [AV.refsL, Bool.and_eq_true] at h
    exact AV.refs_of_refsL (a := v) h.2

theorem refs_owner {a : AV} {d : Nat} (h : a.refs d = true) : a.isOwner = false := by
  cases a <;> simp_all [AV.refs, AV.isOwner]

/-- What a captured variable is. -/
def CapRep (w : World) (S : Nat → Prop) (s : St) (tm : Nat → Value) : CV ⊕ (Nat × Nat) → Value → Prop
  | .inl c, u => RepC w S c u
  | .inr p, u => ∃ b, u = .pointer (some ⟨b, p.2, none⟩) ∧ blkOf (s p.1) (tm p.1) = some b

/-- What slot value 'a' says of value v. -/
def RepAV (w : World) (S : Nat → Prop) (B : Nat → Prop) (s : St) (tm : Nat → Value) : AV → Value → Prop
  | .dead, _ => True
  | .x xv, v => RepX w S xv v
  | .tup vs, v => ∃ us : Array Value, v = .tuple us ∧ us.size = vs.length ∧ ∀ (j : Nat) (x : XV), vs[j]? = some x → ∃ u, us[j]? = some u ∧ RepX w S x u
  | .box cs, v => ∃ (b : Nat) (arr : Array Value) (t : TypeId), v = .pointer (some ⟨b, 0, none⟩) ∧ w.heap[b]? = some (.cells arr t (0, 0)) ∧ RepL w S cs arr.toList ∧ B b
  | .ptr i off, v => ∃ b, v = .pointer (some ⟨b, off, none⟩) ∧ blkOf (s i) (tm i) = some b
  | .eptr i k off, v => ∃ b, v = .pointer (some ⟨b, k * (s i).size + off, none⟩) ∧ blkOf (s i) (tm i) = some b
  | .elem cs, v => ∃ ad : Addr, v = .pointer (some ad) ∧ ad.spot = none ∧ S ad.block ∧ ∀ (j : Nat) (c : CV), cs[j]? = some c → ∃ u, w.cell? (ad.add j) = some u ∧ RepC w S c u
  | .own e size xs, v => ∃ us : List Value, w.ownsRow 0 e size v xs.length us ∧ RepL w S xs.flatten us ∧ (∀ x ∈ xs, x.length = size) ∧ xs.length ≤ maxLen ∧ ∀ b, v.ownBlock = some b → B b
  | .alias i, v => v = tm i ∧ (s i).isOwner = true
  | .mp c bs es, v => ∃ (b : Nat) (ents : Array MapEntry), v = .map (some b) ∧ w.heap[b]? = some (.map ents c) ∧ B b ∧ RepE w S bs es ents.toList
  | .view i lo len wh, v => (s i).isOwner = true ∧ lo + len ≤ (s i).len ∧ ((v = .slice none 0 0 ∧ len = 0) ∨ ∃ b off cap, v = .slice (some ⟨b, off, none⟩) len cap ∧ len ≤ cap ∧ cap ≤ maxLen ∧ blkOf (s i) (tm i) = some b ∧ (0 < len → off = lo * (s i).size) ∧ (wh = true → lo = 0 ∧ ∃ l, tm i = .slice (some ⟨b, off, none⟩) l cap))
  | .cloR f caps, v => ∃ us : Array Value, v = .func (.func f) #[] us ∧ us.size = caps.length ∧ ∀ (j : Nat) (c : CV ⊕ (Nat × Nat)), caps[j]? = some c → ∃ u, us[j]? = some u ∧ CapRep w S s tm c u
  | .cond e a, v => a.isOwner = false ∧ if e then RepAV w S B s tm a v else v = undef

/-- What a call is given: what it may read, what is lent to it to be written; its first m slots, which are written once. -/
structure Env where
  rd : Nat → Prop
  lent : Nat → Prop
  m : Nat
  val : Nat → Value
/-- Blocks that this call may own. -/
abbrev OwnB (S0 : Env) (B : Nat) : Nat → Prop := fun b => B ≤ b ∨ S0.lent b

/-- The blocks that nobody of this call will write to any more: those that may be read, and the call's own that no slot owns. -/
def Shared (S0 : Env) (B : Nat) (w : World) (s : St) (tm : Nat → Value) : Nat → Prop :=
  fun b => (S0.rd b ∨ OwnB S0 B b) ∧ b < w.heap.size ∧ ∀ i, blkOf (s i) (tm i) ≠ some b

abbrev tmOf (a : Act) : Nat → Value := fun i => a.tmps.getD i undef

/-- What is known of the world besides: it stays true where some blocks stay as they were. -/
class Amb where
  holds : World → Prop
  at_ : Nat → Prop
  lt : ∀ {w : World} {b : Nat}, holds w → at_ b → b < w.heap.size
  keep : ∀ {w w' : World}, holds w → w.heap.size ≤ w'.heap.size → (∀ b, at_ b → w'.heap[b]? = w.heap[b]?) → holds w'
/-- Nothing besides. -/
@[reducible] def Amb.none : Amb := ⟨fun _ => True, fun _ => False, fun _ h => h.elim, fun _ _ _ => trivial⟩
variable [Amb]
/-- What a call begins with. -/
structure Base (S0 : Env) (w0 : World) : Prop where
  rd : ∀ b, S0.rd b → b < w0.heap.size
  lent : ∀ b, S0.lent b → b < w0.heap.size
  apart : ∀ b, S0.rd b → ¬ S0.lent b
  amb : Amb.holds w0
  far : ∀ b, Amb.at_ b → ¬ S0.lent b

/-- But for what is lent, all that was there is as it was. -/
structure Kept (L : Nat → Prop) (w w' : World) : Prop where
  os : w'.os = w.os
  tape : w'.tape = w.tape
  output : w'.output = w.output
  size : w.heap.size ≤ w'.heap.size
  block : ∀ k, k < w.heap.size → ¬ L k → w'.heap[k]? = w.heap[k]?

theorem Kept.refl (L : Nat → Prop) (w : World) : Kept L w w := ⟨rfl, rfl, rfl, Nat.le_refl _, fun _ _ _ => rfl⟩
theorem Kept.below {L : Nat → Prop} {w w' : World} (h : Kept L w w') (hL : ∀ b, ¬ L b) : Below w.heap.size w w' := ⟨h.os, h.tape, h.output, h.size, fun k hk => h.block k hk (hL k)⟩
theorem Kept.grown {L : Nat → Prop} {a w w' : World} {row : Option Nat} (h : Kept L a w) (hg : w.grownBy w' row) (hr : ∀ k, row = some k → a.heap.size ≤ k ∨ L k) : Kept L a w' :=
  ⟨hg.os.trans h.os, hg.tape.trans h.tape, hg.output.trans h.output, Nat.le_trans h.size hg.size, fun k hk hn => by
    rw [hg.block k (Nat.lt_of_lt_of_le hk h.size) (fun e => by rcases hr k e.symm with h1 | h1; omega; exact hn h1)]
    exact h.block k hk hn⟩
theorem Kept.drew {L : Nat → Prop} {a w : World} (h : Kept L a w) (n : Nat) : Kept L a { w with drawn := n } := ⟨h.os, h.tape, h.output, h.size, h.block⟩
theorem Base.amb' {S0 : Env} {w0 w : World} (h : Base S0 w0) (k : Kept S0.lent w0 w) : Amb.holds w := Amb.keep h.amb k.size (fun b hb => k.block b (Amb.lt h.amb hb) (h.far b hb))

/-- The frame (a, w) is as 's' tells. -/
structure Rel (S0 : Env) (w0 : World) (n : Nat) (s : St) (a : Act) (w : World) : Prop where
  defers : a.defers = []
  size : a.tmps.size = n
  below : Kept S0.lent w0 w
  lt : Base S0 w0
  rep : ∀ i, RepAV w (Shared S0 w0.heap.size w s (tmOf a)) (OwnB S0 w0.heap.size) s (tmOf a) (s i) (tmOf a i)
  inj : ∀ i j b, blkOf (s i) (tmOf a i) = some b → blkOf (s j) (tmOf a j) = some b → i = j
  out : ∀ i, n ≤ i → s i = .dead
  wf : ∀ i j, (s i).refs j = true → (s j).isOwner = true
  pin : ∀ j, j < S0.m → tmOf a j = S0.val j

/-- The new state behind 'slot d := v'. -/
def put (s : St) (d : Nat) (v : AV) : St :=
  match (s d).isOwner with
  | true => fun i => if i = d then (match v.refs d with | true => .dead | false => v) else if (s i).refs d then .dead else s i
  | false => fun i => if i = d then (match v.refs d with | true => .dead | false => v) else s i

theorem put_same {s : St} {d : Nat} {v : AV} (h : v.refs d = false) : put s d v d = v := by
  unfold put; cases (s d).isOwner <;> simp [h]

theorem put_same_refs {s : St} {d : Nat} {v : AV} (h : v.refs d = true) : put s d v d = .dead := by
  unfold put; cases (s d).isOwner <;> simp [h]

theorem put_other {s : St} {d i : Nat} {v : AV} (h : i ≠ d) : put s d v i = s i ∨ ((s d).isOwner = true ∧ (s i).refs d = true ∧ put s d v i = .dead) := by
  unfold put
  cases ho : (s d).isOwner
  · exact .inl (by simp [h])
  · by_cases hr : (s i).refs d = true
    · exact .inr ⟨rfl, hr, by simp [h, hr]⟩
    · exact .inl (by simp [h, hr])

theorem put_killed {s : St} {d i : Nat} {v : AV} (h : i ≠ d) (ho : (s d).isOwner = true) (hr : (s i).refs d = true) : put s d v i = .dead := by
  unfold put; rw [ho]; simp [h, hr]

theorem put_keeps {s : St} {d i : Nat} {v : AV} (h : i ≠ d) (hr : (s i).refs d = false) : put s d v i = s i := by
  rcases put_other (v := v) h with h | ⟨_, h, _⟩
  · exact h
  · rw [hr] at h; cases h

theorem put_owner {s : St} {d i : Nat} {v : AV} (h : i ≠ d) (hr : (s i).isOwner = true) : put s d v i = s i := by
  rcases put_other (v := v) h with h | ⟨_, h, _⟩
  · exact h
  · rw [refs_owner h] at hr; cases hr

theorem put_wf {s : St} {d : Nat} {v : AV} (h : ∀ i j, (s i).refs j = true → (s j).isOwner = true) (hv : ∀ j, v.refs j = true → (s j).isOwner = true) :
    ∀ i j, (put s d v i).refs j = true → (put s d v j).isOwner = true := by
  intro i j hij
  by_cases hi : i = d
  · subst hi
    cases hr : v.refs i with
    | true => rw [put_same_refs hr] at hij; cases hij
    | false =>
      rw [put_same hr] at hij
      have hji : j ≠ i := by rintro rfl; rw [hij] at hr; cases hr
      rw [put_owner hji (hv j hij)]; exact hv j hij
  · rcases put_other (s := s) (v := v) hi with e | ⟨_, _, e⟩
    · rw [e] at hij
      have hjo := h i j hij
      by_cases hjd : j = d
      · subst hjd
        rw [put_killed hi hjo hij] at e
        rw [← e] at hij
        cases hij
      · rw [put_owner hjd hjo]; exact hjo
    · rw [e] at hij; cases hij

theorem tmOf_put (a : Act) (d : Nat) (v : Value) (hd : d < a.tmps.size) (i : Nat) : tmOf (a.put (some d) v) i = if i = d then v else tmOf a i := by
  simp only [tmOf, Act.put, Array.getD_eq_getD_getElem?]
  by_cases h : i = d
  · subst h; simp [hd]
  · rw [Array.getElem?_setIfInBounds_ne (by omega)]; simp [h]

theorem block_add (a : Addr) (n : Nat) : (a.add n).block = a.block := by unfold Addr.add; split <;> rfl

/-- What it says of a slot stays, if the memory that it leads to stays, and the slots that it leads to. -/
theorem RepAV.mono {w w' : World} {S S' : Nat → Prop} {B : Nat → Prop} {s s' : St} {tm tm' : Nat → Value} {a : AV} {v : Value}
    (h : RepAV w S B s tm a v) (hS : ∀ b, S b → S' b) (hb : ∀ b, S b → w'.heap[b]? = w.heap[b]?)
    (ho : ∀ b, blkOf a v = some b → w'.heap[b]? = w.heap[b]?)
    (hr : ∀ i, a.refsL i = true → tm' i = tm i ∧ ((s i).isOwner = true → (s' i).isOwner = true ∧ (s' i).size = (s i).size ∧ (s' i).len = (s i).len) ∧ (∀ b, blkOf (s i) (tm i) = some b → blkOf (s' i) (tm i) = some b)) : RepAV w' S' B s' tm' a v := by
  induction a with
  | dead => trivial
  | x xv => exact RepX.mono h hS hb
  | tup vs =>
    obtain ⟨us, hv, hl, hx⟩ := h
    exact ⟨us, hv, hl, fun j x hj => let ⟨u, hu, hr⟩ := hx j x hj; ⟨u, hu, hr.mono hS hb⟩⟩
  | box cs =>
    obtain ⟨b, arr, t, rfl, hh, hl, hB⟩ := h
    exact ⟨b, arr, t, rfl, by rw [ho b rfl]; exact hh, hl.mono hS hb, hB⟩
  | ptr i off =>
    obtain ⟨b, rfl, hk⟩ := h
    obtain ⟨h1, _, h2⟩ := hr i (by simp [AV.refsL])
    exact ⟨b, rfl, by rw [h1]; exact h2 b hk⟩
  | eptr i k off =>
    obtain ⟨b, rfl, hk⟩ := h
    obtain ⟨h1, h3, h2⟩ := hr i (by simp [AV.refsL])
    have ho : (s i).isOwner = true := by
      cases ho : (s i).isOwner with
      | true => rfl
      | false => rw [blkOf_notOwner ho] at hk; cases hk
    exact ⟨b, by rw [(h3 ho).2.1], by rw [h1]; exact h2 b hk⟩
  | elem cs =>
    obtain ⟨ad, rfl, hsp, hSb, hc⟩ := h
    refine ⟨ad, rfl, hsp, hS _ hSb, fun j c hj => ?_⟩
    obtain ⟨u, hu, hrr⟩ := hc j c hj
    exact ⟨u, by rw [World.cell?_of_block (w := w) (w' := w') (by rw [block_add]; exact hb _ hSb)]; exact hu, hrr.mono hS hb⟩
  | own e size xs =>
    obtain ⟨us, hown, hl, hx, hm, hB⟩ := h
    refine ⟨us, ⟨hown.1, ?_⟩, hl.mono hS hb, hx, hm, hB⟩
    rcases hown.2 with hn | ⟨g, cap, cur, rfl, hbg, hh, rest⟩
    · exact .inl hn
    · exact .inr ⟨g, cap, cur, rfl, hbg, by rw [ho g rfl]; exact hh, rest⟩
  | mp c bs es =>
    obtain ⟨b, ents, rfl, hh, hB, he⟩ := h
    exact ⟨b, ents, rfl, by rw [ho b rfl]; exact hh, hB, he.mono hS hb⟩
  | alias i =>
    obtain ⟨hv, hown⟩ := h
    obtain ⟨h1, h2, _⟩ := hr i (by simp [AV.refsL])
    exact ⟨by rw [h1]; exact hv, (h2 hown).1⟩
  | view i lo len wh =>
    obtain ⟨hown, hle, hv⟩ := h
    obtain ⟨h1, h2, h3⟩ := hr i (by simp [AV.refsL])
    obtain ⟨k1, k2, k3⟩ := h2 hown
    refine ⟨k1, by rw [k3]; exact hle, ?_⟩
    rcases hv with hv | ⟨b, off, cap, hv, hc, hm, hk, hz, hw⟩
    · exact .inl hv
    · exact .inr ⟨b, off, cap, hv, hc, hm, by rw [h1]; exact h3 b hk, by rw [k2]; exact hz, by rw [h1]; exact hw⟩
  | cloR f caps =>
    obtain ⟨us, hv, hl, hx⟩ := h
    refine ⟨us, hv, hl, fun j c hj => ?_⟩
    obtain ⟨u, hu, hc⟩ := hx j c hj
    refine ⟨u, hu, ?_⟩
    cases c with
    | inl c => exact RepC.mono hc hS hb
    | inr p =>
      obtain ⟨b, hp, hk⟩ := hc
      obtain ⟨h1, _, h3⟩ := hr p.1 (by
        simp only [AV.refsL]
        exact List.any_eq_true.2 ⟨_, List.mem_of_getElem? hj, by simp [capRef]⟩)
      exact ⟨b, hp, by rw [h1]; exact h3 b hk⟩
  | cond e a ih =>
    obtain ⟨hn, h⟩ := h
    refine ⟨hn, ?_⟩
    cases e with
    | false => exact h
    | true => exact ih h (fun b hbk => by rw [blkOf_notOwner hn] at hbk; cases hbk) (fun i hi => hr i (by simp [AV.refsL, hi]))

/-- Whatever leads to a slot leads to an owner. -/
theorem RepAV.leads {w : World} {S : Nat → Prop} {B : Nat → Prop} {s : St} {tm : Nat → Value} {d : Nat} {a : AV} {v : Value}
    (h : RepAV w S B s tm a v) (hr : a.refsL d = true) : (s d).isOwner = true := by
  induction a with
  | ptr i off =>
    obtain ⟨b, rfl, hk⟩ := h
    obtain rfl : i = d := by simpa [AV.refsL] using hr
    cases hi : (s i).isOwner with
    | true => rfl
    | false => rw [blkOf_notOwner hi] at hk; cases hk
  | eptr i k off =>
    obtain ⟨b, rfl, hk⟩ := h
    obtain rfl : i = d := by simpa [AV.refsL] using hr
    cases hi : (s i).isOwner with
    | true => rfl
    | false => rw [blkOf_notOwner hi] at hk; cases hk
  | alias i =>
    obtain rfl : i = d := by simpa [AV.refsL] using hr
    exact h.2
  | view i lo len wh =>
    obtain rfl : i = d := by simpa [AV.refsL] using hr
    exact h.1
  | cloR f caps =>
    obtain ⟨us, hv, hl, hx⟩ := h
    simp only [AV.refsL] at hr
    obtain ⟨c, hc, hd⟩ := List.any_eq_true.1 hr
    cases c with
    | inl c => cases hd
    | inr p =>
      obtain rfl : p.1 = d := by simpa [capRef] using hd
      obtain ⟨j, hj⟩ := List.getElem?_of_mem hc
      obtain ⟨u, hu, b, hp, hk⟩ := hx j _ hj
      cases hi : (s p.1).isOwner with
      | true => rfl
      | false => rw [blkOf_notOwner hi] at hk; cases hk
  | cond e a ih =>
    simp only [AV.refsL, Bool.and_eq_true] at hr
    obtain ⟨rfl, hr⟩ := hr
    exact ih h.2 hr
  | _ => simp [AV.refsL] at hr

theorem RepAV.blk_lt {w : World} {S : Nat → Prop} {B : Nat → Prop} {s : St} {tm : Nat → Value} {a : AV} {v : Value} {b : Nat}
    (h : RepAV w S B s tm a v) (hb : blkOf a v = some b) : B b ∧ b < w.heap.size := by
  cases a with
  | box cs =>
    obtain ⟨b', arr, t, rfl, hh, hl, hB⟩ := h
    obtain rfl : b' = b := by simpa [blkOf] using hb
    exact ⟨hB, (Array.getElem?_eq_some_iff.1 hh).1⟩
  | own e size xs =>
    obtain ⟨us, hown, _, _, _, hB⟩ := h
    exact ⟨hB b hb, (hown.lt b hb).2⟩
  | mp c bs es =>
    obtain ⟨b', ents, rfl, hh, hB, he⟩ := h
    obtain rfl : b' = b := by simpa [blkOf] using hb
    exact ⟨hB, (Array.getElem?_eq_some_iff.1 hh).1⟩
  | _ => simp [blkOf] at hb

theorem blkOf_dead (v : Value) : blkOf .dead v = none := rfl

theorem put_blk {s : St} {d i : Nat} {v : AV} {u : Value} {b : Nat} (h : i ≠ d) (hb : blkOf (put s d v i) u = some b) : blkOf (s i) u = some b := by
  rcases put_other (s := s) (v := v) h with h' | ⟨_, _, h'⟩
  · rw [h'] at hb; exact hb
  · rw [h'] at hb; cases hb

/-- THE STEP 'slot d := r': what the other slots tell stays. -/
theorem Rel.put {S0 : Env} {w0 w w' : World} {n : Nat} {s : St} {a : Act} {d : Nat} {r : AV} {v : Value}
    (hR : Rel S0 w0 n s a w) (hd : S0.m ≤ d ∧ d < n) (hg : w.grownBy w' none) (hwf : ∀ j, r.refs j = true → (s j).isOwner = true)
    (hr : RepAV w' (Shared S0 w0.heap.size w' s (tmOf a)) (OwnB S0 w0.heap.size) s (tmOf a) r v)
    (hf : ∀ b, blkOf r v = some b → w.heap.size ≤ b)
    (hfS : ∀ b, blkOf r v = some b → RepAV w' (fun b' => Shared S0 w0.heap.size w' s (tmOf a) b' ∧ b' ≠ b) (OwnB S0 w0.heap.size) s (tmOf a) r v) : Rel S0 w0 n (put s d r) (a.put (some d) v) w' := by
  have hdt : d < a.tmps.size := by rw [hR.size]; exact hd.2
  have htm := tmOf_put a d v hdt
  have htmo : ∀ i, i ≠ d → tmOf (a.put (some d) v) i = tmOf a i := fun i hi => by rw [htm, if_neg hi]
  have htmd : tmOf (a.put (some d) v) d = v := by rw [htm, if_pos rfl]
  -- the blocks that are owned now
  have hblk : ∀ i b, blkOf (Ab.put s d r i) (tmOf (a.put (some d) v) i) = some b → (i = d ∧ blkOf r v = some b) ∨ (i ≠ d ∧ blkOf (s i) (tmOf a i) = some b) := by
    intro i b hb
    by_cases hi : i = d
    · subst hi
      rw [htmd] at hb
      cases hrr : r.refs i with
      | true => rw [put_same_refs hrr] at hb; cases hb
      | false => rw [put_same hrr] at hb; exact .inl ⟨rfl, hb⟩
    · rw [htmo i hi] at hb
      exact .inr ⟨hi, put_blk hi hb⟩
  have hold : ∀ b, Shared S0 w0.heap.size w s (tmOf a) b → w'.heap[b]? = w.heap[b]? := fun b hb => hg.block b hb.2.1 (by simp)
  have hsub : ∀ b, Shared S0 w0.heap.size w s (tmOf a) b → Shared S0 w0.heap.size w' (Ab.put s d r) (tmOf (a.put (some d) v)) b := by
    intro b ⟨h1, h2, h3⟩
    refine ⟨h1, Nat.lt_of_lt_of_le h2 hg.size, fun i hi => ?_⟩
    rcases hblk i b hi with ⟨_, h⟩ | ⟨_, h⟩
    · have := hf b h; omega
    · exact h3 i h
  have hkeep : ∀ i, i ≠ d → ((s i).isOwner = true → (Ab.put s d r i).isOwner = true ∧ (Ab.put s d r i).size = (s i).size ∧ (Ab.put s d r i).len = (s i).len) ∧ (∀ b, blkOf (s i) (tmOf a i) = some b → blkOf (Ab.put s d r i) (tmOf a i) = some b) := by
    intro i hi
    refine ⟨fun ho => by rw [put_owner hi ho]; exact ⟨ho, rfl, rfl⟩, fun b hb => ?_⟩
    have ho : (s i).isOwner = true := by
      cases ho : (s i).isOwner with
      | true => rfl
      | false => rw [blkOf_notOwner ho] at hb; cases hb
    rw [put_owner hi ho]; exact hb
  refine ⟨?_, ?_, ?_, hR.lt, ?_, ?_, ?_, ?_, fun j hj => by rw [htmo j (by omega)]; exact hR.pin j hj⟩
  · exact hR.defers
  · simp [Act.put, hR.size]
  · exact hR.below.grown hg (by simp)
  · intro i
    by_cases hi : i = d
    · subst hi
      rw [htmd]
      cases hrr : r.refs i with
      | true => rw [put_same_refs hrr]; trivial
      | false =>
        rw [put_same hrr]
        have hrefs : ∀ j, r.refsL j = true → tmOf (a.put (some i) v) j = tmOf a j ∧ ((s j).isOwner = true → (Ab.put s i r j).isOwner = true ∧ (Ab.put s i r j).size = (s j).size ∧ (Ab.put s i r j).len = (s j).len) ∧ (∀ b, blkOf (s j) (tmOf a j) = some b → blkOf (Ab.put s i r j) (tmOf a j) = some b) := by
          intro j hj
          have hji : j ≠ i := by rintro rfl; rw [AV.refs_of_refsL hj] at hrr; cases hrr
          exact ⟨htmo j hji, hkeep j hji⟩
        cases hbr : blkOf r v with
        | none =>
          refine hr.mono (fun b ⟨h1, h2, h3⟩ => ⟨h1, h2, fun j hj => ?_⟩) (fun _ _ => rfl) (fun _ _ => rfl) hrefs
          rcases hblk j b hj with ⟨_, h⟩ | ⟨_, h⟩
          · rw [hbr] at h; cases h
          · exact h3 j h
        | some bb =>
          refine (hfS bb hbr).mono (fun b ⟨⟨h1, h2, h3⟩, h4⟩ => ⟨h1, h2, fun j hj => ?_⟩) (fun _ _ => rfl) (fun _ _ => rfl) hrefs
          rcases hblk j b hj with ⟨_, h⟩ | ⟨_, h⟩
          · rw [hbr] at h; exact h4 (by injection h with h; exact h.symm)
          · exact h3 j h
    · rw [htmo i hi]
      rcases put_other (s := s) (v := r) hi with hp | ⟨_, _, hp⟩
      · rw [hp]
        refine (hR.rep i).mono hsub hold (fun b hb => hg.block b ((hR.rep i).blk_lt hb).2 (by simp)) (fun j hj => ?_)
        by_cases hjd : j = d
        · subst hjd
          have ho := (hR.rep i).leads hj
          rcases put_other (s := s) (v := r) hi with hp' | ⟨_, _, hp'⟩
          · -- it was not killed, though it leads to the owner d: cannot be
            exfalso
            have : Ab.put s j r i = .dead := by
              unfold Ab.put
              rw [ho]
              simp [hi, AV.refs_of_refsL hj]
            rw [hp'] at this
            rw [this] at hj
            simp [AV.refsL] at hj
          · rw [hp] at hp'
            rw [hp'] at hj
            simp [AV.refsL] at hj
        · exact ⟨htmo j hjd, hkeep j hjd⟩
      · rw [hp]; trivial
  · intro i j b hbi hbj
    rcases hblk i b hbi with ⟨hi, h1⟩ | ⟨hi, h1⟩ <;> rcases hblk j b hbj with ⟨hj, h2⟩ | ⟨hj, h2⟩
    · rw [hi, hj]
    · have := hf b h1; have := ((hR.rep j).blk_lt h2).2; omega
    · have := hf b h2; have := ((hR.rep i).blk_lt h1).2; omega
    · exact hR.inj i j b h1 h2
  · intro i hi
    have hid : i ≠ d := by omega
    rcases put_other (s := s) (v := r) hid with hp | ⟨_, _, hp⟩
    · rw [hp]; exact hR.out i hi
    · exact hp
  · exact put_wf hR.wf hwf

end Go.Ab
