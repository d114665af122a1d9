/-
  An abstract reading of Go's values and frames: what a slot holds, said as plain data; which steps keep it.
-/
import Derived.WalkKit
import Derived.WalkSpells
import Derived.WalkLawsBesides
namespace Go.Ab
open Go Go.RowKit

/-- What one cell holds, as plain data. A slice is its elements' cells. -/
inductive CV where
  | bool (b : Bool)
  | int (k : IntKind) (n : Int)
  | str (l : List UInt8)
  | nil
  | empty (size : Nat)
  | list (size : Nat) (xs : List (List CV))
  | atom (v : Value)
  | clo (f : FuncId) (caps : List CV)

/-- A value: of one cell, or a struct or an array. -/
inductive XV where
  | one (c : CV)
  | agg (cs : List CV)

/-- What a slot holds. -/
inductive AV where
  | dead
  | x (v : XV)
  | tup (vs : List XV)
  | box (cs : List CV)
  | ptr (s off : Nat)
  | eptr (s i off : Nat)
  | elem (cs : List CV)
  | own (e size : Nat) (xs : List (List CV))
  | alias (s : Nat)
  | mp (c : Nat) (bs : List Nat) (es : List (XV × XV))
  | cond (e : Bool) (v : AV)

abbrev St := Nat → AV

/-- 'v' is the value that 'c' tells of, in world w; what it leads to lies in blocks of S. -/
inductive RepC (w : World) (S : Nat → Prop) : CV → Value → Prop where
  | bool (b : Bool) : RepC w S (.bool b) (.bool b)
  | int (k : IntKind) (n : Int) : RepC w S (.int k n) (.int k n)
  | str (l : List UInt8) (h : l.length ≤ maxLen) : RepC w S (.str l) (.string ⟨l.toArray⟩)
  | nil : RepC w S .nil (.slice none 0 0)
  | empty (a : Addr) (cap size : Nat) (h : cap ≤ maxLen) : RepC w S (.empty size) (.slice (some a) 0 cap)
  | list0 (a : Option Addr) (cap size : Nat) (h : cap ≤ maxLen) (hn : a = none → cap = 0) : RepC w S (.list size []) (.slice a 0 cap)
  | list (ad : Addr) (cap size : Nat) (xs : List (List CV)) (U : Nat → Value) (hs : S ad.block) (hsp : ad.spot = none) (hc : xs.length ≤ cap) (hm : cap ≤ maxLen)
      (hx : ∀ x ∈ xs, x.length = size) (hU : ∀ (j : Nat) (c : CV), xs.flatten[j]? = some c → w.cell? (ad.add j) = some (U j))
      (hr : ∀ (j : Nat) (c : CV), xs.flatten[j]? = some c → RepC w S c (U j)) : RepC w S (.list size xs) (.slice (some ad) xs.length cap)
  | atom (v : Value) (h : v.oneCell' = true) : RepC w S (.atom v) v
  | clo (f : FuncId) (caps : List CV) (U : Nat → Value) (h : ∀ (j : Nat) (c : CV), caps[j]? = some c → RepC w S c (U j)) : RepC w S (.clo f caps) (.func (.func f) #[] ((List.range caps.length).map U).toArray)

/-- Cells, one by one. -/
def RepL (w : World) (S : Nat → Prop) (cs : List CV) (vs : List Value) : Prop :=
  vs.length = cs.length ∧ ∀ (j : Nat) (c : CV), cs[j]? = some c → ∃ u, vs[j]? = some u ∧ RepC w S c u

def RepX (w : World) (S : Nat → Prop) : XV → Value → Prop
  | .one c, v => RepC w S c v
  | .agg cs, v => ∃ us : Array Value, v = .agg us ∧ RepL w S cs us.toList

theorem RepC.oneCell {w : World} {S : Nat → Prop} {c : CV} {v : Value} (h : RepC w S c v) : v.oneCell' = true := by
  cases h <;> first | rfl | assumption

theorem RepC.mono {w w' : World} {S S' : Nat → Prop} {c : CV} {v : Value} (h : RepC w S c v) (hS : ∀ b, S b → S' b)
    (hb : ∀ b, S b → w'.heap[b]? = w.heap[b]?) : RepC w' S' c v := by
  induction h with
  | bool b => exact .bool b
  | int k n => exact .int k n
  | str l h => exact .str l h
  | nil => exact .nil
  | empty a cap size h => exact .empty a cap size h
  | list0 a cap size h hn => exact .list0 a cap size h hn
  | list ad cap size xs U hs hsp hc hm hx hU hr ih =>
    refine .list ad cap size xs U (hS _ hs) hsp hc hm hx (fun j c hj => ?_) ih
    have hadd : (ad.add j).block = ad.block := by unfold Addr.add; split <;> rfl
    rw [World.cell?_of_block (w := w) (w' := w') (by rw [hadd]; exact hb _ hs)]
    exact hU j c hj
  | atom v h => exact .atom v h
  | clo f caps U h ih => exact .clo f caps U ih

theorem RepL.mono {w w' : World} {S S' : Nat → Prop} {cs : List CV} {vs : List Value} (h : RepL w S cs vs) (hS : ∀ b, S b → S' b)
    (hb : ∀ b, S b → w'.heap[b]? = w.heap[b]?) : RepL w' S' cs vs :=
  ⟨h.1, fun j c hj => let ⟨u, hu, hr⟩ := h.2 j c hj; ⟨u, hu, hr.mono hS hb⟩⟩

theorem RepX.mono {w w' : World} {S S' : Nat → Prop} {x : XV} {v : Value} (h : RepX w S x v) (hS : ∀ b, S b → S' b)
    (hb : ∀ b, S b → w'.heap[b]? = w.heap[b]?) : RepX w' S' x v := by
  cases x with
  | one c => exact RepC.mono h hS hb
  | agg cs => obtain ⟨us, hv, hl⟩ := h; exact ⟨us, hv, hl.mono hS hb⟩

/-- Entries, told one by one. -/
def RepE (w : World) (S : Nat → Prop) (bs : List Nat) (es : List (XV × XV)) (ents : List MapEntry) : Prop :=
  ents.length = es.length ∧ bs.length = es.length ∧ ∀ (j : Nat) (x : XV × XV), es[j]? = some x → ∃ e, ents[j]? = some e ∧ bs[j]? = some e.born ∧ RepX w S x.1 e.key ∧ RepX w S x.2 e.val

theorem RepE.mono {w w' : World} {S S' : Nat → Prop} {bs : List Nat} {es : List (XV × XV)} {ents : List MapEntry} (h : RepE w S bs es ents) (hS : ∀ b, S b → S' b)
    (hb : ∀ b, S b → w'.heap[b]? = w.heap[b]?) : RepE w' S' bs es ents :=
  ⟨h.1, h.2.1, fun j x hj => let ⟨e, h1, h2, h3, h4⟩ := h.2.2 j x hj; ⟨e, h1, h2, h3.mono hS hb, h4.mono hS hb⟩⟩

/-- The block that a slot alone owns. -/
def blkOf : AV → Value → Option Nat
  | .box _, .pointer (some a) => some a.block
  | .own _ _ _, v => v.ownBlock
  | .mp _ _ _, .map (some b) => some b
  | _, _ => none

def AV.isOwner : AV → Bool
  | .box _ => true
  | .own _ _ _ => true
  | .mp _ _ _ => true
  | _ => false

def AV.size : AV → Nat
  | .own _ size _ => size
  | _ => 0

/-- Does it lead to slot d? -/
def AV.refs (d : Nat) : AV → Bool
  | .ptr s _ => s == d
  | .eptr s _ _ => s == d
  | .alias s => s == d
  | .cond _ v => v.refs d
  | _ => false

theorem blkOf_notOwner {a : AV} {v : Value} (h : a.isOwner = false) : blkOf a v = none := by
  cases a <;> first | rfl | (simp [AV.isOwner] at h)

/-- Does it lead to slot d, where its guard holds? -/
def AV.refsL (d : Nat) : AV → Bool
  | .ptr s _ => s == d
  | .eptr s _ _ => s == d
  | .alias s => s == d
  | .cond e v => e && v.refsL d
  | _ => false

theorem AV.refs_of_refsL {d : Nat} : ∀ {a : AV}, a.refsL d = true → a.refs d = true
  | .ptr _ _, h => h
  | .eptr _ _ _, h => h
  | .alias _, h => h
  | .cond e v, h => by
    simp only [AV.refsL, Bool.and_eq_true] at h
    exact AV.refs_of_refsL (a := v) h.2

theorem refs_owner {a : AV} {d : Nat} (h : a.refs d = true) : a.isOwner = false := by
  cases a <;> simp_all [AV.refs, AV.isOwner]

/-- What slot value 'a' says of value v. -/
def RepAV (w : World) (S : Nat → Prop) (B : Nat) (s : St) (tm : Nat → Value) : AV → Value → Prop
  | .dead, _ => True
  | .x xv, v => RepX w S xv v
  | .tup vs, v => ∃ us : Array Value, v = .tuple us ∧ us.size = vs.length ∧ ∀ (j : Nat) (x : XV), vs[j]? = some x → ∃ u, us[j]? = some u ∧ RepX w S x u
  | .box cs, v => ∃ (b : Nat) (arr : Array Value) (t : TypeId), v = .pointer (some ⟨b, 0, none⟩) ∧ w.heap[b]? = some (.cells arr t (0, 0)) ∧ RepL w S cs arr.toList ∧ B ≤ b
  | .ptr i off, v => ∃ b, v = .pointer (some ⟨b, off, none⟩) ∧ blkOf (s i) (tm i) = some b
  | .eptr i k off, v => ∃ b, v = .pointer (some ⟨b, k * (s i).size + off, none⟩) ∧ blkOf (s i) (tm i) = some b
  | .elem cs, v => ∃ ad : Addr, v = .pointer (some ad) ∧ ad.spot = none ∧ S ad.block ∧ ∀ (j : Nat) (c : CV), cs[j]? = some c → ∃ u, w.cell? (ad.add j) = some u ∧ RepC w S c u
  | .own e size xs, v => ∃ us : List Value, w.ownsRow B e size v xs.length us ∧ RepL w S xs.flatten us ∧ (∀ x ∈ xs, x.length = size) ∧ xs.length ≤ maxLen
  | .alias i, v => v = tm i ∧ (s i).isOwner = true
  | .mp c bs es, v => ∃ (b : Nat) (ents : Array MapEntry), v = .map (some b) ∧ w.heap[b]? = some (.map ents c) ∧ B ≤ b ∧ RepE w S bs es ents.toList
  | .cond e a, v => a.isOwner = false ∧ if e then RepAV w S B s tm a v else v = undef

/-- The blocks that nobody of this call will write to any more: those of S0, and the call's own that no slot owns. -/
def Shared (S0 : Nat → Prop) (B : Nat) (w : World) (s : St) (tm : Nat → Value) : Nat → Prop :=
  fun b => (S0 b ∨ B ≤ b) ∧ b < w.heap.size ∧ ∀ i, blkOf (s i) (tm i) ≠ some b

abbrev tmOf (a : Act) : Nat → Value := fun i => a.tmps.getD i undef

/-- The frame (a, w) is as 's' tells. -/
structure Rel (S0 : Nat → Prop) (w0 : World) (n : Nat) (s : St) (a : Act) (w : World) : Prop where
  defers : a.defers = []
  size : a.tmps.size = n
  below : Below w0.heap.size w0 w
  lt : ∀ b, S0 b → b < w0.heap.size
  rep : ∀ i, RepAV w (Shared S0 w0.heap.size w s (tmOf a)) w0.heap.size s (tmOf a) (s i) (tmOf a i)
  inj : ∀ i j b, blkOf (s i) (tmOf a i) = some b → blkOf (s j) (tmOf a j) = some b → i = j
  out : ∀ i, n ≤ i → s i = .dead
  wf : ∀ i j, (s i).refs j = true → (s j).isOwner = true

/-- The new state behind 'slot d := v'. -/
def put (s : St) (d : Nat) (v : AV) : St :=
  match (s d).isOwner with
  | true => fun i => if i = d then (match v.refs d with | true => .dead | false => v) else if (s i).refs d then .dead else s i
  | false => fun i => if i = d then (match v.refs d with | true => .dead | false => v) else s i

theorem put_same {s : St} {d : Nat} {v : AV} (h : v.refs d = false) : put s d v d = v := by
  unfold put; cases (s d).isOwner <;> simp [h]

theorem put_same_refs {s : St} {d : Nat} {v : AV} (h : v.refs d = true) : put s d v d = .dead := by
  unfold put; cases (s d).isOwner <;> simp [h]

theorem put_other {s : St} {d i : Nat} {v : AV} (h : i ≠ d) : put s d v i = s i ∨ ((s d).isOwner = true ∧ (s i).refs d = true ∧ put s d v i = .dead) := by
  unfold put
  cases ho : (s d).isOwner
  · exact .inl (by simp [h])
  · by_cases hr : (s i).refs d = true
    · exact .inr ⟨rfl, hr, by simp [h, hr]⟩
    · exact .inl (by simp [h, hr])

theorem put_killed {s : St} {d i : Nat} {v : AV} (h : i ≠ d) (ho : (s d).isOwner = true) (hr : (s i).refs d = true) : put s d v i = .dead := by
  unfold put; rw [ho]; simp [h, hr]

theorem put_keeps {s : St} {d i : Nat} {v : AV} (h : i ≠ d) (hr : (s i).refs d = false) : put s d v i = s i := by
  rcases put_other (v := v) h with h | ⟨_, h, _⟩
  · exact h
  · rw [hr] at h; cases h

theorem put_owner {s : St} {d i : Nat} {v : AV} (h : i ≠ d) (hr : (s i).isOwner = true) : put s d v i = s i := by
  rcases put_other (v := v) h with h | ⟨_, h, _⟩
  · exact h
  · rw [refs_owner h] at hr; cases hr

theorem put_wf {s : St} {d : Nat} {v : AV} (h : ∀ i j, (s i).refs j = true → (s j).isOwner = true) (hv : ∀ j, v.refs j = true → (s j).isOwner = true) :
    ∀ i j, (put s d v i).refs j = true → (put s d v j).isOwner = true := by
  intro i j hij
  by_cases hi : i = d
  · subst hi
    cases hr : v.refs i with
    | true => rw [put_same_refs hr] at hij; cases hij
    | false =>
      rw [put_same hr] at hij
      have hji : j ≠ i := by rintro rfl; rw [hij] at hr; cases hr
      rw [put_owner hji (hv j hij)]; exact hv j hij
  · rcases put_other (s := s) (v := v) hi with e | ⟨_, _, e⟩
    · rw [e] at hij
      have hjo := h i j hij
      by_cases hjd : j = d
      · subst hjd
        rw [put_killed hi hjo hij] at e
        rw [← e] at hij
        cases hij
      · rw [put_owner hjd hjo]; exact hjo
    · rw [e] at hij; cases hij

theorem tmOf_put (a : Act) (d : Nat) (v : Value) (hd : d < a.tmps.size) (i : Nat) : tmOf (a.put (some d) v) i = if i = d then v else tmOf a i := by
  simp only [tmOf, Act.put, Array.getD_eq_getD_getElem?]
  by_cases h : i = d
  · subst h; simp [hd]
  · rw [Array.getElem?_setIfInBounds_ne (by omega)]; simp [h]

theorem block_add (a : Addr) (n : Nat) : (a.add n).block = a.block := by unfold Addr.add; split <;> rfl

/-- What it says of a slot stays, if the memory that it leads to stays, and the slots that it leads to. -/
theorem RepAV.mono {w w' : World} {S S' : Nat → Prop} {B : Nat} {s s' : St} {tm tm' : Nat → Value} {a : AV} {v : Value}
    (h : RepAV w S B s tm a v) (hS : ∀ b, S b → S' b) (hb : ∀ b, S b → w'.heap[b]? = w.heap[b]?)
    (ho : ∀ b, blkOf a v = some b → w'.heap[b]? = w.heap[b]?)
    (hr : ∀ i, a.refsL i = true → tm' i = tm i ∧ ((s i).isOwner = true → (s' i).isOwner = true) ∧ (∀ b, blkOf (s i) (tm i) = some b → blkOf (s' i) (tm i) = some b ∧ (s' i).size = (s i).size)) : RepAV w' S' B s' tm' a v := by
  induction a with
  | dead => trivial
  | x xv => exact RepX.mono h hS hb
  | tup vs =>
    obtain ⟨us, hv, hl, hx⟩ := h
    exact ⟨us, hv, hl, fun j x hj => let ⟨u, hu, hr⟩ := hx j x hj; ⟨u, hu, hr.mono hS hb⟩⟩
  | box cs =>
    obtain ⟨b, arr, t, rfl, hh, hl, hB⟩ := h
    exact ⟨b, arr, t, rfl, by rw [ho b rfl]; exact hh, hl.mono hS hb, hB⟩
  | ptr i off =>
    obtain ⟨b, rfl, hk⟩ := h
    obtain ⟨h1, _, h2⟩ := hr i (by simp [AV.refsL])
    exact ⟨b, rfl, by rw [h1]; exact (h2 b hk).1⟩
  | eptr i k off =>
    obtain ⟨b, rfl, hk⟩ := h
    obtain ⟨h1, _, h2⟩ := hr i (by simp [AV.refsL])
    exact ⟨b, by rw [(h2 b hk).2], by rw [h1]; exact (h2 b hk).1⟩
  | elem cs =>
    obtain ⟨ad, rfl, hsp, hSb, hc⟩ := h
    refine ⟨ad, rfl, hsp, hS _ hSb, fun j c hj => ?_⟩
    obtain ⟨u, hu, hrr⟩ := hc j c hj
    exact ⟨u, by rw [World.cell?_of_block (w := w) (w' := w') (by rw [block_add]; exact hb _ hSb)]; exact hu, hrr.mono hS hb⟩
  | own e size xs =>
    obtain ⟨us, hown, hl, hx, hm⟩ := h
    refine ⟨us, ⟨hown.1, ?_⟩, hl.mono hS hb, hx, hm⟩
    rcases hown.2 with hn | ⟨g, cap, cur, rfl, hbg, hh, rest⟩
    · exact .inl hn
    · exact .inr ⟨g, cap, cur, rfl, hbg, by rw [ho g rfl]; exact hh, rest⟩
  | mp c bs es =>
    obtain ⟨b, ents, rfl, hh, hB, he⟩ := h
    exact ⟨b, ents, rfl, by rw [ho b rfl]; exact hh, hB, he.mono hS hb⟩
  | alias i =>
    obtain ⟨hv, hown⟩ := h
    obtain ⟨h1, h2, _⟩ := hr i (by simp [AV.refsL])
    exact ⟨by rw [h1]; exact hv, h2 hown⟩
  | cond e a ih =>
    obtain ⟨hn, h⟩ := h
    refine ⟨hn, ?_⟩
    cases e with
    | false => exact h
    | true => exact ih h (fun b hbk => by rw [blkOf_notOwner hn] at hbk; cases hbk) (fun i hi => hr i (by simp [AV.refsL, hi]))

/-- Whatever leads to a slot leads to an owner. -/
theorem RepAV.leads {w : World} {S : Nat → Prop} {B : Nat} {s : St} {tm : Nat → Value} {d : Nat} {a : AV} {v : Value}
    (h : RepAV w S B s tm a v) (hr : a.refsL d = true) : (s d).isOwner = true := by
  induction a with
  | ptr i off =>
    obtain ⟨b, rfl, hk⟩ := h
    obtain rfl : i = d := by simpa [AV.refsL] using hr
    cases hi : (s i).isOwner with
    | true => rfl
    | false => rw [blkOf_notOwner hi] at hk; cases hk
  | eptr i k off =>
    obtain ⟨b, rfl, hk⟩ := h
    obtain rfl : i = d := by simpa [AV.refsL] using hr
    cases hi : (s i).isOwner with
    | true => rfl
    | false => rw [blkOf_notOwner hi] at hk; cases hk
  | alias i =>
    obtain rfl : i = d := by simpa [AV.refsL] using hr
    exact h.2
  | cond e a ih =>
    simp only [AV.refsL, Bool.and_eq_true] at hr
    obtain ⟨rfl, hr⟩ := hr
    exact ih h.2 hr
  | _ => simp [AV.refsL] at hr

theorem RepAV.blk_lt {w : World} {S : Nat → Prop} {B : Nat} {s : St} {tm : Nat → Value} {a : AV} {v : Value} {b : Nat}
    (h : RepAV w S B s tm a v) (hb : blkOf a v = some b) : B ≤ b ∧ b < w.heap.size := by
  cases a with
  | box cs =>
    obtain ⟨b', arr, t, rfl, hh, hl, hB⟩ := h
    obtain rfl : b' = b := by simpa [blkOf] using hb
    exact ⟨hB, (Array.getElem?_eq_some_iff.1 hh).1⟩
  | own e size xs =>
    obtain ⟨us, hown, _⟩ := h
    exact hown.lt b hb
  | mp c bs es =>
    obtain ⟨b', ents, rfl, hh, hB, he⟩ := h
    obtain rfl : b' = b := by simpa [blkOf] using hb
    exact ⟨hB, (Array.getElem?_eq_some_iff.1 hh).1⟩
  | _ => simp [blkOf] at hb

theorem blkOf_dead (v : Value) : blkOf .dead v = none := rfl

theorem put_blk {s : St} {d i : Nat} {v : AV} {u : Value} {b : Nat} (h : i ≠ d) (hb : blkOf (put s d v i) u = some b) : blkOf (s i) u = some b := by
  rcases put_other (s := s) (v := v) h with h' | ⟨_, _, h'⟩
  · rw [h'] at hb; exact hb
  · rw [h'] at hb; cases hb

/-- THE STEP 'slot d := r': what the other slots tell stays. -/
theorem Rel.put {S0 : Nat → Prop} {w0 w w' : World} {n : Nat} {s : St} {a : Act} {d : Nat} {r : AV} {v : Value}
    (hR : Rel S0 w0 n s a w) (hd : d < n) (hg : w.grownBy w' none) (hwf : ∀ j, r.refs j = true → (s j).isOwner = true)
    (hr : RepAV w' (Shared S0 w0.heap.size w' s (tmOf a)) w0.heap.size s (tmOf a) r v)
    (hf : ∀ b, blkOf r v = some b → w.heap.size ≤ b)
    (hfS : ∀ b, blkOf r v = some b → RepAV w' (fun b' => Shared S0 w0.heap.size w' s (tmOf a) b' ∧ b' ≠ b) w0.heap.size s (tmOf a) r v) : Rel S0 w0 n (put s d r) (a.put (some d) v) w' := by
  have hdt : d < a.tmps.size := by rw [hR.size]; exact hd
  have htm := tmOf_put a d v hdt
  have htmo : ∀ i, i ≠ d → tmOf (a.put (some d) v) i = tmOf a i := fun i hi => by rw [htm, if_neg hi]
  have htmd : tmOf (a.put (some d) v) d = v := by rw [htm, if_pos rfl]
  -- the blocks that are owned now
  have hblk : ∀ i b, blkOf (Ab.put s d r i) (tmOf (a.put (some d) v) i) = some b → (i = d ∧ blkOf r v = some b) ∨ (i ≠ d ∧ blkOf (s i) (tmOf a i) = some b) := by
    intro i b hb
    by_cases hi : i = d
    · subst hi
      rw [htmd] at hb
      cases hrr : r.refs i with
      | true => rw [put_same_refs hrr] at hb; cases hb
      | false => rw [put_same hrr] at hb; exact .inl ⟨rfl, hb⟩
    · rw [htmo i hi] at hb
      exact .inr ⟨hi, put_blk hi hb⟩
  have hold : ∀ b, Shared S0 w0.heap.size w s (tmOf a) b → w'.heap[b]? = w.heap[b]? := fun b hb => hg.block b hb.2.1 (by simp)
  have hsub : ∀ b, Shared S0 w0.heap.size w s (tmOf a) b → Shared S0 w0.heap.size w' (Ab.put s d r) (tmOf (a.put (some d) v)) b := by
    intro b ⟨h1, h2, h3⟩
    refine ⟨h1, Nat.lt_of_lt_of_le h2 hg.size, fun i hi => ?_⟩
    rcases hblk i b hi with ⟨_, h⟩ | ⟨_, h⟩
    · have := hf b h; omega
    · exact h3 i h
  have hkeep : ∀ i, i ≠ d → ((s i).isOwner = true → (Ab.put s d r i).isOwner = true) ∧ (∀ b, blkOf (s i) (tmOf a i) = some b → blkOf (Ab.put s d r i) (tmOf a i) = some b ∧ (Ab.put s d r i).size = (s i).size) := by
    intro i hi
    refine ⟨fun ho => by rw [put_owner hi ho]; exact ho, fun b hb => ?_⟩
    have ho : (s i).isOwner = true := by
      cases ho : (s i).isOwner with
      | true => rfl
      | false => rw [blkOf_notOwner ho] at hb; cases hb
    rw [put_owner hi ho]; exact ⟨hb, rfl⟩
  refine ⟨?_, ?_, ?_, hR.lt, ?_, ?_, ?_, ?_⟩
  · exact hR.defers
  · simp [Act.put, hR.size]
  · exact hR.below.grown hg hR.below.size (by simp)
  · intro i
    by_cases hi : i = d
    · subst hi
      rw [htmd]
      cases hrr : r.refs i with
      | true => rw [put_same_refs hrr]; trivial
      | false =>
        rw [put_same hrr]
        have hrefs : ∀ j, r.refsL j = true → tmOf (a.put (some i) v) j = tmOf a j ∧ ((s j).isOwner = true → (Ab.put s i r j).isOwner = true) ∧ (∀ b, blkOf (s j) (tmOf a j) = some b → blkOf (Ab.put s i r j) (tmOf a j) = some b ∧ (Ab.put s i r j).size = (s j).size) := by
          intro j hj
          have hji : j ≠ i := by rintro rfl; rw [AV.refs_of_refsL hj] at hrr; cases hrr
          exact ⟨htmo j hji, hkeep j hji⟩
        cases hbr : blkOf r v with
        | none =>
          refine hr.mono (fun b ⟨h1, h2, h3⟩ => ⟨h1, h2, fun j hj => ?_⟩) (fun _ _ => rfl) (fun _ _ => rfl) hrefs
          rcases hblk j b hj with ⟨_, h⟩ | ⟨_, h⟩
          · rw [hbr] at h; cases h
          · exact h3 j h
        | some bb =>
          refine (hfS bb hbr).mono (fun b ⟨⟨h1, h2, h3⟩, h4⟩ => ⟨h1, h2, fun j hj => ?_⟩) (fun _ _ => rfl) (fun _ _ => rfl) hrefs
          rcases hblk j b hj with ⟨_, h⟩ | ⟨_, h⟩
          · rw [hbr] at h; exact h4 (by injection h with h; exact h.symm)
          · exact h3 j h
    · rw [htmo i hi]
      rcases put_other (s := s) (v := r) hi with hp | ⟨_, _, hp⟩
      · rw [hp]
        refine (hR.rep i).mono hsub hold (fun b hb => hg.block b ((hR.rep i).blk_lt hb).2 (by simp)) (fun j hj => ?_)
        by_cases hjd : j = d
        · subst hjd
          have ho := (hR.rep i).leads hj
          rcases put_other (s := s) (v := r) hi with hp' | ⟨_, _, hp'⟩
          · -- it was not killed, though it leads to the owner d: cannot be
            exfalso
            have : Ab.put s j r i = .dead := by
              unfold Ab.put
              rw [ho]
              simp [hi, AV.refs_of_refsL hj]
            rw [hp'] at this
            rw [this] at hj
            simp [AV.refsL] at hj
          · rw [hp] at hp'
            rw [hp'] at hj
            simp [AV.refsL] at hj
        · exact ⟨htmo j hjd, hkeep j hjd⟩
      · rw [hp]; trivial
  · intro i j b hbi hbj
    rcases hblk i b hbi with ⟨hi, h1⟩ | ⟨hi, h1⟩ <;> rcases hblk j b hbj with ⟨hj, h2⟩ | ⟨hj, h2⟩
    · rw [hi, hj]
    · have := hf b h1; have := ((hR.rep j).blk_lt h2).2; omega
    · have := hf b h2; have := ((hR.rep i).blk_lt h1).2; omega
    · exact hR.inj i j b h1 h2
  · intro i hi
    have hid : i ≠ d := by omega
    rcases put_other (s := s) (v := r) hid with hp | ⟨_, _, hp⟩
    · rw [hp]; exact hR.out i hi
    · exact hp
  · exact put_wf hR.wf hwf

end Go.Ab
