/-
  Steps that make memory, or write to the call's own.
-/
import Derived.Test.YtejhjdpafdpjlaaDoorAbValOk4
import Derived.Maps.AppendAt
namespace Go.Ab
open Go Go.RowKit
set_option linter.unusedSectionVars false
variable [Amb]

section
variable {P : Program} {S0 : Env} {w0 w : World} {n : Nat} {s : St} {a : Act}

theorem smallCell_one {v : Value} (h : smallCell v = true) : v.oneCell' = true := by cases v <;> simp_all [smallCell, Value.oneCell']

theorem ofCells_rep {S : Nat → Prop} {us : List Value} (h : us.all smallCell = true) : RepL w S (us.map ofCell) us := by
  refine ⟨by simp, fun j c hj => ?_⟩
  rw [List.getElem?_map] at hj
  cases hu : us[j]? with
  | none => rw [hu] at hj; cases hj
  | some u =>
    rw [hu] at hj
    injection hj with hj
    subst hj
    exact ⟨u, rfl, ofCell_rep (List.all_eq_true.1 h u (List.mem_of_getElem? hu))⟩

/-- A type's zero, as cells. -/
def zeroOf (P : Program) (t : TypeId) : Option (List CV) :=
  match P.info? t with
  | some i => match i.zero with
    | some z => if z.cells.toList.all smallCell then some (z.cells.toList.map ofCell) else none
    | none => none
  | none => none

theorem zeroOf_ok {t : TypeId} {cs : List CV} (h : zeroOf P t = some cs) (S : Nat → Prop) : ∃ z, (zeroValue t).run P w = .ok z w ∧ RepL w S cs z.cells.toList := by
  unfold zeroOf at h
  split at h
  · rename_i i hi
    split at h
    · rename_i z hz
      split at h
      · rename_i hall
        injection h with h
        subst h
        exact ⟨z, by simp [zeroValue, typeInfo, hi, hz], ofCells_rep hall⟩
      · cases h
    · cases h
  · cases h

def XV.cells : XV → List CV
  | .one c => [c]
  | .agg cs => cs

theorem RepX.cells {S : Nat → Prop} {x : XV} {v : Value} (h : RepX w S x v) : RepL w S x.cells v.cells.toList := by
  cases x with
  | one c =>
    have h1 : v.cells = #[v] := by
      have := RepC.oneCell h
      cases v <;> first | rfl | (simp [Value.oneCell'] at this)
    rw [h1]
    refine ⟨rfl, fun j c' hj => ?_⟩
    cases j with
    | zero => simp [XV.cells] at hj; subst hj; exact ⟨v, rfl, h⟩
    | succ j => simp [XV.cells] at hj
  | agg cs => obtain ⟨us, rfl, hl⟩ := h; exact hl

theorem RepL.oneCells {S : Nat → Prop} {cs : List CV} {us : List Value} (h : RepL w S cs us) : ∀ u ∈ us, u.oneCell' = true := by
  intro u hu
  obtain ⟨j, hj⟩ := List.getElem?_of_mem hu
  have hlt : j < cs.length := by have := (List.getElem?_eq_some_iff.1 hj).1; have := h.1; omega
  obtain ⟨u', hu', hr⟩ := h.2 j cs[j] (List.getElem?_eq_getElem hlt)
  rw [hj] at hu'
  injection hu' with hu'
  subst hu'
  exact hr.oneCell

theorem shared_alloc {b : Nat} (o : Obj) (h : Shared S0 w0.heap.size w s (tmOf a) b) : Shared S0 w0.heap.size (w.alloc o) s (tmOf a) b ∧ b ≠ w.heap.size :=
  ⟨⟨h.1, by have := h.2.1; simp; omega, h.2.2⟩, by have := h.2.1; omega⟩

/-- A NEW BLOCK, told by a box. -/
theorem Rel.newBox {d : Nat} {cs : List CV} {arr : Array Value} {t : TypeId} (hR : Rel S0 w0 n s a w) (hd : S0.m ≤ d ∧ d < n) (hl : RepL w (Shared S0 w0.heap.size w s (tmOf a)) cs arr.toList) :
    Rel S0 w0 n (Ab.put s d (.box cs)) (a.put (some d) (.pointer (some ⟨w.heap.size, 0, none⟩))) (w.alloc (.cells arr t)) := by
  have hb : ∀ b, Shared S0 w0.heap.size w s (tmOf a) b → (w.alloc (.cells arr t)).heap[b]? = w.heap[b]? := fun b hb => Below.heap_alloc w _ b hb.2.1
  refine hR.put hd (World.grownBy_alloc w _ none) (fun j h => by cases h) ⟨_, arr, t, rfl, heap_alloc_new w _, hl.mono (fun b hb => (shared_alloc _ hb).1) hb, .inl hR.below.size⟩ ?_ ?_
  · intro b hb
    have : w.heap.size = b := by simpa [blkOf] using hb
    omega
  · intro b hbb
    have : w.heap.size = b := by simpa [blkOf] using hbb
    subst this
    exact ⟨_, arr, t, rfl, heap_alloc_new w _, hl.mono (fun b hb => shared_alloc _ hb) hb, .inl hR.below.size⟩

/-- A NEW ROW, told by a slice of the call's own. -/
theorem Rel.newOwn {d e size : Nat} {xs : List (List CV)} {v : Value} {us : List Value} {w' : World} (hR : Rel S0 w0 n s a w) (hd : S0.m ≤ d ∧ d < n)
    (hg : w.grownBy w' none) (hown : w'.ownsRow 0 e size v xs.length us) (hl : RepL w (Shared S0 w0.heap.size w s (tmOf a)) xs.flatten us) (hx : ∀ x ∈ xs, x.length = size) (hm : xs.length ≤ maxLen)
    (hf : ∀ b, v.ownBlock = some b → w.heap.size ≤ b) :
    Rel S0 w0 n (Ab.put s d (.own e size xs)) (a.put (some d) v) w' := by
  have hb : ∀ b, Shared S0 w0.heap.size w s (tmOf a) b → w'.heap[b]? = w.heap[b]? := fun b hb => hg.block b hb.2.1 (by simp)
  have hsub : ∀ b, Shared S0 w0.heap.size w s (tmOf a) b → Shared S0 w0.heap.size w' s (tmOf a) b := fun b hb => ⟨hb.1, Nat.lt_of_lt_of_le hb.2.1 hg.size, hb.2.2⟩
  refine hR.put hd hg (fun j h => by cases h) ⟨us, hown, hl.mono hsub hb, hx, hm, fun b hb => .inl (Nat.le_trans hR.below.size (hf b hb))⟩ hf ?_
  intro b hbb
  have := hf b hbb
  exact ⟨us, hown, hl.mono (fun b' hb' => ⟨hsub b' hb', by have := hb'.2.1; omega⟩) hb, hx, hm, fun b hb => .inl (Nat.le_trans hR.below.size (hf b hb))⟩

/-- Cells from 'off' on, written over. -/
def setRange {α : Type} (cs : List α) (off : Nat) (vs : List α) : List α := cs.take off ++ vs ++ cs.drop (off + vs.length)

theorem RepL.setRange {S : Nat → Prop} {cs vs : List CV} {us ws : List Value} (h : RepL w S cs us) (k : RepL w S vs ws) (off : Nat) : RepL w S (setRange cs off vs) (setRange us off ws) := by
  have h1 := h.1
  have k1 := k.1
  refine ⟨by simp only [Ab.setRange, List.length_append, List.length_take, List.length_drop, h1, k1], fun j c hj => ?_⟩
  simp only [Ab.setRange, List.append_assoc] at hj ⊢
  rw [List.getElem?_append] at hj ⊢
  simp only [List.length_take, h1] at hj ⊢
  split at hj
  · rename_i hlt
    rw [if_pos hlt]
    rw [List.getElem?_take] at hj ⊢
    split at hj
    · rename_i hlt2; rw [if_pos hlt2]; exact h.2 _ _ hj
    · cases hj
  · rename_i hge
    rw [if_neg hge]
    rw [List.getElem?_append] at hj ⊢
    rw [k1]
    split at hj
    · rename_i hlt; rw [if_pos hlt]; exact k.2 _ _ hj
    · rename_i hge2
      rw [if_neg hge2]
      rw [List.getElem?_drop] at hj ⊢
      exact h.2 _ _ hj

/-- AN OWNER'S BLOCK IS WRITTEN. -/
theorem Rel.write {i : Nat} {r : AV} {b : Nat} {w' : World} (hR : Rel S0 w0 n s a w) (hb : blkOf (s i) (tmOf a i) = some b) (hg : w.grownBy w' (some b)) (hsz : w'.heap.size = w.heap.size)
    (hbr : blkOf r (tmOf a i) = some b) (hro : r.isOwner = true) (hrs : r.size = (s i).size) (hrl : r.len = (s i).len)
    (hr : ∀ (s' : St), RepAV w' (Shared S0 w0.heap.size w s (tmOf a)) (OwnB S0 w0.heap.size) s' (tmOf a) r (tmOf a i)) :
    Rel S0 w0 n (fun j => if j = i then r else s j) a w' := by
  have hso : (s i).isOwner = true := by
    cases h : (s i).isOwner with
    | true => rfl
    | false => rw [blkOf_notOwner h] at hb; cases hb
  have hblk : ∀ j c, blkOf (if j = i then r else s j) (tmOf a j) = some c → blkOf (s j) (tmOf a j) = some c := by
    intro j c hc
    by_cases hj : j = i
    · subst hj
      rw [if_pos rfl, hbr] at hc
      rw [hb]; exact hc
    · rw [if_neg hj] at hc; exact hc
  have hsub : ∀ c, Shared S0 w0.heap.size w s (tmOf a) c → Shared S0 w0.heap.size w' (fun j => if j = i then r else s j) (tmOf a) c :=
    fun c hc => ⟨hc.1, by rw [hsz]; exact hc.2.1, fun j hj => hc.2.2 j (hblk j c hj)⟩
  have hsame : ∀ c, Shared S0 w0.heap.size w s (tmOf a) c → w'.heap[c]? = w.heap[c]? := by
    intro c hc
    refine hg.block c hc.2.1 (fun e => ?_)
    injection e with e
    exact hc.2.2 i (by rw [hb, e])
  refine ⟨hR.defers, hR.size, ?_, hR.lt, ?_, ?_, ?_, ?_, hR.pin⟩
  · exact hR.below.grown hg (fun k hk => by injection hk with hk; subst hk; exact ((hR.rep i).blk_lt hb).1)
  · intro j
    by_cases hj : j = i
    · subst hj
      simp only [if_pos]
      exact (hr (fun k => if k = j then r else s k)).mono hsub (fun _ _ => rfl) (fun _ _ => rfl) (fun k hk => ⟨rfl, fun h => ⟨h, rfl, rfl⟩, fun c hc => hc⟩)
    · simp only [if_neg hj]
      refine (hR.rep j).mono hsub hsame (fun c hc => ?_) (fun k hk => ⟨rfl, fun h => ?_, fun c hc => ?_⟩)
      · refine hg.block c ((hR.rep j).blk_lt hc).2 (fun e => ?_)
        injection e with e
        subst e
        exact hj (hR.inj j i c hc hb)
      · by_cases hk' : k = i
        · subst hk'; simp only [if_pos]; exact ⟨hro, hrs, hrl⟩
        · simp only [if_neg hk']; exact ⟨h, trivial, trivial⟩
      · by_cases hk' : k = i
        · subst hk'
          simp only [if_pos]
          rw [hb] at hc
          injection hc with hc
          subst hc
          exact hbr
        · simp only [if_neg hk']; exact hc
  · intro j k c hj hk
    exact hR.inj j k c (hblk j c hj) (hblk k c hk)
  · intro j hj
    by_cases hji : j = i
    · subst hji
      have := hR.out j hj
      rw [this] at hso
      cases hso
    · simp only [if_neg hji]; exact hR.out j hj
  · intro j k hjk
    have hjk' : (s j).refs k = true := by
      by_cases hj : j = i
      · subst hj
        simp only [if_pos] at hjk
        have := refs_owner hjk
        rw [hro] at this; cases this
      · simpa only [if_neg hj] using hjk
    have := hR.wf j k hjk'
    by_cases hk : k = i
    · simp only [if_pos hk]; exact hro
    · simp only [if_neg hk]; exact this

/-- LESS IS KNOWN. -/
theorem Rel.forget {s' : St} (hR : Rel S0 w0 n s a w) (h : ∀ i, s' i = s i ∨ s' i = .dead) (hrf : ∀ i j, (s' i).refs j = true → s' j = s j) : Rel S0 w0 n s' a w := by
  have hblk : ∀ j c, blkOf (s' j) (tmOf a j) = some c → blkOf (s j) (tmOf a j) = some c := by
    intro j c hc
    rcases h j with e | e <;> rw [e] at hc
    · exact hc
    · cases hc
  have hsub : ∀ c, Shared S0 w0.heap.size w s (tmOf a) c → Shared S0 w0.heap.size w s' (tmOf a) c := fun c hc => ⟨hc.1, hc.2.1, fun j hj => hc.2.2 j (hblk j c hj)⟩
  refine ⟨hR.defers, hR.size, hR.below, hR.lt, fun i => ?_, fun i j b hi hj => hR.inj i j b (hblk i b hi) (hblk j b hj), fun i hi => ?_, fun i j hij => ?_, hR.pin⟩
  · rcases h i with e | e
    · rw [e]
      refine (hR.rep i).mono hsub (fun _ _ => rfl) (fun _ _ => rfl) (fun k hk => ?_)
      have := hrf i k (by rw [e]; exact AV.refs_of_refsL hk)
      exact ⟨rfl, fun h => by rw [this]; exact ⟨h, rfl, rfl⟩, fun c hc => by rw [this]; exact hc⟩
    · rw [e]; trivial
  · rcases h i with e | e
    · rw [e]; exact hR.out i hi
    · exact e
  · rw [hrf i j hij]
    rcases h i with e | e <;> rw [e] at hij
    · exact hR.wf i j hij
    · cases hij

/-- A slice of the call's own, told as a slice that nobody writes to any more. -/
def frozenAV : AV → AV
  | .own _ size xs => .x (.one (.list size xs))
  | a => a

def freeze (s : St) (i : Nat) : St := fun j => if j = i then frozenAV (s i) else if (s j).refs i then .dead else s j

theorem own_list {S : Nat → Prop} {B e size : Nat} {v : Value} {xs : List (List CV)} {us : List Value} (hown : w.ownsRow B e size v xs.length us) (hl : RepL w S xs.flatten us) (hx : ∀ x ∈ xs, x.length = size) (hm : xs.length ≤ maxLen)
    (hS : ∀ b, v.ownBlock = some b → S b) : RepC w S (.list size xs) v := by
  rcases hown.2 with ⟨rfl, h0⟩ | ⟨g, cap, cur, hv, hb, hh, hn, hcm, hcs, ht⟩
  · have : xs = [] := List.eq_nil_of_length_eq_zero h0
    subst this
    exact .list0 _ _ _ (by simp) (fun _ => rfl)
  · have hblk : v.ownBlock = some g := by rw [hv]; rfl
    subst hv
    refine .list ⟨g, 0, none⟩ cap size xs (fun j => us.getD j undef) (hS g hblk) rfl hn hcm hx (fun j c hj => ?_) (fun j c hj => ?_)
    · obtain ⟨u, hu, _⟩ := hl.2 j c hj
      have := hown.cells hblk j u hu
      rw [this, List.getD_eq_getElem?_getD, hu]
      rfl
    · obtain ⟨u, hu, hr⟩ := hl.2 j c hj
      simp only [List.getD_eq_getElem?_getD, hu, Option.getD_some]
      exact hr

theorem Rel.freeze {i e size : Nat} {xs : List (List CV)} (hR : Rel S0 w0 n s a w) (hi : s i = .own e size xs) : Rel S0 w0 n (Ab.freeze s i) a w := by
  have hfi : Ab.freeze s i i = .x (.one (.list size xs)) := by simp [Ab.freeze, hi, frozenAV]
  have hfo : ∀ j, j ≠ i → Ab.freeze s i j = s j ∨ ((s j).refs i = true ∧ Ab.freeze s i j = .dead) := by
    intro j hj
    unfold Ab.freeze
    by_cases hr : (s j).refs i = true
    · exact .inr ⟨hr, by simp [hj, hr]⟩
    · exact .inl (by simp [hj, hr])
  have hblk : ∀ j c, blkOf (Ab.freeze s i j) (tmOf a j) = some c → j ≠ i ∧ blkOf (s j) (tmOf a j) = some c := by
    intro j c hc
    by_cases hj : j = i
    · subst hj; rw [hfi] at hc; cases hc
    · rcases hfo j hj with e | ⟨_, e⟩ <;> rw [e] at hc
      · exact ⟨hj, hc⟩
      · cases hc
  have hsub : ∀ c, Shared S0 w0.heap.size w s (tmOf a) c → Shared S0 w0.heap.size w (Ab.freeze s i) (tmOf a) c := fun c hc => ⟨hc.1, hc.2.1, fun j hj => hc.2.2 j (hblk j c hj).2⟩
  refine ⟨hR.defers, hR.size, hR.below, hR.lt, fun j => ?_, fun j k b hj hk => hR.inj j k b (hblk j b hj).2 (hblk k b hk).2, fun j hj => ?_, fun j k hjk => ?_, hR.pin⟩
  · by_cases hj : j = i
    · subst hj
      rw [hfi]
      have h := hR.rep j
      rw [hi] at h
      obtain ⟨us, hown, hl, hx, hm, hO⟩ := h
      refine own_list hown (hl.mono hsub (fun _ _ => rfl)) hx hm (fun b hb => ?_)
      have hlt := hown.lt b hb
      refine ⟨.inr (hO b hb), hlt.2, fun k hk => ?_⟩
      obtain ⟨hkj, hkb⟩ := hblk k b hk
      exact hkj (hR.inj k j b hkb (by rw [hi]; exact hb))
    · rcases hfo j hj with e | ⟨_, e⟩
      · rw [e]
        refine (hR.rep j).mono hsub (fun _ _ => rfl) (fun _ _ => rfl) (fun k hk => ?_)
        have hki : k ≠ i := by
          rintro rfl
          have := AV.refs_of_refsL hk
          rcases hfo j hj with e' | ⟨_, e'⟩
          · unfold Ab.freeze at e'
            simp [hj, this] at e'
            rw [← e'] at hk
            simp [AV.refsL] at hk
          · rw [e] at e'
            rw [e'] at hk
            simp [AV.refsL] at hk
        have hown : (s k).isOwner = true → Ab.freeze s i k = s k := by
          intro ho
          rcases hfo k hki with e' | ⟨hr, _⟩
          · exact e'
          · rw [refs_owner hr] at ho; cases ho
        refine ⟨rfl, fun h => by rw [hown h]; exact ⟨h, rfl, rfl⟩, fun c hc => ?_⟩
        have ho : (s k).isOwner = true := by
          cases h : (s k).isOwner with
          | true => rfl
          | false => rw [blkOf_notOwner h] at hc; cases hc
        rw [hown ho]; exact hc
      · rw [e]; trivial
  · by_cases hji : j = i
    · subst hji; have := hR.out j hj; rw [this] at hi; cases hi
    · rcases hfo j hji with e | ⟨_, e⟩
      · rw [e]; exact hR.out j hj
      · exact e
  · by_cases hj : j = i
    · subst hj; rw [hfi] at hjk; cases hjk
    · rcases hfo j hj with e | ⟨_, e⟩
      · rw [e] at hjk
        have hko := hR.wf j k hjk
        have hki : k ≠ i := by
          rintro rfl
          have : Ab.freeze s k j = .dead := by unfold Ab.freeze; simp [hj, hjk]
          rw [e] at this
          rw [this] at hjk; cases hjk
        rcases hfo k hki with e' | ⟨hr, _⟩
        · rw [e']; exact hko
        · rw [refs_owner hr] at hko; cases hko
      · rw [e] at hjk; cases hjk

/-- A SLICE OF THE CALL'S OWN GOES OVER TO SLOT d; it may have grown on the way. -/
theorem Rel.take {i d : Nat} {r : AV} {v : Value} {w' : World} (hR : Rel S0 w0 n s a w) (hd : S0.m ≤ d ∧ d < n) (hi : (s i).isOwner = true)
    (hg : w.grownBy w' (blkOf (s i) (tmOf a i)))
    (hbr : ∀ b, blkOf r v = some b → blkOf (s i) (tmOf a i) = some b ∨ w.heap.size ≤ b)
    (hrf : ∀ j, r.refs j = false)
    (hr : ∀ (s' : St) (tm' : Nat → Value) (S : Nat → Prop), (∀ c, Shared S0 w0.heap.size w s (tmOf a) c → S c) → RepAV w' S (OwnB S0 w0.heap.size) s' tm' r v) :
    Rel S0 w0 n (Ab.put (Ab.put s i .dead) d r) (a.put (some d) v) w' := by
  have hdt : d < a.tmps.size := by rw [hR.size]; exact hd.2
  have htmo : ∀ j, j ≠ d → tmOf (a.put (some d) v) j = tmOf a j := fun j hj => by rw [tmOf_put a d v hdt, if_neg hj]
  have htmd : tmOf (a.put (some d) v) d = v := by rw [tmOf_put a d v hdt, if_pos rfl]
  -- the state behind the first step
  have h1i : Ab.put s i .dead i = .dead := put_same rfl
  have h1 : ∀ j, Ab.put s i .dead j = s j ∧ j ≠ i ∧ (s j).refs i = false ∨ Ab.put s i .dead j = .dead := by
    intro j
    by_cases hj : j = i
    · subst hj; exact .inr h1i
    · cases hr : (s j).refs i with
      | true =>
        refine .inr ?_
        unfold Ab.put
        rw [hi]
        simp [hj, hr]
      | false => exact .inl ⟨put_keeps hj hr, hj, rfl⟩
  have h2d : Ab.put (Ab.put s i .dead) d r d = r := put_same (hrf d)
  have h2 : ∀ j, j ≠ d → (Ab.put (Ab.put s i .dead) d r j = s j ∧ j ≠ i ∧ (s j).refs i = false ∧ ((s d).isOwner = true → d ≠ i → (s j).refs d = false)) ∨ Ab.put (Ab.put s i .dead) d r j = .dead := by
    intro j hj
    rcases put_other (s := Ab.put s i .dead) (v := r) hj with e | ⟨_, _, e⟩
    · rcases h1 j with ⟨e1, hji, hjr⟩ | e1
      · by_cases hsd : (s d).isOwner = true ∧ d ≠ i
        · cases hjd : (s j).refs d with
          | false => exact .inl ⟨by rw [e, e1], hji, hjr, fun _ _ => rfl⟩
          | true =>
            refine .inr ?_
            have hd1 : (Ab.put s i .dead d).isOwner = true := by rw [put_owner hsd.2 hsd.1]; exact hsd.1
            exact put_killed hj hd1 (by rw [e1]; exact hjd)
        · exact .inl ⟨by rw [e, e1], hji, hjr, fun a b => absurd ⟨a, b⟩ hsd⟩
      · exact .inr (by rw [e, e1])
    · exact .inr e
  have hblk : ∀ j b, blkOf (Ab.put (Ab.put s i .dead) d r j) (tmOf (a.put (some d) v) j) = some b → (j = d ∧ blkOf r v = some b) ∨ (j ≠ d ∧ j ≠ i ∧ blkOf (s j) (tmOf a j) = some b) := by
    intro j b hb
    by_cases hj : j = d
    · subst hj; rw [htmd, h2d] at hb; exact .inl ⟨rfl, hb⟩
    · rw [htmo j hj] at hb
      rcases h2 j hj with ⟨e, hji, _⟩ | e <;> rw [e] at hb
      · exact .inr ⟨hj, hji, hb⟩
      · cases hb
  have hold : ∀ c, Shared S0 w0.heap.size w s (tmOf a) c → w'.heap[c]? = w.heap[c]? := fun c hc => hg.block c hc.2.1 (fun e => hc.2.2 i e.symm)
  have hsub : ∀ c, Shared S0 w0.heap.size w s (tmOf a) c → Shared S0 w0.heap.size w' (Ab.put (Ab.put s i .dead) d r) (tmOf (a.put (some d) v)) c := by
    intro c hc
    refine ⟨hc.1, Nat.lt_of_lt_of_le hc.2.1 hg.size, fun j hj => ?_⟩
    rcases hblk j c hj with ⟨_, h⟩ | ⟨_, _, h⟩
    · rcases hbr c h with h' | h'
      · exact hc.2.2 i h'
      · have := hc.2.1; omega
    · exact hc.2.2 j h
  refine ⟨hR.defers, by simp [Act.put, hR.size], ?_, hR.lt, ?_, ?_, ?_, put_wf (put_wf hR.wf (fun j h => by cases h)) (fun j h => by rw [hrf j] at h; cases h), fun j hj => by rw [htmo j (by omega)]; exact hR.pin j hj⟩
  · exact hR.below.grown hg (fun k hk => ((hR.rep i).blk_lt hk).1)
  · intro j
    by_cases hj : j = d
    · subst hj
      rw [htmd, h2d]
      exact hr _ _ _ hsub
    · rw [htmo j hj]
      rcases h2 j hj with ⟨e, hji, hjr, hjd⟩ | e
      · rw [e]
        refine (hR.rep j).mono hsub hold (fun c hc => ?_) (fun k hk => ?_)
        · exact hg.block c ((hR.rep j).blk_lt hc).2 (fun h => hji (hR.inj j i c hc h.symm))
        · have hkr := AV.refs_of_refsL hk
          have hki : k ≠ i := by rintro rfl; rw [hkr] at hjr; cases hjr
          have hko := (hR.rep j).leads hk
          have hkd : k ≠ d := by
            rintro rfl
            rw [hjd hko hki] at hkr; cases hkr
          have hks : Ab.put (Ab.put s i .dead) d r k = s k := by
            rcases h2 k hkd with ⟨e', _⟩ | e'
            · exact e'
            · exfalso
              have h3 : Ab.put s i .dead k = s k := put_owner hki hko
              have h4 : Ab.put (Ab.put s i .dead) d r k = Ab.put s i .dead k := put_owner hkd (by rw [h3]; exact hko)
              rw [h4, h3] at e'
              rw [e'] at hko; cases hko
          exact ⟨htmo k hkd, fun h => by rw [hks]; exact ⟨h, rfl, rfl⟩, fun c hc => by rw [hks]; exact hc⟩
      · rw [e]; trivial
  · intro j k b hj hk
    rcases hblk j b hj with ⟨hj', h3⟩ | ⟨hj', hji, h3⟩ <;> rcases hblk k b hk with ⟨hk', h4⟩ | ⟨hk', hki, h4⟩
    · rw [hj', hk']
    · exfalso
      rcases hbr b h3 with h5 | h5
      · exact hki (hR.inj k i b h4 h5)
      · have := ((hR.rep k).blk_lt h4).2; omega
    · exfalso
      rcases hbr b h4 with h5 | h5
      · exact hji (hR.inj j i b h3 h5)
      · have := ((hR.rep j).blk_lt h3).2; omega
    · exact hR.inj j k b h3 h4
  · intro j hj
    have hjd : j ≠ d := by omega
    rcases h2 j hjd with ⟨e, _⟩ | e
    · rw [e]; exact hR.out j hj
    · exact e

end
end Go.Ab
