/-
  What is handed over, and what is written to no more behind it.
-/
import Derived.Test.YtejhjdpafdpjlaaDoorAbMem
namespace Go.Ab
open Go Go.RowKit
set_option linter.unusedSectionVars false
variable [Amb]


theorem flatten_length {xs : List (List CV)} {size : Nat} (hx : ∀ x ∈ xs, x.length = size) : xs.flatten.length = xs.length * size := by
  induction xs with
  | nil => simp
  | cons x xs ih =>
    simp only [List.flatten_cons, List.length_append, List.length_cons]
    rw [ih (fun y hy => hx y (by simp [hy])), hx x (by simp), Nat.add_mul]; omega

theorem view_list {s : St} {tm : Nat → Value} {i e size : Nat} {xs : List (List CV)} {S S' : Nat → Prop} {B : Nat → Prop} {w : World} {lo len : Nat} {wh : Bool} {v : Value} {us : List Value} (hs : s i = .own e size xs) (h : RepAV w S' B s tm (.view i lo len wh) v)
    (hown : w.ownsRow 0 e size (tm i) xs.length us) (hl : RepL w S xs.flatten us) (hx : ∀ x ∈ xs, x.length = size) (hS : ∀ b, (tm i).ownBlock = some b → S b) : RepC w S (.list size ((xs.drop lo).take len)) v := by
  obtain ⟨_, hle, hv⟩ := h
  rw [hs] at hle
  have hle' : lo + len ≤ xs.length := hle
  have hwl : ((xs.drop lo).take len).length = len := by rw [List.length_take, List.length_drop]; omega
  rcases hv with ⟨rfl, h0⟩ | ⟨b, off, cap, rfl, hc, hm, hk, hz, _⟩
  · have : (xs.drop lo).take len = [] := List.eq_nil_of_length_eq_zero (by omega)
    rw [this]
    exact .list0 none 0 size (by simp) (fun _ => rfl)
  · by_cases h0 : len = 0
    · have : (xs.drop lo).take len = [] := List.eq_nil_of_length_eq_zero (by omega)
      rw [this, h0]
      exact .list0 (some _) cap size hm (fun h => by cases h)
    · have hoff := hz (by omega)
      rw [hs] at hk hoff
      have hb : (tm i).ownBlock = some b := hk
      have hoff' : off = lo * size := hoff
      have hat : ∀ (j : Nat) (c : CV), ((xs.drop lo).take len).flatten[j]? = some c → xs.flatten[lo * size + j]? = some c := by
        intro j c hj
        rw [flatten_take (fun x hx' => hx x (List.mem_of_mem_drop hx')), flatten_drop hx, List.getElem?_take, List.getElem?_drop] at hj
        split at hj
        · exact hj
        · cases hj
      have hcell : ∀ (j : Nat) (c : CV), xs.flatten[j]? = some c → ∃ u, us[j]? = some u ∧ RepC w S c u ∧ w.cell? ⟨b, j, none⟩ = some u := by
        intro j c hj
        obtain ⟨u, hu, hr⟩ := hl.2 j c hj
        have := hown.cells hb j u hu
        rw [addr_add_lit, Nat.zero_add] at this
        exact ⟨u, hu, hr, this⟩
      rw [show Value.slice (some ⟨b, off, none⟩) len cap = Value.slice (some ⟨b, off, none⟩) ((xs.drop lo).take len).length cap by rw [hwl]]
      refine .list ⟨b, off, none⟩ cap size ((xs.drop lo).take len) (fun j => us.getD (lo * size + j) undef) (hS b hb) rfl (by omega) hm (fun x hx' => hx x (List.mem_of_mem_drop (List.mem_of_mem_take hx'))) (fun j c hj => ?_) (fun j c hj => ?_)
      · obtain ⟨u, hu, _, hc⟩ := hcell _ c (hat j c hj)
        rw [addr_add_lit, hoff', List.getD_eq_getElem?_getD, hu]
        exact hc
      · obtain ⟨u, hu, hr, _⟩ := hcell _ c (hat j c hj)
        simp only [List.getD_eq_getElem?_getD, hu, Option.getD_some]
        exact hr

/-- The head of a slice of the call's own is a slice of its own. -/
theorem view_trunc {s : St} {tm : Nat → Value} {i e size : Nat} {xs : List (List CV)} {S S' : Nat → Prop} {B : Nat → Prop} {w : World} {lo len : Nat} {v : Value} {us : List Value} (hs : s i = .own e size xs) (h : RepAV w S' B s tm (.view i lo len true) v)
    (hown : w.ownsRow 0 e size (tm i) xs.length us) (hl : RepL w S xs.flatten us) (hx : ∀ x ∈ xs, x.length = size) :
    w.ownsRow 0 e size v (xs.take len).length (us.take (len * size)) ∧ (∀ b, v.ownBlock = some b → (tm i).ownBlock = some b) ∧ RepL w S (xs.take len).flatten (us.take (len * size)) ∧ len ≤ xs.length := by
  obtain ⟨_, hle, hvv⟩ := h
  rw [hs] at hle
  have hle' : lo + len ≤ xs.length := hle
  have hul : us.length = xs.length * size := hown.1
  have hmul : len * size ≤ xs.length * size := Nat.mul_le_mul_right _ (by omega)
  have htl : (xs.take len).length = len := by rw [List.length_take]; omega
  have hlt : RepL w S (xs.take len).flatten (us.take (len * size)) := by
    rw [flatten_take hx len]
    refine ⟨by simp only [List.length_take, hul, flatten_length hx], fun j c hj => ?_⟩
    rw [List.getElem?_take] at hj ⊢
    split at hj
    · rename_i hlt; rw [if_pos hlt]; exact hl.2 _ _ hj
    · cases hj
  rw [htl]
  rcases hvv with ⟨h1, h0⟩ | ⟨bb, off, cap, h1, hc, hmm, hk', _, hw⟩
  · subst h0; rw [h1]; exact ⟨by simpa using World.ownsRow_nil w 0 e size, fun b h => (by cases h), hlt, by omega⟩
  · obtain ⟨_, l, htm⟩ := hw rfl
    rw [h1]
    rcases hown.2 with ⟨hn, _⟩ | ⟨g, cap', cur, hv', _, hh, hnc, hcm, hcs, htake⟩
    · rw [htm] at hn; cases hn
    · rw [htm] at hv'
      simp only [Value.slice.injEq, Option.some.injEq, Addr.mk.injEq] at hv'
      obtain ⟨⟨rfl, rfl, _⟩, rfl, rfl⟩ := hv'
      refine ⟨⟨by rw [List.length_take, hul]; omega, .inr ⟨bb, cap, cur, rfl, Nat.zero_le _, hh, hc, hmm, hcs, ?_⟩⟩, fun b h => by rw [htm]; exact h, hlt, by omega⟩
      rw [← htake, List.take_take]
      congr 1; omega

/-- An operand that is handed to a call: a slice of the call's own is read as a slice. -/
def argX (s : St) (x : Operand) : Prop × Option XV :=
  match sv s x with
  | (p, .x xv) => (p, some xv)
  | (p, .alias i) => match s i with
    | .own _ size xs => (p, some (.one (.list size xs)))
    | _ => (False, none)
  | (p, .view i lo len _) => match s i with
    | .own _ size xs => (p, some (.one (.list size ((xs.drop lo).take len))))
    | _ => (False, none)
  | _ => (False, none)


section
variable {P : Program} {S0 : Env} {w0 w : World} {n : Nat} {s : St} {a : Act}

/-- The call's own blocks may be read for the while of a call. -/
def Lent (S0 : Env) (B : Nat) (w : World) : Nat → Prop := fun b => (S0.rd b ∨ OwnB S0 B b) ∧ b < w.heap.size

theorem argX_ok (hR : Rel S0 w0 n s a w) {x : Operand} {p : Prop} {xv : XV} (h : argX s x = (p, some xv)) (hp : p) : RepX w (Lent S0 w0.heap.size w) xv (a.eval x) := by
  have hsv := hR.sv x
  unfold argX at h
  split at h
  · rename_i q xv' e
    simp only [Prod.mk.injEq, Option.some.injEq] at h
    obtain ⟨rfl, rfl⟩ := h
    rw [e] at hsv
    exact RepX.mono (hsv hp) (fun b hb => ⟨hb.1, hb.2.1⟩) (fun _ _ => rfl)
  · rename_i q i e
    split at h
    · rename_i e' size xs hs
      simp only [Prod.mk.injEq, Option.some.injEq] at h
      obtain ⟨rfl, rfl⟩ := h
      rw [e] at hsv
      obtain ⟨hv, _⟩ := hsv hp
      have hi := hR.rep i
      rw [hs] at hi
      obtain ⟨us, hown, hl, hx, hm, hO⟩ := hi
      rw [hv]
      exact own_list hown (hl.mono (fun b hb => ⟨hb.1, hb.2.1⟩) (fun _ _ => rfl)) hx hm (fun b hb => ⟨.inr (hO b hb), (hown.lt b hb).2⟩)
    · simp at h
  · rename_i q i lo len wh e
    split at h
    · rename_i e' size xs hs
      simp only [Prod.mk.injEq, Option.some.injEq] at h
      obtain ⟨rfl, rfl⟩ := h
      rw [e] at hsv
      have hi := hR.rep i
      rw [hs] at hi
      obtain ⟨us, hown, hl, hx, hm, hO⟩ := hi
      exact view_list hs (hsv hp) hown (hl.mono (fun b hb => ⟨hb.1, hb.2.1⟩) (fun _ _ => rfl)) hx (fun b hb => ⟨.inr (hO b hb), (hown.lt b hb).2⟩)
    · simp at h
  · simp at h

theorem frozenAV_own {a : AV} : (∃ e size xs, a = .own e size xs) ∨ frozenAV a = a := by
  cases a with
  | own e size xs => exact .inl ⟨e, size, xs, rfl⟩
  | _ => exact .inr rfl

theorem freeze_any (hR : Rel S0 w0 n s a w) (i : Nat) : Rel S0 w0 n (freeze s i) a w := by
  rcases frozenAV_own (a := s i) with ⟨e, size, xs, hs⟩ | hs
  · exact hR.freeze hs
  · have hi : freeze s i i = s i := by unfold freeze; simp [hs]
    have ho : ∀ j, j ≠ i → (s j).refs i = false → freeze s i j = s j := by intro j hj hr; unfold freeze; simp [hj, hr]
    have hk : ∀ j, j ≠ i → (s j).refs i = true → freeze s i j = .dead := by intro j hj hr; unfold freeze; simp [hj, hr]
    refine hR.forget (fun j => ?_) (fun j k hjk => ?_)
    · by_cases hj : j = i
      · subst hj; exact .inl hi
      · cases hr : (s j).refs i with
        | true => exact .inr (hk j hj hr)
        | false => exact .inl (ho j hj hr)
    · by_cases hki : k = i
      · subst hki; exact hi
      · have hsj : freeze s i j = s j := by
          by_cases hj : j = i
          · subst hj; exact hi
          · cases hr : (s j).refs i with
            | true => rw [hk j hj hr] at hjk; cases hjk
            | false => exact ho j hj hr
        rw [hsj] at hjk
        have hko := hR.wf j k hjk
        refine ho k hki ?_
        cases hr : (s k).refs i with
        | true => rw [refs_owner hr] at hko; cases hko
        | false => rfl

/-- Which slots of the call's own are handed over. -/
def lends (s : St) : List Operand → List Nat
  | [] => []
  | x :: r => match (sv s x).2 with
    | .alias i => i :: lends s r
    | .view i _ _ _ => i :: lends s r
    | _ => lends s r

def freezeL (s : St) : List Nat → St
  | [] => s
  | i :: r => freezeL (freeze s i) r

theorem freezeL_ok : ∀ (l : List Nat) (s : St), Rel S0 w0 n s a w → Rel S0 w0 n (freezeL s l) a w
  | [], _, h => h
  | i :: r, _, h => freezeL_ok r _ (freeze_any h i)

theorem freeze_owner {i k : Nat} (h : (freeze s i k).isOwner = true) : freeze s i k = s k := by
  unfold freeze at h ⊢
  by_cases hk : k = i
  · subst hk
    simp only [if_pos] at h ⊢
    rcases frozenAV_own (a := s k) with ⟨e, size, xs, hs⟩ | hs
    · rw [hs] at h; cases h
    · exact hs
  · simp only [if_neg hk] at h ⊢
    cases hr : (s k).refs i with
    | true => rw [hr] at h; cases h
    | false => rfl

theorem freezeL_owner : ∀ (l : List Nat) (s : St) (k : Nat), (freezeL s l k).isOwner = true → freezeL s l k = s k
  | [], _, _, _ => rfl
  | i :: r, s, k, h => by
    have h1 := freezeL_owner r (freeze s i) k h
    simp only [freezeL] at h ⊢
    rw [h1] at h ⊢
    exact freeze_owner h

theorem freezeL_frozen : ∀ (l : List Nat) (s : St) (i : Nat), (∃ e size xs, s i = .own e size xs) → i ∈ l → (freezeL s l i).isOwner = false
  | [], _, _, _, h => by cases h
  | j :: r, s, i, hs, hm => by
    simp only [freezeL]
    by_cases hij : i = j
    · subst hij
      cases ho : (freezeL (freeze s i) r i).isOwner with
      | false => rfl
      | true =>
        have := freezeL_owner r _ _ ho
        rw [this] at ho
        obtain ⟨e, size, xs, hs⟩ := hs
        unfold freeze at ho
        simp [hs, frozenAV, AV.isOwner] at ho
    · refine freezeL_frozen r _ i ?_ (by simpa [hij] using hm)
      obtain ⟨e, size, xs, hs⟩ := hs
      refine ⟨e, size, xs, ?_⟩
      unfold freeze
      simp [hij, hs, AV.refs]

/-- The arguments, where what is handed over is written to no more. -/
theorem argX_frozen (hR : Rel S0 w0 n s a w) {x : Operand} {p : Prop} {xv : XV} (h : argX s x = (p, some xv)) (hp : p) (l : List Nat) (hl : ∀ i, ((sv s x).2 = .alias i ∨ ∃ lo len wh, (sv s x).2 = .view i lo len wh) → i ∈ l) :
    RepX w (Shared S0 w0.heap.size w (freezeL s l) (tmOf a)) xv (a.eval x) := by
  have hsv := hR.sv x
  have hblk : ∀ k b, blkOf (freezeL s l k) (tmOf a k) = some b → (freezeL s l k).isOwner = true ∧ blkOf (s k) (tmOf a k) = some b := by
    intro k b hb
    have ho : (freezeL s l k).isOwner = true := by
      cases ho : (freezeL s l k).isOwner with
      | true => rfl
      | false => rw [blkOf_notOwner ho] at hb; cases hb
    rw [freezeL_owner l s k ho] at hb
    exact ⟨ho, hb⟩
  have hsub : ∀ b, Shared S0 w0.heap.size w s (tmOf a) b → Shared S0 w0.heap.size w (freezeL s l) (tmOf a) b := fun b hb => ⟨hb.1, hb.2.1, fun k hk => hb.2.2 k (hblk k b hk).2⟩
  unfold argX at h
  split at h
  · rename_i q xv' e
    simp only [Prod.mk.injEq, Option.some.injEq] at h
    obtain ⟨rfl, rfl⟩ := h
    rw [e] at hsv
    exact RepX.mono (hsv hp) hsub (fun _ _ => rfl)
  · rename_i q i e
    split at h
    · rename_i e' size xs hs
      simp only [Prod.mk.injEq, Option.some.injEq] at h
      obtain ⟨rfl, rfl⟩ := h
      have hil := hl i (.inl (by rw [e]))
      rw [e] at hsv
      obtain ⟨hv, _⟩ := hsv hp
      have hi := hR.rep i
      rw [hs] at hi
      obtain ⟨us, hown, hlr, hx, hm, hO⟩ := hi
      rw [hv]
      refine own_list hown (hlr.mono hsub (fun _ _ => rfl)) hx hm (fun b hb => ⟨.inr (hO b hb), (hown.lt b hb).2, fun k hk => ?_⟩)
      obtain ⟨ho, hkb⟩ := hblk k b hk
      have hki := hR.inj k i b hkb (by rw [hs]; exact hb)
      subst hki
      rw [freezeL_frozen l s k ⟨_, _, _, hs⟩ hil] at ho
      cases ho
    · simp at h
  · rename_i q i lo len wh e
    split at h
    · rename_i e' size xs hs
      simp only [Prod.mk.injEq, Option.some.injEq] at h
      obtain ⟨rfl, rfl⟩ := h
      have hil := hl i (.inr ⟨_, _, _, by rw [e]⟩)
      rw [e] at hsv
      have hi := hR.rep i
      rw [hs] at hi
      obtain ⟨us, hown, hlr, hx, hm, hO⟩ := hi
      refine view_list hs (hsv hp) hown (hlr.mono hsub (fun _ _ => rfl)) hx (fun b hb => ⟨.inr (hO b hb), (hown.lt b hb).2, fun k hk => ?_⟩)
      obtain ⟨ho, hkb⟩ := hblk k b hk
      have hki := hR.inj k i b hkb (by rw [hs]; exact hb)
      subst hki
      rw [freezeL_frozen l s k ⟨_, _, _, hs⟩ hil] at ho
      cases ho
    · simp at h
  · simp at h


/-- A value that is used: what must hold, and the value; a slice of the call's own is told as a slice that nobody writes to any more. -/
def uv (s : St) (x : Operand) : Prop × AV :=
  match argX s x with
  | (p, some xv) => (p, .x xv)
  | _ => (False, .dead)

theorem lends_mem {s : St} {x : Operand} {i : Nat} : ∀ {l : List Operand}, x ∈ l → ((sv s x).2 = .alias i ∨ ∃ lo len wh, (sv s x).2 = .view i lo len wh) → i ∈ lends s l
  | y :: r, hx, h => by
    rcases List.mem_cons.1 hx with rfl | hx
    · simp only [lends]
      rcases h with h | ⟨lo, len, wh, h⟩ <;> rw [h] <;> exact List.mem_cons_self
    · have := lends_mem hx h
      simp only [lends]
      split
      · exact List.mem_cons_of_mem _ this
      · exact List.mem_cons_of_mem _ this
      · exact this

theorem uv_ok (hR : Rel S0 w0 n s a w) (l : List Operand) {x : Operand} (hx : x ∈ l) (hp : (uv s x).1) : RepIn S0 w0 (freezeL s (lends s l)) a w (uv s x).2 (a.eval x) := by
  unfold uv at hp ⊢
  split at hp
  · rename_i p xv e
    exact argX_frozen hR e hp _ (fun i hi => lends_mem hx hi)
  · exact hp.elim

theorem uv_of_sv {s : St} {x : Operand} {p : Prop} {xv : XV} (h : sv s x = (p, .x xv)) : uv s x = (p, .x xv) ∧ lends s [x] = [] := by
  unfold uv argX
  simp only [h, lends]
  exact ⟨trivial, trivial⟩
theorem uv_notOwner (s : St) (x : Operand) : (uv s x).2.isOwner = false := by
  unfold uv; split <;> rfl
theorem uv_refs (s : St) (x : Operand) (j : Nat) : (uv s x).2.refs j = false := by
  unfold uv; split <;> rfl

end
end Go.Ab
