/- A part of the proof: lemmas and contracts of functions. -/
import Derived.Test.YtejhjdpafdpjlaaDoorAbStep2
import Derived.Lib.AppendZeros
namespace Go.Ab
open Go Go.RowKit
set_option linter.unusedSectionVars false
variable [Amb]

section
variable {P : Program} {S0 : Env} {w0 w : World} {n : Nat} {s : St} {a : Act}

theorem run_append_nothing (base : Nat) (t ty e : TypeId) (i : TypeInfo) (size : Nat) (ht : P.underlying t = some (.slice e)) (hi : P.info? e = some i)
    (v : Value) (n : Nat) (xs : List Value) (hown : w.ownsRow base e size v n xs) (c : Nat) : (Builtin.append_ #[t, t] ty #[v, .slice none 0 c]).run P w = .ok v w := by
  rcases hown.2 with ⟨rfl, rfl⟩ | ⟨g, cap, cur, rfl, _, _, hnc, _⟩
  · simp [Builtin.append_, run_underlying ht, sizeOf, typeInfo, hi, Builtin.lenOf, Builtin.firstCells]
  · simp [Builtin.append_, run_underlying ht, sizeOf, typeInfo, hi, Builtin.lenOf, Builtin.firstCells, hnc, storeCells]

/-- The bytes of an element. -/
def bytesT (P : Program) (e : TypeId) : Option Nat := (P.info? e).map (·.bytes)

/-- The elements that are appended. -/
def newsOf (s : St) (size : Nat) : AV → Option (List (List CV))
  | .x (.one .nil) => some []
  | .x (.one (.empty z)) => if z = size then some [] else none
  | .x (.one (.list z ys)) => if z = size then some ys else none
  | .alias j => match s j with
    | .own _ z ys => if z = size then some ys else none
    | _ => none
  | .view j lo len _ => match s j with
    | .own _ z ys => if z = size then some ((ys.drop lo).take len) else none
    | _ => none
  | _ => none

/-- Nil in its first use: a slice of the call's own with nothing in it. -/
def sourceOf (s : St) : AV → Option (Option Nat × Option TypeId × Nat × List (List CV))
  | .x (.one .nil) => some (none, none, 0, [])
  | .alias i => match s i with
    | .own e size xs => some (some i, some e, size, xs)
    | _ => none
  | .view i _ len true => match s i with
    | .own e size xs => some (some i, some e, size, xs.take len)
    | _ => none
  | _ => none

/-- append(s, make([]T, n)...): the number n stands for the slice. -/
def zerosOf : AV → Option Int
  | .x (.one (.int _ n)) => some n
  | _ => none

/-- append: what must hold, what is known behind it of the rest, and the value. -/
def aappend (P : Program) (s : St) (t t' : TypeId) (x y : Prop × AV) : Prop × St × AV :=
  match rowT P t with
  | some (e, size, zc) =>
    match bytesT P e, sourceOf s x.2, newsOf s size y.2 with
    | some bytes, some (some i, some e', size', xs), some ys => (x.1 ∧ y.1 ∧ t = t' ∧ e' = e ∧ size' = size ∧ (xs.length + ys.length) * bytes ≤ 140737488355328 ∧ xs.length + ys.length ≤ maxLen, put s i .dead, .own e size (xs ++ ys))
    | some bytes, some (none, _, _, _), some ys => (x.1 ∧ y.1 ∧ t = t' ∧ ys.length * bytes ≤ 140737488355328 ∧ ys.length ≤ maxLen, s, .own e size ys)
    | some bytes, some (none, _, _, _), none => match zerosOf y.2 with
      | some k => (x.1 ∧ y.1 ∧ (intT P t').isSome = true ∧ 0 < k ∧ k * bytes ≤ 140737488355328 ∧ k ≤ maxLen, s, .own e size (List.replicate k.toNat zc))
      | none => (False, s, .dead)
    | _, _, _ => (False, s, .dead)
  | none => (False, s, .dead)

theorem news_list {size : Nat} {ys : List (List CV)} {v : Value} {S : Nat → Prop} (hr : RepC w S (.list size ys) v) :
    ∃ (b : Option Addr) (c : Nat) (us : List Value), v = .slice b ys.length c ∧ (b = none → ys.length = 0) ∧ RepL w S ys.flatten us ∧ (∀ y ∈ ys, y.length = size) ∧ ys.length ≤ maxLen ∧
      ∀ ad, b = some ad → ∀ j u, us[j]? = some u → w.cell? (ad.add j) = some u := by
  cases hr with
  | list0 b c _ hc hn => exact ⟨b, c, [], rfl, fun _ => rfl, ⟨rfl, fun j c hj => by simp at hj⟩, fun y hy => (by cases hy), by simp, fun ad _ j u hj => by simp at hj⟩
  | list ad cap _ _ U hs hsp hc hm hx hU hrep =>
    have hl : ((List.range ys.flatten.length).map U).length = ys.flatten.length := by simp
    refine ⟨some ad, cap, (List.range ys.flatten.length).map U, rfl, fun h => (by cases h), ⟨hl, fun j c hj => ?_⟩, hx, by omega, fun ad' h j u hj => ?_⟩
    · have hlt := (List.getElem?_eq_some_iff.1 hj).1
      exact ⟨U j, by rw [List.getElem?_map, List.getElem?_range hlt]; rfl, hrep j c hj⟩
    · injection h with h
      subst h
      have hlt := (List.getElem?_eq_some_iff.1 hj).1
      rw [hl] at hlt
      have hu : u = U j := by rw [List.getElem?_map, List.getElem?_range hlt] at hj; injection hj with hj; exact hj.symm
      rw [hu]
      exact hU j _ (List.getElem?_eq_getElem hlt)

theorem newsOf_ok (hR : Rel S0 w0 n s a w) {size : Nat} {y : Prop × AV} {v : Value} {ys : List (List CV)} (hy : Knows S0 w0 s a w y v) (hp : y.1) (h : newsOf s size y.2 = some ys) :
    ∃ (b : Option Addr) (c : Nat) (us : List Value), v = .slice b ys.length c ∧ (b = none → ys.length = 0) ∧ RepL w (Shared S0 w0.heap.size w s (tmOf a)) ys.flatten us ∧ (∀ y ∈ ys, y.length = size) ∧ ys.length ≤ maxLen ∧
      ∀ ad, b = some ad → ∀ j u, us[j]? = some u → w.cell? (ad.add j) = some u := by
  obtain ⟨q, y⟩ := y
  have hr := hy hp
  dsimp only at h hr
  unfold newsOf at h
  split at h
  · injection h with h
    subst h
    obtain rfl := rep_nil hr
    exact ⟨none, 0, [], rfl, fun _ => rfl, ⟨rfl, fun j c hj => by simp at hj⟩, fun y hy => (by cases hy), by simp, fun ad h => by cases h⟩
  · split at h
    · injection h with h
      subst h
      cases hr with
      | empty b c _ hc => exact ⟨some b, c, [], rfl, fun _ => rfl, ⟨rfl, fun j c hj => by simp at hj⟩, fun y hy => (by cases hy), by simp, fun ad _ j u hj => by simp at hj⟩
    · cases h
  · split at h
    · rename_i z ys' hz
      subst hz
      injection h with h
      subst h
      cases hr with
      | list0 b c _ hc hn => exact ⟨b, c, [], rfl, fun _ => rfl, ⟨rfl, fun j c hj => by simp at hj⟩, fun y hy => (by cases hy), by simp, fun ad _ j u hj => by simp at hj⟩
      | list ad cap _ _ U hs hsp hc hm hx hU hrep =>
        have hl : ((List.range ys'.flatten.length).map U).length = ys'.flatten.length := by simp
        refine ⟨some ad, cap, (List.range ys'.flatten.length).map U, rfl, fun h => (by cases h), ⟨hl, fun j c hj => ?_⟩, hx, by omega, fun ad' h j u hj => ?_⟩
        · have hlt := (List.getElem?_eq_some_iff.1 hj).1
          exact ⟨U j, by rw [List.getElem?_map, List.getElem?_range hlt]; rfl, hrep j c hj⟩
        · injection h with h
          subst h
          have hlt := (List.getElem?_eq_some_iff.1 hj).1
          rw [hl] at hlt
          have hu : u = U j := by rw [List.getElem?_map, List.getElem?_range hlt] at hj; injection hj with hj; exact hj.symm
          rw [hu]
          exact hU j _ (List.getElem?_eq_getElem hlt)
    · cases h
  · rename_i i
    split at h
    · rename_i e z ys' hs
      split at h
      · rename_i hz
        subst hz
        injection h with h
        subst h
        obtain ⟨rfl, _⟩ := hr
        have hi := hR.rep i
        rw [hs] at hi
        obtain ⟨us, hown, hl, hx, hm, hO⟩ := hi
        rcases hown.2 with ⟨hv, h0⟩ | ⟨g, cap, cur, hv, _⟩
        · refine ⟨none, 0, us, by rw [hv, h0], fun _ => h0, hl, hx, hm, fun ad h => by cases h⟩
        · refine ⟨_, cap, us, hv, fun h => (by cases h), hl, hx, hm, fun ad h j u hj => ?_⟩
          injection h with h
          subst h
          exact hown.cells (g := g) (by rw [hv]; rfl) j u hj
      · cases h
    · cases h
  · rename_i i lo len wh
    split at h
    · rename_i e z ys' hs
      split at h
      · rename_i hz
        subst hz
        injection h with h
        subst h
        have hi := hR.rep i
        rw [hs] at hi
        obtain ⟨us, hown, hl, hx, hm, hO⟩ := hi
        obtain ⟨_, hle, hv⟩ := hr
        rw [hs] at hle
        have hle' : lo + len ≤ ys'.length := hle
        have hwl : ((ys'.drop lo).take len).length = len := by rw [List.length_take, List.length_drop]; omega
        have hwx : ∀ y ∈ (ys'.drop lo).take len, y.length = z := fun y hy => hx y (List.mem_of_mem_drop (List.mem_of_mem_take hy))
        have hat : ((ys'.drop lo).take len).flatten = (ys'.flatten.drop (lo * z)).take (len * z) := by rw [flatten_take (fun x hx' => hx x (List.mem_of_mem_drop hx')), flatten_drop hx]
        have hfl : ys'.flatten.length = ys'.length * z := flatten_length hx
        have hus : us.length = ys'.length * z := hown.1
        have hrl : RepL w (Shared S0 w0.heap.size w s (tmOf a)) ((ys'.drop lo).take len).flatten ((us.drop (lo * z)).take (len * z)) := by
          rw [hat]
          refine ⟨by simp only [List.length_take, List.length_drop, hfl, hus], fun j c hj => ?_⟩
          rw [List.getElem?_take, List.getElem?_drop] at hj
          split at hj
          · rename_i hlt
            obtain ⟨u, hu, hru⟩ := hl.2 _ c hj
            exact ⟨u, by rw [List.getElem?_take, if_pos hlt, List.getElem?_drop]; exact hu, hru⟩
          · cases hj
        rcases hv with ⟨rfl, h0⟩ | ⟨b, off, cap, rfl, hc, hmm, hk, hz, _⟩
        · exact ⟨none, 0, _, by rw [hwl, h0], fun _ => by rw [hwl, h0], hrl, hwx, by omega, fun ad h => by cases h⟩
        · refine ⟨some ⟨b, off, none⟩, cap, _, by rw [hwl], fun h => (by cases h), hrl, hwx, by omega, fun ad h j u hj => ?_⟩
          injection h with h
          subst h
          rw [List.getElem?_take, List.getElem?_drop] at hj
          split at hj
          · rename_i hlt
            have h0 : 0 < len := by
              rcases Nat.eq_zero_or_pos len with h0 | h0
              · rw [h0] at hlt; simp at hlt
              · exact h0
            have hoff := hz h0
            rw [hs] at hk hoff
            have := hown.cells (g := b) hk _ u hj
            rw [addr_add_lit, Nat.zero_add] at this
            rw [addr_add_lit, hoff]
            exact this
          · cases hj
      · cases h
    · cases h
  · cases h

theorem rowT_zero {t e : TypeId} {size : Nat} {zc : List CV} (h : rowT P t = some (e, size, zc)) : ∃ i z, P.underlying t = some (.slice e) ∧ P.info? e = some i ∧ i.zero = some z ∧ i.size = size ∧ 0 < size ∧ z.cells.size = size := by
  unfold rowT at h
  split at h
  · rename_i e' size' hT
    split at h
    · rename_i z hz
      split at h
      · rename_i hzl
        injection h with h
        simp only [Prod.mk.injEq] at h
        obtain ⟨rfl, rfl, rfl⟩ := h
        obtain ⟨i, hu, hi, hs, hp⟩ := sliceT_ok hT
        unfold zeroOf at hz
        rw [hi] at hz
        simp only at hz
        split at hz
        · rename_i zv hzv
          split at hz
          · injection hz with hz
            subst hz
            exact ⟨i, zv, hu, hi, hzv, hs, hp, by simpa using hzl⟩
          · cases hz
        · cases hz
      · cases h
    · cases h
  · cases h

theorem run_append_all {t ty e : TypeId} {size bytes : Nat} {zc : List CV} (hT : rowT P t = some (e, size, zc)) (hb : bytesT P e = some bytes) {v : Value} {n : Nat} {xs : List Value} {base : Nat}
    (hown : w.ownsRow base e size v n xs) {b : Option Addr} {m c : Nat} {us : List Value} (hul : us.length = m * size) (hb0 : b = none → m = 0) (hcell : ∀ ad, b = some ad → ∀ j u, us[j]? = some u → w.cell? (ad.add j) = some u)
    (h1 : ∀ u ∈ us, u.oneCell' = true) (h63 : n + m ≤ maxLen) (hbytes : (n + m) * bytes ≤ 140737488355328) (hbase : base ≤ w.heap.size) :
    ∃ v' w', (Builtin.append_ #[t, t] ty #[v, .slice b m c]).run P w = .ok v' w' ∧ w'.ownsRow base e size v' (n + m) (xs ++ us) ∧ w.grownBy w' v.ownBlock ∧ (v'.ownBlock = v.ownBlock ∨ v'.ownBlock = some w.heap.size) := by
  obtain ⟨i, z, hu, hi, hz, hs, hpos, hzs⟩ := rowT_zero hT
  have hby : i.bytes = bytes := by unfold bytesT at hb; rw [hi] at hb; simpa using hb
  cases b with
  | none =>
    obtain rfl := hb0 rfl
    have hus : us = [] := List.eq_nil_of_length_eq_zero (by simpa using hul)
    subst hus
    exact ⟨v, w, run_append_nothing base t ty e i size hu hi v n xs hown c, by simpa using hown, World.grownBy.refl w _, .inl rfl⟩
  | some ad =>
    obtain ⟨v', w', hrun, h2, h3, _, h5⟩ := run_append_own_at (P := P) w base t ty e i z size bytes hu hi hz hs hby hzs hpos v n xs hown ad m c us hul (hcell ad rfl) h1 h63 hbytes hbase
    exact ⟨v', w', hrun, h2, h3, h5⟩

theorem run_append_zeros {t t' ty e : TypeId} {size bytes : Nat} {zc : List CV} (hT : rowT P t = some (e, size, zc)) (hb : bytesT P e = some bytes) (hk : (intT P t').isSome = true) (k : IntKind) (m : Nat) (h0 : 0 < m) (h7 : m ≤ maxLen) (h6 : m * bytes ≤ 140737488355328) :
    ∃ v w' us, (Builtin.append_ #[t, t'] ty #[.slice none 0 0, .int k m]).run P w = .ok v w' ∧ w'.ownsRow 0 e size v (List.replicate m zc).length us ∧ (∀ S, RepL w S (List.replicate m zc).flatten us) ∧ (∀ x ∈ List.replicate m zc, x.length = size) ∧ w.grownBy w' none ∧ v.ownBlock = some w.heap.size := by
  obtain ⟨i, z, hu, hi, hz, hs, hpos, hzs⟩ := rowT_zero hT
  obtain ⟨i', z', _, hi', _, _, hzr, hrep, hzl⟩ := rowT_ok (w := w) hT
  have hzz : z' = z := by
    have : (zeroValue e).run P w = .ok z w := by simp [zeroValue, typeInfo, hi, hz]
    rw [this] at hzr
    injection hzr with h; exact h.symm
  subst hzz
  have hby : i.bytes = bytes := by unfold bytesT at hb; rw [hi] at hb; simpa using hb
  have hkn : ∃ kn, P.underlying t' = some (.int kn) := by
    unfold intT at hk
    split at hk
    · rename_i kn h; exact ⟨kn, h⟩
    · cases hk
  obtain ⟨kn, hkn⟩ := hkn
  have hrun := Go.Lib.run_append_nil_zeros (P := P) w t t' ty e i z' k kn hu hkn hi hz m h0 (by omega) (by simp only [maxLen] at h7; omega) (by rw [hby]; omega)
  have hge := grownCap_ge w m 0 e
  have hcm := grownCap_le_maxLen w m 0 e h7
  refine ⟨_, _, (Builtin.zeroCells z'.cells m).toList, hrun, ⟨by simp [size_zeroCells, hzs], .inr ⟨w.heap.size, grownCap w m 0 e, _, by rw [List.length_replicate], Nat.zero_le _, heap_alloc_new w.drew _, by simpa using hge, hcm, ?_, ?_⟩⟩, fun S => ?_, fun x hx => by rw [List.eq_of_mem_replicate hx, hzl], ⟨rfl, rfl, rfl, by simp, fun k hk _ => Lib.alloc_old w.drew _ k hk⟩, rfl⟩
  · simp only [Array.size_append, size_zeroCells, hzs, ← Nat.add_mul]
    congr 1; omega
  · rw [List.length_replicate, Array.toList_append, List.take_append_of_le_length (by simp [size_zeroCells, hzs]), List.take_of_length_le (by simp [size_zeroCells, hzs])]
  · have := zeros_rep (hrep S) m
    exact this

theorem ownRep {S : Nat → Prop} {xs ys : List (List CV)} {us vs : List Value} (hl : RepL w S xs.flatten us) (hk : RepL w S ys.flatten vs) : RepL w S (xs ++ ys).flatten (us ++ vs) := by
  rw [List.flatten_append]
  refine ⟨by simp [hl.1, hk.1], fun j c hj => ?_⟩
  rw [List.getElem?_append] at hj ⊢
  rw [hl.1]
  split at hj
  · rename_i h; rw [if_pos h]; exact hl.2 _ _ hj
  · rename_i h; rw [if_neg h]; exact hk.2 _ _ hj

theorem aappend_ok (hR : Rel S0 w0 n s a w) {t t' ty : TypeId} {x y : Prop × AV} {u v : Value} {d : Nat} (hd : S0.m ≤ d ∧ d < n) (hx : Knows S0 w0 s a w x u) (hy : Knows S0 w0 s a w y v) (hp : (aappend P s t t' x y).1) :
    ∃ r w', (Builtin.append_ #[t, t'] ty #[u, v]).run P w = .ok r w' ∧ Rel S0 w0 n (Ab.put (aappend P s t t' x y).2.1 d (aappend P s t t' x y).2.2) (a.put (some d) r) w' := by
  unfold aappend at hp ⊢
  split at hp
  · rename_i e size zc hT
    split at hp
    · rename_i bytes i e' size' xs ys hb hsrc hnews
      obtain ⟨h1, h2, rfl, rfl, rfl, h6, h7⟩ := hp
      obtain ⟨p, x⟩ := x
      unfold sourceOf at hsrc
      dsimp only at hsrc h1
      split at hsrc
      · simp at hsrc
      · rename_i i'
        split at hsrc
        · rename_i e2 size2 xs2 hs
          simp only [Option.some.injEq, Prod.mk.injEq] at hsrc
          obtain ⟨rfl, rfl, rfl, rfl⟩ := hsrc
          obtain ⟨rfl, _⟩ := hx h1
          have hi := hR.rep i'
          rw [hs] at hi
          obtain ⟨us, hown, hl, hxs, hm, hO⟩ := hi
          obtain ⟨b, c, vs, rfl, hb0, hvl, hyl, hym, hcell⟩ := newsOf_ok hR hy h2 hnews
          have hvlen : vs.length = ys.length * size2 := by rw [hvl.1, flatten_length hyl]
          obtain ⟨r, w', hrun, hown', hg, hblk⟩ := run_append_all (P := P) (ty := ty) hT hb hown hvlen hb0 hcell hvl.oneCells h7 h6 (Nat.zero_le _) (c := c)
          refine ⟨r, w', hrun, ?_⟩
          have hbi : blkOf (s i') (tmOf a i') = (tmOf a i').ownBlock := by rw [hs]; rfl
          refine hR.take hd (by rw [hs]; rfl) (by rw [hbi]; exact hg) (fun b' hb' => ?_) (fun j => rfl) (fun s' tm' S hS => ?_)
          · have hb'' : r.ownBlock = some b' := hb'
            rw [hbi]
            rcases hblk with h | h
            · exact .inl (by rw [← h]; exact hb'')
            · right
              rw [h] at hb''
              injection hb'' with hb''
              omega
          · have hsame : ∀ c, Shared S0 w0.heap.size w s (tmOf a) c → w'.heap[c]? = w.heap[c]? := fun c hc => hg.block c hc.2.1 (fun e => hc.2.2 i' (by rw [hbi, e]))
            refine ⟨us ++ vs, by rw [List.length_append]; exact hown', (ownRep hl hvl).mono hS hsame, fun x hx => ?_, by rw [List.length_append]; exact h7, fun b' hb' => ?_⟩
            rcases List.mem_append.1 hx with h | h
            · exact hxs x h
            · exact hyl x h
            · rcases hblk with h | h
              · exact hO b' (by rw [← h]; exact hb')
              · rw [h] at hb'; injection hb' with hb'; exact .inl (by have := hR.below.size; omega)
        · simp at hsrc
      · rename_i i' lo len
        split at hsrc
        · rename_i e2 size2 xs2 hs
          simp only [Option.some.injEq, Prod.mk.injEq] at hsrc
          obtain ⟨rfl, rfl, rfl, rfl⟩ := hsrc
          have hvw := hx h1
          have hi := hR.rep i'
          rw [hs] at hi
          obtain ⟨us, hown, hl, hxs, hm, hO⟩ := hi
          obtain ⟨b, c, vs, rfl, hb0, hvl, hyl, hym, hcell⟩ := newsOf_ok hR hy h2 hnews
          have hvlen : vs.length = ys.length * size2 := by rw [hvl.1, flatten_length hyl]
          obtain ⟨hown2, hblk2, hlt, _⟩ := view_trunc hs hvw hown hl hxs
          obtain ⟨r, w', hrun, hown', hg, hblk⟩ := run_append_all (P := P) (ty := ty) hT hb hown2 hvlen hb0 hcell hvl.oneCells h7 h6 (Nat.zero_le _) (c := c)
          refine ⟨r, w', hrun, ?_⟩
          have hbi : blkOf (s i') (tmOf a i') = (tmOf a i').ownBlock := by rw [hs]; rfl
          have hg' : w.grownBy w' (blkOf (s i') (tmOf a i')) := by
            refine ⟨hg.os, hg.tape, hg.output, hg.size, fun k hk hne => hg.block k hk (fun e => hne ?_)⟩
            rw [hbi]; exact (hblk2 k e.symm).symm
          refine hR.take hd (by rw [hs]; rfl) hg' (fun b' hb' => ?_) (fun j => rfl) (fun s' tm' S hS => ?_)
          · have hb'' : r.ownBlock = some b' := hb'
            rw [hbi]
            rcases hblk with h | h
            · exact .inl (hblk2 b' (by rw [← h]; exact hb''))
            · right
              rw [h] at hb''
              injection hb'' with hb''
              omega
          · have hsame : ∀ c, Shared S0 w0.heap.size w s (tmOf a) c → w'.heap[c]? = w.heap[c]? := fun c hc => hg.block c hc.2.1 (fun e => hc.2.2 i' (by rw [hbi]; exact hblk2 c e.symm))
            refine ⟨us.take (len * size2) ++ vs, by rw [List.length_append]; exact hown', (ownRep hlt hvl).mono hS hsame, fun x hx => ?_, by rw [List.length_append]; exact h7, fun b' hb' => ?_⟩
            rcases List.mem_append.1 hx with h | h
            · exact hxs x (List.mem_of_mem_take h)
            · exact hyl x h
            · rcases hblk with h | h
              · exact hO b' (hblk2 b' (by rw [← h]; exact hb'))
              · rw [h] at hb'; injection hb' with hb'; exact .inl (by have := hR.below.size; omega)
        · simp at hsrc
      · simp at hsrc
    · rename_i bytes e' size' xs ys hb hsrc hnews
      obtain ⟨h1, h2, rfl, h6, h7⟩ := hp
      obtain ⟨p, x⟩ := x
      unfold sourceOf at hsrc
      dsimp only at hsrc h1
      split at hsrc
      · obtain rfl := rep_nil (hx h1)
        obtain ⟨b, c, vs, rfl, hb0, hvl, hyl, hym, hcell⟩ := newsOf_ok hR hy h2 hnews
        have hvlen : vs.length = ys.length * size := by rw [hvl.1, flatten_length hyl]
        obtain ⟨r, w', hrun, hown', hg, hblk⟩ := run_append_all (P := P) (ty := ty) hT hb (World.ownsRow_nil w 0 e size) hvlen hb0 hcell hvl.oneCells (by simpa using h7) (by simpa using h6) (Nat.zero_le _) (c := c)
        refine ⟨r, w', hrun, hR.newOwn hd hg (by simpa using hown') hvl hyl h7 (fun b' hb' => ?_)⟩
        rcases hblk with h | h
        · rw [h] at hb'; simp [Value.ownBlock] at hb'
        · rw [h] at hb'; injection hb' with hb'; omega
      · split at hsrc <;> simp at hsrc
      · split at hsrc <;> simp at hsrc
      · simp at hsrc
    · rename_i bytes e' size' xs hb hsrc hnews
      split at hp
      · rename_i k hk
        obtain ⟨h1, h2, h3, h4, h6, h7⟩ := hp
        obtain ⟨p, x⟩ := x
        obtain ⟨q, y⟩ := y
        unfold sourceOf at hsrc
        dsimp only at hsrc h1 h2 hk
        unfold zerosOf at hk
        split at hk
        · rename_i kd k'
          injection hk with hk
          subst hk
          obtain rfl := rep_int (hy h2)
          obtain ⟨m, rfl⟩ : ∃ m : Nat, k' = m := ⟨k'.toNat, by omega⟩
          split at hsrc
          · obtain rfl := rep_nil (hx h1)
            obtain ⟨r, w', us, hrun, hown', hl, hxs, hg, hblk⟩ := run_append_zeros (P := P) (w := w) (ty := ty) hT hb h3 kd m (by omega) (by omega) (by rw [← Int.natCast_mul] at h6; omega)
            refine ⟨r, w', hrun, hR.newOwn hd hg hown' (hl _) hxs (by simp; omega) (fun b' hb' => ?_)⟩
            rw [hblk] at hb'; injection hb' with hb'; omega
          · split at hsrc <;> simp at hsrc
          · split at hsrc <;> simp at hsrc
          · simp at hsrc
        · cases hk
      · exact hp.elim
    · exact hp.elim
  · exact hp.elim


/-- A store into a map of the call's own. -/
def amapUpdate (P : Program) (s : St) (t : TypeId) (m k x : Prop × AV) : Prop × St :=
  match mapT P t, m, k, x with
  | some (kk, _), (p, .alias i), (q, .x kx), (r, .x xx) => match s i with
    | .mp c bs es => match findK kk kx es 0 with
      | some f => (p ∧ q ∧ r ∧ keyOk kk kx = true, fun j => if j = i then .mp (mput c bs es kx xx f).1 (mput c bs es kx xx f).2.1 (mput c bs es kx xx f).2.2 else s j)
      | none => (False, s)
    | _ => (False, s)
  | _, _, _, _ => (False, s)

theorem setObj_grown (g : Nat) (o : Obj) : w.grownBy { w with heap := w.heap.setIfInBounds g o } (some g) ∧ ({ w with heap := w.heap.setIfInBounds g o } : World).heap.size = w.heap.size := by
  refine ⟨⟨rfl, rfl, rfl, by simp, fun k _ hk => ?_⟩, by simp⟩
  exact Array.getElem?_setIfInBounds_ne (fun e => hk (by rw [e]))

theorem amapUpdate_ok (hR : Rel S0 w0 n s a w) {t : TypeId} {m k x : Prop × AV} {mv kv xv : Value} (hm : Knows S0 w0 s a w m mv) (hk : Knows S0 w0 s a w k kv) (hx : Knows S0 w0 s a w x xv) (hp : (amapUpdate P s t m k x).1) :
    ∃ w', (Instr.mapUpdate t mv kv xv).run P w = .ok () w' ∧ Rel S0 w0 n (amapUpdate P s t m k x).2 a w' := by
  obtain ⟨p, m⟩ := m
  obtain ⟨q, k⟩ := k
  obtain ⟨r, x⟩ := x
  unfold amapUpdate at hp ⊢
  split at hp
  · rename_i kk e p' i q' kx r' xx hT e1 e2 e3
    injection e1 with e1a e1b; subst e1a; subst e1b
    injection e2 with e2a e2b; subst e2a; subst e2b
    injection e3 with e3a e3b; subst e3a; subst e3b
    split at hp
    · rename_i c bs es hs
      split at hp
      · rename_i f hf
        obtain ⟨h1, h2, h3, h4⟩ := hp
        obtain ⟨kt, d, hu, hku, hd⟩ := mapT_ok hT
        obtain ⟨rfl, _⟩ := hm h1
        have hj := hR.rep i
        rw [hs] at hj
        obtain ⟨b, ents, hv, hh, hB, he⟩ := hj
        rw [hv]
        obtain ⟨ents', c', hrun, hc', he'⟩ := run_mapUpdate (P := P) hu hku hd hh he (hk h2) h4 (hx h3) hf
        refine ⟨_, hrun, ?_⟩
        subst hc'
        have hlt : b < w.heap.size := (Array.getElem?_eq_some_iff.1 hh).1
        obtain ⟨hg, hgs⟩ := setObj_grown (w := w) b (.map ents' (mput c bs es kx xx f).1)
        refine hR.write (r := .mp (mput c bs es kx xx f).1 (mput c bs es kx xx f).2.1 (mput c bs es kx xx f).2.2) (b := b) (by rw [hs, hv]; rfl) hg hgs (by rw [hv]; rfl) rfl (by rw [hs]; rfl) (by rw [hs]; rfl) (fun s' => ?_)
        have hsame : ∀ z, Shared S0 w0.heap.size w s (tmOf a) z → ({ w with heap := w.heap.setIfInBounds b (.map ents' (mput c bs es kx xx f).1) } : World).heap[z]? = w.heap[z]? := by
          intro z hz
          refine hg.block z hz.2.1 (fun e => ?_)
          injection e with e
          subst e
          exact hz.2.2 i (by rw [hs, hv]; rfl)
        exact ⟨b, ents', hv, by simp [hlt], hB, he'.mono (fun _ h => h) hsame⟩
      · exact hp.elim
    · exact hp.elim
  · exact hp.elim

/-- clear, of a part of a slice of the call's own. -/
def aclear (P : Program) (s : St) (t : TypeId) (x : Prop × AV) : Prop × St :=
  match rowT P t, x with
  | some (_, size, zc), (p, .view i lo len _) => match s i with
    | .own e size' xs => (p ∧ size' = size, fun j => if j = i then .own e size' (xs.take lo ++ List.replicate len zc ++ xs.drop (lo + len)) else s j)
    | _ => (False, s)
  | _, _ => (False, s)

theorem aclear_ok (hR : Rel S0 w0 n s a w) {t ty : TypeId} {x : Prop × AV} {u : Value} (hx : Knows S0 w0 s a w x u) (hp : (aclear P s t x).1) :
    ∃ r w', (Builtin.clear_ #[t] ty #[u]).run P w = .ok r w' ∧ Rel S0 w0 n (aclear P s t x).2 a w' := by
  obtain ⟨p, x⟩ := x
  unfold aclear at hp ⊢
  split at hp
  · rename_i e0 size zc p' i lo len wh hT e2
    injection e2 with e2a e2b; subst e2a; subst e2b
    split at hp
    · rename_i e size' xs hs
      obtain ⟨h1, rfl⟩ := hp
      obtain ⟨hso, hle, hv⟩ := hx h1
      rw [hs] at hle
      have hle' : lo + len ≤ xs.length := hle
      have hi := hR.rep i
      rw [hs] at hi
      obtain ⟨us, hown, hl, hxs, hm, hO⟩ := hi
      obtain ⟨it, z, hu, hit, hsz, hpos, hzr, hrep, hzl⟩ := rowT_ok (w := w) hT
      have hzs : z.cells.size = size' := by have := (hrep (fun _ => True)).1; rw [hzl] at this; simpa using this
      by_cases h0 : len = 0
      · subst h0
        have hsame : (fun j => if j = i then AV.own e size' (xs.take lo ++ List.replicate 0 zc ++ xs.drop (lo + 0)) else s j) = s := by
          funext j
          split
          · rename_i hj; subst hj; rw [hs]; simp
          · rfl
        rw [hsame]
        rcases hv with ⟨rfl, _⟩ | ⟨b, off, cap, rfl, _⟩
        · exact ⟨.tuple #[], w, by simp [Builtin.clear_, run_underlying hu], hR⟩
        · exact ⟨.tuple #[], w, by simp [Builtin.clear_, run_underlying hu], hR⟩
      · rcases hv with ⟨_, h⟩ | ⟨b, off, cap, rfl, hc, hcm, hk, hz, _⟩
        · exact absurd h h0
        · have hoff := hz (by omega)
          rw [hs] at hk hoff
          have hoff' : off = lo * size' := hoff
          subst hoff'
          rcases hown.2 with ⟨hnil, _⟩ | ⟨g, cap', cur, hv, hbg, hh, hnc, hcm', hcs, htake⟩
          · rw [hnil] at hk; simp [blkOf, Value.ownBlock] at hk
          · have hbb : blkOf (AV.own e size' xs) (tmOf a i) = some g := by rw [hv]; rfl
            rw [hbb] at hk
            injection hk with hk
            subst hk
            have hzrep := zeros_rep (hrep (Shared S0 w0.heap.size w s (tmOf a))) len
            have hzlen : (Builtin.zeroCells z.cells len).toList.length = len * size' := by simp [size_zeroCells, hzs]
            have hmul : lo * size' + len * size' ≤ xs.length * size' := by rw [← Nat.add_mul]; exact Nat.mul_le_mul_right _ hle'
            have hcap : xs.length * size' ≤ cap' * size' := Nat.mul_le_mul_right _ hnc
            have hst := run_storeCells_at P g (lo * size') e (Builtin.zeroCells z.cells len).toList 0 cur w hh (by rw [hzlen]; omega) (RepL.oneCells hzrep)
            simp only [Nat.add_zero] at hst
            have hset : cur.toList.take (lo * size') ++ (Builtin.zeroCells z.cells len).toList ++ cur.toList.drop (lo * size' + (Builtin.zeroCells z.cells len).toList.length) = setRange cur.toList (lo * size') (Builtin.zeroCells z.cells len).toList := rfl
            rw [hset] at hst
            obtain ⟨len', rfl⟩ : ∃ k, len = k + 1 := ⟨len - 1, by omega⟩
            refine ⟨.tuple #[], w.setRow g (setRange cur.toList (lo * size') (Builtin.zeroCells z.cells (len' + 1)).toList).toArray, by simp [Builtin.clear_, run_underlying hu, hzr, hst], ?_⟩
            obtain ⟨hg, hgs⟩ := setRow_grown (w := w) g (setRange cur.toList (lo * size') (Builtin.zeroCells z.cells (len' + 1)).toList).toArray
            have hnl : (xs.take lo ++ List.replicate (len' + 1) zc ++ xs.drop (lo + (len' + 1))).length = xs.length := by simp; omega
            refine hR.write (r := .own e size' (xs.take lo ++ List.replicate (len' + 1) zc ++ xs.drop (lo + (len' + 1)))) (b := g) (by rw [hs]; exact hbb) hg hgs (by rw [hv]; rfl) rfl (by rw [hs]; rfl) (by rw [hs]; exact hnl) (fun s' => ?_)
            have hsame : ∀ c, Shared S0 w0.heap.size w s (tmOf a) c → (w.setRow g (setRange cur.toList (lo * size') (Builtin.zeroCells z.cells (len' + 1)).toList).toArray).heap[c]? = w.heap[c]? := by
              intro c hc
              refine hg.block c hc.2.1 (fun e => ?_)
              injection e with e
              subst e
              exact hc.2.2 i (by rw [hs]; exact hbb)
            have hxs' : ∀ x ∈ xs.take lo ++ List.replicate (len' + 1) zc ++ xs.drop (lo + (len' + 1)), x.length = size' := by
              intro x hx
              rcases List.mem_append.1 hx with hx | hx
              · rcases List.mem_append.1 hx with hx | hx
                · exact hxs x (List.mem_of_mem_take hx)
                · rw [List.eq_of_mem_replicate hx, hzl]
              · exact hxs x (List.mem_of_mem_drop hx)
            have hrl : (List.replicate (len' + 1) zc).flatten.length = (len' + 1) * size' := by
              rw [flatten_length (size := size') (fun x hx => by rw [List.eq_of_mem_replicate hx, hzl])]; simp
            have hflat : (xs.take lo ++ List.replicate (len' + 1) zc ++ xs.drop (lo + (len' + 1))).flatten = setRange xs.flatten (lo * size') (List.replicate (len' + 1) zc).flatten := by
              rw [List.flatten_append, List.flatten_append, flatten_take hxs, flatten_drop hxs]
              unfold setRange
              rw [hrl, Nat.add_mul]
            refine ⟨setRange us (lo * size') (Builtin.zeroCells z.cells (len' + 1)).toList, ⟨?_, .inr ⟨g, cap', _, by rw [hnl]; exact hv, hbg, setRow_heap w g cur _ e _ hh, by rw [hnl]; exact hnc, hcm', ?_, ?_⟩⟩, ?_, hxs', by rw [hnl]; exact hm, hO⟩
            · have hul : us.length = xs.length * size' := hown.1
              rw [setRange_len _ _ _ (by rw [hzlen, hul]; omega), hnl]
              exact hul
            · simp only [List.size_toArray]
              rw [setRange_len _ _ _ (by rw [hzlen]; simp [hcs]; omega)]
              simpa using hcs
            · rw [hnl, ← htake]
              exact setRange_take _ _ _ _ (by rw [hzlen]; omega) (by simp [hcs]; omega)
            · rw [hflat]
              exact (hl.setRange hzrep _).mono (fun _ h => h) hsame
    · exact hp.elim
  · exact hp.elim

/-- A NEW MAP. -/
theorem Rel.newMap {d : Nat} (hR : Rel S0 w0 n s a w) (hd : S0.m ≤ d ∧ d < n) : Rel S0 w0 n (Ab.put s d (.mp 0 [] [])) (a.put (some d) (.map (some w.heap.size))) (w.alloc (.map #[] 0)) := by
  have he : ∀ (w' : World) (S : Nat → Prop), RepE w' S [] [] (#[] : Array MapEntry).toList := fun _ _ => ⟨rfl, rfl, fun j x hj => by simp at hj⟩
  refine hR.put hd (World.grownBy_alloc w _ none) (fun j h => by cases h) ⟨_, #[], rfl, heap_alloc_new w _, .inl hR.below.size, he _ _⟩ ?_ ?_
  · intro b hb
    have : w.heap.size = b := by simpa [blkOf] using hb
    omega
  · intro b hbb
    have : w.heap.size = b := by simpa [blkOf] using hbb
    subst this
    exact ⟨_, #[], rfl, heap_alloc_new w _, .inl hR.below.size, he _ _⟩

end
end Go.Ab
