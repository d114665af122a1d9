/- A part of the proof: lemmas and contracts of functions. -/
import Derived.Test.YtejhjdpafdpjlaaDoorAbValOk3
namespace Go.Ab
open Go Go.RowKit
set_option linter.unusedSectionVars false
variable [Amb]

section
variable {P : Program} {S0 : Env} {w0 w : World} {n : Nat} {s : St} {a : Act}

theorem abound_ok (hR : Rel S0 w0 n s a w) {o : Option Operand} {other b : Int} {q : Prop} (h : abound s o other = (q, some b)) (hq : q) :
    (o = none ∧ b = other) ∨ ∃ x k, o = some x ∧ a.eval x = .int k b := by
  cases o with
  | none => simp only [abound, Prod.mk.injEq, Option.some.injEq] at h; exact .inl ⟨rfl, h.2.symm⟩
  | some x =>
    have hsv := hR.sv x
    simp only [abound] at h
    split at h
    · rename_i p k m e
      simp only [Prod.mk.injEq, Option.some.injEq] at h
      obtain ⟨h1, h2⟩ := h
      subst h1; subst h2
      rw [e] at hsv
      exact .inr ⟨x, k, rfl, rep_int (hsv hq)⟩
    · simp at h

theorem run_sliceBound_in (k : IntKind) (i : Int) (y : Nat) (code : BoundsCode) (h0 : 0 ≤ i) (h1 : i ≤ y) :
    (Instr.sliceBound (.int k i) y code).run P w = .ok i.toNat w := run_sliceBound (P := P) (w := w) k i y code h0 h1

theorem cutAt_bytes (l : List UInt8) (x y : Int) :
    (⟨l.toArray⟩ : ByteArray).extract x.toNat y.toNat = ⟨(cutAt l x y).toArray⟩ := by
  apply ByteArray.ext
  apply Array.ext'
  simp only [cutAt]
  rw [ByteArray.data_extract, Array.toList_extract, List.extract_eq_take_drop]
  simp only [List.drop_take]

theorem flatten_drop {xs : List (List CV)} {size : Nat} (hx : ∀ x ∈ xs, x.length = size) (k : Nat) : (xs.drop k).flatten = xs.flatten.drop (k * size) := by
  induction xs generalizing k with
  | nil => simp
  | cons x xs ih =>
    cases k with
    | zero => simp
    | succ k =>
      have hl := hx x (by simp)
      simp only [List.drop_succ_cons, List.flatten_cons]
      have e1 : x.drop ((k + 1) * size) = [] := List.drop_eq_nil_of_le (by rw [hl, Nat.add_mul]; omega)
      rw [ih (fun x hx' => hx x (by simp [hx'])), List.drop_append, e1, List.nil_append, hl]
      congr 1
      rw [Nat.add_mul]; omega

theorem flatten_take {xs : List (List CV)} {size : Nat} (hx : ∀ x ∈ xs, x.length = size) (k : Nat) : (xs.take k).flatten = xs.flatten.take (k * size) := by
  induction xs generalizing k with
  | nil => simp
  | cons x xs ih =>
    cases k with
    | zero => simp
    | succ k =>
      have hl := hx x (by simp)
      simp only [List.take_succ_cons, List.flatten_cons]
      have e1 : x.take ((k + 1) * size) = x := List.take_of_length_le (by rw [hl, Nat.add_mul]; omega)
      rw [ih (fun x hx' => hx x (by simp [hx'])), List.take_append, e1, hl]
      congr 2
      rw [Nat.add_mul]; omega

/-- A part of a slice. -/
theorem RepC.cut {S : Nat → Prop} {z : Nat} {xs : List (List CV)} {b : Option Addr} {c : Nat} (h : RepC w S (.list z xs) (.slice b xs.length c)) (lo hi m : Nat) (h1 : lo ≤ hi) (h2 : hi ≤ m) (h3 : m ≤ c) (h4 : hi ≤ xs.length) :
    RepC w S (.list z ((xs.take hi).drop lo)) (.slice (if m = lo then b else b.map (·.add (lo * z))) (hi - lo) (m - lo)) := by
  generalize hv : Value.slice b xs.length c = v at h
  cases h with
  | list0 b' c' _ hm hn =>
    simp only [Value.slice.injEq] at hv
    obtain ⟨rfl, _, rfl⟩ := hv
    have h4' : hi = 0 := by simpa using h4
    subst h4'
    have h1' : lo = 0 := by omega
    subst h1'
    simp only [List.take_nil, List.drop_nil, Nat.sub_self]
    exact .list0 _ _ _ (by omega) (fun hb => by
      have hc : c = 0 := by
        cases b with
        | none => exact hn rfl
        | some b => split at hb <;> simp at hb
      omega)
  | list ad cap _ _ U hs hsp hc hm hxl hU hrep =>
    simp only [Value.slice.injEq] at hv
    obtain ⟨rfl, _, rfl⟩ := hv
    have hlen : ((xs.take hi).drop lo).length = hi - lo := by rw [List.length_drop, List.length_take]; omega
    by_cases he : hi = lo
    · have hnil : (xs.take hi).drop lo = [] := List.eq_nil_of_length_eq_zero (by omega)
      rw [hnil]
      have : hi - lo = 0 := by omega
      rw [this]
      exact .list0 _ _ _ (by omega) (fun hb => by split at hb <;> simp at hb)
    · rw [if_neg (by omega)]
      rw [← hlen]
      have hat : ∀ (j : Nat) (c : CV), ((xs.take hi).drop lo).flatten[j]? = some c → xs.flatten[lo * z + j]? = some c := by
        intro j c hj
        rw [flatten_drop (fun x hx => hxl x (List.mem_of_mem_take hx)), flatten_take hxl, List.getElem?_drop, List.getElem?_take] at hj
        split at hj
        · exact hj
        · cases hj
      refine .list (ad.add (lo * z)) _ _ _ (fun j => U (lo * z + j)) (by rw [block_add]; exact hs) (by unfold Addr.add; split <;> simp [hsp]) (by omega) (by omega) (fun x hx => hxl x (List.mem_of_mem_take (List.mem_of_mem_drop hx))) ?_ ?_
      · intro j c hj
        rw [addr_add_add]
        exact hU _ _ (hat j c hj)
      · intro j c hj
        exact hrep _ _ (hat j c hj)

theorem sliceBounds_ok (hR : Rel S0 w0 n s a w) (isSlice : Bool) (len cap : Nat) {lo hi mx : Option Operand} {x y z : Int} {q r u : Prop} (hlc : len ≤ cap)
    (hlo : abound s lo 0 = (q, some x)) (hhi : abound s hi len = (r, some y)) (hmx : (mx = none ∧ u) ∨ (∃ e, mx = some e ∧ abound s mx len = (u, some z))) (hq : q) (hr : r) (hu : u)
    (h0 : 0 ≤ x) (h1 : x ≤ y) (h2 : y ≤ len) (hz : mx ≠ none → y ≤ z ∧ z ≤ len) (hn : hi = none → mx = none) :
    (Instr.sliceBounds isSlice len cap (lo.map a.eval) (hi.map a.eval) (mx.map a.eval)).run P w = .ok (x.toNat, y.toNat, if mx = none then cap else z.toNat) w := by
  have hl := abound_ok hR hlo hq
  have hh := abound_ok hR hhi hr
  rcases hmx with ⟨rfl, _⟩ | ⟨e, rfl, hm⟩
  · simp only [Option.map_none, if_true]
    rcases hl with ⟨rfl, rfl⟩ | ⟨xl, kl, rfl, hel⟩ <;> rcases hh with ⟨rfl, hyy⟩ | ⟨xh, kh, rfl, heh⟩
    · simp [Instr.sliceBounds, hyy]
    · simp [Instr.sliceBounds, heh, run_sliceBound_in (P := P) (w := w) kh y cap _ (by omega) (by omega)]
    · simp [Instr.sliceBounds, hel, hyy, run_sliceBound_in (P := P) (w := w) kl x len _ (by omega) (by omega)]
    · simp [Instr.sliceBounds, hel, heh, run_sliceBound_in (P := P) (w := w) kh y cap _ (by omega) (by omega), run_sliceBound_in (P := P) (w := w) kl x y.toNat _ (by omega) (by omega)]
  · obtain ⟨hz1, hz2⟩ := hz (by simp)
    have hm' := abound_ok hR hm hu
    rcases hm' with ⟨h, _⟩ | ⟨xm, km, he, hem⟩
    · cases h
    injection he with he
    subst he
    rcases hh with ⟨rfl, hyy⟩ | ⟨xh, kh, rfl, heh⟩
    · have := hn rfl; cases this
    rcases hl with ⟨rfl, rfl⟩ | ⟨xl, kl, rfl, hel⟩
    · simp [Instr.sliceBounds, heh, hem, run_sliceBound_in (P := P) (w := w) km z cap _ (by omega) (by omega), run_sliceBound_in (P := P) (w := w) kh y z.toNat _ (by omega) (by omega)]
    · simp [Instr.sliceBounds, heh, hem, hel, run_sliceBound_in (P := P) (w := w) km z cap _ (by omega) (by omega), run_sliceBound_in (P := P) (w := w) kh y z.toNat _ (by omega) (by omega), run_sliceBound_in (P := P) (w := w) kl x y.toNat _ (by omega) (by omega)]

theorem aslice_shape {t : TypeId} {x : Prop × AV} {lo hi mx : Option Operand} (hp : (aslice P s t x lo hi mx).1) :
    (∃ l, x.2 = .x (.one (.str l))) ∨ (∃ z xs, x.2 = .x (.one (.list z xs))) ∨ x.2 = .x (.one .nil) ∨ (∃ i e z xs, x.2 = .alias i ∧ s i = .own e z xs) ∨ ∃ i lo len wh, x.2 = .view i lo len wh := by
  unfold aslice at hp
  split at hp
  · exact .inl ⟨_, rfl⟩
  · exact .inr (.inl ⟨_, _, rfl⟩)
  · exact .inr (.inr (.inl rfl))
  · split at hp
    · rename_i h; exact .inr (.inr (.inr (.inl ⟨_, _, _, _, rfl, h⟩)))
    · exact hp.elim
  · exact .inr (.inr (.inr (.inr ⟨_, _, _, _, rfl⟩)))
  · exact hp.elim

/-- A part of a slice of the call's own. -/
theorem view_cut {s : St} {tm : Nat → Value} {i : Nat} {v : Value} {b : Option Addr} {len c lo0 : Nat} {wh : Bool} (hv : v = .slice b len c) (hown : (s i).isOwner = true) (hle : lo0 + len ≤ (s i).len) (hcm : c ≤ maxLen)
    (hb : b = none → c = 0) (hk : ∀ ad, b = some ad → ∃ g off, ad = ⟨g, off, none⟩ ∧ blkOf (s i) (tm i) = some g ∧ (0 < len → off = lo0 * (s i).size) ∧ (wh = true → lo0 = 0 ∧ ∃ l, tm i = .slice (some ad) l c)) {S : Nat → Prop} {B : Nat → Prop} {w : World}
    (lo hi m z : Nat) (hz : z = (s i).size) (h1 : lo ≤ hi) (h2 : hi ≤ m) (h3 : m ≤ c) (h4 : hi ≤ len) {wh' : Bool} (hwh : wh' = true → wh = true ∧ lo = 0 ∧ m = c) :
    RepAV w S B s tm (.view i (lo0 + lo) (hi - lo) wh') (.slice (if m = lo then b else b.map (·.add (lo * z))) (hi - lo) (m - lo)) := by
  refine ⟨hown, by omega, ?_⟩
  cases b with
  | none =>
    have hc0 := hb rfl
    refine .inl ⟨?_, by omega⟩
    have e1 : hi - lo = 0 := by omega
    have e2 : m - lo = 0 := by omega
    simp [e1, e2]
  | some ad =>
    obtain ⟨g, off, rfl, hg, ho, hw⟩ := hk ad rfl
    by_cases hml : m = lo
    · refine .inr ⟨g, off, m - lo, by rw [if_pos hml], by omega, by omega, hg, fun h => by omega, fun h => ?_⟩
      obtain ⟨h5, h6, h7⟩ := hwh h
      obtain ⟨h8, l, h9⟩ := hw h5
      exact ⟨by omega, l, by rw [h9, h7, h6]; rfl⟩
    · refine .inr ⟨g, off + lo * z, m - lo, by rw [if_neg hml]; simp [addr_add_lit], by omega, by omega, hg, fun h => by rw [ho (by omega), hz, Nat.add_mul], fun h => ?_⟩
      obtain ⟨h5, h6, h7⟩ := hwh h
      obtain ⟨h8, l, h9⟩ := hw h5
      refine ⟨by omega, l, by rw [h9, h7, h6]; simp⟩

theorem aslice_ok {t : TypeId} {x : Prop × AV} {v : Value} {lo hi mx : Option Operand} (hR : Rel S0 w0 n s a w) (hx : Knows S0 w0 s a w x v) (hp : (aslice P s t x lo hi mx).1) :
    Yields P S0 w0 s a w (Instr.sliceAt t v (lo.map a.eval) (hi.map a.eval) (mx.map a.eval)) (aslice P s t x lo hi mx).2 := by
  have hsh := aslice_shape hp
  obtain ⟨p, x⟩ := x
  dsimp only at hsh
  rcases hsh with ⟨l, rfl⟩ | ⟨z, xs, rfl⟩ | rfl | ⟨i, e, z, xs, rfl, hs⟩ | ⟨i, lo0, len, wh, rfl⟩
  · simp only [aslice] at hp ⊢
    split at hp
    · rename_i q lo' r hi' e1 e2
      obtain ⟨h1, h2, h3, h4, h5, h6, h7⟩ := hp
      obtain ⟨rfl, hl⟩ := rep_str (hx h1)
      have hu := isStringT_ok h4
      have hb := sliceBounds_ok (P := P) hR false l.length l.length (mx := none) (u := True) (z := 0) (Nat.le_refl _) e1 e2 (.inl ⟨rfl, trivial⟩) h2 h3 trivial h5 h6 h7 (by simp) (by simp)
      simp only [Option.map_none, if_true] at hb
      refine ⟨.string ⟨(cutAt l lo' hi').toArray⟩, ?_, RepC.str _ ?_, rfl⟩
      · simp [Instr.sliceAt, Instr.slice, run_underlying hu, bytesSize, hb, cutAt_bytes l lo' hi']
      · simp only [cutAt, List.length_drop, List.length_take]; omega
    · exact hp.elim
  · simp only [aslice] at hp ⊢
    split at hp
    · rename_i e size q lo' r hi' u mx' hT e1 e2 e3
      obtain ⟨h1, h2, h3, h4, rfl, h6, h7, h8, h9, h10⟩ := hp
      have hr := hx h1
      obtain ⟨i, hu, hinf, hsz, _⟩ := sliceT_ok hT
      have hform : ∃ b c, v = .slice b xs.length c ∧ xs.length ≤ c := by
        cases hr with
        | list0 b c _ _ _ => exact ⟨b, c, rfl, Nat.zero_le _⟩
        | list ad cap _ _ _ _ _ hc => exact ⟨_, cap, rfl, hc⟩
      obtain ⟨b, c, rfl, hc⟩ := hform
      by_cases hmn : mx = none
      · subst hmn
        have hb := sliceBounds_ok (P := P) hR true xs.length c (mx := none) (u := True) (z := 0) hc e1 e2 (.inl ⟨rfl, trivial⟩) h2 h3 trivial h6 h7 (by omega) (by simp) (by simp)
        simp only [Option.map_none, if_true] at hb
        refine ⟨_, ?_, hr.cut lo'.toNat hi'.toNat c (by omega) (by omega) (Nat.le_refl _) (by omega), rfl⟩
        simp [Instr.sliceAt, Instr.slice, run_underlying hu, hb, run_sizeOf hinf, hsz]
      · obtain ⟨em, rfl⟩ : ∃ em, mx = some em := Option.ne_none_iff_exists'.1 hmn
        have hb := sliceBounds_ok (P := P) hR true xs.length c (mx := some em) (u := u) (z := mx') hc e1 e2 (.inr ⟨em, rfl, e3⟩) h2 h3 h4 h6 h7 (by omega) (fun _ => ⟨h8, h9⟩) h10
        rw [if_neg hmn] at hb
        simp only [Option.map_some] at hb
        refine ⟨_, ?_, hr.cut lo'.toNat hi'.toNat mx'.toNat (by omega) (by omega) (by omega) (by omega), rfl⟩
        simp [Instr.sliceAt, Instr.slice, run_underlying hu, hb, run_sizeOf hinf, hsz]
    · exact hp.elim
  · simp only [aslice] at hp ⊢
    split at hp
    · rename_i q lo' r hi' hT e1 e2
      obtain ⟨h1, h2, h3, rfl, rfl⟩ := hp
      obtain rfl := rep_nil (hx h1)
      obtain ⟨i, hu, hinf, hsz, _⟩ := sliceT_ok hT
      have hb := sliceBounds_ok (P := P) hR true 0 0 (mx := none) (u := True) (z := 0) (Nat.le_refl _) e1 e2 (.inl ⟨rfl, trivial⟩) h2 h3 trivial (by omega) (by omega) (by omega) (by simp) (by simp)
      simp only [Option.map_none, if_true] at hb
      refine ⟨_, ?_, RepC.nil, rfl⟩
      simp [Instr.sliceAt, Instr.slice, run_underlying hu, hb, run_sizeOf hinf, hsz]
    · exact hp.elim
  · simp only [aslice, hs] at hp ⊢
    split at hp
    · rename_i e' size q lo' r hi' u mx' hT e1 e2 e3
      obtain ⟨h1, h2, h3, h4, rfl, h6, h7, h8, h9, h10⟩ := hp
      obtain ⟨rfl, hown'⟩ := hx h1
      obtain ⟨j, hu, hinf, hsz, _⟩ := sliceT_ok hT
      have hi := hR.rep i
      rw [hs] at hi
      obtain ⟨us, hown, _, _, hm, _⟩ := hi
      have hform : ∃ b c, tmOf a i = .slice b xs.length c ∧ xs.length ≤ c ∧ c ≤ maxLen ∧ (b = none → c = 0) ∧ ∀ ad, b = some ad → ∃ g, ad = ⟨g, 0, none⟩ ∧ blkOf (s i) (tmOf a i) = some g := by
        rcases hown.2 with ⟨h, h0⟩ | ⟨g, cap, cur, hv, _, _, hc, hcm, _⟩
        · exact ⟨none, 0, by rw [h, h0], by omega, by simp, fun _ => rfl, fun ad h => (by cases h)⟩
        · exact ⟨_, cap, hv, hc, hcm, fun h => (by cases h), fun ad h => by injection h with h; subst h; exact ⟨g, rfl, by rw [hs]; show Value.ownBlock _ = _; rw [hv]; rfl⟩⟩
      obtain ⟨b, c, hv, hlc, hcm, hbn, hbs⟩ := hform
      have hcut := fun (m : Nat) (wh' : Bool) h2 h3 (hwh : wh' = true → lo'.toNat = 0 ∧ m = c) => view_cut (s := s) (tm := tmOf a) (i := i) (lo0 := 0) (wh := true) (S := Shared S0 w0.heap.size w s (tmOf a)) (B := OwnB S0 w0.heap.size) (w := w) hv hown' (by rw [hs]; simp [AV.len]) hcm hbn
        (fun ad had => by obtain ⟨g, h1, h2⟩ := hbs ad had; exact ⟨g, 0, h1, h2, fun _ => by simp, fun _ => ⟨rfl, _, by rw [hv, had]⟩⟩) lo'.toNat hi'.toNat m z (by rw [hs]; rfl) (by omega) h2 h3 (by omega) (wh' := wh') (fun h => ⟨rfl, hwh h⟩)
      have hval : a.eval (.tmp i) = tmOf a i := rfl
      by_cases hmn : mx = none
      · subst hmn
        have hb := sliceBounds_ok (P := P) hR true xs.length c (mx := none) (u := True) (z := 0) hlc e1 e2 (.inl ⟨rfl, trivial⟩) h2 h3 trivial h6 h7 (by omega) (by simp) (by simp)
        simp only [Option.map_none, if_true] at hb
        have := hcut c (lo.isNone && (none : Option Operand).isNone) (by omega) (Nat.le_refl _) (fun h => ⟨by
          have hl : lo = none := by simpa using h
          subst hl
          simp [abound] at e1
          rw [← e1.2]; rfl, rfl⟩)
        rw [Nat.zero_add] at this
        refine ⟨_, ?_, this, rfl⟩
        rw [hv]
        simp [Instr.sliceAt, Instr.slice, run_underlying hu, hb, run_sizeOf hinf, hsz]
      · obtain ⟨em, rfl⟩ : ∃ em, mx = some em := Option.ne_none_iff_exists'.1 hmn
        have hb := sliceBounds_ok (P := P) hR true xs.length c (mx := some em) (u := u) (z := mx') hlc e1 e2 (.inr ⟨em, rfl, e3⟩) h2 h3 h4 h6 h7 (by omega) (fun _ => ⟨h8, h9⟩) h10
        rw [if_neg hmn] at hb
        simp only [Option.map_some] at hb
        have := hcut mx'.toNat (lo.isNone && (some em).isNone) (by omega) (by omega) (fun h => by simp at h)
        rw [Nat.zero_add] at this
        refine ⟨_, ?_, this, rfl⟩
        rw [hv]
        simp [Instr.sliceAt, Instr.slice, run_underlying hu, hb, run_sizeOf hinf, hsz]
    · exact hp.elim
  · simp only [aslice] at hp ⊢
    split at hp
    · rename_i e' size q lo' r hi' u mx' hT e1 e2 e3
      obtain ⟨h1, h2, h3, h4, h5, h6, h7, h8, h9, h10⟩ := hp
      obtain ⟨hown', hle, hvv⟩ := hx h1
      obtain ⟨j, hu, hinf, hsz, _⟩ := sliceT_ok hT
      have hform : ∃ b c, v = .slice b len c ∧ len ≤ c ∧ c ≤ maxLen ∧ (b = none → c = 0) ∧ ∀ ad, b = some ad → ∃ g off, ad = ⟨g, off, none⟩ ∧ blkOf (s i) (tmOf a i) = some g ∧ (0 < len → off = lo0 * (s i).size) ∧ (wh = true → lo0 = 0 ∧ ∃ l, tmOf a i = .slice (some ad) l c) := by
        rcases hvv with ⟨h, h0⟩ | ⟨g, off, cap, hv, hc, hcm, hk, hz, hw⟩
        · exact ⟨none, 0, by rw [h, h0], by omega, by simp, fun _ => rfl, fun ad h => (by cases h)⟩
        · exact ⟨_, cap, hv, hc, hcm, fun h => (by cases h), fun ad h => by injection h with h; subst h; exact ⟨g, off, rfl, hk, hz, hw⟩⟩
      obtain ⟨b, c, hv, hlc, hcm, hbn, hbs⟩ := hform
      have hcut := fun (m : Nat) (wh' : Bool) h2 h3 (hwh : wh' = true → wh = true ∧ lo'.toNat = 0 ∧ m = c) => view_cut (s := s) (tm := tmOf a) (i := i) (lo0 := lo0) (wh := wh) (S := Shared S0 w0.heap.size w s (tmOf a)) (B := OwnB S0 w0.heap.size) (w := w) hv hown' hle hcm hbn
        hbs lo'.toNat hi'.toNat m size h5.symm (by omega) h2 h3 (by omega) (wh' := wh') hwh
      by_cases hmn : mx = none
      · subst hmn
        have hb := sliceBounds_ok (P := P) hR true len c (mx := none) (u := True) (z := 0) hlc e1 e2 (.inl ⟨rfl, trivial⟩) h2 h3 trivial h6 h7 (by omega) (by simp) (by simp)
        simp only [Option.map_none, if_true] at hb
        have := hcut c (wh && (lo.isNone && (none : Option Operand).isNone)) (by omega) (Nat.le_refl _) (fun h => by
          rw [Bool.and_eq_true] at h
          have hl : lo = none := by simpa using h.2
          subst hl
          simp [abound] at e1
          exact ⟨h.1, by rw [← e1.2]; rfl, rfl⟩)
        refine ⟨_, ?_, this, rfl⟩
        rw [hv]
        simp [Instr.sliceAt, Instr.slice, run_underlying hu, hb, run_sizeOf hinf, hsz]
      · obtain ⟨em, rfl⟩ : ∃ em, mx = some em := Option.ne_none_iff_exists'.1 hmn
        have hb := sliceBounds_ok (P := P) hR true len c (mx := some em) (u := u) (z := mx') hlc e1 e2 (.inr ⟨em, rfl, e3⟩) h2 h3 h4 h6 h7 (by omega) (fun _ => ⟨h8, h9⟩) h10
        rw [if_neg hmn] at hb
        simp only [Option.map_some] at hb
        have := hcut mx'.toNat (wh && (lo.isNone && (some em).isNone)) (by omega) (by omega) (fun h => by simp at h)
        refine ⟨_, ?_, this, rfl⟩
        rw [hv]
        simp [Instr.sliceAt, Instr.slice, run_underlying hu, hb, run_sizeOf hinf, hsz]
    · exact hp.elim

theorem map_mk {α β : Type} (f : α → β) (l : List α) : Array.map f ⟨l⟩ = ⟨l.map f⟩ := by
  apply Array.ext'; simp

theorem run_v {m : Sem Value} {v : Value} (h : m.run P w = .ok v w) : ((do pure (.value (← m)) : Sem Next)).run P w = .ok (.value v) w := by
  simp [h]

/-- THE OPERATION YIELDS WHAT 'aval' SAYS, and leaves the world alone. -/
theorem cellsR_ok (hR : Rel S0 w0 n s a w) : ∀ (l : List Operand) {p : Prop} {cs : List CV}, cellsR (l.map (Ab.sv s)) = (p, some cs) → p →
    l.length = cs.length ∧ ∀ (j : Nat) (c : CV), cs[j]? = some c → RepC w (Shared S0 w0.heap.size w s (tmOf a)) c (a.eval ((l[j]?).getD (.tmp 0)))
  | [], p, cs, h, _ => by
    simp only [List.map_nil, cellsR, Prod.mk.injEq, Option.some.injEq] at h
    obtain ⟨_, rfl⟩ := h
    exact ⟨rfl, fun j c hj => by simp at hj⟩
  | x :: l, p, cs, h, hp => by
    simp only [List.map_cons] at h
    have hsv := hR.sv x
    generalize Ab.sv s x = q at h hsv
    obtain ⟨q, v⟩ := q
    unfold cellsR at h
    split at h
    · rename_i e; cases e
    · rename_i q' c r e
      injection e with e1 e2
      injection e1 with e1 e3
      subst e1; subst e3; subst e2
      split at h
      · rename_i q2 cs' e
        simp only [Prod.mk.injEq, Option.some.injEq] at h
        obtain ⟨rfl, rfl⟩ := h
        obtain ⟨h1, h2⟩ := cellsR_ok hR l e hp.2
        refine ⟨by simp [h1], fun j c' hj => ?_⟩
        cases j with
        | zero => simp at hj; subst hj; exact hsv hp.1
        | succ j => simp at hj; simpa using h2 j c' hj
      · simp at h
    · simp at h
theorem capsR_ok (hR : Rel S0 w0 n s a w) : ∀ (l : List Operand) {p : Prop} {cs : List (CV ⊕ (Nat × Nat))}, capsR (l.map (Ab.sv s)) = (p, some cs) → p →
    l.length = cs.length ∧ ∀ (j : Nat) (c : CV ⊕ (Nat × Nat)), cs[j]? = some c → CapRep w (Shared S0 w0.heap.size w s (tmOf a)) s (tmOf a) c (a.eval ((l[j]?).getD (.tmp 0)))
  | [], p, cs, h, _ => by
    simp only [List.map_nil, capsR, Prod.mk.injEq, Option.some.injEq] at h
    obtain ⟨_, rfl⟩ := h
    exact ⟨rfl, fun j c hj => by simp at hj⟩
  | x :: l, p, cs, h, hp => by
    simp only [List.map_cons] at h
    have hsv := hR.sv x
    generalize Ab.sv s x = q at h hsv
    obtain ⟨q, v⟩ := q
    unfold capsR at h
    split at h
    · rename_i e; cases e
    · rename_i q' c r e
      injection e with e1 e2
      injection e1 with e1 e3
      subst e1; subst e3; subst e2
      split at h
      · rename_i q2 cs' e
        simp only [Prod.mk.injEq, Option.some.injEq] at h
        obtain ⟨rfl, rfl⟩ := h
        obtain ⟨h1, h2⟩ := capsR_ok hR l e hp.2
        refine ⟨by simp [h1], fun j c' hj => ?_⟩
        cases j with
        | zero => simp at hj; subst hj; exact hsv hp.1
        | succ j => simp at hj; simpa using h2 j c' hj
      · simp at h
    · rename_i q' i off r e
      injection e with e1 e2
      injection e1 with e1 e3
      subst e1; subst e3; subst e2
      split at h
      · rename_i q2 cs' e
        simp only [Prod.mk.injEq, Option.some.injEq] at h
        obtain ⟨rfl, rfl⟩ := h
        obtain ⟨h1, h2⟩ := capsR_ok hR l e hp.2
        refine ⟨by simp [h1], fun j c' hj => ?_⟩
        cases j with
        | zero => simp at hj; subst hj; exact hsv hp.1
        | succ j => simp at hj; simpa using h2 j c' hj
      · simp at h
    · simp at h

theorem amakeFunc_ok {fn : Fn} {first captured : Array Operand} (hR : Rel S0 w0 n s a w) (hp : (amakeFunc s fn first.toList captured.toList).1) :
    Yields P S0 w0 s a w (Instr.makeFunc fn (first.map a.eval) (captured.map a.eval)) (amakeFunc s fn first.toList captured.toList).2 := by
  unfold amakeFunc at hp ⊢
  split at hp
  · rename_i f hf
    split at hp
    · rename_i p cs e
      obtain ⟨h1, h2⟩ := cellsR_ok hR captured.toList e hp
      have hfirst : first = #[] := by cases first; simp_all
      subst hfirst
      refine ⟨.func (.func f) #[] (captured.map a.eval), by simp [Instr.makeFunc], ?_, rfl⟩
      have he : captured.map a.eval = ((List.range cs.length).map fun j => a.eval ((captured.toList[j]?).getD (.tmp 0))).toArray := by
        apply Array.ext'
        rw [← h1]
        apply List.ext_getElem?
        intro j
        simp only [Array.toList_map, List.getElem?_map]
        by_cases hj : j < captured.toList.length
        · have hj' : j < captured.size := by simpa using hj
          rw [List.getElem?_range hj, List.getElem?_eq_getElem hj]; simp [hj']
        · rw [List.getElem?_eq_none (by omega), List.getElem?_eq_none (by simp at hj ⊢; omega)]; rfl
      rw [he]
      exact RepC.clo f cs _ h2
    · split at hp
      · rename_i p cs e
        obtain ⟨h1, h2⟩ := capsR_ok hR captured.toList e hp
        have hfirst : first = #[] := by cases first; simp_all
        subst hfirst
        refine ⟨.func (.func f) #[] (captured.map a.eval), by simp [Instr.makeFunc], ⟨_, rfl, by simpa using h1, fun j c hj => ?_⟩, rfl⟩
        have hlt : j < captured.toList.length := by rw [h1]; exact (List.getElem?_eq_some_iff.1 hj).1
        have hlt' : j < captured.size := by simpa using hlt
        have := h2 j c hj
        rw [List.getElem?_eq_getElem hlt] at this
        refine ⟨a.eval captured[j], by simp [hlt'], ?_⟩
        simpa using this
      · exact hp.elim
  · exact hp.elim

theorem aval_ok (hR : Rel S0 w0 n s a w) (o : Oper) (hp : (aval P s o.op).1) :
    ∃ v, (execOp a.eval o).run P w = .ok (.value v) w ∧ RepIn S0 w0 s a w (aval P s o.op).2 v ∧ (aval P s o.op).2.isOwner = false := by
  obtain ⟨dst, op, type, pos, after, guard⟩ := o
  dsimp only at hp ⊢
  cases op with
  | move x => exact ⟨_, rfl, hR.sv x hp, hR.sv_notOwner x⟩
  | assign x => exact ⟨_, rfl, hR.look x, look_notOwner x⟩
  | pick c x y =>
    obtain ⟨v, h1, h2, h3⟩ := apick_ok (P := P) (hR.sv c) (hR.sv x) (hR.sv y) hp
    refine ⟨v, ?_, h2, h3⟩
    simp only [execOp]
    cases hb : (asBool (a.eval c)).run P w with
    | ok b w' =>
      simp only [Sem.run_bind, hb, Result.andThen_ok, Sem.run_pure] at h1 ⊢
      injection h1 with h1 h4
      rw [h1, h4]
    | halt e w' => simp only [Sem.run_bind, hb, Result.andThen_halt] at h1; cases h1
  | load t x =>
    obtain ⟨v, h1, h2, h3⟩ := aload_ok (P := P) (t := t) (fun hp cs hm => hR.mem (hR.sv x hp) hm) hp
    exact ⟨v, run_v h1, h2, h3⟩
  | nilCheck x =>
    simp only [aval] at hp ⊢
    have hsv := hR.sv x
    have hno := hR.sv_notOwner x
    cases hpt : isPtr (Ab.sv s x).2 with
    | false => rw [hpt] at hp; exact hp.elim
    | true =>
      rw [hpt] at hp
      have hr := hsv hp
      refine ⟨a.eval x, ?_, hr, hno⟩
      have hptr : ∃ ad, a.eval x = .pointer (some ad) := by
        cases hx : (Ab.sv s x).2 with
        | ptr i off => rw [hx] at hr; obtain ⟨b, h, _⟩ := hr; exact ⟨_, h⟩
        | eptr i k off => rw [hx] at hr; obtain ⟨b, h, _⟩ := hr; exact ⟨_, h⟩
        | elem cs => rw [hx] at hr; obtain ⟨ad, h, _⟩ := hr; exact ⟨_, h⟩
        | _ => rw [hx] at hpt; cases hpt
      obtain ⟨ad, had⟩ := hptr
      simp only [execOp, had]
      rfl
  | binOp op t x y yt =>
    obtain ⟨v, h1, h2, h3⟩ := abinX_ok (P := P) op t x y (hR.sv x) (hR.sv y) hp
    exact ⟨v, run_v h1, h2, h3⟩
  | unOp op t x =>
    obtain ⟨v, h1, h2, h3⟩ := aunop_ok (P := P) (hR.sv x) hp
    exact ⟨v, run_v h1, h2, h3⟩
  | convert src dst x =>
    obtain ⟨v, h1, h2, h3⟩ := aconvert_ok (P := P) (hR.sv x) hp
    exact ⟨v, run_v h1, h2, h3⟩
  | slice t x lo hi mx =>
    obtain ⟨v, h1, h2, h3⟩ := aslice_ok (P := P) hR (hR.sv x) hp
    exact ⟨v, run_v h1, h2, h3⟩
  | fieldAddr t x f =>
    obtain ⟨v, h1, h2, h3⟩ := afieldAddr_ok (P := P) (hR.sv x) hp
    exact ⟨v, run_v h1, h2, h3⟩
  | field t x f =>
    obtain ⟨v, h1, h2, h3⟩ := afield_ok (P := P) (hR.sv x) hp
    exact ⟨v, run_v h1, h2, h3⟩
  | indexAddr t x i =>
    obtain ⟨v, h1, h2, h3⟩ := aindexAddr_ok (P := P) hR (hR.sv x) (hR.sv i) hp
    exact ⟨v, run_v h1, h2, h3⟩
  | index t x i =>
    obtain ⟨v, h1, h2, h3⟩ := aindex_ok (P := P) (hR.sv x) (hR.sv i) hp
    exact ⟨v, run_v h1, h2, h3⟩
  | makeFunc fn first captured =>
    obtain ⟨v, h1, h2, h3⟩ := amakeFunc_ok (P := P) hR hp
    exact ⟨v, run_v h1, h2, h3⟩
  | lookup t x k ok =>
    obtain ⟨v, h1, h2, h3⟩ := alookup_ok (P := P) hR (hR.sv x) (hR.sv k) hp
    exact ⟨v, run_v h1, h2, h3⟩
  | extract x i =>
    obtain ⟨v, h1, h2, h3⟩ := aextract_ok (P := P) (hR.sv x) hp
    exact ⟨v, run_v h1, h2, h3⟩
  | call c =>
    obtain ⟨callee, ⟨args⟩, ⟨argTypes⟩⟩ := c
    simp only [aval] at hp ⊢
    unfold abuiltin at hp ⊢
    split at hp
    · split at hp
      · obtain ⟨v, h1, h2, h3⟩ := alen_ok (P := P) (ty := type) hR (hR.sv _) hp
        refine ⟨v, ?_, h2, h3⟩
        simp only [execOp, resolve, Sem.run_bind, Sem.run_pure, Result.andThen_ok, invoke, builtin, map_mk, List.map_cons, List.map_nil]
        exact congrArg (fun r => Result.andThen r fun (a : Value) w' => Result.ok (Next.value a) w') h1
      · exact hp.elim
    · split at hp
      · obtain ⟨v, h1, h2, h3⟩ := acap_ok (P := P) (ty := type) (hR.sv _) hp
        refine ⟨v, ?_, h2, h3⟩
        simp only [execOp, resolve, Sem.run_bind, Sem.run_pure, Result.andThen_ok, invoke, builtin, map_mk, List.map_cons, List.map_nil]
        exact congrArg (fun r => Result.andThen r fun (a : Value) w' => Result.ok (Next.value a) w') h1
      · exact hp.elim
    · split at hp
      · obtain ⟨v, h1, h2, h3⟩ := amax_ok (P := P) (ts := ⟨argTypes⟩) (ty := type) (hR.sv _) (hR.sv _) hp
        refine ⟨v, ?_, h2, h3⟩
        simp only [execOp, resolve, Sem.run_bind, Sem.run_pure, Result.andThen_ok, invoke, builtin, map_mk, List.map_cons, List.map_nil]
        exact congrArg (fun r => Result.andThen r fun (a : Value) w' => Result.ok (Next.value a) w') h1
      · exact hp.elim
    · split at hp
      · obtain ⟨v, h1, h2, h3⟩ := amin_ok (P := P) (ts := ⟨argTypes⟩) (ty := type) (hR.sv _) (hR.sv _) hp
        refine ⟨v, ?_, h2, h3⟩
        simp only [execOp, resolve, Sem.run_bind, Sem.run_pure, Result.andThen_ok, invoke, builtin, map_mk, List.map_cons, List.map_nil]
        exact congrArg (fun r => Result.andThen r fun (a : Value) w' => Result.ok (Next.value a) w') h1
      · exact hp.elim
    · exact hp.elim
  | _ => exact hp.elim

end
end Go.Ab
