/- A part of the proof: lemmas and contracts of functions. -/
import Derived.Test.YtdciogjhkckigaaDoorIxE
namespace Go.Proofs.YtdciogjhkckigaaDoor
open Go Go.Ab
set_option linter.unusedSectionVars false
variable [Amb]
set_option maxRecDepth 100000
set_option maxHeartbeats 4000000

theorem entriesF_short {l : List Entry} (h : entriesF l = 0) : l.length ≤ 3000 := by
  unfold entriesF at h
  split at h
  · cases h
  · omega

/-! ### Prefix -/
def prefixF (l : List Entry) (p : List UInt8) (from' many : Int) : Int :=
  if entriesF l ≠ 0 then entriesF l
  else if p ≠ [] ∧ keyB p = false then 3
  else if inB 0 3000 from' = false ∨ inB 1 3000 many = false then 1 else 0
def withPrefix (l : List Entry) (p : List UInt8) : List Entry := l.filter fun e => hasPre e.key p
def prefixL (l : List Entry) (p : List UInt8) (from' many : Int) : List Entry := if prefixF l p from' many = 0 then ((withPrefix l p).drop from'.toNat).take many.toNat else []
def prefixMore (l : List Entry) (p : List UInt8) (from' many : Int) : Bool := if prefixF l p from' many = 0 then decide (many.toNat < ((withPrefix l p).drop from'.toNat).length) else false

theorem index_Prefix (l : List Entry) (p : List UInt8) (from' many : Int) : ACalls Tryd.prog 19 [entries l, .one (.str p), .one (.int .i64 from'), .one (.int .i64 many)] (.tup [entries (prefixL l p from' many), .one (.bool (prefixMore l p from' many)), .one (.int .i64 (prefixF l p from' many))]) := by
  refine ACalls.of mixed (fn := Tryd.f19) (by kernel_rfl) (by kernel_rfl) rfl (by kernel_rfl) (by simp [Tryd.f19]) (fun hok => ?_)
  generalize hF : prefixF l p from' many = F
  have hL : prefixL l p from' many = if F = 0 then ((withPrefix l p).drop from'.toNat).take many.toNat else [] := by rw [← hF]; rfl
  have hM : prefixMore l p from' many = if F = 0 then decide (many.toNat < ((withPrefix l p).drop from'.toNat).length) else false := by rw [← hF]; rfl
  unfold prefixF at hF
  simp -implicitDefEqProofs +contextual [-Bool.and_eq_false_imp, Bool.and_eq_false_iff]
  refine ACallK.of (index_checkEntries l) ?_
  simp -implicitDefEqProofs +contextual [-Bool.and_eq_false_imp, Bool.and_eq_false_iff]
  refine ⟨fun h => ?_, fun h => ?_⟩
  · rw [if_pos h] at hF
    subst hF
    rw [hL, hM, if_neg h, if_neg h]
    simp
  rw [if_neg (by simp [h])] at hF
  refine ACallGS.of (fun _ => isKey _) rfl ?_
  simp -implicitDefEqProofs +contextual [-Bool.and_eq_false_imp, Bool.and_eq_false_iff]
  refine ⟨fun h1 h2 => ?_, fun hp => ACallK.of (index_within _ _ _) ?_⟩
  · rw [if_pos ⟨h1, h2⟩] at hF
    subst hF
    rw [hL, hM]; simp
  rw [if_neg (by rintro ⟨a, b⟩; rcases hp with hp | hp; exact a hp; rw [hp] at b; cases b)] at hF
  simp -implicitDefEqProofs +contextual [-Bool.and_eq_false_imp, Bool.and_eq_false_iff]
  refine ACallGS.of (fun _ => index_within _ _ _) rfl ?_
  simp -implicitDefEqProofs +contextual [-Bool.and_eq_false_imp, Bool.and_eq_false_iff]
  refine ⟨fun h1 => ?_, fun h1 h2 => ?_⟩
  · rw [if_pos h1] at hF
    subst hF
    rw [hL, hM]; simp
  rw [if_neg (by simp [h1, h2])] at hF
  subst hF
  have hs := entriesF_short h
  simp only [inB, Bool.and_eq_true, decide_eq_true_eq] at h1 h2
  rw [hL, hM, if_pos rfl, if_pos rfl]
  clear hL hM
  refine ALoopS.of Nat (fun i => [(1, .x (.one (.str p))), (2, .x (.one (.int .i64 from'))), (3, .x (.one (.int .i64 many))), (12, .own 33 9 ((withPrefix (l.take i) p).map Entry.row)), (35, .x (.one (.list 9 (l.map Entry.row)))), (36, .x (.one (.int .i64 l.length))), (37, .x (.one (.int .i64 i)))]) (fun i => i ≤ l.length) (fun i => l.length - i) 0 (Nat.zero_le _) ?_ ?_
  · simp [withPrefix]
  intro i hi
  by_cases hlt : i < l.length
  · have hstep : withPrefix (l.take (i + 1)) p = withPrefix (l.take i) p ++ (if hasPre l[i].key p = true then [l[i]] else []) := by
      unfold withPrefix
      rw [List.take_add_one, List.getElem?_eq_getElem hlt, List.filter_append]
      congr 1
      simp only [Option.toList, List.filter_cons, List.filter_nil]
    have hle : (withPrefix (l.take i) p).length ≤ 3000 := by
      have := List.length_filter_le (fun e : Entry => hasPre e.key p) (l.take i)
      rw [List.length_take] at this
      unfold withPrefix; omega
    simp -implicitDefEqProofs [hlt]
    refine ACallK.of (strings_HasPrefix _ _) ?_
    simp -implicitDefEqProofs +contextual [-Bool.and_eq_false_imp, Bool.and_eq_false_iff]
    refine ⟨fun hb => ?_, fun hb => ?_⟩
    · rw [if_pos hb] at hstep
      refine ⟨⟨by omega, by unfold maxLen; omega⟩, Again.of (i + 1) hlt (by omega) ?_⟩
      simp [hstep]
      exact wrapS _ (by omega)
    · rw [if_neg (by simp [hb])] at hstep
      refine Again.of (i + 1) hlt (by omega) ?_
      simp [hstep]
      exact wrapS _ (by omega)
  · rw [show l.take i = l from List.take_of_length_le (by omega)]
    simp -implicitDefEqProofs [hlt]
    obtain ⟨x, ex⟩ : ∃ x, x = withPrefix l p := ⟨_, rfl⟩
    have hx : x.length ≤ 3000 := by
      have := List.length_filter_le (fun e : Entry => hasPre e.key p) l
      rw [ex]; unfold withPrefix; omega
    rw [← ex, ← List.map_drop, ← List.map_take, ← List.map_take, List.take_of_length_le (i := x.length - _) (by rw [List.length_drop]; omega)]
    have e1 : x.drop (min from' (x.length : Int)).toNat = x.drop from'.toNat := by
      by_cases hm : from' ≤ x.length
      · rw [show min from' (x.length : Int) = from' by omega]
      · rw [List.drop_eq_nil_of_le (by omega), List.drop_eq_nil_of_le (by omega)]
    have e2 : x.length - (min from' (x.length : Int)).toNat = (x.drop from'.toNat).length := by rw [← e1, List.length_drop]
    rw [e1, e2]
    generalize hy : x.drop from'.toNat = y
    have hyl : y.length ≤ 3000 := by rw [← hy, List.length_drop]; omega
    have e3 : y.take (min many (y.length : Int)).toNat = y.take many.toNat := by
      by_cases hm : many ≤ y.length
      · rw [show min many (y.length : Int) = many by omega]
      · rw [List.take_of_length_le (by omega), List.take_of_length_le (by omega)]
    rw [e3]
    refine ⟨by omega, by omega, ACallK.of (slices_Clone (y.take many.toNat) (by rw [List.length_take]; omega)) ?_⟩
    simp -implicitDefEqProofs +contextual [-Bool.and_eq_false_imp, Bool.and_eq_false_iff]
    omega

theorem drop_snoc {α : Type} (w : List α) (x : α) (n : Nat) : (w ++ [x]).drop n = if n ≤ w.length then w.drop n ++ [x] else [] := by
  split
  · rename_i h; rw [List.drop_append_of_le_length h]
  · rename_i h; exact List.drop_eq_nil_of_le (by simp; omega)
theorem withPrefix_split (l : List Entry) (p : List UInt8) (i : Nat) : withPrefix l p = withPrefix (l.take i) p ++ withPrefix (l.drop i) p := by
  unfold withPrefix
  rw [← List.filter_append, List.take_append_drop]

theorem ref8_Prefix (l : List Entry) (p : List UInt8) (from' many : Int) : ACalls Tryd.prog 23 [entries l, .one (.str p), .one (.int .i64 from'), .one (.int .i64 many)] (.tup [entries (prefixL l p from' many), .one (.bool (prefixMore l p from' many)), .one (.int .i64 (prefixF l p from' many))]) := by
  refine ACalls.of mixed (fn := Tryd.f23) (by kernel_rfl) (by kernel_rfl) rfl (by kernel_rfl) (by simp [Tryd.f23]) (fun hok => ?_)
  generalize hF : prefixF l p from' many = F
  have hL : prefixL l p from' many = if F = 0 then ((withPrefix l p).drop from'.toNat).take many.toNat else [] := by rw [← hF]; rfl
  have hM : prefixMore l p from' many = if F = 0 then decide (many.toNat < ((withPrefix l p).drop from'.toNat).length) else false := by rw [← hF]; rfl
  unfold prefixF at hF
  have hk : (p ≠ [] ∧ keyB p = false) ↔ ((2000 : Int) < p.length ∨ plainB p = false) := by
    unfold keyB wordB inB
    cases p with
    | nil => simp [plainB]
    | cons a r => cases plainB (a :: r) <;> simp <;> omega
  simp -implicitDefEqProofs +contextual [-Bool.and_eq_false_imp, Bool.and_eq_false_iff]
  refine ACallK.of (ref8_checkEntries l) ?_
  simp -implicitDefEqProofs +contextual [-Bool.and_eq_false_imp, Bool.and_eq_false_iff]
  refine ⟨fun h => ?_, fun h => ?_⟩
  · rw [if_pos h] at hF
    subst hF
    rw [hL, hM, if_neg h, if_neg h]
    simp
  rw [if_neg (by simp [h])] at hF
  refine ACallGS.of (fun _ => ref8_plain _) rfl ?_
  simp -implicitDefEqProofs +contextual [-Bool.and_eq_false_imp, Bool.and_eq_false_iff]
  refine ⟨fun h1 => ?_, fun h1 h2 => ACallK.of (ref8_within _ _ _) ?_⟩
  · rw [if_pos (hk.2 h1)] at hF
    subst hF
    rw [hL, hM]; simp
  rw [if_neg (fun a => by rcases hk.1 a with b | b; omega; rw [h2] at b; cases b)] at hF
  simp -implicitDefEqProofs +contextual [-Bool.and_eq_false_imp, Bool.and_eq_false_iff]
  refine ACallGS.of (fun _ => ref8_within _ _ _) rfl ?_
  simp -implicitDefEqProofs +contextual [-Bool.and_eq_false_imp, Bool.and_eq_false_iff]
  refine ⟨fun h1 => ?_, fun h1 h2 => ?_⟩
  · rw [if_pos h1] at hF
    subst hF
    rw [hL, hM]; simp
  rw [if_neg (by simp [h1, h2])] at hF
  subst hF
  have hs := entriesF_short h
  simp only [inB, Bool.and_eq_true, decide_eq_true_eq] at h1 h2
  rw [hL, hM, if_pos rfl, if_pos rfl]
  clear hL hM
  refine ALoopS.of Nat (fun i => [(0, .x (.one (.list 9 (l.map Entry.row)))), (1, .x (.one (.str p))), (2, .x (.one (.int .i64 from'))), (3, .x (.one (.int .i64 many))), (12, .own 33 9 (((withPrefix (l.take i) p).drop from'.toNat).map Entry.row)), (13, .x (.one (.int .i64 (withPrefix (l.take i) p).length))), (14, .x (.one (.int .i64 i)))]) (fun i => i ≤ l.length ∧ ((withPrefix (l.take i) p).drop from'.toNat).length ≤ many.toNat) (fun i => l.length - i) 0 ⟨Nat.zero_le _, by simp [withPrefix]⟩ ?_ ?_
  · simp [withPrefix]
  rintro i ⟨hi, hm⟩
  by_cases hlt : i < l.length
  · have hstep : withPrefix (l.take (i + 1)) p = withPrefix (l.take i) p ++ (if hasPre l[i].key p = true then [l[i]] else []) := by
      unfold withPrefix
      rw [List.take_add_one, List.getElem?_eq_getElem hlt, List.filter_append]
      congr 1
      simp only [Option.toList, List.filter_cons, List.filter_nil]
    have hle : (withPrefix (l.take i) p).length ≤ 3000 := by
      have := List.length_filter_le (fun e : Entry => hasPre e.key p) (l.take i)
      rw [List.length_take] at this
      unfold withPrefix; omega
    have hsp := withPrefix_split l p (i + 1)
    obtain ⟨w, ew⟩ : ∃ w, w = withPrefix (l.take i) p := ⟨_, rfl⟩
    rw [← ew] at hstep hle hm ⊢
    simp -implicitDefEqProofs [hlt]
    refine ACallK.of (strings_HasPrefix _ _) ?_
    have hw : IntKind.i64.wrap ((w.length : Int) + 1) = ((w.length + 1 : Nat) : Int) := wrapS _ (by omega)
    simp -implicitDefEqProofs +contextual [-Bool.and_eq_false_imp, Bool.and_eq_false_iff, hlt, hw]
    refine ⟨fun hb => ?_, fun hb => ?_⟩
    · rw [if_neg (by simp [hb]), List.append_nil] at hstep
      refine Again.of (i + 1) ⟨hlt, by rw [hstep]; exact hm⟩ (by omega) ?_
      simp [hstep]
      exact wrapS _ (by omega)
    rw [if_pos hb] at hstep
    have hd := drop_snoc w l[i] from'.toNat
    refine ⟨fun hf => ?_, fun hf => ⟨fun hmm => ?_, fun hmm => ?_⟩⟩
    · rw [if_neg (by omega)] at hd
      have hw0 : w.drop from'.toNat = [] := List.drop_eq_nil_of_le (by omega)
      have hw1 : (w.map Entry.row).drop from'.toNat = [] := by rw [← List.map_drop, hw0]; rfl
      refine Again.of (i + 1) ⟨hlt, by rw [hstep, hd]; simp⟩ (by omega) ?_
      rw [hstep, hd]
      simp [hw1]
      exact wrapS _ (by omega)
    · rw [hsp, hstep, List.append_assoc, List.map_append, List.drop_append_of_le_length (by simp; omega)]
      refine ⟨List.take_left' (by simp; omega), by simp; omega⟩
    · rw [if_pos (by omega)] at hd
      rw [List.length_drop] at hm
      refine ⟨⟨by omega, by unfold maxLen; omega⟩, Again.of (i + 1) ⟨hlt, by rw [hstep, hd]; simp; omega⟩ (by omega) ?_⟩
      rw [hstep, hd]
      simp
      exact wrapS _ (by omega)
  · rw [show l.take i = l from List.take_of_length_le (by omega)] at hm ⊢
    simp -implicitDefEqProofs [hlt]
    rw [List.length_drop] at hm
    exact ⟨List.take_of_length_le (by simp; omega), by omega⟩

/-! ### Between -/
def betweenF (l : List Entry) (a b : Int) : Int :=
  if entriesF l ≠ 0 then entriesF l
  else if inB 0 253402300800 a = false ∨ inB 0 253402300800 b = false then 1 else 0
def within' (l : List Entry) (a b : Int) : List Entry := l.filter fun e => decide (a ≤ e.time) && decide (e.time < b)
def betweenL (l : List Entry) (a b : Int) : List Entry := if betweenF l a b = 0 then within' l a b else []
theorem within'_step {l : List Entry} {i : Nat} (a b : Int) (hlt : i < l.length) : within' (l.take (i + 1)) a b = within' (l.take i) a b ++ (if a ≤ l[i].time ∧ l[i].time < b then [l[i]] else []) := by
  unfold within'
  rw [List.take_add_one, List.getElem?_eq_getElem hlt, List.filter_append]
  congr 1
  simp only [Option.toList, List.filter_cons, List.filter_nil, Bool.and_eq_true, decide_eq_true_eq]
theorem within'_le (l : List Entry) (i : Nat) (a b : Int) : (within' (l.take i) a b).length ≤ l.length := by
  have := List.length_filter_le (fun e : Entry => decide (a ≤ e.time) && decide (e.time < b)) (l.take i)
  rw [List.length_take] at this
  unfold within'; omega

theorem index_Between (l : List Entry) (a b : Int) : ACalls Tryd.prog 24 [entries l, .one (.int .i64 a), .one (.int .i64 b)] (.tup [entries (betweenL l a b), .one (.int .i64 (betweenF l a b))]) := by
  refine ACalls.of mixed (fn := Tryd.f24) (by kernel_rfl) (by kernel_rfl) rfl (by kernel_rfl) (by simp [Tryd.f24]) (fun hok => ?_)
  generalize hF : betweenF l a b = F
  have hL : betweenL l a b = if F = 0 then within' l a b else [] := by rw [← hF]; rfl
  unfold betweenF at hF
  simp -implicitDefEqProofs +contextual [-Bool.and_eq_false_imp, Bool.and_eq_false_iff]
  refine ACallK.of (index_checkEntries l) ?_
  simp -implicitDefEqProofs +contextual [-Bool.and_eq_false_imp, Bool.and_eq_false_iff]
  refine ⟨fun h => ?_, fun h => ACallK.of (index_within _ _ _) ?_⟩
  · rw [if_pos h] at hF
    subst hF
    rw [hL, if_neg h]
    simp
  rw [if_neg (by simp [h])] at hF
  simp -implicitDefEqProofs +contextual [-Bool.and_eq_false_imp, Bool.and_eq_false_iff]
  refine ACallGS.of (fun _ => index_within _ _ _) rfl ?_
  simp -implicitDefEqProofs +contextual [-Bool.and_eq_false_imp, Bool.and_eq_false_iff]
  refine ⟨fun h1 => ?_, fun h1 h2 => ?_⟩
  · rw [if_pos h1] at hF
    subst hF
    rw [hL]; simp
  rw [if_neg (by simp [h1, h2])] at hF
  subst hF
  have hs := entriesF_short h
  rw [hL, if_pos rfl]
  clear hL
  refine ALoopS.of Nat (fun i => [(1, .x (.one (.int .i64 a))), (2, .x (.one (.int .i64 b))), (9, .own 33 9 ((within' (l.take i) a b).map Entry.row)), (25, .x (.one (.list 9 (l.map Entry.row)))), (26, .x (.one (.int .i64 l.length))), (27, .x (.one (.int .i64 i)))]) (fun i => i ≤ l.length) (fun i => l.length - i) 0 (Nat.zero_le _) ?_ ?_
  · simp [within']
  intro i hi
  by_cases hlt : i < l.length
  · have hstep := within'_step a b hlt
    have hle := within'_le l i a b
    simp -implicitDefEqProofs +contextual [-Bool.and_eq_false_imp, Bool.and_eq_false_iff, hlt]
    refine ⟨fun hb hc => ⟨⟨by omega, by unfold maxLen; omega⟩, ?_⟩, fun hb => ?_⟩
    · rw [if_pos ⟨hb, hc⟩] at hstep
      refine Again.of (i + 1) hlt (by omega) ?_
      simp [hstep]
      exact wrapS _ (by omega)
    · rw [if_neg (by omega)] at hstep
      refine Again.of (i + 1) hlt (by omega) ?_
      simp [hstep]
      exact wrapS _ (by omega)
  · rw [show l.take i = l from List.take_of_length_le (by omega)]
    simp -implicitDefEqProofs [hlt]

theorem ref8_Between (l : List Entry) (a b : Int) : ACalls Tryd.prog 25 [entries l, .one (.int .i64 a), .one (.int .i64 b)] (.tup [entries (betweenL l a b), .one (.int .i64 (betweenF l a b))]) := by
  refine ACalls.of mixed (fn := Tryd.f25) (by kernel_rfl) (by kernel_rfl) rfl (by kernel_rfl) (by simp [Tryd.f25]) (fun hok => ?_)
  generalize hF : betweenF l a b = F
  have hL : betweenL l a b = if F = 0 then within' l a b else [] := by rw [← hF]; rfl
  unfold betweenF at hF
  simp -implicitDefEqProofs +contextual [-Bool.and_eq_false_imp, Bool.and_eq_false_iff]
  refine ACallK.of (ref8_checkEntries l) ?_
  simp -implicitDefEqProofs +contextual [-Bool.and_eq_false_imp, Bool.and_eq_false_iff]
  refine ⟨fun h => ?_, fun h => ACallK.of (ref8_within _ _ _) ?_⟩
  · rw [if_pos h] at hF
    subst hF
    rw [hL, if_neg h]
    simp
  rw [if_neg (by simp [h])] at hF
  simp -implicitDefEqProofs +contextual [-Bool.and_eq_false_imp, Bool.and_eq_false_iff]
  refine ACallGS.of (fun _ => ref8_within _ _ _) rfl ?_
  simp -implicitDefEqProofs +contextual [-Bool.and_eq_false_imp, Bool.and_eq_false_iff]
  refine ⟨fun h1 => ?_, fun h1 h2 => ?_⟩
  · rw [if_pos h1] at hF
    subst hF
    rw [hL]; simp
  rw [if_neg (by simp [h1, h2])] at hF
  subst hF
  have hs := entriesF_short h
  rw [hL, if_pos rfl]
  clear hL
  refine ALoopS.of Nat (fun i => [(0, .x (.one (.list 9 (l.map Entry.row)))), (1, .x (.one (.int .i64 a))), (2, .x (.one (.int .i64 b))), (9, .own 33 9 ((within' (l.take i) a b).map Entry.row)), (10, .x (.one (.int .i64 i)))]) (fun i => i ≤ l.length) (fun i => l.length - i) 0 (Nat.zero_le _) ?_ ?_
  · simp [within']
  intro i hi
  by_cases hlt : i < l.length
  · have hstep := within'_step a b hlt
    have hle := within'_le l i a b
    simp -implicitDefEqProofs +contextual [-Bool.and_eq_false_imp, Bool.and_eq_false_iff, hlt]
    refine ⟨fun hb hc => ⟨⟨by omega, by unfold maxLen; omega⟩, ?_⟩, fun hb => ?_⟩
    · rw [if_pos ⟨hb, hc⟩] at hstep
      refine Again.of (i + 1) hlt (by omega) ?_
      simp [hstep]
      exact wrapS _ (by omega)
    · rw [if_neg (by omega)] at hstep
      refine Again.of (i + 1) hlt (by omega) ?_
      simp [hstep]
      exact wrapS _ (by omega)
  · rw [show l.take i = l from List.take_of_length_le (by omega)]
    simp -implicitDefEqProofs [hlt]
end Go.Proofs.YtdciogjhkckigaaDoor
