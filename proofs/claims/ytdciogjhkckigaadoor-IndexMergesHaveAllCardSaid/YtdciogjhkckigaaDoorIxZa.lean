/- A part of the proof: lemmas and contracts of functions. -/
import Derived.Test.YtdciogjhkckigaaDoorIxH
import Derived.Test.YtdciogjhkckigaaDoorAbEx
namespace Go.Proofs.YtdciogjhkckigaaDoor
open Go Go.Ab
set_option linter.unusedSectionVars false
variable [Amb]
set_option maxRecDepth 100000
set_option maxHeartbeats 4000000

abbrev rowsL (l : List Entry) : List (List CV) := l.map Entry.row
abbrev ownE (l : List Entry) : AV := .own 33 9 (rowsL l)
theorem rows_set {l : List Entry} {k : Nat} (e : Entry) : (rowsL l).set k e.row = rowsL (l.set k e) := by
  simp [rowsL, List.map_set]
theorem rows_at {l : List Entry} {k : Nat} (h : k < l.length) : (rowsL l).getD k [] = l[k].row := by
  simp [rowsL, List.getD_eq_getElem?_getD, h]
@[simp] theorem row_drop9 (e : Entry) : List.drop 9 e.row = [] := rfl
/-- Two elements changed. -/
def swapL (l : List Entry) (i j : Nat) : List Entry := match l[i]?, l[j]? with
  | some x, some y => (l.set i y).set j x
  | _, _ => l
theorem swapL_def {l : List Entry} {i j : Nat} (hi : i < l.length) (hj : j < l.length) : swapL l i j = (l.set i l[j]).set j l[i] := by
  unfold swapL
  rw [List.getElem?_eq_getElem hi, List.getElem?_eq_getElem hj]
@[simp] theorem swapL_len (l : List Entry) (i j : Nat) : (swapL l i j).length = l.length := by
  unfold swapL; split <;> simp
theorem swapL_at {l : List Entry} {i j : Nat} (hi : i < l.length) (hj : j < l.length) (k : Nat) : (swapL l i j)[k]? = if k = j then l[i]? else if k = i then l[j]? else l[k]? := by
  rw [swapL_def hi hj, List.getElem?_set, List.getElem?_set]
  simp only [List.length_set]
  by_cases h1 : j = k
  · subst h1; simp [hj, hi]
  · rw [if_neg h1, if_neg (Ne.symm h1)]
    by_cases h2 : i = k
    · subst h2; simp [hi, hj]
    · rw [if_neg h2, if_neg (Ne.symm h2)]
theorem swapL_perm {l : List Entry} {i j : Nat} (hi : i < l.length) (hj : j < l.length) : (swapL l i j).Perm l := by
  rw [swapL_def hi hj, List.perm_iff_count]
  intro a
  rw [List.count_set (by simpa using hj), List.count_set hi]
  by_cases hij : i = j
  · subst hij
    have := List.count_pos_iff.2 (List.getElem_mem hi)
    simp
    split
    · rename_i h; subst h; omega
    · rfl
  · rw [List.getElem_set_ne hij]
    have h1 := List.count_pos_iff.2 (List.getElem_mem hi)
    have h2 := List.count_pos_iff.2 (List.getElem_mem hj)
    by_cases ha : l[i] = a
    · subst ha
      by_cases hb : l[j] = l[i]
      · rw [hb]; simp <;> omega
      · simp [hb, Ne.symm hb] <;> omega
    · by_cases hb : l[j] = a
      · subst hb; simp [ha] <;> omega
      · simp [ha, hb]

theorem wrap_id {x : Int} (h : -9223372036854775808 ≤ x ∧ x < 9223372036854775808) : IntKind.i64.wrap x = x := by
  rw [IntKind.wrap_i64]; omega

def swIdx (a b i k : Nat) : Nat := if a ≤ k ∧ k < a + i then b + (k - a) else if b ≤ k ∧ k < b + i then a + (k - b) else k
/-- Where swapRange has come to. -/
structure SwapAt (l : List Entry) (a b i : Nat) (m : List Entry) : Prop where
  perm : m.Perm l
  len : m.length = l.length
  at_ : ∀ k, m[k]? = l[swIdx a b i k]?

theorem SwapAt.zero (l : List Entry) (a b : Nat) : SwapAt l a b 0 l := ⟨.refl _, rfl, fun k => by unfold swIdx; rw [if_neg (by omega), if_neg (by omega)]⟩
theorem SwapAt.step {l m : List Entry} {a b i n : Nat} (h : SwapAt l a b i m) (hi : i < n) (hab : a + n ≤ b) (hb : b + n ≤ l.length) : SwapAt l a b (i + 1) (swapL m (a + i) (b + i)) := by
  have h1 : a + i < m.length := by rw [h.len]; omega
  have h2 : b + i < m.length := by rw [h.len]; omega
  refine ⟨(swapL_perm h1 h2).trans h.perm, by rw [swapL_len, h.len], fun k => ?_⟩
  rw [swapL_at h1 h2, h.at_, h.at_, h.at_]
  unfold swIdx
  by_cases k1 : k = b + i
  · subst k1
    rw [if_pos rfl, if_neg (by omega), if_neg (by omega), if_neg (by omega), if_pos (by omega)]
    congr 1; omega
  · rw [if_neg k1]
    by_cases k2 : k = a + i
    · subst k2
      rw [if_pos rfl, if_neg (by omega), if_neg (by omega), if_pos (by omega)]
      congr 1; omega
    · rw [if_neg k2]
      congr 1
      (repeat' split) <;> omega

theorem slices_swapRange (l : List Entry) (a b n : Nat) (c : CV) (hab : a + n ≤ b) (hb : b + n ≤ l.length) (hl : l.length ≤ 16777216) :
    ∃ l', SwapAt l a b n l' ∧ ACallsM Tryd.prog 116 [ownE l, .x (.one (.int .i64 a)), .x (.one (.int .i64 b)), .x (.one (.int .i64 n)), .x (.one c)] (.tup []) [ownE l', .dead, .dead, .dead, .dead] := by
  refine ACallsM.ofE (SwapAt l a b n) (fun _ => .tup []) (fun l' => [ownE l', .dead, .dead, .dead, .dead]) mixed (fn := Tryd.f116) (by kernel_rfl) (by kernel_rfl) rfl (by kernel_rfl) 1 (fun _ => rfl) (by kernel_rfl) (fun _ => rfl) (by simp [Tryd.f116]) ?_
  simp -implicitDefEqProofs
  refine ALoopS.of (Nat × List Entry) (fun x => [(0, ownE x.2), (1, .x (.one (.int .i64 a))), (2, .x (.one (.int .i64 b))), (3, .x (.one (.int .i64 n))), (10, .x (.one (.int .i64 x.1)))]) (fun x => x.1 ≤ n ∧ SwapAt l a b x.1 x.2) (fun x => n - x.1) (0, l) ⟨Nat.zero_le _, .zero _ _ _⟩ ?_ ?_
  · simp
  rintro ⟨i, m⟩ ⟨hi, hm⟩
  dsimp only at hi hm ⊢
  have hlen := hm.len
  by_cases hlt : i < n
  · obtain ⟨p, ep⟩ : ∃ p, p = a + i := ⟨_, rfl⟩
    obtain ⟨q, eq⟩ : ∃ q, q = b + i := ⟨_, rfl⟩
    have h1 : p < m.length := by omega
    have h2 : q < m.length := by omega
    have w1 : IntKind.i64.wrap ((a : Int) + i) = (p : Nat) := by rw [wrap_id (by omega)]; omega
    have w2 : IntKind.i64.wrap ((b : Int) + i) = (q : Nat) := by rw [wrap_id (by omega)]; omega
    have w3 : IntKind.i64.wrap ((i : Int) + 1) = (i + 1 : Nat) := by rw [wrap_id (by omega)]; omega
    simp -implicitDefEqProofs [hlt, w1, w2, w3, h1, h2]
    refine Again.of (i + 1, swapL m p q) ⟨hlt, ep ▸ eq ▸ hm.step hlt hab hb⟩ (by dsimp only; omega) ?_
    simp [swapL_def h1 h2]
    simp only [row_drop9, List.append_nil, List.getElem_set]
    split <;> simp only [row_drop9, List.append_nil, List.getElem_map]
  · simp -implicitDefEqProofs [hlt]
    have : i = n := by omega
    subst this
    refine EndE.of m hm ?_
    simp
end Go.Proofs.YtdciogjhkckigaaDoor

namespace Go.Proofs.YtdciogjhkckigaaDoor
open Go Go.Ab
set_option linter.unusedSectionVars false
set_option linter.unusedVariables false
variable [Amb]
set_option maxRecDepth 100000
set_option maxHeartbeats 4000000

def rotIdx (a m b k : Nat) : Nat := if a ≤ k ∧ k < a + (b - m) then m + (k - a) else if a + (b - m) ≤ k ∧ k < b then a + (k - (a + (b - m))) else k
structure RotAt (l : List Entry) (a m b : Nat) (l' : List Entry) : Prop where
  perm : l'.Perm l
  len : l'.length = l.length
  at_ : ∀ k, l'[k]? = l[rotIdx a m b k]?
structure RotRun (l : List Entry) (a m b i j : Nat) (c : List Entry) : Prop where
  perm : c.Perm l
  len : c.length = l.length
  i1 : 1 ≤ i
  j1 : 1 ≤ j
  ia : a + i ≤ m
  jb : m + j ≤ b
  at_ : ∀ k, c[rotIdx (m - i) m (m + j) k]? = l[rotIdx a m b k]?
theorem RotRun.zero {l : List Entry} {a m b : Nat} (h1 : a < m) (h2 : m < b) : RotRun l a m b (m - a) (b - m) l :=
  ⟨.refl _, rfl, by omega, by omega, by omega, by omega, fun k => by rw [show m - (m - a) = a by omega, show m + (b - m) = b by omega]⟩
theorem RotRun.left {l : List Entry} {a m b i j : Nat} {c c' : List Entry} (h : RotRun l a m b i j c) (hij : j < i) (hs : SwapAt c (m - i) m j c') : RotRun l a m b (i - j) j c' := by
  have := h.i1; have := h.j1; have := h.ia; have := h.jb
  refine ⟨hs.perm.trans h.perm, by rw [hs.len, h.len], by omega, by omega, by omega, by omega, fun k => ?_⟩
  rw [hs.at_, ← h.at_]
  congr 1
  unfold swIdx rotIdx
  (repeat' split) <;> omega
theorem RotRun.right {l : List Entry} {a m b i j : Nat} {c c' : List Entry} (h : RotRun l a m b i j c) (hij : i < j) (hs : SwapAt c (m - i) (m + j - i) i c') : RotRun l a m b i (j - i) c' := by
  have := h.i1; have := h.j1; have := h.ia; have := h.jb
  refine ⟨hs.perm.trans h.perm, by rw [hs.len, h.len], by omega, by omega, by omega, by omega, fun k => ?_⟩
  rw [hs.at_, ← h.at_]
  congr 1
  unfold swIdx rotIdx
  (repeat' split) <;> omega
theorem RotRun.done {l : List Entry} {a m b i : Nat} {c c' : List Entry} (h : RotRun l a m b i i c) (hs : SwapAt c (m - i) m i c') : RotAt l a m b c' := by
  have := h.i1; have := h.ia; have := h.jb
  refine ⟨hs.perm.trans h.perm, by rw [hs.len, h.len], fun k => ?_⟩
  rw [hs.at_, ← h.at_]
  congr 1
  unfold swIdx rotIdx
  (repeat' split) <;> omega

theorem slices_rotate (l : List Entry) (a m b : Nat) (c : CV) (ham : a < m) (hmb : m < b) (hb : b ≤ l.length) (hl : l.length ≤ 16777216) :
    ∃ l', RotAt l a m b l' ∧ ACallsM Tryd.prog 109 [ownE l, .x (.one (.int .i64 a)), .x (.one (.int .i64 m)), .x (.one (.int .i64 b)), .x (.one c)] (.tup []) [ownE l', .dead, .dead, .dead, .dead] := by
  refine ACallsM.ofE (RotAt l a m b) (fun _ => .tup []) (fun l' => [ownE l', .dead, .dead, .dead, .dead]) mixed (fn := Tryd.f109) (by kernel_rfl) (by kernel_rfl) rfl (by kernel_rfl) 1 (fun _ => rfl) (by kernel_rfl) (fun _ => rfl) (by simp [Tryd.f109]) ?_
  have w1 : IntKind.i64.wrap ((m : Int) - a) = (m - a : Nat) := by rw [wrap_id (by omega)]; omega
  have w2 : IntKind.i64.wrap ((b : Int) - m) = (b - m : Nat) := by rw [wrap_id (by omega)]; omega
  obtain ⟨i0, ei⟩ : ∃ i, i = m - a := ⟨_, rfl⟩
  obtain ⟨j0, ej⟩ : ∃ j, j = b - m := ⟨_, rfl⟩
  rw [← ei] at w1
  rw [← ej] at w2
  simp -implicitDefEqProofs [w1, w2]
  refine ALoopS.of (Nat × Nat × List Entry) (fun x => [(0, ownE x.2.2), (2, .x (.one (.int .i64 m))), (4, .x (.one c)), (10, .x (.one (.int .i64 x.1))), (11, .x (.one (.int .i64 x.2.1)))]) (fun x => RotRun l a m b x.1 x.2.1 x.2.2) (fun x => x.1 + x.2.1) (i0, j0, l) (by dsimp only; rw [ei, ej]; exact .zero ham hmb) ?_ ?_
  · simp
  rintro ⟨i, j, x⟩ hx
  dsimp only at hx ⊢
  have hlen := hx.len
  have := hx.i1; have := hx.j1; have := hx.ia; have := hx.jb
  have hbnd := hx.jb
  obtain ⟨p, ep⟩ : ∃ p, p = m - i := ⟨_, rfl⟩
  have w3 : IntKind.i64.wrap ((m : Int) - i) = (p : Nat) := by rw [wrap_id (by omega)]; omega
  by_cases hij : i = j
  · subst hij
    simp -implicitDefEqProofs [w3]
    refine ACallK.lend ?_
    obtain ⟨x', hx', hc⟩ := slices_swapRange x p m i c (by omega) (by omega) (by omega)
    simp -implicitDefEqProofs
    refine ACallM.of hc ?_
    simp -implicitDefEqProofs
    exact EndE.of x' (hx.done (ep ▸ hx')) (by simp)
  · have hne : ((i : Int) = (j : Int)) = False := eq_false (by omega)
    by_cases hgt : j < i
    · obtain ⟨r, er⟩ : ∃ r, r = i - j := ⟨_, rfl⟩
      have w4 : IntKind.i64.wrap ((i : Int) - j) = (r : Nat) := by rw [wrap_id (by omega)]; omega
      have hgt' : (j : Int) < i := by omega
      simp -implicitDefEqProofs [w3, w4, hne, hgt']
      refine ACallK.lend ?_
      obtain ⟨x', hx', hc⟩ := slices_swapRange x p m j c (by omega) (by omega) (by omega)
      simp -implicitDefEqProofs
      refine ACallM.of hc ?_
      simp -implicitDefEqProofs [w4]
      refine Again.of (r, j, x') (by dsimp only; rw [er]; exact hx.left hgt (ep ▸ hx')) (by dsimp only; omega) ?_
      simp
    · obtain ⟨r, er⟩ : ∃ r, r = j - i := ⟨_, rfl⟩
      obtain ⟨q, eq⟩ : ∃ q, q = m + j := ⟨_, rfl⟩
      obtain ⟨q', eq'⟩ : ∃ q', q' = m + j - i := ⟨_, rfl⟩
      have w4 : IntKind.i64.wrap ((j : Int) - i) = (r : Nat) := by rw [wrap_id (by omega)]; omega
      have w5 : IntKind.i64.wrap ((m : Int) + j) = (q : Nat) := by rw [wrap_id (by omega)]; omega
      have w6 : IntKind.i64.wrap ((q : Int) - i) = (q' : Nat) := by rw [wrap_id (by omega)]; omega
      have hgt' : ¬ (j : Int) < i := by omega
      simp -implicitDefEqProofs [w3, w4, w5, w6, hne, hgt']
      refine ACallK.lend ?_
      obtain ⟨x', hx', hc⟩ := slices_swapRange x p q' i c (by omega) (by omega) (by omega)
      simp -implicitDefEqProofs
      refine ACallM.of hc ?_
      simp -implicitDefEqProofs [w4]
      refine Again.of (i, r, x') (by dsimp only; rw [er]; exact hx.right (by omega) (ep ▸ eq' ▸ hx')) (by dsimp only; omega) ?_
      simp
end Go.Proofs.YtdciogjhkckigaaDoor

namespace Go.Proofs.YtdciogjhkckigaaDoor
open Go Go.Ab
set_option linter.unusedSectionVars false
set_option linter.unusedVariables false
variable [Amb]
set_option maxRecDepth 100000
set_option maxHeartbeats 4000000

theorem Before.irrefl (a : Entry) : ¬ Before a a := by
  unfold Before
  rintro (h | ⟨_, h | ⟨_, h | ⟨_, h⟩⟩⟩)
  · rw [ltB_irrefl] at h; cases h
  · omega
  · rw [ltB_irrefl] at h; cases h
  · omega
theorem Before.asymm {a b : Entry} (h : Before a b) : ¬ Before b a := fun h' => Before.irrefl a (h.trans h')
theorem ltB_or {a b c : List UInt8} (h : ltB a c = true) : ltB a b = true ∨ (a = b) ∨ ltB b c = true := by
  cases hab : ltB a b with
  | true => exact .inl rfl
  | false =>
    cases hba : ltB b a with
    | true => exact .inr (.inr (ltB_trans hba h))
    | false => exact .inr (.inl (ltB_total hab hba))
theorem Before.or {a c : Entry} (b : Entry) (h : Before a c) : Before a b ∨ Before b c := by
  unfold Before at *
  rcases h with h | ⟨e, h⟩
  · rcases ltB_or (b := b.key) h with h | h | h
    · exact .inl (.inl h)
    · exact .inr (.inl (h ▸ ‹_›))
    · exact .inr (.inl h)
  · rcases hk : ltB a.key b.key with _ | _
    · rcases hk' : ltB b.key a.key with _ | _
      · have hab := ltB_total hk hk'
        rw [← hab, ← e]
        simp only [ltB_irrefl, true_and, Bool.false_eq_true, false_or]
        rcases h with h | ⟨te, h⟩
        · by_cases h1 : a.time < b.time
          · exact .inl (.inl h1)
          · exact .inr (.inl (by omega))
        · by_cases h1 : a.time < b.time
          · exact .inl (.inl h1)
          · by_cases h2 : b.time < c.time
            · exact .inr (.inl h2)
            · have h3 : a.time = b.time := by omega
              have h4 : b.time = c.time := by omega
              rcases h with h | ⟨fe, h⟩
              · rcases ltB_or (b := b.file) h with h | h | h
                · exact .inl (.inr ⟨h3, .inl h⟩)
                · exact .inr (.inr ⟨h4, .inl (h ▸ ‹_›)⟩)
                · exact .inr (.inr ⟨h4, .inl h⟩)
              · rcases hf : ltB a.file b.file with _ | _
                · rcases hf' : ltB b.file a.file with _ | _
                  · have hab := ltB_total hf hf'
                    by_cases h5 : a.lo < b.lo
                    · exact .inl (.inr ⟨h3, .inr ⟨hab, h5⟩⟩)
                    · exact .inr (.inr ⟨h4, .inr ⟨by rw [← hab, fe], by omega⟩⟩)
                  · exact .inr (.inr ⟨h4, .inl (by rw [← fe]; exact hf')⟩)
                · exact .inl (.inr ⟨h3, .inl rfl⟩)
      · exact .inr (.inl (by rw [← e]; exact hk'))
    · exact .inl (.inl rfl)
/-- Not after. -/
theorem Before.le {a b c : Entry} (h1 : ¬ Before b a) (h2 : ¬ Before c b) : ¬ Before c a := fun h => (h.or b).elim h2 h1

def SortedOn (m : List Entry) (a b : Nat) : Prop := ∀ i j x y, a ≤ i → i < j → j < b → m[i]? = some x → m[j]? = some y → ¬ Before y x
structure SortAt (l : List Entry) (a i : Nat) (m : List Entry) : Prop where
  perm : m.Perm l
  len : m.length = l.length
  out : ∀ k, k < a ∨ i ≤ k → m[k]? = l[k]?
  srt : SortedOn m a i
structure InsAt (l : List Entry) (a i j : Nat) (m : List Entry) : Prop where
  perm : m.Perm l
  len : m.length = l.length
  aj : a ≤ j
  ji : j ≤ i
  il : i < l.length
  out : ∀ k, k < a ∨ i < k → m[k]? = l[k]?
  srt : ∀ p q x y, a ≤ p → p < q → q ≤ i → p ≠ j → q ≠ j → m[p]? = some x → m[q]? = some y → ¬ Before y x
  ins : ∀ q x y, j < q → q ≤ i → m[j]? = some x → m[q]? = some y → ¬ Before y x
theorem SortAt.ins {l m : List Entry} {a i : Nat} (h : SortAt l a i m) (ha : a ≤ i) (hi : i < l.length) : InsAt l a i i m :=
  ⟨h.perm, h.len, ha, Nat.le_refl _, hi, fun k hk => h.out k (by omega), fun p q x y h1 h2 h3 _ h5 => h.srt p q x y h1 h2 (by omega), fun q x y h1 h2 => by omega⟩
theorem InsAt.done {l m : List Entry} {a i j : Nat} (h : InsAt l a i j m) (hd : j = a ∨ ∃ x y, m[j - 1]? = some x ∧ m[j]? = some y ∧ ¬ Before y x) : SortAt l a (i + 1) m := by
  refine ⟨h.perm, h.len, fun k hk => h.out k (by omega), fun p q x y h1 h2 h3 hp hq => ?_⟩
  have haj := h.aj
  by_cases hpj : p = j
  · subst hpj; exact h.ins q x y h2 (by omega) hp hq
  · by_cases hqj : q = j
    · subst hqj
      rcases hd with rfl | ⟨x', y', e1, e2, e3⟩
      · omega
      · rw [hq] at e2; injection e2 with e2; subst e2
        by_cases hpp : p = q - 1
        · subst hpp; rw [hp] at e1; injection e1 with e1; subst e1; exact e3
        · exact Before.le (h.srt p (q - 1) x x' h1 (by omega) (by have := h.ji; omega) hpj (by omega) hp e1) e3
    · exact h.srt p q x y h1 h2 (by omega) hpj hqj hp hq
theorem InsAt.step {l m : List Entry} {a i j : Nat} (h : InsAt l a i j m) (hj : a < j) {x y : Entry} (hx : m[j - 1]? = some x) (hy : m[j]? = some y) (hb : Before y x) : InsAt l a i (j - 1) (swapL m j (j - 1)) := by
  have hji := h.ji
  have hil := h.il
  have h1 : j < m.length := by rw [h.len]; omega
  have h2 : j - 1 < m.length := by omega
  have at_ := swapL_at (l := m) h1 h2
  refine ⟨(swapL_perm h1 h2).trans h.perm, by rw [swapL_len, h.len], by omega, by omega, hil, fun k hk => ?_, fun p q u v k1 k2 k3 k4 k5 hp hq => ?_, fun q u v k1 k2 hp hq => ?_⟩
  · rw [at_, if_neg (by omega), if_neg (by omega)]; exact h.out k hk
  · rw [at_, if_neg k4] at hp
    rw [at_, if_neg k5] at hq
    by_cases hpj : p = j
    · rw [if_pos hpj] at hp
      rw [if_neg (by omega)] at hq
      exact h.srt (j - 1) q u v (by omega) (by omega) k3 (by omega) (by omega) hp hq
    · rw [if_neg hpj] at hp
      by_cases hqj : q = j
      · rw [if_pos hqj] at hq
        exact h.srt p (j - 1) u v k1 (by omega) (by omega) hpj (by omega) hp hq
      · rw [if_neg hqj] at hq
        exact h.srt p q u v k1 k2 k3 hpj hqj hp hq
  · rw [at_, if_pos rfl] at hp
    rw [at_, if_neg (by omega)] at hq
    by_cases hqj : q = j
    · rw [if_pos hqj, hx] at hq
      rw [hy] at hp
      injection hp with hp; injection hq with hq
      subst hp; subst hq
      exact hb.asymm
    · rw [if_neg hqj] at hq
      exact h.ins q u v (by omega) k2 hp hq

abbrev cmpV : CV := .atom (.func (.func 42) #[] #[])
theorem slices_insertionSort (l : List Entry) (a b : Nat) (hab : a ≤ b) (hb : b ≤ l.length) (hl : l.length ≤ 16777216) :
    ∃ l', SortAt l a b l' ∧ ACallsM Tryd.prog 98 [ownE l, .x (.one (.int .i64 a)), .x (.one (.int .i64 b)), .x (.one cmpV)] (.tup []) [ownE l', .dead, .dead, .dead] := by
  refine ACallsM.ofE (SortAt l a b) (fun _ => .tup []) (fun l' => [ownE l', .dead, .dead, .dead]) mixed (fn := Tryd.f98) (by kernel_rfl) (by kernel_rfl) rfl (by kernel_rfl) 1 (fun _ => rfl) (by kernel_rfl) (fun _ => rfl) (by simp [Tryd.f98]) ?_
  have w1 : IntKind.i64.wrap ((a : Int) + 1) = (a + 1 : Nat) := by rw [wrap_id (by omega)]; omega
  simp -implicitDefEqProofs [w1]
  refine ALoopS.of (Nat × List Entry) (fun x => [(0, ownE x.2), (1, .x (.one (.int .i64 a))), (2, .x (.one (.int .i64 b))), (3, .x (.one cmpV)), (8, .x (.one (.int .i64 x.1)))]) (fun x => a < x.1 ∧ (x.1 ≤ b ∨ (x.1 = b + 1 ∧ x.2 = l)) ∧ SortAt l a x.1 x.2) (fun x => b + 1 - x.1) (a + 1, l) ⟨by dsimp only; omega, by dsimp only; by_cases h : a + 1 ≤ b; exact .inl h; exact .inr ⟨by omega, rfl⟩, .refl _, rfl, fun _ _ => rfl, fun i j x y h1 h2 h3 => by dsimp only at h3; omega⟩ ?_ ?_
  · simp
  rintro ⟨i, m⟩ ⟨hi, hib, hm⟩
  dsimp only at hi hib hm ⊢
  by_cases hlt : i < b
  · simp -implicitDefEqProofs [hlt]
    refine ALoopS.of (Nat × List Entry) (fun x => [(0, ownE x.2), (1, .x (.one (.int .i64 a))), (2, .x (.one (.int .i64 b))), (3, .x (.one cmpV)), (8, .x (.one (.int .i64 i))), (9, .x (.one (.int .i64 x.1)))]) (fun x => InsAt l a i x.1 x.2) (fun x => x.1) (i, m) (hm.ins (by omega) (by omega)) ?_ ?_
    · simp
    rintro ⟨j, c⟩ hc
    dsimp only at hc ⊢
    have hlen := hc.len
    have haj := hc.aj; have hji := hc.ji; have hil := hc.il
    have w2 : IntKind.i64.wrap ((i : Int) + 1) = (i + 1 : Nat) := by rw [wrap_id (by omega)]; omega
    by_cases hja : a < j
    · obtain ⟨q, eq⟩ : ∃ q, q = j - 1 := ⟨_, rfl⟩
      have w3 : IntKind.i64.wrap ((j : Int) - 1) = (q : Nat) := by rw [wrap_id (by omega)]; omega
      have h1 : j < c.length := by omega
      have h2 : q < c.length := by omega
      have hja' : (a : Int) < j := by omega
      simp -implicitDefEqProofs [w3, h1, h2, hja]
      refine ACallGS.of (fun _ => index_compare _ _) rfl ?_
      by_cases hbf : cmpE c[j] c[q] < 0
      · simp -implicitDefEqProofs [w3, h1, h2, hbf]
        refine Again.of (q, swapL c j q) (by dsimp only; rw [eq]; exact hc.step hja (by rw [← eq]; exact List.getElem?_eq_getElem h2) (List.getElem?_eq_getElem h1) (cmpE_neg.1 hbf)) (by dsimp only; omega) ?_
        simp [swapL_def h1 h2]
        simp only [row_drop9, List.append_nil, List.getElem_set]
        split <;> simp only [row_drop9, List.append_nil, List.getElem_map]
      · simp -implicitDefEqProofs [w2, hbf]
        refine Again.of (i + 1, c) ⟨by dsimp only; omega, .inl (by dsimp only; omega), hc.done (.inr ⟨c[q], c[j], by rw [← eq]; exact List.getElem?_eq_getElem h2, List.getElem?_eq_getElem h1, fun h => hbf (cmpE_neg.2 h)⟩)⟩ (by dsimp only; omega) ?_
        simp
    · have hj : j = a := by omega
      simp -implicitDefEqProofs [hja]
      refine ACallGS.of (fun h => by cases h) (r := .x (.one (.int .i64 0))) rfl ?_
      simp -implicitDefEqProofs [w2]
      refine Again.of (i + 1, c) ⟨by dsimp only; omega, .inl (by dsimp only; omega), hc.done (.inl hj)⟩ (by dsimp only; omega) ?_
      simp
  · simp -implicitDefEqProofs [hlt]
    refine EndE.of m ⟨hm.perm, hm.len, fun k hk => ?_, fun p q x y h1 h2 h3 => hm.srt p q x y h1 h2 (by omega)⟩ (by simp)
    rcases hib with hib | ⟨_, rfl⟩
    · exact hm.out k (by omega)
    · rfl
end Go.Proofs.YtdciogjhkckigaaDoor

namespace Go.Proofs.YtdciogjhkckigaaDoor
open Go Go.Ab
set_option linter.unusedSectionVars false
set_option linter.unusedVariables false
variable [Amb]
set_option maxRecDepth 100000
set_option maxHeartbeats 4000000

def e0 : Entry := ⟨[], 0, 0, [], [], [], 0, 0, false⟩
def gE (l : List Entry) (k : Nat) : Entry := (l[k]?).getD e0
theorem gE_at {l : List Entry} {k : Nat} (h : k < l.length) : l[k]? = some (gE l k) := by
  unfold gE; rw [List.getElem?_eq_getElem h]; rfl
theorem gE_get {l : List Entry} {k : Nat} (h : k < l.length) : l[k] = gE l k := by
  unfold gE; rw [List.getElem?_eq_getElem h]; rfl
def SortedG (l : List Entry) (a b : Nat) : Prop := ∀ i j, a ≤ i → i < j → j < b → ¬ Before (gE l j) (gE l i)
theorem SortedG.of {l : List Entry} {a b : Nat} (hb : b ≤ l.length) (h : SortedOn l a b) : SortedG l a b := fun i j h1 h2 h3 => h i j _ _ h1 h2 h3 (gE_at (by omega)) (gE_at (by omega))
theorem SortedG.on {l : List Entry} {a b : Nat} (h : SortedG l a b) : SortedOn l a b := fun i j x y h1 h2 h3 hx hy => by
  have := h i j h1 h2 h3
  unfold gE at this
  rw [hx, hy] at this
  exact this
theorem SortedG.le {l : List Entry} {a b : Nat} (h : SortedG l a b) {i j : Nat} (h1 : a ≤ i) (h2 : i ≤ j) (h3 : j < b) : ¬ Before (gE l j) (gE l i) := by
  rcases Nat.lt_or_eq_of_le h2 with h4 | rfl
  · exact h i j h1 h4 h3
  · exact Before.irrefl _
theorem SortedG.sub {l : List Entry} {a b c d : Nat} (h : SortedG l a b) (h1 : a ≤ c) (h2 : d ≤ b) : SortedG l c d := fun i j k1 k2 k3 => h i j (by omega) k2 (by omega)

/-- A search by halves. -/
structure Bin (A : Nat → Prop) (lo hi i j : Nat) : Prop where
  li : lo ≤ i
  ij : i ≤ j
  jh : j ≤ hi
  yes : ∀ k, lo ≤ k → k < i → A k
  no : ∀ k, j ≤ k → k < hi → ¬ A k
theorem Bin.zero {A : Nat → Prop} {lo hi : Nat} (h : lo ≤ hi) : Bin A lo hi lo hi := ⟨Nat.le_refl _, h, Nat.le_refl _, fun k h1 h2 => by omega, fun k h1 h2 => by omega⟩
theorem Bin.up {A : Nat → Prop} {lo hi i j h : Nat} (b : Bin A lo hi i j) (hm : ∀ c c', lo ≤ c' → c' ≤ c → c < hi → A c → A c') (h1 : i ≤ h) (h2 : h < j) (ha : A h) : Bin A lo hi (h + 1) j :=
  ⟨by have := b.li; omega, by omega, b.jh, fun k k1 k2 => hm h k k1 (by omega) (by have := b.jh; omega) ha, b.no⟩
theorem Bin.down {A : Nat → Prop} {lo hi i j h : Nat} (b : Bin A lo hi i j) (hm : ∀ c c', lo ≤ c' → c' ≤ c → c < hi → A c → A c') (h1 : i ≤ h) (h2 : h < j) (ha : ¬ A h) : Bin A lo hi i h :=
  ⟨b.li, h1, by have := b.jh; omega, b.yes, fun k k1 k2 hk => ha (hm k h (by have := b.li; omega) k1 k2 hk)⟩

/-- An element goes forward from a to k. -/
structure Fwd (l : List Entry) (a k : Nat) (c : List Entry) : Prop where
  perm : c.Perm l
  len : c.length = l.length
  at_ : ∀ p, c[p]? = l[if a ≤ p ∧ p < k then p + 1 else if p = k then a else p]?
theorem Fwd.zero (l : List Entry) (a : Nat) : Fwd l a a l := ⟨.refl _, rfl, fun p => by congr 1; (repeat' split) <;> omega⟩
theorem Fwd.step {l c : List Entry} {a k : Nat} (h : Fwd l a k c) (ha : a ≤ k) (hk : k + 1 < l.length) : Fwd l a (k + 1) (swapL c k (k + 1)) := by
  have h1 : k < c.length := by rw [h.len]; omega
  have h2 : k + 1 < c.length := by rw [h.len]; omega
  refine ⟨(swapL_perm h1 h2).trans h.perm, by rw [swapL_len, h.len], fun p => ?_⟩
  rw [swapL_at h1 h2, h.at_, h.at_, h.at_]
  by_cases k1 : p = k + 1
  · rw [if_pos k1]; congr 1; (repeat' split) <;> omega
  · rw [if_neg k1]
    by_cases k2 : p = k
    · rw [if_pos k2]; congr 1; (repeat' split) <;> omega
    · rw [if_neg k2]; congr 1; (repeat' split) <;> omega
/-- An element goes back from m to k. -/
structure Bwd (l : List Entry) (m k : Nat) (c : List Entry) : Prop where
  perm : c.Perm l
  len : c.length = l.length
  at_ : ∀ p, c[p]? = l[if k < p ∧ p ≤ m then p - 1 else if p = k then m else p]?
theorem Bwd.zero (l : List Entry) (m : Nat) : Bwd l m m l := ⟨.refl _, rfl, fun p => by congr 1; (repeat' split) <;> omega⟩
theorem Bwd.step {l c : List Entry} {m k : Nat} (h : Bwd l m k c) (hk : 0 < k) (hkm : k ≤ m) (hm : m < l.length) : Bwd l m (k - 1) (swapL c k (k - 1)) := by
  have h1 : k < c.length := by rw [h.len]; omega
  have h2 : k - 1 < c.length := by rw [h.len]; omega
  refine ⟨(swapL_perm h1 h2).trans h.perm, by rw [swapL_len, h.len], fun p => ?_⟩
  rw [swapL_at h1 h2, h.at_, h.at_, h.at_]
  by_cases k1 : p = k - 1
  · rw [if_pos k1]; congr 1; (repeat' split) <;> omega
  · rw [if_neg k1]
    by_cases k2 : p = k
    · rw [if_pos k2]; congr 1; (repeat' split) <;> omega
    · rw [if_neg k2]; congr 1; (repeat' split) <;> omega

theorem gE_of {c l : List Entry} {p q : Nat} (h : c[p]? = l[q]?) : gE c p = gE l q := by unfold gE; rw [h]

theorem Fwd.sorted {l c : List Entry} {a b i : Nat} (h : Fwd l a (i - 1) c) (hb : b ≤ l.length) (hs : SortedG l (a + 1) b) (hab : a + 1 < b) (hbin : Bin (fun k => Before (gE l k) (gE l a)) (a + 1) b i i) : SortAt l a b c := by
  have hi := hbin.li; have hj := hbin.jh
  refine ⟨h.perm, h.len, fun k hk => ?_, SortedG.on fun p q h1 h2 h3 => ?_⟩
  · rw [h.at_]; congr 1; (repeat' split) <;> omega
  · have g1 : ∀ k, a ≤ k → k < i - 1 → gE c k = gE l (k + 1) := fun k h1 h2 => by rw [gE_of (h.at_ k), if_pos ⟨h1, h2⟩]
    have g2 : gE c (i - 1) = gE l a := by rw [gE_of (h.at_ _), if_neg (by omega), if_pos rfl]
    have g3 : ∀ k, i - 1 < k → gE c k = gE l k := fun k h1 => by rw [gE_of (h.at_ k), if_neg (by omega), if_neg (by omega)]
    by_cases p1 : p < i - 1
    · rw [g1 p h1 p1]
      by_cases q1 : q < i - 1
      · rw [g1 q (by omega) q1]; exact hs _ _ (by omega) (by omega) (by omega)
      · by_cases q2 : q = i - 1
        · rw [q2, g2]; exact (hbin.yes _ (by omega) (by omega)).asymm
        · rw [g3 q (by omega)]; exact hs _ _ (by omega) (by omega) (by omega)
    · rw [g3 q (by omega)]
      by_cases p2 : p = i - 1
      · rw [p2, g2]; exact hbin.no _ (by omega) (by omega)
      · rw [g3 p (by omega)]; exact hs _ _ (by omega) (by omega) (by omega)
theorem Bwd.sorted {l c : List Entry} {a m i : Nat} (h : Bwd l m i c) (hb : m + 1 ≤ l.length) (hs : SortedG l a m) (ham : a < m) (hbin : Bin (fun k => ¬ Before (gE l m) (gE l k)) a m i i) : SortAt l a (m + 1) c := by
  have hi := hbin.li; have hj := hbin.jh
  refine ⟨h.perm, h.len, fun k hk => ?_, SortedG.on fun p q h1 h2 h3 => ?_⟩
  · rw [h.at_]; congr 1; (repeat' split) <;> omega
  · have ep := gE_of (h.at_ p)
    have eq := gE_of (h.at_ q)
    rw [ep, eq]
    by_cases q1 : i < q
    · rw [if_pos (by omega : i < q ∧ q ≤ m)]
      by_cases p1 : i < p
      · rw [if_pos (by omega)]; exact hs _ _ (by omega) (by omega) (by omega)
      · rw [if_neg (by omega)]
        by_cases p2 : p = i
        · rw [if_pos p2]
          have := hbin.no (q - 1) (by omega) (by omega)
          exact (Classical.not_not.1 this).asymm
        · rw [if_neg p2]; exact hs _ _ (by omega) (by omega) (by omega)
    · rw [if_neg (by omega : ¬ (i < q ∧ q ≤ m)), if_neg (by omega : ¬ (i < p ∧ p ≤ m)), if_neg (by omega : ¬ p = i)]
      by_cases q2 : q = i
      · rw [if_pos q2]; exact hbin.yes _ (by omega) (by omega)
      · rw [if_neg q2]; exact hs _ _ (by omega) (by omega) (by omega)

theorem RotAt.same {l : List Entry} {s m e : Nat} (h1 : s ≤ m) (h2 : m ≤ e) (h : ¬ (s < m ∧ m < e)) : RotAt l s m e l := ⟨.refl _, rfl, fun k => by unfold rotIdx; congr 1; (repeat' split) <;> omega⟩

theorem seg_mem {l l' : List Entry} {a b : Nat} (hab : a ≤ b) (hp : l'.Perm l) (hl : l'.length = l.length) (out : ∀ k, k < a ∨ b ≤ k → l'[k]? = l[k]?) {p : Nat} {x : Entry} (h1 : a ≤ p) (h2 : p < b) (hx : l'[p]? = some x) : ∃ q, a ≤ q ∧ q < b ∧ l[q]? = some x := by
  have ht : l'.take a = l.take a := by
    apply List.ext_getElem?
    intro k
    rw [List.getElem?_take, List.getElem?_take]
    split
    · exact out k (.inl (by assumption))
    · rfl
  have hd : l'.drop b = l.drop b := by
    apply List.ext_getElem?
    intro k
    rw [List.getElem?_drop, List.getElem?_drop]
    exact out _ (.inr (by omega))
  have split3 : ∀ m : List Entry, m = m.take a ++ ((m.drop a).take (b - a) ++ m.drop b) := by
    intro m
    conv => lhs; rw [← List.take_append_drop a m, ← List.take_append_drop (b - a) (m.drop a), List.drop_drop]
    rw [show a + (b - a) = b by omega]
  rw [split3 l', split3 l, ht, hd] at hp
  have hp2 := (List.perm_append_right_iff _).1 ((List.perm_append_left_iff _).1 hp)
  have hin : x ∈ (l'.drop a).take (b - a) := by
    refine List.mem_iff_getElem?.2 ⟨p - a, ?_⟩
    rw [List.getElem?_take, if_pos (by omega), List.getElem?_drop, show a + (p - a) = p by omega]
    exact hx
  obtain ⟨q, hq⟩ := List.mem_iff_getElem?.1 (hp2.mem_iff.1 hin)
  rw [List.getElem?_take] at hq
  split at hq
  · rw [List.getElem?_drop] at hq
    exact ⟨a + q, by omega, by omega, hq⟩
  · cases hq

/-- The halves are apart. -/
structure Halves (l : List Entry) (a s mid e b : Nat) : Prop where
  s1 : SortedG l a s
  s2 : SortedG l s mid
  s3 : SortedG l mid e
  s4 : SortedG l e b
  cross : ∀ p q, a ≤ p → p < mid → mid ≤ q → q < b → ¬ Before (gE l q) (gE l p)
theorem halves {l l' : List Entry} {a m b mid s e lo hi : Nat} (hA : SortedG l a m) (hB : SortedG l m b) (ham : a < m) (hmb : m < b) (hmid : a ≤ mid ∧ mid < b) (hlo : lo = a ∨ (lo + b = mid + m)) (hla : a ≤ lo) (hhi : hi = mid ∨ hi = m) (hhm : hi ≤ m ∧ hi ≤ mid) (hse : s + e = mid + m) (hlb : mid + m ≤ lo + b)
    (hbin : Bin (fun c => ¬ Before (gE l (mid + m - 1 - c)) (gE l c)) lo hi s s) (hr : RotAt l s m e l') : Halves l' a s mid e b := by
  have hls := hbin.li; have hsh := hbin.jh
  have g : ∀ k, gE l' k = gE l (rotIdx s m e k) := fun k => gE_of (hr.at_ k)
  have g1 : ∀ k, k < s → gE l' k = gE l k := fun k h => by rw [g]; congr 1; unfold rotIdx; (repeat' split) <;> omega
  have g2 : ∀ k, s ≤ k → k < mid → gE l' k = gE l (m + (k - s)) := fun k h h' => by rw [g]; congr 1; unfold rotIdx; (repeat' split) <;> omega
  have g3 : ∀ k, mid ≤ k → k < e → gE l' k = gE l (s + (k - mid)) := fun k h h' => by rw [g]; congr 1; unfold rotIdx; (repeat' split) <;> omega
  have g4 : ∀ k, e ≤ k → gE l' k = gE l k := fun k h => by rw [g]; congr 1; unfold rotIdx; (repeat' split) <;> omega
  refine ⟨fun i j h1 h2 h3 => ?_, fun i j h1 h2 h3 => ?_, fun i j h1 h2 h3 => ?_, fun i j h1 h2 h3 => ?_, fun p q h1 h2 h3 h4 => ?_⟩
  · rw [g1 _ (by omega), g1 _ (by omega)]; exact hA _ _ h1 h2 (by omega)
  · rw [g2 _ (by omega) (by omega), g2 _ (by omega) (by omega)]; exact hB _ _ (by omega) (by omega) (by omega)
  · rw [g3 _ (by omega) (by omega), g3 _ (by omega) (by omega)]; exact hA _ _ (by omega) (by omega) (by omega)
  · rw [g4 _ (by omega), g4 _ (by omega)]; exact hB _ _ (by omega) (by omega) (by omega)
  · by_cases p1 : p < s
    · rw [g1 _ p1]
      by_cases q1 : q < e
      · rw [g3 _ h3 q1]; exact hA _ _ h1 (by omega) (by omega)
      · rw [g4 _ (by omega)]
        have hs1 := hbin.yes (s - 1) (by omega) (by omega)
        rw [show mid + m - 1 - (s - 1) = e by omega] at hs1
        exact Before.le (Before.le (hA.le h1 (by omega : p ≤ s - 1) (by omega)) hs1) (hB.le (by omega) (by omega : e ≤ q) h4)
    · rw [g2 _ (by omega) h2]
      by_cases q1 : q < e
      · rw [g3 _ h3 q1]
        have hs1 := Classical.not_not.1 (hbin.no s (by omega) (by omega))
        rw [show mid + m - 1 - s = e - 1 by omega] at hs1
        intro hbf
        rcases hbf.or (gE l (e - 1)) with h | h
        · exact hA.le (by omega) (by omega : s ≤ s + (q - mid)) (by omega) (h.trans hs1)
        · exact hB.le (by omega) (by omega : m + (p - s) ≤ e - 1) (by omega) h
      · rw [g4 _ (by omega)]; exact hB _ _ (by omega) (by omega) h4
end Go.Proofs.YtdciogjhkckigaaDoor

namespace Go.Proofs.YtdciogjhkckigaaDoor
open Go Go.Ab
set_option linter.unusedSectionVars false
set_option linter.unusedVariables false
variable [Amb]
set_option maxRecDepth 100000
set_option maxHeartbeats 8000000

theorem gE_same {l l' : List Entry} {k : Nat} (h : l'[k]? = l[k]?) : gE l' k = gE l k := gE_of h
theorem SortAt.g {l m : List Entry} {a b : Nat} (h : SortAt l a b m) (hb : b ≤ l.length) : SortedG m a b := SortedG.of (by rw [h.len]; exact hb) h.srt
theorem SortAt.same {l : List Entry} {a b : Nat} (h : SortedG l a b) : SortAt l a b l := ⟨.refl _, rfl, fun _ _ => rfl, h.on⟩
theorem SortAt.keep {l m : List Entry} {a b c d : Nat} (h : SortAt l a b m) (hd : b ≤ c) (hs : SortedG l c d) : SortedG m c d := fun i j h1 h2 h3 => by
  rw [gE_same (h.out i (.inr (by omega))), gE_same (h.out j (.inr (by omega)))]; exact hs i j h1 h2 h3
theorem sym_done {l x1 x2 x3 : List Entry} {a s mid m e b : Nat} (hl : b ≤ l.length) (hR : RotAt l s m e x1) (hH : Halves x1 a s mid e b) (h2 : SortAt x1 a mid x2) (h3 : SortAt x2 mid b x3) (ha : a ≤ s) (hs : s ≤ m) (hm : m ≤ e) (he : e ≤ b) (ham : a ≤ mid) (hmb : mid ≤ b) (hse : s + e = mid + m) : SortAt l a b x3 := by
  have l1 := hR.len; have l2 := h2.len; have l3 := h3.len
  have out : ∀ k, k < a ∨ b ≤ k → x3[k]? = l[k]? := fun k hk => by
    rw [h3.out k (by omega), h2.out k (by omega), hR.at_ k]
    congr 1; unfold rotIdx; (repeat' split) <;> omega
  refine ⟨h3.perm.trans (h2.perm.trans hR.perm), by omega, out, SortedG.on fun p q k1 k2 k3 => ?_⟩
  by_cases hq : q < mid
  · rw [gE_same (h3.out p (.inl (by omega))), gE_same (h3.out q (.inl (by omega)))]
    exact (h2.g (by omega)) p q k1 k2 hq
  · by_cases hp : mid ≤ p
    · exact (h3.g (by omega)) p q hp k2 k3
    · rw [gE_same (h3.out p (.inl (by omega)))]
      obtain ⟨q', hq1, hq2, hq3⟩ := seg_mem hmb h3.perm h3.len h3.out (by omega) k3 (gE_at (l := x3) (k := q) (by omega))
      obtain ⟨p', hp1, hp2, hp3⟩ := seg_mem ham h2.perm h2.len h2.out k1 (by omega) (gE_at (l := x2) (k := p) (by omega))
      have := hH.cross p' q' hp1 hp2 hq1 hq2
      have e1 : gE x1 q' = gE x3 q := by
        rw [← gE_same (h2.out q' (.inr hq1))]; unfold gE at hq3 ⊢; rw [hq3]; rfl
      have e2 : gE x1 p' = gE x2 p := by unfold gE at hp3 ⊢; rw [hp3]; rfl
      rw [e1, e2] at this
      exact this

theorem half_wrap {x : Nat} (h : x ≤ 33554432 * 2) : IntKind.i64.wrap ((IntKind.u64.wrap (x : Int)).fdiv (2 ^ min 1 IntKind.u64.bits)) = ((x / 2 : Nat) : Int) := by
  have : IntKind.u64.wrap (x : Int) = (x : Int) := by simp [IntKind.wrap, IntKind.signed, IntKind.bits]; omega
  rw [this]
  have : (x : Int).fdiv (2 ^ min 1 IntKind.u64.bits) = ((x / 2 : Nat) : Int) := by
    show (x : Int).fdiv 2 = _
    rw [Int.fdiv_eq_ediv_of_nonneg _ (by omega)]; omega
  rw [this]
  exact wrap_id (by omega)

abbrev symArgs (l : List Entry) (a m b : Nat) : List AV := [ownE l, .x (.one (.int .i64 a)), .x (.one (.int .i64 m)), .x (.one (.int .i64 b)), .x (.one cmpV)]
abbrev symOuts (l : List Entry) : List AV := [ownE l, .dead, .dead, .dead, .dead]

theorem sym_first (l : List Entry) (a m b : Nat) (ham : m = a + 1) (hmb : m < b) (hb : b ≤ l.length) (hl : l.length ≤ 16777216) (hB : SortedG l m b) :
    ∃ l', SortAt l a b l' ∧ ACallsM Tryd.prog 99 (symArgs l a m b) (.tup []) (symOuts l') := by
  refine ACallsM.ofE (SortAt l a b) (fun _ => .tup []) (fun l' => symOuts l') mixed (fn := Tryd.f99) (by kernel_rfl) (by kernel_rfl) rfl (by kernel_rfl) 1 (fun _ => rfl) (by kernel_rfl) (fun _ => rfl) (by simp [Tryd.f99]) ?_
  have w1 : IntKind.i64.wrap ((m : Int) - a) = 1 := by rw [wrap_id (by omega)]; omega
  have hmono : ∀ c c', m ≤ c' → c' ≤ c → c < b → Before (gE l c) (gE l a) → Before (gE l c') (gE l a) := fun c c' h1 h2 h3 h => (h.or (gE l c')).resolve_left (hB.le h1 h2 h3)
  simp -implicitDefEqProofs [w1]
  refine ALoopS.of (Nat × Nat) (fun x => [(0, ownE l), (1, .x (.one (.int .i64 a))), (4, .x (.one cmpV)), (10, .x (.one (.int .i64 x.1))), (11, .x (.one (.int .i64 x.2)))]) (fun x => Bin (fun k => Before (gE l k) (gE l a)) m b x.1 x.2) (fun x => x.2 - x.1) (m, b) (.zero (by omega)) ?_ ?_
  · simp
  rintro ⟨i, j⟩ hbin
  dsimp only at hbin ⊢
  have hli := hbin.li; have hij := hbin.ij; have hjh := hbin.jh
  by_cases hlt : i < j
  · obtain ⟨t, et⟩ : ∃ t, t = i + j := ⟨_, rfl⟩
    obtain ⟨h, eh⟩ : ∃ h, h = t / 2 := ⟨_, rfl⟩
    have w2 : IntKind.i64.wrap ((i : Int) + j) = (t : Nat) := by rw [wrap_id (by omega)]; omega
    have w3 := half_wrap (x := t) (by omega)
    rw [← eh] at w3
    have w4 : IntKind.i64.wrap ((h : Int) + 1) = (h + 1 : Nat) := by rw [wrap_id (by omega)]; omega
    have h1 : h < l.length := by omega
    have h2 : a < l.length := by omega
    simp -implicitDefEqProofs [hlt, w2, w3]
    refine AltR.l ?_
    simp -implicitDefEqProofs [h1, h2]
    refine ACallK.of (index_compare _ _) ?_
    have hc := cmpE_neg (a := l[h]) (b := l[a])
    rw [gE_get h1, gE_get h2] at hc
    by_cases hbf : cmpE l[h] l[a] < 0
    · simp -implicitDefEqProofs [hbf, w4]
      rw [gE_get h1, gE_get h2] at hbf
      refine Again.of (h + 1, j) (hbin.up hmono (by omega) (by omega) (hc.1 hbf)) (by dsimp only; omega) ?_
      simp
    · simp -implicitDefEqProofs [hbf]
      rw [gE_get h1, gE_get h2] at hbf
      refine Again.of (i, h) (hbin.down hmono (by omega) (by omega) (fun h => hbf (hc.2 h))) (by dsimp only; omega) ?_
      simp
  · have : i = j := by omega
    subst this
    obtain ⟨i1, ei⟩ : ∃ x, x = i - 1 := ⟨_, rfl⟩
    have w5 : IntKind.i64.wrap ((i : Int) - 1) = (i1 : Nat) := by rw [wrap_id (by omega)]; omega
    simp -implicitDefEqProofs [hlt]
    refine ALoopS.of (Nat × List Entry) (fun x => [(0, ownE x.2), (10, .x (.one (.int .i64 i))), (13, .x (.one (.int .i64 x.1)))]) (fun x => a ≤ x.1 ∧ x.1 ≤ i1 ∧ Fwd l a x.1 x.2) (fun x => i1 - x.1) (a, l) ⟨Nat.le_refl _, by dsimp only; omega, .zero _ _⟩ ?_ ?_
    · simp
    rintro ⟨k, c⟩ ⟨hk1, hk2, hc⟩
    dsimp only at hk1 hk2 hc ⊢
    have hlen := hc.len
    by_cases hk : k < i1
    · obtain ⟨k1, ek⟩ : ∃ x, x = k + 1 := ⟨_, rfl⟩
      have w6 : IntKind.i64.wrap ((k : Int) + 1) = (k1 : Nat) := by rw [wrap_id (by omega)]; omega
      have h1 : k < c.length := by omega
      have h2 : k1 < c.length := by omega
      have hki : (k : Int) < i1 := by omega
      simp -implicitDefEqProofs [w5, w6, hk, h1, h2]
      refine Again.of (k1, swapL c k k1) ⟨by dsimp only; omega, by dsimp only; omega, ek ▸ hc.step hk1 (by omega)⟩ (by dsimp only; omega) ?_
      simp [swapL_def h1 h2]
      simp only [row_drop9, List.append_nil, List.getElem_set]
      split <;> simp only [row_drop9, List.append_nil, List.getElem_map]
    · have : k = i1 := by omega
      subst this
      simp -implicitDefEqProofs [w5, hk]
      exact EndE.of c (Fwd.sorted (i := i) (by rw [← ei]; exact hc) hb (ham ▸ hB) (by omega) (ham ▸ hbin)) (by simp)

theorem sym_last (l : List Entry) (a m b : Nat) (ham : a + 1 < m) (hmb : b = m + 1) (hb : b ≤ l.length) (hl : l.length ≤ 16777216) (hA : SortedG l a m) :
    ∃ l', SortAt l a b l' ∧ ACallsM Tryd.prog 99 (symArgs l a m b) (.tup []) (symOuts l') := by
  refine ACallsM.ofE (SortAt l a b) (fun _ => .tup []) (fun l' => symOuts l') mixed (fn := Tryd.f99) (by kernel_rfl) (by kernel_rfl) rfl (by kernel_rfl) 1 (fun _ => rfl) (by kernel_rfl) (fun _ => rfl) (by simp [Tryd.f99]) ?_
  obtain ⟨d, ed⟩ : ∃ d, d = m - a := ⟨_, rfl⟩
  have w0 : IntKind.i64.wrap ((m : Int) - a) = (d : Nat) := by rw [wrap_id (by omega)]; omega
  have wd : ((d : Int) = 1) = False := eq_false (by omega)
  have w1 : IntKind.i64.wrap ((b : Int) - m) = 1 := by rw [wrap_id (by omega)]; omega
  have hmono : ∀ c c', a ≤ c' → c' ≤ c → c < m → ¬ Before (gE l m) (gE l c) → ¬ Before (gE l m) (gE l c') := fun c c' h1 h2 h3 h => Before.le (hA.le h1 h2 h3) h
  simp -implicitDefEqProofs [w0, wd, w1]
  refine ALoopS.of (Nat × Nat) (fun x => [(0, ownE l), (2, .x (.one (.int .i64 m))), (4, .x (.one cmpV)), (14, .x (.one (.int .i64 x.1))), (15, .x (.one (.int .i64 x.2)))]) (fun x => Bin (fun k => ¬ Before (gE l m) (gE l k)) a m x.1 x.2) (fun x => x.2 - x.1) (a, m) (.zero (by omega)) ?_ ?_
  · simp
  rintro ⟨i, j⟩ hbin
  dsimp only at hbin ⊢
  have hli := hbin.li; have hij := hbin.ij; have hjh := hbin.jh
  by_cases hlt : i < j
  · obtain ⟨t, et⟩ : ∃ t, t = i + j := ⟨_, rfl⟩
    obtain ⟨h, eh⟩ : ∃ h, h = t / 2 := ⟨_, rfl⟩
    have w2 : IntKind.i64.wrap ((i : Int) + j) = (t : Nat) := by rw [wrap_id (by omega)]; omega
    have w3 := half_wrap (x := t) (by omega)
    rw [← eh] at w3
    have w4 : IntKind.i64.wrap ((h : Int) + 1) = (h + 1 : Nat) := by rw [wrap_id (by omega)]; omega
    have h1 : h < l.length := by omega
    have h2 : m < l.length := by omega
    simp -implicitDefEqProofs [hlt, w2, w3]
    refine AltR.l ?_
    simp -implicitDefEqProofs [h1, h2]
    refine ACallK.of (index_compare _ _) ?_
    have hc := cmpE_neg (a := l[m]) (b := l[h])
    rw [gE_get h1, gE_get h2] at hc
    by_cases hbf : cmpE l[m] l[h] < 0
    · simp -implicitDefEqProofs [hbf]
      rw [gE_get h1, gE_get h2] at hbf
      refine Again.of (i, h) (hbin.down hmono (by omega) (by omega) (fun h => h (hc.1 hbf))) (by dsimp only; omega) ?_
      simp
    · simp -implicitDefEqProofs [hbf, w4]
      rw [gE_get h1, gE_get h2] at hbf
      refine Again.of (h + 1, j) (hbin.up hmono (by omega) (by omega) (fun h => hbf (hc.2 h))) (by dsimp only; omega) ?_
      simp
  · have : i = j := by omega
    subst this
    simp -implicitDefEqProofs [hlt]
    refine ALoopS.of (Nat × List Entry) (fun x => [(0, ownE x.2), (14, .x (.one (.int .i64 i))), (17, .x (.one (.int .i64 x.1)))]) (fun x => i ≤ x.1 ∧ x.1 ≤ m ∧ Bwd l m x.1 x.2) (fun x => x.1) (m, l) ⟨by dsimp only; omega, Nat.le_refl _, .zero _ _⟩ ?_ ?_
    · simp
    rintro ⟨k, c⟩ ⟨hk1, hk2, hc⟩
    dsimp only at hk1 hk2 hc ⊢
    have hlen := hc.len
    by_cases hk : i < k
    · obtain ⟨k1, ek⟩ : ∃ x, x = k - 1 := ⟨_, rfl⟩
      have w6 : IntKind.i64.wrap ((k : Int) - 1) = (k1 : Nat) := by rw [wrap_id (by omega)]; omega
      have h1 : k < c.length := by omega
      have h2 : k1 < c.length := by omega
      simp -implicitDefEqProofs [w6, hk, h1, h2]
      refine Again.of (k1, swapL c k k1) ⟨by dsimp only; omega, by dsimp only; omega, ek ▸ hc.step (by omega) hk2 (by omega)⟩ (by dsimp only; omega) ?_
      simp [swapL_def h1 h2]
      simp only [row_drop9, List.append_nil, List.getElem_set]
      split <;> simp only [row_drop9, List.append_nil, List.getElem_map]
    · have : k = i := by omega
      subst this
      simp -implicitDefEqProofs [hk]
      exact EndE.of c (hmb ▸ Bwd.sorted hc (by omega) hA (by omega) hbin) (by simp)
end Go.Proofs.YtdciogjhkckigaaDoor

