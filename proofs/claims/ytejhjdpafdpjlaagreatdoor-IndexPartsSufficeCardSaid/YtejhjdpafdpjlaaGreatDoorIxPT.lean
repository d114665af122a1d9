/- A part of the proof: lemmas and contracts of functions. -/
import Derived.Test.YtejhjdpafdpjlaaGreatDoorIxTB
namespace Go.Proofs.YtejhjdpafdpjlaaGreatDoor
open Go Go.Ab
set_option linter.unusedSectionVars false
section
variable [Amb] [HasPow10 Tryz.prog]

/-! ### Parts of lines -/
structure Part where
  key : List UInt8
  time : Int
  lo : Int
  hi : Int
  many : Int
  deriving DecidableEq
def Part.row (x : Part) : List CV := [.str x.key, .int .i64 x.time, .int .i64 x.lo, .int .i64 x.hi, .int .i64 x.many]
abbrev partsV (l : List Part) : XV := .one (.list 5 (l.map Part.row))
def atE (l : List Entry) (i : Nat) : Entry := (l[i]?).getD ⟨[], 0, 0, [], [], [], 0, 0, false⟩
theorem atE_eq {l : List Entry} {i : Nat} (h : i < l.length) : atE l i = l[i] := by simp [atE, h]
/-- How long the text of the first i entries is. -/
def tl (l : List Entry) (i : Nat) : Nat := (textAll (l.take i)).length
theorem tl_zero (l : List Entry) : tl l 0 = 0 := rfl
theorem tl_step {l : List Entry} {i : Nat} (h : i < l.length) : tl l (i + 1) = tl l i + (lineL l[i]).length := by
  unfold tl; rw [textAll_snoc h, List.length_append]
theorem textAll_append (a b : List Entry) : textAll (a ++ b) = textAll a ++ textAll b := by simp [textAll]
theorem tl_cut (l : List Entry) (i j : Nat) : tl l (i + j) = tl l i + (textAll ((l.drop i).take j)).length := by
  unfold tl
  rw [← List.length_append, ← textAll_append, List.take_add]
theorem tl_full {l : List Entry} {i : Nat} (h : l.length ≤ i) : tl l i = (textAll l).length := by unfold tl; rw [List.take_of_length_le h]
/-- The k-th part, with m entries in each. -/
def partK (l : List Entry) (m k : Nat) : Part := ⟨(atE l (k * m)).key, (atE l (k * m)).time, tl l (k * m), tl l (k * m + m), ((min m (l.length - k * m) : Nat) : Int)⟩
def partsN (l : List Entry) (m n : Nat) : List Part := (List.range n).map (partK l m)
theorem partsN_succ (l : List Entry) (m n : Nat) : partsN l m (n + 1) = partsN l m n ++ [partK l m n] := by simp [partsN, List.range_succ]
@[simp] theorem partsN_len (l : List Entry) (m n : Nat) : (partsN l m n).length = n := by simp [partsN]
theorem partsN_at {l : List Entry} {m n k : Nat} (h : k < n) : (partsN l m n)[k]'(by simpa using h) = partK l m k := by simp [partsN]
/-- How many parts there are. -/
def partsM (n m : Nat) : Nat := (n + m - 1) / m
def partsF (l : List Entry) (many : Int) : Int :=
  if entriesF l ≠ 0 then entriesF l
  else if linesF l ≠ 0 then linesF l
  else if inB 1 1000 many = false then 1
  else if 1000 < partsM l.length many.toNat then 2 else 0
def partsR (l : List Entry) (many : Int) : List Part := if partsF l many = 0 then partsN l many.toNat (partsM l.length many.toNat) else []

/-- The part of an entry list's first i entries that is not whole yet. -/
def partT (l : List Entry) (m q i : Nat) : Part := ⟨(atE l (q * m)).key, (atE l (q * m)).time, tl l (q * m), tl l i, ((i - q * m : Nat) : Int)⟩
def upParts (l : List Entry) (m i : Nat) : List Part := partsN l m (i / m) ++ (if i % m = 0 then [] else [partT l m (i / m) i])
theorem upParts_zero (l : List Entry) (m : Nat) : upParts l m 0 = [] := by simp [upParts, partsN]
theorem partT_whole {l : List Entry} {m q : Nat} (h : q * m + m ≤ l.length) : partT l m q (q * m + m) = partK l m q := by
  unfold partT partK
  rw [show q * m + m - q * m = m by omega, show min m (l.length - q * m) = m by omega]
/-- Ahead of a new part. -/
theorem upParts_new {l : List Entry} {m i : Nat} (hm : 0 < m) (hi : i < l.length) (h : i % m = 0) :
    upParts l m i = partsN l m (i / m) ∧ upParts l m (i + 1) = partsN l m (i / m) ++ [partT l m (i / m) (i + 1)] ∧ (i / m) * m = i := by
  have he : (i / m) * m = i := Nat.div_mul_cancel (Nat.dvd_of_mod_eq_zero h)
  refine ⟨by unfold upParts; rw [if_pos h, List.append_nil], ?_, he⟩
  unfold upParts
  by_cases h1 : m = 1
  · subst h1
    simp only [Nat.div_one, Nat.mod_one, if_true, List.append_nil] at he ⊢
    rw [partsN_succ]
    congr 2
    have := (partT_whole (l := l) (m := 1) (q := i) (by omega)).symm
    simpa using this
  · have h2 : (i + 1) % m = 1 := by rw [Nat.add_mod, h, Nat.zero_add, Nat.mod_mod, Nat.mod_eq_of_lt (by omega)]
    have h3 : (i + 1) / m = i / m := by
      rw [Nat.div_eq_of_lt_le]
      · omega
      · rw [Nat.succ_mul]; omega
    rw [h2, h3, if_neg (by omega)]
/-- Within a part. -/
theorem upParts_more {l : List Entry} {m i : Nat} (hm : 0 < m) (hi : i < l.length) (h : i % m ≠ 0) :
    upParts l m i = partsN l m (i / m) ++ [partT l m (i / m) i] ∧ upParts l m (i + 1) = partsN l m (i / m) ++ [partT l m (i / m) (i + 1)] ∧ (i / m) * m < i ∧ i + 1 ≤ (i / m) * m + m := by
  have hd := Nat.div_add_mod i m
  have hlt := Nat.mod_lt i hm
  have hc : m * (i / m) = (i / m) * m := Nat.mul_comm _ _
  refine ⟨by unfold upParts; rw [if_neg h], ?_, by omega, by omega⟩
  unfold upParts
  by_cases h1 : i + 1 = (i / m) * m + m
  · have h2 : (i + 1) / m = i / m + 1 := by rw [h1, ← Nat.succ_mul]; exact Nat.mul_div_cancel _ hm
    have h3 : (i + 1) % m = 0 := by rw [h1, ← Nat.succ_mul]; exact Nat.mul_mod_left _ _
    rw [h2, h3, if_pos rfl, List.append_nil, partsN_succ]
    congr 2
    rw [h1]
    exact (partT_whole (by omega)).symm
  · have h2 : (i + 1) / m = i / m := by
      rw [Nat.div_eq_of_lt_le]
      · omega
      · rw [Nat.succ_mul]; omega
    have h3 : (i + 1) % m ≠ 0 := by
      intro h0
      have := Nat.div_add_mod (i + 1) m
      rw [h2, h0] at this; omega
    rw [h2, if_neg h3]
theorem partsM_eq {n m : Nat} (hm : 0 < m) : partsM n m = n / m + (if n % m = 0 then 0 else 1) := by
  unfold partsM
  have hd := Nat.div_add_mod n m
  have hlt := Nat.mod_lt n hm
  have hc : m * (n / m) = (n / m) * m := Nat.mul_comm _ _
  split
  · rename_i h
    rw [Nat.add_zero]
    apply Nat.div_eq_of_lt_le
    · omega
    · rw [Nat.succ_mul]; omega
  · rename_i h
    apply Nat.div_eq_of_lt_le
    · rw [Nat.succ_mul]; omega
    · rw [Nat.succ_mul, Nat.succ_mul]; omega
theorem upParts_all {l : List Entry} {m : Nat} (hm : 0 < m) : upParts l m l.length = partsN l m (partsM l.length m) := by
  rw [partsM_eq hm]
  unfold upParts
  split
  · simp
  · rename_i h
    rw [partsN_succ]
    congr 2
    have hd := Nat.div_add_mod l.length m
    have hlt := Nat.mod_lt l.length hm
    have hc : m * (l.length / m) = (l.length / m) * m := Nat.mul_comm _ _
    unfold partT partK
    rw [tl_full (Nat.le_refl _), tl_full (i := l.length / m * m + m) (by omega), show min m (l.length - l.length / m * m) = l.length - l.length / m * m by omega]
theorem partsM_lt {n m k : Nat} (hm : 0 < m) : k < partsM n m ↔ k * m < n := by
  unfold partsM
  rw [Nat.lt_div_iff_mul_lt hm]
  omega
theorem upParts_len {l : List Entry} {m i : Nat} : (upParts l m i).length ≤ i / m + 1 := by
  unfold upParts
  split <;> simp

end

/-! ### Where parts stand -/
def cmpP (x : Part) (k : List UInt8) (t : Int) : Int := firstNZ [Lib.compareBytes x.key k, cmpI x.time t]
/-- The error of one part: behind another one, or the first. -/
def partF (o : Option Part) (e : Int) (x : Part) : Int :=
  if keyB x.key = false then 3
  else if momentB x.time = false ∨ inB 1 1000 x.many = false ∨ inB 0 x.hi x.lo = false ∨ 600000 < x.hi then 1
  else if (∃ q, o = some q ∧ 0 < cmpP q x.key x.time) ∨ x.lo ≠ e then 8 else 0
def partsE : Option Part → Int → List Part → Int
  | _, _, [] => 0
  | o, e, x :: r => if partF o e x ≠ 0 then partF o e x else partsE (some x) x.hi r
def checkP (l : List Part) : Int := if 1000 < l.length then 2 else partsE none 0 l
def prevP (l : List Part) (i : Nat) : Option Part := if i = 0 then none else l[i - 1]?
def endP (l : List Part) (i : Nat) : Int := match prevP l i with
  | none => 0
  | some q => q.hi
def UpP (l : List Part) (i : Nat) : Prop := i ≤ l.length ∧ partsE none 0 l = partsE (prevP l i) (endP l i) (l.drop i)
theorem UpP.zero {l : List Part} : UpP l 0 := ⟨Nat.zero_le _, rfl⟩
theorem UpP.bad {l : List Part} {i : Nat} (h : UpP l i) (hlt : i < l.length) (hf : partF (prevP l i) (endP l i) l[i] ≠ 0) : partsE none 0 l = partF (prevP l i) (endP l i) l[i] := by
  rw [h.2, List.drop_eq_getElem_cons hlt, partsE, if_pos hf]
theorem UpP.step {l : List Part} {i : Nat} (h : UpP l i) (hlt : i < l.length) (hf : partF (prevP l i) (endP l i) l[i] = 0) : UpP l (i + 1) ∧ endP l (i + 1) = l[i].hi ∧ prevP l (i + 1) = some l[i] := by
  have hp : prevP l (i + 1) = some l[i] := by simp [prevP, hlt]
  have he : endP l (i + 1) = l[i].hi := by unfold endP; rw [hp]
  refine ⟨⟨hlt, ?_⟩, he, hp⟩
  rw [h.2, List.drop_eq_getElem_cons hlt, partsE, if_neg (by simp [hf]), hp, he]
theorem UpP.done {l : List Part} {i : Nat} (h : UpP l i) (hge : ¬ i < l.length) : partsE none 0 l = 0 := by
  rw [h.2, List.drop_eq_nil_of_le (by omega)]
  rfl
def partOfF (l : List Part) (k : List UInt8) (t : Int) : Int := if checkP l ≠ 0 then checkP l else if keyB k = false then 3 else if momentB t = false then 1 else 0
/-- The last of the first i parts that is ahead, or 0. -/
def firstP (l : List Part) (k : List UInt8) (t : Int) : Nat → Nat
  | 0 => 0
  | i + 1 => match l[i]? with
    | some x => if cmpP x k t < 0 then i else firstP l k t i
    | none => firstP l k t i
theorem firstP_le (l : List Part) (k : List UInt8) (t : Int) : ∀ i, firstP l k t i ≤ i - 1
  | 0 => Nat.le_refl _
  | i + 1 => by
    have := firstP_le l k t i
    unfold firstP
    split
    · split <;> omega
    · omega
theorem firstP_step {l : List Part} {i : Nat} (k : List UInt8) (t : Int) (h : i < l.length) : firstP l k t (i + 1) = if cmpP l[i] k t < 0 then i else firstP l k t i := by
  simp [firstP, h]
/-- From j on: the first part that is behind, or the end. -/
def nextP (l : List Part) (k : List UInt8) (t : Int) : Nat → Nat → Nat
  | 0, j => j
  | n + 1, j => match l[j]? with
    | some x => if cmpP x k t ≤ 0 then nextP l k t n (j + 1) else j
    | none => j
def goP (l : List Part) (k : List UInt8) (t : Int) (j : Nat) : Nat := nextP l k t (l.length - j) j
theorem goP_on {l : List Part} {k : List UInt8} {t : Int} {j : Nat} (h : j < l.length) (hc : cmpP l[j] k t ≤ 0) : goP l k t j = goP l k t (j + 1) := by
  unfold goP
  obtain ⟨n, hn⟩ : ∃ n, l.length - j = n + 1 := ⟨l.length - j - 1, by omega⟩
  rw [hn, show l.length - (j + 1) = n by omega, nextP]
  simp [h, hc]
theorem goP_at {l : List Part} {k : List UInt8} {t : Int} {j : Nat} (h : j < l.length) (hc : ¬ cmpP l[j] k t ≤ 0) : goP l k t j = j := by
  unfold goP
  obtain ⟨n, hn⟩ : ∃ n, l.length - j = n + 1 := ⟨l.length - j - 1, by omega⟩
  rw [hn, nextP]
  simp [h, hc]
theorem goP_end {l : List Part} {k : List UInt8} {t : Int} {j : Nat} (h : ¬ j < l.length) : goP l k t j = j := by
  unfold goP
  rw [show l.length - j = 0 by omega]; rfl
/-- As long as the next one begins with the same. -/
def sameP (l : List Part) : Nat → Nat → Nat
  | 0, j => j
  | n + 1, j => match l[j]?, l[j + 1]? with
    | some x, some y => if cmpP y x.key x.time = 0 then sameP l n (j + 1) else j
    | _, _ => j
def extP (l : List Part) (j : Nat) : Nat := sameP l (l.length - j) j
theorem extP_on {l : List Part} {j : Nat} (h : j + 1 < l.length) (hc : cmpP l[j + 1] l[j].key l[j].time = 0) : extP l j = extP l (j + 1) := by
  unfold extP
  obtain ⟨n, hn⟩ : ∃ n, l.length - j = n + 1 := ⟨l.length - j - 1, by omega⟩
  rw [hn, show l.length - (j + 1) = n by omega, sameP]
  simp [h, show j < l.length by omega, hc]
theorem extP_at {l : List Part} {j : Nat} (h : j + 1 < l.length) (hc : ¬ cmpP l[j + 1] l[j].key l[j].time = 0) : extP l j = j := by
  unfold extP
  obtain ⟨n, hn⟩ : ∃ n, l.length - j = n + 1 := ⟨l.length - j - 1, by omega⟩
  rw [hn, sameP]
  simp [h, show j < l.length by omega, hc]
theorem extP_end {l : List Part} {j : Nat} (h : ¬ j + 1 < l.length) : extP l j = j := by
  unfold extP
  cases hn : l.length - j with
  | zero => rfl
  | succ n =>
    rw [sameP]
    have : l[j + 1]? = none := List.getElem?_eq_none (by omega)
    rw [this]
    split
    · rename_i h1 h2; cases h2
    · rfl
def lastP (l : List Part) (k : List UInt8) (t : Int) : Nat :=
  let j := goP l k t (firstP l k t l.length + 1)
  if j < l.length then extP l j else l.length - 1
def spanP (l : List Part) (k : List UInt8) (t : Int) : Int × Int :=
  (((l[firstP l k t l.length]?).map Part.lo).getD 0, ((l[lastP l k t]?).map Part.hi).getD 0)
/-- What PartOf answers. -/
def partOfR (l : List Part) (k : List UInt8) (t : Int) : Int × Int × Bool × Int :=
  if partOfF l k t ≠ 0 then (0, 0, false, partOfF l k t)
  else if l = [] then (0, 0, false, 0)
  else ((spanP l k t).1, (spanP l k t).2, true, 0)
end Go.Proofs.YtejhjdpafdpjlaaGreatDoor
