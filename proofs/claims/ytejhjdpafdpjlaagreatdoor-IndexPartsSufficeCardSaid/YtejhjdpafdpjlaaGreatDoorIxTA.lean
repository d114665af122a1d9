/- A part of the proof: lemmas and contracts of functions. -/
import Derived.Test.YtejhjdpafdpjlaaGreatDoorIxF
import Derived.Test.YtejhjdpafdpjlaaGreatDoorIxLays2
import Derived.Test.YtejhjdpafdpjlaaGreatDoorAbJ5
import Derived.Lib.ItoaLen
import Derived.Shelf.Strconv.Itoa3
import Derived.Shelf.Strings.OnBuilder
namespace Go.Proofs.YtejhjdpafdpjlaaGreatDoor
open Go Go.Ab
set_option linter.unusedSectionVars false
variable [Amb] [HasPow10 Tryz.prog]
set_option maxRecDepth 100000
set_option maxHeartbeats 4000000

def itoaL (n : Int) : List UInt8 := Lib.itoa n
def I64 (n : Int) : Prop := -9223372036854775808 ≤ n ∧ n ≤ 9223372036854775807
theorem itoaL_len {n : Int} (h : I64 n) : (itoaL n).length ≤ 21 := Lib.itoa_length_le n h.1 h.2
theorem below_grow (w : World) (k : Nat) (os : Array Obj) : RowKit.Below w.heap.size w (Sort.grow (w.drewN k) os) :=
  ⟨rfl, rfl, rfl, by simp [Sort.grow, World.drewN], fun j hj => by
    show (w.heap ++ os)[j]? = w.heap[j]?
    rw [Array.getElem?_append_left hj]⟩
theorem strconv_Itoa (n : Int) (h : I64 n) : ACalls Tryz.prog 51 [.one (.int .i64 n)] (.x (.one (.str (itoaL n)))) := by
  refine ACalls.ofKitA [.int .i64 n] _ (callable_of Tryz.f51 (by kernel_rfl) (by kernel_rfl) rfl) rfl (fun _ _ => repR_str _ (Nat.le_trans (itoaL_len h) (by decide))) (fun _ w hw => ?_)
  refine (Any.strconv_Itoa layMn171 n h.1 h.2 w (HasPow10.tab w hw)).mono ?_
  rintro e w' ⟨rfl, k, os, rfl⟩
  exact ⟨rfl, below_grow _ _ _⟩

abbrev strs (l : List (List UInt8)) : XV := .one (.list 1 (l.map fun s => [.str s]))
theorem strs_cells {w : World} {S : Nat → Prop} {l : List (List UInt8)} {v : Value} (h : RepX w S (strs l) v) (hS : ∀ b, S b → b < w.heap.size) :
    (∃ a c, v = .slice a 0 c ∧ l = []) ∨ ∃ b o c, v = .slice (some ⟨b, o, none⟩) l.length c ∧ l.length ≤ c ∧ b < w.heap.size ∧ ∀ (j : Nat) x, l[j]? = some x → w.cell? ⟨b, o + j, none⟩ = some (.string ⟨x.toArray⟩) := by
  have hl : ∀ l : List (List UInt8), (l.map fun s => [CV.str s]).flatten = l.map CV.str := by
    intro l
    induction l with
    | nil => rfl
    | cons a r ih => simp [ih]
  have hl := hl l
  have h' : RepC w S (.list 1 (l.map fun s => [.str s])) v := h
  generalize hx : (l.map fun s => [CV.str s]) = xs at h' hl
  cases h' with
  | list0 a c _ _ _ => exact .inl ⟨a, c, rfl, by simpa using hx⟩
  | list ad cap _ _ U hs hsp hc hm hxl hU hrep =>
    obtain ⟨b, o, sp⟩ := ad
    cases hsp
    have hlen : xs.length = l.length := by rw [← hx]; simp
    refine .inr ⟨b, o, cap, by rw [hlen], by omega, hS b hs, fun j x hj => ?_⟩
    have h1 : xs.flatten[j]? = some (.str x) := by rw [hl, List.getElem?_map, hj]; rfl
    have h2 := hU j _ h1
    rw [addr_add_lit] at h2
    have h3 := hrep j _ h1
    generalize U j = u at h2 h3
    cases h3
    exact h2
theorem join_map (l : List (List UInt8)) (sep : List UInt8) : Lib.join ((l.map fun x => (⟨x.toArray⟩ : ByteArray)).map (·.data.toList)) ((⟨sep.toArray⟩ : ByteArray).data.toList) = Lib.join l sep := by
  simp [List.map_map, Function.comp_def]
theorem strings_Join (l : List (List UInt8)) (sep : List UInt8) (hb : (Lib.join l sep).length ≤ 140737488355328) (hN : l.length ≤ 140737488355328) : ACalls Tryz.prog 37 [strs l, .one (.str sep)] (.x (.one (.str (Lib.join l sep)))) := by
  refine ⟨(callable_of Tryz.f37 (by kernel_rfl) (by kernel_rfl) rfl), fun w S vs hS ha => ?_⟩
  obtain ⟨u0, h0, r0⟩ := ha.2 0 _ rfl
  obtain ⟨u1, h1, r1⟩ := ha.2 1 _ rfl
  have hsz : vs.size = 2 := ha.1
  cases r1 with
  | str _ hsl =>
  have hvs : vs = #[u0, .string ⟨sep.toArray⟩] := by
    apply Array.ext
    · rw [hsz]; rfl
    · intro i hi hi2
      rw [hsz] at hi
      have h2 : i = 0 ∨ i = 1 := by omega
      rcases h2 with rfl | rfl
      · rw [Array.getElem?_eq_getElem (by omega)] at h0; injection h0
      · rw [Array.getElem?_eq_getElem (by omega)] at h1; injection h1
  rw [hvs]
  rcases strs_cells r0 hS.rd with ⟨a, c, rfl, rfl⟩ | ⟨b, o, c, rfl, hc, hb', hcell⟩
  · refine (Any.strings_Join_none layn156 layBuilderExtra a c ⟨sep.toArray⟩ w).mono ?_
    rintro e w' ⟨rfl, rfl⟩
    exact ⟨_, rfl, RowKit.Below.refl _ _, RepC.str [] (by simp), fun b h => by cases h⟩
  · have := Any.strings_Join layn156 layBuilderExtra b o c (l.map fun x => (⟨x.toArray⟩ : ByteArray)) ⟨sep.toArray⟩ w (fun j x hj => by
        rw [List.getElem?_map] at hj
        cases hx : l[j]? with
        | none => rw [hx] at hj; cases hj
        | some y => rw [hx] at hj; injection hj with hj; subst hj; exact hcell j y hx) hb' (by simpa using hN) (by simpa using hc) (by rw [join_map]; exact hb)
    rw [join_map, List.length_map] at this
    refine this.mono ?_
    rintro e w' ⟨rfl, hbel⟩
    exact ⟨_, rfl, hbel, RepC.str _ (Nat.le_trans hb (by decide)), fun b h => by cases h⟩

def dashL (s : List UInt8) : List UInt8 := if s = [] then [45] else s
theorem index_dash (s : List UInt8) : ACalls Tryz.prog 89 [.one (.str s)] (.x (.one (.str (dashL s)))) := by
  refine ACalls.of mixed (fn := Tryz.f89) (by kernel_rfl) (by kernel_rfl) rfl (by kernel_rfl) (by simp [Tryz.f89]) (fun hok => ?_)
  simp -implicitDefEqProofs +contextual [-Bool.and_eq_false_imp, Bool.and_eq_false_iff]
  refine ⟨fun h => ?_, fun h => ?_⟩
  · simp [dashL, h]
  · simp [dashL, h]

/-! ### The line of an entry -/
structure Right (e : Entry) : Prop where
  key : e.key.length ≤ 2000
  time : 0 ≤ e.time ∧ e.time ≤ 253402300799
  status : e.status = 0 ∨ (100 ≤ e.status ∧ e.status ≤ 599)
  type : e.type.length ≤ 40
  digest : e.digest.length = 16
  file : e.file.length ≤ 40
  lo : 0 ≤ e.lo ∧ e.lo ≤ 500000
  hi : e.lo ≤ e.hi ∧ e.hi ≤ 500000
theorem entryF_right {e : Entry} (h : entryF e = 0) : Right e := by
  unfold entryF at h
  split at h
  · cases h
  rename_i h1
  split at h
  · cases h
  rename_i h2
  split at h
  · cases h
  rename_i h3
  split at h
  · cases h
  rename_i h4
  split at h
  · cases h
  rename_i h5
  split at h
  · cases h
  rename_i h6
  simp only [keyB, wordB, momentB, digestB, nameB, inB, Bool.not_eq_false, Bool.and_eq_true, decide_eq_true_eq, beq_iff_eq, not_or, not_and] at h1 h2 h3 h4 h5 h6
  refine ⟨by omega, h2.1, ?_, ?_, by omega, by omega, h6.1, h6.2⟩
  · by_cases h0 : e.status = 0
    · exact .inl h0
    · exact .inr (h2.2 h0)
  · by_cases ht : e.type = []
    · rw [ht]; simp
    · have := h3 ht; omega
theorem Right.t64 {e : Entry} (h : Right e) : I64 e.time := by have := h.time; unfold I64; omega
theorem Right.s64 {e : Entry} (h : Right e) : I64 e.status := by have := h.status; unfold I64; omega
theorem Right.l64 {e : Entry} (h : Right e) : I64 e.lo := by have := h.lo; unfold I64; omega
theorem Right.h64 {e : Entry} (h : Right e) : I64 e.hi := by have := h.lo; have := h.hi; unfold I64; omega
def statusL (e : Entry) : List UInt8 := if e.status = 0 then [] else itoaL e.status
def partsL (e : Entry) : List (List UInt8) := [e.key, itoaL e.time, dashL (statusL e), dashL e.type, e.digest, e.file, itoaL e.lo, itoaL e.hi]
def lineL (e : Entry) : List UInt8 := Lib.join (partsL e) [32] ++ (if e.same = true then [32, 115, 97, 109, 101] else []) ++ [10]
theorem dashL_len (s : List UInt8) : (dashL s).length ≤ s.length + 1 := by unfold dashL; split <;> simp
theorem joinL_8 (a b c d e f g h : List UInt8) : Lib.join [a, b, c, d, e, f, g, h] [32] = a ++ [32] ++ b ++ [32] ++ c ++ [32] ++ d ++ [32] ++ e ++ [32] ++ f ++ [32] ++ g ++ [32] ++ h := by
  simp [Lib.join, List.intercalate]
theorem partsL_len {e : Entry} (h : Right e) : (Lib.join (partsL e) [32]).length ≤ 2300 := by
  have h1 := itoaL_len h.t64
  have h2 := itoaL_len h.l64
  have h3 := itoaL_len h.h64
  have h4 := dashL_len (statusL e)
  have h5 := dashL_len e.type
  have h6 : (statusL e).length ≤ 21 := by
    unfold statusL
    split
    · simp
    · exact itoaL_len h.s64
  have := h.key; have := h.type; have := h.digest; have := h.file
  unfold partsL
  rw [joinL_8]
  simp only [List.length_append, List.length_cons, List.length_nil]
  omega
theorem lineL_len {e : Entry} (h : Right e) : (lineL e).length ≤ 2306 := by
  have := partsL_len h
  unfold lineL
  split <;> simp <;> omega

theorem index_line (e : Entry) (h : Right e) : ACalls Tryz.prog 61 [.agg e.row] (.x (.one (.str (lineL e)))) := by
  refine ACalls.of mixed (fn := Tryz.f61) (by kernel_rfl) (by kernel_rfl) rfl (by kernel_rfl) (by simp [Tryz.f61]) (fun hok => ?_)
  have hlen := partsL_len h
  have hj := strings_Join (partsL e) [32] (by omega) (by simp [partsL])
  have hfin : ∀ x, x = Lib.join (partsL e) [32] → lineL e = x ++ (if e.same = true then [32, 115, 97, 109, 101] else []) ++ [10] := by rintro x rfl; rfl
  generalize lineL e = L at hfin ⊢
  have tail : ∀ x, x = Lib.join (partsL e) [32] → x.length ≤ 2300 := by rintro x rfl; exact hlen
  by_cases h0 : e.status = 0
  · have hs : statusL e = [] := if_pos h0
    unfold partsL at hj hfin tail
    rw [hs] at hj hfin tail
    simp -implicitDefEqProofs [Entry.row, h0]
    refine AltR.l ⟨by kernel_rfl, ?_⟩
    simp -implicitDefEqProofs
    refine ACallK.of (strconv_Itoa _ h.t64) ?_
    simp -implicitDefEqProofs
    refine ACallK.of (index_dash _) ?_
    simp -implicitDefEqProofs
    refine ACallK.of (index_dash _) ?_
    simp -implicitDefEqProofs
    refine ACallK.of (strconv_Itoa _ h.l64) ?_
    simp -implicitDefEqProofs
    refine ACallK.of (strconv_Itoa _ h.h64) ?_
    simp -implicitDefEqProofs
    refine ACallK.of hj ?_
    obtain ⟨x, ex⟩ : ∃ x, x = Lib.join [e.key, itoaL e.time, dashL [], dashL e.type, e.digest, e.file, itoaL e.lo, itoaL e.hi] [32] := ⟨_, rfl⟩
    have h1 := hfin x ex
    have h2 := tail x ex
    rw [← ex]
    clear hj hfin tail ex
    have m1 : x.length + 5 ≤ maxLen := by unfold maxLen; omega
    have m2 : x.length + 6 ≤ maxLen := by unfold maxLen; omega
    have m3 : x.length + 1 ≤ maxLen := by unfold maxLen; omega
    cases hsame : e.same with
    | true =>
      rw [hsame] at h1
      simp -implicitDefEqProofs [hsame, m1, m2, m3]
      simp [h1]
    | false =>
      rw [hsame] at h1
      simp -implicitDefEqProofs [hsame, m1, m2, m3]
      simp [h1]
  · have hs : statusL e = itoaL e.status := if_neg h0
    unfold partsL at hj hfin tail
    rw [hs] at hj hfin tail
    simp -implicitDefEqProofs [Entry.row, h0]
    refine ACallK.of (strconv_Itoa _ h.s64) ?_
    simp -implicitDefEqProofs
    refine AltR.l ⟨by kernel_rfl, ?_⟩
    simp -implicitDefEqProofs
    refine ACallK.of (strconv_Itoa _ h.t64) ?_
    simp -implicitDefEqProofs
    refine ACallK.of (index_dash _) ?_
    simp -implicitDefEqProofs
    refine ACallK.of (index_dash _) ?_
    simp -implicitDefEqProofs
    refine ACallK.of (strconv_Itoa _ h.l64) ?_
    simp -implicitDefEqProofs
    refine ACallK.of (strconv_Itoa _ h.h64) ?_
    simp -implicitDefEqProofs
    refine ACallK.of hj ?_
    obtain ⟨x, ex⟩ : ∃ x, x = Lib.join [e.key, itoaL e.time, dashL (itoaL e.status), dashL e.type, e.digest, e.file, itoaL e.lo, itoaL e.hi] [32] := ⟨_, rfl⟩
    have h1 := hfin x ex
    have h2 := tail x ex
    rw [← ex]
    clear hj hfin tail ex
    have m1 : x.length + 5 ≤ maxLen := by unfold maxLen; omega
    have m2 : x.length + 6 ≤ maxLen := by unfold maxLen; omega
    have m3 : x.length + 1 ≤ maxLen := by unfold maxLen; omega
    cases hsame : e.same with
    | true =>
      rw [hsame] at h1
      simp -implicitDefEqProofs [hsame, m1, m2, m3]
      simp [h1]
    | false =>
      rw [hsame] at h1
      simp -implicitDefEqProofs [hsame, m1, m2, m3]
      simp [h1]
theorem itoaL_ne {n : Int} (h : n ≠ 0) : itoaL n ≠ [] := by
  unfold itoaL Lib.itoa
  split
  · simp
  · rw [Lib.decDigits]; split <;> simp
end Go.Proofs.YtejhjdpafdpjlaaGreatDoor
