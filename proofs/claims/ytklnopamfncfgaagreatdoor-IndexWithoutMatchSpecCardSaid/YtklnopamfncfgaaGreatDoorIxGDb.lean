/- A part of the proof: lemmas and contracts of functions. -/
import Derived.Test.YtklnopamfncfgaaGreatDoorIxGDa
import Derived.Shelf.Lays
import Derived.Shelf.LaysM
import Derived.Shelf.Strings.BuilderX
import Derived.Test.YtklnopamfncfgaaGreatDoorProg
import Derived.KernelRfl
import Derived.Test.YtklnopamfncfgaaGreatDoorAbJ5
import Derived.Lib.ItoaLen
import Derived.Shelf.Strconv.Itoa3
import Derived.Shelf.Strings.OnBuilder
import Derived.Shelf.Strings.SplitCore
import Derived.Shelf.Strings.Search3
import Derived.Shelf.Strings.Count
import Derived.Shelf.Strconv.Atoi
import Derived.Lib.SplitLaws
import Derived.Lib.AtoiErrMem
namespace Go.Proofs.YtklnopamfncfgaaGreatDoor
open Go Go.Ab
set_option linter.unusedSectionVars false
variable [Amb]
set_option maxRecDepth 100000
set_option maxHeartbeats 4000000

section
variable (e : Entry)
@[simp] theorem row_length : e.row.length = 9 := rfl
@[simp] theorem row_take : List.take 9 e.row = e.row := rfl
@[simp] theorem row_acut (p : Prop) : acut .one p e.row = (p, .x (.one (.str e.key))) := rfl
@[simp] theorem row_acutZ (z : Option XV) (p : Prop) : acutZ .one z p e.row = (p, .x (.one (.str e.key))) := rfl
@[simp] theorem row_drop0 : List.drop 0 e.row = [.str e.key, .int .i64 e.time, .int .i64 e.status, .str e.type, .str e.digest, .str e.file, .int .i64 e.lo, .int .i64 e.hi, .bool e.same] := rfl
@[simp] theorem row_drop1 : List.drop 1 e.row = [.int .i64 e.time, .int .i64 e.status, .str e.type, .str e.digest, .str e.file, .int .i64 e.lo, .int .i64 e.hi, .bool e.same] := rfl
@[simp] theorem row_tail : e.row.tail = [.int .i64 e.time, .int .i64 e.status, .str e.type, .str e.digest, .str e.file, .int .i64 e.lo, .int .i64 e.hi, .bool e.same] := rfl
@[simp] theorem row_drop2 : List.drop 2 e.row = [.int .i64 e.status, .str e.type, .str e.digest, .str e.file, .int .i64 e.lo, .int .i64 e.hi, .bool e.same] := rfl
@[simp] theorem row_drop3 : List.drop 3 e.row = [.str e.type, .str e.digest, .str e.file, .int .i64 e.lo, .int .i64 e.hi, .bool e.same] := rfl
@[simp] theorem row_drop4 : List.drop 4 e.row = [.str e.digest, .str e.file, .int .i64 e.lo, .int .i64 e.hi, .bool e.same] := rfl
@[simp] theorem row_drop5 : List.drop 5 e.row = [.str e.file, .int .i64 e.lo, .int .i64 e.hi, .bool e.same] := rfl
@[simp] theorem row_drop6 : List.drop 6 e.row = [.int .i64 e.lo, .int .i64 e.hi, .bool e.same] := rfl
@[simp] theorem row_drop7 : List.drop 7 e.row = [.int .i64 e.hi, .bool e.same] := rfl
@[simp] theorem row_drop8 : List.drop 8 e.row = [.bool e.same] := rfl
end
@[simp] theorem row_fit (a b : Entry) : fitCs [.s, .i, .i, .s, .s, .s, .i, .i, .b] a.row b.row = True := by simp [Entry.row, fitCs]
@[simp] theorem row_eq (a b : Entry) : eqCs a.row b.row = decide (a = b) := by
  cases a; cases b
  rw [Bool.eq_iff_iff]
  simp [Entry.row, eqCs]
@[simp] theorem cutAt_map {α β : Type} (f : α → β) (l : List α) (a b : Int) : cutAt (l.map f) a b = (cutAt l a b).map f := by simp [cutAt]
@[simp] theorem cutAt_full {α : Type} (l : List α) (a : Int) : cutAt l a (l.length : Int) = l.drop a.toNat := by simp [cutAt]
@[simp] theorem cutAt_zero {α : Type} (l : List α) (b : Int) : cutAt l 0 b = l.take b.toNat := by simp [cutAt]
theorem row_inj {a b : Entry} (h : a.row = b.row) : a = b := by
  cases a; cases b
  simp [Entry.row] at h
  simp [h]

abbrev entries (l : List Entry) : XV := .one (.list 9 (l.map Entry.row))

theorem eq_of_take {l m : List Entry} (hl : l.length = m.length) {i : Nat} (h : ∀ j, j < i → l[j]? = m[j]?) (hge : ¬ i < l.length) : l = m := by
  apply List.ext_getElem?
  intro j
  by_cases hj : j < i
  · exact h j hj
  · rw [List.getElem?_eq_none (by omega), List.getElem?_eq_none (by omega)]

theorem slices_Equal (l m : List Entry) : ACalls Tryz.prog 14 [entries l, entries m] (.x (.one (.bool (decide (l = m))))) := by
  refine ACalls.of mixed (fn := Tryz.f14) (by kernel_rfl) (by kernel_rfl) rfl (by kernel_rfl) (by simp [Tryz.f14]) (fun hok => ?_)
  have hl : l.length ≤ maxLen := by have := hok _ List.mem_cons_self; simp [XV.ok, CV.ok] at this; exact this.1
  simp -implicitDefEqProofs +contextual [-Bool.and_eq_false_imp, Bool.and_eq_false_iff]
  refine ⟨fun hne => ?_, fun heq => ?_⟩
  · intro e; subst e; exact hne rfl
  have heq' : l.length = m.length := by omega
  refine ALoopS.of Nat (fun i => [(0, .x (.one (.list 9 (l.map Entry.row)))), (1, .x (.one (.list 9 (m.map Entry.row)))), (12, .x (.one (.int .i64 m.length))), (13, .x (.one (.int .i64 i)))]) (fun i => i ≤ l.length ∧ ∀ j, j < i → l[j]? = m[j]?) (fun i => l.length - i) 0 ⟨Nat.zero_le _, by intro j hj; omega⟩ ?_ ?_
  · simp [heq']
  rintro i ⟨hi, hp⟩
  by_cases hlt : i < l.length
  · have hlt2 : i < m.length := by omega
    simp -implicitDefEqProofs +contextual [-Bool.and_eq_false_imp, Bool.and_eq_false_iff, hlt, hlt2]
    refine ⟨fun hne => ?_, fun he => Again.of (i + 1) ⟨hlt, fun j hj => ?_⟩ (by omega) ?_⟩
    · intro e; subst e; exact hne rfl
    · by_cases hji : j < i
      · exact hp j hji
      · have : j = i := by omega
        subst this
        rw [List.getElem?_eq_getElem hlt, List.getElem?_eq_getElem hlt2, he]
    · simp
      exact wrapS _ (by unfold maxLen at hl; omega)
  · have hlt2 : ¬ i < m.length := by omega
    simp -implicitDefEqProofs [hlt, hlt2]
    exact eq_of_take heq' hp hlt

def idxE (l : List Entry) (e : Entry) : Int := match l.findIdx? (· == e) with
  | some i => i
  | none => -1
theorem idxE_nonneg (l : List Entry) (e : Entry) : (0 ≤ idxE l e) ↔ e ∈ l := by
  unfold idxE
  cases h : l.findIdx? (· == e) with
  | some i =>
    have hm : e ∈ l := by
      obtain ⟨h1, h2, _⟩ := List.findIdx?_eq_some_iff_getElem.1 h
      have := beq_iff_eq.1 h2
      rw [← this]; exact List.getElem_mem h1
    simp [hm]
  | none =>
    have hm : e ∉ l := fun hm => by
      have := List.findIdx?_eq_none_iff.1 h e hm
      simp at this
    simp [hm]

theorem slices_Clone (l : List Entry) (hb : l.length ≤ 16777216) : ACalls Tryz.prog 39 [entries l] (.x (entries l)) := by
  cases l with
  | nil =>
    refine ACalls.split_list (pre := []) (post := []) ?_ ?_
    · refine ACalls.of mixed (fn := Tryz.f39) (by kernel_rfl) (by kernel_rfl) rfl (by kernel_rfl) (by simp [Tryz.f39]) (fun hok => ?_)
      simp -implicitDefEqProofs +contextual [-Bool.and_eq_false_imp, Bool.and_eq_false_iff]
    · refine ACalls.of mixed (fn := Tryz.f39) (by kernel_rfl) (by kernel_rfl) rfl (by kernel_rfl) (by simp [Tryz.f39]) (fun hok => ?_)
      simp -implicitDefEqProofs +contextual [-Bool.and_eq_false_imp, Bool.and_eq_false_iff]
  | cons x r =>
    refine ACalls.of mixed (fn := Tryz.f39) (by kernel_rfl) (by kernel_rfl) rfl (by kernel_rfl) (by simp [Tryz.f39]) (fun hok => ?_)
    simp -implicitDefEqProofs +contextual [-Bool.and_eq_false_imp, Bool.and_eq_false_iff]
    simp at hb
    unfold maxLen
    omega

/-- s begins with p. -/
def hasPre (s p : List UInt8) : Bool := p.isPrefixOf s
theorem stringslite_HasPrefix (s p : List UInt8) : ACalls Tryz.prog 125 [.one (.str s), .one (.str p)] (.x (.one (.bool (hasPre s p)))) := by
  refine ACalls.of mixed (fn := Tryz.f125) (by kernel_rfl) (by kernel_rfl) rfl (by kernel_rfl) (by simp [Tryz.f125]) (fun hok => ?_)
  simp -implicitDefEqProofs +contextual [-Bool.and_eq_false_imp, Bool.and_eq_false_iff]
  have h : (p.isPrefixOf s = true) ↔ p = s.take p.length := by rw [List.isPrefixOf_iff_prefix, List.prefix_iff_eq_take]
  unfold hasPre
  rw [Bool.eq_iff_iff, h]
  simp
  constructor
  · intro e
    refine ⟨?_, e.symm⟩
    have := congrArg List.length e
    rw [List.length_take] at this
    omega
  · intro e; exact e.2.symm
theorem strings_HasPrefix (s p : List UInt8) : ACalls Tryz.prog 92 [.one (.str s), .one (.str p)] (.x (.one (.bool (hasPre s p)))) := by
  refine ACalls.of mixed (fn := Tryz.f92) (by kernel_rfl) (by kernel_rfl) rfl (by kernel_rfl) (by simp [Tryz.f92]) (fun hok => ?_)
  simp -implicitDefEqProofs +contextual [-Bool.and_eq_false_imp, Bool.and_eq_false_iff]
  refine ACallK.of (stringslite_HasPrefix _ _) ?_
  simp -implicitDefEqProofs +contextual [-Bool.and_eq_false_imp, Bool.and_eq_false_iff]
end Go.Proofs.YtklnopamfncfgaaGreatDoor
namespace Go.Proofs.YtklnopamfncfgaaGreatDoor
open Go Go.Ab
set_option linter.unusedSectionVars false
variable [Amb]
set_option maxRecDepth 100000
set_option maxHeartbeats 4000000

theorem entriesF_short {l : List Entry} (h : entriesF l = 0) : l.length ≤ 3000 := by
  unfold entriesF at h
  split at h
  · cases h
  · omega

/-! ### Prefix -/
def prefixF (l : List Entry) (p : List UInt8) (from' many : Int) : Int :=
  if entriesF l ≠ 0 then entriesF l
  else if p ≠ [] ∧ keyB p = false then 3
  else if inB 0 3000 from' = false ∨ inB 1 3000 many = false then 1 else 0
def withPrefix (l : List Entry) (p : List UInt8) : List Entry := l.filter fun e => hasPre e.key p
def prefixL (l : List Entry) (p : List UInt8) (from' many : Int) : List Entry := if prefixF l p from' many = 0 then ((withPrefix l p).drop from'.toNat).take many.toNat else []
def prefixMore (l : List Entry) (p : List UInt8) (from' many : Int) : Bool := if prefixF l p from' many = 0 then decide (many.toNat < ((withPrefix l p).drop from'.toNat).length) else false

theorem drop_snoc {α : Type} (w : List α) (x : α) (n : Nat) : (w ++ [x]).drop n = if n ≤ w.length then w.drop n ++ [x] else [] := by
  split
  · rename_i h; rw [List.drop_append_of_le_length h]
  · rename_i h; exact List.drop_eq_nil_of_le (by simp; omega)
theorem withPrefix_split (l : List Entry) (p : List UInt8) (i : Nat) : withPrefix l p = withPrefix (l.take i) p ++ withPrefix (l.drop i) p := by
  unfold withPrefix
  rw [← List.filter_append, List.take_append_drop]

/-! ### Between -/
def betweenF (l : List Entry) (a b : Int) : Int :=
  if entriesF l ≠ 0 then entriesF l
  else if inB 0 253402300800 a = false ∨ inB 0 253402300800 b = false then 1 else 0
def within' (l : List Entry) (a b : Int) : List Entry := l.filter fun e => decide (a ≤ e.time) && decide (e.time < b)
def betweenL (l : List Entry) (a b : Int) : List Entry := if betweenF l a b = 0 then within' l a b else []
theorem within'_step {l : List Entry} {i : Nat} (a b : Int) (hlt : i < l.length) : within' (l.take (i + 1)) a b = within' (l.take i) a b ++ (if a ≤ l[i].time ∧ l[i].time < b then [l[i]] else []) := by
  unfold within'
  rw [List.take_add_one, List.getElem?_eq_getElem hlt, List.filter_append]
  congr 1
  simp only [Option.toList, List.filter_cons, List.filter_nil, Bool.and_eq_true, decide_eq_true_eq]
theorem within'_le (l : List Entry) (i : Nat) (a b : Int) : (within' (l.take i) a b).length ≤ l.length := by
  have := List.length_filter_le (fun e : Entry => decide (a ≤ e.time) && decide (e.time < b)) (l.take i)
  rw [List.length_take] at this
  unfold within'; omega

end Go.Proofs.YtklnopamfncfgaaGreatDoor
namespace Go.Proofs.YtklnopamfncfgaaGreatDoor
open Go
set_option maxRecDepth 100000
def renMn171 : Go.Shelf.Ren := ⟨fun x => if x = 129 then 252 else if x = 171 then 69 else if x = 243 then 124 else if x = 246 then 187 else if x = 283 then 228 else if x = 284 then 229 else if x = 285 then 230 else if x = 286 then 231 else if x = 317 then 251 else if x = 318 then 253 else if x = 319 then 254 else if x = 320 then 255 else if x = 337 then 263 else if x = 338 then 264 else x, fun x => if x = 0 then 0 else if x = 2 then 2 else if x = 3 then 3 else if x = 4 then 4 else if x = 5 then 5 else if x = 9 then 9 else if x = 20 then 20 else if x = 37 then 46 else if x = 46 then 181 else if x = 51 then 206 else if x = 53 then 209 else if x = 171 then 213 else if x = 173 then 216 else if x = 212 then 230 else if x = 213 then 231 else if x = 232 then 252 else if x = 233 then 253 else x, fun x => if x = 17 then 3 else if x = 18 then 6 else if x = 19 then 7 else x⟩
theorem layMn171 : Go.Proofs.LaysM.n171 Tryz.prog renMn171 where
  i0 := by kernel_rfl
  i2 := by kernel_rfl
  i3 := by kernel_rfl
  i4 := by kernel_rfl
  i5 := by kernel_rfl
  i9 := by kernel_rfl
  i20 := by kernel_rfl
  i37 := by kernel_rfl
  i46 := by kernel_rfl
  i51 := by kernel_rfl
  i53 := by kernel_rfl
  i171 := by kernel_rfl
  i173 := by kernel_rfl
  i212 := by kernel_rfl
  i232 := by kernel_rfl
  i233 := by kernel_rfl
  m17 := by kernel_rfl
  m18 := by kernel_rfl
  m19 := by kernel_rfl
  mixed := by kernel_rfl
  f129 := Tryz.func252.trans (congrArg some (by kernel_rfl))
  f171 := Tryz.func69.trans (congrArg some (by kernel_rfl))
  f243 := Tryz.func124.trans (congrArg some (by kernel_rfl))
  f246 := Tryz.func187.trans (congrArg some (by kernel_rfl))
  f283 := Tryz.func228.trans (congrArg some (by kernel_rfl))
  f284 := Tryz.func229.trans (congrArg some (by kernel_rfl))
  f285 := Tryz.func230.trans (congrArg some (by kernel_rfl))
  f286 := Tryz.func231.trans (congrArg some (by kernel_rfl))
  f317 := Tryz.func251.trans (congrArg some (by kernel_rfl))
  f318 := Tryz.func253.trans (congrArg some (by kernel_rfl))
  f319 := Tryz.func254.trans (congrArg some (by kernel_rfl))
  f320 := Tryz.func255.trans (congrArg some (by kernel_rfl))
  f337 := Tryz.func263.trans (congrArg some (by kernel_rfl))
  f338 := Tryz.func264.trans (congrArg some (by kernel_rfl))
  t0 := Tryz.underlying0
  a0 := Tryz.isAgg0
  z0 := Tryz.sizeOf0
  v0 := Tryz.zeroValue0
  t2 := Tryz.underlying2
  a2 := Tryz.isAgg2
  z2 := Tryz.sizeOf2
  v2 := Tryz.zeroValue2
  t3 := Tryz.underlying3
  a3 := Tryz.isAgg3
  z3 := Tryz.sizeOf3
  v3 := Tryz.zeroValue3
  t4 := Tryz.underlying4
  a4 := Tryz.isAgg4
  z4 := Tryz.sizeOf4
  v4 := Tryz.zeroValue4
  t5 := Tryz.underlying5
  a5 := Tryz.isAgg5
  z5 := Tryz.sizeOf5
  v5 := Tryz.zeroValue5
  t9 := Tryz.underlying9
  a9 := Tryz.isAgg9
  z9 := Tryz.sizeOf9
  v9 := Tryz.zeroValue9
  t20 := Tryz.underlying20
  a20 := Tryz.isAgg20
  z20 := Tryz.sizeOf20
  v20 := Tryz.zeroValue20
  t37 := Tryz.underlying46
  a37 := Tryz.isAgg46
  z37 := Tryz.sizeOf46
  v37 := Tryz.zeroValue46
  t46 := Tryz.underlying181
  a46 := Tryz.isAgg181
  z46 := Tryz.sizeOf181
  v46 := Tryz.zeroValue181
  t51 := Tryz.underlying206
  a51 := Tryz.isAgg206
  z51 := Tryz.sizeOf206
  v51 := Tryz.zeroValue206
  t53 := Tryz.underlying209
  a53 := Tryz.isAgg209
  z53 := Tryz.sizeOf209
  v53 := Tryz.zeroValue209
  t171 := Tryz.underlying213
  a171 := Tryz.isAgg213
  z171 := Tryz.sizeOf213
  v171 := Tryz.zeroValue213
  t173 := Tryz.underlying216
  a173 := Tryz.isAgg216
  z173 := Tryz.sizeOf216
  v173 := Tryz.zeroValue216
  t212 := Tryz.underlying230
  a212 := Tryz.isAgg230
  z212 := Tryz.sizeOf230
  v212 := Tryz.zeroValue230
  t213 := Tryz.underlying231
  a213 := Tryz.isAgg231
  z213 := Tryz.sizeOf231
  t232 := Tryz.underlying252
  a232 := Tryz.isAgg252
  z232 := Tryz.sizeOf252
  v232 := Tryz.zeroValue252
  t233 := Tryz.underlying253
  a233 := Tryz.isAgg253
  z233 := Tryz.sizeOf253
  v233 := Tryz.zeroValue253
  g17 := by kernel_rfl
  g18 := by kernel_rfl
  g19 := by kernel_rfl
def renn156 : Go.Shelf.Ren := ⟨fun x => if x = 156 then 203 else if x = 165 then 179 else if x = 166 then 180 else if x = 169 then 182 else if x = 240 then 224 else if x = 241 then 225 else if x = 276 then 249 else if x = 277 then 250 else x, fun x => if x = 0 then 0 else if x = 3 then 3 else if x = 4 then 4 else if x = 5 then 5 else if x = 9 then 9 else if x = 20 then 20 else if x = 31 then 69 else if x = 37 then 46 else if x = 70 then 184 else if x = 72 then 186 else if x = 75 then 113 else if x = 76 then 114 else if x = 80 then 168 else if x = 127 then 212 else if x = 164 then 226 else x, fun x => x⟩
theorem layn156 : Go.Proofs.Lays.n156 Tryz.prog renn156 where
  mixed := by kernel_rfl
  f156 := Tryz.func203.trans (congrArg some (by kernel_rfl))
  f165 := Tryz.func179.trans (congrArg some (by kernel_rfl))
  f166 := Tryz.func180.trans (congrArg some (by kernel_rfl))
  f169 := Tryz.func182.trans (congrArg some (by kernel_rfl))
  f240 := Tryz.func224.trans (congrArg some (by kernel_rfl))
  f241 := Tryz.func225.trans (congrArg some (by kernel_rfl))
  f276 := Tryz.func249.trans (congrArg some (by kernel_rfl))
  f277 := Tryz.func250.trans (congrArg some (by kernel_rfl))
  t0 := Tryz.underlying0
  a0 := Tryz.isAgg0
  z0 := Tryz.sizeOf0
  v0 := Tryz.zeroValue0
  t3 := Tryz.underlying3
  a3 := Tryz.isAgg3
  z3 := Tryz.sizeOf3
  v3 := Tryz.zeroValue3
  t4 := Tryz.underlying4
  a4 := Tryz.isAgg4
  z4 := Tryz.sizeOf4
  v4 := Tryz.zeroValue4
  t9 := Tryz.underlying9
  a9 := Tryz.isAgg9
  z9 := Tryz.sizeOf9
  v9 := Tryz.zeroValue9
  t20 := Tryz.underlying20
  a20 := Tryz.isAgg20
  z20 := Tryz.sizeOf20
  v20 := Tryz.zeroValue20
  t31 := Tryz.underlying69
  a31 := Tryz.isAgg69
  z31 := Tryz.sizeOf69
  v31 := Tryz.zeroValue69
  t37 := Tryz.underlying46
  a37 := Tryz.isAgg46
  z37 := Tryz.sizeOf46
  v37 := Tryz.zeroValue46
  t70 := Tryz.underlying184
  a70 := Tryz.isAgg184
  z70 := Tryz.sizeOf184
  v70 := Tryz.zeroValue184
  t72 := Tryz.underlying186
  a72 := Tryz.isAgg186
  z72 := Tryz.sizeOf186
  v72 := Tryz.zeroValue186
  t75 := Tryz.underlying113
  a75 := Tryz.isAgg113
  z75 := Tryz.sizeOf113
  v75 := Tryz.zeroValue113
  t76 := Tryz.underlying114
  a76 := Tryz.isAgg114
  z76 := Tryz.sizeOf114
  v76 := Tryz.zeroValue114
  t127 := Tryz.underlying212
  a127 := Tryz.isAgg212
  z127 := Tryz.sizeOf212
  v127 := Tryz.zeroValue212
  t164 := Tryz.underlying226
  a164 := Tryz.isAgg226
  z164 := Tryz.sizeOf226
  v164 := Tryz.zeroValue226
theorem layBuilderExtra : Go.Proofs.Builder.Extra Tryz.prog renn156 where
  t5 := Tryz.underlying5
  a5 := Tryz.isAgg5
  z5 := Tryz.sizeOf5
  v5 := Tryz.zeroValue5
  infoByte := by kernel_rfl
  cellsByte := by kernel_rfl
  sizeByte := by kernel_rfl
  neB5 := by decide
  sizeBuilder := by kernel_rfl
  liesBuilder := by kernel_rfl
end Go.Proofs.YtklnopamfncfgaaGreatDoor
namespace Go.Proofs.YtklnopamfncfgaaGreatDoor
open Go Go.Ab
set_option linter.unusedSectionVars false
variable [Amb] [HasPow10 Tryz.prog]
set_option maxRecDepth 100000
set_option maxHeartbeats 4000000

def itoaL (n : Int) : List UInt8 := Lib.itoa n
def I64 (n : Int) : Prop := -9223372036854775808 ≤ n ∧ n ≤ 9223372036854775807
theorem itoaL_len {n : Int} (h : I64 n) : (itoaL n).length ≤ 21 := Lib.itoa_length_le n h.1 h.2
theorem below_grow (w : World) (k : Nat) (os : Array Obj) : RowKit.Below w.heap.size w (Sort.grow (w.drewN k) os) :=
  ⟨rfl, rfl, rfl, by simp [Sort.grow, World.drewN], fun j hj => by
    show (w.heap ++ os)[j]? = w.heap[j]?
    rw [Array.getElem?_append_left hj]⟩
theorem strconv_Itoa (n : Int) (h : I64 n) : ACalls Tryz.prog 69 [.one (.int .i64 n)] (.x (.one (.str (itoaL n)))) := by
  refine ACalls.ofKitA [.int .i64 n] _ (callable_of Tryz.f69 (by kernel_rfl) (by kernel_rfl) rfl) rfl (fun _ _ => repR_str _ (Nat.le_trans (itoaL_len h) (by decide))) (fun _ w hw => ?_)
  refine (Any.strconv_Itoa layMn171 n h.1 h.2 w (HasPow10.tab w hw)).mono ?_
  rintro e w' ⟨rfl, k, os, rfl⟩
  exact ⟨rfl, below_grow _ _ _⟩

abbrev strs (l : List (List UInt8)) : XV := .one (.list 1 (l.map fun s => [.str s]))
theorem strs_cells {w : World} {S : Nat → Prop} {l : List (List UInt8)} {v : Value} (h : RepX w S (strs l) v) (hS : ∀ b, S b → b < w.heap.size) :
    (∃ a c, v = .slice a 0 c ∧ l = []) ∨ ∃ b o c, v = .slice (some ⟨b, o, none⟩) l.length c ∧ l.length ≤ c ∧ b < w.heap.size ∧ ∀ (j : Nat) x, l[j]? = some x → w.cell? ⟨b, o + j, none⟩ = some (.string ⟨x.toArray⟩) := by
  have hl : ∀ l : List (List UInt8), (l.map fun s => [CV.str s]).flatten = l.map CV.str := by
    intro l
    induction l with
    | nil => rfl
    | cons a r ih => simp [ih]
  have hl := hl l
  have h' : RepC w S (.list 1 (l.map fun s => [.str s])) v := h
  generalize hx : (l.map fun s => [CV.str s]) = xs at h' hl
  cases h' with
  | list0 a c _ _ _ => exact .inl ⟨a, c, rfl, by simpa using hx⟩
  | list ad cap _ _ U hs hsp hc hm hxl hU hrep =>
    obtain ⟨b, o, sp⟩ := ad
    cases hsp
    have hlen : xs.length = l.length := by rw [← hx]; simp
    refine .inr ⟨b, o, cap, by rw [hlen], by omega, hS b hs, fun j x hj => ?_⟩
    have h1 : xs.flatten[j]? = some (.str x) := by rw [hl, List.getElem?_map, hj]; rfl
    have h2 := hU j _ h1
    rw [addr_add_lit] at h2
    have h3 := hrep j _ h1
    generalize U j = u at h2 h3
    cases h3
    exact h2
theorem join_map (l : List (List UInt8)) (sep : List UInt8) : Lib.join ((l.map fun x => (⟨x.toArray⟩ : ByteArray)).map (·.data.toList)) ((⟨sep.toArray⟩ : ByteArray).data.toList) = Lib.join l sep := by
  simp [List.map_map, Function.comp_def]
theorem strings_Join (l : List (List UInt8)) (sep : List UInt8) (hb : (Lib.join l sep).length ≤ 140737488355328) (hN : l.length ≤ 140737488355328) : ACalls Tryz.prog 203 [strs l, .one (.str sep)] (.x (.one (.str (Lib.join l sep)))) := by
  refine ⟨(callable_of Tryz.f203 (by kernel_rfl) (by kernel_rfl) rfl), fun w S vs hS ha => ?_⟩
  obtain ⟨u0, h0, r0⟩ := ha.2 0 _ rfl
  obtain ⟨u1, h1, r1⟩ := ha.2 1 _ rfl
  have hsz : vs.size = 2 := ha.1
  cases r1 with
  | str _ hsl =>
  have hvs : vs = #[u0, .string ⟨sep.toArray⟩] := by
    apply Array.ext
    · rw [hsz]; rfl
    · intro i hi hi2
      rw [hsz] at hi
      have h2 : i = 0 ∨ i = 1 := by omega
      rcases h2 with rfl | rfl
      · rw [Array.getElem?_eq_getElem (by omega)] at h0; injection h0
      · rw [Array.getElem?_eq_getElem (by omega)] at h1; injection h1
  rw [hvs]
  rcases strs_cells r0 hS.rd with ⟨a, c, rfl, rfl⟩ | ⟨b, o, c, rfl, hc, hb', hcell⟩
  · refine (Any.strings_Join_none layn156 layBuilderExtra a c ⟨sep.toArray⟩ w).mono ?_
    rintro e w' ⟨rfl, rfl⟩
    exact ⟨_, rfl, RowKit.Below.refl _ _, RepC.str [] (by simp), fun b h => by cases h⟩
  · have := Any.strings_Join layn156 layBuilderExtra b o c (l.map fun x => (⟨x.toArray⟩ : ByteArray)) ⟨sep.toArray⟩ w (fun j x hj => by
        rw [List.getElem?_map] at hj
        cases hx : l[j]? with
        | none => rw [hx] at hj; cases hj
        | some y => rw [hx] at hj; injection hj with hj; subst hj; exact hcell j y hx) hb' (by simpa using hN) (by simpa using hc) (by rw [join_map]; exact hb)
    rw [join_map, List.length_map] at this
    refine this.mono ?_
    rintro e w' ⟨rfl, hbel⟩
    exact ⟨_, rfl, hbel, RepC.str _ (Nat.le_trans hb (by decide)), fun b h => by cases h⟩

def dashL (s : List UInt8) : List UInt8 := if s = [] then [45] else s
/-! ### The line of an entry -/
structure Right (e : Entry) : Prop where
  key : e.key.length ≤ 2000
  time : 0 ≤ e.time ∧ e.time ≤ 253402300799
  status : e.status = 0 ∨ (100 ≤ e.status ∧ e.status ≤ 599)
  type : e.type.length ≤ 40
  digest : e.digest.length = 16
  file : e.file.length ≤ 40
  lo : 0 ≤ e.lo ∧ e.lo ≤ 500000
  hi : e.lo ≤ e.hi ∧ e.hi ≤ 500000
theorem entryF_right {e : Entry} (h : entryF e = 0) : Right e := by
  unfold entryF at h
  split at h
  · cases h
  rename_i h1
  split at h
  · cases h
  rename_i h2
  split at h
  · cases h
  rename_i h3
  split at h
  · cases h
  rename_i h4
  split at h
  · cases h
  rename_i h5
  split at h
  · cases h
  rename_i h6
  simp only [keyB, wordB, momentB, digestB, nameB, inB, Bool.not_eq_false, Bool.and_eq_true, decide_eq_true_eq, beq_iff_eq, not_or, not_and] at h1 h2 h3 h4 h5 h6
  refine ⟨by omega, h2.1, ?_, ?_, by omega, by omega, h6.1, h6.2⟩
  · by_cases h0 : e.status = 0
    · exact .inl h0
    · exact .inr (h2.2 h0)
  · by_cases ht : e.type = []
    · rw [ht]; simp
    · have := h3 ht; omega
theorem Right.t64 {e : Entry} (h : Right e) : I64 e.time := by have := h.time; unfold I64; omega
theorem Right.s64 {e : Entry} (h : Right e) : I64 e.status := by have := h.status; unfold I64; omega
theorem Right.l64 {e : Entry} (h : Right e) : I64 e.lo := by have := h.lo; unfold I64; omega
theorem Right.h64 {e : Entry} (h : Right e) : I64 e.hi := by have := h.lo; have := h.hi; unfold I64; omega
def statusL (e : Entry) : List UInt8 := if e.status = 0 then [] else itoaL e.status
def partsL (e : Entry) : List (List UInt8) := [e.key, itoaL e.time, dashL (statusL e), dashL e.type, e.digest, e.file, itoaL e.lo, itoaL e.hi]
def lineL (e : Entry) : List UInt8 := Lib.join (partsL e) [32] ++ (if e.same = true then [32, 115, 97, 109, 101] else []) ++ [10]
theorem dashL_len (s : List UInt8) : (dashL s).length ≤ s.length + 1 := by unfold dashL; split <;> simp
theorem joinL_8 (a b c d e f g h : List UInt8) : Lib.join [a, b, c, d, e, f, g, h] [32] = a ++ [32] ++ b ++ [32] ++ c ++ [32] ++ d ++ [32] ++ e ++ [32] ++ f ++ [32] ++ g ++ [32] ++ h := by
  simp [Lib.join, List.intercalate]
theorem partsL_len {e : Entry} (h : Right e) : (Lib.join (partsL e) [32]).length ≤ 2300 := by
  have h1 := itoaL_len h.t64
  have h2 := itoaL_len h.l64
  have h3 := itoaL_len h.h64
  have h4 := dashL_len (statusL e)
  have h5 := dashL_len e.type
  have h6 : (statusL e).length ≤ 21 := by
    unfold statusL
    split
    · simp
    · exact itoaL_len h.s64
  have := h.key; have := h.type; have := h.digest; have := h.file
  unfold partsL
  rw [joinL_8]
  simp only [List.length_append, List.length_cons, List.length_nil]
  omega
theorem lineL_len {e : Entry} (h : Right e) : (lineL e).length ≤ 2306 := by
  have := partsL_len h
  unfold lineL
  split <;> simp <;> omega

theorem itoaL_ne {n : Int} (h : n ≠ 0) : itoaL n ≠ [] := by
  unfold itoaL Lib.itoa
  split
  · simp
  · rw [Lib.decDigits]; split <;> simp
end Go.Proofs.YtklnopamfncfgaaGreatDoor
namespace Go.Proofs.YtklnopamfncfgaaGreatDoor
open Go
set_option maxRecDepth 100000
def renn221 : Go.Shelf.Ren := ⟨fun x => if x = 138 then 209 else if x = 143 then 210 else if x = 195 then 244 else if x = 197 then 189 else if x = 217 then 112 else if x = 218 then 245 else if x = 219 then 207 else if x = 221 then 161 else if x = 224 then 242 else if x = 225 then 241 else if x = 260 then 232 else if x = 266 then 177 else if x = 267 then 243 else if x = 268 then 208 else if x = 314 then 262 else x, fun x => if x = 0 then 0 else if x = 3 then 3 else if x = 4 then 4 else if x = 5 then 5 else if x = 9 then 9 else if x = 21 then 21 else if x = 31 then 69 else if x = 46 then 181 else if x = 51 then 206 else if x = 105 then 190 else if x = 119 then 233 else if x = 138 then 235 else if x = 139 then 236 else if x = 146 then 207 else x, fun x => if x = 1 then 0 else if x = 3 then 4 else if x = 4 then 5 else x⟩
theorem layn221 : Go.Proofs.Lays.n221 Tryz.prog renn221 where
  mixed := by kernel_rfl
  f138 := Tryz.func209.trans (congrArg some (by kernel_rfl))
  f143 := Tryz.func210.trans (congrArg some (by kernel_rfl))
  f195 := Tryz.func244.trans (congrArg some (by kernel_rfl))
  f197 := Tryz.func189.trans (congrArg some (by kernel_rfl))
  f217 := Tryz.func112.trans (congrArg some (by kernel_rfl))
  f218 := Tryz.func245.trans (congrArg some (by kernel_rfl))
  f219 := Tryz.func207.trans (congrArg some (by kernel_rfl))
  f221 := Tryz.func161.trans (congrArg some (by kernel_rfl))
  f224 := Tryz.func242.trans (congrArg some (by kernel_rfl))
  f225 := Tryz.func241.trans (congrArg some (by kernel_rfl))
  f260 := Tryz.func232.trans (congrArg some (by kernel_rfl))
  f266 := Tryz.func177.trans (congrArg some (by kernel_rfl))
  f267 := Tryz.func243.trans (congrArg some (by kernel_rfl))
  f268 := Tryz.func208.trans (congrArg some (by kernel_rfl))
  f314 := Tryz.func262.trans (congrArg some (by kernel_rfl))
  t0 := Tryz.underlying0
  a0 := Tryz.isAgg0
  z0 := Tryz.sizeOf0
  v0 := Tryz.zeroValue0
  t3 := Tryz.underlying3
  a3 := Tryz.isAgg3
  z3 := Tryz.sizeOf3
  v3 := Tryz.zeroValue3
  t4 := Tryz.underlying4
  a4 := Tryz.isAgg4
  z4 := Tryz.sizeOf4
  v4 := Tryz.zeroValue4
  t5 := Tryz.underlying5
  a5 := Tryz.isAgg5
  z5 := Tryz.sizeOf5
  v5 := Tryz.zeroValue5
  t9 := Tryz.underlying9
  a9 := Tryz.isAgg9
  z9 := Tryz.sizeOf9
  v9 := Tryz.zeroValue9
  t21 := Tryz.underlying21
  a21 := Tryz.isAgg21
  z21 := Tryz.sizeOf21
  v21 := Tryz.zeroValue21
  t31 := Tryz.underlying69
  a31 := Tryz.isAgg69
  z31 := Tryz.sizeOf69
  v31 := Tryz.zeroValue69
  t46 := Tryz.underlying181
  a46 := Tryz.isAgg181
  z46 := Tryz.sizeOf181
  v46 := Tryz.zeroValue181
  t51 := Tryz.underlying206
  a51 := Tryz.isAgg206
  z51 := Tryz.sizeOf206
  v51 := Tryz.zeroValue206
  t105 := Tryz.underlying190
  a105 := Tryz.isAgg190
  z105 := Tryz.sizeOf190
  v105 := Tryz.zeroValue190
  t119 := Tryz.underlying233
  a119 := Tryz.isAgg233
  z119 := Tryz.sizeOf233
  t138 := Tryz.underlying235
  a138 := Tryz.isAgg235
  z138 := Tryz.sizeOf235
  v138 := Tryz.zeroValue235
  t139 := Tryz.underlying236
  a139 := Tryz.isAgg236
  z139 := Tryz.sizeOf236
  v139 := Tryz.zeroValue236
  t146 := Tryz.underlying207
  a146 := Tryz.isAgg207
  z146 := Tryz.sizeOf207
  v146 := Tryz.zeroValue207
  g1 := by kernel_rfl
  g3 := by kernel_rfl
  g4 := by kernel_rfl
end Go.Proofs.YtklnopamfncfgaaGreatDoor
namespace Go.Proofs.YtklnopamfncfgaaGreatDoor
open Go
set_option maxRecDepth 100000
def renn172 : Go.Shelf.Ren := ⟨fun x => if x = 129 then 252 else if x = 171 then 69 else if x = 172 then 72 else if x = 205 then 237 else if x = 243 then 124 else if x = 244 then 133 else if x = 245 then 134 else if x = 246 then 187 else if x = 247 then 192 else if x = 279 then 193 else if x = 280 then 194 else if x = 281 then 195 else if x = 282 then 196 else if x = 283 then 228 else if x = 284 then 229 else if x = 285 then 230 else if x = 286 then 231 else if x = 287 then 235 else if x = 316 then 236 else if x = 317 then 251 else if x = 318 then 253 else if x = 319 then 254 else if x = 320 then 255 else if x = 321 then 257 else if x = 322 then 258 else if x = 337 then 263 else if x = 338 then 264 else x, fun x => if x = 0 then 0 else if x = 2 then 2 else if x = 3 then 3 else if x = 4 then 4 else if x = 5 then 5 else if x = 9 then 9 else if x = 20 then 20 else if x = 21 then 21 else if x = 37 then 46 else if x = 46 then 181 else if x = 51 then 206 else if x = 53 then 209 else if x = 75 then 113 else if x = 76 then 114 else if x = 80 then 168 else if x = 85 then 194 else if x = 127 then 212 else if x = 143 then 238 else if x = 145 then 240 else if x = 167 then 193 else if x = 168 then 196 else if x = 171 then 213 else if x = 173 then 216 else if x = 175 then 219 else if x = 210 then 222 else if x = 212 then 230 else if x = 213 then 231 else if x = 232 then 252 else if x = 233 then 253 else x, fun x => if x = 15 then 1 else if x = 16 then 2 else if x = 17 then 3 else if x = 18 then 6 else if x = 19 then 7 else x⟩
theorem layn172 : Go.Proofs.Lays.n172 Tryz.prog renn172 where
  mixed := by kernel_rfl
  f129 := Tryz.func252.trans (congrArg some (by kernel_rfl))
  f171 := Tryz.func69.trans (congrArg some (by kernel_rfl))
  f172 := Tryz.func72.trans (congrArg some (by kernel_rfl))
  f205 := Tryz.func237.trans (congrArg some (by kernel_rfl))
  f243 := Tryz.func124.trans (congrArg some (by kernel_rfl))
  f244 := Tryz.func133.trans (congrArg some (by kernel_rfl))
  f245 := Tryz.func134.trans (congrArg some (by kernel_rfl))
  f246 := Tryz.func187.trans (congrArg some (by kernel_rfl))
  f247 := Tryz.func192.trans (congrArg some (by kernel_rfl))
  f279 := Tryz.func193.trans (congrArg some (by kernel_rfl))
  f280 := Tryz.func194.trans (congrArg some (by kernel_rfl))
  f281 := Tryz.func195.trans (congrArg some (by kernel_rfl))
  f282 := Tryz.func196.trans (congrArg some (by kernel_rfl))
  f283 := Tryz.func228.trans (congrArg some (by kernel_rfl))
  f284 := Tryz.func229.trans (congrArg some (by kernel_rfl))
  f285 := Tryz.func230.trans (congrArg some (by kernel_rfl))
  f286 := Tryz.func231.trans (congrArg some (by kernel_rfl))
  f287 := Tryz.func235.trans (congrArg some (by kernel_rfl))
  f316 := Tryz.func236.trans (congrArg some (by kernel_rfl))
  f317 := Tryz.func251.trans (congrArg some (by kernel_rfl))
  f318 := Tryz.func253.trans (congrArg some (by kernel_rfl))
  f319 := Tryz.func254.trans (congrArg some (by kernel_rfl))
  f320 := Tryz.func255.trans (congrArg some (by kernel_rfl))
  f321 := Tryz.func257.trans (congrArg some (by kernel_rfl))
  f322 := Tryz.func258.trans (congrArg some (by kernel_rfl))
  f337 := Tryz.func263.trans (congrArg some (by kernel_rfl))
  f338 := Tryz.func264.trans (congrArg some (by kernel_rfl))
  t0 := Tryz.underlying0
  a0 := Tryz.isAgg0
  z0 := Tryz.sizeOf0
  v0 := Tryz.zeroValue0
  t2 := Tryz.underlying2
  a2 := Tryz.isAgg2
  z2 := Tryz.sizeOf2
  v2 := Tryz.zeroValue2
  t3 := Tryz.underlying3
  a3 := Tryz.isAgg3
  z3 := Tryz.sizeOf3
  v3 := Tryz.zeroValue3
  t4 := Tryz.underlying4
  a4 := Tryz.isAgg4
  z4 := Tryz.sizeOf4
  v4 := Tryz.zeroValue4
  t5 := Tryz.underlying5
  a5 := Tryz.isAgg5
  z5 := Tryz.sizeOf5
  v5 := Tryz.zeroValue5
  t9 := Tryz.underlying9
  a9 := Tryz.isAgg9
  z9 := Tryz.sizeOf9
  v9 := Tryz.zeroValue9
  t20 := Tryz.underlying20
  a20 := Tryz.isAgg20
  z20 := Tryz.sizeOf20
  v20 := Tryz.zeroValue20
  t21 := Tryz.underlying21
  a21 := Tryz.isAgg21
  z21 := Tryz.sizeOf21
  v21 := Tryz.zeroValue21
  t37 := Tryz.underlying46
  a37 := Tryz.isAgg46
  z37 := Tryz.sizeOf46
  v37 := Tryz.zeroValue46
  t46 := Tryz.underlying181
  a46 := Tryz.isAgg181
  z46 := Tryz.sizeOf181
  v46 := Tryz.zeroValue181
  t51 := Tryz.underlying206
  a51 := Tryz.isAgg206
  z51 := Tryz.sizeOf206
  v51 := Tryz.zeroValue206
  t53 := Tryz.underlying209
  a53 := Tryz.isAgg209
  z53 := Tryz.sizeOf209
  v53 := Tryz.zeroValue209
  t75 := Tryz.underlying113
  a75 := Tryz.isAgg113
  z75 := Tryz.sizeOf113
  v75 := Tryz.zeroValue113
  t76 := Tryz.underlying114
  a76 := Tryz.isAgg114
  z76 := Tryz.sizeOf114
  v76 := Tryz.zeroValue114
  t85 := Tryz.underlying194
  a85 := Tryz.isAgg194
  z85 := Tryz.sizeOf194
  v85 := Tryz.zeroValue194
  t127 := Tryz.underlying212
  a127 := Tryz.isAgg212
  z127 := Tryz.sizeOf212
  v127 := Tryz.zeroValue212
  t143 := Tryz.underlying238
  a143 := Tryz.isAgg238
  z143 := Tryz.sizeOf238
  v143 := Tryz.zeroValue238
  t145 := Tryz.underlying240
  a145 := Tryz.isAgg240
  z145 := Tryz.sizeOf240
  v145 := Tryz.zeroValue240
  t167 := Tryz.underlying193
  a167 := Tryz.isAgg193
  z167 := Tryz.sizeOf193
  v167 := Tryz.zeroValue193
  t168 := Tryz.underlying196
  a168 := Tryz.isAgg196
  z168 := Tryz.sizeOf196
  v168 := Tryz.zeroValue196
  t171 := Tryz.underlying213
  a171 := Tryz.isAgg213
  z171 := Tryz.sizeOf213
  v171 := Tryz.zeroValue213
  t173 := Tryz.underlying216
  a173 := Tryz.isAgg216
  z173 := Tryz.sizeOf216
  v173 := Tryz.zeroValue216
  t175 := Tryz.underlying219
  a175 := Tryz.isAgg219
  z175 := Tryz.sizeOf219
  v175 := Tryz.zeroValue219
  t210 := Tryz.underlying222
  a210 := Tryz.isAgg222
  z210 := Tryz.sizeOf222
  v210 := Tryz.zeroValue222
  t212 := Tryz.underlying230
  a212 := Tryz.isAgg230
  z212 := Tryz.sizeOf230
  v212 := Tryz.zeroValue230
  t213 := Tryz.underlying231
  a213 := Tryz.isAgg231
  z213 := Tryz.sizeOf231
  t232 := Tryz.underlying252
  a232 := Tryz.isAgg252
  z232 := Tryz.sizeOf252
  v232 := Tryz.zeroValue252
  t233 := Tryz.underlying253
  a233 := Tryz.isAgg253
  z233 := Tryz.sizeOf253
  v233 := Tryz.zeroValue253
  g15 := by kernel_rfl
  g16 := by kernel_rfl
  g17 := by kernel_rfl
  g18 := by kernel_rfl
  g19 := by kernel_rfl
end Go.Proofs.YtklnopamfncfgaaGreatDoor
namespace Go.Proofs.YtklnopamfncfgaaGreatDoor
open Go Go.Ab
set_option linter.unusedSectionVars false
variable [Amb]
set_option maxRecDepth 100000
set_option maxHeartbeats 4000000

theorem index_byte (c : UInt8) (s : List UInt8) : Lib.indexByte s c = if c ∈ s then ((befC c s).length : Int) else -1 := by
  rw [← Lib.index_one, index_one]
theorem befC_le (c : UInt8) (s : List UInt8) : (befC c s).length ≤ s.length := (List.takeWhile_sublist _).length_le
theorem befC_lt {c : UInt8} {s : List UInt8} (h : c ∈ s) : (befC c s).length + 1 ≤ s.length := by
  have := congrArg List.length (befC_aft h)
  simp at this; omega
theorem stringslite_Index1 (s : List UInt8) (c : UInt8) : ACalls Tryz.prog 207 [.one (.str s), .one (.str [c])] (.x (.one (.int .i64 (if c ∈ s then ((befC c s).length : Int) else -1)))) := by
  rw [← index_byte]
  refine ACalls.ofKit [.string ⟨s.toArray⟩, .string ⟨[c].toArray⟩] _ (callable_of Tryz.f207 (by kernel_rfl) (by kernel_rfl) rfl) rfl (fun _ _ => repR_int _ _) (fun _ w => ?_)
  refine (Any.stringslite_Index_one { layn221 with } ⟨s.toArray⟩ c w).mono ?_
  rintro e w' ⟨rfl, rfl⟩
  exact ⟨rfl, RowKit.Below.refl _ _⟩
theorem take_bef (c : UInt8) (s : List UInt8) : s.take (befC c s).length = befC c s := by
  conv => rhs; unfold befC
  rw [List.takeWhile_eq_take_findIdx_not]
  congr 1
  unfold befC
  rw [List.takeWhile_eq_take_findIdx_not, List.length_take]
  exact Nat.min_eq_left List.findIdx_le_length
theorem stringslite_Cut1 (s : List UInt8) (c : UInt8) : ACalls Tryz.prog 160 [.one (.str s), .one (.str [c])] (.tup [.one (.str (befC c s)), .one (.str (if c ∈ s then aftC c s else [])), .one (.bool (decide (c ∈ s)))]) := by
  refine ACalls.of mixed (fn := Tryz.f160) (by kernel_rfl) (by kernel_rfl) rfl (by kernel_rfl) (by simp [Tryz.f160]) (fun hok => ?_)
  have hs : s.length ≤ maxLen := by have := hok _ List.mem_cons_self; simpa [XV.ok, CV.ok] using this
  simp -implicitDefEqProofs
  refine ACallK.of (stringslite_Index1 s c) ?_
  by_cases h : c ∈ s
  · have hb := befC_lt h
    have h1 : (0 ≤ ((befC c s).length : Int)) = True := eq_true (by omega)
    have hw : IntKind.i64.wrap (((befC c s).length : Int) + 1) = (((befC c s).length + 1 : Nat) : Int) := by rw [wrapS _ (by unfold maxLen at hs; omega)]; omega
    have h2 : ((befC c s).length ≤ s.length) = True := eq_true (by omega)
    have h3 : ((befC c s).length + 1 ≤ s.length) = True := eq_true (by omega)
    have ht := take_bef c s
    have ha : s.drop ((befC c s).length + 1) = aftC c s := rfl
    simp -implicitDefEqProofs [h, h1, hw, h2, h3, ht, ha]
    exact ⟨by omega, by omega⟩
  · have hn := befC_all h
    simp -implicitDefEqProofs [h, hn]
theorem strings_Cut1 (s : List UInt8) (c : UInt8) : ACalls Tryz.prog 91 [.one (.str s), .one (.str [c])] (.tup [.one (.str (befC c s)), .one (.str (if c ∈ s then aftC c s else [])), .one (.bool (decide (c ∈ s)))]) := by
  refine ACalls.of mixed (fn := Tryz.f91) (by kernel_rfl) (by kernel_rfl) rfl (by kernel_rfl) (by simp [Tryz.f91]) (fun hok => ?_)
  simp -implicitDefEqProofs
  refine ACallK.of (stringslite_Cut1 s c) ?_
  simp -implicitDefEqProofs

theorem flat_strs : ∀ xs : List ByteArray, (((xs.map (·.data.toList)).map fun s => [CV.str s])).flatten = xs.map fun x => CV.str x.data.toList
  | [] => rfl
  | a :: r => by
    have := flat_strs r
    simp only [List.map_cons, List.flatten_cons, this]; rfl
/-- A contract of the kit that hands back a new slice of strings. -/
theorem ofKitStrs {f : FuncId} {args : List XV} (vs : List Value) (xs : List ByteArray) (t : TypeId) (hc : Callable Tryz.prog f) (ha : concs args = some vs)
    (hl : ∀ x ∈ xs, x.data.toList.length ≤ maxLen) (hn : xs.length ≤ maxLen)
    (h : ∀ w, Calls Tryz.prog f vs.toArray w fun e w' => e = .returned (.slice (some ⟨w.heap.size, 0, none⟩) xs.length xs.length) ∧ w' = w.alloc (.cells (xs.map Value.string).toArray t)) :
    ACalls Tryz.prog f args (.x (strs (xs.map (·.data.toList)))) := by
  refine ⟨hc, fun w S us hS hargs => ?_⟩
  have e : us = vs.toArray := by
    have := concs_eq (us := us.toList) (by rw [Array.length_toList]; exact hargs.1) (fun j x hj => by simpa using hargs.2 j x hj) ha
    rw [← this]
  subst e
  refine (h w).mono ?_
  rintro e w' ⟨rfl, rfl⟩
  have hfl := flat_strs xs
  have hlen : ((xs.map (·.data.toList)).map fun s => [CV.str s]).length = xs.length := by simp
  refine ⟨_, rfl, (RowKit.Below.refl _ _).alloc (Nat.le_refl _) _, ?_, fun b hb => by cases hb⟩
  rw [← hlen]
  refine RepC.list ⟨w.heap.size, 0, none⟩ _ 1 _ (fun j => (xs[j]?.map Value.string).getD .nilIface) (Or.inr ⟨Nat.le_refl _, by show _ < (w.heap.push _).size; rw [Array.size_push]; exact Nat.lt_succ_self _⟩) rfl (Nat.le_refl _) (by rw [hlen]; exact hn) (fun x hx => by
    obtain ⟨y, _, rfl⟩ := List.mem_map.1 hx; rfl) (fun j c hj => ?_) (fun j c hj => ?_)
  · rw [hfl, List.getElem?_map] at hj
    obtain ⟨x, hx, _⟩ := Option.map_eq_some_iff.1 hj
    rw [addr_add_lit, World.cell?_alloc_new, hx]
    simp [hx]
  · rw [hfl, List.getElem?_map] at hj
    obtain ⟨x, hx, rfl⟩ := Option.map_eq_some_iff.1 hj
    have hm : x ∈ xs := List.mem_of_getElem? hx
    rw [hx]
    exact RepC.str _ (hl x hm)

theorem splitC_len (c : UInt8) (s : List UInt8) : ∀ y ∈ splitC c s, y.length ≤ s.length := by
  induction s with
  | nil => intro y hy; simp [splitC] at hy; subst hy; simp
  | cons b r ih =>
    intro y hy
    by_cases hb : b = c
    · rw [splitC, if_pos hb] at hy
      rcases List.mem_cons.1 hy with rfl | hy
      · simp
      · have := ih y hy; simp only [List.length_cons]; omega
    · rw [splitC, if_neg hb] at hy
      cases hr : splitC c r with
      | nil => exact absurd hr (splitC_ne c r)
      | cons h t =>
        rw [hr] at hy ih
        rcases List.mem_cons.1 hy with rfl | hy
        · have := ih h List.mem_cons_self; simp only [List.length_cons]; omega
        · have := ih y (List.mem_cons_of_mem _ hy); simp only [List.length_cons]; omega
theorem strings_genSplit1 (s : List UInt8) (c : UInt8) (hs : s.length ≤ 600000) : ACalls Tryz.prog 161 [.one (.str s), .one (.str [c]), .one (.int .i64 0), .one (.int .i64 (-1))] (.x (strs (splitC c s))) := by
  have hcount : s.count c ≤ s.length := List.count_le_length
  have hcb : Lib.countB ⟨s.toArray⟩ ⟨[c].toArray⟩ = s.count c := Lib.count_one c s
  have hsp : (Lib.splitB ⟨[c].toArray⟩ 0 (s.count c) ⟨s.toArray⟩).map (·.data.toList) = splitC c s := by
    rw [Lib.splitB_data]
    exact splitK_eq c _ _ (Nat.le_refl _)
  have hle := Lib.splitB_length_le ⟨[c].toArray⟩ 0 (s.count c) ⟨s.toArray⟩
  have hall := Lib.splitB_all ⟨[c].toArray⟩ (Nat.le_refl 1) 0 _ ⟨s.toArray⟩ hcb
  rw [← hsp]
  have hsub := splitC_len c s
  have hcall : ∀ w, Calls Tryz.prog 161 [Value.string ⟨s.toArray⟩, .string ⟨[c].toArray⟩, .int .i64 0, .int .i64 (-1)].toArray w fun e w' =>
      e = .returned (.slice (some ⟨w.heap.size, 0, none⟩) (s.count c + 1) (s.count c + 1)) ∧ w' = w.alloc (.cells ((Lib.splitB ⟨[c].toArray⟩ 0 (s.count c) ⟨s.toArray⟩).map Value.string).toArray 9) := by
    intro w
    have g := Any.strings_genSplit_core layn221 (by kernel_rfl) ⟨s.toArray⟩ ⟨[c].toArray⟩ 0 (-1) (s.count c + 1) w (by show s.toArray.size < _; simp; omega) (Nat.le_refl 1) (Nat.zero_le _)
      (fun x cs hx => (Any.strings_Index_one { layn221 with } x c _).mono fun e w' ⟨h1, h2⟩ => ⟨by rw [h1]; show _ = Ending.returned (.int .i64 (Lib.index x.data.toList [c])); rw [Lib.index_one], h2⟩)
      ((Any.strings_Count_one { layn221 with } ⟨s.toArray⟩ c w).mono fun e w' ⟨h1, h2⟩ => ⟨by rw [h1, hcb]; rfl, h2⟩)
      (by decide) (by decide) (by rw [if_pos (by decide), hcb]; show _ = min _ ((s.toArray.size : Int) + 1); simp; omega)
    rw [Nat.add_sub_cancel, hall] at g
    have e2 : Lib.cellsOf (Lib.splitB ⟨[c].toArray⟩ 0 (s.count c) ⟨s.toArray⟩) (s.count c + 1) = ((Lib.splitB ⟨[c].toArray⟩ 0 (s.count c) ⟨s.toArray⟩).map Value.string).toArray := by rw [← hall]; exact Lib.cellsOf_full _
    rw [e2] at g
    exact g
  obtain ⟨xs, ex⟩ : ∃ xs, xs = Lib.splitB ⟨[c].toArray⟩ 0 (s.count c) ⟨s.toArray⟩ := ⟨_, rfl⟩
  rw [← ex] at hsp hall hcall ⊢
  refine ofKitStrs [.string ⟨s.toArray⟩, .string ⟨[c].toArray⟩, .int .i64 0, .int .i64 (-1)] xs 9 (callable_of Tryz.f161 (by kernel_rfl) (by kernel_rfl) rfl) rfl (fun x hx => ?_) (by rw [hall]; unfold maxLen; omega) (fun w => by rw [hall]; exact hcall w)
  have := hsub x.data.toList (by rw [← hsp]; exact List.mem_map_of_mem hx)
  unfold maxLen; omega
theorem strings_Split1 (s : List UInt8) (c : UInt8) (hs : s.length ≤ 600000) : ACalls Tryz.prog 93 [.one (.str s), .one (.str [c])] (.x (strs (splitC c s))) := by
  refine ACalls.of mixed (fn := Tryz.f93) (by kernel_rfl) (by kernel_rfl) rfl (by kernel_rfl) (by simp [Tryz.f93]) (fun hok => ?_)
  simp -implicitDefEqProofs
  refine ACallK.of (strings_genSplit1 s c hs) ?_
  simp -implicitDefEqProofs

theorem strconv_Atoi1 (s : List UInt8) (n : Int) (hl : s.length ≤ 18) (h : Lib.atoi s = some n) : ACalls Tryz.prog 72 [.one (.str s)] (.tup [.one (.int .i64 n), .one (.atom .nilIface)]) := by
  refine ACalls.ofKit [.string ⟨s.toArray⟩] (.tuple #[.int .i64 n, .nilIface]) (callable_of Tryz.f72 (by kernel_rfl) (by kernel_rfl) rfl) rfl (fun w S => ?_) (fun _ w => ?_)
  · refine ⟨_, rfl, rfl, fun j x hj => ?_⟩
    match j, hj with
    | 0, hj => cases hj; exact ⟨_, rfl, RepC.int _ _⟩
    | 1, hj => cases hj; exact ⟨_, rfl, RepC.atom _ rfl⟩
    | j + 2, hj => simp at hj
  refine (Any.strconv_Atoi layn172 ⟨s.toArray⟩ n (by show s.toArray.size ≤ 18; simpa using hl) h w).mono ?_
  rintro e w' ⟨rfl, t, rfl⟩
  exact ⟨rfl, Lib.bytesWorld_below _ _ _⟩
end Go.Proofs.YtklnopamfncfgaaGreatDoor
namespace Go.Proofs.YtklnopamfncfgaaGreatDoor
open Go Go.Ab
set_option linter.unusedSectionVars false
variable [Amb]
set_option maxRecDepth 100000
set_option maxHeartbeats 4000000

/-! ### Bytes -/
theorem letB_eq (c : UInt8) : letB c = ((decide (97 ≤ c.toNat) && decide (c.toNat ≤ 122)) || (decide (65 ≤ c.toNat) && decide (c.toNat ≤ 90))) := rfl
abbrev byteX (c : UInt8) : XV := .one (.int .u8 c.toNat)
theorem address_isLetter (c : UInt8) : ACalls Tryz.prog 197 [byteX c] (.x (.one (.bool (letB c)))) := by
  refine ACalls.of mixed (fn := Tryz.f197) (by kernel_rfl) (by kernel_rfl) rfl (by kernel_rfl) (by simp [Tryz.f197]) (fun hok => ?_)
  simp -implicitDefEqProofs
  refine ⟨by omega, ?_⟩
  rw [Bool.eq_iff_iff]
  simp only [letB, Bool.or_eq_true, Bool.and_eq_true, decide_eq_true_eq]
  omega
theorem address_isDigit (c : UInt8) : ACalls Tryz.prog 136 [byteX c] (.x (.one (.bool (isDig c)))) := by
  refine ACalls.of mixed (fn := Tryz.f136) (by kernel_rfl) (by kernel_rfl) rfl (by kernel_rfl) (by simp [Tryz.f136]) (fun hok => ?_)
  simp -implicitDefEqProofs
  rw [Bool.eq_iff_iff]
  simp only [isDig, Bool.or_eq_true, Bool.and_eq_true, decide_eq_true_eq]
  omega
theorem address_isHex (c : UInt8) : ACalls Tryz.prog 213 [byteX c] (.x (.one (.bool (hexC c)))) := by
  refine ACalls.of mixed (fn := Tryz.f213) (by kernel_rfl) (by kernel_rfl) rfl (by kernel_rfl) (by simp [Tryz.f213]) (fun hok => ?_)
  simp -implicitDefEqProofs
  refine ACallK.of (address_isDigit c) ?_
  cases h0 : isDig c
  · simp -implicitDefEqProofs
    rw [Bool.eq_iff_iff]
    simp only [hexC, h0, Bool.false_or, Bool.or_eq_true, Bool.and_eq_true, decide_eq_true_eq]
    omega
  · simp -implicitDefEqProofs
    try simp [hexC, h0]
theorem ref1_letter (c : UInt8) : ACalls Tryz.prog 200 [byteX c] (.x (.one (.bool (letB c)))) := by
  refine ACalls.of mixed (fn := Tryz.f200) (by kernel_rfl) (by kernel_rfl) rfl (by kernel_rfl) (by simp [Tryz.f200]) (fun hok => ?_)
  simp -implicitDefEqProofs
  refine ⟨by omega, ?_⟩
  rw [Bool.eq_iff_iff]
  simp only [letB, Bool.or_eq_true, Bool.and_eq_true, decide_eq_true_eq]
  omega
theorem ref1_digit (c : UInt8) : ACalls Tryz.prog 184 [byteX c] (.x (.one (.bool (isDig c)))) := by
  refine ACalls.of mixed (fn := Tryz.f184) (by kernel_rfl) (by kernel_rfl) rfl (by kernel_rfl) (by simp [Tryz.f184]) (fun hok => ?_)
  simp -implicitDefEqProofs
  rw [Bool.eq_iff_iff]
  simp only [isDig, Bool.or_eq_true, Bool.and_eq_true, decide_eq_true_eq]
  omega
theorem ref1_hex (c : UInt8) : ACalls Tryz.prog 227 [byteX c] (.x (.one (.bool (hexC c)))) := by
  refine ACalls.of mixed (fn := Tryz.f227) (by kernel_rfl) (by kernel_rfl) rfl (by kernel_rfl) (by simp [Tryz.f227]) (fun hok => ?_)
  simp -implicitDefEqProofs
  refine ACallK.of (ref1_digit c) ?_
  cases h0 : isDig c
  · simp -implicitDefEqProofs
    rw [Bool.eq_iff_iff]
    simp only [hexC, h0, Bool.false_or, Bool.or_eq_true, Bool.and_eq_true, decide_eq_true_eq]
    omega
  · simp -implicitDefEqProofs
    try simp [hexC, h0]
/-! ### Small letters -/
theorem smallC_nat (c : UInt8) : ((smallC c).toNat : Int) = if 65 ≤ c.toNat ∧ c.toNat ≤ 90 then (c.toNat : Int) + 32 else c.toNat := by
  have : ∀ c : UInt8, ((smallC c).toNat : Int) = if 65 ≤ c.toNat ∧ c.toNat ≤ 90 then (c.toNat : Int) + 32 else c.toNat := u8_all (by decide +kernel)
  exact this c
def halfL (s : List UInt8) (i : Nat) : List UInt8 := smallL (s.take i) ++ s.drop i
@[simp] theorem halfL_len (s : List UInt8) (i : Nat) : (halfL s i).length = s.length := by
  unfold halfL smallL
  rw [List.length_append, List.length_map, ← List.length_append, List.take_append_drop]
theorem halfL_zero (s : List UInt8) : halfL s 0 = s := by simp [halfL, smallL]
theorem halfL_full (s : List UInt8) : halfL s s.length = smallL s := by simp [halfL]
theorem halfL_at {s : List UInt8} {i : Nat} (h : i < s.length) : (halfL s i)[i]'(by simpa using h) = s[i] := by
  have hl : (smallL (s.take i)).length = i := by simp [smallL]; omega
  unfold halfL
  rw [List.getElem_append_right (by omega)]
  simp [hl]
theorem halfL_step {s : List UInt8} {i : Nat} (h : i < s.length) : halfL s (i + 1) = (halfL s i).set i (smallC s[i]) := by
  have hl : (smallL (s.take i)).length = i := by simp [smallL]; omega
  have e : smallL (s.take (i + 1)) = smallL (s.take i) ++ [smallC s[i]] := by
    show (s.take (i + 1)).map smallC = _
    rw [List.take_add_one, List.getElem?_eq_getElem h, List.map_append]; rfl
  unfold halfL
  rw [e, List.set_append_right _ _ (by omega), hl, Nat.sub_self, List.drop_eq_getElem_cons h, List.set_cons_zero]
  simp
theorem byteRows_set (l : List UInt8) (i : Nat) (c : UInt8) : (byteRows l).set i (byteRow c) = byteRows (l.set i c) := by
  unfold byteRows; rw [List.map_set]
theorem set_same {l : List UInt8} {i : Nat} (h : i < l.length) : l.set i l[i] = l := List.set_getElem_self h
theorem strB_rows (l : List UInt8) : strB (byteRows l) = l := by
  unfold strB byteRows
  rw [List.map_map]
  have : (cellB ∘ byteRow) = id := by funext b; simp [cellB, byteRow]
  rw [this, List.map_id]
theorem okB_rows (l : List UInt8) : okB (byteRows l) := by
  intro x hx
  obtain ⟨b, _, rfl⟩ := List.mem_map.1 hx
  exact ⟨_, rfl⟩
end Go.Proofs.YtklnopamfncfgaaGreatDoor
namespace Go.Proofs.YtklnopamfncfgaaGreatDoor
open Go Go.Ab
set_option linter.unusedSectionVars false
variable [Amb]
set_option maxRecDepth 100000
set_option maxHeartbeats 4000000

theorem byteRows_at {l : List UInt8} {i : Nat} (h : i < l.length) : (byteRows l)[i]? = some (byteRow l[i]) := by simp [byteRows, h]
theorem rows_at {l : List UInt8} {i : Nat} (h : i < (byteRows l).length) : (byteRows l)[i] = byteRow (l[i]'(by simpa [byteRows] using h)) := by simp [byteRows]
theorem rows_len (l : List UInt8) : (byteRows l).length = l.length := by simp [byteRows]
theorem address_Small (s : List UInt8) : ACalls Tryz.prog 97 [.one (.str s)] (.x (.one (.str (smallL s)))) := by
  refine ACalls.of mixed (fn := Tryz.f97) (by kernel_rfl) (by kernel_rfl) rfl (by kernel_rfl) (by simp [Tryz.f97]) (fun hok => ?_)
  have hl : s.length ≤ maxLen := by simpa [XV.ok, CV.ok] using hok
  have hR := rows_len
  have hR0 := halfL_len s
  simp -implicitDefEqProofs [hR]
  refine ALoopS.of Nat (fun i => [(3, .own 5 1 (byteRows (halfL s i))), (8, .alias 3), (9, .x (.one (.int .i64 s.length))), (10, .x (.one (.int .i64 i)))]) (fun i => i ≤ s.length) (fun i => s.length - i) 0 (Nat.zero_le _) ?_ ?_
  · simp [halfL_zero]
  intro i hi
  by_cases hlt : i < s.length
  · have hlt' : ((i : Int) < (s.length : Int)) = True := eq_true (by omega)
    have hwr : IntKind.i64.wrap ((i : Int) + 1) = (i : Int) + 1 := wrapS _ (by unfold maxLen at hl; omega)
    have hat : ∀ h, (byteRows (halfL s i))[i]'h = byteRow s[i] := fun h => by rw [rows_at, halfL_at hlt]
    have hst := halfL_step hlt
    by_cases hc : 65 ≤ s[i].toNat ∧ s[i].toNat ≤ 90
    · have c1 : (65 ≤ (s[i].toNat : Int)) = True := eq_true (by omega)
      have c2 : ((s[i].toNat : Int) ≤ 90) = True := eq_true (by omega)
      have hw : IntKind.u8.wrap (IntKind.u8.wrap ((s[i].toNat : Int) + 97) - 65) = ((smallC s[i]).toNat : Int) := by
        rw [smallC_nat, if_pos hc]; simp [IntKind.wrap, IntKind.signed, IntKind.bits]; omega
      simp -implicitDefEqProofs [hlt, hlt', hR, hat, c1, c2, hw]
      refine Again.of (i + 1) hlt (by omega) ?_
      have hst2 : byteRows (halfL s (i + 1)) = (byteRows (halfL s i)).set i (byteRow (smallC s[i])) := by rw [hst, byteRows_set]
      simp [hst2, hwr]
    · have hsame : smallC s[i] = s[i] := by unfold smallC; rw [if_neg hc]
      have hst' : halfL s (i + 1) = halfL s i := by
        rw [hst, hsame, ← halfL_at hlt, set_same]
      by_cases h1 : 65 ≤ s[i].toNat
      · have c1 : (65 ≤ (s[i].toNat : Int)) = True := eq_true (by omega)
        have c2 : ((s[i].toNat : Int) ≤ 90) = False := eq_false (by omega)
        simp -implicitDefEqProofs [hlt, hlt', hR, hat, c1, c2]
        refine Again.of (i + 1) hlt (by omega) ?_
        simp [hst', hwr]
      · have c1 : (65 ≤ (s[i].toNat : Int)) = False := eq_false (by omega)
        simp -implicitDefEqProofs [hlt, hlt', hR, hat, c1]
        refine Again.of (i + 1) hlt (by omega) ?_
        simp [hst', hwr]
  · have hlt' : ((i : Int) < (s.length : Int)) = False := eq_false (by omega)
    have hi' : i = s.length := by omega
    subst hi'
    have ho := okB_rows (smallL s)
    have hb := strB_rows (smallL s)
    have hf := halfL_full s
    have hsl : (smallL s).length = s.length := by simp [smallL]
    simp -implicitDefEqProofs [hlt', hf, ho, hb, hsl, hR]
theorem ref1_Small (s : List UInt8) : ACalls Tryz.prog 171 [.one (.str s)] (.x (.one (.str (smallL s)))) := by
  refine ACalls.of mixed (fn := Tryz.f171) (by kernel_rfl) (by kernel_rfl) rfl (by kernel_rfl) (by simp [Tryz.f171]) (fun hok => ?_)
  have hl : s.length ≤ maxLen := by simpa [XV.ok, CV.ok] using hok
  have hR := rows_len
  have hR0 := halfL_len s
  simp -implicitDefEqProofs [hR]
  refine ALoopS.of Nat (fun i => [(3, .own 5 1 (byteRows (halfL s i))), (4, .x (.one (.int .i64 i)))]) (fun i => i ≤ s.length) (fun i => s.length - i) 0 (Nat.zero_le _) ?_ ?_
  · simp [halfL_zero]
  intro i hi
  by_cases hlt : i < s.length
  · have hlt' : ((i : Int) < (s.length : Int)) = True := eq_true (by omega)
    have hwr : IntKind.i64.wrap ((i : Int) + 1) = (i : Int) + 1 := wrapS _ (by unfold maxLen at hl; omega)
    have hat : ∀ h, (byteRows (halfL s i))[i]'h = byteRow s[i] := fun h => by rw [rows_at, halfL_at hlt]
    have hst := halfL_step hlt
    by_cases hc : 65 ≤ s[i].toNat ∧ s[i].toNat ≤ 90
    · have c1 : (65 ≤ (s[i].toNat : Int)) = True := eq_true (by omega)
      have c2 : ((s[i].toNat : Int) ≤ 90) = True := eq_true (by omega)
      have hw : IntKind.u8.wrap ((s[i].toNat : Int) + 32) = ((smallC s[i]).toNat : Int) := by
        rw [smallC_nat, if_pos hc]; simp [IntKind.wrap, IntKind.signed, IntKind.bits]; omega
      simp -implicitDefEqProofs [hlt, hlt', hR, hat, c1, c2, hw]
      refine Again.of (i + 1) hlt (by omega) ?_
      have hst2 : byteRows (halfL s (i + 1)) = (byteRows (halfL s i)).set i (byteRow (smallC s[i])) := by rw [hst, byteRows_set]
      simp [hst2, hwr]
    · have hsame : smallC s[i] = s[i] := by unfold smallC; rw [if_neg hc]
      have hst' : halfL s (i + 1) = halfL s i := by
        rw [hst, hsame, ← halfL_at hlt, set_same]
      by_cases h1 : 65 ≤ s[i].toNat
      · have c1 : (65 ≤ (s[i].toNat : Int)) = True := eq_true (by omega)
        have c2 : ((s[i].toNat : Int) ≤ 90) = False := eq_false (by omega)
        simp -implicitDefEqProofs [hlt, hlt', hR, hat, c1, c2]
        refine Again.of (i + 1) hlt (by omega) ?_
        simp [hst', hwr]
      · have c1 : (65 ≤ (s[i].toNat : Int)) = False := eq_false (by omega)
        simp -implicitDefEqProofs [hlt, hlt', hR, hat, c1]
        refine Again.of (i + 1) hlt (by omega) ?_
        simp [hst', hwr]
  · have hlt' : ((i : Int) < (s.length : Int)) = False := eq_false (by omega)
    have hi' : i = s.length := by omega
    subst hi'
    have ho := okB_rows (smallL s)
    have hb := strB_rows (smallL s)
    have hf := halfL_full s
    have hsl : (smallL s).length = s.length := by simp [smallL]
    simp -implicitDefEqProofs [hlt', hf, ho, hb, hsl, hR]

/-! ### Labels and hosts -/
theorem labelB_get {s : List UInt8} (h : 0 < s.length) : labelB s = (decide (s.length ≤ 63) && ((decide (s[0] ≠ 45) && decide (s[s.length - 1] ≠ 45)) && s.all labC)) := by
  have h1 : s.head? = some s[0] := by rw [List.head?_eq_getElem?, List.getElem?_eq_getElem h]
  have h2 : s.getLast? = some s[s.length - 1] := by rw [List.getLast?_eq_getElem?, List.getElem?_eq_getElem (by omega)]
  unfold labelB
  rw [h1, h2]
  have : decide (1 ≤ s.length) = true := by simp; omega
  rw [this]
  simp
theorem u8_int {c : UInt8} (n : Nat) (hn : n < 256) : ((c.toNat : Int) = n) ↔ c = UInt8.ofNat n := by
  rw [← UInt8.toNat_inj, UInt8.toNat_ofNat_of_lt' (by simp [UInt8.size]; omega)]; omega
theorem address_isLabel (s : List UInt8) : ACalls Tryz.prog 168 [.one (.str s)] (.x (.one (.bool (labelB s)))) := by
  refine ACalls.of mixed (fn := Tryz.f168) (by kernel_rfl) (by kernel_rfl) rfl (by kernel_rfl) (by simp [Tryz.f168]) (fun hok => ?_)
  by_cases h0 : s.length = 0
  · have : s = [] := List.eq_nil_of_length_eq_zero h0
    subst this
    simp -implicitDefEqProofs
    rfl
  have hp : 0 < s.length := by omega
  rw [labelB_get hp]
  have g1 : ((s.length : Int) < 1) = False := eq_false (by omega)
  by_cases h63 : s.length ≤ 63
  rotate_left
  · have g2 : (63 < (s.length : Int)) = True := eq_true (by omega)
    have g2n : (63 < s.length) = True := eq_true (by omega)
    have h63' : decide (s.length ≤ 63) = false := by simp; omega
    rw [h63', Bool.false_and]
    simp -implicitDefEqProofs [g1, g2, g2n, hp]
  have g2 : (63 < (s.length : Int)) = False := eq_false (by omega)
  have g2n : (63 < s.length) = False := eq_false (by omega)
  have hw : IntKind.i64.wrap ((s.length : Int) - 1) = ((s.length - 1 : Nat) : Int) := by rw [wrapS _ (by omega)]; omega
  have hlast : s.length - 1 < s.length := by omega
  have h63' : decide (s.length ≤ 63) = true := by simp; omega
  rw [h63', Bool.true_and]
  by_cases a0 : s[0] = 45
  · have e0 : ((s[0].toNat : Int) = 45) = True := eq_true ((u8_int 45 (by omega)).2 a0)
    have e0' : decide (s[0] ≠ 45) = false := by simp [a0]
    rw [e0', Bool.false_and, Bool.false_and]
    simp -implicitDefEqProofs [g1, g2, g2n, hp, e0]
  have e0 : ((s[0].toNat : Int) = 45) = False := eq_false (fun h => a0 ((u8_int 45 (by omega)).1 h))
  have e0' : decide (s[0] ≠ 45) = true := by simp [a0]
  rw [e0', Bool.true_and]
  by_cases a1 : s[s.length - 1] = 45
  · have e1 : ((s[s.length - 1].toNat : Int) = 45) = True := eq_true ((u8_int 45 (by omega)).2 a1)
    have e1' : decide (s[s.length - 1] ≠ 45) = false := by simp [a1]
    rw [e1', Bool.false_and]
    simp -implicitDefEqProofs [g1, g2, g2n, hp, e0, e1, hw, hlast]
  have e1 : ((s[s.length - 1].toNat : Int) = 45) = False := eq_false (fun h => a1 ((u8_int 45 (by omega)).1 h))
  have e1' : decide (s[s.length - 1] ≠ 45) = true := by simp [a1]
  rw [e1', Bool.true_and]
  simp -implicitDefEqProofs [g1, g2, g2n, hp, e0, e1, hw, hlast]
  refine ALoopS.of Nat (fun i => [(0, .x (.one (.str s))), (26, .x (.one (.int .i64 s.length))), (27, .x (.one (.int .i64 i)))]) (Upto labC s) (fun i => s.length - i) 0 Upto.zero ?_ ?_
  · simp
  intro i hi
  by_cases hlt : i < s.length
  · have hlt' : ((i : Int) < (s.length : Int)) = True := eq_true (by omega)
    have hwr : IntKind.i64.wrap ((i : Int) + 1) = (i : Int) + 1 := wrapS _ (by omega)
    simp -implicitDefEqProofs [hlt, hlt']
    refine ACallK.of (address_isLetter s[i]) ?_
    simp -implicitDefEqProofs [hlt, hlt']
    refine ACallGS.of (fun _ => address_isDigit s[i]) rfl ?_
    cases b0 : letB s[i]
    · cases b1 : isDig s[i]
      · by_cases b2 : s[i] = 45
        · have e2 : ((s[i].toNat : Int) = 45) = True := eq_true ((u8_int 45 (by omega)).2 b2)
          simp -implicitDefEqProofs [hlt, hlt', e2, hwr]
          refine Again.of (i + 1) (hi.step hlt (by simp [labC, b2])) (by omega) (by simp [hwr])
        · have e2 : ((s[i].toNat : Int) = 45) = False := eq_false (fun h => b2 ((u8_int 45 (by omega)).1 h))
          have hb : labC s[i] = false := by simp [labC, b0, b1, b2]
          rw [all_bad hlt hb]
          simp -implicitDefEqProofs [hlt, hlt', e2, hwr]
      · simp -implicitDefEqProofs [hlt, hlt', hwr]
        refine Again.of (i + 1) (hi.step hlt (by simp [labC, b1])) (by omega) (by simp [hwr])
    · simp -implicitDefEqProofs [hlt, hlt', hwr]
      refine Again.of (i + 1) (hi.step hlt (by simp [labC, b0])) (by omega) (by simp [hwr])
  · have hlt' : ((i : Int) < (s.length : Int)) = False := eq_false (by omega)
    rw [hi.done hlt]
    simp -implicitDefEqProofs [hlt, hlt']
theorem ref1_isLabel (s : List UInt8) : ACalls Tryz.prog 183 [.one (.str s)] (.x (.one (.bool (labelB s)))) := by
  refine ACalls.of mixed (fn := Tryz.f183) (by kernel_rfl) (by kernel_rfl) rfl (by kernel_rfl) (by simp [Tryz.f183]) (fun hok => ?_)
  by_cases h0 : s.length = 0
  · have : s = [] := List.eq_nil_of_length_eq_zero h0
    subst this
    simp -implicitDefEqProofs
    rfl
  have hp : 0 < s.length := by omega
  have hs0 : ¬ s = [] := by rintro rfl; exact h0 rfl
  rw [labelB_get hp]
  have g1 : ((s.length : Int) < 1) = False := eq_false (by omega)
  by_cases h63 : s.length ≤ 63
  rotate_left
  · have g2 : (63 < (s.length : Int)) = True := eq_true (by omega)
    have g2n : (63 < s.length) = True := eq_true (by omega)
    have h63' : decide (s.length ≤ 63) = false := by simp; omega
    rw [h63', Bool.false_and]
    simp -implicitDefEqProofs [hs0, g1, g2, g2n, hp]
  have g2 : (63 < (s.length : Int)) = False := eq_false (by omega)
  have g2n : (63 < s.length) = False := eq_false (by omega)
  have hw : IntKind.i64.wrap ((s.length : Int) - 1) = ((s.length - 1 : Nat) : Int) := by rw [wrapS _ (by omega)]; omega
  have hlast : s.length - 1 < s.length := by omega
  have h63' : decide (s.length ≤ 63) = true := by simp; omega
  rw [h63', Bool.true_and]
  by_cases a0 : s[0] = 45
  · have e0 : ((s[0].toNat : Int) = 45) = True := eq_true ((u8_int 45 (by omega)).2 a0)
    have e0' : decide (s[0] ≠ 45) = false := by simp [a0]
    rw [e0', Bool.false_and, Bool.false_and]
    simp -implicitDefEqProofs [hs0, g1, g2, g2n, hp, e0]
  have e0 : ((s[0].toNat : Int) = 45) = False := eq_false (fun h => a0 ((u8_int 45 (by omega)).1 h))
  have e0' : decide (s[0] ≠ 45) = true := by simp [a0]
  rw [e0', Bool.true_and]
  by_cases a1 : s[s.length - 1] = 45
  · have e1 : ((s[s.length - 1].toNat : Int) = 45) = True := eq_true ((u8_int 45 (by omega)).2 a1)
    have e1' : decide (s[s.length - 1] ≠ 45) = false := by simp [a1]
    rw [e1', Bool.false_and]
    simp -implicitDefEqProofs [hs0, g1, g2, g2n, hp, e0, e1, hw, hlast]
  have e1 : ((s[s.length - 1].toNat : Int) = 45) = False := eq_false (fun h => a1 ((u8_int 45 (by omega)).1 h))
  have e1' : decide (s[s.length - 1] ≠ 45) = true := by simp [a1]
  rw [e1', Bool.true_and]
  simp -implicitDefEqProofs [hs0, g1, g2, g2n, hp, e0, e1, hw, hlast]
  refine ALoopS.of Nat (fun i => [(0, .x (.one (.str s))), (3, .x (.one (.int .i64 i)))]) (Upto labC s) (fun i => s.length - i) 0 Upto.zero ?_ ?_
  · simp
  intro i hi
  by_cases hlt : i < s.length
  · have hlt' : ((i : Int) < (s.length : Int)) = True := eq_true (by omega)
    have hwr : IntKind.i64.wrap ((i : Int) + 1) = (i : Int) + 1 := wrapS _ (by omega)
    simp -implicitDefEqProofs [hlt, hlt']
    refine ACallK.of (ref1_letter s[i]) ?_
    simp -implicitDefEqProofs [hlt, hlt']
    refine ACallGS.of (fun _ => ref1_digit s[i]) rfl ?_
    cases b0 : letB s[i]
    · cases b1 : isDig s[i]
      · by_cases b2 : s[i] = 45
        · have e2 : ((s[i].toNat : Int) = 45) = True := eq_true ((u8_int 45 (by omega)).2 b2)
          simp -implicitDefEqProofs [hlt, hlt', e2, hwr]
          refine Again.of (i + 1) (hi.step hlt (by simp [labC, b2])) (by omega) (by simp [hwr])
        · have e2 : ((s[i].toNat : Int) = 45) = False := eq_false (fun h => b2 ((u8_int 45 (by omega)).1 h))
          have hb : labC s[i] = false := by simp [labC, b0, b1, b2]
          rw [all_bad hlt hb]
          simp -implicitDefEqProofs [hlt, hlt', e2, hwr]
      · simp -implicitDefEqProofs [hlt, hlt', hwr]
        refine Again.of (i + 1) (hi.step hlt (by simp [labC, b1])) (by omega) (by simp [hwr])
    · simp -implicitDefEqProofs [hlt, hlt', hwr]
      refine Again.of (i + 1) (hi.step hlt (by simp [labC, b0])) (by omega) (by simp [hwr])
  · have hlt' : ((i : Int) < (s.length : Int)) = False := eq_false (by omega)
    rw [hi.done hlt]
    simp -implicitDefEqProofs [hlt, hlt']
end Go.Proofs.YtklnopamfncfgaaGreatDoor
namespace Go.Proofs.YtklnopamfncfgaaGreatDoor
open Go Go.Ab
set_option linter.unusedSectionVars false
variable [Amb]
set_option maxRecDepth 100000
set_option maxHeartbeats 4000000

theorem hostB_eq {s : List UInt8} (h : s.length ≤ 253) : hostB s = (splitC 46 s).all labelB := by
  unfold hostB; simp [h]
theorem hostB_long {s : List UInt8} (h : ¬ s.length ≤ 253) : hostB s = false := by
  unfold hostB; simp; omega
theorem address_isHost (s : List UInt8) : ACalls Tryz.prog 98 [.one (.str s)] (.x (.one (.bool (hostB s)))) := by
  refine ACalls.of mixed (fn := Tryz.f98) (by kernel_rfl) (by kernel_rfl) rfl (by kernel_rfl) (by simp [Tryz.f98]) (fun hok => ?_)
  by_cases h : s.length ≤ 253
  rotate_left
  · rw [hostB_long h]
    have g : (253 < (s.length : Int)) = True := eq_true (by omega)
    have g' : (253 < s.length) = True := eq_true (by omega)
    simp -implicitDefEqProofs [g, g']
  rw [hostB_eq h]
  have g : (253 < (s.length : Int)) = False := eq_false (by omega)
  have g' : (253 < s.length) = False := eq_false (by omega)
  simp -implicitDefEqProofs [g, g']
  refine ACallK.of (strings_Split1 s 46 (by omega)) ?_
  have hc := splitC_count 46 s
  generalize splitC 46 s = w at hc
  simp -implicitDefEqProofs
  refine ALoopS.of Nat (fun i => [(9, .x (strs w)), (10, .x (.one (.int .i64 w.length))), (11, .x (.one (.int .i64 i)))]) (Upto labelB w) (fun i => w.length - i) 0 Upto.zero ?_ ?_
  · simp
  intro i hi
  by_cases hlt : i < w.length
  · have hlt' : ((i : Int) < (w.length : Int)) = True := eq_true (by omega)
    have hwr : IntKind.i64.wrap ((i : Int) + 1) = (i : Int) + 1 := wrapS _ (by omega)
    simp -implicitDefEqProofs [hlt, hlt']
    refine ACallK.of (address_isLabel w[i]) ?_
    cases b : labelB w[i]
    · rw [all_bad hlt b]
      simp -implicitDefEqProofs
    · simp -implicitDefEqProofs
      refine Again.of (i + 1) (hi.step hlt b) (by omega) (by simp [hwr])
  · have hlt' : ((i : Int) < (w.length : Int)) = False := eq_false (by omega)
    rw [hi.done hlt]
    simp -implicitDefEqProofs [hlt, hlt']
theorem ref1_IsHost (s : List UInt8) : ACalls Tryz.prog 116 [.one (.str s)] (.x (.one (.bool (hostB s)))) := by
  refine ACalls.of mixed (fn := Tryz.f116) (by kernel_rfl) (by kernel_rfl) rfl (by kernel_rfl) (by simp [Tryz.f116]) (fun hok => ?_)
  by_cases h : s.length ≤ 253
  rotate_left
  · rw [hostB_long h]
    have g : (253 < (s.length : Int)) = True := eq_true (by omega)
    have g' : (253 < s.length) = True := eq_true (by omega)
    simp -implicitDefEqProofs [g, g']
  rw [hostB_eq h]
  have g : (253 < (s.length : Int)) = False := eq_false (by omega)
  have g' : (253 < s.length) = False := eq_false (by omega)
  simp -implicitDefEqProofs [g, g']
  refine ACallK.of (strings_Split1 s 46 (by omega)) ?_
  have hc := splitC_count 46 s
  generalize splitC 46 s = w at hc
  simp -implicitDefEqProofs
  refine ALoopS.of Nat (fun i => [(3, .x (strs w)), (4, .x (.one (.int .i64 i)))]) (Upto labelB w) (fun i => w.length - i) 0 Upto.zero ?_ ?_
  · simp
  intro i hi
  by_cases hlt : i < w.length
  · have hlt' : ((i : Int) < (w.length : Int)) = True := eq_true (by omega)
    have hwr : IntKind.i64.wrap ((i : Int) + 1) = (i : Int) + 1 := wrapS _ (by omega)
    simp -implicitDefEqProofs [hlt, hlt']
    refine ACallK.of (ref1_isLabel w[i]) ?_
    cases b : labelB w[i]
    · rw [all_bad hlt b]
      simp -implicitDefEqProofs
    · simp -implicitDefEqProofs
      refine Again.of (i + 1) (hi.step hlt b) (by omega) (by simp [hwr])
  · have hlt' : ((i : Int) < (w.length : Int)) = False := eq_false (by omega)
    rw [hi.done hlt]
    simp -implicitDefEqProofs [hlt, hlt']

/-! ### Ports -/
theorem decV_le {s : List UInt8} (h : s.all isDig = true) (h2 : s.length ≤ 5) : decV s < 100000 := by
  have := decV_lt s h
  have : 10 ^ s.length ≤ 10 ^ 5 := Nat.pow_le_pow_right (by omega) h2
  omega
theorem decV_take {s : List UInt8} {i : Nat} (h : i < s.length) : decV (s.take (i + 1)) = decV (s.take i) * 10 + (s[i].toNat - 48) := by
  rw [List.take_add_one, List.getElem?_eq_getElem h]
  exact decV_snoc _ _
abbrev digCt : List UInt8 := [48, 49, 50, 51, 52, 53, 54, 55, 56, 57]
theorem digCt_dig (b : UInt8) : digCt.contains b = isDig b := by
  have : ∀ b : UInt8, digCt.contains b = isDig b := u8_all (by decide +kernel)
  exact this b
theorem trim_digt (s : List UInt8) : (Lib.trimS s digCt = []) ↔ s.all isDig = true := by
  rw [trimS_nil]
  have : (fun b => digCt.contains b) = isDig := funext digCt_dig
  rw [this]
theorem address_portOf (s : List UInt8) : ACalls Tryz.prog 99 [.one (.str s)] (.x (.one (.int .i64 (portV s)))) := by
  refine ACalls.of mixed (fn := Tryz.f99) (by kernel_rfl) (by kernel_rfl) rfl (by kernel_rfl) (by simp [Tryz.f99]) (fun hok => ?_)
  by_cases h0 : s.length = 0
  · have : s = [] := List.eq_nil_of_length_eq_zero h0
    subst this
    simp -implicitDefEqProofs
    refine ACallGS.of (fun h => by cases h) (r := .x (.one (.str []))) rfl ?_
    simp -implicitDefEqProofs
    rfl
  have g1 : ((s.length : Int) < 1) = False := eq_false (by omega)
  by_cases h5 : s.length ≤ 5
  rotate_left
  · have g2 : (5 < (s.length : Int)) = True := eq_true (by omega)
    have g2n : (5 < s.length) = True := eq_true (by omega)
    have hv : portV s = 0 := by unfold portV; rw [if_neg (fun h => h5 h.2.1)]
    rw [hv]
    simp -implicitDefEqProofs [g1, g2, g2n]
    refine ACallGS.of (fun h => by simp at h) (r := .x (.one (.str []))) rfl ?_
    simp -implicitDefEqProofs [g1, g2, g2n]
  have g2 : (5 < (s.length : Int)) = False := eq_false (by omega)
  have g2n : (5 < s.length) = False := eq_false (by omega)
  simp -implicitDefEqProofs [g1, g2, g2n]
  refine ACallGS.of (fun _ => strings_Trim s digCt (by decide) (by decide)) rfl ?_
  by_cases hd : s.all isDig = true
  rotate_left
  · have ht : ¬ Lib.trimS s digCt = [] := fun h => hd ((trim_digt s).1 h)
    have hv : portV s = 0 := by unfold portV; rw [if_neg (fun h => hd h.2.2.1)]
    rw [hv]
    simp -implicitDefEqProofs [g1, g2, g2n, ht]
  have ht := (trim_digt s).2 hd
  have hlt := decV_le hd h5
  have hm := fun i => Nat.le_trans (Nat.le_of_lt_succ (Nat.lt_succ_of_lt (decV_lt (s.take i) (by rw [List.all_eq_true] at hd ⊢; exact fun x hx => hd x (List.mem_of_mem_take hx))))) (Nat.pow_le_pow_right (show 1 ≤ 10 by omega) (show (s.take i).length ≤ 5 by rw [List.length_take]; omega))
  simp -implicitDefEqProofs [g1, g2, g2n, ht]
  refine ALoopS.of Nat (fun i => [(0, .x (.one (.str s))), (3, .x (.one (.int .i64 (decV (s.take i))))), (19, .x (.one (.int .i64 s.length))), (20, .x (.one (.int .i64 i)))]) (fun i => i ≤ s.length) (fun i => s.length - i) 0 (Nat.zero_le _) ?_ ?_
  · simp [decV]
  intro i hi
  by_cases hlt : i < s.length
  · have hlt' : ((i : Int) < (s.length : Int)) = True := eq_true (by omega)
    have hwr : IntKind.i64.wrap ((i : Int) + 1) = (i : Int) + 1 := wrapS _ (by omega)
    have hdi : isDig s[i] = true := List.all_eq_true.1 hd _ (List.getElem_mem hlt)
    simp only [isDig, Bool.and_eq_true, decide_eq_true_eq] at hdi
    have hmi := hm i
    have hst := decV_take hlt
    have w1 : IntKind.i64.wrap (10 * (decV (s.take i) : Int)) = 10 * (decV (s.take i) : Int) := wrapS _ (by omega)
    have w2 : IntKind.u8.wrap ((s[i].toNat : Int) - 48) = ((s[i].toNat - 48 : Nat) : Int) := by simp [IntKind.wrap, IntKind.signed, IntKind.bits]; omega
    have w3 : IntKind.i64.wrap ((s[i].toNat - 48 : Nat) : Int) = ((s[i].toNat - 48 : Nat) : Int) := wrapS _ (by omega)
    have w4 : IntKind.i64.wrap (10 * (decV (s.take i) : Int) + ((s[i].toNat - 48 : Nat) : Int)) = ((decV (s.take (i + 1)) : Nat) : Int) := by rw [wrapS _ (by omega), hst]; omega
    simp -implicitDefEqProofs [hlt, hlt', w1, w2, w3, w4]
    refine Again.of (i + 1) hlt (by omega) (by simp [hwr])
  · have hlt' : ((i : Int) < (s.length : Int)) = False := eq_false (by omega)
    rw [show s.take i = s from List.take_of_length_le (by omega)]
    by_cases hb : decV s ≤ 65535
    · have g3 : (65535 < (decV s : Int)) = False := eq_false (by omega)
      have g3n : (65535 < decV s) = False := eq_false (by omega)
      have hv : portV s = decV s := by unfold portV; rw [if_pos ⟨by omega, h5, hd, hb⟩]
      rw [hv]
      simp -implicitDefEqProofs [hlt, hlt', g3, g3n]
    · have g3 : (65535 < (decV s : Int)) = True := eq_true (by omega)
      have g3n : (65535 < decV s) = True := eq_true (by omega)
      have hv : portV s = 0 := by unfold portV; rw [if_neg (fun h => hb h.2.2.2)]
      rw [hv]
      simp -implicitDefEqProofs [hlt, hlt', g3, g3n]
theorem ref1_isPort (s : List UInt8) : ACalls Tryz.prog 117 [.one (.str s)] (.x (.one (.bool (decide (portV s ≠ 0))))) := by
  refine ACalls.of mixed (fn := Tryz.f117) (by kernel_rfl) (by kernel_rfl) rfl (by kernel_rfl) (by simp [Tryz.f117]) (fun hok => ?_)
  by_cases h0 : s.length = 0
  · have : s = [] := List.eq_nil_of_length_eq_zero h0
    subst this
    simp -implicitDefEqProofs
    rfl
  have hs0 : ¬ s = [] := by rintro rfl; exact h0 rfl
  by_cases h5 : s.length ≤ 5
  rotate_left
  · have g2 : (5 < (s.length : Int)) = True := eq_true (by omega)
    have g2n : (5 < s.length) = True := eq_true (by omega)
    have hv : portV s = 0 := by unfold portV; rw [if_neg (fun h => h5 h.2.1)]
    rw [hv]
    simp -implicitDefEqProofs [hs0, g2, g2n]
  have g2 : (5 < (s.length : Int)) = False := eq_false (by omega)
  have g2n : (5 < s.length) = False := eq_false (by omega)
  simp -implicitDefEqProofs [hs0, g2, g2n]
  refine ALoopS.of Nat (fun i => [(0, .x (.one (.str s))), (3, .x (.one (.int .i64 i)))]) (Upto isDig s) (fun i => s.length - i) 0 Upto.zero ?_ ?_
  · simp
  intro i hi
  by_cases hlt : i < s.length
  · have hlt' : ((i : Int) < (s.length : Int)) = True := eq_true (by omega)
    have hwr : IntKind.i64.wrap ((i : Int) + 1) = (i : Int) + 1 := wrapS _ (by omega)
    simp -implicitDefEqProofs [hlt, hlt']
    refine ACallK.of (ref1_digit s[i]) ?_
    cases b : isDig s[i]
    · have hv : portV s = 0 := by unfold portV; rw [if_neg (fun h => by have := h.2.2.1; rw [all_bad hlt b] at this; cases this)]
      rw [hv]
      simp -implicitDefEqProofs
    · simp -implicitDefEqProofs
      refine Again.of (i + 1) (hi.step hlt b) (by omega) (by simp [hwr])
  · have hlt' : ((i : Int) < (s.length : Int)) = False := eq_false (by omega)
    have hd := hi.done hlt
    simp -implicitDefEqProofs [hlt, hlt']
    refine ACallK.of (strconv_Atoi1 s _ (by omega) (atoi_eq hd hs0)) ?_
    have hlt5 := decV_le hd h5
    have hv : portV s = if decV s ≤ 65535 then decV s else 0 := by
      unfold portV
      by_cases hb : decV s ≤ 65535
      · rw [if_pos ⟨by omega, h5, hd, hb⟩, if_pos hb]
      · rw [if_neg (fun h => hb h.2.2.2), if_neg hb]
    by_cases hb : decV s ≤ 65535
    · rw [hv, if_pos hb]
      have g3 : ((decV s : Int) ≤ 65535) = True := eq_true (by omega)
      by_cases hz : decV s = 0
      · have g4 : (1 ≤ (decV s : Int)) = False := eq_false (by omega)
        simp -implicitDefEqProofs [g3, g4, hz]
      · have g4 : (1 ≤ (decV s : Int)) = True := eq_true (by omega)
        simp -implicitDefEqProofs [g3, g4, hz]
    · rw [hv, if_neg hb]
      have g3 : ((decV s : Int) ≤ 65535) = False := eq_false (by omega)
      have g4 : (1 ≤ (decV s : Int)) = True := eq_true (by omega)
      simp -implicitDefEqProofs [g3, g4]
end Go.Proofs.YtklnopamfncfgaaGreatDoor
namespace Go.Proofs.YtklnopamfncfgaaGreatDoor
open Go Go.Ab
set_option linter.unusedSectionVars false
variable [Amb]
set_option maxRecDepth 100000
set_option maxHeartbeats 4000000

/-! ### Rows -/
def atByte (s : List UInt8) (c : UInt8) : Int := if c ∈ s then ((befC c s).length : Int) else -1
theorem atByte_in {s : List UInt8} {c : UInt8} (h : s.contains c = true) : 0 ≤ atByte s c := by
  unfold atByte; rw [if_pos (by simpa using h)]; omega
theorem atByte_no {s : List UInt8} {c : UInt8} (h : s.contains c = false) : atByte s c = -1 := by
  unfold atByte; rw [if_neg (by intro hm; rw [List.contains_iff_mem.2 hm] at h; cases h)]
theorem strings_IndexByte (s : List UInt8) (c : UInt8) : ACalls Tryz.prog 62 [.one (.str s), byteX c] (.x (.one (.int .i64 (atByte s c)))) := by
  unfold atByte
  rw [← index_byte]
  refine ACalls.ofKit [.string ⟨s.toArray⟩, .int .u8 c.toNat] _ (callable_of Tryz.f62 (by kernel_rfl) (by kernel_rfl) rfl) rfl (fun _ _ => repR_int _ _) (fun _ w => ?_)
  refine (Any.strings_IndexByte { layn160 with } ⟨s.toArray⟩ c.toNat w).mono ?_
  rintro e w' ⟨rfl, rfl⟩
  have : (c.toNat : Int).toNat.toUInt8 = c := by simp
  rw [this]
  exact ⟨rfl, RowKit.Below.refl _ _⟩
structure RowAt (w s : List UInt8) (i : Nat) : Prop where
  le : i ≤ s.length
  eq : rowEndL w s = (i + (rowEndL w (s.drop i)).1, (rowEndL w (s.drop i)).2)
theorem RowAt.zero (w s : List UInt8) : RowAt w s 0 := ⟨Nat.zero_le _, by simp⟩
theorem RowAt.step {w s : List UInt8} {i : Nat} (h : RowAt w s i) (hlt : i < s.length) (h1 : w.contains s[i] = false) (h2 : rowC s[i] = true) (h3 : s[i] = 37 → hex2 (s.drop (i + 1)) = true) : RowAt w s (i + 1) := by
  refine ⟨hlt, ?_⟩
  rw [h.eq, List.drop_eq_getElem_cons hlt, rowEndL_cons h1 h2 h3]
  simp only
  congr 1; omega
theorem RowAt.hit {w s : List UInt8} {i : Nat} (h : RowAt w s i) (hlt : i < s.length) (h1 : w.contains s[i] = true) : rowEndL w s = (i, true) := by
  rw [h.eq, List.drop_eq_getElem_cons hlt, rowEndL, if_pos h1]; rfl
theorem RowAt.bad {w s : List UInt8} {i : Nat} (h : RowAt w s i) (hlt : i < s.length) (h1 : w.contains s[i] = false) (h2 : rowC s[i] = false ∨ (s[i] = 37 ∧ hex2 (s.drop (i + 1)) = false)) : rowEndL w s = (i, false) := by
  rw [h.eq, List.drop_eq_getElem_cons hlt, rowEndL, if_neg (by rw [h1]; decide), if_pos h2]; rfl
theorem RowAt.done {w s : List UInt8} {i : Nat} (h : RowAt w s i) (hge : ¬ i < s.length) : rowEndL w s = (s.length, true) := by
  have : i = s.length := by have := h.le; omega
  rw [h.eq, this, List.drop_length]; rfl
theorem hex2_at (s : List UInt8) (i : Nat) : hex2 (s.drop (i + 1)) = if h : i + 2 < s.length then hexC s[i + 1] && hexC s[i + 2] else false := by
  by_cases h : i + 2 < s.length
  · rw [dif_pos h, List.drop_eq_getElem_cons (by omega), List.drop_eq_getElem_cons (by omega)]; rfl
  · rw [dif_neg h]
    by_cases h1 : i + 1 < s.length
    · rw [List.drop_eq_getElem_cons h1, List.drop_eq_nil_of_le (by omega)]; rfl
    · rw [List.drop_eq_nil_of_le (by omega)]; rfl
/-- Two hexadecimal digits are passed at once. -/
theorem RowAt.three {w s : List UInt8} {i : Nat} (hw : ∀ c, w.contains c = true → hexC c = false) (h : RowAt w s i) (hlt : i + 2 < s.length) (h1 : w.contains (s[i]'(by omega)) = false) (h2 : rowC (s[i]'(by omega)) = true) (a : hexC (s[i + 1]'(by omega)) = true) (b : hexC s[i + 2] = true) : RowAt w s (i + 3) := by
  have hx : ∀ c, hexC c = true → w.contains c = false := fun c hc => by
    cases hq : w.contains c with
    | false => rfl
    | true => rw [hw c hq] at hc; cases hc
  have s1 := h.step (by omega) h1 h2 (fun _ => by rw [hex2_at, dif_pos hlt, a, b]; rfl)
  have s2 := s1.step (by omega) (hx _ a) (hexC_row a).1 (fun e => absurd e (hexC_row a).2.1)
  exact s2.step (by omega) (hx _ b) (hexC_row b).1 (fun e => absurd e (hexC_row b).2.1)
theorem rowC_split (c : UInt8) : rowC c = true ↔ (¬ c.toNat < 33 ∧ ¬ 126 < c.toNat) ∧ badCs.contains c = false := by
  unfold rowC
  cases badCs.contains c <;> simp
theorem u8_37 {c : UInt8} : ((c.toNat : Int) = 37) ↔ c = 37 := u8_int 37 (by omega)
theorem address_rowEnd (s w : List UInt8) (hs : s.length ≤ 4000000000000000) (hw : ∀ c, w.contains c = true → hexC c = false) : ACalls Tryz.prog 169 [.one (.str s), .one (.str w)] (.tup [.one (.int .i64 (rowEndL w s).1), .one (.bool (rowEndL w s).2)]) := by
  refine ACalls.of mixed (fn := Tryz.f169) (by kernel_rfl) (by kernel_rfl) rfl (by kernel_rfl) (by simp [Tryz.f169]) (fun hok => ?_)
  obtain ⟨R, eR⟩ : ∃ R, R = rowEndL w s := ⟨_, rfl⟩
  rw [← eR]
  simp -implicitDefEqProofs
  refine ALoopS.of Nat (fun i => [(0, .x (.one (.str s))), (1, .x (.one (.str w))), (6, .x (.one (.int .i64 i)))]) (RowAt w s) (fun i => s.length - i) 0 (RowAt.zero w s) ?_ ?_
  · simp
  intro i hi
  by_cases hlt : i < s.length
  rotate_left
  · have hlt' : ((i : Int) < (s.length : Int)) = False := eq_false (by omega)
    rw [hi.done hlt] at eR
    subst eR
    simp -implicitDefEqProofs [hlt, hlt']
  have hlt' : ((i : Int) < (s.length : Int)) = True := eq_true (by omega)
  have hwr : IntKind.i64.wrap ((i : Int) + 1) = (i : Int) + 1 := wrapS _ (by omega)
  simp -implicitDefEqProofs [hlt, hlt']
  refine ACallK.of (strings_IndexByte w s[i]) ?_
  cases hin : w.contains s[i]
  rotate_left
  · have g : (0 ≤ atByte w s[i]) = True := eq_true (atByte_in hin)
    rw [hi.hit hlt hin] at eR
    subst eR
    simp -implicitDefEqProofs [g]
  have hno := atByte_no hin
  simp -implicitDefEqProofs [hno]
  by_cases hr : rowC s[i] = true
  rotate_left
  · have hr' : rowC s[i] = false := by simpa using hr
    rw [hi.bad hlt hin (.inl hr')] at eR
    subst eR
    by_cases c1 : s[i].toNat < 33
    · have c1' : ((s[i].toNat : Int) < 33) = True := eq_true (by omega)
      simp -implicitDefEqProofs [c1', c1]
      refine ACallGS.of (fun h => by cases h) (r := .x (.one (.int .i64 0))) rfl ?_
      simp -implicitDefEqProofs [c1', c1]
    · have c1' : ((s[i].toNat : Int) < 33) = False := eq_false (by omega)
      by_cases c2 : 126 < s[i].toNat
      · have c2' : (126 < (s[i].toNat : Int)) = True := eq_true (by omega)
        simp -implicitDefEqProofs [c1', c1, c2', c2]
        refine ACallGS.of (fun h => by cases h) (r := .x (.one (.int .i64 0))) rfl ?_
        simp -implicitDefEqProofs [c1', c1, c2', c2]
      · have c2' : (126 < (s[i].toNat : Int)) = False := eq_false (by omega)
        have hb : badCs.contains s[i] = true := by
          cases hb : badCs.contains s[i] with
          | true => rfl
          | false => exact absurd ((rowC_split _).2 ⟨⟨c1, c2⟩, hb⟩) hr
        have g : (0 ≤ atByte [34, 35, 60, 62, 92, 94, 123, 124, 125, 96] s[i]) = True := eq_true (atByte_in hb)
        simp -implicitDefEqProofs [c1', c1, c2', c2]
        refine ACallGS.of (fun _ => strings_IndexByte [34, 35, 60, 62, 92, 94, 123, 124, 125, 96] s[i]) rfl ?_
        simp -implicitDefEqProofs [g]
  obtain ⟨⟨c1, c2⟩, hb⟩ := (rowC_split _).1 hr
  have c1' : ((s[i].toNat : Int) < 33) = False := eq_false (by omega)
  have c2' : (126 < (s[i].toNat : Int)) = False := eq_false (by omega)
  have hb0 : atByte [34, 35, 60, 62, 92, 94, 123, 124, 125, 96] s[i] = -1 := atByte_no hb
  simp -implicitDefEqProofs [c1', c1, c2', c2]
  refine ACallGS.of (fun _ => strings_IndexByte [34, 35, 60, 62, 92, 94, 123, 124, 125, 96] s[i]) rfl ?_
  by_cases h37 : s[i] = 37
  rotate_left
  · have e : ((s[i].toNat : Int) = 37) = False := eq_false (fun h => h37 (u8_37.1 h))
    simp -implicitDefEqProofs [hb0, c1', c2', e]
    refine Again.of (i + 1) (hi.step hlt hin hr (fun e => absurd e h37)) (by omega) (by simp [hwr])
  have e : ((s[i].toNat : Int) = 37) = True := eq_true (u8_37.2 h37)
  have w2 : IntKind.i64.wrap ((i : Int) + 2) = (i : Int) + 2 := wrapS _ (by omega)
  by_cases h2 : i + 2 < s.length
  rotate_left
  · have g2 : ((s.length : Int) ≤ (i : Int) + 2) = True := eq_true (by omega)
    rw [hi.bad hlt hin (.inr ⟨h37, by rw [hex2_at, dif_neg h2]⟩)] at eR
    subst eR
    simp -implicitDefEqProofs [hb0, c1', c2', e, w2, g2]
    refine ACallGS.of (fun h => by cases h) (r := .x (.one (.bool false))) rfl ?_
    simp -implicitDefEqProofs [g2]
    refine ACallGS.of (fun h => by cases h) (r := .x (.one (.bool false))) rfl ?_
    simp -implicitDefEqProofs [g2]
  have g2 : ((s.length : Int) ≤ (i : Int) + 2) = False := eq_false (by omega)
  have q1 : i + 1 < s.length := by omega
  have q1' : ((i : Int) + 1 < (s.length : Int)) = True := eq_true (by omega)
  have q2' : ((i : Int) + 2 < (s.length : Int)) = True := eq_true (by omega)
  have p1 : (0 ≤ (i : Int) + 1) = True := eq_true (by omega)
  have p2 : (0 ≤ (i : Int) + 2) = True := eq_true (by omega)
  have n1 : ((i : Int) + 1).toNat = i + 1 := by omega
  have n2 : ((i : Int) + 2).toNat = i + 2 := by omega
  simp -implicitDefEqProofs [hb0, c1', c2', e, w2, hwr, g2, q1, q1', q2', h2, p1, p2, n1, n2]
  refine ACallGS.of (fun _ => address_isHex s[i + 1]) rfl ?_
  cases x1 : hexC s[i + 1]
  · rw [hi.bad hlt hin (.inr ⟨h37, by rw [hex2_at, dif_pos h2, x1]; rfl⟩)] at eR
    subst eR
    simp -implicitDefEqProofs [w2, hwr, g2, q1, q1', q2', h2, p1, p2, n1, n2]
    refine ACallGS.of (fun h => by cases h) (r := .x (.one (.bool false))) rfl ?_
    simp -implicitDefEqProofs
  · simp -implicitDefEqProofs [w2, hwr, g2, q1, q1', q2', h2, p1, p2, n1, n2]
    refine ACallGS.of (fun _ => address_isHex s[i + 2]) rfl ?_
    cases x2 : hexC s[i + 2]
    · rw [hi.bad hlt hin (.inr ⟨h37, by rw [hex2_at, dif_pos h2, x2]; simp⟩)] at eR
      subst eR
      simp -implicitDefEqProofs [w2, hwr, g2]
    · have w3 : IntKind.i64.wrap ((i : Int) + 2 + 1) = (i : Int) + 3 := by rw [wrapS _ (by omega)]; omega
      simp -implicitDefEqProofs [w2, hwr, g2]
      refine Again.of (i + 3) (hi.three hw h2 hin hr x1 x2) (by omega) (by simp [w3])
end Go.Proofs.YtklnopamfncfgaaGreatDoor
namespace Go.Proofs.YtklnopamfncfgaaGreatDoor
open Go Go.Ab
set_option linter.unusedSectionVars false
variable [Amb]
set_option maxRecDepth 100000
set_option maxHeartbeats 4000000

theorem address_IsRow (s w : List UInt8) (hs : s.length ≤ 4000000000000000) (hw : ∀ c, w.contains c = true → hexC c = false) : ACalls Tryz.prog 100 [.one (.str s), .one (.str w)] (.x (.one (.bool (rowB w s)))) := by
  refine ACalls.of mixed (fn := Tryz.f100) (by kernel_rfl) (by kernel_rfl) rfl (by kernel_rfl) (by simp [Tryz.f100]) (fun hok => ?_)
  simp -implicitDefEqProofs
  refine ACallK.of (address_rowEnd s w hs hw) ?_
  unfold rowB
  cases h : (rowEndL w s).2
  · simp -implicitDefEqProofs
  · simp -implicitDefEqProofs
    rw [Bool.eq_iff_iff]; simp
    omega
theorem ref1_rowByte (c : UInt8) : ACalls Tryz.prog 226 [byteX c] (.x (.one (.bool (rowC c)))) := by
  refine ACalls.of mixed (fn := Tryz.f226) (by kernel_rfl) (by kernel_rfl) rfl (by kernel_rfl) (by simp [Tryz.f226]) (fun hok => ?_)
  by_cases c1 : 33 ≤ c.toNat
  rotate_left
  · have c1' : (33 ≤ (c.toNat : Int)) = False := eq_false (by omega)
    have hr : rowC c = false := by unfold rowC; simp [c1]
    rw [hr]
    simp -implicitDefEqProofs [c1', c1]
    refine ACallGS.of (fun h => by cases h) (r := .x (.one (.int .i64 0))) rfl ?_
    simp -implicitDefEqProofs [c1', c1]
  have c1' : (33 ≤ (c.toNat : Int)) = True := eq_true (by omega)
  by_cases c2 : c.toNat ≤ 126
  rotate_left
  · have c2' : ((c.toNat : Int) ≤ 126) = False := eq_false (by omega)
    have hr : rowC c = false := by unfold rowC; simp [c2]
    rw [hr]
    simp -implicitDefEqProofs [c1', c1, c2', c2]
    refine ACallGS.of (fun h => by cases h) (r := .x (.one (.int .i64 0))) rfl ?_
    simp -implicitDefEqProofs [c1', c1, c2', c2]
  have c2' : ((c.toNat : Int) ≤ 126) = True := eq_true (by omega)
  by_cases c3 : c = 96
  · have c3' : ((c.toNat : Int) = 96) = True := eq_true ((u8_int 96 (by omega)).2 c3)
    have c3n : ((c.toNat : Int) != 96) = false := by rw [bne_eq_false_iff_eq]; exact (u8_int 96 (by omega)).2 c3
    have hr : rowC c = false := by subst c3; decide
    rw [hr]
    simp -implicitDefEqProofs [c1', c1, c2', c2, c3', c3n]
    refine ACallGS.of (fun h => by cases h) (r := .x (.one (.int .i64 0))) rfl ?_
    simp -implicitDefEqProofs [c1', c1, c2', c2, c3', c3n]
  have c3' : ((c.toNat : Int) = 96) = False := eq_false (fun h => c3 ((u8_int 96 (by omega)).1 h))
  have hr : rowC c = !([34, 35, 60, 62, 92, 94, 123, 124, 125] : List UInt8).contains c := by
    have hb : badCs.contains c = ([34, 35, 60, 62, 92, 94, 123, 124, 125] : List UInt8).contains c := by
      unfold badCs; simp [c3]
    unfold rowC
    rw [hb]
    simp [c1, c2]
  rw [hr]
  simp -implicitDefEqProofs [c1', c1, c2', c2, c3']
  refine ACallGS.of (fun _ => strings_IndexByte [34, 35, 60, 62, 92, 94, 123, 124, 125] c) rfl ?_
  cases hin : ([34, 35, 60, 62, 92, 94, 123, 124, 125] : List UInt8).contains c
  · have g : atByte [34, 35, 60, 62, 92, 94, 123, 124, 125] c = -1 := atByte_no hin
    simp -implicitDefEqProofs [g, c3']
  · have g : (atByte [34, 35, 60, 62, 92, 94, 123, 124, 125] c < 0) = False := eq_false (by have := atByte_in hin; omega)
    simp -implicitDefEqProofs [g]
def badI (w s : List UInt8) : Int := if rowB w s = true then -1 else (rowEndL w s).1
theorem badI_of {w s : List UInt8} {i : Nat} {b : Bool} (h : rowEndL w s = (i, b)) (hi : i < s.length) : badI w s = i := by
  unfold badI rowB
  rw [h, if_neg (by simp; omega)]
theorem badI_no {w s : List UInt8} (h : rowEndL w s = (s.length, true)) : badI w s = -1 := by
  unfold badI rowB
  rw [h, if_pos (by simp)]
theorem single_contains {c d : UInt8} : ([c] : List UInt8).contains d = decide (d = c) := by
  by_cases h : d = c <;> simp [h]
theorem ref1_rowBad (s : List UInt8) (c : UInt8) (hs : s.length ≤ 4000000000000000) : ACalls Tryz.prog 185 [.one (.str s), byteX c] (.x (.one (.int .i64 (badI [c] s)))) := by
  refine ACalls.of mixed (fn := Tryz.f185) (by kernel_rfl) (by kernel_rfl) rfl (by kernel_rfl) (by simp [Tryz.f185]) (fun hok => ?_)
  obtain ⟨R, eR⟩ : ∃ R, R = badI [c] s := ⟨_, rfl⟩
  rw [← eR]
  simp -implicitDefEqProofs
  refine ALoopS.of Nat (fun i => [(0, .x (.one (.str s))), (1, .x (byteX c)), (5, .x (.one (.int .i64 i)))]) (RowAt [c] s) (fun i => s.length - i) 0 (RowAt.zero [c] s) ?_ ?_
  · simp
  intro i hi
  by_cases hlt : i < s.length
  rotate_left
  · have hlt' : ((i : Int) < (s.length : Int)) = False := eq_false (by omega)
    rw [badI_no (hi.done hlt)] at eR
    subst eR
    simp -implicitDefEqProofs [hlt, hlt']
  have hlt' : ((i : Int) < (s.length : Int)) = True := eq_true (by omega)
  have hwr : IntKind.i64.wrap ((i : Int) + 1) = (i : Int) + 1 := wrapS _ (by omega)
  simp -implicitDefEqProofs [hlt, hlt']
  refine ACallK.of (ref1_rowByte s[i]) ?_
  by_cases hc : s[i] = c
  · have e : ((s[i].toNat : Int) = (c.toNat : Int)) = True := eq_true (by rw [hc])
    have e2 : (s[i].toNat = c.toNat) = True := eq_true (by rw [hc])
    rw [badI_of (hi.hit hlt (by rw [single_contains]; simp [hc])) hlt] at eR
    subst eR
    simp -implicitDefEqProofs [e, e2, hlt, hlt']
  have e : ((s[i].toNat : Int) = (c.toNat : Int)) = False := eq_false (fun h => hc (by rw [← UInt8.toNat_inj]; omega))
  have e2 : (s[i].toNat = c.toNat) = False := eq_false (fun h => hc (UInt8.toNat_inj.1 h))
  have hin : ([c] : List UInt8).contains s[i] = false := by rw [single_contains]; simp [hc]
  cases hr : rowC s[i]
  · rw [badI_of (hi.bad hlt hin (.inl hr)) hlt] at eR
    subst eR
    simp -implicitDefEqProofs [e, e2]
  by_cases h37 : s[i] = 37
  rotate_left
  · have f : ((s[i].toNat : Int) = 37) = False := eq_false (fun h => h37 (u8_37.1 h))
    have fb : ((s[i].toNat : Int) == 37) = false := by simpa using f
    simp -implicitDefEqProofs [e, e2, f, fb, hlt, hlt']
    refine ACallGS.of (fun h => by cases h) (r := .x (.one (.bool false))) rfl ?_
    simp -implicitDefEqProofs [e, e2, f, fb, hlt, hlt']
    refine ACallGS.of (fun h => by cases h) (r := .x (.one (.bool false))) rfl ?_
    simp -implicitDefEqProofs [e, e2, f, fb, hlt, hlt']
    refine Again.of (i + 1) (hi.step hlt hin hr (fun e => absurd e h37)) (by omega) (by simp [hwr])
  have f : ((s[i].toNat : Int) = 37) = True := eq_true (u8_37.2 h37)
  have fb : ((s[i].toNat : Int) == 37) = true := by simpa using f
  have w2 : IntKind.i64.wrap ((i : Int) + 2) = (i : Int) + 2 := wrapS _ (by omega)
  by_cases h2 : i + 2 < s.length
  rotate_left
  · have g2 : ((s.length : Int) ≤ (i : Int) + 2) = True := eq_true (by omega)
    rw [badI_of (hi.bad hlt hin (.inr ⟨h37, by rw [hex2_at, dif_neg h2]⟩)) hlt] at eR
    subst eR
    simp -implicitDefEqProofs [e, e2, f, fb, w2, g2, hlt, hlt']
    refine ACallGS.of (fun h => by cases h) (r := .x (.one (.bool false))) rfl ?_
    simp -implicitDefEqProofs [f, fb, g2, hr]
    refine ACallGS.of (fun h => by cases h) (r := .x (.one (.bool false))) rfl ?_
    simp -implicitDefEqProofs [f, fb, g2, hr]
  have g2 : ((s.length : Int) ≤ (i : Int) + 2) = False := eq_false (by omega)
  have q1 : i + 1 < s.length := by omega
  have q1' : ((i : Int) + 1 < (s.length : Int)) = True := eq_true (by omega)
  have q2' : ((i : Int) + 2 < (s.length : Int)) = True := eq_true (by omega)
  have p1 : (0 ≤ (i : Int) + 1) = True := eq_true (by omega)
  have p2 : (0 ≤ (i : Int) + 2) = True := eq_true (by omega)
  have n1 : ((i : Int) + 1).toNat = i + 1 := by omega
  have n2 : ((i : Int) + 2).toNat = i + 2 := by omega
  simp -implicitDefEqProofs [e, e2, f, fb, w2, hwr, g2, hlt, hlt', q1, q1', q2', h2, p1, p2, n1, n2]
  refine ACallGS.of (fun _ => ref1_hex s[i + 1]) rfl ?_
  cases x1 : hexC s[i + 1]
  · rw [badI_of (hi.bad hlt hin (.inr ⟨h37, by rw [hex2_at, dif_pos h2, x1]; rfl⟩)) hlt] at eR
    subst eR
    simp -implicitDefEqProofs [f, fb, w2, hwr, g2, q1, q1', q2', h2, p1, p2, n1, n2]
    refine ACallGS.of (fun h => by cases h) (r := .x (.one (.bool false))) rfl ?_
    simp -implicitDefEqProofs
  · simp -implicitDefEqProofs [w2, hwr, g2, q1, q1', q2', h2, p1, p2, n1, n2]
    refine ACallGS.of (fun _ => ref1_hex s[i + 2]) rfl ?_
    cases x2 : hexC s[i + 2]
    · rw [badI_of (hi.bad hlt hin (.inr ⟨h37, by rw [hex2_at, dif_pos h2, x2]; simp⟩)) hlt] at eR
      subst eR
      simp -implicitDefEqProofs [f, fb, w2, hwr, g2]
    · simp -implicitDefEqProofs [w2, hwr, g2]
      refine Again.of (i + 1) (hi.step hlt hin hr (fun _ => by rw [hex2_at, dif_pos h2, x1, x2]; rfl)) (by omega) (by simp [hwr])
theorem rowEndL_zero : ∀ s : List UInt8, (rowEndL [0] s).1 = (rowEndL [] s).1 ∧ rowB [0] s = rowB [] s
  | [] => ⟨rfl, rfl⟩
  | d :: r => by
    have ih := rowEndL_zero r
    by_cases h0 : d = 0
    · subst h0
      have h1 : rowC 0 = false := by decide
      have e1 : rowEndL [0] (0 :: r) = (0, true) := by rw [rowEndL, if_pos (by decide)]
      have e2 : rowEndL [] (0 :: r) = (0, false) := by rw [rowEndL, if_neg (by decide), if_pos (.inl h1)]
      unfold rowB
      rw [e1, e2]
      exact ⟨rfl, by simp⟩
    · by_cases hb : rowC d = false ∨ (d = 37 ∧ hex2 r = false)
      · have e1 : rowEndL [0] (d :: r) = (0, false) := by rw [rowEndL, if_neg (by rw [single_contains]; simp [h0]), if_pos hb]
        have e2 : rowEndL [] (d :: r) = (0, false) := by rw [rowEndL, if_neg (by simp), if_pos hb]
        unfold rowB
        rw [e1, e2]
        exact ⟨rfl, rfl⟩
      · have e1 : rowEndL [0] (d :: r) = ((rowEndL [0] r).1 + 1, (rowEndL [0] r).2) := by rw [rowEndL, if_neg (by rw [single_contains]; simp [h0]), if_neg hb]
        have e2 : rowEndL [] (d :: r) = ((rowEndL [] r).1 + 1, (rowEndL [] r).2) := by rw [rowEndL, if_neg (by simp), if_neg hb]
        unfold rowB at ih ⊢
        rw [e1, e2]
        refine ⟨by simp only; rw [ih.1], ?_⟩
        have := ih.2
        simp only [List.length_cons, Nat.add_right_cancel_iff]
        exact this
theorem badI_neg {w s : List UInt8} : decide (badI w s < 0) = rowB w s := by
  unfold badI
  cases rowB w s
  · simp
  · simp
theorem ref1_IsRow (s : List UInt8) (hs : s.length ≤ 4000000000000000) : ACalls Tryz.prog 119 [.one (.str s)] (.x (.one (.bool (rowB [] s)))) := by
  refine ACalls.of mixed (fn := Tryz.f119) (by kernel_rfl) (by kernel_rfl) rfl (by kernel_rfl) (by simp [Tryz.f119]) (fun hok => ?_)
  simp -implicitDefEqProofs
  refine ACallK.of (ref1_rowBad s 0 hs) ?_
  have := badI_neg (w := [0]) (s := s)
  rw [(rowEndL_zero s).2] at this
  simp -implicitDefEqProofs [this]
theorem ref1_IsPath (s : List UInt8) (hs : s.length ≤ 4000000000000000) : ACalls Tryz.prog 118 [.one (.str s)] (.x (.one (.bool (pathB s)))) := by
  refine ACalls.of mixed (fn := Tryz.f118) (by kernel_rfl) (by kernel_rfl) rfl (by kernel_rfl) (by simp [Tryz.f118]) (fun hok => ?_)
  unfold pathB
  cases s with
  | nil =>
    simp -implicitDefEqProofs
    refine ACallGS.of (fun h => by cases h) (r := .x (.one (.int .i64 0))) rfl ?_
    simp -implicitDefEqProofs
  | cons a r =>
    obtain ⟨s, es⟩ : ∃ s, s = a :: r := ⟨_, rfl⟩
    have hne : ¬ s = [] := by rw [es]; simp
    have hp : 0 < s.length := by rw [es]; simp
    have hd : s.head? = some s[0] := by rw [List.head?_eq_getElem?, List.getElem?_eq_getElem hp]
    rw [← es] at hs ⊢
    rw [hd]
    have hb := badI_neg (w := [63]) (s := s)
    by_cases h47 : s[0] = 47
    · have f : ((s[0].toNat : Int) = 47) = True := eq_true ((u8_int 47 (by omega)).2 h47)
      have fb : ((s[0].toNat : Int) == 47) = true := by simpa using f
      simp -implicitDefEqProofs [hne, hp, f, fb]
      refine ACallGS.of (fun _ => ref1_rowBad s 63 hs) rfl ?_
      simp -implicitDefEqProofs [hne, hp, f, fb, hb, h47]
    · have f : ((s[0].toNat : Int) = 47) = False := eq_false (fun h => h47 ((u8_int 47 (by omega)).1 h))
      have fb : ((s[0].toNat : Int) == 47) = false := by simpa using f
      simp -implicitDefEqProofs [hne, hp, f, fb]
      refine ACallGS.of (fun h => by cases h) (r := .x (.one (.int .i64 0))) rfl ?_
      simp -implicitDefEqProofs [hne, hp, f, fb, h47]
theorem ref1_isScheme (s : List UInt8) : ACalls Tryz.prog 115 [.one (.str s)] (.x (.one (.bool (schemeB s)))) := by
  refine ACalls.of mixed (fn := Tryz.f115) (by kernel_rfl) (by kernel_rfl) rfl (by kernel_rfl) (by simp [Tryz.f115]) (fun hok => ?_)
  simp -implicitDefEqProofs
  refine ACallK.of (ref1_Small s) ?_
  unfold schemeB httpL httpsL
  by_cases h : smallL s = [104, 116, 116, 112]
  · simp -implicitDefEqProofs [h]
    refine ACallGS.of (fun h => by cases h) (r := .x (.one (.str []))) rfl ?_
    simp -implicitDefEqProofs [h]
  · simp -implicitDefEqProofs [h]
    refine ACallGS.of (fun _ => ref1_Small s) rfl ?_
    simp -implicitDefEqProofs [h]
    have h' : (smallL s == [104, 116, 116, 112]) = false := by simpa using h
    rw [h', Bool.false_or, Bool.eq_iff_iff]
    simp
end Go.Proofs.YtklnopamfncfgaaGreatDoor
namespace Go.Proofs.YtklnopamfncfgaaGreatDoor
open Go Go.Ab
set_option linter.unusedSectionVars false
variable [Amb]
set_option maxRecDepth 100000
set_option maxHeartbeats 4000000

/-! ### Addresses written and checked -/
structure Addr.Fit (a : Addr) : Prop where
  scheme : a.scheme.length ≤ 300000000000000
  host : a.host.length ≤ 300000000000000
  port : a.port.length ≤ 300000000000000
  path : a.path.length ≤ 300000000000000
  query : a.query.length ≤ 300000000000000
  frag : a.frag.length ≤ 300000000000000
theorem address_Behind (a : Addr) (h : a.Fit) : ACalls Tryz.prog 113 [.agg a.row] (.x (.one (.str (behindL a)))) := by
  refine ACalls.of mixed (fn := Tryz.f113) (by kernel_rfl) (by kernel_rfl) rfl (by kernel_rfl) (by simp [Tryz.f113]) (fun hok => ?_)
  obtain ⟨sc, ho, po, pa, qu, hq, fr, hf⟩ := a
  obtain ⟨l1, l2, l3, l4, l5, l6⟩ := h
  simp only at l1 l2 l3 l4 l5 l6
  cases hq <;> cases hf
  all_goals
    simp -implicitDefEqProofs [Addr.row, behindL, queryL, fragL]
    try (unfold maxLen; omega)
theorem address_write (a : Addr) (h : a.Fit) : ACalls Tryz.prog 63 [.agg a.row] (.x (.one (.str (writeL a)))) := by
  refine ACalls.of mixed (fn := Tryz.f63) (by kernel_rfl) (by kernel_rfl) rfl (by kernel_rfl) (by simp [Tryz.f63]) (fun hok => ?_)
  have hb := address_Behind a h
  have hbl : (behindL a).length ≤ 1000000000000000 := by
    have := h.path; have := h.query; have := h.frag
    unfold behindL queryL fragL
    split <;> split <;> simp <;> omega
  obtain ⟨l1, l2, l3, l4, l5, l6⟩ := h
  have hrow : a.row = [.str a.scheme, .str a.host, .str a.port, .str a.path, .str a.query, .bool a.hasQ, .str a.frag, .bool a.hasF] := rfl
  have hW : writeL a = a.scheme ++ [58, 47, 47] ++ a.host ++ portL a ++ behindL a := rfl
  generalize writeL a = W at hW
  generalize behindL a = B at hb hbl hW
  unfold portL at hW
  rw [hrow] at hb ⊢
  by_cases hp : a.port = []
  · rw [if_pos hp, List.append_nil] at hW
    subst hW
    simp -implicitDefEqProofs [hp]
    rw [hp] at hb
    refine ⟨by unfold maxLen; omega, by unfold maxLen; omega, ACallK.of hb ?_⟩
    simp -implicitDefEqProofs
    try (unfold maxLen; omega)
  · rw [if_neg hp] at hW
    subst hW
    simp -implicitDefEqProofs [hp]
    refine ⟨by unfold maxLen; omega, by unfold maxLen; omega, by unfold maxLen; omega, by unfold maxLen; omega, ACallK.of hb ?_⟩
    simp -implicitDefEqProofs
    try (unfold maxLen; omega)
theorem ref1_written (a : Addr) (h : a.Fit) : ACalls Tryz.prog 67 [.agg a.row] (.x (.one (.str (writeL a)))) := by
  refine ACalls.of mixed (fn := Tryz.f67) (by kernel_rfl) (by kernel_rfl) rfl (by kernel_rfl) (by simp [Tryz.f67]) (fun hok => ?_)
  obtain ⟨sc, ho, po, pa, qu, hq, fr, hf⟩ := a
  obtain ⟨l1, l2, l3, l4, l5, l6⟩ := h
  simp only at l1 l2 l3 l4 l5 l6
  by_cases hp : po = []
  · subst hp
    cases hq <;> cases hf
    all_goals
      simp -implicitDefEqProofs [Addr.row, writeL, portL, behindL, queryL, fragL]
      try (unfold maxLen; omega)
  · cases hq <;> cases hf
    all_goals
      simp -implicitDefEqProofs [Addr.row, writeL, portL, behindL, queryL, fragL, hp]
      try (unfold maxLen; omega)

theorem addrF_10 {a : Addr} (h : schemeB a.scheme = false ∨ hostB a.host = false ∨ (a.port ≠ [] ∧ portV a.port = 0) ∨ pathB a.path = false ∨ rowB [] a.query = false ∨ rowB [] a.frag = false) : addrF a = 10 := by
  unfold addrF
  by_cases h1 : schemeB a.scheme = false ∨ hostB a.host = false ∨ (a.port ≠ [] ∧ portV a.port = 0)
  · rw [if_pos h1]
  · rw [if_neg h1]
    simp only [not_or] at h1
    have h2 : pathB a.path = false ∨ rowB [] a.query = false ∨ rowB [] a.frag = false := by
      rcases h with h | h | h | h
      · exact absurd h h1.1
      · exact absurd h h1.2.1
      · exact absurd h h1.2.2
      · exact h
    rw [if_pos h2]
theorem addrF_more {a : Addr} (h1 : schemeB a.scheme = true) (h2 : hostB a.host = true) (h3 : ¬ (a.port ≠ [] ∧ portV a.port = 0)) (h4 : pathB a.path = true) (h5 : rowB [] a.query = true) (h6 : rowB [] a.frag = true) :
    addrF a = if (a.query ≠ [] ∧ a.hasQ = false) ∨ (a.frag ≠ [] ∧ a.hasF = false) then 3 else if 2000 < (writeL a).length then 2 else 0 := by
  unfold addrF
  rw [if_neg (by rintro (h | h | h); rw [h1] at h; cases h; rw [h2] at h; cases h; exact h3 h), if_neg (by simp [h4, h5, h6])]
theorem pathB_get {s : List UInt8} (h : 0 < s.length) : pathB s = (decide (s[0] = 47) && rowB [63] s) := by
  have hd : s.head? = some s[0] := by rw [List.head?_eq_getElem?, List.getElem?_eq_getElem h]
  have hne : ¬ s = [] := by rintro rfl; simp at h
  unfold pathB
  rw [hd]
  simp [hne]
theorem one_hex {d : UInt8} (hd : hexC d = false) : ∀ c, ([d] : List UInt8).contains c = true → hexC c = false := by
  intro c h
  rw [single_contains] at h
  have : c = d := by simpa using h
  rw [this]; exact hd
theorem u8_int_ne {c : UInt8} (n : Nat) (hn : n < 256) (h : c ≠ UInt8.ofNat n) : ((c.toNat : Int) = n) = False := eq_false (fun e => h ((u8_int n hn).1 e))
theorem address_CheckAddress (a : Addr) (h : a.Fit) : ACalls Tryz.prog 47 [.agg a.row] (.x (.one (.int .i64 (addrF a)))) := by
  refine ACalls.of mixed (fn := Tryz.f47) (by kernel_rfl) (by kernel_rfl) rfl (by kernel_rfl) (by simp [Tryz.f47]) (fun hok => ?_)
  have hwr := address_write a h
  obtain ⟨l1, l2, l3, l4, l5, l6⟩ := h
  obtain ⟨sc, ho, po, pa, qu, hq, fr, hf⟩ := a
  simp only [Addr.row] at hwr l1 l2 l3 l4 l5 l6 ⊢
  obtain ⟨F, eF⟩ : ∃ F, F = addrF ⟨sc, ho, po, pa, qu, hq, fr, hf⟩ := ⟨_, rfl⟩
  obtain ⟨W, eW⟩ : ∃ W, W = writeL ⟨sc, ho, po, pa, qu, hq, fr, hf⟩ := ⟨_, rfl⟩
  rw [← eF]
  rw [← eW] at hwr
  simp -implicitDefEqProofs
  refine ACallK.of (address_Small sc) ?_
  cases h1 : schemeB sc
  · rw [addrF_10 (.inl h1)] at eF
    unfold schemeB httpL httpsL at h1
    simp only [Bool.or_eq_false_iff, decide_eq_false_iff_not] at h1
    simp -implicitDefEqProofs [h1.1, h1.2]
    exact eF
  have hs : smallL sc = [104, 116, 116, 112] ∨ smallL sc = [104, 116, 116, 112, 115] := by
    unfold schemeB httpL httpsL at h1
    simpa only [Bool.or_eq_true, decide_eq_true_eq] using h1
  have hs1 : (!(smallL sc == [104, 116, 116, 112]) && !(smallL sc == [104, 116, 116, 112, 115])) = false := by
    rcases hs with hs | hs <;> simp [hs]
  have hs2 : smallL sc = [104, 116, 116, 112] ∨ smallL sc = [104, 116, 116, 112, 115] := hs
  clear hs
  simp -implicitDefEqProofs
  refine ⟨fun a b => absurd (hs2.resolve_left a) b, fun _ => ACallK.of (address_isHost ho) ?_⟩
  cases h2 : hostB ho
  · rw [addrF_10 (.inr (.inl h2))] at eF
    simp -implicitDefEqProofs
    exact eF
  by_cases h3 : po ≠ [] ∧ portV po = 0
  · rw [addrF_10 (.inr (.inr (.inl h3)))] at eF
    have h30 := h3.1
    have h31 := h3.2
    simp -implicitDefEqProofs [h30]
    refine ACallGS.of (fun _ => address_portOf po) rfl ?_
    simp -implicitDefEqProofs [h30, h31]
    exact eF
  simp -implicitDefEqProofs
  refine ACallGS.of (fun _ => address_portOf po) rfl ?_
  simp -implicitDefEqProofs
  refine ⟨fun a b => absurd ⟨a, b⟩ h3, fun _ => ?_⟩
  cases pa with
  | nil =>
    simp -implicitDefEqProofs
    refine ACallGS.of (fun _ => address_IsRow [] [63] (by simp) (one_hex (by decide))) rfl ?_
    have hr0 : rowB [63] [] = true := rfl
    simp -implicitDefEqProofs [hr0]
    refine ACallK.of (address_IsRow qu [] (by omega) (fun c h => by simp at h)) ?_
    cases h5 : rowB [] qu
    · rw [addrF_10 (.inr (.inr (.inr (.inr (.inl h5)))))] at eF
      simp -implicitDefEqProofs
      exact eF
    simp -implicitDefEqProofs
    refine ACallK.of (address_IsRow fr [] (by omega) (fun c h => by simp at h)) ?_
    cases h6 : rowB [] fr
    · rw [addrF_10 (.inr (.inr (.inr (.inr (.inr h6)))))] at eF
      simp -implicitDefEqProofs
      exact eF
    rw [addrF_more h1 h2 h3 rfl h5 h6, ← eW] at eF
    cases hq <;> cases hf <;> by_cases q0 : qu = [] <;> by_cases f0 : fr = []
    all_goals
      simp only [q0, f0, ne_eq, not_true_eq_false, not_false_eq_true, false_and, and_false, true_and, and_true, false_or, or_false, true_or, or_true, if_true, if_false, Bool.true_eq_false, Bool.false_eq_true, reduceCtorEq] at eF
      simp -implicitDefEqProofs [q0, f0]
      first
        | exact eF
        | (first
            | exact ACallK.of hwr (by
                by_cases hW : 2000 < W.length
                · rw [if_pos hW] at eF
                  have hW' : (2000 < (W.length : Int)) = True := eq_true (by omega)
                  simp -implicitDefEqProofs [hW, hW']
                  exact eF
                · rw [if_neg hW] at eF
                  have hW' : (2000 < (W.length : Int)) = False := eq_false (by omega)
                  simp -implicitDefEqProofs [hW, hW']
                  exact eF)
            | (simp only [q0, f0] at hwr
               exact ACallK.of hwr (by
                by_cases hW : 2000 < W.length
                · rw [if_pos hW] at eF
                  have hW' : (2000 < (W.length : Int)) = True := eq_true (by omega)
                  simp -implicitDefEqProofs [hW, hW']
                  exact eF
                · rw [if_neg hW] at eF
                  have hW' : (2000 < (W.length : Int)) = False := eq_false (by omega)
                  simp -implicitDefEqProofs [hW, hW']
                  exact eF)))
  | cons c r =>
    by_cases hc : c = 47
    · have fc : ((c.toNat : Int) = 47) = True := eq_true ((u8_int 47 (by omega)).2 hc)
      have fb : ((c.toNat : Int) != 47) = false := by rw [bne_eq_false_iff_eq]; exact (u8_int 47 (by omega)).2 hc
      simp -implicitDefEqProofs [fc, fb]
      refine ACallGS.of (fun _ => address_IsRow (c :: r) [63] (by omega) (one_hex (by decide))) rfl ?_
      cases h4 : rowB [63] (c :: r)
      · rw [addrF_10 (.inr (.inr (.inr (.inl (by rw [pathB_get (by simp)]; simp [h4])))))] at eF
        simp -implicitDefEqProofs [fc, fb]
        exact eF
      simp -implicitDefEqProofs [fc, fb]
      refine ACallK.of (address_IsRow qu [] (by omega) (fun c h => by simp at h)) ?_
      cases h5 : rowB [] qu
      · rw [addrF_10 (.inr (.inr (.inr (.inr (.inl h5)))))] at eF
        simp -implicitDefEqProofs
        exact eF
      simp -implicitDefEqProofs
      refine ACallK.of (address_IsRow fr [] (by omega) (fun c h => by simp at h)) ?_
      cases h6 : rowB [] fr
      · rw [addrF_10 (.inr (.inr (.inr (.inr (.inr h6)))))] at eF
        simp -implicitDefEqProofs
        exact eF
      rw [addrF_more h1 h2 h3 (by rw [pathB_get (by simp), h4]; simp [hc]) h5 h6, ← eW] at eF
      cases hq <;> cases hf <;> by_cases q0 : qu = [] <;> by_cases f0 : fr = []
      all_goals
        simp only [q0, f0, ne_eq, not_true_eq_false, not_false_eq_true, false_and, and_false, true_and, and_true, false_or, or_false, true_or, or_true, if_true, if_false, Bool.true_eq_false, Bool.false_eq_true, reduceCtorEq] at eF
        simp -implicitDefEqProofs [q0, f0]
        first
          | exact eF
          | (first
              | exact ACallK.of hwr (by
                  by_cases hW : 2000 < W.length
                  · rw [if_pos hW] at eF
                    have hW' : (2000 < (W.length : Int)) = True := eq_true (by omega)
                    simp -implicitDefEqProofs [hW, hW']
                    exact eF
                  · rw [if_neg hW] at eF
                    have hW' : (2000 < (W.length : Int)) = False := eq_false (by omega)
                    simp -implicitDefEqProofs [hW, hW']
                    exact eF)
              | (simp only [q0, f0] at hwr
                 exact ACallK.of hwr (by
                  by_cases hW : 2000 < W.length
                  · rw [if_pos hW] at eF
                    have hW' : (2000 < (W.length : Int)) = True := eq_true (by omega)
                    simp -implicitDefEqProofs [hW, hW']
                    exact eF
                  · rw [if_neg hW] at eF
                    have hW' : (2000 < (W.length : Int)) = False := eq_false (by omega)
                    simp -implicitDefEqProofs [hW, hW']
                    exact eF)))
    · have fc := u8_int_ne 47 (by omega) hc
      have fb : ((c.toNat : Int) != 47) = true := by rw [bne_iff_ne]; exact fun e => hc ((u8_int 47 (by omega)).1 e)
      rw [addrF_10 (.inr (.inr (.inr (.inl (by rw [pathB_get (by simp)]; simp [hc])))))] at eF
      simp -implicitDefEqProofs [fc, fb]
      refine ACallGS.of (fun h => by simp at h) (r := .x (.one (.bool false))) rfl ?_
      simp -implicitDefEqProofs [fc, fb]
      exact eF
end Go.Proofs.YtklnopamfncfgaaGreatDoor
namespace Go.Proofs.YtklnopamfncfgaaGreatDoor
open Go Go.Ab

/-! ### What was read is written so -/
theorem comL_small : ∀ (u t : List UInt8), comL u t = u.length → smallL (t.take u.length) = u
  | [], t, _ => by simp [smallL]
  | w :: ws, [], h => by simp [comL] at h
  | w :: ws, a :: t, h => by
    rw [comL] at h
    split at h
    · rename_i hw
      have := comL_small ws t (by simpa using h)
      rw [List.length_cons, List.take_succ_cons]
      show smallC a :: smallL (t.take ws.length) = _
      rw [this, hw]
    · simp at h
theorem schemeR_back {t : List UInt8} {n : Nat} (h : schemeR t = .ok n) : schemeB (t.take n) = true ∧ t = t.take n ++ [58, 47, 47] ++ t.drop (n + 3) := by
  have key : ∀ (u : List UInt8), comL (u ++ [58, 47, 47]) t = u.length + 3 → smallL (t.take u.length) = u ∧ t = t.take u.length ++ [58, 47, 47] ++ t.drop (u.length + 3) := by
    intro u hu
    have h1 := comL_small (u ++ [58, 47, 47]) t (by simpa using hu)
    have hl : (t.take (u.length + 3)).length = u.length + 3 := by
      have := congrArg List.length h1
      simpa [smallL] using this
    have hs : t.take (u.length + 3) = t.take u.length ++ (t.drop u.length).take 3 := List.take_add
    have hl2 : ((t.drop u.length).take 3).length = 3 := by
      rw [List.length_take] at hl
      rw [List.length_take, List.length_drop]; omega
    have h1' : smallL (t.take u.length) ++ smallL ((t.drop u.length).take 3) = u ++ [58, 47, 47] := by
      rw [List.length_append] at h1
      rw [show u.length + ([58, 47, 47] : List UInt8).length = u.length + 3 from rfl, hs] at h1
      simpa [smallL] using h1
    have hu1 : (smallL (t.take u.length)).length = u.length := by
      rw [List.length_take] at hl
      simp [smallL]; omega
    obtain ⟨g1, g2⟩ := List.append_inj h1' hu1
    refine ⟨g1, ?_⟩
    have g3 : (t.drop u.length).take 3 = [58, 47, 47] := by
      match (t.drop u.length).take 3, hl2, g2 with
      | [a, b, c], _, g2 =>
        simp [smallL] at g2
        rw [small_58 a g2.1, small_47 b g2.2.1, small_47 c g2.2.2]
    rw [← g3, ← hs, List.take_append_drop]
  unfold schemeR at h
  split at h
  · injection h with h; subst h
    rename_i hc
    obtain ⟨g1, g2⟩ := key httpL hc
    exact ⟨by unfold schemeB; rw [show (4 : Nat) = httpL.length from rfl, g1]; rfl, g2⟩
  · split at h
    · injection h with h; subst h
      rename_i hc
      obtain ⟨g1, g2⟩ := key httpsL hc
      exact ⟨by unfold schemeB; rw [show (5 : Nat) = httpsL.length from rfl, g1]; rfl, g2⟩
    · cases h
theorem take_takeWhile (p : UInt8 → Bool) : ∀ s : List UInt8, s = s.takeWhile p ++ s.drop (s.takeWhile p).length
  | [] => rfl
  | a :: r => by
    by_cases h : p a = true
    · rw [List.takeWhile_cons_of_pos h, List.length_cons, List.drop_succ_cons, List.cons_append, ← take_takeWhile p r]
    · rw [List.takeWhile_cons_of_neg h]; rfl
theorem placeR_back {s : List UInt8} (h : (placeR s).1 = true) : hostB (placeR s).2.2.1 = true ∧ ((placeR s).2.2.2 ≠ [] → portV (placeR s).2.2.2 ≠ 0) ∧ endB (s.drop (placeR s).2.1) = true ∧
    s = (placeR s).2.2.1 ++ (if (placeR s).2.2.2 = [] then [] else 58 :: (placeR s).2.2.2) ++ s.drop (placeR s).2.1 := by
  unfold placeR at h ⊢
  obtain ⟨x, ex⟩ : ∃ x, x = s.takeWhile hostC := ⟨_, rfl⟩
  obtain ⟨p, ep⟩ : ∃ p, p = (s.drop (x.length + 1)).takeWhile isDig := ⟨_, rfl⟩
  have hx := take_takeWhile hostC s
  have hp := take_takeWhile isDig (s.drop (x.length + 1))
  rw [← ex] at hx
  rw [← ep] at hp
  simp only [← ex] at h ⊢
  simp only [← ep] at h ⊢
  by_cases h1 : hostB x = false
  · rw [if_pos h1] at h; cases h
  rw [if_neg h1] at h
  simp only [if_neg h1]
  by_cases h2 : (s.drop x.length).head? = some 58
  · rw [if_pos h2] at h
    simp only [if_pos h2]
    by_cases h3 : portV p = 0
    · rw [if_pos h3] at h; cases h
    · rw [if_neg h3] at h
      simp only [if_neg h3]
      have hp0 : p ≠ [] := by
        intro e; obtain ⟨g, _⟩ := portV_pos h3; rw [e] at g; simp at g
      refine ⟨by simpa using h1, fun _ => h3, h, ?_⟩
      rw [if_neg hp0]
      have hd : s.drop x.length = 58 :: s.drop (x.length + 1) := by
        rw [← List.drop_drop]
        cases hq : s.drop x.length with
        | nil => rw [hq] at h2; cases h2
        | cons a r => rw [hq] at h2; simp at h2; subst h2; rfl
      conv => lhs; rw [hx, hd, hp, List.drop_drop]
      simp
  · rw [if_neg h2] at h
    simp only [if_neg h2]
    refine ⟨by simpa using h1, fun e => absurd rfl e, h, ?_⟩
    simpa using hx
theorem rowEndL_stop {w : List UInt8} : ∀ s : List UInt8, (rowEndL w s).2 = true → ∀ c, (s.drop (rowEndL w s).1).head? = some c → w.contains c = true
  | [], _, c, h => by simp [rowEndL] at h
  | d :: r, hk, c, h => by
    rw [rowEndL] at hk h
    split at h
    · rename_i hd; simp at h; subst h; exact hd
    · rename_i hd
      rw [if_neg hd] at hk
      split at h
      · rename_i he; rw [if_pos he] at hk; cases hk
      · rename_i he
        rw [if_neg he] at hk
        exact rowEndL_stop r hk c (by simpa using h)
theorem tailR_back {c : UInt8} {w s : List UInt8} (hw : ∀ d, w.contains d = true → hexC d = false) (h : (tailR c w s).1 = true) (hs : ∀ d, s.head? = some d → d = c ∨ w.contains d = true) :
    rowB [] (tailR c w s).2.2.1 = true ∧ ((tailR c w s).2.2.1 ≠ [] → (tailR c w s).2.2.2 = true) ∧ s = (if (tailR c w s).2.2.2 = true then c :: (tailR c w s).2.2.1 else []) ++ s.drop (tailR c w s).2.1 ∧
    ∀ d, (s.drop (tailR c w s).2.1).head? = some d → w.contains d = true := by
  unfold tailR at h ⊢
  by_cases h1 : s.head? = some c
  · rw [if_pos h1] at h
    simp only [if_pos h1, if_true]
    have hd : s = c :: s.drop 1 := by
      cases s with
      | nil => cases h1
      | cons a r => simp at h1; subst h1; rfl
    have hst := rowEndL_stop _ h
    have hdr : s.drop ((rowEndL w (s.drop 1)).1 + 1) = (s.drop 1).drop (rowEndL w (s.drop 1)).1 := by rw [List.drop_drop]; congr 1; omega
    refine ⟨rowB_take hw [] (fun c hc => by simp at hc) _ h, by simp, ?_, by rw [hdr]; exact hst⟩
    rw [hdr, List.cons_append, List.take_append_drop]
    exact hd
  · rw [if_neg h1] at h
    simp only [if_neg h1]
    refine ⟨rfl, by simp, by simp, fun d hd => ?_⟩
    rcases hs d (by simpa using hd) with rfl | h2
    · exact absurd (by simpa using hd) h1
    · exact h2
theorem restR_back {s : List UInt8} (h : (restR s).ok = true) (he : endB s = true) : pathB (restR s).path = true ∧ rowB [] (restR s).query = true ∧ rowB [] (restR s).frag = true ∧
    ((restR s).query ≠ [] → (restR s).hasQ = true) ∧ ((restR s).frag ≠ [] → (restR s).hasF = true) ∧
    s = (restR s).path ++ (if (restR s).hasQ = true then 63 :: (restR s).query else []) ++ (if (restR s).hasF = true then 35 :: (restR s).frag else []) := by
  unfold restR at h ⊢
  obtain ⟨p, ep⟩ : ∃ p, p = rowEndL [63, 35] s := ⟨_, rfl⟩
  obtain ⟨q, eq⟩ : ∃ q, q = tailR 63 [35] (s.drop p.1) := ⟨_, rfl⟩
  obtain ⟨f, ef⟩ : ∃ f, f = tailR 35 [] (s.drop (p.1 + q.2.1)) := ⟨_, rfl⟩
  simp only [← ep] at h ⊢
  simp only [← eq] at h ⊢
  simp only [← ef] at h ⊢
  by_cases h1 : p.2 = false
  · rw [if_pos h1] at h; cases h
  rw [if_neg h1] at h
  simp only [if_neg h1]
  by_cases h2 : q.1 = false
  · rw [if_pos h2] at h; cases h
  rw [if_neg h2] at h
  simp only [if_neg h2]
  replace h : f.1 = true := h
  have h1' : (rowEndL [63, 35] s).2 = true := by rw [← ep]; simpa using h1
  have h2' : (tailR 63 [35] (s.drop p.1)).1 = true := by rw [← eq]; simpa using h2
  have h3' : (tailR 35 [] (s.drop (p.1 + q.2.1))).1 = true := by rw [← ef]; exact h
  have hst := rowEndL_stop s h1'
  rw [← ep] at hst
  have hw : ∀ d, ([63, 35] : List UInt8).contains d = true → d = 63 ∨ d = 35 := by intro d hd; simpa using hd
  obtain ⟨q1, q2, q3, q4⟩ := tailR_back (fun d hd => by simp at hd; subst hd; decide) h2' (fun d hd => (hw d (hst d hd)).imp id (fun e => by rw [e]; decide))
  rw [← eq, List.drop_drop] at q3
  rw [← eq] at q1 q2
  rw [← eq, List.drop_drop] at q4
  obtain ⟨f1, f2, f3, f4⟩ := tailR_back (fun d hd => by simp at hd) h3' (fun d hd => .inl (by have := q4 d hd; simpa using this))
  rw [← ef] at f1 f2 f3 f4
  have hend : (s.drop (p.1 + q.2.1)).drop f.2.1 = [] := by
    cases hx : (s.drop (p.1 + q.2.1)).drop f.2.1 with
    | nil => rfl
    | cons d r => have := f4 d (by rw [hx]; rfl); simp at this
  rw [hend, List.append_nil] at f3
  have hrow : rowB [63] (s.take p.1) = true := by
    rw [ep]
    exact rowB_take (fun d hd => by rcases hw d hd with rfl | rfl <;> decide) [63] (fun d hd => by simp at hd; subst hd; decide) s h1'
  refine ⟨?_, q1, f1, q2, f2, ?_⟩
  · unfold pathB
    cases hs : s with
    | nil => simp
    | cons c r =>
      rw [hs] at he
      have he' : backC c = true := he
      simp only [backC, Bool.or_eq_true, decide_eq_true_eq] at he'
      rw [← hs]
      rcases he' with rfl | he'
      · have : p.1 ≠ 0 := by
          intro h0
          have := hst 47 (by rw [h0, hs]; rfl)
          revert this; decide
        obtain ⟨k, hk⟩ : ∃ k, p.1 = k + 1 := ⟨p.1 - 1, by omega⟩
        rw [hrow, hk, hs]; simp
      · have : p.1 = 0 := by
          rw [ep, hs, rowEndL, if_pos (by rcases he' with rfl | rfl <;> decide)]
        rw [this]; simp
  · conv => lhs; rw [← List.take_append_drop p.1 s, q3, f3]
    simp
/-- What was read is right, and is written so. -/
theorem write_read {t : List UInt8} {a : Addr} (h : readA t = .ok a) : writeL a = t ∧ (t.length ≤ 2000 → addrF a = 0) := by
  unfold readA at h
  split at h
  · cases h
  · rename_i n hs
    obtain ⟨s1, s2⟩ := schemeR_back hs
    obtain ⟨s, es⟩ : ∃ s, s = t.drop (n + 3) := ⟨_, rfl⟩
    obtain ⟨p, ep⟩ : ∃ p, p = placeR s := ⟨_, rfl⟩
    obtain ⟨r, er⟩ : ∃ r, r = restR (s.drop p.2.1) := ⟨_, rfl⟩
    simp only [← es] at h
    simp only [← ep] at h
    simp only [← er] at h
    split at h
    · cases h
    rename_i h1
    split at h
    · cases h
    rename_i h2
    injection h with h
    have h1' : (placeR s).1 = true := by rw [← ep]; simpa using h1
    have h2' : (restR (s.drop p.2.1)).ok = true := by rw [← er]; simpa using h2
    obtain ⟨p1, p2, p3, p4⟩ := placeR_back h1'
    rw [← ep] at p1 p2 p3 p4
    obtain ⟨r1, r2, r3, r4, r5, r6⟩ := restR_back h2' p3
    rw [← er] at r1 r2 r3 r4 r5 r6
    have hw : writeL a = t := by
      subst h
      unfold writeL portL behindL queryL fragL
      simp only
      rw [← r6]
      conv => rhs; rw [s2, ← es, p4]
      simp
    refine ⟨hw, fun hl => ?_⟩
    rw [← hw] at hl
    subst h
    unfold addrF
    rw [if_neg, if_neg, if_neg, if_neg (by omega)]
    · rintro (⟨a, b⟩ | ⟨a, b⟩)
      · rw [r4 a] at b; cases b
      · rw [r5 a] at b; cases b
    · simp only [r1, r2, r3]; simp
    · simp only [s1, p1]
      rintro (a | a | ⟨a, b⟩)
      · cases a
      · cases a
      · exact p2 a b
end Go.Proofs.YtklnopamfncfgaaGreatDoor
namespace Go.Proofs.YtklnopamfncfgaaGreatDoor
open Go Go.Ab

/-! ### Normal forms and keys -/
def unhexV (c : UInt8) : Nat := if isDig c = true then c.toNat - 48 else if 97 ≤ c.toNat then c.toNat - 87 else c.toNat - 55
def plainC (c : UInt8) : Bool := letB c || (isDig c || ([45, 46, 95, 126] : List UInt8).contains c)
def hexU (n : Nat) : UInt8 := if n < 10 then UInt8.ofNat (48 + n) else UInt8.ofNat (55 + n)
/-- % and two digits in normal form. -/
def codeC (a b : UInt8) : List UInt8 := if plainC (UInt8.ofNat (16 * unhexV a + unhexV b)) = true then [UInt8.ofNat (16 * unhexV a + unhexV b)] else [37, hexU (unhexV a), hexU (unhexV b)]
def codedL : List UInt8 → List UInt8
  | c :: a :: b :: r => if c = 37 then codeC a b ++ codedL r else c :: codedL (a :: b :: r)
  | l => l
def dotL : List UInt8 := [46]
def dotsL : List UInt8 := [46, 46]
def undotS (out : List (List UInt8)) (p : List UInt8) : List (List UInt8) := if p = dotsL then out.dropLast else if p = dotL then out else out ++ [p]
def undotP (parts : List (List UInt8)) : List (List UInt8) := parts.foldl undotS [] ++ (if parts.getLast? = some dotsL ∨ parts.getLast? = some dotL then [[]] else [])
def undotL (path : List UInt8) : List UInt8 := if path = [] then [] else 47 :: joinC 47 (undotP (splitC 47 (path.drop 1)))
def trim0 (p : List UInt8) : List UInt8 := p.dropWhile (· == 48)
def portN (scheme p : List UInt8) : List UInt8 := if (scheme = httpL ∧ trim0 p = [56, 48]) ∨ (scheme = httpsL ∧ trim0 p = [52, 52, 51]) then [] else trim0 p
def pathN (p : List UInt8) : List UInt8 := if undotL (codedL p) = [] then [47] else undotL (codedL p)
def normalA (a : Addr) : Addr := ⟨smallL a.scheme, smallL a.host, portN (smallL a.scheme) a.port, pathN a.path, codedL a.query, a.hasQ, [], false⟩
def normalF (a : Addr) : Int := if addrF a ≠ 0 then addrF a else addrF (normalA a)
def turnedL (c d : UInt8) (s : List UInt8) : List UInt8 := joinC d (splitC c s).reverse
def keyN (n : Addr) : List UInt8 := turnedL 46 44 n.host ++ portL n ++ [41] ++ (if n.scheme = httpsL then [115] else []) ++ n.path ++ queryL n
def keyA (a : Addr) : List UInt8 := keyN (normalA a)
def aftD (c : UInt8) (s : List UInt8) : List UInt8 := if c ∈ s then aftC c s else []
def tailS (r : List UInt8) : List UInt8 := if r.head? = some 115 then r.drop 1 else r
def ofKeyA (s : List UInt8) : Addr :=
  ⟨if (aftD 41 s).head? = some 115 then httpsL else httpL, turnedL 44 46 (befC 58 (befC 41 s)), aftD 58 (befC 41 s), befC 63 (tailS (aftD 41 s)), aftD 63 (tailS (aftD 41 s)), decide (63 ∈ tailS (aftD 41 s)), [], false⟩
def keyOk (s : List UInt8) : Bool := decide (addrF (ofKeyA s) = 0) && (decide (keyA (ofKeyA s) = s) && !(decide (58 ∈ befC 41 s) && decide (aftD 58 (befC 41 s) = [])))
def ofKeyF (s : List UInt8) : Int := if 2000 < s.length then 2 else if keyOk s = true then 0 else 10
def ofKeyR (s : List UInt8) : Addr := if ofKeyF s = 0 then ofKeyA s else noAddr
def hostK (s : List UInt8) : List UInt8 := befC 41 s

theorem dropWhile_mem {α : Type} (p : α → Bool) : ∀ (l : List α), ∀ x ∈ l.dropWhile p, x ∈ l
  | [], x, h => h
  | a :: r, x, h => by
    rw [List.dropWhile_cons] at h
    split at h
    · exact List.mem_cons_of_mem _ (dropWhile_mem p r x h)
    · exact h
theorem decV_cons48 (r : List UInt8) : decV (48 :: r) = decV r := by unfold decV; rfl
theorem trim0_dec : ∀ p : List UInt8, decV (trim0 p) = decV p
  | [] => rfl
  | a :: r => by
    unfold trim0
    rw [List.dropWhile_cons]
    split
    · rename_i h
      have : a = 48 := by simpa using h
      subst this
      rw [decV_cons48]
      exact trim0_dec r
    · rfl
theorem trim0_head (p : List UInt8) : (trim0 p).head? ≠ some 48 := by
  induction p with
  | nil => simp [trim0]
  | cons a r ih =>
    unfold trim0 at ih ⊢
    rw [List.dropWhile_cons]
    split
    · exact ih
    · rename_i h
      simpa using h
theorem trim0_itoa {p : List UInt8} (h : portV p ≠ 0) : trim0 p = Lib.itoa (portV p : Int) := by
  obtain ⟨_, _, hd, _, hv⟩ := portV_pos h
  have ha : (trim0 p).all isDig = true := by
    rw [List.all_eq_true] at hd ⊢
    exact fun x hx => hd x (dropWhile_mem _ _ x hx)
  have hn : trim0 p ≠ [] := by
    intro e
    have := trim0_dec p
    rw [e] at this
    rw [hv, ← this] at h
    exact h rfl
  have hl : lead0 (trim0 p) = false := by unfold lead0; simp [trim0_head]
  have := decDigits_decV _ ha hn hl
  rw [trim0_dec, ← hv] at this
  rw [← this]
  unfold Lib.itoa
  rw [if_neg (by omega)]
  simp
/-- What the text of a right address's port becomes. -/
theorem portN_eq {s p : List UInt8} (h : p ≠ [] → portV p ≠ 0) : portN s p = if (portV p ≠ 0 ∧ ¬ (portV p = 80 ∧ s = httpL)) ∧ ¬ (portV p = 443 ∧ s = httpsL) then Lib.itoa (portV p : Int) else [] := by
  by_cases h0 : p = []
  · subst h0
    have : portV [] = 0 := rfl
    rw [this]
    unfold portN trim0
    simp
  · have hv := h h0
    have e := trim0_itoa hv
    have i80 : Lib.itoa (portV p : Int) = [56, 48] ↔ portV p = 80 := by
      constructor
      · intro h
        rw [← e] at h
        have := trim0_dec p
        rw [h] at this
        obtain ⟨_, _, _, _, hp⟩ := portV_pos hv
        rw [hp, ← this]; rfl
      · intro h
        rw [h]
        have := decDigits_decV [56, 48] (by decide) (by simp) (by decide)
        unfold Lib.itoa
        rw [if_neg (by omega)]
        exact this
    have i443 : Lib.itoa (portV p : Int) = [52, 52, 51] ↔ portV p = 443 := by
      constructor
      · intro h
        rw [← e] at h
        have := trim0_dec p
        rw [h] at this
        obtain ⟨_, _, _, _, hp⟩ := portV_pos hv
        rw [hp, ← this]; rfl
      · intro h
        rw [h]
        have := decDigits_decV [52, 52, 51] (by decide) (by simp) (by decide)
        unfold Lib.itoa
        rw [if_neg (by omega)]
        exact this
    unfold portN
    simp only [e, i80, i443]
    by_cases a : portV p = 80 ∧ s = httpL
    · rw [if_pos (.inl ⟨a.2, a.1⟩), if_neg (fun c => c.1.2 a)]
    · by_cases b : portV p = 443 ∧ s = httpsL
      · rw [if_pos (.inr ⟨b.2, b.1⟩), if_neg (fun c => c.2 b)]
      · rw [if_neg (by rintro (c | c); exact a ⟨c.2, c.1⟩; exact b ⟨c.2, c.1⟩), if_pos ⟨⟨hv, a⟩, b⟩]
/-- Joined, each part with the byte ahead of it. -/
theorem joinC_flat (c : UInt8) : ∀ (w : List (List UInt8)), w ≠ [] → c :: joinC c w = (w.map (c :: ·)).flatten
  | [], h => absurd rfl h
  | [a], _ => by simp [joinC]
  | a :: b :: r, _ => by
    have := joinC_flat c (b :: r) (by simp)
    rw [joinC, List.map_cons, List.flatten_cons, ← this]; simp
theorem joinC_snoc (c : UInt8) : ∀ (w : List (List UInt8)) (x : List UInt8), w ≠ [] → joinC c (w ++ [x]) = joinC c w ++ c :: x
  | [], _, h => absurd rfl h
  | [a], x, _ => by simp [joinC]
  | a :: b :: r, x, _ => by
    have := joinC_snoc c (b :: r) x (by simp)
    simp only [List.cons_append, joinC] at this ⊢
    rw [this]; simp
theorem undotP_ne (parts : List (List UInt8)) (h : parts ≠ []) : undotP parts ≠ [] := by
  obtain ⟨t, b, rfl⟩ := snoc_ex parts h
  unfold undotP
  rw [List.foldl_append, List.getLast?_concat]
  show undotS (t.foldl undotS []) b ++ _ ≠ []
  unfold undotS
  by_cases h1 : b = dotsL
  · simp [h1]
  · by_cases h2 : b = dotL
    · simp [h2]
    · simp [h1, h2]
theorem smallC_lab : ∀ c : UInt8, labC c = true → labC (smallC c) = true := u8_all (by decide +kernel)
theorem labC_more : ∀ c : UInt8, labC c = true → c ≠ 41 ∧ c ≠ 44 := u8_all (by decide +kernel)
theorem smallC_host : ∀ c : UInt8, hostC c = true → hostC (smallC c) = true := u8_all (by decide +kernel)
theorem hostC_more : ∀ c : UInt8, hostC c = true → c ≠ 41 ∧ c ≠ 44 ∧ c ≠ 58 := u8_all (by decide +kernel)
theorem splitC_mem {c : UInt8} : ∀ {s : List UInt8}, ∀ x ∈ splitC c s, ∀ d ∈ x, d ∈ s
  | [], x, hx, d, hd => by simp [splitC] at hx; subst hx; cases hd
  | b :: r, x, hx, d, hd => by
    have ih := splitC_mem (c := c) (s := r)
    rw [splitC] at hx
    split at hx
    · rcases List.mem_cons.1 hx with rfl | hx
      · cases hd
      · exact List.mem_cons_of_mem _ (ih x hx d hd)
    · split at hx
      · rename_i h t e
        rw [e] at ih
        rcases List.mem_cons.1 hx with rfl | hx
        · rcases List.mem_cons.1 hd with rfl | hd
          · exact List.mem_cons_self
          · exact List.mem_cons_of_mem _ (ih h (by simp) d hd)
        · exact List.mem_cons_of_mem _ (ih x (by simp [hx]) d hd)
      · simp at hx; subst hx; simp at hd; simp [hd]
theorem joinC_mem {c : UInt8} : ∀ (w : List (List UInt8)), ∀ d ∈ joinC c w, d = c ∨ ∃ x ∈ w, d ∈ x
  | [], d, h => by cases h
  | [a], d, h => .inr ⟨a, by simp, h⟩
  | a :: b :: r, d, h => by
    rw [joinC] at h
    rcases List.mem_append.1 h with h | h
    · exact .inr ⟨a, by simp, h⟩
    · rcases List.mem_cons.1 h with h | h
      · exact .inl h
      · rcases joinC_mem (b :: r) d h with h | ⟨x, hx, hd⟩
        · exact .inl h
        · exact .inr ⟨x, List.mem_cons_of_mem _ hx, hd⟩
theorem turnedL_mem {c d : UInt8} {s : List UInt8} : ∀ x ∈ turnedL c d s, x = d ∨ (x ∈ s ∧ x ≠ c) := by
  intro x hx
  rcases joinC_mem _ x hx with h | ⟨y, hy, hd⟩
  · exact .inl h
  · have hy' := List.mem_reverse.1 hy
    exact .inr ⟨splitC_mem y hy' x hd, fun e => splitC_parts y hy' (e ▸ hd)⟩
theorem trim0_port {p : List UInt8} (h : p ≠ [] → portV p ≠ 0) : ∀ x ∈ trim0 p, isDig x = true := by
  intro x hx
  have hm := dropWhile_mem _ _ x hx
  have h0 : p ≠ [] := by rintro rfl; cases hm
  exact List.all_eq_true.1 (portV_pos (h h0)).2.2.1 x hm
/-- The part of a key ahead of the ). -/
theorem hostK_key {a : Addr} (h : addrF a = 0) : 41 ∉ (turnedL 46 44 (normalA a).host ++ portL (normalA a)) ∧ hostK (keyA a) = turnedL 46 44 (normalA a).host ++ portL (normalA a) ∧ 58 ∉ turnedL 46 44 (normalA a).host := by
  obtain ⟨_, hh, hp, _⟩ := addrF_ok h
  have hall := List.all_eq_true.1 (host_all hh)
  have h1 : ∀ x ∈ turnedL 46 44 (normalA a).host, x ≠ 41 ∧ x ≠ 58 := by
    intro x hx
    rcases turnedL_mem x hx with rfl | ⟨hm, _⟩
    · decide
    · obtain ⟨y, hy, rfl⟩ := List.mem_map.1 hm
      have := hostC_more _ (smallC_host y (hall y hy))
      exact ⟨this.1, this.2.2⟩
  have h2 : ∀ x ∈ portL (normalA a), x ≠ 41 := by
    intro x hx
    unfold portL at hx
    split at hx
    · cases hx
    · rcases List.mem_cons.1 hx with rfl | hx
      · decide
      · have hx' : x ∈ trim0 a.port := by
          have : x ∈ portN (smallL a.scheme) a.port := hx
          unfold portN at this
          split at this
          · cases this
          · exact this
        have := trim0_port hp x hx'
        rintro rfl
        revert this; decide
  have hn : 41 ∉ (turnedL 46 44 (normalA a).host ++ portL (normalA a)) := by
    intro hm
    rcases List.mem_append.1 hm with hm | hm
    · exact (h1 41 hm).1 rfl
    · exact h2 41 hm rfl
  refine ⟨hn, ?_, fun hm => (h1 58 hm).2 rfl⟩
  unfold hostK keyA keyN
  rw [show turnedL 46 44 (normalA a).host ++ portL (normalA a) ++ [41] ++ (if (normalA a).scheme = httpsL then [115] else []) ++ (normalA a).path ++ queryL (normalA a) =
    (turnedL 46 44 (normalA a).host ++ portL (normalA a)) ++ 41 :: ((if (normalA a).scheme = httpsL then [115] else []) ++ (normalA a).path ++ queryL (normalA a)) by simp]
  exact befC_append hn
theorem key_41 (a : Addr) : 41 ∈ keyA a := by unfold keyA keyN; simp
/-- The reference's way of looking at a key. -/
theorem keyOk_ref (s : List UInt8) : keyOk s = (decide (41 ∈ s) && (decide (addrF (ofKeyA s) = 0) && decide (keyA (ofKeyA s) = s))) := by
  unfold keyOk
  by_cases h1 : addrF (ofKeyA s) = 0
  · by_cases h2 : keyA (ofKeyA s) = s
    · have h41 : 41 ∈ s := by rw [← h2]; exact key_41 _
      have h3 : ¬ (58 ∈ befC 41 s ∧ aftD 58 (befC 41 s) = []) := by
        rintro ⟨h4, h5⟩
        obtain ⟨_, k2, k3⟩ := hostK_key h1
        rw [h2] at k2
        have hp : portL (normalA (ofKeyA s)) = [] := by
          have : (ofKeyA s).port = [] := h5
          unfold portL normalA portN
          rw [this]
          simp [trim0]
        rw [hp, List.append_nil] at k2
        unfold hostK at k2
        rw [k2] at h4
        exact k3 h4
      simp only [h1, h2, h41, decide_true, Bool.true_and]
      by_cases h4 : 58 ∈ befC 41 s
      · have h5 : ¬ aftD 58 (befC 41 s) = [] := fun h5 => h3 ⟨h4, h5⟩
        simp [h5]
      · simp [h4]
    · simp [h1, h2]
  · simp [h1]
end Go.Proofs.YtklnopamfncfgaaGreatDoor
