/- A part of the proof: lemmas and contracts of functions. -/
import Derived.Test.YtklnopamfncfgaaGreatDoorIxG22c
import Derived.Test.YtklnopamfncfgaaGreatDoorAbJ5
import Derived.MakeChecks
import Derived.KernelRfl
import Derived.Test.YtklnopamfncfgaaGreatDoorRows
import Derived.Test.YtklnopamfncfgaaGreatDoorIxG22b
namespace Go.Proofs.YtklnopamfncfgaaGreatDoor
open Go Go.Ab
set_option linter.unusedSectionVars false
variable [Amb]
set_option maxRecDepth 100000
set_option maxHeartbeats 4000000

abbrev funcV (f : Nat) : XV := .one (.atom (.func (.func f) #[] #[]))

theorem index_of1 (e : Entry) (k : List UInt8) : ACalls Tryz.prog 167 [.agg e.row, .one (.str k)] (.x (.one (.int .i64 (Lib.compareBytes e.key k)))) := by
  refine ACalls.of mixed (fn := Tryz.f167) (by kernel_rfl) (by kernel_rfl) rfl (by kernel_rfl) (by simp [Tryz.f167]) (fun hok => ?_)
  simp -implicitDefEqProofs +contextual [-Bool.and_eq_false_imp, Bool.and_eq_false_iff]
  refine ACallK.of (strings_Compare _ _) ?_
  simp -implicitDefEqProofs +contextual [-Bool.and_eq_false_imp, Bool.and_eq_false_iff]

/-- How many entries come ahead of a key. -/
def lowerB (l : List Entry) (k : List UInt8) : Nat := (l.takeWhile fun e => ltB e.key k).length
theorem lowerB_eq {l : List Entry} {k : List UInt8} {i : Nat} (hi : i ≤ l.length) (h1 : ∀ (j : Nat) (x : Entry), j < i → l[j]? = some x → ltB x.key k = true) (h2 : ∀ x, l[i]? = some x → ltB x.key k = false) : lowerB l k = i := by
  induction l generalizing i with
  | nil => simp at hi; subst hi; rfl
  | cons a r ih =>
    unfold lowerB at ih ⊢
    cases i with
    | zero =>
      have := h2 a rfl
      rw [List.takeWhile_cons_of_neg (by simp [this])]; rfl
    | succ i =>
      have := h1 0 a (by omega) rfl
      rw [List.takeWhile_cons_of_pos (by exact this), List.length_cons, ih (by simpa using hi) (fun j x hj hx => h1 (j + 1) x (by omega) (by simpa using hx)) (fun x hx => h2 x (by simpa using hx))]

theorem BinarySearch (l : List Entry) (k : List UInt8) (hs : Sorted l) (hb : l.length ≤ 3000) : ACalls Tryz.prog 166 [entries l, .one (.str k), funcV 167] (.tup [.one (.int .i64 (lowerB l k)), .one (.bool (match l[lowerB l k]? with | some x => decide (x.key = k) | none => false))]) := by
  refine ACalls.of mixed (fn := Tryz.f166) (by kernel_rfl) (by kernel_rfl) rfl (by kernel_rfl) (by simp [Tryz.f166]) (fun hok => ?_)
  have hmono : ∀ i j (hj : j < l.length) (hij : i ≤ j), ltB l[j].key k = true → ltB l[i].key k = true := by
    intro i j hj hij h
    by_cases he : i = j
    · subst he; exact h
    · have := (List.pairwise_iff_getElem.1 hs) i j (by omega) hj (by omega)
      cases hb : ltB l[i].key k with
      | true => rfl
      | false =>
        have h2 := this.key
        cases hc : ltB l[i].key l[j].key with
        | true => rw [ltB_trans hc h] at hb; cases hb
        | false => rw [ltB_total hc h2] at hb; rw [hb] at h; cases h
  simp -implicitDefEqProofs +contextual [-Bool.and_eq_false_imp, Bool.and_eq_false_iff]
  refine ALoopS.of (Nat × Nat) (fun i => [(0, .x (.one (.list 9 (l.map Entry.row)))), (1, .x (.one (.str k))), (2, .x (funcV 167)), (8, .x (.one (.int .i64 l.length))), (9, .x (.one (.int .i64 i.1))), (10, .x (.one (.int .i64 i.2)))])
    (fun i => i.1 ≤ i.2 ∧ i.2 ≤ l.length ∧ (∀ (j : Nat) (h : j < l.length), j < i.1 → ltB l[j].key k = true) ∧ (∀ (j : Nat) (h : j < l.length), i.2 ≤ j → ltB l[j].key k = false)) (fun i => i.2 - i.1) (0, l.length) ⟨Nat.zero_le _, Nat.le_refl _, by intro j h hj; omega, by intro j h hj; simp only at hj; omega⟩ ?_ ?_
  · simp
  rintro ⟨i, j⟩ ⟨h1, h2, h3, h4⟩
  simp only at h1 h2 h3 h4
  by_cases hlt : i < j
  · have hm : IntKind.i64.wrap ((IntKind.u64.wrap (IntKind.i64.wrap ((i : Int) + j))).fdiv (2 ^ min 1 IntKind.u64.bits)) = (((i + j) / 2 : Nat) : Int) := by
      rw [wrapS ((i : Int) + j) (by omega)]
      have : IntKind.u64.wrap ((i : Int) + j) = (i : Int) + j := by simp [IntKind.wrap, IntKind.signed, IntKind.bits]; omega
      rw [this]
      have : ((i : Int) + j).fdiv (2 ^ min 1 IntKind.u64.bits) = ((i + j) / 2 : Nat) := by
        show ((i : Int) + j).fdiv 2 = _
        rw [Int.fdiv_eq_ediv_of_nonneg _ (by omega)]; omega
      rw [this]
      exact wrapS _ (by omega)
    obtain ⟨m, em⟩ : ∃ m, m = (i + j) / 2 := ⟨_, rfl⟩
    rw [← em] at hm
    have hml : m < l.length := by omega
    simp -implicitDefEqProofs +contextual [-Bool.and_eq_false_imp, Bool.and_eq_false_iff, hlt, hm, hml]
    refine ACallK.of (index_of1 _ _) ?_
    have hc := cmpB_neg (a := l[m].key) (b := k)
    simp -implicitDefEqProofs +contextual [-Bool.and_eq_false_imp, Bool.and_eq_false_iff]
    refine ⟨fun h => ?_, fun h => ?_⟩
    · refine Again.of (m + 1, j) ⟨by simp only; omega, h2, fun x hx hxm => hmono x m hml (by simp only at hxm; omega) (hc.1 h), h4⟩ (by simp only; omega) ?_
      simp
      exact wrapS _ (by omega)
    · refine Again.of (i, m) ⟨by simp only; omega, by simp only; omega, h3, fun x hx hxm => ?_⟩ (by simp only; omega) ?_
      · simp only at hxm
        cases hb : ltB l[x].key k with
        | false => rfl
        | true => have := hmono m x hx hxm hb; rw [← hc] at this; omega
      · simp
  · have hij : i = j := by omega
    subst hij
    have hlo : lowerB l k = i := lowerB_eq h2 (fun x y hx hy => by
      obtain ⟨hlt', rfl⟩ := List.getElem?_eq_some_iff.1 hy
      exact h3 x hlt' hx) (fun y hy => by
      obtain ⟨hlt', rfl⟩ := List.getElem?_eq_some_iff.1 hy
      exact h4 i hlt' (Nat.le_refl _))
    rw [hlo]
    by_cases hil : i < l.length
    · simp -implicitDefEqProofs +contextual [-Bool.and_eq_false_imp, Bool.and_eq_false_iff, hil]
      refine ACallGS.of (fun _ => index_of1 _ _) rfl ?_
      have hc := cmpB_zero (a := l[i].key) (b := k)
      simp -implicitDefEqProofs +contextual [-Bool.and_eq_false_imp, Bool.and_eq_false_iff, hil]
      rw [Bool.eq_iff_iff]
      simp [hc]
    · simp -implicitDefEqProofs [hil]
      refine ACallGS.of (r := .x (.one (.int .i64 0))) (fun h => by cases h) rfl ?_
      simp -implicitDefEqProofs +contextual [-Bool.and_eq_false_imp, Bool.and_eq_false_iff, hil]

/-- The entries with a key. -/
def withKey (l : List Entry) (k : List UInt8) : List Entry := l.filter fun e => decide (e.key = k)

theorem takeWhile_eq {α : Type} (p : α → Bool) : ∀ (l : List α) (i : Nat), i ≤ l.length → (∀ (j : Nat) (x : α), j < i → l[j]? = some x → p x = true) → (∀ x, l[i]? = some x → p x = false) → l.takeWhile p = l.take i
  | [], i, hi, _, _ => by simp
  | a :: r, 0, _, _, h2 => by rw [List.takeWhile_cons_of_neg (by simp [h2 a rfl])]; rfl
  | a :: r, i + 1, hi, h1, h2 => by
    rw [List.takeWhile_cons_of_pos (h1 0 a (by omega) rfl), takeWhile_eq p r i (by simpa using hi) (fun j x hj hx => h1 (j + 1) x (by omega) (by simpa using hx)) (fun x hx => h2 x (by simpa using hx))]
    rfl
/-- In a sorted list the entries with a key lie together. -/
theorem withKey_sorted {k : List UInt8} : ∀ {l : List Entry}, Sorted l → withKey l k = (l.drop (lowerB l k)).takeWhile fun e => decide (e.key = k)
  | [], _ => rfl
  | a :: r, h => by
    have hr := List.pairwise_cons.1 h
    unfold withKey lowerB
    by_cases hlt : ltB a.key k = true
    · have hne : ¬ a.key = k := by rintro rfl; rw [ltB_irrefl] at hlt; cases hlt
      rw [List.takeWhile_cons_of_pos (by exact hlt), List.length_cons, List.drop_succ_cons, List.filter_cons_of_neg (by simp [hne])]
      exact withKey_sorted hr.2
    · rw [List.takeWhile_cons_of_neg (by exact hlt), List.length_nil, List.drop_zero]
      by_cases he : a.key = k
      · rw [List.filter_cons_of_pos (by simp [he]), List.takeWhile_cons_of_pos (by simp [he])]
        congr 1
        have := withKey_sorted (k := k) hr.2
        unfold withKey at this
        rw [this]
        have h0 : lowerB r k = 0 := lowerB_eq (Nat.zero_le _) (fun j x hj => by omega) (fun x hx => by
          have := (hr.1 x (List.mem_of_getElem? hx)).key
          rw [he] at this; exact this)
        rw [h0, List.drop_zero]
      · rw [List.filter_cons_of_neg (by simp [he]), List.takeWhile_cons_of_neg (by simp [he])]
        rw [List.filter_eq_nil_iff]
        intro x hx
        simp only [decide_eq_true_eq]
        rintro rfl
        have h1 := (hr.1 x hx).key
        exact he (ltB_total (by simpa using hlt) h1)

theorem index_of' (l : List Entry) (k : List UInt8) (hs : Sorted l) (hb : l.length ≤ 3000) : ACalls Tryz.prog 96 [entries l, .one (.str k)] (.x (entries (withKey l k))) := by
  refine ACalls.of mixed (fn := Tryz.f96) (by kernel_rfl) (by kernel_rfl) rfl (by kernel_rfl) (by simp [Tryz.f96]) (fun hok => ?_)
  simp -implicitDefEqProofs +contextual [-Bool.and_eq_false_imp, Bool.and_eq_false_iff]
  refine ACallK.of (BinarySearch l k hs hb) ?_
  have hlo : lowerB l k ≤ l.length := by
    unfold lowerB
    exact (List.takeWhile_sublist _).length_le
  rw [withKey_sorted hs]
  generalize lowerB l k = lo at hlo
  simp -implicitDefEqProofs +contextual [-Bool.and_eq_false_imp, Bool.and_eq_false_iff]
  refine ALoopS.of Nat (fun i => [(0, .x (.one (.list 9 (l.map Entry.row)))), (1, .x (.one (.str k))), (5, .x (.one (.int .i64 lo))), (7, .x (.one (.int .i64 i)))]) (fun i => lo ≤ i ∧ i ≤ l.length ∧ ∀ (j : Nat) (x : Entry), lo ≤ j → j < i → l[j]? = some x → x.key = k) (fun i => l.length - i) lo ⟨Nat.le_refl _, hlo, fun j x h1 h2 => by omega⟩ ?_ ?_
  · simp
  rintro i ⟨h1, h2, h3⟩
  have hend : (∀ x, l[i]? = some x → ¬ x.key = k) → (l.drop lo).takeWhile (fun e => decide (e.key = k)) = (l.take i).drop lo := by
    intro hx
    rw [takeWhile_eq _ (l.drop lo) (i - lo) (by simp; omega) (fun j x hj hjx => by
      rw [List.getElem?_drop] at hjx
      simp [h3 (lo + j) x (by omega) (by omega) hjx]) (fun x hjx => by
      rw [List.getElem?_drop, show lo + (i - lo) = i by omega] at hjx
      simp [hx x hjx])]
    rw [List.drop_take]
  by_cases hlt : i < l.length
  · simp -implicitDefEqProofs +contextual [-Bool.and_eq_false_imp, Bool.and_eq_false_iff, hlt]
    refine ⟨fun he => Again.of (i + 1) ⟨by omega, hlt, fun j x hj1 hj2 hjx => ?_⟩ (by omega) ?_, fun hne => ?_⟩
    · by_cases hji : j = i
      · subst hji
        rw [List.getElem?_eq_getElem hlt] at hjx
        injection hjx with hjx
        rw [← hjx]; exact he
      · exact h3 j x hj1 (by omega) hjx
    · simp
      exact wrapS _ (by omega)
    · rw [hend (fun x hx => by rw [List.getElem?_eq_getElem hlt] at hx; injection hx with hx; rw [← hx]; exact hne)]
      refine ⟨by omega, ?_⟩
      simp [cutAt]
  · simp -implicitDefEqProofs [hlt]
    rw [hend (fun x hx => by rw [List.getElem?_eq_none (by omega)] at hx; cases hx)]
    refine ⟨by omega, ?_⟩
    simp [cutAt]
end Go.Proofs.YtklnopamfncfgaaGreatDoor
namespace Go.Proofs.YtklnopamfncfgaaGreatDoor
open Go Go.Ab
set_option linter.unusedSectionVars false
variable [Amb]
set_option maxRecDepth 100000
set_option maxHeartbeats 4000000

structure Life where
  key : List UInt8
  many : Int
  other : Int
  first : Int
  last : Int
  deriving DecidableEq
def Life.row (x : Life) : List CV := [.str x.key, .int .i64 x.many, .int .i64 x.other, .int .i64 x.first, .int .i64 x.last]
abbrev lives (l : List Life) : XV := .one (.list 5 (l.map Life.row))

/-! ### Different strings -/
def nubA (acc : List (List UInt8)) (d : List UInt8) : List (List UInt8) := if d ∈ acc then acc else acc ++ [d]
def nubs (ds : List (List UInt8)) : List (List UInt8) := ds.foldl nubA []
theorem nubs_snoc (ds : List (List UInt8)) (d : List UInt8) : nubs (ds ++ [d]) = nubA (nubs ds) d := by simp [nubs, List.foldl_append]
theorem nubs_le : ∀ (ds : List (List UInt8)) (acc : List (List UInt8)), (ds.foldl nubA acc).length ≤ acc.length + ds.length
  | [], acc => by simp
  | d :: r, acc => by
    have h1 := nubs_le r (nubA acc d)
    have h2 : (nubA acc d).length ≤ acc.length + 1 := by unfold nubA; split <;> simp
    simp only [List.foldl_cons, List.length_cons]; omega
def kvs (ks : List (List UInt8)) : List (XV × XV) := ks.map fun d => (.one (.str d), .one (.bool true))
theorem findK_kvs (d : List UInt8) : ∀ (ks : List (List UInt8)) (i : Nat), (d ∉ ks → findK .s (.one (.str d)) (kvs ks) i = some none) ∧ (d ∈ ks → ∃ j, findK .s (.one (.str d)) (kvs ks) i = some (some (i + j)) ∧ ks[j]? = some d)
  | [], i => ⟨fun _ => rfl, fun h => by cases h⟩
  | k :: r, i => by
    have ih := findK_kvs d r (i + 1)
    simp only [kvs, List.map_cons, findK, keyEq]
    by_cases h : d = k
    · subst h
      simp only [BEq.rfl]
      exact ⟨fun h => absurd (List.mem_cons_self) h, fun _ => ⟨0, rfl, rfl⟩⟩
    · have hb : (d == k) = false := by simpa using h
      rw [hb]
      refine ⟨fun hn => ih.1 (fun hm => hn (List.mem_cons_of_mem _ hm)), fun hm => ?_⟩
      obtain ⟨j, h1, h2⟩ := ih.2 ((List.mem_cons.1 hm).resolve_left h)
      exact ⟨j + 1, by rw [show i + (j + 1) = i + 1 + j by omega]; exact h1, h2⟩

/-! ### The lives -/
def digests (l : List Entry) : List (List UInt8) := l.map Entry.digest
def lifeOf (l : List Entry) (e : Entry) : Life :=
  ⟨e.key, (withKey l e.key).length, (nubs (digests (withKey l e.key))).length, e.time, (((withKey l e.key)[(withKey l e.key).length - 1]?).map Entry.time).getD 0⟩
def livesN : Nat → List Entry → List Life
  | 0, _ => []
  | _ + 1, [] => []
  | n + 1, e :: r => lifeOf (e :: r) e :: livesN n ((e :: r).drop (withKey (e :: r) e.key).length)
theorem withKey_pos (e : Entry) (r : List Entry) : 1 ≤ (withKey (e :: r) e.key).length := by
  unfold withKey
  rw [List.filter_cons_of_pos (by simp)]
  simp
theorem livesN_fuel : ∀ (n m : Nat) (l : List Entry), l.length ≤ n → l.length ≤ m → livesN n l = livesN m l
  | 0, 0, _, _, _ => rfl
  | 0, m + 1, l, h, _ => by have : l = [] := List.eq_nil_of_length_eq_zero (by omega); subst this; rfl
  | n + 1, 0, l, _, h => by have : l = [] := List.eq_nil_of_length_eq_zero (by omega); subst this; rfl
  | n + 1, m + 1, [], _, _ => rfl
  | n + 1, m + 1, e :: r, h1, h2 => by
    have hp := withKey_pos e r
    simp only [livesN]
    rw [livesN_fuel n m _ (by simp only [List.length_drop, List.length_cons] at *; omega) (by simp only [List.length_drop, List.length_cons] at *; omega)]
def livesL (l : List Entry) : List Life := livesN l.length l
theorem livesL_cons (e : Entry) (r : List Entry) : livesL (e :: r) = lifeOf (e :: r) e :: livesL ((e :: r).drop (withKey (e :: r) e.key).length) := by
  have hp := withKey_pos e r
  unfold livesL
  rw [List.length_cons, livesN, livesN_fuel r.length _ _ (by simp only [List.length_drop, List.length_cons]; omega) (Nat.le_refl _)]

theorem index_Lives (l : List Entry) : ACalls Tryz.prog 46 [entries l] (.tup [lives (if entriesF l = 0 then livesL l else []), .one (.int .i64 (entriesF l))]) := by
  refine ACalls.of mixed (fn := Tryz.f46) (by kernel_rfl) (by kernel_rfl) rfl (by kernel_rfl) (by simp [Tryz.f46]) (fun hok => ?_)
  simp -implicitDefEqProofs +contextual [-Bool.and_eq_false_imp, Bool.and_eq_false_iff]
  refine ACallK.of (index_checkEntries l) ?_
  simp -implicitDefEqProofs +contextual [-Bool.and_eq_false_imp, Bool.and_eq_false_iff]
  intro h
  rw [if_pos h, h]
  have hs := entriesF_short h
  obtain ⟨hso, _⟩ := entriesF_sorted h
  refine ALoopS.of (List Entry × List Life) (fun x => [(0, .x (entries x.1)), (5, .own 87 5 (x.2.map Life.row))]) (fun x => Sorted x.1 ∧ livesL l = x.2 ++ livesL x.1 ∧ x.2.length + x.1.length ≤ 3000) (fun x => x.1.length) (l, []) ⟨hso, rfl, by simp; omega⟩ ?_ ?_
  · simp
  rintro ⟨rest, out⟩ ⟨h1, h2, h3⟩
  simp only at h1 h2 h3
  cases rest with
  | nil =>
    simp -implicitDefEqProofs +contextual [-Bool.and_eq_false_imp, Bool.and_eq_false_iff]
    rw [h2, show livesL [] = [] from rfl, List.append_nil]
  | cons e r =>
    simp -implicitDefEqProofs +contextual [-Bool.and_eq_false_imp, Bool.and_eq_false_iff]
    refine ACallK.of (index_of' (e :: r) e.key h1 (by omega)) ?_
    have hp := withKey_pos e r
    have hle : (withKey (e :: r) e.key).length ≤ (e :: r).length := List.length_filter_le _ _
    have hcons := livesL_cons e r
    obtain ⟨m, em⟩ : ∃ m, m = withKey (e :: r) e.key := ⟨_, rfl⟩
    have hlife : lifeOf (e :: r) e = ⟨e.key, m.length, (nubs (digests m)).length, e.time, ((m[m.length - 1]?).map Entry.time).getD 0⟩ := by rw [em]; rfl
    have hm0 : m = e :: withKey r e.key := by
      rw [em]; unfold withKey
      rw [List.filter_cons_of_pos (by simp)]
    rw [← em] at hp hle hcons ⊢
    rw [hlife] at hcons
    simp -implicitDefEqProofs +contextual [-Bool.and_eq_false_imp, Bool.and_eq_false_iff]
    refine ALoopS.of Nat (fun i => [(0, .x (entries (e :: r))), (5, .own 87 5 (out.map Life.row)), (6, .x (entries m)), (7, .mp (nubs ((digests m).take i)).length (List.range (nubs ((digests m).take i)).length) (kvs (nubs ((digests m).take i)))), (25, .x (entries m)), (26, .x (.one (.int .i64 m.length))), (27, .x (.one (.int .i64 i)))]) (fun i => i ≤ m.length) (fun i => m.length - i) 0 (Nat.zero_le _) ?_ ?_
    · simp [nubs, kvs]
    intro i hi
    by_cases hlt : i < m.length
    · obtain ⟨K, eK⟩ : ∃ K, K = nubs ((digests m).take i) := ⟨_, rfl⟩
      have hst : nubs ((digests m).take (i + 1)) = nubA K m[i].digest := by
        rw [eK, ← nubs_snoc]
        congr 1
        rw [List.take_add_one]
        congr 1
        unfold digests
        rw [List.getElem?_map, List.getElem?_eq_getElem hlt]; rfl
      rw [← eK]
      obtain ⟨f1, f2⟩ := findK_kvs m[i].digest K 0
      by_cases hin : m[i].digest ∈ K
      · obtain ⟨j, hf, hj⟩ := f2 hin
        rw [Nat.zero_add] at hf
        have hset : (kvs K).set j (.one (.str m[i].digest), .one (.bool true)) = kvs K := by
          apply List.ext_getElem?
          intro x
          rw [List.getElem?_set]
          split
          · rename_i hx
            subst hx
            have hjl := (List.getElem?_eq_some_iff.1 hj).1
            have := (List.getElem?_eq_some_iff.1 hj).2
            simp [kvs, hj, hjl, this]
          · rfl
        have hn : nubA K m[i].digest = K := by unfold nubA; rw [if_pos hin]
        simp -implicitDefEqProofs [hlt, hf, hset]
        refine Again.of (i + 1) hlt (by omega) ?_
        rw [hst, hn]
        simp
        exact wrapS _ (by omega)
      · have hf := f1 hin
        have hn : nubA K m[i].digest = K ++ [m[i].digest] := by unfold nubA; rw [if_neg hin]
        simp -implicitDefEqProofs +contextual [-Bool.and_eq_false_imp, Bool.and_eq_false_iff, hlt, hf]
        refine Again.of (i + 1) hlt (by omega) ?_
        rw [hst, hn]
        simp [kvs, List.range_succ]
        exact wrapS _ (by omega)
    · rw [show (digests m).take i = digests m from List.take_of_length_le (by simp [digests]; omega)]
      have hw : IntKind.i64.wrap ((m.length : Int) - 1) = ((m.length - 1 : Nat) : Int) := by rw [wrapS _ (by omega)]; omega
      have hl1 : m.length - 1 < m.length := by omega
      have h0 : 0 < m.length := by omega
      simp -implicitDefEqProofs [hlt, hw, hl1, h0]
      have hm00 : m[0] = e := by simp [hm0]
      simp only [List.length_cons] at hle h3
      refine ⟨⟨by omega, by unfold maxLen; omega⟩, by omega, Again.of ((e :: r).drop m.length, out ++ [⟨e.key, m.length, (nubs (digests m)).length, e.time, ((m[m.length - 1]?).map Entry.time).getD 0⟩]) ⟨h1.drop, ?_, ?_⟩ ?_ ?_⟩
      · simp only
        rw [h2, hcons, List.append_assoc]; rfl
      · simp only [List.length_append, List.length_cons, List.length_nil, List.length_drop]; omega
      · simp only [List.length_drop, List.length_cons]; omega
      · simp [hm00, hl1, Life.row, kvs]
        have := cutAt_full (List.map Entry.row (e :: r)) (m.length : Int)
        simpa using this

def simple : Entry := ⟨[107], 7, 0, [], [48, 49, 50, 51, 52, 53, 54, 55, 56, 57, 97, 98, 99, 100, 101, 102], [102], 0, 0, false⟩
theorem simple_ok : entriesF [simple] = 0 := by decide +kernel
theorem simple_life : livesL [simple] = [⟨[107], 1, 1, 7, 7⟩] := by decide +kernel
theorem law8_awake : ACalls Tryz.prog 15 [] (.x (.one (.bool true))) := by
  refine ACalls.of mixed (fn := Tryz.f15) (by kernel_rfl) (by kernel_rfl) rfl (by kernel_rfl) (by simp [Tryz.f15]) (fun hok => ?_)
  simp -implicitDefEqProofs +contextual [-Bool.and_eq_false_imp, Bool.and_eq_false_iff]
  refine ACallK.of (index_Lives [simple]) ?_
  rw [if_pos simple_ok, simple_ok, simple_life]
  simp -implicitDefEqProofs +contextual [-Bool.and_eq_false_imp, Bool.and_eq_false_iff, Life.row]

end Go.Proofs.YtklnopamfncfgaaGreatDoor
namespace Go.Proofs.YtklnopamfncfgaaGreatDoor
open Go Go.Ab
set_option linter.unusedSectionVars false
variable [Amb]
set_option maxRecDepth 100000
theorem own : ownKnob Tryz.prog.godebug = none := by kernel_rfl
theorem laidOut : laidOutB Tryz.prog = true := by kernel_rfl

def entryK : KT := .st [.s, .i .i64, .i .i64, .s, .s, .s, .st [.i .i64, .i .i64], .b]
def entriesK : KT := .sl 9 entryK
theorem spanHas : KT.has Tryz.prog (.st [.i .i64, .i .i64]) 37 :=
  ⟨_, Tryz.underlying37, by kernel_rfl, rfl, by kernel_rfl, Tryz.underlying3, rfl, by kernel_rfl, Tryz.underlying3, trivial⟩
theorem entryHas : entryK.has Tryz.prog 39 :=
  ⟨_, Tryz.underlying39, by kernel_rfl, rfl, by kernel_rfl, Tryz.underlying9, rfl, by kernel_rfl, Tryz.underlying3, rfl, by kernel_rfl, Tryz.underlying3, rfl, by kernel_rfl, Tryz.underlying9, rfl, by kernel_rfl, Tryz.underlying9, rfl, by kernel_rfl, Tryz.underlying9,
    rfl, by kernel_rfl, spanHas, rfl, by kernel_rfl, Tryz.underlying4, trivial⟩
theorem entriesHas : entriesK.has Tryz.prog 31 := ⟨39, Tryz.underlying31, by kernel_rfl, rfl, by decide, entryHas⟩
theorem entryFits {cs : List CV} (h : entryK.fits cs) : ∃ e : Entry, cs = e.row := by
  simp only [entryK, KT.fits, KT.fits.fitsAll] at h
  obtain ⟨_, _, rfl, ⟨e0, rfl, _⟩, _, _, rfl, ⟨e1, rfl, _⟩, _, _, rfl, ⟨e2, rfl, _⟩, _, _, rfl, ⟨e3, rfl, _⟩, _, _, rfl, ⟨e4, rfl, _⟩, _, _, rfl, ⟨e5, rfl, _⟩,
    _, _, rfl, ⟨_, _, rfl, ⟨e6, rfl, _⟩, _, _, rfl, ⟨e7, rfl, _⟩, rfl⟩, _, _, rfl, ⟨e8, rfl⟩, rfl⟩ := h
  exact ⟨⟨e0, e1, e2, e3, e4, e5, e6, e7, e8⟩, rfl⟩
theorem rowsFit {xs : List (List CV)} (h : ∀ x ∈ xs, entryK.fits x) : ∃ l : List Entry, xs = l.map Entry.row := by
  induction xs with
  | nil => exact ⟨[], rfl⟩
  | cons x r ih =>
    obtain ⟨l, rfl⟩ := ih (fun y hy => h y (by simp [hy]))
    obtain ⟨f, rfl⟩ := entryFits (h x (by simp))
    exact ⟨f :: l, rfl⟩
theorem entriesFits {x : XV} (h : entriesK.fitsX x) : ∃ l : List Entry, x = entries l := by
  cases x with
  | agg cs => exact h.elim
  | one c =>
    obtain ⟨xs, hx, hr⟩ := h
    injection hx with hx
    obtain ⟨l, rfl⟩ := rowsFit hr
    exact ⟨l, by rw [hx]⟩
theorem strFits {x : XV} (h : KT.fitsX .s x) : ∃ l, x = .one (.str l) := by
  cases x with
  | agg cs => exact h.elim
  | one c =>
    obtain ⟨l, hx, _⟩ := h
    injection hx with hx
    exact ⟨l, by rw [hx]⟩
theorem intFits {x : XV} (h : KT.fitsX (.i .i64) x) : ∃ n, x = .one (.int .i64 n) := by
  cases x with
  | agg cs => exact h.elim
  | one c =>
    obtain ⟨l, hx, _⟩ := h
    injection hx with hx
    exact ⟨l, by rw [hx]⟩
theorem ambT_laid {W : World} {l : List (String × DataW Unit)} (j : Nat) (h : laidMetH Tryz.prog l W) (hp : (l.all fun x => x.2.handleName?.isNone) = true) (hj : l[j]? = some ("internal/strconv.uint64pow10", Lib.tabData .u64 Lib.pow10Tab)) : (ambT Tryz.prog).holds W := by
  rw [MakeChecks.laidMetH_plain _ _ _ hp] at h
  exact ambT_of (tabIs_at (g := 3) (t := 230) (e := 209) (n := 20) (by kernel_rfl) (by kernel_rfl) Tryz.underlying230 Tryz.underlying209 (by kernel_rfl) (by kernel_rfl) j h hj)
end Go.Proofs.YtklnopamfncfgaaGreatDoor
namespace Go.Proofs.YtklnopamfncfgaaGreatDoor
open Go Go.Ab
set_option linter.unusedSectionVars false
variable [Amb]
set_option maxRecDepth 100000
/-! ### Rows whose strings are bounded -/
theorem weights_front {H : Type} {P : Program} {p : Nat → Bool} : ∀ {ts us : List TypeId} {ds gs : List (DataW H)}, (DataW.weightsEach P (ts ++ us) (ds ++ gs)).all p = true → (DataW.weightsEach P ts ds).all p = true
  | [], _, _, _, _ => by rw [DataW.weightsEach]; rfl; intros; simp_all
  | _ :: _, _, [], _, _ => by rw [DataW.weightsEach]; rfl; intros; simp_all
  | t :: ts, us, d :: ds, gs, h => by
    rw [List.cons_append, List.cons_append, DataW.weightsEach, List.all_append, Bool.and_eq_true] at h
    rw [DataW.weightsEach, List.all_append, Bool.and_eq_true]
    exact ⟨h.1, weights_front h.2⟩
def addrK : KT := .st [.s, .s, .s, .s, .s, .b, .s, .b]
theorem addrHas : KT.has Tryz.prog addrK 23 :=
  ⟨_, Tryz.underlying23, by kernel_rfl, rfl, by kernel_rfl, Tryz.underlying9, rfl, by kernel_rfl, Tryz.underlying9, rfl, by kernel_rfl, Tryz.underlying9, rfl, by kernel_rfl, Tryz.underlying9, rfl, by kernel_rfl, Tryz.underlying9,
    rfl, by kernel_rfl, Tryz.underlying4, rfl, by kernel_rfl, Tryz.underlying9, rfl, by kernel_rfl, Tryz.underlying4, trivial⟩
theorem addrFits' {cs : List CV} (h : addrK.fitsB reachBytes cs) : ∃ a : Addr, cs = a.row ∧ a.Fit := by
  simp only [addrK, KT.fitsB, KT.fitsB.fitsAllB] at h
  obtain ⟨_, _, rfl, ⟨e0, rfl, _, l0⟩, _, _, rfl, ⟨e1, rfl, _, l1⟩, _, _, rfl, ⟨e2, rfl, _, l2⟩, _, _, rfl, ⟨e3, rfl, _, l3⟩, _, _, rfl, ⟨e4, rfl, _, l4⟩, _, _, rfl, ⟨e5, rfl⟩, _, _, rfl, ⟨e6, rfl, _, l6⟩, _, _, rfl, ⟨e7, rfl⟩, rfl⟩ := h
  unfold reachBytes at l0 l1 l2 l3 l4 l6
  exact ⟨⟨e0, e1, e2, e3, e4, e5, e6, e7⟩, rfl, ⟨by simp only; omega, by simp only; omega, by simp only; omega, by simp only; omega, by simp only; omega, by simp only; omega⟩⟩
theorem addrFits {x : XV} (_ : addrK.fitsX x) (h : addrK.fitsXB reachBytes x) : ∃ a : Addr, x = .agg a.row ∧ a.Fit := by
  cases x with
  | one c => exact h.elim
  | agg cs =>
    obtain ⟨a, rfl, f⟩ := addrFits' h
    exact ⟨a, rfl, f⟩
end Go.Proofs.YtklnopamfncfgaaGreatDoor
