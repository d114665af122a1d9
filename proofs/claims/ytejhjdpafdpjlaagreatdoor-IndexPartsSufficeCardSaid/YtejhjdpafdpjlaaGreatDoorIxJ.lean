/- A part of the proof: lemmas and contracts of functions. -/
import Derived.Test.YtejhjdpafdpjlaaGreatDoorIxI
namespace Go.Proofs.YtejhjdpafdpjlaaGreatDoor
open Go Go.Ab
set_option linter.unusedSectionVars false
variable [Amb]
set_option maxRecDepth 100000
set_option maxHeartbeats 4000000

structure Life where
  key : List UInt8
  many : Int
  other : Int
  first : Int
  last : Int
  deriving DecidableEq
def Life.row (x : Life) : List CV := [.str x.key, .int .i64 x.many, .int .i64 x.other, .int .i64 x.first, .int .i64 x.last]
abbrev lives (l : List Life) : XV := .one (.list 5 (l.map Life.row))

/-! ### Different strings -/
def nubA (acc : List (List UInt8)) (d : List UInt8) : List (List UInt8) := if d ∈ acc then acc else acc ++ [d]
def nubs (ds : List (List UInt8)) : List (List UInt8) := ds.foldl nubA []
theorem nubs_snoc (ds : List (List UInt8)) (d : List UInt8) : nubs (ds ++ [d]) = nubA (nubs ds) d := by simp [nubs, List.foldl_append]
theorem nubs_le : ∀ (ds : List (List UInt8)) (acc : List (List UInt8)), (ds.foldl nubA acc).length ≤ acc.length + ds.length
  | [], acc => by simp
  | d :: r, acc => by
    have h1 := nubs_le r (nubA acc d)
    have h2 : (nubA acc d).length ≤ acc.length + 1 := by unfold nubA; split <;> simp
    simp only [List.foldl_cons, List.length_cons]; omega
def kvs (ks : List (List UInt8)) : List (XV × XV) := ks.map fun d => (.one (.str d), .one (.bool true))
theorem findK_kvs (d : List UInt8) : ∀ (ks : List (List UInt8)) (i : Nat), (d ∉ ks → findK .s (.one (.str d)) (kvs ks) i = some none) ∧ (d ∈ ks → ∃ j, findK .s (.one (.str d)) (kvs ks) i = some (some (i + j)) ∧ ks[j]? = some d)
  | [], i => ⟨fun _ => rfl, fun h => by cases h⟩
  | k :: r, i => by
    have ih := findK_kvs d r (i + 1)
    simp only [kvs, List.map_cons, findK, keyEq]
    by_cases h : d = k
    · subst h
      simp only [BEq.rfl]
      exact ⟨fun h => absurd (List.mem_cons_self) h, fun _ => ⟨0, rfl, rfl⟩⟩
    · have hb : (d == k) = false := by simpa using h
      rw [hb]
      refine ⟨fun hn => ih.1 (fun hm => hn (List.mem_cons_of_mem _ hm)), fun hm => ?_⟩
      obtain ⟨j, h1, h2⟩ := ih.2 ((List.mem_cons.1 hm).resolve_left h)
      exact ⟨j + 1, by rw [show i + (j + 1) = i + 1 + j by omega]; exact h1, h2⟩

/-! ### The lives -/
def digests (l : List Entry) : List (List UInt8) := l.map Entry.digest
def lifeOf (l : List Entry) (e : Entry) : Life :=
  ⟨e.key, (withKey l e.key).length, (nubs (digests (withKey l e.key))).length, e.time, (((withKey l e.key)[(withKey l e.key).length - 1]?).map Entry.time).getD 0⟩
def livesN : Nat → List Entry → List Life
  | 0, _ => []
  | _ + 1, [] => []
  | n + 1, e :: r => lifeOf (e :: r) e :: livesN n ((e :: r).drop (withKey (e :: r) e.key).length)
theorem withKey_pos (e : Entry) (r : List Entry) : 1 ≤ (withKey (e :: r) e.key).length := by
  unfold withKey
  rw [List.filter_cons_of_pos (by simp)]
  simp
theorem livesN_fuel : ∀ (n m : Nat) (l : List Entry), l.length ≤ n → l.length ≤ m → livesN n l = livesN m l
  | 0, 0, _, _, _ => rfl
  | 0, m + 1, l, h, _ => by have : l = [] := List.eq_nil_of_length_eq_zero (by omega); subst this; rfl
  | n + 1, 0, l, _, h => by have : l = [] := List.eq_nil_of_length_eq_zero (by omega); subst this; rfl
  | n + 1, m + 1, [], _, _ => rfl
  | n + 1, m + 1, e :: r, h1, h2 => by
    have hp := withKey_pos e r
    simp only [livesN]
    rw [livesN_fuel n m _ (by simp only [List.length_drop, List.length_cons] at *; omega) (by simp only [List.length_drop, List.length_cons] at *; omega)]
def livesL (l : List Entry) : List Life := livesN l.length l
theorem livesL_cons (e : Entry) (r : List Entry) : livesL (e :: r) = lifeOf (e :: r) e :: livesL ((e :: r).drop (withKey (e :: r) e.key).length) := by
  have hp := withKey_pos e r
  unfold livesL
  rw [List.length_cons, livesN, livesN_fuel r.length _ _ (by simp only [List.length_drop, List.length_cons]; omega) (Nat.le_refl _)]

theorem index_Lives (l : List Entry) : ACalls Tryz.prog 12 [entries l] (.tup [lives (if entriesF l = 0 then livesL l else []), .one (.int .i64 (entriesF l))]) := by
  refine ACalls.of mixed (fn := Tryz.f12) (by kernel_rfl) (by kernel_rfl) rfl (by kernel_rfl) (by simp [Tryz.f12]) (fun hok => ?_)
  simp -implicitDefEqProofs +contextual [-Bool.and_eq_false_imp, Bool.and_eq_false_iff]
  refine ACallK.of (index_checkEntries l) ?_
  simp -implicitDefEqProofs +contextual [-Bool.and_eq_false_imp, Bool.and_eq_false_iff]
  intro h
  rw [if_pos h, h]
  have hs := entriesF_short h
  obtain ⟨hso, _⟩ := entriesF_sorted h
  refine ALoopS.of (List Entry × List Life) (fun x => [(0, .x (entries x.1)), (5, .own 37 5 (x.2.map Life.row))]) (fun x => Sorted x.1 ∧ livesL l = x.2 ++ livesL x.1 ∧ x.2.length + x.1.length ≤ 3000) (fun x => x.1.length) (l, []) ⟨hso, rfl, by simp; omega⟩ ?_ ?_
  · simp
  rintro ⟨rest, out⟩ ⟨h1, h2, h3⟩
  simp only at h1 h2 h3
  cases rest with
  | nil =>
    simp -implicitDefEqProofs +contextual [-Bool.and_eq_false_imp, Bool.and_eq_false_iff]
    rw [h2, show livesL [] = [] from rfl, List.append_nil]
  | cons e r =>
    simp -implicitDefEqProofs +contextual [-Bool.and_eq_false_imp, Bool.and_eq_false_iff]
    refine ACallK.of (index_of' (e :: r) e.key h1 (by omega)) ?_
    have hp := withKey_pos e r
    have hle : (withKey (e :: r) e.key).length ≤ (e :: r).length := List.length_filter_le _ _
    have hcons := livesL_cons e r
    obtain ⟨m, em⟩ : ∃ m, m = withKey (e :: r) e.key := ⟨_, rfl⟩
    have hlife : lifeOf (e :: r) e = ⟨e.key, m.length, (nubs (digests m)).length, e.time, ((m[m.length - 1]?).map Entry.time).getD 0⟩ := by rw [em]; rfl
    have hm0 : m = e :: withKey r e.key := by
      rw [em]; unfold withKey
      rw [List.filter_cons_of_pos (by simp)]
    rw [← em] at hp hle hcons ⊢
    rw [hlife] at hcons
    simp -implicitDefEqProofs +contextual [-Bool.and_eq_false_imp, Bool.and_eq_false_iff]
    refine ALoopS.of Nat (fun i => [(0, .x (entries (e :: r))), (5, .own 37 5 (out.map Life.row)), (6, .x (entries m)), (7, .mp (nubs ((digests m).take i)).length (List.range (nubs ((digests m).take i)).length) (kvs (nubs ((digests m).take i)))), (25, .x (entries m)), (26, .x (.one (.int .i64 m.length))), (27, .x (.one (.int .i64 i)))]) (fun i => i ≤ m.length) (fun i => m.length - i) 0 (Nat.zero_le _) ?_ ?_
    · simp [nubs, kvs]
    intro i hi
    by_cases hlt : i < m.length
    · obtain ⟨K, eK⟩ : ∃ K, K = nubs ((digests m).take i) := ⟨_, rfl⟩
      have hst : nubs ((digests m).take (i + 1)) = nubA K m[i].digest := by
        rw [eK, ← nubs_snoc]
        congr 1
        rw [List.take_add_one]
        congr 1
        unfold digests
        rw [List.getElem?_map, List.getElem?_eq_getElem hlt]; rfl
      rw [← eK]
      obtain ⟨f1, f2⟩ := findK_kvs m[i].digest K 0
      by_cases hin : m[i].digest ∈ K
      · obtain ⟨j, hf, hj⟩ := f2 hin
        rw [Nat.zero_add] at hf
        have hset : (kvs K).set j (.one (.str m[i].digest), .one (.bool true)) = kvs K := by
          apply List.ext_getElem?
          intro x
          rw [List.getElem?_set]
          split
          · rename_i hx
            subst hx
            have hjl := (List.getElem?_eq_some_iff.1 hj).1
            have := (List.getElem?_eq_some_iff.1 hj).2
            simp [kvs, hj, hjl, this]
          · rfl
        have hn : nubA K m[i].digest = K := by unfold nubA; rw [if_pos hin]
        simp -implicitDefEqProofs [hlt, hf, hset]
        refine Again.of (i + 1) hlt (by omega) ?_
        rw [hst, hn]
        simp
        exact wrapS _ (by omega)
      · have hf := f1 hin
        have hn : nubA K m[i].digest = K ++ [m[i].digest] := by unfold nubA; rw [if_neg hin]
        simp -implicitDefEqProofs +contextual [-Bool.and_eq_false_imp, Bool.and_eq_false_iff, hlt, hf]
        refine Again.of (i + 1) hlt (by omega) ?_
        rw [hst, hn]
        simp [kvs, List.range_succ]
        exact wrapS _ (by omega)
    · rw [show (digests m).take i = digests m from List.take_of_length_le (by simp [digests]; omega)]
      have hw : IntKind.i64.wrap ((m.length : Int) - 1) = ((m.length - 1 : Nat) : Int) := by rw [wrapS _ (by omega)]; omega
      have hl1 : m.length - 1 < m.length := by omega
      have h0 : 0 < m.length := by omega
      simp -implicitDefEqProofs [hlt, hw, hl1, h0]
      have hm00 : m[0] = e := by simp [hm0]
      simp only [List.length_cons] at hle h3
      refine ⟨⟨by omega, by unfold maxLen; omega⟩, by omega, Again.of ((e :: r).drop m.length, out ++ [⟨e.key, m.length, (nubs (digests m)).length, e.time, ((m[m.length - 1]?).map Entry.time).getD 0⟩]) ⟨h1.drop, ?_, ?_⟩ ?_ ?_⟩
      · simp only
        rw [h2, hcons, List.append_assoc]; rfl
      · simp only [List.length_append, List.length_cons, List.length_nil, List.length_drop]; omega
      · simp only [List.length_drop, List.length_cons]; omega
      · simp [hm00, hl1, Life.row, kvs]
        have := cutAt_full (List.map Entry.row (e :: r)) (m.length : Int)
        simpa using this

def simple : Entry := ⟨[107], 7, 0, [], [48, 49, 50, 51, 52, 53, 54, 55, 56, 57, 97, 98, 99, 100, 101, 102], [102], 0, 0, false⟩
theorem simple_ok : entriesF [simple] = 0 := by decide +kernel
theorem simple_life : livesL [simple] = [⟨[107], 1, 1, 7, 7⟩] := by decide +kernel
theorem law8_awake : ACalls Tryz.prog 15 [] (.x (.one (.bool true))) := by
  refine ACalls.of mixed (fn := Tryz.f15) (by kernel_rfl) (by kernel_rfl) rfl (by kernel_rfl) (by simp [Tryz.f15]) (fun hok => ?_)
  simp -implicitDefEqProofs +contextual [-Bool.and_eq_false_imp, Bool.and_eq_false_iff]
  refine ACallK.of (index_Lives [simple]) ?_
  rw [if_pos simple_ok, simple_ok, simple_life]
  simp -implicitDefEqProofs +contextual [-Bool.and_eq_false_imp, Bool.and_eq_false_iff, Life.row]

end Go.Proofs.YtejhjdpafdpjlaaGreatDoor
