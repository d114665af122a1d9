/- A part of the proof: lemmas and contracts of functions. -/
import Derived.Test.YtejhjdpafdpjlaaGreatDoorIxK
namespace Go.Proofs.YtejhjdpafdpjlaaGreatDoor
open Go Go.Ab
set_option linter.unusedSectionVars false
variable [Amb]
set_option maxRecDepth 100000
set_option maxHeartbeats 4000000

def zeroE : Entry := ⟨[], 0, 0, [], [], [], 0, 0, false⟩
theorem zeroE_row : [CV.str [], CV.int IntKind.i64 0, CV.int IntKind.i64 0, CV.str [], CV.str [], CV.str [], CV.int IntKind.i64 0, CV.int IntKind.i64 0, CV.bool false] = zeroE.row := rfl
def TimesOk (l : List Entry) : Prop := ∀ x ∈ l, 0 ≤ x.time ∧ x.time ≤ 253402300799
theorem entryF_time {e : Entry} (h : entryF e = 0) : 0 ≤ e.time ∧ e.time ≤ 253402300799 := by
  unfold entryF at h
  split at h
  · cases h
  · split at h
    · cases h
    · rename_i h1 h2
      have : momentB e.time = true := by
        cases hb : momentB e.time with
        | true => rfl
        | false => exact absurd (.inl hb) h2
      simpa [momentB, inB] using this
theorem withKey_times {l : List Entry} (k : List UInt8) (h : entriesF l = 0) : TimesOk (withKey l k) ∧ (withKey l k).Pairwise (fun a b => a.time ≤ b.time) := by
  obtain ⟨h1, h2⟩ := entriesF_sorted h
  refine ⟨fun x hx => entryF_time (h2 x ((List.mem_filter.1 hx).1)), ?_⟩
  have hp : (withKey l k).Pairwise Before := h1.filter _
  refine List.Pairwise.imp_of_mem ?_ hp
  intro a b ha hb hab
  have ea : a.key = k := by simpa using (List.mem_filter.1 ha).2
  have eb : b.key = k := by simpa using (List.mem_filter.1 hb).2
  rcases hab with h | ⟨_, h | ⟨h, _⟩⟩
  · rw [ea, eb, ltB_irrefl] at h; cases h
  · omega
  · omega

def optI : Option Nat → Int
  | none => -1
  | some j => j
@[simp] theorem optI_none : optI none = -1 := rfl
@[simp] theorem optI_some (j : Nat) : optI (some j) = j := rfl
/-- The entry at a place. -/
def atO (l : List Entry) (o : Option Nat) : Option Entry := o.bind fun j => l[j]?
def Lies (l : List Entry) (o : Option Nat) : Prop := ∀ j, o = some j → j < l.length

theorem index_near (l : List Entry) (t way : Int) (hb : l.length ≤ 3000) (ht : TimesOk l) (h0 : 0 ≤ t ∧ t ≤ 253402300799) (hw : way = 1 ∨ way = 2 ∨ way = 3) :
    ACalls Tryz.prog 43 [entries l, .one (.int .i64 t), .one (.int .i64 way)] (.tup [.agg ((nearL l t way).getD zeroE).row, .one (.bool (nearL l t way).isSome)]) := by
  refine ACalls.of mixed (fn := Tryz.f43) (by kernel_rfl) (by kernel_rfl) rfl (by kernel_rfl) (by simp [Tryz.f43]) (fun hok => ?_)
  simp -implicitDefEqProofs +contextual [-Bool.and_eq_false_imp, Bool.and_eq_false_iff]
  refine ALoopS.of (Nat × Option Nat × Option Nat) (fun x => [(0, .x (entries l)), (1, .x (.one (.int .i64 t))), (2, .x (.one (.int .i64 way))), (6, .box zeroE.row), (8, .x (.one (.int .i64 (optI x.2.1)))), (9, .x (.one (.int .i64 (optI x.2.2)))), (13, .x (entries l)), (14, .x (.one (.int .i64 l.length))), (15, .x (.one (.int .i64 x.1)))])
    (fun x => x.1 ≤ l.length ∧ Lies l x.2.1 ∧ Lies l x.2.2 ∧ atO l x.2.1 = lastLe (l.take x.1) t ∧ atO l x.2.2 = aft (l.take x.1) t) (fun x => l.length - x.1) (0, none, none) ⟨Nat.zero_le _, (by intro j h; cases h), (by intro j h; cases h), rfl, rfl⟩ ?_ ?_
  · simp [zeroE_row]
  rintro ⟨i, b, a⟩ ⟨hi, lb, la, eb, ea⟩
  simp only at hi lb la eb ea
  by_cases hlt : i < l.length
  · have htk : l.take (i + 1) = l.take i ++ [l[i]] := by rw [List.take_add_one, List.getElem?_eq_getElem hlt]; rfl
    have eb' : lastLe (l.take (i + 1)) t = if l[i].time ≤ t then some l[i] else lastLe (l.take i) t := by rw [htk, lastLe_snoc]
    have ea' : aft (l.take (i + 1)) t = aftS t (aft (l.take i) t) l[i] := by rw [htk, aft_snoc]
    have hat : atO l (some i) = some l[i] := by simp [atO, hlt]
    have li : Lies l (some i) := by intro j h; injection h with h; omega
    have fin : ∀ (b' a' : Option Nat), Lies l b' → Lies l a' → atO l b' = lastLe (l.take (i + 1)) t → atO l a' = aft (l.take (i + 1)) t → (i + 1 ≤ l.length ∧ Lies l b' ∧ Lies l a' ∧ atO l b' = lastLe (l.take (i + 1)) t ∧ atO l a' = aft (l.take (i + 1)) t) := fun b' a' h1 h2 h3 h4 => ⟨hlt, h1, h2, h3, h4⟩
    have hz : 0 < l.length := by omega
    have hwr : IntKind.i64.wrap ((i : Int) + 1) = (i : Int) + 1 := wrapS _ (by omega)
    by_cases c1 : l[i].time ≤ t <;> by_cases c2 : t ≤ l[i].time
    · -- both
      cases a with
      | none =>
        simp -implicitDefEqProofs +contextual [-Bool.and_eq_false_imp, Bool.and_eq_false_iff, hlt, hz, c1, c2]
        refine Again.of (i + 1, some i, some i) (fin _ _ li li ?_ ?_) (by simp only; omega) ?_
        · rw [eb', if_pos c1, hat]
        · rw [ea', ← ea]; simp [aftS, atO, c2, hlt]
        · simp [hwr]
      | some j =>
        have hj := la j rfl
        have hja : atO l (some j) = some l[j] := by simp [atO, hj]
        by_cases c3 : l[i].time = l[j].time
        · have c3b : (l[i].time == l[j].time) = true := by simp [c3]
          simp -implicitDefEqProofs +contextual [-Bool.and_eq_false_imp, Bool.and_eq_false_iff, hlt, hz, c1, c2, hj, c3b]
          refine Again.of (i + 1, some i, some i) (fin _ _ li li ?_ ?_) (by simp only; omega) ?_
          · rw [eb', if_pos c1, hat]
          · rw [ea', ← ea, hja, hat]; simp only [aftS]; rw [if_pos ⟨c2, c3⟩]
          · simp [hwr]
        · have c3b : (l[i].time == l[j].time) = false := by simp [c3]
          have hjn : ((j : Int) < 0) = False := by simp
          simp -implicitDefEqProofs +contextual [-Bool.and_eq_false_imp, Bool.and_eq_false_iff, hlt, hz, c1, c2, hj, c3b, hjn]
          refine Again.of (i + 1, some i, some j) (fin _ _ li la ?_ ?_) (by simp only; omega) ?_
          · rw [eb', if_pos c1, hat]
          · rw [ea', ← ea, hja]; simp only [aftS]; rw [if_neg (fun h => c3 h.2)]
          · simp [hwr]
    · -- ahead of the time
      have hf : ∀ o, aftS t o l[i] = o := by
        intro o; cases o with
        | none => simp only [aftS]; rw [if_neg c2]
        | some z => simp only [aftS]; rw [if_neg (fun h => c2 h.1)]
      cases a with
      | none =>
        simp -implicitDefEqProofs +contextual [-Bool.and_eq_false_imp, Bool.and_eq_false_iff, hlt, hz, c1, c2]
        refine Again.of (i + 1, some i, none) (fin _ _ li la ?_ ?_) (by simp only; omega) ?_
        · rw [eb', if_pos c1, hat]
        · rw [ea', ← ea, hf]
        · simp [hwr]
      | some j =>
        have hj := la j rfl
        simp -implicitDefEqProofs +contextual [-Bool.and_eq_false_imp, Bool.and_eq_false_iff, hlt, hz, c1, c2, hj]
        refine Again.of (i + 1, some i, some j) (fin _ _ li la ?_ ?_) (by simp only; omega) ?_
        · rw [eb', if_pos c1, hat]
        · rw [ea', ← ea, hf]
        · simp [hwr]
    · -- behind it
      cases a with
      | none =>
        simp -implicitDefEqProofs +contextual [-Bool.and_eq_false_imp, Bool.and_eq_false_iff, hlt, hz, c1, c2]
        refine Again.of (i + 1, b, some i) (fin _ _ lb li ?_ ?_) (by simp only; omega) ?_
        · rw [eb', if_neg c1, eb]
        · rw [ea', ← ea, hat]; simp [aftS, atO, c2]
        · simp [hwr]
      | some j =>
        have hj := la j rfl
        have hja : atO l (some j) = some l[j] := by simp [atO, hj]
        by_cases c3 : l[i].time = l[j].time
        · have c3b : (l[i].time == l[j].time) = true := by simp [c3]
          simp -implicitDefEqProofs +contextual [-Bool.and_eq_false_imp, Bool.and_eq_false_iff, hlt, hz, c1, c2, hj, c3b]
          refine Again.of (i + 1, b, some i) (fin _ _ lb li ?_ ?_) (by simp only; omega) ?_
          · rw [eb', if_neg c1, eb]
          · rw [ea', ← ea, hja, hat]; simp only [aftS]; rw [if_pos ⟨c2, c3⟩]
          · simp [hwr]
        · have c3b : (l[i].time == l[j].time) = false := by simp [c3]
          have hjn : ((j : Int) < 0) = False := by simp
          simp -implicitDefEqProofs +contextual [-Bool.and_eq_false_imp, Bool.and_eq_false_iff, hlt, hz, c1, c2, hj, c3b, hjn]
          refine Again.of (i + 1, b, some j) (fin _ _ lb la ?_ ?_) (by simp only; omega) ?_
          · rw [eb', if_neg c1, eb]
          · rw [ea', ← ea, hja]; simp only [aftS]; rw [if_neg (fun h => c3 h.2)]
          · simp [hwr]
    · exact absurd (by omega) c1
  · rw [show l.take i = l from List.take_of_length_le (by omega)] at eb ea
    have hN : nearL l t way = pickNear t way (atO l b) (atO l a) := by rw [eb, ea]; rfl
    rw [hN]
    have hin : ∀ (j : Nat) (h : j < l.length), 0 ≤ l[j].time ∧ l[j].time ≤ 253402300799 := fun j h => ht _ (List.getElem_mem h)
    have wa : ∀ (j : Nat) (h : j < l.length), IntKind.i64.wrap (l[j].time - t) = l[j].time - t := fun j h => wrapS _ (by have := hin j h; omega)
    have wb : ∀ (j : Nat) (h : j < l.length), IntKind.i64.wrap (t - l[j].time) = t - l[j].time := fun j h => wrapS _ (by have := hin j h; omega)
    have hneg : ∀ j : Nat, ((j : Int) < 0) = False := fun j => by simp
    have hpos : ∀ j : Nat, (0 ≤ (j : Int)) = True := fun j => by simp
    cases b with
    | none => cases a with
      | none =>
        have hz : l[0]? = none ∨ ∃ z, l[0]? = some z := by
          cases h : l[0]? with
          | none => exact .inl rfl
          | some z => exact .inr ⟨z, rfl⟩
        rcases hz with hz | ⟨z, hz⟩ <;> rcases hw with rfl | rfl | rfl <;> simp -implicitDefEqProofs +contextual [-Bool.and_eq_false_imp, Bool.and_eq_false_iff, hlt, hz, pickNear, atO, zeroE_row]
      | some j =>
        have hj := la j rfl
        have hz : 0 < l.length := by omega
        rcases hw with rfl | rfl | rfl <;> simp -implicitDefEqProofs +contextual [-Bool.and_eq_false_imp, Bool.and_eq_false_iff, hlt, hz, pickNear, atO, zeroE_row, hj, hneg, hpos]
    | some m =>
      have hm := lb m rfl
      cases a with
      | none =>
        have hz : 0 < l.length := by omega
        rcases hw with rfl | rfl | rfl <;> simp -implicitDefEqProofs +contextual [-Bool.and_eq_false_imp, Bool.and_eq_false_iff, hlt, hz, pickNear, atO, zeroE_row, hm, hneg, hpos]
      | some j =>
        have hj := la j rfl
        have w1 := wa j hj
        have w2 := wb m hm
        rcases hw with rfl | rfl | rfl
        · by_cases hq : l[j].time - t < t - l[m].time
          · have hqb : decide (l[j].time - t < t - l[m].time) = true := by simp [hq]
            simp -implicitDefEqProofs [hlt, pickNear, atO, zeroE_row, hm, hj, w1, w2, hqb, hneg, hpos]
            rw [if_pos hq]
            simp
          · have hqb : decide (l[j].time - t < t - l[m].time) = false := by simp [hq]
            simp -implicitDefEqProofs [hlt, pickNear, atO, zeroE_row, hm, hj, w1, w2, hqb, hneg, hpos]
            rw [if_neg hq]
            simp
        · simp -implicitDefEqProofs +contextual [-Bool.and_eq_false_imp, Bool.and_eq_false_iff, hlt, pickNear, atO, zeroE_row, hm, hj, w1, w2, hneg, hpos]
        · simp -implicitDefEqProofs +contextual [-Bool.and_eq_false_imp, Bool.and_eq_false_iff, hlt, pickNear, atO, zeroE_row, hm, hj, w1, w2, hneg, hpos]

end Go.Proofs.YtejhjdpafdpjlaaGreatDoor
