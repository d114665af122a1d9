/- A part of the proof: lemmas and contracts of functions. -/
import Derived.Test.YtejhjdpafdpjlaaGreatDoorIxPB
import Derived.Test.YtejhjdpafdpjlaaGreatDoorIxJ
namespace Go.Proofs.YtejhjdpafdpjlaaGreatDoor
open Go Go.Ab
set_option linter.unusedSectionVars false
variable [Amb] [HasPow10 Tryz.prog]
set_option maxRecDepth 100000
set_option maxHeartbeats 4000000

theorem linesF_ok {l : List Entry} (h : linesF l = 0) : l.all noDash = true ∧ (textAll l).length ≤ 600000 ∧ linesL l = l.map lineL := by
  have hL : linesL l = l.map lineL := by unfold linesL; rw [if_pos h]
  unfold linesF at h
  split at h
  · cases h
  · split at h
    · cases h
    · rename_i h1 h2
      exact ⟨by simpa using h1, by omega, hL⟩
theorem tl_le (l : List Entry) (i : Nat) : tl l i ≤ (textAll l).length := by
  have := textAll_append (l.take i) (l.drop i)
  rw [List.take_append_drop] at this
  unfold tl
  rw [this, List.length_append]; omega
theorem cut_text (l : List Entry) (i m : Nat) : (Lib.join (((l.map lineL).take (i + m)).drop i) []).length = tl l (i + m) - tl l i := by
  rw [join_none, tl_cut, Nat.add_sub_cancel_left]
  congr 1
  unfold textAll
  congr 1
  rw [← List.map_take, ← List.map_drop]
  congr 1
  rw [List.drop_take, Nat.add_sub_cancel_left]
theorem rights' {l : List Entry} (h : entriesF l = 0) : ∀ i, (h : i < l.length) → Right l[i] := fun _ _ => rights h _ (List.getElem_mem _)
theorem index_Parts (l : List Entry) (many : Int) : ACalls Tryz.prog 19 [entries l, .one (.int .i64 many)] (.tup [partsV (partsR l many), .one (.int .i64 (partsF l many))]) := by
  refine ACalls.of mixed (fn := Tryz.f19) (by kernel_rfl) (by kernel_rfl) rfl (by kernel_rfl) (by simp [Tryz.f19]) (fun hok => ?_)
  generalize hF : partsF l many = F
  have hL : partsR l many = if F = 0 then partsN l many.toNat (partsM l.length many.toNat) else [] := by rw [← hF]; rfl
  generalize partsR l many = L at hL ⊢
  unfold partsF at hF
  simp -implicitDefEqProofs
  refine ACallK.of (index_checkEntries l) ?_
  by_cases h1 : entriesF l = 0
  rotate_left
  · rw [if_pos h1] at hF
    subst hF
    rw [if_neg h1] at hL
    subst hL
    simp -implicitDefEqProofs [h1]
  rw [if_neg (by simp [h1])] at hF
  have hs := entriesF_short h1
  simp -implicitDefEqProofs [h1]
  refine ACallK.of (index_lines l hs (rights h1)) ?_
  by_cases h2 : linesF l = 0
  rotate_left
  · rw [if_pos h2] at hF
    subst hF
    rw [if_neg h2] at hL
    subst hL
    simp -implicitDefEqProofs [h2]
  rw [if_neg (by simp [h2])] at hF
  obtain ⟨_, htl, hW⟩ := linesF_ok h2
  rw [hW]
  simp -implicitDefEqProofs [h2]
  refine ACallK.of (index_within _ _ _) ?_
  by_cases h3 : inB 1 1000 many = false
  · rw [if_pos h3] at hF
    subst hF
    subst hL
    simp -implicitDefEqProofs [h3]
  rw [if_neg h3] at hF
  have h3' : inB 1 1000 many = true := by simpa using h3
  simp only [inB, Bool.and_eq_true, decide_eq_true_eq] at h3'
  obtain ⟨m, em⟩ : ∃ m : Nat, many = m := ⟨many.toNat, by omega⟩
  subst em
  have hm : 0 < m := by omega
  have h3'' : inB 1 1000 (m : Int) = true := by simpa using h3
  rw [show (m : Int).toNat = m by omega] at hF hL
  have hq : ((l.length : Int) + m - 1).tdiv m = (partsM l.length m : Nat) := by
    unfold partsM
    rw [show (l.length : Int) + m - 1 = ((l.length + m - 1 : Nat) : Int) by omega, Int.ofNat_tdiv]
  have w1 : IntKind.i64.wrap ((l.length : Int) + m) = (l.length : Int) + m := wrapS _ (by omega)
  have w2 : IntKind.i64.wrap ((l.length : Int) + m - 1) = (l.length : Int) + m - 1 := wrapS _ (by omega)
  have hle : partsM l.length m ≤ l.length + m := by
    unfold partsM
    exact Nat.le_trans (Nat.div_le_self _ _) (by omega)
  have w3 : IntKind.i64.wrap ((partsM l.length m : Nat) : Int) = ((partsM l.length m : Nat) : Int) := wrapS _ (by omega)
  have hm0 : ((m : Int) = 0) = False := eq_false (by omega)
  have hm0' : (m = 0) = False := eq_false (by omega)
  by_cases h4 : 1000 < partsM l.length m
  · rw [if_pos h4] at hF
    subst hF
    subst hL
    have h4' : ((1000 : Int) < ((partsM l.length m : Nat) : Int)) = True := eq_true (by omega)
    simp -implicitDefEqProofs [h3'', w1, w2, hq, w3, h4', hm0, hm0']
  rw [if_neg h4] at hF
  have h4' : ((1000 : Int) < ((partsM l.length m : Nat) : Int)) = False := eq_false (by omega)
  subst hF
  rw [if_pos rfl] at hL
  subst hL
  simp -implicitDefEqProofs [h3'', w1, w2, hq, w3, h4', hm0, hm0']
  obtain ⟨W, eW⟩ : ∃ W, W = l.map lineL := ⟨_, rfl⟩
  have hWl : W.length = l.length := by rw [eW]; simp
  have hcut : ∀ i, (Lib.join ((W.take (i + m)).drop i) []).length = tl l (i + m) - tl l i := fun i => by rw [eW]; exact cut_text l i m
  have htle := tl_le l
  refine ALoopS.of Nat (fun k => [(0, .x (entries l)), (1, .x (.one (.int .i64 m))), (7, .x (strs W)), (9, .own 71 5 ((partsN l m k).map Part.row)), (10, .x (.one (.int .i64 (tl l (k * m))))), (11, .x (.one (.int .i64 ((k * m : Nat) : Int))))]) (fun k => k ≤ partsM l.length m) (fun k => partsM l.length m - k) 0 (Nat.zero_le _) ?_ ?_
  · simp [partsN, tl_zero, eW]
  clear hW eW
  intro k hk
  obtain ⟨i, ei⟩ : ∃ i, i = k * m := ⟨_, rfl⟩
  have hkm := partsM_lt (n := l.length) (k := k) hm
  rw [← ei] at hkm ⊢
  by_cases hlt : i < l.length
  · have hkl := hkm.2 hlt
    have hnext : (k + 1) * m = i + m := by rw [Nat.succ_mul, ei]
    have w4 : IntKind.i64.wrap ((i : Int) + m) = (i : Int) + m := wrapS _ (by omega)
    have hmin : min ((i : Int) + m) (l.length : Int) = ((min (i + m) l.length : Nat) : Int) := by omega
    have hcutW : (W.take (min (i + m) l.length)).drop i = (W.take (i + m)).drop i := by
      by_cases h : i + m ≤ l.length
      · rw [Nat.min_eq_left h]
      · rw [Nat.min_eq_right (by omega), List.take_of_length_le (by omega), List.take_of_length_le (by omega)]
    have hlenW : ((W.take (i + m)).drop i).length = min m (l.length - i) := by
      rw [List.length_drop, List.length_take]; omega
    have hjoin := hcut i
    obtain ⟨V, eV⟩ : ∃ V, V = (W.take (i + m)).drop i := ⟨_, rfl⟩
    have hVm : List.drop i (List.take (min (i + m) l.length) (List.map (fun s => [CV.str s]) W)) = V.map (fun s => [CV.str s]) := by
      rw [← List.map_take, ← List.map_drop, hcutW, eV]
    rw [← eV] at hcutW hlenW hjoin
    have ht1 := htle (i + m)
    have hmono : tl l i ≤ tl l (i + m) := by rw [tl_cut]; omega
    have hb1 : (i ≤ min (i + m) l.length) = True := eq_true (by omega)
    have hb2 : (min (i + m) l.length ≤ l.length) = True := eq_true (by omega)
    have hb3 : (0 ≤ (i : Int)) = True := eq_true (by omega)
    simp -implicitDefEqProofs [hlt, w4, hmin, hWl, hVm, hb1, hb2, hb3, cutAt]
    refine ACallK.of (strings_Join V [] (by omega) (by omega)) ?_
    have w5 : IntKind.i64.wrap ((tl l i : Int) + (tl l (i + m) - tl l i : Nat)) = (tl l (i + m) : Int) := by rw [wrapS _ (by omega)]; omega
    have hpk : partK l m k = ⟨l[i].key, l[i].time, tl l i, tl l (i + m), ((min m (l.length - i) : Nat) : Int)⟩ := by
      unfold partK
      rw [← ei, atE_eq hlt]
    simp -implicitDefEqProofs [hlt, hjoin, w5, hlenW, Entry.row, w4]
    refine ⟨⟨by omega, by unfold maxLen; omega⟩, Again.of (k + 1) hkl (by omega) ?_⟩
    rw [hnext, partsN_succ, hpk]
    simp [Part.row]
  · have hke : k = partsM l.length m := by
      have : ¬ k < partsM l.length m := fun h => hlt (hkm.1 h)
      omega
    subst hke
    simp -implicitDefEqProofs [hlt]

theorem tl_len_le {l : List Entry} (hR : ∀ e ∈ l, Right e) (i : Nat) : tl l i ≤ 2306 * l.length := textAll_take hR i
end Go.Proofs.YtejhjdpafdpjlaaGreatDoor
