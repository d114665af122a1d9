/- A part of the proof: lemmas and contracts of functions. -/
import Derived.Test.YtdciogjhkckigaaDoorIxJ
namespace Go.Proofs.YtdciogjhkckigaaDoor
open Go Go.Ab
set_option maxRecDepth 100000
set_option maxHeartbeats 4000000

theorem withPrefix_le (l : List Entry) (p : List UInt8) : (withPrefix l p).length ≤ l.length := List.length_filter_le _ _
theorem withPrefix_step (l : List Entry) (p : List UInt8) {i : Nat} (hlt : i < l.length) : withPrefix (l.take (i + 1)) p = withPrefix (l.take i) p ++ (if hasPre l[i].key p = true then [l[i]] else []) := by
  unfold withPrefix
  rw [List.take_add_one, List.getElem?_eq_getElem hlt, List.filter_append]
  congr 1
  simp only [Option.toList, List.filter_cons, List.filter_nil]
theorem lawPages (l : List Entry) (p : List UInt8) (many : Int) : ACalls Tryd.prog 5 [entries l, .one (.str p), .one (.int .i64 many)] (.x (.one (.bool true))) := by
  refine ACalls.of mixed (fn := Tryd.f5) (by kernel_rfl) (by kernel_rfl) rfl (by kernel_rfl) (by simp [Tryd.f5]) (fun hok => ?_)
  simp -implicitDefEqProofs +contextual [-Bool.and_eq_false_imp, Bool.and_eq_false_iff]
  refine ACallK.of (index_checkEntries l) ?_
  simp -implicitDefEqProofs +contextual [-Bool.and_eq_false_imp, Bool.and_eq_false_iff]
  refine ⟨fun h => ACallK.of (index_Prefix l p 0 many) ?_, fun h => ?_⟩
  · have hF : prefixF l p 0 many = entriesF l := by unfold prefixF; rw [if_pos h]
    have hL : prefixL l p 0 many = [] := by unfold prefixL; rw [if_neg (by rw [hF]; exact h)]
    have hM : prefixMore l p 0 many = false := by unfold prefixMore; rw [if_neg (by rw [hF]; exact h)]
    rw [hF, hL, hM]
    simp -implicitDefEqProofs +contextual [-Bool.and_eq_false_imp, Bool.and_eq_false_iff, h]
    refine ACallGS.of (fun _ => law8_awake) rfl ?_
    simp -implicitDefEqProofs +contextual [-Bool.and_eq_false_imp, Bool.and_eq_false_iff, h]
  have hs := entriesF_short h
  refine ALoopS.of Nat (fun i => [(0, .x (entries l)), (1, .x (.one (.str p))), (2, .x (.one (.int .i64 many))), (10, .own 33 9 []), (11, .own 33 9 ((withPrefix (l.take i) p).map Entry.row)), (12, .x (.one (.int .i64 i)))]) (fun i => i ≤ l.length) (fun i => l.length - i) 0 (Nat.zero_le _) ?_ ?_
  · simp [withPrefix]
  intro i hi
  by_cases hlt : i < l.length
  · have hstep := withPrefix_step l p hlt
    have hle := withPrefix_le (l.take i) p
    rw [List.length_take] at hle
    have hwr : IntKind.i64.wrap ((i : Int) + 1) = (i : Int) + 1 := wrapS _ (by omega)
    simp -implicitDefEqProofs [hlt]
    refine ACallK.of (strings_HasPrefix _ _) ?_
    simp -implicitDefEqProofs +contextual [-Bool.and_eq_false_imp, Bool.and_eq_false_iff, hlt]
    refine ⟨fun hb => ?_, fun hb => ?_⟩
    · rw [if_pos hb] at hstep
      refine ⟨⟨by omega, by unfold maxLen; omega⟩, Again.of (i + 1) hlt (by omega) ?_⟩
      simp [hstep, hwr]
    · rw [if_neg (by simp [hb])] at hstep
      refine Again.of (i + 1) hlt (by omega) ?_
      simp [hstep, hwr]
  rw [show l.take i = l from List.take_of_length_le (by omega)]
  simp -implicitDefEqProofs [hlt]
  have hW := withPrefix_le l p
  refine ALoopS.of (Nat × Nat) (fun x => [(0, .x (entries l)), (1, .x (.one (.str p))), (2, .x (.one (.int .i64 many))), (10, .own 33 9 (((withPrefix l p).take x.2).map Entry.row)), (11, .own 33 9 ((withPrefix l p).map Entry.row)), (13, .x (.one (.int .i64 x.1)))]) (fun x => x.1 ≤ x.2 ∧ x.2 ≤ (withPrefix l p).length) (fun x => l.length + 1 - x.1) (0, 0) ⟨Nat.le_refl _, Nat.zero_le _⟩ ?_ ?_
  · simp
  rintro ⟨n, a⟩ ⟨h1, h2⟩
  simp only at h1 h2 ⊢
  have hn : (n : Int) ≤ l.length := by omega
  have hal : ((withPrefix l p).take a).length = a := by rw [List.length_take]; omega
  have hwr : IntKind.i64.wrap ((n : Int) + 1) = (n : Int) + 1 := wrapS _ (by omega)
  have hmin : min a (withPrefix l p).length = a := Nat.min_eq_left h2
  simp -implicitDefEqProofs +contextual [-Bool.and_eq_false_imp, Bool.and_eq_false_iff, hn, hmin]
  refine ACallK.of (index_Prefix l p a many) ?_
  obtain ⟨W, eW⟩ : ∃ W, W = withPrefix l p := ⟨_, rfl⟩
  by_cases hF : prefixF l p a many = 0
  · have hL : prefixL l p a many = (W.drop a).take many.toNat := by unfold prefixL; rw [if_pos hF, eW]; rfl
    have hM : prefixMore l p a many = decide (many.toNat < (W.drop a).length) := by unfold prefixMore; rw [if_pos hF, eW]; rfl
    have hm : 1 ≤ many ∧ many ≤ 3000 := by
      unfold prefixF at hF
      rw [if_neg (by simp [h])] at hF
      split at hF
      · cases hF
      split at hF
      · cases hF
      rename_i hb
      simp [inB] at hb
      omega
    rw [hF, hL, hM]
    rw [← eW] at hal h2 hW ⊢
    have hdl : (W.drop a).length = W.length - a := List.length_drop
    by_cases hmore : many.toNat < (W.drop a).length
    · have hlen : ((W.drop a).take many.toNat).length = many.toNat := by rw [List.length_take]; omega
      have htk : W.take (a + many.toNat) = W.take a ++ (W.drop a).take many.toNat := List.take_add
      rw [decide_eq_true hmore]
      simp -implicitDefEqProofs +contextual [-Bool.and_eq_false_imp, Bool.and_eq_false_iff, hlen]
      have hq : ((min many.toNat (W.length - a) : Nat) : Int) = many := by omega
      refine ⟨⟨by omega, by unfold maxLen; omega⟩, hq, fun _ => Again.of (n + 1, a + many.toNat) ⟨by omega, by omega⟩ (by omega) ?_⟩
      simp [htk, hwr]
    · have htk : W.take a ++ (W.drop a).take many.toNat = W := by rw [List.take_of_length_le (l := W.drop a) (by omega), List.take_append_drop]
      rw [decide_eq_false hmore]
      simp -implicitDefEqProofs +contextual [-Bool.and_eq_false_imp, Bool.and_eq_false_iff]
      have htk' : List.take a (List.map Entry.row W) ++ List.take many.toNat (List.drop a (List.map Entry.row W)) = W.map Entry.row := by
        rw [← List.map_take, ← List.map_drop, ← List.map_take, ← List.map_append, htk]
      rw [htk']
      refine ⟨⟨by omega, by unfold maxLen; omega⟩, ACallK.of (slices_Equal W W) ?_⟩
      simp -implicitDefEqProofs +contextual [-Bool.and_eq_false_imp, Bool.and_eq_false_iff]
      refine ACallGS.of (fun _ => law8_awake) rfl ?_
      simp -implicitDefEqProofs +contextual [-Bool.and_eq_false_imp, Bool.and_eq_false_iff]
  · have hL : prefixL l p a many = [] := by unfold prefixL; rw [if_neg hF]
    rw [hL]
    simp -implicitDefEqProofs +contextual [-Bool.and_eq_false_imp, Bool.and_eq_false_iff, hF]
    refine ACallGS.of (fun _ => law8_awake) rfl ?_
    simp -implicitDefEqProofs +contextual [-Bool.and_eq_false_imp, Bool.and_eq_false_iff]
end Go.Proofs.YtdciogjhkckigaaDoor
