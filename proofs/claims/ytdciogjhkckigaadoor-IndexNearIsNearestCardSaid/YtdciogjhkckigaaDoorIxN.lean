/- A part of the proof: lemmas and contracts of functions. -/
import Derived.Test.YtdciogjhkckigaaDoorIxM
namespace Go.Proofs.YtdciogjhkckigaaDoor
open Go Go.Ab
set_option maxRecDepth 100000
set_option maxHeartbeats 4000000

theorem ref8_NearOf (l : List Entry) (k : List UInt8) (t way : Int) (hb : l.length ≤ 3000) (ht : TimesOk (withKey l k)) (h0 : 0 ≤ t ∧ t ≤ 253402300799) (hw : way = 1 ∨ way = 2 ∨ way = 3) :
    ACalls Tryd.prog 55 [entries l, .one (.str k), .one (.int .i64 t), .one (.int .i64 way)] (.tup [.agg ((refNear (withKey l k) t way).getD zeroE).row, .one (.bool (refNear (withKey l k) t way).isSome)]) := by
  refine ACalls.of mixed (fn := Tryd.f55) (by kernel_rfl) (by kernel_rfl) rfl (by kernel_rfl) (by simp [Tryd.f55]) (fun hok => ?_)
  simp -implicitDefEqProofs +contextual [-Bool.and_eq_false_imp, Bool.and_eq_false_iff]
  refine ACallK.of (ref8_found l k hb) ?_
  have hml := withKey_le l k
  generalize withKey l k = m at ht hml
  simp -implicitDefEqProofs +contextual [-Bool.and_eq_false_imp, Bool.and_eq_false_iff]
  refine ALoopS.of (Nat × Option Entry) (fun x => [(2, .x (.one (.int .i64 t))), (3, .x (.one (.int .i64 way))), (8, .box zeroE.row), (10, .box ((x.2).getD zeroE).row), (11, .x (.one (.bool x.2.isSome))), (16, .x (entries m)), (17, .x (.one (.int .i64 m.length))), (18, .x (.one (.int .i64 x.1)))])
    (fun x => x.1 ≤ m.length ∧ x.2 = refNear (m.take x.1) t way) (fun x => m.length - x.1) (0, none) ⟨Nat.zero_le _, rfl⟩ ?_ ?_
  · simp [zeroE_row]
  rintro ⟨i, o⟩ ⟨hi, ho⟩
  simp only at hi ho
  by_cases hlt : i < m.length
  · have htk : m.take (i + 1) = m.take i ++ [m[i]] := by rw [List.take_add_one, List.getElem?_eq_getElem hlt]; rfl
    have eo : refNear (m.take (i + 1)) t way = refStep t way o m[i] := by rw [htk, refNear_snoc, ← ho]
    have hti := ht _ (List.getElem_mem hlt)
    have hwr : IntKind.i64.wrap ((i : Int) + 1) = (i : Int) + 1 := wrapS _ (by omega)
    have hmem : ∀ x, o = some x → x ∈ m := by
      have : ∀ (p : List Entry), (∀ x ∈ p, x ∈ m) → ∀ x, refNear p t way = some x → x ∈ m := by
        intro p
        refine snocInd (P := fun p => (∀ x ∈ p, x ∈ m) → ∀ x, refNear p t way = some x → x ∈ m) ?_ ?_ p
        · intro _ x h; cases h
        · intro p e ih hp x h
          rw [refNear_snoc] at h
          have ih' := ih (fun x hx => hp x (by simp [hx]))
          unfold refStep at h
          split at h
          · exact ih' x h
          · split at h
            · injection h with h; rw [← h]; exact hp e (by simp)
            · rename_i y hy
              split at h
              · injection h with h; rw [← h]; exact hp e (by simp)
              · injection h with h; rw [← h]; exact ih' y hy
      intro x hx
      exact this (m.take i) (fun y hy => List.mem_of_mem_take hy) x (by rw [← ho]; exact hx)
    have none0 : ∀ (xs : List XV) (K : RV → Prop), K (.x (.one (.int .i64 0))) → @ACallGS Tryd.prog false 75 xs ⟨K⟩ := fun xs K hK => ACallGS.of (fun h => by cases h) rfl hK
    by_cases hs : (way = 2 ∧ t < m[i].time) ∨ (way = 3 ∧ m[i].time < t)
    · have hq : refStep t way o m[i] = o := by unfold refStep; rw [if_pos hs]
      rw [hq] at eo
      rcases hs with ⟨rfl, hs⟩ | ⟨rfl, hs⟩
      · simp -implicitDefEqProofs +contextual [-Bool.and_eq_false_imp, Bool.and_eq_false_iff, hlt, hs]
        refine Again.of (i + 1, o) ⟨hlt, eo.symm⟩ (by simp only; omega) ?_
        simp [hwr]
      · simp -implicitDefEqProofs +contextual [-Bool.and_eq_false_imp, Bool.and_eq_false_iff, hlt, hs]
        refine Again.of (i + 1, o) ⟨hlt, eo.symm⟩ (by simp only; omega) ?_
        simp [hwr]
    · have hq : refStep t way o m[i] = match o with | none => some m[i] | some x => if m[i].time = x.time ∨ awayI m[i].time t < awayI x.time t then some m[i] else some x := by unfold refStep; rw [if_neg hs]; cases o <;> rfl
      rw [hq] at eo
      have c2 : way = 2 → (t < m[i].time) = False := fun h => by simp; omega
      have c3 : way = 3 → (m[i].time < t) = False := fun h => by simp; omega
      cases o with
      | none =>
        rcases hw with rfl | rfl | rfl
        · simp -implicitDefEqProofs +contextual [-Bool.and_eq_false_imp, Bool.and_eq_false_iff, hlt]
          refine none0 _ _ ?_
          simp -implicitDefEqProofs +contextual [-Bool.and_eq_false_imp, Bool.and_eq_false_iff]
          refine none0 _ _ ?_
          simp -implicitDefEqProofs +contextual [-Bool.and_eq_false_imp, Bool.and_eq_false_iff, hlt]
          refine Again.of (i + 1, some m[i]) ⟨hlt, eo.symm⟩ (by simp only; omega) ?_
          simp [hwr]
        · simp -implicitDefEqProofs +contextual [-Bool.and_eq_false_imp, Bool.and_eq_false_iff, hlt, c2 rfl]
          refine none0 _ _ ?_
          simp -implicitDefEqProofs +contextual [-Bool.and_eq_false_imp, Bool.and_eq_false_iff]
          refine none0 _ _ ?_
          simp -implicitDefEqProofs +contextual [-Bool.and_eq_false_imp, Bool.and_eq_false_iff, hlt]
          refine Again.of (i + 1, some m[i]) ⟨hlt, eo.symm⟩ (by simp only; omega) ?_
          simp [hwr]
        · simp -implicitDefEqProofs +contextual [-Bool.and_eq_false_imp, Bool.and_eq_false_iff, hlt, c3 rfl]
          refine none0 _ _ ?_
          simp -implicitDefEqProofs +contextual [-Bool.and_eq_false_imp, Bool.and_eq_false_iff]
          refine none0 _ _ ?_
          simp -implicitDefEqProofs +contextual [-Bool.and_eq_false_imp, Bool.and_eq_false_iff, hlt]
          refine Again.of (i + 1, some m[i]) ⟨hlt, eo.symm⟩ (by simp only; omega) ?_
          simp [hwr]
      | some x =>
        have hx := ht x (hmem x rfl)
        by_cases c : m[i].time = x.time
        · have cb : (m[i].time == x.time) = true := by simp [c]
          simp only [eq_true c, true_or, if_true] at eo
          rcases hw with rfl | rfl | rfl
          · simp -implicitDefEqProofs +contextual [-Bool.and_eq_false_imp, Bool.and_eq_false_iff, hlt, cb]
            refine none0 _ _ ?_
            simp -implicitDefEqProofs +contextual [-Bool.and_eq_false_imp, Bool.and_eq_false_iff, hlt, cb]
            refine none0 _ _ ?_
            simp -implicitDefEqProofs +contextual [-Bool.and_eq_false_imp, Bool.and_eq_false_iff, hlt, cb]
            refine Again.of (i + 1, some m[i]) ⟨hlt, eo.symm⟩ (by simp only; omega) ?_
            simp [hwr]
          · simp -implicitDefEqProofs +contextual [-Bool.and_eq_false_imp, Bool.and_eq_false_iff, hlt, cb, c2 rfl]
            refine none0 _ _ ?_
            simp -implicitDefEqProofs +contextual [-Bool.and_eq_false_imp, Bool.and_eq_false_iff, hlt, cb]
            refine none0 _ _ ?_
            simp -implicitDefEqProofs +contextual [-Bool.and_eq_false_imp, Bool.and_eq_false_iff, hlt, cb]
            refine Again.of (i + 1, some m[i]) ⟨hlt, eo.symm⟩ (by simp only; omega) ?_
            simp [hwr]
          · simp -implicitDefEqProofs +contextual [-Bool.and_eq_false_imp, Bool.and_eq_false_iff, hlt, cb, c3 rfl]
            refine none0 _ _ ?_
            simp -implicitDefEqProofs +contextual [-Bool.and_eq_false_imp, Bool.and_eq_false_iff, hlt, cb]
            refine none0 _ _ ?_
            simp -implicitDefEqProofs +contextual [-Bool.and_eq_false_imp, Bool.and_eq_false_iff, hlt, cb]
            refine Again.of (i + 1, some m[i]) ⟨hlt, eo.symm⟩ (by simp only; omega) ?_
            simp [hwr]
        · have cb : (m[i].time == x.time) = false := by simp [c]
          simp only [eq_false c, false_or] at eo
          rcases hw with rfl | rfl | rfl
          · simp -implicitDefEqProofs +contextual [-Bool.and_eq_false_imp, Bool.and_eq_false_iff, hlt, cb]
            refine ACallGS.of (fun _ => away_ok _ _ hti h0) rfl ?_
            simp -implicitDefEqProofs +contextual [-Bool.and_eq_false_imp, Bool.and_eq_false_iff, hlt, cb]
            refine ACallGS.of (fun _ => away_ok _ _ hx h0) rfl ?_
            simp -implicitDefEqProofs +contextual [-Bool.and_eq_false_imp, Bool.and_eq_false_iff, hlt, cb]
            refine ⟨fun hd => ?_, fun hd => ?_⟩
            · rw [if_pos hd] at eo
              refine Again.of (i + 1, some m[i]) ⟨hlt, eo.symm⟩ (by simp only; omega) ?_
              simp [hwr]
            · rw [if_neg (by omega)] at eo
              refine Again.of (i + 1, some x) ⟨hlt, eo.symm⟩ (by simp only; omega) ?_
              simp [hwr]
          · simp -implicitDefEqProofs +contextual [-Bool.and_eq_false_imp, Bool.and_eq_false_iff, hlt, cb, c2 rfl]
            refine ACallGS.of (fun _ => away_ok _ _ hti h0) rfl ?_
            simp -implicitDefEqProofs +contextual [-Bool.and_eq_false_imp, Bool.and_eq_false_iff, hlt, cb]
            refine ACallGS.of (fun _ => away_ok _ _ hx h0) rfl ?_
            simp -implicitDefEqProofs +contextual [-Bool.and_eq_false_imp, Bool.and_eq_false_iff, hlt, cb]
            refine ⟨fun hd => ?_, fun hd => ?_⟩
            · rw [if_pos hd] at eo
              refine Again.of (i + 1, some m[i]) ⟨hlt, eo.symm⟩ (by simp only; omega) ?_
              simp [hwr]
            · rw [if_neg (by omega)] at eo
              refine Again.of (i + 1, some x) ⟨hlt, eo.symm⟩ (by simp only; omega) ?_
              simp [hwr]
          · simp -implicitDefEqProofs +contextual [-Bool.and_eq_false_imp, Bool.and_eq_false_iff, hlt, cb, c3 rfl]
            refine ACallGS.of (fun _ => away_ok _ _ hti h0) rfl ?_
            simp -implicitDefEqProofs +contextual [-Bool.and_eq_false_imp, Bool.and_eq_false_iff, hlt, cb]
            refine ACallGS.of (fun _ => away_ok _ _ hx h0) rfl ?_
            simp -implicitDefEqProofs +contextual [-Bool.and_eq_false_imp, Bool.and_eq_false_iff, hlt, cb]
            refine ⟨fun hd => ?_, fun hd => ?_⟩
            · rw [if_pos hd] at eo
              refine Again.of (i + 1, some m[i]) ⟨hlt, eo.symm⟩ (by simp only; omega) ?_
              simp [hwr]
            · rw [if_neg (by omega)] at eo
              refine Again.of (i + 1, some x) ⟨hlt, eo.symm⟩ (by simp only; omega) ?_
              simp [hwr]
  · simp -implicitDefEqProofs [hlt]
    rw [show m.take i = m from List.take_of_length_le (by omega)] at ho
    subst ho
    exact ⟨rfl, rfl⟩

end Go.Proofs.YtdciogjhkckigaaDoor
