/- A part of the proof: lemmas and contracts of functions. -/
import Derived.Test.YtdciogjhkckigaaDoorIxO
namespace Go.Proofs.YtdciogjhkckigaaDoor
open Go Go.Ab
set_option maxRecDepth 100000
set_option maxHeartbeats 4000000

def allowed (t way : Int) (e : Entry) : Prop := ¬ ((way = 2 ∧ t < e.time) ∨ (way = 3 ∧ e.time < t))
theorem refNear_min (t way : Int) (p : List Entry) : (∀ o, refNear p t way = some o → o ∈ p) ∧ ∀ x ∈ p, allowed t way x → ∃ o, refNear p t way = some o ∧ awayI o.time t ≤ awayI x.time t := by
  refine snocInd (P := fun p => (∀ o, refNear p t way = some o → o ∈ p) ∧ ∀ x ∈ p, allowed t way x → ∃ o, refNear p t way = some o ∧ awayI o.time t ≤ awayI x.time t) ?_ ?_ p
  · exact ⟨fun o h => (by cases h), fun x hx => (by cases hx)⟩
  · rintro p e ⟨h1, h2⟩
    rw [refNear_snoc]
    unfold refStep
    by_cases hs : (way = 2 ∧ t < e.time) ∨ (way = 3 ∧ e.time < t)
    · rw [if_pos hs]
      refine ⟨fun o h => by simp [h1 o h], fun x hx ha => ?_⟩
      rcases List.mem_append.1 hx with hx | hx
      · exact h2 x hx ha
      · simp at hx; subst hx; exact absurd hs ha
    · rw [if_neg hs]
      cases hp : refNear p t way with
      | none =>
        simp only
        refine ⟨fun o h => by injection h with h; simp [h], fun x hx ha => ?_⟩
        rcases List.mem_append.1 hx with hx | hx
        · obtain ⟨o, ho, _⟩ := h2 x hx ha
          rw [hp] at ho; cases ho
        · simp at hx; subst hx; exact ⟨x, rfl, Int.le_refl _⟩
      | some y =>
        simp only
        have hy := h1 y hp
        by_cases hc : e.time = y.time ∨ awayI e.time t < awayI y.time t
        · rw [if_pos hc]
          refine ⟨fun o h => by injection h with h; simp [h], fun x hx ha => ⟨e, rfl, ?_⟩⟩
          rcases List.mem_append.1 hx with hx | hx
          · obtain ⟨o, ho, hle⟩ := h2 x hx ha
            rw [hp] at ho; injection ho with ho; subst ho
            rcases hc with hc | hc
            · rw [hc]; exact hle
            · omega
          · simp at hx; subst hx; exact Int.le_refl _
        · rw [if_neg hc]
          refine ⟨fun o h => by injection h with h; subst h; simp [hy], fun x hx ha => ⟨y, rfl, ?_⟩⟩
          rcases List.mem_append.1 hx with hx | hx
          · obtain ⟨o, ho, hle⟩ := h2 x hx ha
            rw [hp] at ho; injection ho with ho; subst ho; exact hle
          · simp at hx; subst hx; omega

theorem lawNearest (l : List Entry) (k : List UInt8) (t way : Int) : ACalls Tryd.prog 6 [entries l, .one (.str k), .one (.int .i64 t), .one (.int .i64 way)] (.x (.one (.bool true))) := by
  refine ACalls.of mixed (fn := Tryd.f6) (by kernel_rfl) (by kernel_rfl) rfl (by kernel_rfl) (by simp [Tryd.f6]) (fun hok => ?_)
  simp -implicitDefEqProofs +contextual [-Bool.and_eq_false_imp, Bool.and_eq_false_iff]
  refine ACallK.of (index_Near l k t way) ?_
  by_cases hF : nearF l k t way = 0
  · have hO : nearO l k t way = nearL (withKey l k) t way := by unfold nearO; rw [if_pos hF]
    have hFs := hF
    unfold nearF at hFs
    have hk0 : keyF l k = 0 := by
      by_cases h : keyF l k = 0
      · exact h
      · rw [if_pos h] at hFs; exact hFs
    obtain ⟨h1, h2⟩ := keyF_ok hk0
    have hs := entriesF_short h1
    obtain ⟨ht, htt⟩ := withKey_times k h1
    rw [if_neg (by simp [hk0])] at hFs
    have hw : way = 1 ∨ way = 2 ∨ way = 3 := by
      cases hb : inB 1 3 way with
      | false => rw [if_pos hb] at hFs; cases hFs
      | true => simp [inB] at hb; omega
    have h0 : 0 ≤ t ∧ t ≤ 253402300799 := by
      rw [if_neg (by rcases hw with rfl | rfl | rfl <;> decide)] at hFs
      cases hb : momentB t with
      | false => rw [if_pos hb] at hFs; cases hFs
      | true => simpa [momentB, inB] using hb
    obtain ⟨m1, m2⟩ := refNear_min t way (withKey l k)
    rw [refNear_eq hw _ htt, ← hO] at m1 m2
    rw [hF]
    have het : ∀ x ∈ l, 0 ≤ x.time ∧ x.time ≤ 253402300799 := fun x hx => entryF_time ((entriesF_sorted h1).2 x hx)
    generalize nearO l k t way = o at m1 m2
    have hoz : 0 ≤ (o.getD zeroE).time ∧ (o.getD zeroE).time ≤ 253402300799 := by
      cases o with
      | none => exact ⟨Int.le_refl _, by decide⟩
      | some x => exact ht x (m1 x rfl)
    obtain ⟨e, ee⟩ : ∃ e, e = o.getD zeroE := ⟨_, rfl⟩
    rw [← ee] at hoz ⊢
    have w1 : IntKind.i64.wrap (e.time - t) = e.time - t := wrapS _ (by omega)
    have w2 : IntKind.i64.wrap (t - e.time) = t - e.time := wrapS _ (by omega)
    simp -implicitDefEqProofs +contextual [-Bool.and_eq_false_imp, Bool.and_eq_false_iff, w1, w2]
    refine ALoopS.of Nat (fun i => [(0, .x (entries l)), (1, .x (.one (.str k))), (2, .x (.one (.int .i64 t))), (3, .x (.one (.int .i64 way))), (9, .box e.row), (10, .x (.one (.bool o.isSome))), (12, .x (.one (.int .i64 (max (e.time - t) (t - e.time))))), (13, .x (.one (.int .i64 i)))]) (fun i => i ≤ l.length) (fun i => l.length - i) 0 (Nat.zero_le _) ?_ ?_
    · simp
    intro i hi
    by_cases hlt : i < l.length
    · have hti := het _ (List.getElem_mem hlt)
      have w3 : IntKind.i64.wrap (l[i].time - t) = l[i].time - t := wrapS _ (by omega)
      have w4 : IntKind.i64.wrap (t - l[i].time) = t - l[i].time := wrapS _ (by omega)
      have hwr : IntKind.i64.wrap ((i : Int) + 1) = (i : Int) + 1 := wrapS _ (by omega)
      have hbest : l[i].key = k → allowed t way l[i] → o.isSome = true ∧ max (e.time - t) (t - e.time) ≤ max (l[i].time - t) (t - l[i].time) := by
        intro hk ha
        obtain ⟨x, hx, hle⟩ := m2 l[i] (List.mem_filter.2 ⟨List.getElem_mem hlt, by simp [hk]⟩) ha
        rw [hx] at ee
        simp at ee
        rw [ee, hx]
        exact ⟨rfl, hle⟩
      unfold allowed at hbest
      simp -implicitDefEqProofs +contextual [-Bool.and_eq_false_imp, Bool.and_eq_false_iff, hlt, w3, w4]
      refine ⟨fun _ => Again.of (i+1) hlt (by omega) (by simp [hwr]), fun hk ha hb => ?_⟩
      obtain ⟨q1, q2⟩ := hbest hk (by omega)
      refine ⟨⟨fun hn => (by rw [hn] at q1; cases q1), q2⟩, fun _ _ => Again.of (i+1) hlt (by omega) (by simp [hwr, q1])⟩
    · simp -implicitDefEqProofs [hlt]
      refine ACallGS.of (fun _ => slices_Contains l e) rfl ?_
      simp -implicitDefEqProofs +contextual [-Bool.and_eq_false_imp, Bool.and_eq_false_iff]
      have hfin : (o.isNone || e.key == k && decide (e ∈ l)) = true := by
        cases o with
        | none => rfl
        | some x =>
          have hx : e = x := ee
          have hm := List.mem_filter.1 (m1 x rfl)
          subst hx
          have hk : e.key = k := by simpa using hm.2
          simp [hk, hm.1]
      rw [hfin]
      refine ACallGS.of (fun _ => law8_awake) rfl ?_
      simp -implicitDefEqProofs +contextual [-Bool.and_eq_false_imp, Bool.and_eq_false_iff]
  · have hO : nearO l k t way = none := by unfold nearO; rw [if_neg hF]
    rw [hO]
    simp -implicitDefEqProofs +contextual [-Bool.and_eq_false_imp, Bool.and_eq_false_iff, hF]
    refine ACallGS.of (fun _ => law8_awake) rfl ?_
    simp -implicitDefEqProofs +contextual [-Bool.and_eq_false_imp, Bool.and_eq_false_iff]
end Go.Proofs.YtdciogjhkckigaaDoor
