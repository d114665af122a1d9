/- A part of the proof: lemmas and contracts of functions. -/
import Derived.Test.YtdciogjhkckigaaT1b
namespace Go.Proofs.Ytdciogjhkckigaa
open Go Go.Ab
set_option maxRecDepth 100000
set_option maxHeartbeats 4000000

/-- A view: its parts, and cells that nobody here looks at. -/
structure Hull where
  (c0 c1 c2 c3 c4 c5 c6 c7 c8 c9 c10 c11 c13 : CV)
def Hull.cells (h : Hull) (p : CV) : List CV := [h.c0, h.c1, h.c2, h.c3, h.c4, h.c5, h.c6, h.c7, h.c8, h.c9, h.c10, h.c11, p, h.c13]
def partsC (l : List Frag) : CV := .list 5 (l.map Frag.row)

theorem checkView (v : Hull) (l : List Frag) : ACalls Try.prog 10 [.agg (v.cells (partsC l))] (.x (.one (.int .i64 (viewF l)))) := by
  refine ACalls.of mixed (fn := Try.f10) (by kernel_rfl) (by kernel_rfl) rfl (by kernel_rfl) (by simp [Try.f10]) (fun hok => ?_)
  obtain ⟨c0, c1, c2, c3, c4, c5, c6, c7, c8, c9, c10, c11, c13⟩ := v
  simp -implicitDefEqProofs [Hull.cells, partsC]
  refine ⟨fun h => ?_, fun h => ?_⟩
  · simp [viewF]; omega
  have hv : viewF l = firstF l := by unfold viewF; rw [if_neg (by omega)]
  refine ALoopS.of Nat (fun i => [(1, .box [c0, c1, c2, c3, c4, c5, c6, c7, c8, c9, c10, c11, .list 5 (l.map Frag.row), c13]), (3, .x (.one (.int .i64 i)))]) (fun i => i ≤ l.length ∧ ∀ b ∈ l.take i, b.fault = 0) (fun i => l.length - i) 0 ?_ ?_ ?_
  · simp
  · simp
  intro i hi
  by_cases hlt : i < l.length
  · have hx : l[i]? = some l[i] := List.getElem?_eq_getElem hlt
    have hbad : l[i].fault ≠ 0 → viewF l = l[i].fault := fun hn => by rw [hv]; exact firstF_at hi.2 hx hn
    have hgood : l[i].fault = 0 → ∀ b ∈ l.take (i + 1), b.fault = 0 := fun h => take_step hi.2 hx h
    simp -implicitDefEqProofs [hlt, Frag.row]
    generalize l[i] = f at hbad hgood
    refine ACallK.of (checkAsked _ _ _) ?_
    have ha : askedF f.key 0 0 = if keyB f.key = true then 0 else 3 := by unfold askedF; simp
    simp -implicitDefEqProofs
    refine ⟨fun h => ?_, fun h => ?_⟩
    · have hk : ¬ keyB f.key = true := fun hk => h (by rw [ha, if_pos hk])
      have e : f.fault = 3 := by unfold Frag.fault; rw [if_neg hk]
      rw [hbad (by rw [e]; decide), e, ha, if_neg hk]
    have hk : keyB f.key = true := by
      refine Decidable.byContradiction fun hk => ?_
      rw [ha, if_neg hk] at h; exact absurd h (by decide)
    refine ACallK.of (within _ _ _) ?_
    simp -implicitDefEqProofs
    refine ACallGS.of (fun _ => within _ _ _) rfl ?_
    simp -implicitDefEqProofs
    refine ⟨fun h => ?_, fun h1 h2 h3 h4 => ACallK.of (within _ _ _) ?_⟩
    · have e : f.fault = 4 := by unfold Frag.fault; rw [if_pos hk, if_pos (by omega)]
      rw [hbad (by rw [e]; decide), e]
    simp -implicitDefEqProofs
    refine ACallGS.of (fun _ => within _ _ _) rfl ?_
    simp -implicitDefEqProofs
    refine ⟨fun h => ?_, fun a1 a2 a3 a4 => ⟨fun h => ⟨h, fun h' => ⟨h, h'⟩⟩, fun h => ⟨h, fun h' => ⟨h, h'⟩⟩, fun h => ?_, fun h => ?_, fun b1 b2 => ?_⟩⟩
    · have e : f.fault = 1 := by unfold Frag.fault; rw [if_pos hk, if_neg (by omega), if_pos (by omega)]
      rw [hbad (by rw [e]; decide), e]
    · omega
    · have e : f.fault = 3 := by unfold Frag.fault; rw [if_pos hk, if_neg (by omega), if_neg (by omega), if_pos (by omega)]
      rw [hbad (by rw [e]; decide), e]
    · have e : f.fault = 0 := by
        unfold Frag.fault; rw [if_pos hk, if_neg (by omega), if_neg (by omega), if_neg (by omega)]
      refine Again.of (i + 1) ⟨hlt, hgood e⟩ (by omega) ?_
      simp
      exact wrapS _ (by omega)
  · have e : viewF l = 0 := by rw [hv]; exact firstF_all (take_all (by omega) hi.2)
    simp -implicitDefEqProofs [hlt, e]
end Go.Proofs.Ytdciogjhkckigaa
