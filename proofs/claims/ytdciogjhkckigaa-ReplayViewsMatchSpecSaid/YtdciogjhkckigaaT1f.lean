/- A part of the proof: lemmas and contracts of functions. -/
import Derived.Test.YtdciogjhkckigaaT1e
namespace Go.Proofs.Ytdciogjhkckigaa
open Go Go.Ab
set_option maxRecDepth 100000
set_option maxHeartbeats 4000000

theorem awake : ACalls Try.prog 8 [] (.x (.one (.bool true))) := by
  refine ACalls.of mixed (fn := Try.f8) (by kernel_rfl) (by kernel_rfl) rfl (by kernel_rfl) (by simp [Try.f8]) (fun hok => ?_)
  simp -implicitDefEqProofs
  refine ACallK.of (ACalls.le1 ?_ (completeOwn ⟨.bool false, .nil, .str [], .int .i64 0, .int .i64 0, .str [], .str [], .str [], .int .i64 0, .int .i64 0, .bool false, .nil, .int .i64 0⟩ [])) ?_
  · simp [leL, leC, Hull.cells, partsC]
  have e1 : complete [] = ratio 1 1 := rfl
  have e2 : viewF [] = 0 := rfl
  rw [e1, e2, ratio]
  simp -implicitDefEqProofs

theorem law (v : Hull) (l : List Frag) : ACalls Try.prog 3 [.agg (v.cells (partsC l))] (.x (.one (.bool true))) := by
  refine ACalls.of mixed (fn := Try.f3) (by kernel_rfl) (by kernel_rfl) rfl (by kernel_rfl) (by simp [Try.f3]) (fun hok => ?_)
  have h1 := completeOwn v l
  have h2 := completeRef v l
  have h3 := worstOwn v l
  have h4 := worstRef v l
  obtain ⟨c0, c1, c2, c3, c4, c5, c6, c7, c8, c9, c10, c11, c13⟩ := v
  have ⟨a, b, e⟩ : ∃ a b, complete l = ratio a b := by
    unfold complete
    split
    · exact ⟨_, _, rfl⟩
    · split
      · exact ⟨_, _, rfl⟩
      · exact ⟨_, _, rfl⟩
  have ⟨x, y, z, e'⟩ : ∃ x y z, worst l = .tup [.one (.int .i64 x), .one (.int .i64 y), .one (.int .i64 z)] := by
    unfold worst
    split
    · exact ⟨_, _, _, rfl⟩
    · exact ⟨_, _, _, rfl⟩
  rw [e, ratio] at h1 h2
  rw [e'] at h3 h4
  simp -implicitDefEqProofs [Hull.cells, partsC] at h1 h2 h3 h4 ⊢
  refine ACallK.of h1 ?_
  simp -implicitDefEqProofs
  refine ACallK.of h2 ?_
  simp -implicitDefEqProofs
  refine ACallK.of h3 ?_
  simp -implicitDefEqProofs
  refine ACallK.of h4 ?_
  simp -implicitDefEqProofs
  refine ACallGS.of (fun _ => awake) rfl ?_
  simp -implicitDefEqProofs
end Go.Proofs.Ytdciogjhkckigaa
