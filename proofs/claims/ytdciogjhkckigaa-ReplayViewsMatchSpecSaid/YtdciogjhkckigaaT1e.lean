/- A part of the proof: lemmas and contracts of functions. -/
import Derived.Test.YtdciogjhkckigaaT1d
namespace Go.Proofs.Ytdciogjhkckigaa
open Go Go.Ab
set_option maxRecDepth 100000
set_option maxHeartbeats 4000000

theorem completeOwn (v : Hull) (l : List Frag) : ACalls Try.prog 4 [.agg (v.cells (partsC l))] (.tup [complete l, .one (.int .i64 (viewF l))]) := by
  refine ACalls.of mixed (fn := Try.f4) (by kernel_rfl) (by kernel_rfl) rfl (by kernel_rfl) (by simp [Try.f4]) (fun hok => ?_)
  obtain ⟨c0, c1, c2, c3, c4, c5, c6, c7, c8, c9, c10, c11, c13⟩ := v
  simp -implicitDefEqProofs [Hull.cells, partsC]
  refine ACallK.of (checkParts l) ?_
  simp -implicitDefEqProofs
  refine ⟨fun h => ?_, fun h => ?_⟩
  · simp [complete, h, ratio]
  have hlen := viewF_short h
  refine ALoopS.of Nat (fun i => [(1, .box [c0, c1, c2, c3, c4, c5, c6, c7, c8, c9, c10, c11, .list 5 (l.map Frag.row), c13]), (2, .box [.int .i64 0, .int .i64 0]), (5, .x (.one (.int .i64 (countL (l.take i))))), (18, .x (.one (.list 5 (l.map Frag.row)))), (19, .x (.one (.int .i64 l.length))), (20, .x (.one (.int .i64 i)))]) (fun i => i ≤ l.length) (fun i => l.length - i) 0 ?_ ?_ ?_
  · simp
  · simp [countL]
  intro i hi
  by_cases hlt : i < l.length
  · have hx : l[i]? = some l[i] := List.getElem?_eq_getElem hlt
    have hcnt := countL_take hx
    have hle := countL_le (l.take i)
    rw [List.length_take] at hle
    simp -implicitDefEqProofs [hlt, Frag.row]
    generalize l[i] = f at hcnt
    refine ⟨fun hs => ?_, fun hs => ?_⟩
    · rw [if_neg hs] at hcnt
      refine Again.of (i + 1) hlt (by omega) ?_
      simp -implicitDefEqProofs [hcnt]
      exact ⟨wrapS _ (by omega), wrapS _ (by omega)⟩
    · rw [if_pos hs] at hcnt
      refine Again.of (i + 1) hlt (by omega) ?_
      simp -implicitDefEqProofs [hcnt]
      exact wrapS _ (by omega)
  · simp -implicitDefEqProofs [hlt]
    refine ⟨fun he => ?_, fun he => ?_⟩
    · subst he
      simp [complete, h, ratio]
    have ht : l.take i = l := List.take_of_length_le (by omega)
    rw [ht]
    have hpos : 0 < l.length := List.length_pos_iff.2 he
    have hcl := countL_le l
    refine ALoopS.of (Nat × Nat) (fun i => [(1, .box [c0, c1, c2, c3, c4, c5, c6, c7, c8, c9, c10, c11, .list 5 (l.map Frag.row), c13]), (2, .box [.int .i64 0, .int .i64 0]), (5, .x (.one (.int .i64 (countL l)))), (8, .x (.one (.int .i64 i.1))), (9, .x (.one (.int .i64 i.2)))]) (fun i => i.1 ≤ l.length ∧ i.2 ≤ l.length ∧ Nat.gcd i.1 i.2 = Nat.gcd (countL l) l.length) (fun i => i.1) (countL l, l.length) ?_ ?_ ?_
    · simp; exact hcl
    · simp
    rintro ⟨a, b⟩ ⟨ha, hb, hg⟩
    simp -implicitDefEqProofs at ha hb hg ⊢
    refine ⟨fun hn => ?_, fun hz => ?_⟩
    · refine ⟨by omega, Again.of (b % a, a) ⟨?_, ha, ?_⟩ ?_ ?_⟩
      · have := Nat.mod_lt b hn; simp only; omega
      · simp only; rw [← hg, ← Nat.gcd_rec a b]
      · exact Nat.mod_lt b hn
      · simp
        exact Int.ofNat_tmod b a
    · subst hz
      rw [Nat.gcd_zero_left] at hg
      subst hg
      have hgp : 0 < Nat.gcd (countL l) l.length := Nat.gcd_pos_of_pos_right _ hpos
      have h3 := Nat.div_le_self (countL l) (Nat.gcd (countL l) l.length)
      have h4 := Nat.div_le_self l.length (Nat.gcd (countL l) l.length)
      have e1 : IntKind.i64.wrap ((countL l : Int) / (Nat.gcd (countL l) l.length : Nat)) = ((countL l / Nat.gcd (countL l) l.length : Nat) : Int) := by
        rw [← Int.natCast_ediv]
        generalize countL l / Nat.gcd (countL l) l.length = q at h3 ⊢
        exact wrapS _ (by omega)
      have e2 : IntKind.i64.wrap ((l.length : Int) / (Nat.gcd (countL l) l.length : Nat)) = ((l.length / Nat.gcd (countL l) l.length : Nat) : Int) := by
        rw [← Int.natCast_ediv]
        generalize l.length / Nat.gcd (countL l) l.length = q at h4 ⊢
        exact wrapS _ (by omega)
      rw [complete, if_neg (by simp [h]), if_neg (by omega)]
      simp -implicitDefEqProofs
      simp [lowR, ratio, h]
      exact ⟨fun _ => he, (e1.trans (Int.natCast_ediv _ _)).symm, (e2.trans (Int.natCast_ediv _ _)).symm⟩

def farF (a : Int) (f : Frag) : Int := if f.state = 6 then a else max a f.drift
def worF (a : Nat) (f : Frag) : Nat := if f.state = 5 ∨ f.state = 4 then a + 1 else a
def farL (l : List Frag) : Int := l.foldl farF 0
def worL (l : List Frag) : Nat := l.foldl worF 0
theorem farL_take {l : List Frag} {i : Nat} {f : Frag} (h : l[i]? = some f) : farL (l.take (i + 1)) = farF (farL (l.take i)) f := by
  rw [List.take_add_one, h]; simp [farL, List.foldl_append]
theorem worL_take {l : List Frag} {i : Nat} {f : Frag} (h : l[i]? = some f) : worL (l.take (i + 1)) = worF (worL (l.take i)) f := by
  rw [List.take_add_one, h]; simp [worL, List.foldl_append]
theorem worL_le (l : List Frag) : worL l ≤ l.length := by
  have : ∀ (l : List Frag) (a : Nat), l.foldl worF a ≤ a + l.length := by
    intro l
    induction l with
    | nil => intro a; simp
    | cons f r ih =>
      intro a
      have h1 := ih (worF a f)
      have h2 : worF a f ≤ a + 1 := by unfold worF; split <;> omega
      simp only [List.foldl_cons, List.length_cons]
      omega
  have := this l 0
  unfold worL; omega
def worst (l : List Frag) : RV := if viewF l ≠ 0 then .tup [.one (.int .i64 0), .one (.int .i64 0), .one (.int .i64 (viewF l))] else .tup [.one (.int .i64 (farL l)), .one (.int .i64 (worL l)), .one (.int .i64 0)]

theorem worstOwn (v : Hull) (l : List Frag) : ACalls Try.prog 6 [.agg (v.cells (partsC l))] (worst l) := by
  refine ACalls.of mixed (fn := Try.f6) (by kernel_rfl) (by kernel_rfl) rfl (by kernel_rfl) (by simp [Try.f6]) (fun hok => ?_)
  obtain ⟨c0, c1, c2, c3, c4, c5, c6, c7, c8, c9, c10, c11, c13⟩ := v
  simp -implicitDefEqProofs [Hull.cells, partsC]
  refine ACallK.of (checkParts l) ?_
  simp -implicitDefEqProofs
  refine ⟨fun h => ?_, fun h => ?_⟩
  · simp [worst, h]
  have hlen := viewF_short h
  refine ALoopS.of Nat (fun i => [(6, .x (.one (.int .i64 (farL (l.take i))))), (7, .x (.one (.int .i64 (worL (l.take i))))), (17, .x (.one (.list 5 (l.map Frag.row)))), (18, .x (.one (.int .i64 l.length))), (19, .x (.one (.int .i64 i)))]) (fun i => i ≤ l.length) (fun i => l.length - i) 0 ?_ ?_ ?_
  · simp
  · simp [farL, worL]
  intro i hi
  by_cases hlt : i < l.length
  · have hx : l[i]? = some l[i] := List.getElem?_eq_getElem hlt
    have hf := farL_take hx
    have hw := worL_take hx
    have hle := worL_le (l.take i)
    rw [List.length_take] at hle
    simp -implicitDefEqProofs [hlt, Frag.row]
    generalize l[i] = f at hf hw
    unfold farF at hf
    unfold worF at hw
    refine ⟨fun hs => ?_, fun hs => ⟨fun hs2 => ?_, fun hs2 hs3 => ?_⟩⟩
    · rw [if_pos hs] at hf
      rw [if_neg (by omega)] at hw
      refine Again.of (i + 1) hlt (by omega) ?_
      simp -implicitDefEqProofs [hf, hw]
      exact wrapS _ (by omega)
    · rw [if_neg hs] at hf
      rw [if_pos hs2] at hw
      refine Again.of (i + 1) hlt (by omega) ?_
      simp -implicitDefEqProofs [hf, hw]
      exact ⟨wrapS _ (by omega), wrapS _ (by omega)⟩
    · rw [if_neg hs] at hf
      rw [if_neg (by omega)] at hw
      refine Again.of (i + 1) hlt (by omega) ?_
      simp -implicitDefEqProofs [hf, hw]
      exact wrapS _ (by omega)
  · have ht : l.take i = l := List.take_of_length_le (by omega)
    simp -implicitDefEqProofs [hlt, ht, worst, h]

theorem worstRef (v : Hull) (l : List Frag) : ACalls Try.prog 7 [.agg (v.cells (partsC l))] (worst l) := by
  refine ACalls.of mixed (fn := Try.f7) (by kernel_rfl) (by kernel_rfl) rfl (by kernel_rfl) (by simp [Try.f7]) (fun hok => ?_)
  have hc := checkView v l
  obtain ⟨c0, c1, c2, c3, c4, c5, c6, c7, c8, c9, c10, c11, c13⟩ := v
  simp -implicitDefEqProofs [Hull.cells, partsC] at hc ⊢
  refine ACallK.of hc ?_
  simp -implicitDefEqProofs
  refine ⟨fun h => ?_, fun h => ?_⟩
  · simp [worst, h]
  have hlen := viewF_short h
  refine ALoopS.of Nat (fun i => [(1, .box [c0, c1, c2, c3, c4, c5, c6, c7, c8, c9, c10, c11, .list 5 (l.map Frag.row), c13]), (6, .x (.one (.int .i64 (farL (l.take i))))), (7, .x (.one (.int .i64 (worL (l.take i))))), (8, .x (.one (.int .i64 i)))]) (fun i => i ≤ l.length) (fun i => l.length - i) 0 ?_ ?_ ?_
  · simp
  · simp [farL, worL]
  intro i hi
  by_cases hlt : i < l.length
  · have hx : l[i]? = some l[i] := List.getElem?_eq_getElem hlt
    have hf := farL_take hx
    have hw := worL_take hx
    have hle := worL_le (l.take i)
    rw [List.length_take] at hle
    simp -implicitDefEqProofs [hlt, Frag.row]
    generalize l[i] = f at hf hw
    unfold farF at hf
    unfold worF at hw
    refine ⟨fun hs => ⟨fun hs2 => ?_, fun hs2 hs3 => ?_⟩, fun hs => ⟨fun hs2 => ?_, fun hs2 hs3 => ?_⟩⟩
    · rw [if_neg hs] at hf
      rw [if_pos hs2] at hw
      refine Again.of (i + 1) hlt (by omega) ?_
      simp -implicitDefEqProofs [hf, hw]
      exact ⟨wrapS _ (by omega), wrapS _ (by omega)⟩
    · rw [if_neg hs] at hf
      rw [if_neg (by omega)] at hw
      refine Again.of (i + 1) hlt (by omega) ?_
      simp -implicitDefEqProofs [hf, hw]
      exact wrapS _ (by omega)
    · omega
    · rw [if_pos hs] at hf
      rw [if_neg (by omega)] at hw
      refine Again.of (i + 1) hlt (by omega) ?_
      simp -implicitDefEqProofs [hf, hw]
      exact wrapS _ (by omega)
  · have ht : l.take i = l := List.take_of_length_le (by omega)
    simp -implicitDefEqProofs [hlt, ht, worst, h]
end Go.Proofs.Ytdciogjhkckigaa
