/- A part of the proof: lemmas and contracts of functions. -/
import Derived.Test.YtdciogjhkckigaaT1c
namespace Go.Proofs.Ytdciogjhkckigaa
open Go Go.Ab
set_option maxRecDepth 100000
set_option maxHeartbeats 4000000

def countL : List Frag → Nat
  | [] => 0
  | f :: r => (if f.state = 6 then 0 else 1) + countL r
theorem countL_take {l : List Frag} : ∀ {i : Nat} {f : Frag}, l[i]? = some f → countL (l.take (i + 1)) = countL (l.take i) + (if f.state = 6 then 0 else 1) := by
  induction l with
  | nil => intro i f h; simp at h
  | cons g r ih =>
    intro i f h
    cases i with
    | zero => simp at h; subst h; simp [countL]
    | succ i => simp at h; simp only [List.take_succ_cons, countL, ih h]; omega
theorem countL_le : ∀ l : List Frag, countL l ≤ l.length
  | [] => Nat.le_refl _
  | f :: r => by simp only [countL, List.length_cons]; have := countL_le r; split <;> omega

/-- lowest: the fraction over its greatest common divisor. -/
theorem lowest (x y : Nat) (hy : 0 < y) (hx : x ≤ y) (hl : y < 1000000) : ACalls Try.prog 11 [.one (.int .i64 x), .one (.int .i64 y)] (.x (.agg [.int .i64 ((x / Nat.gcd x y : Nat) : Int), .int .i64 ((y / Nat.gcd x y : Nat) : Int)])) := by
  refine ACalls.of mixed (fn := Try.f11) (by kernel_rfl) (by kernel_rfl) rfl (by kernel_rfl) (by simp [Try.f11]) (fun hok => ?_)
  simp -implicitDefEqProofs
  refine ALoopS.of (Nat × Nat) (fun i => [(0, .x (.one (.int .i64 x))), (1, .x (.one (.int .i64 y))), (4, .box [.int .i64 0, .int .i64 0]), (5, .x (.one (.int .i64 i.1))), (6, .x (.one (.int .i64 i.2)))]) (fun i => i.1 ≤ y ∧ i.2 ≤ y ∧ Nat.gcd i.1 i.2 = Nat.gcd x y) (fun i => i.2) (x, y) ?_ ?_ ?_
  · simp; exact hx
  · simp
  rintro ⟨a, b⟩ ⟨ha, hb, hg⟩
  simp -implicitDefEqProofs at ha hb hg ⊢
  refine ⟨fun hn => ?_, fun hz => ?_⟩
  · refine ⟨hn, Again.of (b, a % b) ⟨hb, ?_, ?_⟩ ?_ ?_⟩
    · have := Nat.mod_lt a (Nat.pos_of_ne_zero hn); simp only; omega
    · simp only; rw [← hg, Nat.gcd_comm b, Nat.gcd_comm a b, ← Nat.gcd_rec b a]
    · exact Nat.mod_lt a (Nat.pos_of_ne_zero hn)
    · simp
      exact Int.ofNat_tmod a b
  · subst hz
    rw [Nat.gcd_zero_right] at hg
    subst hg
    have hpos : 0 < Nat.gcd x y := Nat.gcd_pos_of_pos_right _ hy
    have h3 := Nat.div_le_self x (Nat.gcd x y)
    have h4 := Nat.div_le_self y (Nat.gcd x y)
    simp -implicitDefEqProofs
    refine ⟨fun _ => by omega, ?_, ?_⟩
    · rw [← Int.natCast_ediv]
      generalize x / Nat.gcd x y = q at h3 ⊢
      exact (wrapS _ (by omega)).symm
    · rw [← Int.natCast_ediv]
      generalize y / Nat.gcd x y = q at h4 ⊢
      exact (wrapS _ (by omega)).symm

def ratio (a b : Int) : XV := .agg [.int .i64 a, .int .i64 b]
def lowR (x y : Nat) : XV := ratio ((x / Nat.gcd x y : Nat) : Int) ((y / Nat.gcd x y : Nat) : Int)
def complete (l : List Frag) : XV := if viewF l ≠ 0 then ratio 0 0 else if l.length = 0 then ratio 1 1 else lowR (countL l) l.length
theorem viewF_short {l : List Frag} (h : viewF l = 0) : l.length ≤ 500 := by
  unfold viewF at h
  split at h
  · cases h
  · omega

theorem completeRef (v : Hull) (l : List Frag) : ACalls Try.prog 5 [.agg (v.cells (partsC l))] (.tup [complete l, .one (.int .i64 (viewF l))]) := by
  refine ACalls.of mixed (fn := Try.f5) (by kernel_rfl) (by kernel_rfl) rfl (by kernel_rfl) (by simp [Try.f5]) (fun hok => ?_)
  have hc := checkView v l
  obtain ⟨c0, c1, c2, c3, c4, c5, c6, c7, c8, c9, c10, c11, c13⟩ := v
  simp -implicitDefEqProofs [Hull.cells, partsC] at hc ⊢
  refine ACallK.of hc ?_
  simp -implicitDefEqProofs
  refine ⟨fun h => ?_, fun h => ?_⟩
  · simp [complete, h, ratio]
  have hlen := viewF_short h
  refine ALoopS.of Nat (fun i => [(1, .box [c0, c1, c2, c3, c4, c5, c6, c7, c8, c9, c10, c11, .list 5 (l.map Frag.row), c13]), (2, .box [.int .i64 0, .int .i64 0]), (5, .x (.one (.int .i64 (countL (l.take i))))), (6, .x (.one (.int .i64 i)))]) (fun i => i ≤ l.length) (fun i => l.length - i) 0 ?_ ?_ ?_
  · simp
  · simp [countL]
  intro i hi
  by_cases hlt : i < l.length
  · have hx : l[i]? = some l[i] := List.getElem?_eq_getElem hlt
    have hcnt := countL_take hx
    have hle := countL_le (l.take i)
    rw [List.length_take] at hle
    simp -implicitDefEqProofs [hlt, Frag.row]
    generalize l[i] = f at hcnt
    refine ⟨fun hs => ?_, fun hs => ?_⟩
    · rw [if_neg hs] at hcnt
      refine Again.of (i + 1) hlt (by omega) ?_
      simp -implicitDefEqProofs [hcnt]
      exact ⟨wrapS _ (by omega), wrapS _ (by omega)⟩
    · rw [if_pos hs] at hcnt
      refine Again.of (i + 1) hlt (by omega) ?_
      simp -implicitDefEqProofs [hcnt]
      exact wrapS _ (by omega)
  · simp -implicitDefEqProofs [hlt]
    refine ⟨fun he => ?_, fun he => ?_⟩
    · subst he
      simp [complete, h, ratio]
    have ht : l.take i = l := List.take_of_length_le (by omega)
    rw [ht]
    have hpos : 0 < l.length := List.length_pos_iff.2 he
    refine ACallK.of (lowest _ _ hpos (countL_le l) (by omega)) ?_
    simp -implicitDefEqProofs
    rw [complete, if_neg (by simp [h]), if_neg (by omega)]
    simp [lowR, ratio, h]
end Go.Proofs.Ytdciogjhkckigaa
