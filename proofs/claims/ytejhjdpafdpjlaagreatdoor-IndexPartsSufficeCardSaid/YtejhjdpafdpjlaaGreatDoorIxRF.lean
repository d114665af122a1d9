/- A part of the proof: lemmas and contracts of functions. -/
import Derived.Test.YtejhjdpafdpjlaaGreatDoorIxRE
import Derived.Test.YtejhjdpafdpjlaaGreatDoorIxLp
import Derived.Test.YtejhjdpafdpjlaaGreatDoorIxO
namespace Go.Proofs.YtejhjdpafdpjlaaGreatDoor
open Go Go.Ab
set_option linter.unusedSectionVars false
variable [Amb] [HasPow10 Tryz.prog]
set_option maxRecDepth 100000
set_option maxHeartbeats 4000000

def preR (out : List Entry) : Except Nat (List Entry) → Except Nat (List Entry)
  | .ok l => .ok (out ++ l)
  | .error k => .error k
/-- What was read so far, and what is left. -/
structure ReadAt (t : List UInt8) (x : List Entry × List UInt8) : Prop where
  sc : scan t 1 = preR x.1 (scan x.2 (x.1.length + 1))
  len : x.1.length + x.2.length ≤ t.length
theorem ReadAt.zero (t : List UInt8) : ReadAt t ([], t) := ⟨by show scan t 1 = preR [] (scan t (0 + 1)); cases scan t 1 <;> rfl, by simp⟩
theorem ReadAt.step {t : List UInt8} {x : List Entry × List UInt8} (h : ReadAt t x) (h10 : 10 ∈ x.2) (hx : (entryX (befC 10 x.2)).2 = true) : ReadAt t (x.1 ++ [(entryX (befC 10 x.2)).1], aftC 10 x.2) := by
  have hl := aftC_len h10
  have hn := h.len
  refine ⟨?_, by simp only [List.length_append, List.length_singleton]; omega⟩
  rw [h.sc, scan_cut _ h10, entryX_line, if_pos hx]
  simp only [List.length_append, List.length_singleton]
  cases hs : Go.Proofs.YtejhjdpafdpjlaaGreatDoor.scan (aftC 10 x.2) (x.1.length + 1 + 1) with
  | ok l => simp [preR]
  | error k => simp [preR]
theorem ReadAt.bad {t : List UInt8} {x : List Entry × List UInt8} (h : ReadAt t x) (h0 : x.2 ≠ []) (hb : 10 ∉ x.2 ∨ (entryX (befC 10 x.2)).2 = false) : scan t 1 = .error (x.1.length + 1) := by
  rw [h.sc]
  by_cases h10 : 10 ∈ x.2
  · rw [scan_cut _ h10, entryX_line, if_neg (by simp [hb.resolve_left (fun h => h h10)])]; rfl
  · rw [scan_end _ h0 h10]; rfl
theorem ReadAt.done {t : List UInt8} {x : List Entry × List UInt8} (h : ReadAt t x) (h0 : x.2 = []) : scan t 1 = .ok x.1 := by
  rw [h.sc, h0, scan_nil]; simp [preR]
theorem readR_err {t : List UInt8} {k : Nat} (hl : t.length ≤ 600000) (h : scan t 1 = .error k) : readR t = ([], (k : Int), 10) := by
  unfold readR; rw [if_neg (by omega), h]
theorem readR_okE {t : List UInt8} {l : List Entry} (hl : t.length ≤ 600000) (h : scan t 1 = .ok l) : readR t = if entriesF l = 0 then (l, 0, 0) else ([], 0, entriesF l) := by
  unfold readR; rw [if_neg (by omega), h]
theorem readR_long {t : List UInt8} (hl : 600000 < t.length) : readR t = ([], 0, 2) := by
  unfold readR; rw [if_pos hl]
def readV (t : List UInt8) : RV := .tup [entries (readR t).1, .one (.int .i64 (readR t).2.1), .one (.int .i64 (readR t).2.2)]
theorem index_Read (t : List UInt8) : ACalls Tryz.prog 16 [.one (.str t)] (readV t) := by
  refine ACalls.of mixed (fn := Tryz.f16) (by kernel_rfl) (by kernel_rfl) rfl (by kernel_rfl) (by simp [Tryz.f16]) (fun hok => ?_)
  unfold readV
  obtain ⟨R, eR⟩ : ∃ R, R = readR t := ⟨_, rfl⟩
  rw [← eR]
  by_cases hl : 600000 < t.length
  · rw [readR_long hl] at eR
    subst eR
    have hl' : (600000 < (t.length : Int)) = True := eq_true (by omega)
    simp -implicitDefEqProofs [hl, hl']
  · have hl' : (600000 < (t.length : Int)) = False := eq_false (by omega)
    have hle : t.length ≤ 600000 := by omega
    simp -implicitDefEqProofs [hl, hl']
    refine ALoopS.of (List Entry × List UInt8) (fun x => [(0, .x (.one (.str x.2))), (5, .own 30 9 (x.1.map Entry.row)), (6, .x (.one (.int .i64 (x.1.length + 1))))]) (ReadAt t) (fun x => x.2.length) ([], t) (ReadAt.zero t) ?_ ?_
    · simp
    rintro ⟨out, r⟩ hI
    have hn := hI.len
    simp only at hn
    have hw1 : IntKind.i64.wrap ((out.length : Int) + 1 + 1) = (out.length : Int) + 1 + 1 := wrapS _ (by omega)
    by_cases hr : r = []
    · have hs := hI.done hr
      rw [readR_okE hle hs] at eR
      subst hr
      simp -implicitDefEqProofs
      refine ACallK.of (index_checkEntries out) ?_
      by_cases he : entriesF out = 0
      · rw [if_pos he] at eR
        subst eR
        simp -implicitDefEqProofs [he]
      · rw [if_neg he] at eR
        subst eR
        simp -implicitDefEqProofs [he]
    · simp -implicitDefEqProofs [hr]
      refine ACallK.of (strings_Cut1 r 10) ?_
      have hbl := befC_le 10 r
      simp -implicitDefEqProofs
      refine ACallK.of (index_readEntry _ (by omega)) ?_
      by_cases h10 : 10 ∈ r
      · have ha := aftC_len h10
        cases hx : (entryX (befC 10 r)).2 with
        | true =>
          simp -implicitDefEqProofs [h10]
          refine ⟨⟨by omega, by unfold maxLen; omega⟩, Again.of (out ++ [(entryX (befC 10 r)).1], aftC 10 r) (hI.step h10 hx) ha ?_⟩
          simp [hw1]
        | false =>
          rw [readR_err hle (hI.bad hr (.inr hx))] at eR
          subst eR
          simp -implicitDefEqProofs [h10]
      · rw [readR_err hle (hI.bad hr (.inl h10))] at eR
        subst eR
        simp -implicitDefEqProofs [h10]
end Go.Proofs.YtejhjdpafdpjlaaGreatDoor
