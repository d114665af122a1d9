/- A part of the proof: lemmas and contracts of functions. -/
import Derived.Test.YtejhjdpafdpjlaaGreatDoorIxA
namespace Go.Proofs.YtejhjdpafdpjlaaGreatDoor
open Go Go.Ab
set_option linter.unusedSectionVars false
variable [Amb]
set_option maxRecDepth 100000
set_option maxHeartbeats 4000000

theorem trimS_nil (l cs : List UInt8) : (Lib.trimS l cs = []) ↔ l.all (cs.contains ·) = true := by
  have dw : ∀ (l : List UInt8), l.dropWhile (cs.contains ·) = [] ↔ l.all (cs.contains ·) = true := by
    intro l
    induction l with
    | nil => simp
    | cons a l ih =>
      by_cases h : cs.contains a = true
      · rw [List.dropWhile_cons_of_pos h, ih]
        simp only [List.all_cons, h, Bool.true_and]
      · rw [List.dropWhile_cons_of_neg h]
        simp only [List.all_cons, h, Bool.false_and]
        simp
  have rv : ∀ (l : List UInt8), l.reverse.all (cs.contains ·) = l.all (cs.contains ·) := by
    intro l; rw [List.all_reverse]
  unfold Lib.trimS Lib.trimLeftS Lib.trimRightS
  rw [dw, rv]
  have : ∀ (m : List UInt8), (m.dropWhile (cs.contains ·)).all (cs.contains ·) = m.all (cs.contains ·) := by
    intro m
    induction m with
    | nil => rfl
    | cons a m ih =>
      by_cases h : cs.contains a = true
      · rw [List.dropWhile_cons_of_pos h, ih]
        simp only [List.all_cons, h, Bool.true_and]
      · rw [List.dropWhile_cons_of_neg h]
  rw [this, rv]
theorem trimS_le (l cs : List UInt8) : (Lib.trimS l cs).length ≤ l.length := by
  have dw : ∀ (m : List UInt8), (m.dropWhile (cs.contains ·)).length ≤ m.length := fun m => (List.dropWhile_sublist _).length_le
  unfold Lib.trimS Lib.trimLeftS Lib.trimRightS
  have h1 := dw (List.dropWhile (fun x => cs.contains x) l.reverse).reverse
  have h2 := dw l.reverse
  simp only [List.length_reverse] at h1 h2
  omega

theorem strings_Trim (l cs : List UInt8) (h : cs.all (fun b => decide (b.toNat < 128)) = true) (h2 : cs.length < 1000) : ACalls Tryz.prog 68 [.one (.str l), .one (.str cs)] (.x (.one (.str (Lib.trimS l cs)))) := by
  by_cases hl : l.length ≤ maxLen
  · refine ACalls.ofKit [.string ⟨l.toArray⟩, .string ⟨cs.toArray⟩] _ (callable_of Tryz.f68 (by kernel_rfl) (by kernel_rfl) rfl) rfl (fun _ _ => repR_str _ (Nat.le_trans (trimS_le l cs) hl)) (fun hok w => ?_)
    have hm : maxLen ≤ 9223372036854775807 := by decide
    exact Any.strings_Trim_laid layn160 (by kernel_rfl) ⟨l.toArray⟩ ⟨cs.toArray⟩ w (by simp only [ByteArray.size, List.size_toArray]; omega) (by simp only [ByteArray.size, List.size_toArray]; omega) (Go.Proofs.ascii_of_all h)
  · refine ⟨callable_of Tryz.f68 (by kernel_rfl) (by kernel_rfl) rfl, fun w S vs hS ha => ?_⟩
    exact absurd (by simpa [XV.ok, CV.ok] using okAll_of ha _ (List.mem_cons_self)) hl

def hexCs : List UInt8 := [48, 49, 50, 51, 52, 53, 54, 55, 56, 57, 97, 98, 99, 100, 101, 102]
def nameCs : List UInt8 := [97, 98, 99, 100, 101, 102, 103, 104, 105, 106, 107, 108, 109, 110, 111, 112, 113, 114, 115, 116, 117, 118, 119, 120, 121, 122, 48, 49, 50, 51, 52, 53, 54, 55, 56, 57, 45]
def hexB (b : UInt8) : Bool := inB 48 57 b.toNat || inB 97 102 b.toNat
def lowB (b : UInt8) : Bool := inB 97 122 b.toNat
def nameChar (b : UInt8) : Bool := lowB b || (b.toNat == 45) || inB 48 57 b.toNat
theorem hexCs_eq : ∀ b : UInt8, hexCs.contains b = hexB b := by
  intro b
  have : ∀ n : Fin 256, hexCs.contains (UInt8.ofNat n.val) = hexB (UInt8.ofNat n.val) := by decide +kernel
  have h := this ⟨b.toNat, b.toNat_lt⟩
  simpa using h
theorem nameCs_eq : ∀ b : UInt8, nameCs.contains b = nameChar b := by
  intro b
  have : ∀ n : Fin 256, nameCs.contains (UInt8.ofNat n.val) = nameChar (UInt8.ofNat n.val) := by decide +kernel
  have h := this ⟨b.toNat, b.toNat_lt⟩
  simpa using h
def digestB (l : List UInt8) : Bool := l.all hexB && (l.length == 16)
def nameB (l : List UInt8) : Bool := l.all nameChar && (lowB (l[0]?.getD 0) && inB 1 40 l.length)

theorem ref8_isDigest (l : List UInt8) : ACalls Tryz.prog 74 [.one (.str l)] (.x (.one (.bool (digestB l)))) := by
  refine ACalls.of mixed (fn := Tryz.f74) (by kernel_rfl) (by kernel_rfl) rfl (by kernel_rfl) (by simp [Tryz.f74]) (fun hok => ?_)
  have hl : l.length ≤ maxLen := by simpa [XV.ok, CV.ok] using hok
  simp -implicitDefEqProofs
  refine ALoopS.of Nat (fun i => [(0, .x (.one (.str l))), (3, .x (.one (.int .i64 i)))]) (Upto hexB l) (fun i => l.length - i) 0 Upto.zero ?_ ?_
  · simp
  intro i hi
  by_cases hlt : i < l.length
  · have e : hexB l[i] = (inB 48 57 l[i].toNat || inB 97 102 l[i].toNat) := rfl
    unfold inB at e
    simp -implicitDefEqProofs +contextual [-Bool.and_eq_false_imp, Bool.and_eq_false_iff, hlt]
    refine ⟨fun h1 h2 => ?_, fun h => ?_⟩
    · have hb : hexB l[i] = false := by rw [e]; simp; omega
      simp [digestB, all_bad hlt hb]
    · have hb : hexB l[i] = true := by rw [e]; simp; omega
      refine Again.of (i + 1) (hi.step hlt hb) (by omega) ?_
      simp
      exact wrapS _ (by unfold maxLen at hl; omega)
  · simp -implicitDefEqProofs [hlt]
    simp [digestB, hi.done hlt]
    rw [Bool.eq_iff_iff]; simp; omega

theorem isName (l : List UInt8) : ACalls Tryz.prog 69 [.one (.str l)] (.x (.one (.bool (nameB l)))) := by
  refine ACalls.of mixed (fn := Tryz.f69) (by kernel_rfl) (by kernel_rfl) rfl (by kernel_rfl) (by simp [Tryz.f69]) (fun hok => ?_)
  have e := trimS_nil l nameCs
  simp only [nameCs_eq] at e
  simp -implicitDefEqProofs +contextual [-Bool.and_eq_false_imp, Bool.and_eq_false_iff]
  refine ⟨fun h _ => by omega, fun h _ _ => by omega, ACallGS.of (fun _ => strings_Trim l nameCs (by decide) (by decide)) rfl ?_⟩
  simp -implicitDefEqProofs +contextual [-Bool.and_eq_false_imp, Bool.and_eq_false_iff]
  unfold nameB lowB inB
  generalize ((l[0]?.getD 0).toNat : Int) = n
  by_cases h : Lib.trimS l nameCs = []
  · rw [e.1 h, h]
    rw [Bool.eq_iff_iff]; simp; omega
  · have : (l.all nameChar) = false := by
      cases hb : l.all nameChar with
      | true => exact absurd (e.2 hb) h
      | false => rfl
    rw [this]
    simp [h]

theorem ref6_isName (l : List UInt8) : ACalls Tryz.prog 75 [.one (.str l)] (.x (.one (.bool (nameB l)))) := by
  refine ACalls.of mixed (fn := Tryz.f75) (by kernel_rfl) (by kernel_rfl) rfl (by kernel_rfl) (by simp [Tryz.f75]) (fun hok => ?_)
  have hl : l.length ≤ maxLen := by simpa [XV.ok, CV.ok] using hok
  simp -implicitDefEqProofs +contextual [-Bool.and_eq_false_imp, Bool.and_eq_false_iff]
  refine ALoopS.of Nat (fun i => [(0, .x (.one (.str l))), (3, .x (.one (.int .i64 i)))]) (fun i => Upto nameChar l i ∧ (0 < i → lowB (l[0]?.getD 0) = true)) (fun i => l.length - i) 0 ⟨Upto.zero, by simp⟩ ?_ ?_
  · simp
  rintro i ⟨hi, hlow⟩
  by_cases hlt : i < l.length
  · have e : nameChar l[i] = (lowB l[i] || (l[i].toNat == 45) || inB 48 57 l[i].toNat) := rfl
    have e2 : lowB l[i] = (decide ((97 : Int) ≤ l[i].toNat) && decide ((l[i].toNat : Int) ≤ 122)) := rfl
    have h0 : i = 0 → l[0]?.getD 0 = l[i] := by rintro rfl; simp [hlt]
    simp -implicitDefEqProofs +contextual [-Bool.and_eq_false_imp, Bool.and_eq_false_iff, hlt]
    unfold inB at e
    refine ⟨fun h1 h2 => ?_, fun h => Again.of (i + 1) ⟨hi.step hlt ?_, fun _ => ?_⟩ (by omega) ?_⟩
    · rcases h2 with h2 | ⟨h2, h3⟩
      · have : lowB (l[0]?.getD 0) = false := by rw [h0 h2, e2]; simp; omega
        simp [nameB, this]
      · have : nameChar l[i] = false := by rw [e, e2]; simp; omega
        simp [nameB, all_bad hlt this]
    · rw [e, e2]; simp; omega
    · by_cases hz : i = 0
      · rw [h0 hz, e2]; simp; omega
      · exact hlow (by omega)
    · simp
      exact wrapS _ (by unfold maxLen at hl; omega)
  · simp -implicitDefEqProofs +contextual [-Bool.and_eq_false_imp, Bool.and_eq_false_iff, hlt]
    unfold nameB
    rw [hi.done hlt]
    cases l with
    | nil => simp [inB]
    | cons a r =>
      have := hlow (by simp at hlt; omega)
      rw [this, Bool.eq_iff_iff]; simp [inB]; omega
end Go.Proofs.YtejhjdpafdpjlaaGreatDoor
