/- A part of the proof: lemmas and contracts of functions. -/
import Derived.Test.YtejhjdpafdpjlaaGreatDoorIxCp
namespace Go.Proofs.YtejhjdpafdpjlaaGreatDoor
open Go Go.Ab
set_option linter.unusedSectionVars false
variable [Amb]
set_option maxRecDepth 100000
set_option maxHeartbeats 4000000

theorem cutAt_nat {α : Type} (l : List α) (i k : Nat) : cutAt l (i : Int) (k : Int) = (l.drop i).take (k - i) := by
  unfold cutAt
  rw [Int.toNat_natCast, Int.toNat_natCast, List.drop_take]
/-- The life told at an index. -/
theorem lives_at {l : List Entry} (hs : Sorted l) {i k : Nat} (hi : i < l.length) (hik : i ≤ k) (hk : k ≤ l.length)
    (h1 : ∀ x, (h : x < k) → i ≤ x → (l[x]'(by omega)).key = l[i].key) (h2 : ∀ h : k < l.length, l[k].key ≠ l[i].key) (hpos : i < k) :
    livesL (l.drop i) = ⟨l[i].key, ((k - i : Nat) : Int), ((nubs (digests (cutAt l i k))).length : Int), l[i].time, (l[k - 1]'(by omega)).time⟩ :: livesL (l.drop k) := by
  have hd : l.drop i = l[i] :: l.drop (i + 1) := List.drop_eq_getElem_cons hi
  have hsd : Sorted (l[i] :: l.drop (i + 1)) := by rw [← hd]; exact hs.drop
  have hget : ∀ x, (h : x < (l[i] :: l.drop (i + 1)).length) → ∃ h' : i + x < l.length, (l[i] :: l.drop (i + 1))[x] = l[i + x] := by
    intro x h
    have hlen : (l[i] :: l.drop (i + 1)).length = l.length - i := by rw [← hd, List.length_drop]
    refine ⟨by omega, ?_⟩
    have e : (l[i] :: l.drop (i + 1))[x]? = l[i + x]? := by rw [← hd, List.getElem?_drop]
    rw [List.getElem?_eq_getElem h, List.getElem?_eq_getElem (by omega)] at e
    injection e
  have hlen : (l[i] :: l.drop (i + 1)).length = l.length - i := by rw [← hd, List.length_drop]
  have hc := withKey_count hsd (j := k - i) (by omega) (fun x hx => by
      obtain ⟨h', e⟩ := hget x (by omega)
      rw [e]
      exact h1 (i + x) (by omega) (by omega)) (fun h => by
      obtain ⟨h', e⟩ := hget (k - i) h
      rw [e]
      have e2 : i + (k - i) = k := by omega
      intro hh
      exact h2 (by omega) (by simpa only [e2] using hh))
  have hh := withKey_head hsd
  rw [hc] at hh
  have hw : withKey (l[i] :: l.drop (i + 1)) l[i].key = cutAt l i k := by rw [hh, ← hd, cutAt_nat]
  rw [hd, livesL_cons, hc]
  congr 1
  · unfold lifeOf
    rw [hw]
    have hl : (cutAt l (i : Int) (k : Int)).length = k - i := by rw [← hw]; exact hc
    rw [hl]
    have ht : (cutAt l (i : Int) (k : Int))[k - i - 1]? = some (l[k - 1]'(by omega)) := by
      rw [cutAt_nat, List.getElem?_take_of_lt (by omega), List.getElem?_drop, show i + (k - i - 1) = k - 1 by omega, List.getElem?_eq_getElem (by omega)]
    rw [ht]
    rfl
  · rw [← hd, List.drop_drop, show i + (k - i) = k by omega]

theorem ref8_Lives (l : List Entry) : ACalls Tryz.prog 13 [entries l] (.tup [lives (if entriesF l = 0 then livesL l else []), .one (.int .i64 (entriesF l))]) := by
  refine ACalls.of mixed (fn := Tryz.f13) (by kernel_rfl) (by kernel_rfl) rfl (by kernel_rfl) (by simp [Tryz.f13]) (fun hok => ?_)
  simp -implicitDefEqProofs +contextual [-Bool.and_eq_false_imp, Bool.and_eq_false_iff]
  refine ACallK.of (ref8_checkEntries l) ?_
  by_cases he : entriesF l = 0
  · have hb := entriesF_short he
    obtain ⟨hso, _⟩ := entriesF_sorted he
    rw [if_pos he, he]
    simp -implicitDefEqProofs +contextual [-Bool.and_eq_false_imp, Bool.and_eq_false_iff, he]
    refine ALoopS.of (Nat × List Life) (fun x => [(0, .x (entries l)), (5, .own 37 5 (x.2.map Life.row)), (6, .x (.one (.int .i64 x.1)))]) (fun x => x.1 ≤ l.length ∧ livesL l = x.2 ++ livesL (l.drop x.1) ∧ x.2.length ≤ x.1) (fun x => l.length - x.1) (0, []) ⟨Nat.zero_le _, rfl, Nat.le_refl _⟩ ?_ ?_
    · simp
    rintro ⟨i, out⟩ ⟨g1, g2, g3⟩
    simp only at g1 g2 g3
    by_cases hlt : i < l.length
    · have hlt' : ((i : Int) < l.length) = True := eq_true (by omega)
      simp -implicitDefEqProofs [hlt, hlt']
      refine ALoopS.of Nat (fun k => [(0, .x (entries l)), (5, .own 37 5 (out.map Life.row)), (6, .x (.one (.int .i64 i))), (7, .x (.one (.int .i64 k)))]) (fun k => i ≤ k ∧ k ≤ l.length ∧ ∀ x, (h : x < k) → (hx : x < l.length) → i ≤ x → l[x].key = l[i].key) (fun k => l.length - k) i ⟨Nat.le_refl _, g1, fun x h _ h' => absurd h (by omega)⟩ ?_ ?_
      · simp
      rintro k ⟨k1, k2, k3⟩
      have hwk : IntKind.i64.wrap ((k : Int) + 1) = (k : Int) + 1 := wrapS _ (by omega)
      by_cases hgo : ∃ h : k < l.length, l[k].key = l[i].key
      · obtain ⟨hkl, hkey⟩ := hgo
        have hkl' : ((k : Int) < l.length) = True := eq_true (by omega)
        simp -implicitDefEqProofs [hlt, hlt', hkl, hkl', hkey, hwk]
        refine Again.of (k + 1) ⟨by omega, by omega, ?_⟩ (by omega) (by simp)
        intro x h hx h'
        by_cases hxk : x = k
        · subst hxk; exact hkey
        · exact k3 x (by omega) hx h'
      · have hpos : i < k := by
          rcases Nat.lt_or_ge i k with h | h
          · exact h
          · exact absurd ⟨by omega, by have e : k = i := by omega
                                       subst e; rfl⟩ hgo
        have hlive := lives_at hso hlt k1 k2 (fun x h h' => k3 x h (by omega) h') (fun h e => hgo ⟨h, e⟩) hpos
        have hk1 : k - 1 < l.length := by omega
        have w1 : IntKind.i64.wrap ((k : Int) - i) = ((k - i : Nat) : Int) := by rw [wrapS _ (by omega)]; omega
        have w2 : IntKind.i64.wrap ((k : Int) - 1) = ((k - 1 : Nat) : Int) := by rw [wrapS _ (by omega)]; omega
        have b1 : ((i : Int) ≤ (k : Int)) = True := eq_true (by omega)
        have b2 : ((k : Int) ≤ (l.length : Int)) = True := eq_true (by omega)
        have hcl : (cutAt l (i : Int) (k : Int)).length ≤ 3000 := by rw [cutAt_nat, List.length_take, List.length_drop]; omega
        have hdiff := ref8_different (cutAt l i k) hcl
        by_cases hkl : k < l.length
        · have hkey : (l[k].key = l[i].key) = False := eq_false fun e => hgo ⟨hkl, e⟩
          have hkl' : ((k : Int) < l.length) = True := eq_true (by omega)
          simp -implicitDefEqProofs [hlt, hlt', hkl, hkl', hkey, w1, w2, b1, b2, hk1]
          refine ACallK.of hdiff ?_
          simp -implicitDefEqProofs [hlt, hlt', hkl, hkl', hkey, w1, w2, b1, b2, hk1]
          refine ⟨⟨by omega, by unfold maxLen; omega⟩, Again.of (k, out ++ [_]) ⟨k2, by rw [g2, hlive, List.append_assoc]; rfl, by simp; omega⟩ (by simp only; omega) ?_⟩
          simp [Life.row]
        · have hkl' : ((k : Int) < l.length) = False := eq_false (by omega)
          simp -implicitDefEqProofs [hlt, hlt', hkl, hkl', w1, w2, b1, b2, hk1]
          refine ACallK.of hdiff ?_
          simp -implicitDefEqProofs [hlt, hlt', hkl, hkl', w1, w2, b1, b2, hk1]
          refine ⟨⟨by omega, by unfold maxLen; omega⟩, Again.of (k, out ++ [_]) ⟨k2, by rw [g2, hlive, List.append_assoc]; rfl, by simp; omega⟩ (by simp only; omega) ?_⟩
          simp [Life.row]
    · have hd : l.drop i = [] := List.drop_eq_nil_of_le (by omega)
      rw [hd, show livesL [] = [] from rfl, List.append_nil] at g2
      rw [g2]
      have hlt' : ((i : Int) < l.length) = False := eq_false (by omega)
      simp -implicitDefEqProofs [hlt, hlt']
  · rw [if_neg he]
    simp -implicitDefEqProofs +contextual [-Bool.and_eq_false_imp, Bool.and_eq_false_iff, he]
end Go.Proofs.YtejhjdpafdpjlaaGreatDoor
