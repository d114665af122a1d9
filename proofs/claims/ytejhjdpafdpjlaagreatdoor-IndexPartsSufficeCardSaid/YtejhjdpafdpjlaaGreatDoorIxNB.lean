/- A part of the proof: lemmas and contracts of functions. -/
import Derived.Test.YtejhjdpafdpjlaaGreatDoorIxSQ
import Derived.Test.YtejhjdpafdpjlaaGreatDoorIxB
namespace Go.Proofs.YtejhjdpafdpjlaaGreatDoor
open Go Go.Ab
set_option linter.unusedSectionVars false
variable [Amb]
set_option maxRecDepth 100000
set_option maxHeartbeats 4000000

abbrev digCs : List UInt8 := [48, 49, 50, 51, 52, 53, 54, 55, 56, 57]
theorem digCs_dig (b : UInt8) : digCs.contains b = isDig b := by
  rw [Bool.eq_iff_iff]
  simp only [isDig, Bool.and_eq_true, decide_eq_true_eq, List.contains_iff_mem, List.mem_cons, List.not_mem_nil, or_false, ← UInt8.toNat_inj]
  simp
  omega
theorem trim_digs (s : List UInt8) : (Lib.trimS s digCs = []) ↔ s.all isDig = true := by
  rw [trimS_nil]
  have : (fun b => digCs.contains b) = isDig := funext digCs_dig
  rw [this]
theorem numB_cons (b : UInt8) (r : List UInt8) : numB (b :: r) = ((b :: r).all isDig && (decide (r.length + 1 ≤ 12) && (decide (b ≠ 48) || decide (r = [])))) := by
  unfold numB lead0
  rw [List.length_cons, List.head?_cons]
  have h1 : decide (1 ≤ r.length + 1) = true := by simp
  rw [h1, Bool.true_and]
  congr 2
  cases r with
  | nil => simp
  | cons x y => simp
theorem message_Digits (s : List UInt8) : ACalls Tryz.prog 87 [.one (.str s), .one (.int .i64 12)] (.x (.one (.bool (numB s)))) := by
  refine ACalls.of mixed (fn := Tryz.f87) (by kernel_rfl) (by kernel_rfl) rfl (by kernel_rfl) (by simp [Tryz.f87]) (fun hok => ?_)
  cases s with
  | nil =>
    simp -implicitDefEqProofs
    refine ACallGS.of (fun h => by cases h) (r := .x (.one (.str []))) rfl ?_
    simp -implicitDefEqProofs
    rfl
  | cons b r =>
    rw [numB_cons]
    by_cases hl : r.length + 1 ≤ 12
    · have hl' : ((r.length : Int) + 1 ≤ 12) = True := eq_true (by omega)
      simp -implicitDefEqProofs [hl, hl']
      refine ACallGS.of (fun _ => strings_Trim (b :: r) digCs (by decide) (by decide)) rfl ?_
      by_cases hd : (b :: r).all isDig = true
      · have ht := (trim_digs (b :: r)).2 hd
        rw [hd]
        by_cases hb : b = 48
        · subst hb
          simp -implicitDefEqProofs [hl, hl', ht]
          cases r <;> simp
        · have hb' : ((b.toNat : Int) = 48) = False := eq_false fun h => hb (by rw [← UInt8.toNat_inj]; simp; omega)
          have hp : (1 ≤ (r.length : Int) + 1) = True := eq_true (by omega)
          simp -implicitDefEqProofs [hl, hl', ht, hb, hb', hp]
      · have ht : ¬ Lib.trimS (b :: r) digCs = [] := fun h => hd ((trim_digs (b :: r)).1 h)
        rw [Bool.eq_false_iff.2 hd]
        simp -implicitDefEqProofs [hl, hl', ht]
    · have hl' : ((r.length : Int) + 1 ≤ 12) = False := eq_false (by omega)
      simp -implicitDefEqProofs [hl, hl']
      refine ACallGS.of (fun h => by cases h) (r := .x (.one (.str []))) rfl ?_
      simp -implicitDefEqProofs [hl, hl']
theorem errT : isIfaceT Tryz.prog 99 = true := by kernel_rfl
theorem numB_atoi {s : List UInt8} (h : numB s = true) : Lib.atoi s = some (numV s) ∧ s.length ≤ 12 := by
  obtain ⟨_, _, _, h1, h2, h3⟩ := numB_bound h
  refine ⟨?_, h3⟩
  unfold numV
  rw [if_pos h, atoi_eq h1 (by rintro rfl; simp at h2)]
theorem index_number (s : List UInt8) : ACalls Tryz.prog 59 [.one (.str s)] (.tup [.one (.int .i64 (numV s)), .one (.bool (numB s))]) := by
  refine ACalls.of mixed (fn := Tryz.f59) (by kernel_rfl) (by kernel_rfl) rfl (by kernel_rfl) (by simp [Tryz.f59]) (fun hok => ?_)
  simp -implicitDefEqProofs
  refine ACallK.of (message_Digits s) ?_
  by_cases h : numB s = true
  · obtain ⟨ha, hl⟩ := numB_atoi h
    rw [h]
    simp -implicitDefEqProofs
    refine ACallK.of (strconv_Atoi1 s _ (by omega) ha) ?_
    simp -implicitDefEqProofs [errT]
  · have h0 : numV s = 0 := by unfold numV; rw [if_neg h]
    rw [h0, Bool.eq_false_iff.2 h]
    simp -implicitDefEqProofs
theorem dig_bounds (b : UInt8) : isDig b = (!(decide (b.toNat < 48)) && !(decide (57 < b.toNat))) := by
  unfold isDig
  rw [Bool.eq_iff_iff]; simp
theorem ref8_numbered (s : List UInt8) : ACalls Tryz.prog 60 [.one (.str s)] (.tup [.one (.int .i64 (numV s)), .one (.bool (numB s))]) := by
  refine ACalls.of mixed (fn := Tryz.f60) (by kernel_rfl) (by kernel_rfl) rfl (by kernel_rfl) (by simp [Tryz.f60]) (fun hok => ?_)
  cases s with
  | nil =>
    rw [show numV [] = 0 from rfl, show numB [] = false from rfl]
    simp -implicitDefEqProofs
  | cons b r =>
    obtain ⟨s, es⟩ : ∃ s, s = b :: r := ⟨_, rfl⟩
    have hN := numB_cons b r
    have hlen : s.length = r.length + 1 := by rw [es]; rfl
    have hne : ¬ s = [] := by rw [es]; simp
    have h0 : 0 < s.length := by omega
    have hat : s[0] = b := by simp [es]
    have hr : (r = []) ↔ ¬ 1 < s.length := by rw [hlen]; cases r <;> simp
    rw [← es] at hN ⊢
    by_cases hl : s.length ≤ 12
    · have hl' : (12 < (s.length : Int)) = False := eq_false (by omega)
      have hl2 : (12 < s.length) = False := eq_false (by omega)
      by_cases hz : 1 < s.length ∧ b = 48
      · obtain ⟨hz1, hz2⟩ := hz
        have hz1' : (1 < (s.length : Int)) = True := eq_true (by omega)
        have hB : numB s = false := by rw [hN]; simp [hz2, hr]; omega
        have hV : numV s = 0 := by unfold numV; rw [hB]; rfl
        rw [hB, hV]
        have hat' : (s[0].toNat : Int) = 48 := by rw [hat, hz2]; rfl
        simp -implicitDefEqProofs [hne, hl', hl2, hz1, hz1', h0, hat']
      · have hB : numB s = s.all isDig := by
          rw [hN, ← hlen]
          simp only [hl, decide_true, Bool.true_and]
          by_cases hb : b = 48
          · have : r = [] := hr.2 fun h => hz ⟨h, hb⟩
            simp [this]
          · simp [hb]
        have hgo2 : (1 < (s.length : Int)) → ¬ ((s[0].toNat : Int) = 48) := fun h1 h2 => hz ⟨by omega, by rw [← hat, ← UInt8.toNat_inj]; simp; omega⟩
        by_cases h1 : 1 < s.length
        · have h1' : (1 < (s.length : Int)) = True := eq_true (by omega)
          have hs0 : ((s[0].toNat : Int) = 48) = False := eq_false (hgo2 (by omega))
          · simp -implicitDefEqProofs [hne, hl', hl2, h1, h1', h0, hs0]
            refine ALoopS.of Nat (fun i => [(0, .x (.one (.str s))), (4, .x (.one (.int .i64 i)))]) (fun i => i ≤ s.length ∧ ∀ j, (h : j < i) → (hj : j < s.length) → isDig s[j] = true) (fun i => s.length - i) 0 ⟨Nat.zero_le _, fun j h => by omega⟩ ?_ ?_
            · simp
            rintro i ⟨hi, hp⟩
            by_cases hlt : i < s.length
            · have hlt' : ((i : Int) < (s.length : Int)) = True := eq_true (by omega)
              have hwr : IntKind.i64.wrap ((i : Int) + 1) = (i : Int) + 1 := wrapS _ (by omega)
              by_cases hd : isDig s[i] = true
              · have hd' := hd
                rw [dig_bounds] at hd'
                simp only [Bool.and_eq_true, Bool.not_eq_true', decide_eq_false_iff_not] at hd'
                have d1 : ((s[i].toNat : Int) < 48) = False := eq_false (by omega)
                have d2 : (57 < (s[i].toNat : Int)) = False := eq_false (by omega)
                simp -implicitDefEqProofs [hlt, hlt', d1, d2, hwr]
                refine Again.of (i + 1) ⟨by omega, fun j h hj => ?_⟩ (by omega) (by simp)
                by_cases hji : j = i
                · subst hji; exact hd
                · exact hp j (by omega) hj
              · have hF : s.all isDig = false := by
                  rw [List.all_eq_false]
                  exact ⟨s[i], List.getElem_mem hlt, hd⟩
                have hV : numV s = 0 := by unfold numV; rw [hB, hF]; rfl
                rw [hB, hF, hV]
                rw [dig_bounds] at hd
                by_cases d1 : s[i].toNat < 48
                · have d1' : ((s[i].toNat : Int) < 48) = True := eq_true (by omega)
                  simp -implicitDefEqProofs [hlt, hlt', d1']
                · have d1' : ((s[i].toNat : Int) < 48) = False := eq_false (by omega)
                  have d2 : (57 < (s[i].toNat : Int)) = True := eq_true (by simp [d1] at hd; omega)
                  simp -implicitDefEqProofs [hlt, hlt', d1', d2]
            · have hT : s.all isDig = true := by
                rw [List.all_eq_true]
                intro x hx
                obtain ⟨j, hj, rfl⟩ := List.mem_iff_getElem.1 hx
                exact hp j (by omega) hj
              rw [hT] at hB
              obtain ⟨ha, hl12⟩ := numB_atoi hB
              rw [hB]
              have hlt' : ((i : Int) < (s.length : Int)) = False := eq_false (by omega)
              simp -implicitDefEqProofs [hlt, hlt']
              refine ACallK.of (strconv_Atoi1 s _ (by omega) ha) ?_
              simp -implicitDefEqProofs
        · have h1' : (1 < (s.length : Int)) = False := eq_false (by omega)
          · simp -implicitDefEqProofs [hne, hl', hl2, h1, h1', h0]
            refine ALoopS.of Nat (fun i => [(0, .x (.one (.str s))), (4, .x (.one (.int .i64 i)))]) (fun i => i ≤ s.length ∧ ∀ j, (h : j < i) → (hj : j < s.length) → isDig s[j] = true) (fun i => s.length - i) 0 ⟨Nat.zero_le _, fun j h => by omega⟩ ?_ ?_
            · simp
            rintro i ⟨hi, hp⟩
            by_cases hlt : i < s.length
            · have hlt' : ((i : Int) < (s.length : Int)) = True := eq_true (by omega)
              have hwr : IntKind.i64.wrap ((i : Int) + 1) = (i : Int) + 1 := wrapS _ (by omega)
              by_cases hd : isDig s[i] = true
              · have hd' := hd
                rw [dig_bounds] at hd'
                simp only [Bool.and_eq_true, Bool.not_eq_true', decide_eq_false_iff_not] at hd'
                have d1 : ((s[i].toNat : Int) < 48) = False := eq_false (by omega)
                have d2 : (57 < (s[i].toNat : Int)) = False := eq_false (by omega)
                simp -implicitDefEqProofs [hlt, hlt', d1, d2, hwr]
                refine Again.of (i + 1) ⟨by omega, fun j h hj => ?_⟩ (by omega) (by simp)
                by_cases hji : j = i
                · subst hji; exact hd
                · exact hp j (by omega) hj
              · have hF : s.all isDig = false := by
                  rw [List.all_eq_false]
                  exact ⟨s[i], List.getElem_mem hlt, hd⟩
                have hV : numV s = 0 := by unfold numV; rw [hB, hF]; rfl
                rw [hB, hF, hV]
                rw [dig_bounds] at hd
                by_cases d1 : s[i].toNat < 48
                · have d1' : ((s[i].toNat : Int) < 48) = True := eq_true (by omega)
                  simp -implicitDefEqProofs [hlt, hlt', d1']
                · have d1' : ((s[i].toNat : Int) < 48) = False := eq_false (by omega)
                  have d2 : (57 < (s[i].toNat : Int)) = True := eq_true (by simp [d1] at hd; omega)
                  simp -implicitDefEqProofs [hlt, hlt', d1', d2]
            · have hT : s.all isDig = true := by
                rw [List.all_eq_true]
                intro x hx
                obtain ⟨j, hj, rfl⟩ := List.mem_iff_getElem.1 hx
                exact hp j (by omega) hj
              rw [hT] at hB
              obtain ⟨ha, hl12⟩ := numB_atoi hB
              rw [hB]
              have hlt' : ((i : Int) < (s.length : Int)) = False := eq_false (by omega)
              simp -implicitDefEqProofs [hlt, hlt']
              refine ACallK.of (strconv_Atoi1 s _ (by omega) ha) ?_
              simp -implicitDefEqProofs
    · have hl' : (12 < (s.length : Int)) = True := eq_true (by omega)
      have hl2 : (12 < s.length) = True := eq_true (by omega)
      have hB : numB s = false := by rw [hN, ← hlen]; simp [hl]
      have hV : numV s = 0 := by unfold numV; rw [hB]; rfl
      rw [hB, hV]
      simp -implicitDefEqProofs [hne, hl', hl2]
theorem slices_IndexS (l : List (List UInt8)) (e : List UInt8) : ACalls Tryz.prog 86 [strs l, .one (.str e)] (.x (.one (.int .i64 (match l.findIdx? (· == e) with | some i => (i : Int) | none => -1)))) := by
  refine ACalls.of mixed (fn := Tryz.f86) (by kernel_rfl) (by kernel_rfl) rfl (by kernel_rfl) (by simp [Tryz.f86]) (fun hok => ?_)
  have hl : l.length ≤ maxLen := by have := hok _ List.mem_cons_self; simp [XV.ok, CV.ok] at this; exact this.1
  simp -implicitDefEqProofs +contextual [-Bool.and_eq_false_imp, Bool.and_eq_false_iff]
  refine ALoopS.of Nat (fun i => [(0, .x (strs l)), (1, .x (.one (.str e))), (7, .x (.one (.int .i64 l.length))), (8, .x (.one (.int .i64 i)))]) (fun i => i ≤ l.length ∧ ∀ j, (h : j < i) → (hj : j < l.length) → l[j] ≠ e) (fun i => l.length - i) 0 ⟨Nat.zero_le _, fun j h => by omega⟩ ?_ ?_
  · simp
  rintro i ⟨hi, hp⟩
  by_cases hlt : i < l.length
  · have hlt' : ((i : Int) < (l.length : Int)) = True := eq_true (by omega)
    have hwr : IntKind.i64.wrap ((i : Int) + 1) = (i : Int) + 1 := wrapS _ (by unfold maxLen at hl; omega)
    by_cases he : l[i] = e
    · have hf : l.findIdx? (· == e) = some i := by
        rw [List.findIdx?_eq_some_iff_getElem]
        exact ⟨hlt, by simp [he], fun j hj => by simpa using hp j hj (by omega)⟩
      rw [hf]
      simp -implicitDefEqProofs [hlt, hlt', he]
    · have he' : (e = l[i]) = False := eq_false fun h => he h.symm
      simp -implicitDefEqProofs [hlt, hlt', he', hwr]
      refine Again.of (i + 1) ⟨by omega, fun j h hj => ?_⟩ (by omega) (by simp)
      by_cases hji : j = i
      · subst hji; exact he
      · exact hp j (by omega) hj
  · have hf : l.findIdx? (· == e) = none := by
      rw [List.findIdx?_eq_none_iff]
      intro x hx
      obtain ⟨j, hj, rfl⟩ := List.mem_iff_getElem.1 hx
      simpa using hp j (by omega) hj
    rw [hf]
    have hlt' : ((i : Int) < (l.length : Int)) = False := eq_false (by omega)
    simp -implicitDefEqProofs [hlt, hlt']
theorem slices_ContainsS (l : List (List UInt8)) (e : List UInt8) : ACalls Tryz.prog 57 [strs l, .one (.str e)] (.x (.one (.bool (decide (e ∈ l))))) := by
  refine ACalls.of mixed (fn := Tryz.f57) (by kernel_rfl) (by kernel_rfl) rfl (by kernel_rfl) (by simp [Tryz.f57]) (fun hok => ?_)
  simp -implicitDefEqProofs
  refine ACallK.of (slices_IndexS l e) ?_
  cases h : l.findIdx? (· == e) with
  | some i =>
    have hm : e ∈ l := by
      rw [List.findIdx?_eq_some_iff_getElem] at h
      obtain ⟨hi, he, _⟩ := h
      have : l[i] = e := by simpa using he
      rw [← this]; exact List.getElem_mem hi
    simp -implicitDefEqProofs [hm]
  | none =>
    have hm : e ∉ l := by
      rw [List.findIdx?_eq_none_iff] at h
      intro hm
      simpa using h e hm
    simp -implicitDefEqProofs [hm]
end Go.Proofs.YtejhjdpafdpjlaaGreatDoor
