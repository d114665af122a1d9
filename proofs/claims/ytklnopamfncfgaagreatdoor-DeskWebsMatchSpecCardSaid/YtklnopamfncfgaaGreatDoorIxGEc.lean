/- A part of the proof: lemmas and contracts of functions. -/
import Derived.Test.YtklnopamfncfgaaGreatDoorIxGEb
import Derived.Test.YtklnopamfncfgaaGreatDoorIxGEa
namespace Go.Proofs.YtklnopamfncfgaaGreatDoor
open Go Go.Ab
set_option linter.unusedSectionVars false
variable [Amb] [HasPow10 Tryz.prog] [HasErrSyntax Tryz.prog]
set_option maxRecDepth 100000
set_option maxHeartbeats 4000000
theorem totL_reverse (w : List (List UInt8)) : totL w.reverse = totL w := by
  unfold totL
  rw [List.map_reverse, List.sum_reverse]
theorem address_turned (s : List UInt8) (c d : UInt8) (hs : s.length ≤ 600000) : ACalls Tryz.prog 149 [.one (.str s), .one (.str [c]), .one (.str [d])] (.x (.one (.str (turnedL c d s)))) := by
  have hsp := strings_SplitO s c hs
  have hcnt := splitC_count c s
  have hrv := slices_Reverse (splitC c s) (by omega)
  have hne := splitC_ne c s
  have ht := totL_join d (splitC c s).reverse (by simpa using hne)
  rw [totL_reverse, split_join_len] at ht
  have hj := strings_Join (splitC c s).reverse [d] (by rw [join_oneC]; omega) (by rw [List.length_reverse]; omega)
  rw [join_oneC] at hj
  have hj' : ACalls Tryz.prog 203 [strs (splitC c s).reverse, .one (.str [d])] (.x (.one (.str (turnedL c d s)))) := hj
  clear hj ht hne
  generalize turnedL c d s = R at hj' ⊢
  generalize splitC c s = l at hsp hrv hj' hcnt
  refine ACalls.of mixed (fn := Tryz.f149) (by kernel_rfl) (by kernel_rfl) rfl (by kernel_rfl) (by simp [Tryz.f149]) (fun hok => ?_)
  simp -implicitDefEqProofs
  refine ACallK.of hsp ?_
  simp -implicitDefEqProofs [rav_own]
  refine ACallK.lend ?_
  simp -implicitDefEqProofs
  refine ACallM.of hrv ?_
  simp -implicitDefEqProofs
  refine ACallK.of hj' ?_
  simp -implicitDefEqProofs
def turnS (c : UInt8) (l : List (List UInt8)) (j : Nat) : List UInt8 := if j = l.length then [] else joinC c (l.drop j).reverse ++ (if 0 < j then [c] else [])
theorem turnS_step {c : UInt8} {l : List (List UInt8)} {j : Nat} (h : j < l.length) : turnS c l j = turnS c l (j + 1) ++ l[j] ++ (if 0 < j then [c] else []) := by
  unfold turnS
  rw [if_neg (by omega), List.drop_eq_getElem_cons h, List.reverse_cons]
  by_cases e : j + 1 = l.length
  · rw [if_pos e, List.drop_eq_nil_of_le (by omega)]; simp [joinC]
  · rw [if_neg e, if_pos (show 0 < j + 1 by omega), joinC_snoc _ _ _ (by simp; omega)]
    simp
theorem turnS_len (c : UInt8) (l : List (List UInt8)) (j : Nat) : (turnS c l j).length ≤ totL l + 1 := by
  unfold turnS
  split
  · simp
  · rename_i h
    by_cases hd : (l.drop j).reverse = []
    · rw [hd]; simp only [joinC]; split <;> simp
    · have h1 := totL_join c _ hd
      rw [totL_reverse] at h1
      have h2 : totL l = totL (l.take j) + totL (l.drop j) := by rw [← totL_app, List.take_append_drop]
      split <;> simp <;> omega
theorem turnS_done (c : UInt8) (l : List (List UInt8)) (h : l ≠ []) : turnS c l 0 = joinC c l.reverse := by
  unfold turnS
  rw [if_neg (by intro e; exact h (List.eq_nil_of_length_eq_zero e.symm))]; simp
theorem ref1_turned (s : List UInt8) (hs : s.length ≤ 600000) : ACalls Tryz.prog 163 [.one (.str s)] (.x (.one (.str (turnedL 46 44 s)))) := by
  have hsp := strings_Split1 s 46 hs
  have hcnt := splitC_count 46 s
  have hne := splitC_ne 46 s
  have ht := split_join_len 46 s
  have hR : turnedL 46 44 s = joinC 44 (splitC 46 s).reverse := rfl
  rw [hR]
  generalize splitC 46 s = l at hsp hcnt hne ht ⊢
  refine ACalls.of mixed (fn := Tryz.f163) (by kernel_rfl) (by kernel_rfl) rfl (by kernel_rfl) (by simp [Tryz.f163]) (fun hok => ?_)
  simp -implicitDefEqProofs
  refine ACallK.of hsp ?_
  have w0 : IntKind.i64.wrap ((l.length : Int) - 1) = (l.length : Int) - 1 := wrapS _ (by omega)
  simp -implicitDefEqProofs [w0]
  refine ALoopS.of Nat (fun j => [(3, .x (strs l)), (4, .x (.one (.str (turnS 44 l j)))), (5, .x (.one (.int .i64 ((j : Int) - 1))))]) (fun j => j ≤ l.length) (fun j => j) l.length (Nat.le_refl _) ?_ ?_
  · simp [w0, turnS]
  intro j hj
  cases j with
  | zero =>
    rw [turnS_done 44 l hne]
    simp -implicitDefEqProofs
  | succ m =>
    have hm : m < l.length := by omega
    have e1 : ((m + 1 : Nat) : Int) - 1 = (m : Int) := by omega
    rw [e1]
    have hm' : ((m : Int) < (l.length : Int)) = True := eq_true (by omega)
    have h0 : (0 ≤ (m : Int)) = True := eq_true (by omega)
    have w1 : IntKind.i64.wrap ((m : Int) - 1) = (m : Int) - 1 := wrapS _ (by omega)
    have hst := turnS_step (c := 44) hm
    have hl1 := turnS_len 44 l m
    rw [hst] at hl1
    simp only [List.length_append] at hl1
    generalize turnS 44 l (m + 1) = q at hst hl1 ⊢
    have m1 : q.length + l[m].length ≤ maxLen := by unfold maxLen; omega
    have m2 : q.length + l[m].length + 1 ≤ maxLen := by unfold maxLen; omega
    have m3 : q.length + (l[m].length + 1) ≤ maxLen := by unfold maxLen; omega
    by_cases hz : m = 0
    · have g1 : (0 < (m : Int)) = False := eq_false (by omega)
      have g2 : (0 < m) = False := eq_false (by omega)
      simp only [g2, if_false, List.append_nil] at hst
      simp -implicitDefEqProofs [hm, hm', h0, m1, g1, g2, w1]
      refine Again.of m (by omega) (by omega) ?_
      simp [hst, w1]
    · have g1 : (0 < (m : Int)) = True := eq_true (by omega)
      have g2 : (0 < m) = True := eq_true (by omega)
      simp only [g2, if_true] at hst
      simp -implicitDefEqProofs [hm, hm', h0, m1, m2, m3, g1, g2, w1]
      refine Again.of m (by omega) (by omega) ?_
      simp [hst, w1]
end Go.Proofs.YtklnopamfncfgaaGreatDoor
namespace Go.Proofs.YtklnopamfncfgaaGreatDoor
open Go Go.Ab
set_option linter.unusedSectionVars false
variable [Amb]
set_option maxRecDepth 100000
set_option maxHeartbeats 4000000
theorem hostC_split (c : UInt8) : hostC c = (letB c || (isDig c || (decide (c = 45) || decide (c = 46)))) := by
  unfold hostC labC
  cases letB c <;> cases isDig c <;> simp
theorem takeWhile_upto {p : UInt8 → Bool} {s : List UInt8} {i : Nat} (h : Upto p s i) (hs : ∀ hlt : i < s.length, p s[i] = false) : s.takeWhile p = s.take i := by
  obtain ⟨h1, h2⟩ := h
  have e : s = s.take i ++ s.drop i := (List.take_append_drop i s).symm
  conv => lhs; rw [e]
  refine takeWhile_stop _ _ h2 (fun c hc => ?_)
  by_cases hlt : i < s.length
  · rw [List.drop_eq_getElem_cons hlt] at hc
    rw [List.head?_cons] at hc
    have hc' : s[i] = c := Option.some.inj hc
    rw [← hc']; exact hs hlt
  · rw [List.drop_eq_nil_of_le (by omega)] at hc
    cases hc
theorem cut_nat {α : Type} (l : List α) (i k : Nat) : cutAt l (i : Int) (k : Int) = (l.drop i).take (k - i) := by
  simp [cutAt, List.drop_take]
theorem address_hostEnd (s : List UInt8) (hs : s.length ≤ 4000000000000000) : ACalls Tryz.prog 135 [.one (.str s)] (.x (.one (.int .i64 (s.takeWhile hostC).length))) := by
  refine ACalls.of mixed (fn := Tryz.f135) (by kernel_rfl) (by kernel_rfl) rfl (by kernel_rfl) (by simp [Tryz.f135]) (fun hok => ?_)
  simp -implicitDefEqProofs
  refine ALoopS.of Nat (fun i => [(0, .x (.one (.str s))), (3, .x (.one (.int .i64 i)))]) (Upto hostC s) (fun i => s.length - i) 0 Upto.zero ?_ ?_
  · simp
  intro i hi
  have hle := hi.1
  by_cases hlt : i < s.length
  rotate_left
  · have hlt' : ((i : Int) < (s.length : Int)) = False := eq_false (by omega)
    have ht := takeWhile_upto hi (fun h => absurd h hlt)
    rw [ht]
    simp -implicitDefEqProofs [hlt, hlt']
    refine ACallGS.of (fun h => by cases h) (r := .x (.one (.bool false))) rfl ?_
    simp -implicitDefEqProofs [hlt, hlt']
    refine ACallGS.of (fun h => by cases h) (r := .x (.one (.bool false))) rfl ?_
    simp -implicitDefEqProofs [hlt, hlt']
    try omega
  have hlt' : ((i : Int) < (s.length : Int)) = True := eq_true (by omega)
  have hwr : IntKind.i64.wrap ((i : Int) + 1) = (i : Int) + 1 := wrapS _ (by omega)
  have hc := hostC_split s[i]
  simp -implicitDefEqProofs [hlt, hlt']
  refine ACallGS.of (fun _ => address_isLetter s[i]) rfl ?_
  cases b0 : letB s[i]
  · simp -implicitDefEqProofs [hlt, hlt']
    refine ACallGS.of (fun _ => address_isDigit s[i]) rfl ?_
    cases b1 : isDig s[i]
    · by_cases b2 : s[i] = 45
      · have e2 : ((s[i].toNat : Int) = 45) = True := eq_true ((u8_int 45 (by omega)).2 b2)
        have f2 : ((s[i].toNat : Int) == 45) = true := by simpa using e2
        simp -implicitDefEqProofs [hlt, hlt', e2, f2]
        refine Again.of (i + 1) (hi.step hlt (by rw [hc]; simp [b2])) (by omega) (by simp [hwr])
      · have e2 : ((s[i].toNat : Int) = 45) = False := eq_false (fun h => b2 ((u8_int 45 (by omega)).1 h))
        have f2 : ((s[i].toNat : Int) == 45) = false := by simpa using e2
        by_cases b3 : s[i] = 46
        · have e3 : ((s[i].toNat : Int) = 46) = True := eq_true ((u8_int 46 (by omega)).2 b3)
          have f3 : ((s[i].toNat : Int) == 46) = true := by simpa using e3
          simp -implicitDefEqProofs [hlt, hlt', e2, f2, e3, f3]
          refine Again.of (i + 1) (hi.step hlt (by rw [hc]; simp [b3])) (by omega) (by simp [hwr])
        · have e3 : ((s[i].toNat : Int) = 46) = False := eq_false (fun h => b3 ((u8_int 46 (by omega)).1 h))
          have f3 : ((s[i].toNat : Int) == 46) = false := by simpa using e3
          have ht := takeWhile_upto hi (fun h => by rw [hc, b0, b1]; simp [b2, b3])
          rw [ht]
          simp -implicitDefEqProofs [hlt, hlt', e2, f2, e3, f3]
          try omega
    · simp -implicitDefEqProofs [hlt, hlt']
      refine Again.of (i + 1) (hi.step hlt (by rw [hc]; simp [b1])) (by omega) (by simp [hwr])
  · simp -implicitDefEqProofs [hlt, hlt']
    refine ACallGS.of (fun h => by cases h) (r := .x (.one (.bool false))) rfl ?_
    simp -implicitDefEqProofs [hlt, hlt']
    refine Again.of (i + 1) (hi.step hlt (by rw [hc]; simp [b0])) (by omega) (by simp [hwr])
def rdRow (t : List UInt8) (at' : Nat) (a : Addr) : List CV := .str t :: .int .i64 at' :: a.row
theorem reader_row (t w : List UInt8) (at' : Nat) (a : Addr) (ht : t.length ≤ 2000) (ha : at' ≤ t.length) (hw : ∀ c, w.contains c = true → hexC c = false) :
    ACallsM Tryz.prog 137 [.box (rdRow t at' a), .x (.one (.str w))] (.tup [.one (.str ((t.drop at').take (rowEndL w (t.drop at')).1)), .one (.bool (rowEndL w (t.drop at')).2)]) [.box (rdRow t (at' + (rowEndL w (t.drop at')).1) a), .dead] := by
  refine ACallsM.of mixed (fn := Tryz.f137) (by kernel_rfl) (by kernel_rfl) rfl (by kernel_rfl) (by kernel_rfl) rfl (by simp [Tryz.f137]) (fun hok => ?_)
  have hl := rowEndL_le w (t.drop at')
  rw [List.length_drop] at hl
  have g1 : ((at' : Int) ≤ (t.length : Int)) = True := eq_true (by omega)
  have g2 : (at' ≤ t.length) = True := eq_true ha
  simp -implicitDefEqProofs [rdRow, Addr.row, g1, g2]
  obtain ⟨q, eq⟩ : ∃ q, q = rowEndL w (t.drop at') := ⟨_, rfl⟩
  refine ACallK.of (address_rowEnd (t.drop at') w (by simp; omega) hw) ?_
  rw [← eq] at hl ⊢
  have hwr : IntKind.i64.wrap ((at' : Int) + (q.1 : Int)) = ((at' + q.1 : Nat) : Int) := by rw [wrapS _ (by omega)]; omega
  have g3 : ((at' : Int) ≤ ((at' + q.1 : Nat) : Int)) = True := eq_true (by omega)
  have g4 : (((at' + q.1 : Nat) : Int) ≤ (t.length : Int)) = True := eq_true (by omega)
  simp -implicitDefEqProofs [rdRow, Addr.row, g1, g2, hwr, g3, g4]
  refine ⟨by omega, ?_⟩
  rw [show ((at' : Int) + (q.1 : Int)) = ((at' + q.1 : Nat) : Int) from by omega, cut_nat]
  congr 1; omega
end Go.Proofs.YtklnopamfncfgaaGreatDoor
namespace Go.Proofs.YtklnopamfncfgaaGreatDoor
open Go Go.Ab
set_option linter.unusedSectionVars false
variable [Amb]
set_option maxRecDepth 100000
set_option maxHeartbeats 4000000
theorem takeWhile_len_le (p : UInt8 → Bool) (s : List UInt8) : (s.takeWhile p).length ≤ s.length := (List.takeWhile_prefix p).length_le
theorem placeR_eq (s : List UInt8) : placeR s = (if hostB (s.takeWhile hostC) = false then (false, 0, s.takeWhile hostC, []) else if (s.drop (s.takeWhile hostC).length).head? = some 58 then
      (if portV ((s.drop ((s.takeWhile hostC).length + 1)).takeWhile isDig) = 0 then (false, (s.takeWhile hostC).length + 1, s.takeWhile hostC, (s.drop ((s.takeWhile hostC).length + 1)).takeWhile isDig) else (endB (s.drop ((s.takeWhile hostC).length + 1 + ((s.drop ((s.takeWhile hostC).length + 1)).takeWhile isDig).length)), (s.takeWhile hostC).length + 1 + ((s.drop ((s.takeWhile hostC).length + 1)).takeWhile isDig).length, s.takeWhile hostC, (s.drop ((s.takeWhile hostC).length + 1)).takeWhile isDig))
      else (endB (s.drop (s.takeWhile hostC).length), (s.takeWhile hostC).length, s.takeWhile hostC, [])) := rfl
theorem hasPre_head (s : List UInt8) (c : UInt8) : hasPre s [c] = decide (s.head? = some c) := by
  cases s with
  | nil => rfl
  | cons a r =>
    show ((c == a) && List.isPrefixOf [] r) = _
    rw [List.isPrefixOf_nil_left, Bool.and_true, List.head?_cons, Bool.eq_iff_iff, beq_iff_eq, decide_eq_true_eq, Option.some.injEq, eq_comm]
theorem head_drop {t : List UInt8} {k : Nat} (h : k < t.length) : (t.drop k).head? = some t[k] := by rw [List.drop_eq_getElem_cons h]; rfl
theorem back_in (c : UInt8) : ([47, 63, 35] : List UInt8).contains c = backC c := by
  simp [backC, eq_comm]
theorem endB_drop {t : List UInt8} {k : Nat} (h : k < t.length) : endB (t.drop k) = backC t[k] := by rw [List.drop_eq_getElem_cons h]; rfl
theorem endB_end {t : List UInt8} {k : Nat} (h : ¬ k < t.length) : endB (t.drop k) = true := by rw [List.drop_eq_nil_of_le (by omega)]; rfl
theorem atByte_back (c : UInt8) : decide (0 ≤ atByte [47, 63, 35] c) = backC c := by
  rw [← back_in]
  cases h : ([47, 63, 35] : List UInt8).contains c
  · rw [atByte_no h]; rfl
  · have := atByte_in h; simpa using this
theorem reader_place (t : List UInt8) (at' : Nat) (a : Addr) (ht : t.length ≤ 2000) (ha : at' ≤ t.length) (hp0 : a.port = []) :
    ACallsM Tryz.prog 76 [.box (rdRow t at' a)] (.x (.one (.bool (placeR (t.drop at')).1))) [.box (rdRow t (at' + (placeR (t.drop at')).2.1) { a with host := (placeR (t.drop at')).2.2.1, port := (placeR (t.drop at')).2.2.2 })] := by
  obtain ⟨s, es⟩ : ∃ s, s = t.drop at' := ⟨_, rfl⟩
  obtain ⟨x, ex⟩ : ∃ x, x = s.takeWhile hostC := ⟨_, rfl⟩
  obtain ⟨k, ek⟩ : ∃ k, k = at' + x.length := ⟨_, rfl⟩
  have hls : s.length = t.length - at' := by rw [es, List.length_drop]
  have hxl : x.length ≤ s.length := by rw [ex]; exact takeWhile_len_le _ _
  have hxt : x = s.take x.length := by
    have := take_takeWhile hostC s
    rw [← ex] at this
    conv => rhs; rw [this]
    simp
  have hpl := placeR_eq s
  rw [← ex] at hpl
  have hkt : k ≤ t.length := by omega
  have hdx : t.drop k = s.drop x.length := by rw [es, List.drop_drop, ek]
  have hcut : cutAt t (at' : Int) (k : Int) = x := by
    rw [cut_nat, ← es]
    conv => rhs; rw [hxt]
    congr 1; omega
  have hhe := address_hostEnd s (by omega)
  rw [← ex] at hhe
  have hwr : IntKind.i64.wrap ((at' : Int) + (x.length : Int)) = (k : Int) := by rw [wrapS _ (by omega)]; omega
  have g1 : ((at' : Int) ≤ (t.length : Int)) = True := eq_true (by omega)
  have g2 : (at' ≤ t.length) = True := eq_true ha
  have g3 : ((at' : Int) ≤ (k : Int)) = True := eq_true (by omega)
  have g3' : (at' ≤ k) = True := eq_true (by omega)
  have g4 : ((k : Int) ≤ (t.length : Int)) = True := eq_true (by omega)
  have g4' : (k ≤ t.length) = True := eq_true (by omega)
  obtain ⟨a1, a2, a3, a4, a5, a6, a7, a8⟩ := a
  simp only at hp0
  subst hp0
  rw [← es]
  cases bh : hostB x
  · rw [if_pos bh] at hpl
    rw [hpl]
    refine ACallsM.of mixed (fn := Tryz.f76) (by kernel_rfl) (by kernel_rfl) rfl (by kernel_rfl) (by kernel_rfl) rfl (by simp [Tryz.f76]) (fun hok => ?_)
    simp -implicitDefEqProofs [rdRow, Addr.row, g1, g2]
    rw [← es]
    refine ACallK.of hhe ?_
    simp -implicitDefEqProofs [g1, g2, hwr, g3, g4, g3', g4', hcut]
    refine AltR.l ⟨by kernel_rfl, ?_⟩
    simp -implicitDefEqProofs [g1, g2, hwr, g3, g4, g3', g4', hcut]
    skip
    refine ACallK.of (address_isHost x) ?_
    rw [bh]
    simp -implicitDefEqProofs [rdRow, Addr.row]
  rw [if_neg (by simp [bh])] at hpl
  refine ACallsM.of mixed (fn := Tryz.f76) (by kernel_rfl) (by kernel_rfl) rfl (by kernel_rfl) (by kernel_rfl) rfl (by simp [Tryz.f76]) (fun hok => ?_)
  simp -implicitDefEqProofs [rdRow, Addr.row, g1, g2]
  rw [← es]
  refine ACallK.of hhe ?_
  simp -implicitDefEqProofs [g1, g2, hwr, g3, g4, g3', g4', hcut]
  refine AltR.l ⟨by kernel_rfl, ?_⟩
  simp -implicitDefEqProofs [g1, g2, hwr, g3, g4, g3', g4', hcut]
  refine ACallK.of (address_isHost x) ?_
  rw [bh]
  simp -implicitDefEqProofs [hwr, g4, g4']
  refine ACallK.of (strings_HasPrefix (t.drop k) [58]) ?_
  rw [hasPre_head, hdx]
  by_cases h58 : (s.drop x.length).head? = some 58
  rotate_left
  · have hd : decide ((s.drop x.length).head? = some 58) = false := by simpa using h58
    rw [if_neg h58] at hpl
    rw [hd, hpl]
    by_cases hk : k < t.length
    · have k1 : ((k : Int) = (t.length : Int)) = False := eq_false (by omega)
      have k2 : ((k : Int) == (t.length : Int)) = false := by rw [beq_eq_false_iff_ne]; omega
      have hb := atByte_back t[k]
      have he : endB (s.drop x.length) = backC t[k] := by rw [← hdx]; exact endB_drop hk
      simp -implicitDefEqProofs [k1, k2, hk]
      refine ACallGS.of (fun _ => strings_IndexByte [47, 63, 35] t[k]) rfl ?_
      simp -implicitDefEqProofs [rdRow, Addr.row, k1, k2, hk, hb, he]
      try omega
    · have k1 : ((k : Int) = (t.length : Int)) = True := eq_true (by omega)
      have k2 : ((k : Int) == (t.length : Int)) = true := by rw [beq_iff_eq]; omega
      have he : endB (s.drop x.length) = true := by rw [← hdx]; exact endB_end hk
      simp -implicitDefEqProofs [k1, k2, hk]
      refine ACallGS.of (fun h => by cases h) (r := .x (.one (.int .i64 0))) rfl ?_
      simp -implicitDefEqProofs [rdRow, Addr.row, k1, k2, hk, he]
      try omega
  have hkl : k < t.length := by
    rw [← hdx] at h58
    by_cases h : k < t.length
    · exact h
    · rw [List.drop_eq_nil_of_le (by omega)] at h58; cases h58
  have hd : decide ((s.drop x.length).head? = some 58) = true := by simpa using h58
  rw [hd]
  rw [if_pos h58] at hpl
  have w1 : IntKind.i64.wrap ((k : Int) + 1) = ((k + 1 : Nat) : Int) := by rw [wrapS _ (by omega)]; omega
  obtain ⟨p, ep⟩ : ∃ p, p = (s.drop (x.length + 1)).takeWhile isDig := ⟨_, rfl⟩
  obtain ⟨j, ej⟩ : ∃ j, j = k + 1 := ⟨_, rfl⟩
  obtain ⟨m, em⟩ : ∃ m, m = j + p.length := ⟨_, rfl⟩
  rw [← ej] at w1
  have hdj : t.drop j = s.drop (x.length + 1) := by rw [es, List.drop_drop]; congr 1; omega
  rw [← ep] at hpl
  have hpt := takeWhile_len_le isDig (t.drop j)
  rw [hdj, ← ep, ← hdj, List.length_drop] at hpt
  simp -implicitDefEqProofs [hwr, w1, g4, g4']
  refine ALoopS.of Nat (fun i => [(0, .box (rdRow t j ⟨a1, x, [], a4, a5, a6, a7, a8⟩)), (4, .x (.one (.int .i64 ((j + i : Nat) : Int))))]) (Upto isDig (t.drop j)) (fun i => t.length - (j + i)) 0 Upto.zero ?_ ?_
  · simp [rdRow, Addr.row]
  intro i hi
  have hle := hi.1
  rw [List.length_drop] at hle
  obtain ⟨q, eq⟩ : ∃ q, q = j + i := ⟨_, rfl⟩
  rw [← eq]
  by_cases hx : ∃ h : q < t.length, isDig t[q] = true
  · obtain ⟨hlt, hdg⟩ := hx
    have hlt' : ((q : Int) < (t.length : Int)) = True := eq_true (by omega)
    have hwq : IntKind.i64.wrap ((q : Int) + 1) = (q : Int) + 1 := wrapS _ (by omega)
    simp -implicitDefEqProofs [rdRow, Addr.row, hlt, hlt']
    refine ACallGS.of (fun _ => address_isDigit t[q]) rfl ?_
    rw [hdg]
    simp -implicitDefEqProofs [hwq]
    refine Again.of (i + 1) (hi.step (by rw [List.length_drop]; omega) (by rw [List.getElem_drop]; simpa only [← eq] using hdg)) (by omega) ?_
    simp [rdRow, Addr.row, hwq]
    omega
  have hpi : p = (t.drop j).take i := by
    rw [ep, ← hdj]
    refine takeWhile_upto hi (fun h => ?_)
    rw [List.length_drop] at h
    rw [List.getElem_drop]
    cases hc : isDig t[j + i] with
    | false => rfl
    | true => exact absurd ⟨by omega, by simpa only [eq] using hc⟩ hx
  have hmq : q = m := by
    have := congrArg List.length hpi
    rw [List.length_take, List.length_drop] at this
    omega
  have hcut2 : cutAt t (j : Int) (m : Int) = p := by
    rw [cut_nat, hpi]; congr 1; omega
  have hv := address_portOf p
  have g5 : ((j : Int) ≤ (m : Int)) = True := eq_true (by omega)
  have g6 : ((m : Int) ≤ (t.length : Int)) = True := eq_true (by omega)
  have g5' : (j ≤ m) = True := eq_true (by omega)
  have g6' : (m ≤ t.length) = True := eq_true (by omega)
  have hdm : t.drop m = s.drop (x.length + 1 + p.length) := by rw [es, List.drop_drop]; congr 1; omega
  have K : (∃ h : q < t.length, isDig t[q] = false) ∨ ¬ q < t.length := by
    by_cases h : q < t.length
    · left
      refine ⟨h, ?_⟩
      cases hc : isDig t[q] with
      | false => rfl
      | true => exact absurd ⟨h, hc⟩ hx
    · exact .inr h
  rw [hmq] at K ⊢
  clear hx hmq eq hi hle
  rcases K with ⟨hlt, hdg⟩ | hlt
  · have hlt' : ((m : Int) < (t.length : Int)) = True := eq_true (by omega)
    have k1 : ((m : Int) = (t.length : Int)) = False := eq_false (by omega)
    have k2 : ((m : Int) == (t.length : Int)) = false := by rw [beq_eq_false_iff_ne]; omega
    simp -implicitDefEqProofs [rdRow, Addr.row, hlt, hlt']
    refine ACallGS.of (fun _ => address_isDigit t[m]) rfl ?_
    rw [hdg]
    simp -implicitDefEqProofs [g5, g5', g6, g6', hcut2]
    refine AltR.l ⟨by kernel_rfl, ?_⟩
    simp -implicitDefEqProofs [g5, g5', g6, g6', hcut2]
    refine ACallK.of hv ?_
    by_cases hv0 : portV p = 0
    · rw [if_pos hv0] at hpl
      rw [hpl]
      have v1 : ((portV p : Int) = 0) = True := eq_true (by omega)
      have v2 : ((portV p : Int) == 0) = true := by rw [beq_iff_eq]; omega
      have ha2 : at' + (x.length + 1) = j := by omega
      simp -implicitDefEqProofs [rdRow, Addr.row, hv0, v1, v2, ha2]
    rw [if_neg hv0] at hpl
    rw [hpl]
    have v1 : ((portV p : Int) = 0) = False := eq_false (by omega)
    have v2 : ((portV p : Int) == 0) = false := by rw [beq_eq_false_iff_ne]; omega
    have ha2 : at' + (x.length + 1 + p.length) = m := by omega
    have hb := atByte_back t[m]
    have he : endB (s.drop (x.length + 1 + p.length)) = backC t[m] := by rw [← hdm]; exact endB_drop hlt
    simp -implicitDefEqProofs [k1, k2, v1, v2, hv0, hlt]
    refine ACallGS.of (fun _ => strings_IndexByte [47, 63, 35] t[m]) rfl ?_
    simp -implicitDefEqProofs [rdRow, Addr.row, k1, k2, hlt, hb, he, ha2]
  · have hlt' : ((m : Int) < (t.length : Int)) = False := eq_false (by omega)
    have k1 : ((m : Int) = (t.length : Int)) = True := eq_true (by omega)
    have k2 : ((m : Int) == (t.length : Int)) = true := by rw [beq_iff_eq]; omega
    simp -implicitDefEqProofs [rdRow, Addr.row, hlt, hlt']
    refine ACallGS.of (fun h => by cases h) (r := .x (.one (.bool false))) rfl ?_
    simp -implicitDefEqProofs [g5, g5', g6, g6', hcut2]
    refine AltR.l ⟨by kernel_rfl, ?_⟩
    simp -implicitDefEqProofs [g5, g5', g6, g6', hcut2]
    refine ACallK.of hv ?_
    by_cases hv0 : portV p = 0
    · rw [if_pos hv0] at hpl
      rw [hpl]
      have v1 : ((portV p : Int) = 0) = True := eq_true (by omega)
      have v2 : ((portV p : Int) == 0) = true := by rw [beq_iff_eq]; omega
      have ha2 : at' + (x.length + 1) = j := by omega
      simp -implicitDefEqProofs [rdRow, Addr.row, hv0, v1, v2, ha2]
    rw [if_neg hv0] at hpl
    rw [hpl]
    have v1 : ((portV p : Int) = 0) = False := eq_false (by omega)
    have v2 : ((portV p : Int) == 0) = false := by rw [beq_eq_false_iff_ne]; omega
    have ha2 : at' + (x.length + 1 + p.length) = m := by omega
    have he : endB (s.drop (x.length + 1 + p.length)) = true := by rw [← hdm]; exact endB_end hlt
    simp -implicitDefEqProofs [k1, k2, v1, v2, hv0, hlt]
    refine ACallGS.of (fun h => by cases h) (r := .x (.one (.int .i64 0))) rfl ?_
    simp -implicitDefEqProofs [rdRow, Addr.row, k1, k2, hlt, he, ha2]
end Go.Proofs.YtklnopamfncfgaaGreatDoor
namespace Go.Proofs.YtklnopamfncfgaaGreatDoor
open Go Go.Ab
def stopW (w s : List UInt8) : List UInt8 := s.takeWhile (fun c => !w.contains c)
theorem stopW_hit {w : List UInt8} {c : UInt8} (h : w.contains c = true) (r : List UInt8) : stopW w (c :: r) = [] := by unfold stopW; rw [List.takeWhile_cons_of_neg (by rw [h]; decide)]
theorem stopW_miss {w : List UInt8} {c : UInt8} (h : w.contains c = false) (r : List UInt8) : stopW w (c :: r) = c :: stopW w r := by unfold stopW; rw [List.takeWhile_cons_of_pos (by rw [h]; rfl)]
theorem hex2_stop {w : List UInt8} (hw : ∀ c, w.contains c = true → hexC c = false) (r : List UInt8) : hex2 (stopW w r) = hex2 r := by
  have hx : ∀ c, hexC c = true → w.contains c = false := fun c hc => by
    cases hq : w.contains c with
    | false => rfl
    | true => rw [hw c hq] at hc; cases hc
  match r with
  | [] => rfl
  | [a] =>
    cases ha : w.contains a with
    | true => rw [stopW_hit ha]; rfl
    | false => rw [stopW_miss ha]; rfl
  | a :: b :: r =>
    cases ha : w.contains a with
    | true => rw [stopW_hit ha]; simp [hex2, hw a ha]
    | false =>
      rw [stopW_miss ha]
      cases hb : w.contains b with
      | true => rw [stopW_hit hb]; simp [hex2, hw b hb]
      | false => rw [stopW_miss hb]; rfl
theorem rowEndL_at (w : List UInt8) (c : UInt8) (r : List UInt8) : rowEndL w (c :: r) = if w.contains c = true then (0, true) else if rowC c = false ∨ (c = 37 ∧ hex2 r = false) then (0, false) else ((rowEndL w r).1 + 1, (rowEndL w r).2) := rfl
theorem rowEndL_nil_cons (c : UInt8) (r : List UInt8) : rowEndL [] (c :: r) = if rowC c = false ∨ (c = 37 ∧ hex2 r = false) then (0, false) else ((rowEndL [] r).1 + 1, (rowEndL [] r).2) := by
  rw [rowEndL, if_neg (by simp)]
theorem rowEndL_cut {w : List UInt8} (hw : ∀ c, w.contains c = true → hexC c = false) : ∀ s : List UInt8, rowEndL [] (stopW w s) = rowEndL w s
  | [] => rfl
  | c :: r => by
    cases hc : w.contains c with
    | true => rw [stopW_hit hc, rowEndL_at w, if_pos hc]; rfl
    | false =>
      rw [stopW_miss hc, rowEndL_nil_cons, hex2_stop hw, rowEndL_cut hw r, rowEndL_at w, if_neg (show ¬ w.contains c = true by rw [hc]; decide)]
theorem rowEndL_full (w : List UInt8) : ∀ s : List UInt8, (rowEndL w s).2 = true → (rowEndL w s).1 = (stopW w s).length
  | [], _ => rfl
  | c :: r, h => by
    rw [rowEndL] at h ⊢
    cases hc : w.contains c with
    | true => rw [stopW_hit hc, if_pos rfl]; rfl
    | false =>
      rw [hc, if_neg (by decide)] at h
      rw [stopW_miss hc, if_neg (by decide)]
      split at h
      · cases h
      · rename_i hn
        rw [if_neg hn]
        simp only [List.length_cons, rowEndL_full w r h]
theorem stopW_len (w s : List UInt8) : (stopW w s).length ≤ s.length := (List.takeWhile_prefix _).length_le
theorem comL_le : ∀ u t : List UInt8, comL u t ≤ u.length ∧ comL u t ≤ t.length
  | [], t => by simp [comL]
  | w :: ws, [] => by simp [comL]
  | w :: ws, t :: ts => by
    have := comL_le ws ts
    simp only [comL]
    split
    · simp only [List.length_cons]; omega
    · simp
theorem comL_app : ∀ a b t : List UInt8, comL (a ++ b) t = if comL a t = a.length then a.length + comL b (t.drop a.length) else comL a t
  | [], b, t => by simp [comL]
  | w :: ws, b, [] => by simp [comL]
  | w :: ws, b, t :: ts => by
    simp only [List.cons_append, comL, List.length_cons, List.drop_succ_cons]
    by_cases h : smallC t = w
    · rw [if_pos h, if_pos h, comL_app ws b ts]
      by_cases h2 : comL ws ts = ws.length
      · rw [if_pos h2, if_pos (by rw [h2])]; omega
      · rw [if_neg h2, if_neg (by omega)]
    · rw [if_neg h, if_neg h, if_neg (by omega)]
structure ComAt (u t : List UInt8) (i : Nat) : Prop where
  le : i ≤ u.length
  le2 : i ≤ t.length
  eq : comL u t = i + comL (u.drop i) (t.drop i)
theorem ComAt.zero (u t : List UInt8) : ComAt u t 0 := ⟨Nat.zero_le _, Nat.zero_le _, by simp⟩
theorem ComAt.step {u t : List UInt8} {i : Nat} (h : ComAt u t i) (h1 : i < u.length) (h2 : i < t.length) (he : smallC t[i] = u[i]) : ComAt u t (i + 1) := by
  refine ⟨h1, h2, ?_⟩
  rw [h.eq, List.drop_eq_getElem_cons h1, List.drop_eq_getElem_cons h2]
  simp only [comL]
  rw [if_pos he]; omega
theorem ComAt.miss {u t : List UInt8} {i : Nat} (h : ComAt u t i) (h1 : i < u.length) (h2 : i < t.length) (he : smallC t[i] ≠ u[i]) : comL u t = i := by
  rw [h.eq, List.drop_eq_getElem_cons h1, List.drop_eq_getElem_cons h2]
  simp only [comL]
  rw [if_neg he]; omega
theorem ComAt.short {u t : List UInt8} {i : Nat} (h : ComAt u t i) (h2 : ¬ i < t.length) : comL u t = i := by
  have e0 : t.drop i = [] := List.drop_eq_nil_of_le (by omega)
  rw [h.eq, e0]
  cases u.drop i <;> simp [comL]
theorem ComAt.full {u t : List UInt8} {i : Nat} (h : ComAt u t i) (h2 : ¬ i < u.length) : comL u t = u.length ∧ i = u.length := by
  have hi : i = u.length := by have := h.le; omega
  refine ⟨?_, hi⟩
  have e0 : u.drop i = [] := List.drop_eq_nil_of_le (by omega)
  rw [h.eq, e0]
  simp [comL, hi]
def passI (u t : List UInt8) (k : Nat) : Int := if comL u (t.drop k) = u.length then -1 else ((k + comL u (t.drop k) : Nat) : Int)
def sepL : List UInt8 := [58, 47, 47]
def schemeN (t : List UInt8) : Nat := if (t.drop 4).head? = some 115 ∨ (t.drop 4).head? = some 83 then 5 else 4
theorem small_115 : ∀ c : UInt8, smallC c = 115 → c = 115 ∨ c = 83 := u8_all (by decide +kernel)
theorem small_115' {c : UInt8} (h : c = 115 ∨ c = 83) : smallC c = 115 := by rcases h with rfl | rfl <;> decide
theorem schemeR_by (t : List UInt8) : schemeR t = if comL httpL t ≠ 4 then .error (comL httpL t) else if comL sepL (t.drop (schemeN t)) = 3 then .ok (schemeN t) else .error (schemeN t + comL sepL (t.drop (schemeN t))) := by
  have e1 : httpL ++ [58, 47, 47] = httpL ++ sepL := rfl
  have e2 : httpsL ++ [58, 47, 47] = httpL ++ (115 :: sepL) := rfl
  unfold schemeR
  rw [e1, e2, comL_app, comL_app]
  have hl : httpL.length = 4 := rfl
  rw [hl]
  obtain ⟨b1, b2⟩ := comL_le sepL (t.drop 4)
  by_cases h4 : comL httpL t = 4
  · rw [if_pos h4, if_pos h4, if_neg (show ¬ comL httpL t ≠ 4 from fun e => e h4)]
    by_cases hs : (t.drop 4).head? = some 115 ∨ (t.drop 4).head? = some 83
    · have hn : schemeN t = 5 := by unfold schemeN; rw [if_pos hs]
      rw [hn]
      obtain ⟨c, r, hcr⟩ : ∃ c r, t.drop 4 = c :: r := by
        cases hd : t.drop 4 with
        | nil => rw [hd] at hs; simp at hs
        | cons c r => exact ⟨c, r, rfl⟩
      have hc : c = 115 ∨ c = 83 := by rw [hcr] at hs; simpa using hs
      have h5 : t.drop 5 = r := by
        have : t.drop 5 = (t.drop 4).drop 1 := by rw [List.drop_drop]
        rw [this, hcr]; rfl
      have k0 : comL sepL (t.drop 4) = 0 := by
        rw [hcr]
        simp only [sepL, comL]
        rw [if_neg (by rcases hc with rfl | rfl <;> decide)]
      have k1 : comL (115 :: sepL) (t.drop 4) = comL sepL r + 1 := by
        rw [hcr]
        simp only [comL]
        rw [if_pos (small_115' hc)]
      obtain ⟨c1, c2⟩ := comL_le sepL r
      have hs3 : sepL.length = 3 := rfl
      rw [k0, k1, h5, if_neg (show ¬ 4 + 0 = 7 by omega)]
      by_cases h3 : comL sepL r = 3
      · rw [if_pos h3, if_pos (by omega)]
      · rw [if_neg h3, if_neg (by omega)]
        congr 1; omega
    · have hn : schemeN t = 4 := by unfold schemeN; rw [if_neg hs]
      rw [hn]
      have k1 : comL (115 :: sepL) (t.drop 4) = 0 := by
        cases hd : t.drop 4 with
        | nil => rfl
        | cons c r =>
          simp only [comL]
          rw [if_neg]
          intro e
          rw [hd] at hs
          exact hs (by simpa using small_115 c e)
      rw [k1]
      by_cases h3 : comL sepL (t.drop 4) = 3
      · rw [if_pos h3, if_pos (by omega)]
      · rw [if_neg h3, if_neg (show ¬ 4 + comL sepL (t.drop 4) = 7 by omega), if_neg (by omega)]
        congr 1; omega
  · rw [if_neg h4, if_neg h4, if_pos (show comL httpL t ≠ 4 from h4)]
    obtain ⟨c1, c2⟩ := comL_le httpL t
    rw [if_neg (by omega), if_neg (by omega)]
    congr 1; omega
end Go.Proofs.YtklnopamfncfgaaGreatDoor
namespace Go.Proofs.YtklnopamfncfgaaGreatDoor
open Go Go.Ab
set_option linter.unusedSectionVars false
variable [Amb]
set_option maxRecDepth 100000
set_option maxHeartbeats 4000000
theorem hex_63_35 : ∀ c : UInt8, ([63, 35] : List UInt8).contains c = true → hexC c = false := u8_all (by decide +kernel)
theorem hex_35 : ∀ c : UInt8, ([35] : List UInt8).contains c = true → hexC c = false := u8_all (by decide +kernel)
theorem hex_none : ∀ c : UInt8, ([] : List UInt8).contains c = true → hexC c = false := fun c h => by cases h
theorem restR_at (t : List UInt8) (k : Nat) : restR (t.drop k) =
    (if (rowEndL [63, 35] (t.drop k)).2 = false then ⟨false, (rowEndL [63, 35] (t.drop k)).1, (t.drop k).take (rowEndL [63, 35] (t.drop k)).1, [], false, [], false⟩
    else if (tailR 63 [35] (t.drop (k + (rowEndL [63, 35] (t.drop k)).1))).1 = false then ⟨false, (rowEndL [63, 35] (t.drop k)).1 + (tailR 63 [35] (t.drop (k + (rowEndL [63, 35] (t.drop k)).1))).2.1, (t.drop k).take (rowEndL [63, 35] (t.drop k)).1, (tailR 63 [35] (t.drop (k + (rowEndL [63, 35] (t.drop k)).1))).2.2.1, (tailR 63 [35] (t.drop (k + (rowEndL [63, 35] (t.drop k)).1))).2.2.2, [], false⟩
    else ⟨(tailR 35 [] (t.drop (k + (rowEndL [63, 35] (t.drop k)).1 + (tailR 63 [35] (t.drop (k + (rowEndL [63, 35] (t.drop k)).1))).2.1))).1,
      (rowEndL [63, 35] (t.drop k)).1 + (tailR 63 [35] (t.drop (k + (rowEndL [63, 35] (t.drop k)).1))).2.1 + (tailR 35 [] (t.drop (k + (rowEndL [63, 35] (t.drop k)).1 + (tailR 63 [35] (t.drop (k + (rowEndL [63, 35] (t.drop k)).1))).2.1))).2.1,
      (t.drop k).take (rowEndL [63, 35] (t.drop k)).1, (tailR 63 [35] (t.drop (k + (rowEndL [63, 35] (t.drop k)).1))).2.2.1, (tailR 63 [35] (t.drop (k + (rowEndL [63, 35] (t.drop k)).1))).2.2.2,
      (tailR 35 [] (t.drop (k + (rowEndL [63, 35] (t.drop k)).1 + (tailR 63 [35] (t.drop (k + (rowEndL [63, 35] (t.drop k)).1))).2.1))).2.2.1, (tailR 35 [] (t.drop (k + (rowEndL [63, 35] (t.drop k)).1 + (tailR 63 [35] (t.drop (k + (rowEndL [63, 35] (t.drop k)).1))).2.1))).2.2.2⟩) := by
  unfold restR
  simp only [List.drop_drop, Nat.add_assoc]
theorem tailR_no {c : UInt8} {w s : List UInt8} (h : ¬ s.head? = some c) : tailR c w s = (true, 0, [], false) := by unfold tailR; rw [if_neg h]
theorem tailR_yes {c : UInt8} {w t : List UInt8} {k : Nat} (h : (t.drop k).head? = some c) : tailR c w (t.drop k) = ((rowEndL w (t.drop (k + 1))).2, (rowEndL w (t.drop (k + 1))).1 + 1, (t.drop (k + 1)).take (rowEndL w (t.drop (k + 1))).1, true) := by
  unfold tailR; rw [if_pos h, List.drop_drop]
theorem head_lt {t : List UInt8} {k : Nat} {c : UInt8} (h : (t.drop k).head? = some c) : k < t.length := by
  by_cases hk : k < t.length
  · exact hk
  · rw [List.drop_eq_nil_of_le (by omega)] at h; cases h
theorem reader_rest (t : List UInt8) (k : Nat) (sc ho po : List UInt8) (ht : t.length ≤ 2000) (hk : k ≤ t.length) :
    ACallsM Tryz.prog 77 [.box (rdRow t k ⟨sc, ho, po, [], [], false, [], false⟩)] (.x (.one (.bool (restR (t.drop k)).ok)))
      [.box (rdRow t (k + (restR (t.drop k)).n) ⟨sc, ho, po, (restR (t.drop k)).path, (restR (t.drop k)).query, (restR (t.drop k)).hasQ, (restR (t.drop k)).frag, (restR (t.drop k)).hasF⟩)] := by
  have hR := restR_at t k
  obtain ⟨R, eR⟩ : ∃ R, R = restR (t.drop k) := ⟨_, rfl⟩
  rw [← eR] at hR ⊢
  have hr1 := reader_row t [63, 35] k ⟨sc, ho, po, [], [], false, [], false⟩ ht hk hex_63_35
  have hP := rowEndL_le [63, 35] (t.drop k)
  obtain ⟨P, eP⟩ : ∃ P, P = rowEndL [63, 35] (t.drop k) := ⟨_, rfl⟩
  obtain ⟨pa, epa⟩ : ∃ pa, pa = (t.drop k).take P.1 := ⟨_, rfl⟩
  obtain ⟨k1, ek1⟩ : ∃ k1, k1 = k + P.1 := ⟨_, rfl⟩
  rw [← eP, ← ek1, ← epa] at hR hr1
  rw [← eP, List.length_drop] at hP
  simp only [rdRow, Addr.row] at hr1
  have hk1 : k1 ≤ t.length := by omega
  have g1 : ((k1 : Int) ≤ (t.length : Int)) = True := eq_true (by omega)
  have g1' : (k1 ≤ t.length) = True := eq_true (by omega)
  have hpre := hasPre_head (t.drop k1) 63
  clear eP eR epa
  cases bP : P.2
  · rw [if_pos bP] at hR
    refine ACallsM.of mixed (fn := Tryz.f77) (by kernel_rfl) (by kernel_rfl) rfl (by kernel_rfl) (by kernel_rfl) rfl (by simp [Tryz.f77]) (fun hok => ?_)
    simp -implicitDefEqProofs [rdRow, Addr.row]
    refine ACallM.of hr1 ?_
    rw [bP]
    simp -implicitDefEqProofs [hR, rdRow, Addr.row, ek1]
  rw [if_neg (by simp [bP])] at hR
  by_cases hq : (t.drop k1).head? = some 63
  rotate_left
  · have hqd : decide ((t.drop k1).head? = some 63) = false := by simpa using hq
    rw [hqd] at hpre
    rw [tailR_no hq] at hR
    simp only [Bool.true_eq_false, if_false, Nat.add_zero] at hR
    have hpf := hasPre_head (t.drop k1) 35
    refine ACallsM.of mixed (fn := Tryz.f77) (by kernel_rfl) (by kernel_rfl) rfl (by kernel_rfl) (by kernel_rfl) rfl (by simp [Tryz.f77]) (fun hok => ?_)
    simp -implicitDefEqProofs [rdRow, Addr.row]
    refine ACallM.of hr1 ?_
    rw [bP]
    simp -implicitDefEqProofs [g1, g1']
    refine ACallK.of (strings_HasPrefix (t.drop k1) [63]) ?_
    rw [hpre]
    by_cases hf : (t.drop k1).head? = some 35
    rotate_left
    · have hfd : decide ((t.drop k1).head? = some 35) = false := by simpa using hf
      rw [hfd] at hpf
      rw [tailR_no hf] at hR
      simp -implicitDefEqProofs [g1, g1']
      refine ACallK.of (strings_HasPrefix (t.drop k1) [35]) ?_
      rw [hpf]
      simp -implicitDefEqProofs [hR, rdRow, Addr.row, ek1]
    have hfd : decide ((t.drop k1).head? = some 35) = true := by simpa using hf
    rw [hfd] at hpf
    rw [tailR_yes hf] at hR
    have hlf := head_lt hf
    obtain ⟨m, em⟩ : ∃ m, m = k1 + 1 := ⟨_, rfl⟩
    have hr3 := reader_row t [] m ⟨sc, ho, po, pa, [], false, [], true⟩ ht (by omega) hex_none
    rw [← em] at hR
    have wm : IntKind.i64.wrap ((k1 : Int) + 1) = (m : Int) := by rw [wrapS _ (by omega)]; omega
    obtain ⟨F, eF⟩ : ∃ F, F = rowEndL [] (t.drop m) := ⟨_, rfl⟩
    rw [← eF] at hR hr3
    simp only [rdRow, Addr.row] at hr3
    simp -implicitDefEqProofs [g1, g1']
    refine ACallK.of (strings_HasPrefix (t.drop k1) [35]) ?_
    rw [hpf]
    simp -implicitDefEqProofs [wm]
    refine ACallM.of hr3 ?_
    cases bF : F.2
    · have hm2 : m + F.1 = k + R.n := by rw [hR]; simp only; omega
      simp -implicitDefEqProofs [hR, rdRow, Addr.row, bF]
      first | done | (rw [hR] at hm2; omega)
    · have hm2 : m + F.1 = k + R.n := by rw [hR]; simp only; omega
      simp -implicitDefEqProofs [hR, rdRow, Addr.row, bF]
      first | done | (rw [hR] at hm2; omega)
  have hqd : decide ((t.drop k1).head? = some 63) = true := by simpa using hq
  rw [hqd] at hpre
  rw [tailR_yes hq] at hR
  have hlq := head_lt hq
  obtain ⟨j, ej⟩ : ∃ j, j = k1 + 1 := ⟨_, rfl⟩
  have hr2 := reader_row t [35] j ⟨sc, ho, po, pa, [], true, [], false⟩ ht (by omega) hex_35
  rw [← ej] at hR
  have wj : IntKind.i64.wrap ((k1 : Int) + 1) = (j : Int) := by rw [wrapS _ (by omega)]; omega
  have hQ := rowEndL_le [35] (t.drop j)
  obtain ⟨Q, eQ⟩ : ∃ Q, Q = rowEndL [35] (t.drop j) := ⟨_, rfl⟩
  obtain ⟨qu, equ⟩ : ∃ qu, qu = (t.drop j).take Q.1 := ⟨_, rfl⟩
  obtain ⟨k2, ek2⟩ : ∃ k2, k2 = j + Q.1 := ⟨_, rfl⟩
  rw [← eQ] at hR hr2
  rw [← equ, ← ek2] at hr2
  rw [← equ] at hR
  rw [← eQ, List.length_drop] at hQ
  have hk2 : k2 ≤ t.length := by omega
  have g2 : ((k2 : Int) ≤ (t.length : Int)) = True := eq_true (by omega)
  have g2' : (k2 ≤ t.length) = True := eq_true (by omega)
  simp only [rdRow, Addr.row] at hr2
  clear eQ equ
  refine ACallsM.of mixed (fn := Tryz.f77) (by kernel_rfl) (by kernel_rfl) rfl (by kernel_rfl) (by kernel_rfl) rfl (by simp [Tryz.f77]) (fun hok => ?_)
  simp -implicitDefEqProofs [rdRow, Addr.row]
  refine ACallM.of hr1 ?_
  rw [bP]
  simp -implicitDefEqProofs [g1, g1']
  refine ACallK.of (strings_HasPrefix (t.drop k1) [63]) ?_
  rw [hpre]
  simp -implicitDefEqProofs [wj]
  refine ACallM.of hr2 ?_
  cases bQ : Q.2
  · rw [if_pos bQ] at hR
    have hm2 : k2 = k + R.n := by rw [hR]; simp only; omega
    simp -implicitDefEqProofs [hR, rdRow, Addr.row, bQ]
    first | done | (rw [hR] at hm2; omega)
  · rw [if_neg (by simp [bQ])] at hR
    simp only at hR
    have hk2n : k1 + (Q.1 + 1) = k2 := by omega
    have hk2m : k + (P.1 + (Q.1 + 1)) = k2 := by omega
    rw [hk2n] at hR
    have hpf := hasPre_head (t.drop k2) 35
    by_cases hf : (t.drop k2).head? = some 35
    rotate_left
    · have hfd : decide ((t.drop k2).head? = some 35) = false := by simpa using hf
      rw [hfd] at hpf
      rw [tailR_no hf] at hR
      simp -implicitDefEqProofs [g2, g2']
      refine ACallK.of (strings_HasPrefix (t.drop k2) [35]) ?_
      rw [hpf]
      simp -implicitDefEqProofs [hR, rdRow, Addr.row, hk2n]
      omega
    have hfd : decide ((t.drop k2).head? = some 35) = true := by simpa using hf
    rw [hfd] at hpf
    rw [tailR_yes hf] at hR
    have hlf := head_lt hf
    obtain ⟨m, em⟩ : ∃ m, m = k2 + 1 := ⟨_, rfl⟩
    have hr3 := reader_row t [] m ⟨sc, ho, po, pa, qu, true, [], true⟩ ht (by omega) hex_none
    rw [← em] at hR
    have wm : IntKind.i64.wrap ((k2 : Int) + 1) = (m : Int) := by rw [wrapS _ (by omega)]; omega
    obtain ⟨F, eF⟩ : ∃ F, F = rowEndL [] (t.drop m) := ⟨_, rfl⟩
    rw [← eF] at hR hr3
    simp only [rdRow, Addr.row] at hr3
    simp -implicitDefEqProofs [g2, g2']
    refine ACallK.of (strings_HasPrefix (t.drop k2) [35]) ?_
    rw [hpf]
    simp -implicitDefEqProofs [wm]
    refine ACallM.of hr3 ?_
    cases bF : F.2
    · have hm2 : m + F.1 = k + R.n := by rw [hR]; simp only; omega
      simp -implicitDefEqProofs [hR, rdRow, Addr.row, bF]
      first | done | (rw [hR] at hm2; omega)
    · have hm2 : m + F.1 = k + R.n := by rw [hR]; simp only; omega
      simp -implicitDefEqProofs [hR, rdRow, Addr.row, bF]
      first | done | (rw [hR] at hm2; omega)
end Go.Proofs.YtklnopamfncfgaaGreatDoor
namespace Go.Proofs.YtklnopamfncfgaaGreatDoor
open Go Go.Ab
set_option linter.unusedSectionVars false
variable [Amb]
set_option maxRecDepth 100000
set_option maxHeartbeats 4000000
theorem cut_one_at {s : List UInt8} {i : Nat} (h : i < s.length) : cutAt s (i : Int) ((i : Int) + 1) = [s[i]] := by
  rw [show ((i : Int) + 1) = ((i + 1 : Nat) : Int) from by omega, cut_nat, List.drop_eq_getElem_cons h]
  rw [show i + 1 - i = 1 from by omega]; rfl
theorem small_one (c : UInt8) : smallL [c] = [smallC c] := rfl
def schX (t : List UInt8) : List UInt8 × Nat × Bool := match schemeR t with
  | .ok n => (t.take n, n + 3, true)
  | .error k => ([], k, false)
def w1L : List UInt8 := [104, 116, 116, 112, 58, 47, 47]
def w2L : List UInt8 := [104, 116, 116, 112, 115, 58, 47, 47]
theorem schX_by (t : List UInt8) : schX t = if comL w1L t = 7 then (t.take 4, 7, true) else if comL w2L t = 8 then (t.take 5, 8, true) else ([], max (comL w1L t) (comL w2L t), false) := by
  have h1 : httpL ++ [58, 47, 47] = w1L := rfl
  have h2 : httpsL ++ [58, 47, 47] = w2L := rfl
  unfold schX schemeR
  rw [h1, h2]
  split
  · rename_i n h
    split at h
    · rename_i h7; injection h with h; subst h; rw [if_pos h7]
    · rename_i h7
      split at h
      · rename_i h8; injection h with h; subst h; rw [if_neg h7, if_pos h8]
      · cases h
  · rename_i n h
    split at h
    · cases h
    · rename_i h7
      split at h
      · cases h
      · rename_i h8; injection h with h; subst h; rw [if_neg h7, if_neg h8]
theorem address_scheme (t : List UInt8) (ht : t.length ≤ 4000000000000000) : ACalls Tryz.prog 75 [.one (.str t)] (.tup [.one (.str (schX t).1), .one (.int .i64 (schX t).2.1), .one (.bool (schX t).2.2)]) := by
  have hX := schX_by t
  obtain ⟨X, eX⟩ : ∃ X, X = schX t := ⟨_, rfl⟩
  rw [← eX] at hX ⊢
  clear eX
  obtain ⟨c1, ec1⟩ : ∃ c, c = comL w1L t := ⟨_, rfl⟩
  obtain ⟨c2, ec2⟩ : ∃ c, c = comL w2L t := ⟨_, rfl⟩
  rw [← ec1, ← ec2] at hX
  have W1 : IntKind.i64.wrap 1 = 1 := wrapS _ (by omega)
  have W2 : IntKind.i64.wrap 2 = 2 := wrapS _ (by omega)
  have W4 : IntKind.i64.wrap 4 = 4 := wrapS _ (by omega)
  have W5 : IntKind.i64.wrap 5 = 5 := wrapS _ (by omega)
  refine ACalls.of mixed (fn := Tryz.f75) (by kernel_rfl) (by kernel_rfl) rfl (by kernel_rfl) (by simp [Tryz.f75]) (fun hok => ?_)
  simp -implicitDefEqProofs
  refine ALoopS.of Nat (fun i => [(0, .x (.one (.str t))), (3, .x (.one (.int .i64 ((if i = 0 then 0 else if i = 1 then c1 else max c1 c2 : Nat) : Int)))), (8, .own 9 1 [[.str [104, 116, 116, 112, 58, 47, 47]], [.str [104, 116, 116, 112, 115, 58, 47, 47]]]), (9, .x (.one (.int .i64 2))), (10, .x (.one (.int .i64 i)))])
    (fun i => i = 0 ∨ (i = 1 ∧ c1 ≠ 7) ∨ (i = 2 ∧ c1 ≠ 7 ∧ c2 ≠ 8)) (fun i => 2 - i) 0 (.inl rfl) ?_ ?_
  · simp
  rintro i (rfl | ⟨rfl, n1⟩ | ⟨rfl, n1, n2⟩)
  · obtain ⟨u, eu⟩ : ∃ u, u = w1L := ⟨_, rfl⟩
    have hul : u.length = 7 := by rw [eu]; rfl
    rw [← eu] at ec1
    obtain ⟨a, ea⟩ : ∃ a : Nat, a = 0 := ⟨_, rfl⟩
    simp -implicitDefEqProofs
    refine ALoopS.of Nat (fun n => [(0, .x (.one (.str t))), (3, .x (.one (.int .i64 a))), (6, .x (.one (.str u))), (7, .x (.one (.int .i64 n))), (8, .own 9 1 [[.str [104, 116, 116, 112, 58, 47, 47]], [.str [104, 116, 116, 112, 115, 58, 47, 47]]]), (9, .x (.one (.int .i64 2))), (10, .x (.one (.int .i64 0)))])
      (ComAt u t) (fun n => u.length - n) 0 (ComAt.zero u t) ?_ ?_
    · simp [eu, ea, w1L]
    intro n hn
    have hle := hn.le
    have hle2 := hn.le2
    have w1 : IntKind.i64.wrap ((n : Int) + 1) = (n : Int) + 1 := wrapS _ (by omega)
    by_cases hu : n < u.length
    rotate_left
    · obtain ⟨hf, hnu⟩ := hn.full hu
      rw [← ec1, hul] at hf
      rw [hul] at hnu
      subst hnu
      have f1 : ((7 : Int) < (u.length : Int)) = False := eq_false (by omega)
      have f2 : ((7 : Int) = (u.length : Int)) = True := eq_true (by omega)
      have f3 : ((7 : Int) ≤ (t.length : Int)) = True := eq_true (by omega)
      have f4 : ((7 - 3 : Int) ≤ (t.length : Int)) = True := eq_true (by omega)
      rw [if_pos hf] at hX
      simp -implicitDefEqProofs [hul, f1]
      refine ACallGS.of (fun h => by cases h) (r := .x (.one (.str []))) rfl ?_
      simp -implicitDefEqProofs [hul, f1, f2, f3, f4, hX, W4, W5]
      try omega
    have hu' : ((n : Int) < (u.length : Int)) = True := eq_true (by omega)
    have hne : ((n : Int) = (u.length : Int)) = False := eq_false (by omega)
    by_cases hx : ∃ h : n < t.length, smallC t[n] = u[n]
    · obtain ⟨hlt, he⟩ := hx
      have hlt' : ((n : Int) < (t.length : Int)) = True := eq_true (by omega)
      have hlt2 : ((n : Int) ≤ (t.length : Int)) = True := eq_true (by omega)
      have hlt3 : ((n : Int) + 1 ≤ (t.length : Int)) = True := eq_true (by omega)
      have hlt4 : ((n : Int) + 1 ≤ (u.length : Int)) = True := eq_true (by omega)
      have q1 := cut_one_at hlt
      have q2 := cut_one_at hu
      have q3 : ((n : Int) ≤ (n : Int) + 1) = True := eq_true (by omega)
      have hsm := address_Small [t[n]]
      rw [small_one, he] at hsm
      simp -implicitDefEqProofs [hu', hlt', w1, hlt2, hlt3, hlt4, q1, q2, q3]
      refine ACallGS.of (fun _ => hsm) rfl ?_
      simp -implicitDefEqProofs [hu', hlt', w1, hlt2, hlt3, hlt4, q1, q2, q3]
      refine Again.of (n + 1) (hn.step hu hlt he) (by omega) (by simp [w1])
    have hcn : c1 = n := by
      rw [ec1]
      by_cases h : n < t.length
      · exact hn.miss hu h (fun he => hx ⟨h, he⟩)
      · exact hn.short h
    have K : (∃ h : n < t.length, ¬ smallC t[n] = u[n]) ∨ ¬ n < t.length := by
      by_cases h : n < t.length
      · exact .inl ⟨h, fun he => hx ⟨h, he⟩⟩
      · exact .inr h
    rcases K with ⟨hlt, he⟩ | hlt
    · have hlt' : ((n : Int) < (t.length : Int)) = True := eq_true (by omega)
      have hlt2 : ((n : Int) ≤ (t.length : Int)) = True := eq_true (by omega)
      have hlt3 : ((n : Int) + 1 ≤ (t.length : Int)) = True := eq_true (by omega)
      have hlt4 : ((n : Int) + 1 ≤ (u.length : Int)) = True := eq_true (by omega)
      have q1 := cut_one_at hlt
      have q2 := cut_one_at hu
      have q3 : ((n : Int) ≤ (n : Int) + 1) = True := eq_true (by omega)
      have hsm := address_Small [t[n]]
      rw [small_one] at hsm
      have he' : (smallC t[n] = u[n]) = False := eq_false he
      have he2 : (smallC t[n] == u[n]) = false := by rw [beq_eq_false_iff_ne]; exact he
      simp -implicitDefEqProofs [hu', hlt', w1, hlt2, hlt3, hlt4, q1, q2, q3]
      refine ACallGS.of (fun _ => hsm) rfl ?_
      simp -implicitDefEqProofs [hu', hlt', w1, hlt2, hlt3, hlt4, q1, q2, q3, he', he2, hne]
      refine Again.of 1 (.inr (.inl ⟨rfl, by omega⟩)) (by omega) ?_
      simp [ea, hcn, W1, W2]
      try omega
    · have hlt' : ((n : Int) < (t.length : Int)) = False := eq_false (by omega)
      simp -implicitDefEqProofs [hu', hlt']
      refine ACallGS.of (fun h => by cases h) (r := .x (.one (.str []))) rfl ?_
      simp -implicitDefEqProofs [hu', hlt', hne]
      refine Again.of 1 (.inr (.inl ⟨rfl, by omega⟩)) (by omega) ?_
      simp [ea, hcn, W1, W2]
      try omega
  · obtain ⟨u, eu⟩ : ∃ u, u = w2L := ⟨_, rfl⟩
    have hul : u.length = 8 := by rw [eu]; rfl
    rw [← eu] at ec2
    obtain ⟨a, ea⟩ : ∃ a : Nat, a = c1 := ⟨_, rfl⟩
    simp -implicitDefEqProofs
    refine ALoopS.of Nat (fun n => [(0, .x (.one (.str t))), (3, .x (.one (.int .i64 a))), (6, .x (.one (.str u))), (7, .x (.one (.int .i64 n))), (8, .own 9 1 [[.str [104, 116, 116, 112, 58, 47, 47]], [.str [104, 116, 116, 112, 115, 58, 47, 47]]]), (9, .x (.one (.int .i64 2))), (10, .x (.one (.int .i64 1)))])
      (ComAt u t) (fun n => u.length - n) 0 (ComAt.zero u t) ?_ ?_
    · simp [eu, ea, w2L]
    intro n hn
    have hle := hn.le
    have hle2 := hn.le2
    have w1 : IntKind.i64.wrap ((n : Int) + 1) = (n : Int) + 1 := wrapS _ (by omega)
    by_cases hu : n < u.length
    rotate_left
    · obtain ⟨hf, hnu⟩ := hn.full hu
      rw [← ec2, hul] at hf
      rw [hul] at hnu
      subst hnu
      have f1 : ((8 : Int) < (u.length : Int)) = False := eq_false (by omega)
      have f2 : ((8 : Int) = (u.length : Int)) = True := eq_true (by omega)
      have f3 : ((8 : Int) ≤ (t.length : Int)) = True := eq_true (by omega)
      have f4 : ((8 - 3 : Int) ≤ (t.length : Int)) = True := eq_true (by omega)
      rw [if_neg n1, if_pos hf] at hX
      simp -implicitDefEqProofs [hul, f1]
      refine ACallGS.of (fun h => by cases h) (r := .x (.one (.str []))) rfl ?_
      simp -implicitDefEqProofs [hul, f1, f2, f3, f4, hX, W4, W5]
      try omega
    have hu' : ((n : Int) < (u.length : Int)) = True := eq_true (by omega)
    have hne : ((n : Int) = (u.length : Int)) = False := eq_false (by omega)
    by_cases hx : ∃ h : n < t.length, smallC t[n] = u[n]
    · obtain ⟨hlt, he⟩ := hx
      have hlt' : ((n : Int) < (t.length : Int)) = True := eq_true (by omega)
      have hlt2 : ((n : Int) ≤ (t.length : Int)) = True := eq_true (by omega)
      have hlt3 : ((n : Int) + 1 ≤ (t.length : Int)) = True := eq_true (by omega)
      have hlt4 : ((n : Int) + 1 ≤ (u.length : Int)) = True := eq_true (by omega)
      have q1 := cut_one_at hlt
      have q2 := cut_one_at hu
      have q3 : ((n : Int) ≤ (n : Int) + 1) = True := eq_true (by omega)
      have hsm := address_Small [t[n]]
      rw [small_one, he] at hsm
      simp -implicitDefEqProofs [hu', hlt', w1, hlt2, hlt3, hlt4, q1, q2, q3]
      refine ACallGS.of (fun _ => hsm) rfl ?_
      simp -implicitDefEqProofs [hu', hlt', w1, hlt2, hlt3, hlt4, q1, q2, q3]
      refine Again.of (n + 1) (hn.step hu hlt he) (by omega) (by simp [w1])
    have hcn : c2 = n := by
      rw [ec2]
      by_cases h : n < t.length
      · exact hn.miss hu h (fun he => hx ⟨h, he⟩)
      · exact hn.short h
    have K : (∃ h : n < t.length, ¬ smallC t[n] = u[n]) ∨ ¬ n < t.length := by
      by_cases h : n < t.length
      · exact .inl ⟨h, fun he => hx ⟨h, he⟩⟩
      · exact .inr h
    rcases K with ⟨hlt, he⟩ | hlt
    · have hlt' : ((n : Int) < (t.length : Int)) = True := eq_true (by omega)
      have hlt2 : ((n : Int) ≤ (t.length : Int)) = True := eq_true (by omega)
      have hlt3 : ((n : Int) + 1 ≤ (t.length : Int)) = True := eq_true (by omega)
      have hlt4 : ((n : Int) + 1 ≤ (u.length : Int)) = True := eq_true (by omega)
      have q1 := cut_one_at hlt
      have q2 := cut_one_at hu
      have q3 : ((n : Int) ≤ (n : Int) + 1) = True := eq_true (by omega)
      have hsm := address_Small [t[n]]
      rw [small_one] at hsm
      have he' : (smallC t[n] = u[n]) = False := eq_false he
      have he2 : (smallC t[n] == u[n]) = false := by rw [beq_eq_false_iff_ne]; exact he
      simp -implicitDefEqProofs [hu', hlt', w1, hlt2, hlt3, hlt4, q1, q2, q3]
      refine ACallGS.of (fun _ => hsm) rfl ?_
      simp -implicitDefEqProofs [hu', hlt', w1, hlt2, hlt3, hlt4, q1, q2, q3, he', he2, hne]
      refine Again.of 2 (.inr (.inr ⟨rfl, n1, by omega⟩)) (by omega) ?_
      simp [ea, hcn, W1, W2]
      try omega
    · have hlt' : ((n : Int) < (t.length : Int)) = False := eq_false (by omega)
      simp -implicitDefEqProofs [hu', hlt']
      refine ACallGS.of (fun h => by cases h) (r := .x (.one (.str []))) rfl ?_
      simp -implicitDefEqProofs [hu', hlt', hne]
      refine Again.of 2 (.inr (.inr ⟨rfl, n1, by omega⟩)) (by omega) ?_
      simp [ea, hcn, W1, W2]
      try omega
  · rw [if_neg n1, if_neg n2] at hX
    simp -implicitDefEqProofs [hX]
end Go.Proofs.YtklnopamfncfgaaGreatDoor
namespace Go.Proofs.YtklnopamfncfgaaGreatDoor
open Go Go.Ab
set_option linter.unusedSectionVars false
variable [Amb]
set_option maxRecDepth 100000
set_option maxHeartbeats 4000000
theorem placeR_le (s : List UInt8) : (placeR s).2.1 ≤ s.length := by
  rw [placeR_eq]
  have h1 := takeWhile_len_le hostC s
  split
  · simp
  split
  · rename_i h58
    have hl := head_lt h58
    have h2 := takeWhile_len_le isDig (s.drop ((s.takeWhile hostC).length + 1))
    rw [List.length_drop] at h2
    split <;> simp only <;> omega
  · simpa using h1
theorem schemeR_le {t : List UInt8} {n : Nat} (h : schemeR t = .ok n) : n + 3 ≤ t.length := by
  unfold schemeR at h
  have h1 := (comL_le (httpL ++ [58, 47, 47]) t).2
  have h2 := (comL_le (httpsL ++ [58, 47, 47]) t).2
  split at h
  · injection h; omega
  · split at h
    · injection h; omega
    · cases h
theorem address_Read (t : List UInt8) : ACalls Tryz.prog 32 [.one (.str t)] (.tup [.agg (readAR t).1.row, .one (.int .i64 (readAR t).2.1), .one (.int .i64 (readAR t).2.2)]) := by
  obtain ⟨X, eX⟩ : ∃ X, X = readAR t := ⟨_, rfl⟩
  rw [← eX]
  unfold readAR at eX
  refine ACalls.of mixed (fn := Tryz.f32) (by kernel_rfl) (by kernel_rfl) rfl (by kernel_rfl) (by simp [Tryz.f32]) (fun hok => ?_)
  by_cases hl : 2000 < t.length
  · rw [if_pos hl] at eX
    have hl' : (2000 < (t.length : Int)) = True := eq_true (by omega)
    subst eX
    simp -implicitDefEqProofs [hl, hl', noAddr, Addr.row]
  rw [if_neg hl] at eX
  have hl' : (2000 < (t.length : Int)) = False := eq_false (by omega)
  have hsc := address_scheme t (by omega)
  unfold readA at eX
  simp -implicitDefEqProofs [hl, hl']
  refine ACallK.of hsc ?_
  cases hs : schemeR t with
  | error k =>
    have hX : schX t = ([], k, false) := by unfold schX; rw [hs]
    rw [hX]
    rw [hs] at eX
    subst eX
    simp -implicitDefEqProofs [noAddr, Addr.row]
  | ok n =>
    have hX : schX t = (t.take n, n + 3, true) := by unfold schX; rw [hs]
    have hn := schemeR_le hs
    rw [hX]
    rw [hs] at eX
    obtain ⟨k, ek⟩ : ∃ k, k = n + 3 := ⟨_, rfl⟩
    obtain ⟨sc, esc⟩ : ∃ sc, sc = t.take n := ⟨_, rfl⟩
    simp only [← ek, ← esc] at eX ⊢
    have hp := reader_place t k ⟨sc, [], [], [], [], false, [], false⟩ (by omega) (by omega) rfl
    have hpl := placeR_le (t.drop k)
    obtain ⟨P, eP⟩ : ∃ P, P = placeR (t.drop k) := ⟨_, rfl⟩
    rw [← eP] at eX hp hpl
    rw [List.length_drop] at hpl
    obtain ⟨m, em⟩ : ∃ m, m = k + P.2.1 := ⟨_, rfl⟩
    simp only [rdRow, Addr.row, ← em, List.drop_drop] at eX hp
    have hr := reader_rest t m sc P.2.2.1 P.2.2.2 (by omega) (by omega)
    simp only [rdRow, Addr.row] at hr
    obtain ⟨R, eR⟩ : ∃ R, R = restR (t.drop m) := ⟨_, rfl⟩
    rw [← eR] at eX hr
    simp -implicitDefEqProofs
    refine ACallM.of hp ?_
    cases b : P.1
    · rw [b] at eX
      simp only [if_true] at eX
      subst eX
      simp -implicitDefEqProofs [noAddr, Addr.row]
      refine AltR.r ⟨[26], by kernel_rfl, ?_⟩
      simp -implicitDefEqProofs
      rfl
    · rw [b] at eX
      simp only [Bool.true_eq_false, if_false] at eX
      simp -implicitDefEqProofs
      refine ACallM.of hr ?_
      cases bR : R.ok
      · rw [bR] at eX
        simp only [if_true] at eX
        subst eX
        simp -implicitDefEqProofs [noAddr, Addr.row]
        refine AltR.r ⟨[26], by kernel_rfl, ?_⟩
        simp -implicitDefEqProofs [em]
        rfl
      · rw [bR] at eX
        simp only [Bool.true_eq_false, if_false] at eX
        subst eX
        simp -implicitDefEqProofs [noAddr, Addr.row]
end Go.Proofs.YtklnopamfncfgaaGreatDoor
namespace Go.Proofs.YtklnopamfncfgaaGreatDoor
def leapI (y : Int) : Bool := decide (y % 4 = 0) && (decide (y % 100 ≠ 0) || decide (y % 400 = 0))
def dY (y : Int) : Int := 365 * (y - 1) + (y - 1) / 4 - (y - 1) / 100 + (y - 1) / 400 - 719162
def mLen (y m : Int) : Int := if m = 4 ∨ m = 6 ∨ m = 9 ∨ m = 11 then 30 else if m = 2 then (if leapI y = true then 29 else 28) else 31
def dMN (y : Int) : Nat → Int
  | 0 => 0
  | n + 1 => if n = 0 then 0 else dMN y n + mLen y n
def dM (y m : Int) : Int := dMN y m.toNat
structure IsCiv (day y m d : Int) : Prop where
  y0 : 1970 ≤ y
  lo : dY y ≤ day
  hi : day < dY (y + 1)
  m0 : 1 ≤ m
  m1 : m ≤ 12
  ml : dY y + dM y m ≤ day
  mh : day < dY y + dM y (m + 1)
  dd : d = day - dY y - dM y m + 1
def yearN : Nat → Int
  | 0 => 1970
  | n + 1 => if ((n + 1 : Nat) : Int) < dY (yearN n + 1) then yearN n else yearN n + 1
def yearOf (day : Int) : Int := yearN day.toNat
def monthOf (day : Int) : Int := ((((List.range 12).find? (fun (k : Nat) => decide (day < dY (yearOf day) + dM (yearOf day) ((k : Int) + 2)))).getD 0 : Nat) : Int) + 1
def dayOf (day : Int) : Int := day - dY (yearOf day) - dM (yearOf day) (monthOf day) + 1
end Go.Proofs.YtklnopamfncfgaaGreatDoor
namespace Go.Proofs.YtklnopamfncfgaaGreatDoor
open Go
def okDate (y m d h i s : Int) : Prop := 1970 ≤ y ∧ (1 ≤ m ∧ m ≤ 12) ∧ (1 ≤ d ∧ d ≤ mLen y m) ∧ (0 ≤ h ∧ h ≤ 23) ∧ (0 ≤ i ∧ i ≤ 59) ∧ (0 ≤ s ∧ s ≤ 59)
instance (y m d h i s : Int) : Decidable (okDate y m d h i s) := by unfold okDate; infer_instance
end Go.Proofs.YtklnopamfncfgaaGreatDoor
namespace Go.Proofs.YtklnopamfncfgaaGreatDoor
open Go Go.Ab
theorem readAR_ok {t : List UInt8} (h : (readAR t).2.2 = 0) : t.length ≤ 2000 ∧ readA t = .ok (readAR t).1 := by
  unfold readAR at h ⊢
  split at h
  · cases h
  · rename_i hl
    rw [if_neg hl]
    split at h
    · cases h
    · rename_i a ha
      exact ⟨by omega, ha⟩
end Go.Proofs.YtklnopamfncfgaaGreatDoor
namespace Go.Proofs.YtklnopamfncfgaaGreatDoor
open Go Go.Ab
set_option linter.unusedSectionVars false
variable [Amb]
set_option maxRecDepth 100000
set_option maxHeartbeats 4000000
def textL (a : Addr) : List UInt8 := if addrF a = 0 then writeL a else []
theorem address_Text (a : Addr) (h : a.Fit) : ACalls Tryz.prog 24 [.agg a.row] (.tup [.one (.str (textL a)), .one (.int .i64 (addrF a))]) := by
  refine ACalls.of mixed (fn := Tryz.f24) (by kernel_rfl) (by kernel_rfl) rfl (by kernel_rfl) (by simp [Tryz.f24]) (fun hok => ?_)
  have h1 := address_CheckAddress a h
  have h2 := address_write a h
  unfold textL
  obtain ⟨sc, ho, po, pa, qu, hq, fr, hf⟩ := a
  simp only [Addr.row] at h1 h2 ⊢
  generalize writeL ⟨sc, ho, po, pa, qu, hq, fr, hf⟩ = W at h2 ⊢
  generalize addrF ⟨sc, ho, po, pa, qu, hq, fr, hf⟩ = F at h1 ⊢
  simp -implicitDefEqProofs
  refine ACallK.of h1 ?_
  by_cases hF : F = 0
  · simp -implicitDefEqProofs [hF]
    exact ACallK.of h2 (by simp -implicitDefEqProofs [hF])
  · have hb : (F == 0) = false := by simpa using hF
    simp -implicitDefEqProofs [hF, hb]
theorem ref1_Text (a : Addr) (h : a.Fit) : ACalls Tryz.prog 28 [.agg a.row] (.tup [.one (.str (textL a)), .one (.int .i64 (addrF a))]) := by
  refine ACalls.of mixed (fn := Tryz.f28) (by kernel_rfl) (by kernel_rfl) rfl (by kernel_rfl) (by simp [Tryz.f28]) (fun hok => ?_)
  have h1 := ref1_CheckAddress a h
  have h2 := ref1_written a h
  unfold textL
  obtain ⟨sc, ho, po, pa, qu, hq, fr, hf⟩ := a
  simp only [Addr.row] at h1 h2 ⊢
  generalize writeL ⟨sc, ho, po, pa, qu, hq, fr, hf⟩ = W at h2 ⊢
  generalize addrF ⟨sc, ho, po, pa, qu, hq, fr, hf⟩ = F at h1 ⊢
  simp -implicitDefEqProofs
  refine ACallK.of h1 ?_
  by_cases hF : F = 0
  · simp -implicitDefEqProofs [hF]
    exact ACallK.of h2 (by simp -implicitDefEqProofs [hF])
  · have hb : (F == 0) = false := by simpa using hF
    simp -implicitDefEqProofs [hF, hb]
theorem stringslite_CutPrefix (s p : List UInt8) : ACalls Tryz.prog 70 [.one (.str s), .one (.str p)] (.tup [.one (.str (if hasPre s p = true then s.drop p.length else s)), .one (.bool (hasPre s p))]) := by
  refine ACalls.of mixed (fn := Tryz.f70) (by kernel_rfl) (by kernel_rfl) rfl (by kernel_rfl) (by simp [Tryz.f70]) (fun hok => ?_)
  simp -implicitDefEqProofs
  refine ACallK.of (stringslite_HasPrefix s p) ?_
  cases h : hasPre s p
  · simp -implicitDefEqProofs
  · have hl : p.length ≤ s.length := (List.isPrefixOf_iff_prefix.1 h).length_le
    have g1 : ((p.length : Int) ≤ (s.length : Int)) = True := eq_true (by omega)
    simp -implicitDefEqProofs [g1, hl]
theorem strings_CutPrefix (s p : List UInt8) : ACalls Tryz.prog 30 [.one (.str s), .one (.str p)] (.tup [.one (.str (if hasPre s p = true then s.drop p.length else s)), .one (.bool (hasPre s p))]) := by
  refine ACalls.of mixed (fn := Tryz.f30) (by kernel_rfl) (by kernel_rfl) rfl (by kernel_rfl) (by simp [Tryz.f30]) (fun hok => ?_)
  simp -implicitDefEqProofs
  refine ACallK.of (stringslite_CutPrefix s p) ?_
  simp -implicitDefEqProofs
end Go.Proofs.YtklnopamfncfgaaGreatDoor
namespace Go.Proofs.YtklnopamfncfgaaGreatDoor
open Go Go.Ab
set_option linter.unusedSectionVars false
variable [Amb] [HasPow10 Tryz.prog] [HasErrSyntax Tryz.prog]
set_option maxRecDepth 100000
set_option maxHeartbeats 4000000
structure SmallA (n : Addr) : Prop where
  scheme : n.scheme.length ≤ 2000
  host : n.host.length ≤ 2000
  port : n.port.length ≤ 2000
  path : n.path.length ≤ 2100
  query : n.query.length ≤ 2000
theorem normalA_small {a : Addr} (h : addrF a = 0) : SmallA (normalA a) := by
  obtain ⟨hpo, hpa, hhd, hqu, lp, lq⟩ := RightA.of h
  have hl := (addrF_ok h).2.2.2.2.2.2.2.2
  have hw := writeL_len2 a
  have h1 : (normalA a).scheme.length = a.scheme.length := by show (smallL a.scheme).length = _; simp [smallL]
  have h2 : (normalA a).host.length = a.host.length := by show (smallL a.host).length = _; simp [smallL]
  have h3 : (normalA a).port.length ≤ a.port.length := by
    show (portN (smallL a.scheme) a.port).length ≤ _
    unfold portN
    split
    · simp
    · unfold trim0; exact (List.dropWhile_suffix _).length_le
  have h4 : (normalA a).path.length ≤ 2100 := by
    show (pathN a.path).length ≤ _
    unfold pathN
    have hc := codedL_len a.path
    split
    · simp
    · unfold undotL
      split
      · simp
      · have hne := splitC_ne 47 ((codedL a.path).drop 1)
        have e := undotP_len _ hne 47
        have e2 := totL_join 47 _ hne
        rw [join_split, List.length_drop] at e2
        simp only [List.length_cons]; omega
  have h5 : (normalA a).query.length ≤ a.query.length := by show (codedL a.query).length ≤ _; exact codedL_len _
  exact ⟨by omega, by omega, by omega, by omega, by omega⟩
theorem turnedL_len (c d : UInt8) (s : List UInt8) : (turnedL c d s).length = s.length := by
  have ht := totL_join d (splitC c s).reverse (by simpa using splitC_ne c s)
  rw [totL_reverse, split_join_len] at ht
  unfold turnedL; omega
theorem address_key_nil (a : Addr) (h : addrF a = 0) : ACalls Tryz.prog 150 [.agg a.row, .one .nil] (.x (.one (.str (keyA a)))) := by
  have k1 := address_normal a h
  obtain ⟨ls, lh, lo, lp, lq⟩ := normalA_small h
  have hK : keyA a = turnedL 46 44 (normalA a).host ++ portL (normalA a) ++ [41] ++ (if (normalA a).scheme = httpsL then [115] else []) ++ (normalA a).path ++ queryL (normalA a) := rfl
  rw [hK]
  clear hK
  generalize normalA a = N at k1 ls lh lo lp lq ⊢
  obtain ⟨sc, ho, po, pa, qu, hq, fr, hf⟩ := a
  obtain ⟨nc, no, np, na, nu, nq, nr, nf⟩ := N
  simp only at ls lh lo lp lq
  simp only [Addr.row, portL, queryL] at k1 ⊢
  have kt := address_turned no 46 44 (by omega)
  have hTl := turnedL_len 46 44 no
  generalize turnedL 46 44 no = T at kt hTl ⊢
  have kp := address_pathOf_nil na (by omega)
  have kq := address_queryOf_nil nu (by omega)
  unfold httpsL
  refine ACalls.of mixed (fn := Tryz.f150) (by kernel_rfl) (by kernel_rfl) rfl (by kernel_rfl) (by simp [Tryz.f150]) (fun hok => ?_)
  simp -implicitDefEqProofs
  refine ACallK.of k1 ?_
  have kc := strings_CutPrefix no [119, 119, 119, 46]
  simp -implicitDefEqProofs
  refine ACallK.of kc ?_
  cases bw : hasPre no [119, 119, 119, 46]
  · simp -implicitDefEqProofs
    refine ACallGS.of (fun h => by simp at h) (r := .x (.one (.bool false))) rfl ?_
    simp -implicitDefEqProofs
    refine ACallK.of kt ?_
    by_cases hp : np = []
    · subst hp
      by_cases hs : nc = [104, 116, 116, 112, 115]
      · simp -implicitDefEqProofs [hs]
        repeat (refine ⟨by (first | (unfold maxLen; omega) | (simp; unfold maxLen; omega)), ?_⟩)
        refine ACallGS.of (fun _ => address_has_nil 1 []) rfl ?_
        simp -implicitDefEqProofs [hs]
        repeat (refine ⟨by (first | (unfold maxLen; omega) | (simp; unfold maxLen; omega)), ?_⟩)
        refine ACallK.of kp ?_
        cases nq
        · simp -implicitDefEqProofs [hs]
          try (repeat' (first | (unfold maxLen; omega) | refine ⟨?_, ?_⟩))
        · simp -implicitDefEqProofs [hs]
          repeat (refine ⟨by (first | (unfold maxLen; omega) | (simp; unfold maxLen; omega)), ?_⟩)
          refine ACallK.of kq ?_
          simp -implicitDefEqProofs [hs]
          try (repeat' (first | (unfold maxLen; omega) | refine ⟨?_, ?_⟩))
      · simp -implicitDefEqProofs [hs]
        repeat (refine ⟨by (first | (unfold maxLen; omega) | (simp; unfold maxLen; omega)), ?_⟩)
        refine ACallGS.of (fun h => absurd (by simpa using h) hs) (r := .x (.one (.bool false))) rfl ?_
        simp -implicitDefEqProofs [hs]
        repeat (refine ⟨by (first | (unfold maxLen; omega) | (simp; unfold maxLen; omega)), ?_⟩)
        refine ACallK.of kp ?_
        cases nq
        · simp -implicitDefEqProofs [hs]
          try (repeat' (first | (unfold maxLen; omega) | refine ⟨?_, ?_⟩))
        · simp -implicitDefEqProofs [hs]
          repeat (refine ⟨by (first | (unfold maxLen; omega) | (simp; unfold maxLen; omega)), ?_⟩)
          refine ACallK.of kq ?_
          simp -implicitDefEqProofs [hs]
          try (repeat' (first | (unfold maxLen; omega) | refine ⟨?_, ?_⟩))
    · have hpe : np.isEmpty = false := by simpa using hp
      by_cases hs : nc = [104, 116, 116, 112, 115]
      · simp -implicitDefEqProofs [hs, hp, hpe]
        repeat (refine ⟨by (first | (unfold maxLen; omega) | (simp; unfold maxLen; omega)), ?_⟩)
        refine ACallGS.of (fun _ => address_has_nil 1 []) rfl ?_
        simp -implicitDefEqProofs [hs, hp, hpe]
        repeat (refine ⟨by (first | (unfold maxLen; omega) | (simp; unfold maxLen; omega)), ?_⟩)
        refine ACallK.of kp ?_
        cases nq
        · simp -implicitDefEqProofs [hs, hp, hpe]
          try (repeat' (first | (unfold maxLen; omega) | refine ⟨?_, ?_⟩))
        · simp -implicitDefEqProofs [hs, hp, hpe]
          repeat (refine ⟨by (first | (unfold maxLen; omega) | (simp; unfold maxLen; omega)), ?_⟩)
          refine ACallK.of kq ?_
          simp -implicitDefEqProofs [hs, hp, hpe]
          try (repeat' (first | (unfold maxLen; omega) | refine ⟨?_, ?_⟩))
      · simp -implicitDefEqProofs [hs, hp, hpe]
        repeat (refine ⟨by (first | (unfold maxLen; omega) | (simp; unfold maxLen; omega)), ?_⟩)
        refine ACallGS.of (fun h => absurd (by simpa using h) hs) (r := .x (.one (.bool false))) rfl ?_
        simp -implicitDefEqProofs [hs, hp, hpe]
        repeat (refine ⟨by (first | (unfold maxLen; omega) | (simp; unfold maxLen; omega)), ?_⟩)
        refine ACallK.of kp ?_
        cases nq
        · simp -implicitDefEqProofs [hs, hp, hpe]
          try (repeat' (first | (unfold maxLen; omega) | refine ⟨?_, ?_⟩))
        · simp -implicitDefEqProofs [hs, hp, hpe]
          repeat (refine ⟨by (first | (unfold maxLen; omega) | (simp; unfold maxLen; omega)), ?_⟩)
          refine ACallK.of kq ?_
          simp -implicitDefEqProofs [hs, hp, hpe]
          try (repeat' (first | (unfold maxLen; omega) | refine ⟨?_, ?_⟩))
  · simp -implicitDefEqProofs
    refine ACallGS.of (fun _ => address_has_nil 2 []) rfl ?_
    simp -implicitDefEqProofs
    refine ACallK.of kt ?_
    by_cases hp : np = []
    · subst hp
      by_cases hs : nc = [104, 116, 116, 112, 115]
      · simp -implicitDefEqProofs [hs]
        repeat (refine ⟨by (first | (unfold maxLen; omega) | (simp; unfold maxLen; omega)), ?_⟩)
        refine ACallGS.of (fun _ => address_has_nil 1 []) rfl ?_
        simp -implicitDefEqProofs [hs]
        repeat (refine ⟨by (first | (unfold maxLen; omega) | (simp; unfold maxLen; omega)), ?_⟩)
        refine ACallK.of kp ?_
        cases nq
        · simp -implicitDefEqProofs [hs]
          try (repeat' (first | (unfold maxLen; omega) | refine ⟨?_, ?_⟩))
        · simp -implicitDefEqProofs [hs]
          repeat (refine ⟨by (first | (unfold maxLen; omega) | (simp; unfold maxLen; omega)), ?_⟩)
          refine ACallK.of kq ?_
          simp -implicitDefEqProofs [hs]
          try (repeat' (first | (unfold maxLen; omega) | refine ⟨?_, ?_⟩))
      · simp -implicitDefEqProofs [hs]
        repeat (refine ⟨by (first | (unfold maxLen; omega) | (simp; unfold maxLen; omega)), ?_⟩)
        refine ACallGS.of (fun h => absurd (by simpa using h) hs) (r := .x (.one (.bool false))) rfl ?_
        simp -implicitDefEqProofs [hs]
        repeat (refine ⟨by (first | (unfold maxLen; omega) | (simp; unfold maxLen; omega)), ?_⟩)
        refine ACallK.of kp ?_
        cases nq
        · simp -implicitDefEqProofs [hs]
          try (repeat' (first | (unfold maxLen; omega) | refine ⟨?_, ?_⟩))
        · simp -implicitDefEqProofs [hs]
          repeat (refine ⟨by (first | (unfold maxLen; omega) | (simp; unfold maxLen; omega)), ?_⟩)
          refine ACallK.of kq ?_
          simp -implicitDefEqProofs [hs]
          try (repeat' (first | (unfold maxLen; omega) | refine ⟨?_, ?_⟩))
    · have hpe : np.isEmpty = false := by simpa using hp
      by_cases hs : nc = [104, 116, 116, 112, 115]
      · simp -implicitDefEqProofs [hs, hp, hpe]
        repeat (refine ⟨by (first | (unfold maxLen; omega) | (simp; unfold maxLen; omega)), ?_⟩)
        refine ACallGS.of (fun _ => address_has_nil 1 []) rfl ?_
        simp -implicitDefEqProofs [hs, hp, hpe]
        repeat (refine ⟨by (first | (unfold maxLen; omega) | (simp; unfold maxLen; omega)), ?_⟩)
        refine ACallK.of kp ?_
        cases nq
        · simp -implicitDefEqProofs [hs, hp, hpe]
          try (repeat' (first | (unfold maxLen; omega) | refine ⟨?_, ?_⟩))
        · simp -implicitDefEqProofs [hs, hp, hpe]
          repeat (refine ⟨by (first | (unfold maxLen; omega) | (simp; unfold maxLen; omega)), ?_⟩)
          refine ACallK.of kq ?_
          simp -implicitDefEqProofs [hs, hp, hpe]
          try (repeat' (first | (unfold maxLen; omega) | refine ⟨?_, ?_⟩))
      · simp -implicitDefEqProofs [hs, hp, hpe]
        repeat (refine ⟨by (first | (unfold maxLen; omega) | (simp; unfold maxLen; omega)), ?_⟩)
        refine ACallGS.of (fun h => absurd (by simpa using h) hs) (r := .x (.one (.bool false))) rfl ?_
        simp -implicitDefEqProofs [hs, hp, hpe]
        repeat (refine ⟨by (first | (unfold maxLen; omega) | (simp; unfold maxLen; omega)), ?_⟩)
        refine ACallK.of kp ?_
        cases nq
        · simp -implicitDefEqProofs [hs, hp, hpe]
          try (repeat' (first | (unfold maxLen; omega) | refine ⟨?_, ?_⟩))
        · simp -implicitDefEqProofs [hs, hp, hpe]
          repeat (refine ⟨by (first | (unfold maxLen; omega) | (simp; unfold maxLen; omega)), ?_⟩)
          refine ACallK.of kq ?_
          simp -implicitDefEqProofs [hs, hp, hpe]
          try (repeat' (first | (unfold maxLen; omega) | refine ⟨?_, ?_⟩))
theorem ref1_KeyOf_nil (a : Addr) (h : addrF a = 0) : ACalls Tryz.prog 94 [.agg a.row, .one .nil] (.x (.one (.str (keyA a)))) := by
  have k1 := ref1_NormalOf a h
  obtain ⟨ls, lh, lo, lp, lq⟩ := normalA_small h
  have hK : keyA a = turnedL 46 44 (normalA a).host ++ portL (normalA a) ++ [41] ++ (if (normalA a).scheme = httpsL then [115] else []) ++ (normalA a).path ++ queryL (normalA a) := rfl
  rw [hK]
  clear hK
  generalize normalA a = N at k1 ls lh lo lp lq ⊢
  obtain ⟨sc, ho, po, pa, qu, hq, fr, hf⟩ := a
  obtain ⟨nc, no, np, na, nu, nq, nr, nf⟩ := N
  simp only at ls lh lo lp lq
  simp only [Addr.row, portL, queryL] at k1 ⊢
  have kt := ref1_turned no (by omega)
  have hTl := turnedL_len 46 44 no
  generalize turnedL 46 44 no = T at kt hTl ⊢
  have kp := ref1_pathOf_nil na (by omega)
  have kq := ref1_queryOf_nil nu (by omega)
  unfold httpsL
  refine ACalls.of mixed (fn := Tryz.f94) (by kernel_rfl) (by kernel_rfl) rfl (by kernel_rfl) (by simp [Tryz.f94]) (fun hok => ?_)
  simp -implicitDefEqProofs
  refine ACallK.of k1 ?_
  simp -implicitDefEqProofs
  refine ACallK.of (ref1_says_nil 2 []) ?_
  simp -implicitDefEqProofs
  refine ACallGS.of (fun h => by simp at h) (r := .x (.one (.bool false))) rfl ?_
  simp -implicitDefEqProofs
  refine ACallK.of kt ?_
  by_cases hp : np = []
  · subst hp
    by_cases hs : nc = [104, 116, 116, 112, 115]
    · simp -implicitDefEqProofs [hs]
      repeat (refine ⟨by (first | (unfold maxLen; omega) | (simp; unfold maxLen; omega)), ?_⟩)
      refine ACallGS.of (fun _ => ref1_says_nil 1 []) rfl ?_
      simp -implicitDefEqProofs [hs]
      repeat (refine ⟨by (first | (unfold maxLen; omega) | (simp; unfold maxLen; omega)), ?_⟩)
      refine ACallK.of kp ?_
      cases nq
      · simp -implicitDefEqProofs [hs]
        try (repeat' (first | (unfold maxLen; omega) | refine ⟨?_, ?_⟩))
      · simp -implicitDefEqProofs [hs]
        repeat (refine ⟨by (first | (unfold maxLen; omega) | (simp; unfold maxLen; omega)), ?_⟩)
        refine ACallK.of kq ?_
        simp -implicitDefEqProofs [hs]
        try (repeat' (first | (unfold maxLen; omega) | refine ⟨?_, ?_⟩))
    · simp -implicitDefEqProofs [hs]
      repeat (refine ⟨by (first | (unfold maxLen; omega) | (simp; unfold maxLen; omega)), ?_⟩)
      refine ACallGS.of (fun h => absurd (by simpa using h) hs) (r := .x (.one (.bool false))) rfl ?_
      simp -implicitDefEqProofs [hs]
      repeat (refine ⟨by (first | (unfold maxLen; omega) | (simp; unfold maxLen; omega)), ?_⟩)
      refine ACallK.of kp ?_
      cases nq
      · simp -implicitDefEqProofs [hs]
        try (repeat' (first | (unfold maxLen; omega) | refine ⟨?_, ?_⟩))
      · simp -implicitDefEqProofs [hs]
        repeat (refine ⟨by (first | (unfold maxLen; omega) | (simp; unfold maxLen; omega)), ?_⟩)
        refine ACallK.of kq ?_
        simp -implicitDefEqProofs [hs]
        try (repeat' (first | (unfold maxLen; omega) | refine ⟨?_, ?_⟩))
  · have hpe : np.isEmpty = false := by simpa using hp
    by_cases hs : nc = [104, 116, 116, 112, 115]
    · simp -implicitDefEqProofs [hs, hp, hpe]
      repeat (refine ⟨by (first | (unfold maxLen; omega) | (simp; unfold maxLen; omega)), ?_⟩)
      refine ACallGS.of (fun _ => ref1_says_nil 1 []) rfl ?_
      simp -implicitDefEqProofs [hs, hp, hpe]
      repeat (refine ⟨by (first | (unfold maxLen; omega) | (simp; unfold maxLen; omega)), ?_⟩)
      refine ACallK.of kp ?_
      cases nq
      · simp -implicitDefEqProofs [hs, hp, hpe]
        try (repeat' (first | (unfold maxLen; omega) | refine ⟨?_, ?_⟩))
      · simp -implicitDefEqProofs [hs, hp, hpe]
        repeat (refine ⟨by (first | (unfold maxLen; omega) | (simp; unfold maxLen; omega)), ?_⟩)
        refine ACallK.of kq ?_
        simp -implicitDefEqProofs [hs, hp, hpe]
        try (repeat' (first | (unfold maxLen; omega) | refine ⟨?_, ?_⟩))
    · simp -implicitDefEqProofs [hs, hp, hpe]
      repeat (refine ⟨by (first | (unfold maxLen; omega) | (simp; unfold maxLen; omega)), ?_⟩)
      refine ACallGS.of (fun h => absurd (by simpa using h) hs) (r := .x (.one (.bool false))) rfl ?_
      simp -implicitDefEqProofs [hs, hp, hpe]
      repeat (refine ⟨by (first | (unfold maxLen; omega) | (simp; unfold maxLen; omega)), ?_⟩)
      refine ACallK.of kp ?_
      cases nq
      · simp -implicitDefEqProofs [hs, hp, hpe]
        try (repeat' (first | (unfold maxLen; omega) | refine ⟨?_, ?_⟩))
      · simp -implicitDefEqProofs [hs, hp, hpe]
        repeat (refine ⟨by (first | (unfold maxLen; omega) | (simp; unfold maxLen; omega)), ?_⟩)
        refine ACallK.of kq ?_
        simp -implicitDefEqProofs [hs, hp, hpe]
        try (repeat' (first | (unfold maxLen; omega) | refine ⟨?_, ?_⟩))
end Go.Proofs.YtklnopamfncfgaaGreatDoor
namespace Go.Proofs.YtklnopamfncfgaaGreatDoor
open Go Go.Ab
set_option linter.unusedSectionVars false
variable [Amb] [HasPow10 Tryz.prog] [HasErrSyntax Tryz.prog]
set_option maxRecDepth 100000
set_option maxHeartbeats 4000000
theorem strings_CutD (s : List UInt8) (c : UInt8) : ACalls Tryz.prog 91 [.one (.str s), .one (.str [c])] (.tup [.one (.str (befC c s)), .one (.str (aftD c s)), .one (.bool (decide (c ∈ s)))]) := strings_Cut1 s c
theorem aftD_len (c : UInt8) (s : List UInt8) : (aftD c s).length ≤ s.length := by
  unfold aftD
  split
  · unfold aftC; rw [List.length_drop]; omega
  · simp
theorem ofKeyA_Fit {s : List UInt8} (h : s.length ≤ 2000) : (ofKeyA s).Fit := by
  have h1 := befC_le 41 s
  have h2 := befC_le 58 (befC 41 s)
  have h3 := aftD_len 58 (befC 41 s)
  have h4 := aftD_len 41 s
  have h5 : (tailS (aftD 41 s)).length ≤ (aftD 41 s).length := by unfold tailS; split <;> simp
  have h6 := befC_le 63 (tailS (aftD 41 s))
  have h7 := aftD_len 63 (tailS (aftD 41 s))
  have h8 := turnedL_len 44 46 (befC 58 (befC 41 s))
  refine ⟨?_, ?_, ?_, ?_, ?_, ?_⟩
  · show (if (aftD 41 s).head? = some 115 then httpsL else httpL).length ≤ _
    split <;> simp [httpsL, httpL]
  · show (turnedL 44 46 (befC 58 (befC 41 s))).length ≤ _; omega
  · show (aftD 58 (befC 41 s)).length ≤ _; omega
  · show (befC 63 (tailS (aftD 41 s))).length ≤ _; omega
  · show (aftD 63 (tailS (aftD 41 s))).length ≤ _; omega
  · show (0 : Nat) ≤ _; omega
theorem address_ofKey (s : List UInt8) : ACalls Tryz.prog 83 [.one (.str s)] (.tup [.agg (ofKeyR s).row, .one (.int .i64 (ofKeyF s))]) := by
  obtain ⟨X, eX⟩ : ∃ X, X = ofKeyR s := ⟨_, rfl⟩
  obtain ⟨F, eF⟩ : ∃ F, F = ofKeyF s := ⟨_, rfl⟩
  have eX' := eX
  unfold ofKeyR at eX'
  rw [← eF] at eX' ⊢
  rw [← eX]
  clear eX
  unfold ofKeyF at eF
  by_cases hl : 2000 < s.length
  · have hl' : (2000 < (s.length : Int)) = True := eq_true (by omega)
    rw [if_pos hl] at eF
    subst eF
    rw [if_neg (by decide)] at eX'
    subst eX'
    refine ACalls.of mixed (fn := Tryz.f83) (by kernel_rfl) (by kernel_rfl) rfl (by kernel_rfl) (by simp [Tryz.f83]) (fun hok => ?_)
    simp -implicitDefEqProofs [hl, hl', noAddr, Addr.row]
  have hl' : (2000 < (s.length : Int)) = False := eq_false (by omega)
  rw [if_neg hl] at eF
  have hfit := ofKeyA_Fit (s := s) (by omega)
  have kc := address_CheckAddress (ofKeyA s) hfit
  have kk := fun e => address_key_nil (ofKeyA s) e
  have hkO : keyOk s = (decide (addrF (ofKeyA s) = 0) && (decide (keyA (ofKeyA s) = s) && !(decide (58 ∈ befC 41 s) && decide (aftD 58 (befC 41 s) = [])))) := rfl
  have hA : ofKeyA s = ⟨if (aftD 41 s).head? = some 115 then httpsL else httpL, turnedL 44 46 (befC 58 (befC 41 s)), aftD 58 (befC 41 s), befC 63 (tailS (aftD 41 s)), aftD 63 (tailS (aftD 41 s)), decide (63 ∈ tailS (aftD 41 s)), [], false⟩ := rfl
  have hts : tailS (aftD 41 s) = if (aftD 41 s).head? = some 115 then (aftD 41 s).drop 1 else aftD 41 s := rfl
  have k1 := strings_CutD s 41
  have k2 := strings_CutD (befC 41 s) 58
  have hb1 := befC_le 41 s
  have hb2 := befC_le 58 (befC 41 s)
  have k3 := address_turned (befC 58 (befC 41 s)) 44 46 (by omega)
  have k4 := strings_CutPrefix (aftD 41 s) [115]
  rw [hasPre_head] at k4
  have k5 := strings_CutD (tailS (aftD 41 s)) 63
  generalize decide (41 ∈ s) = b41 at k1
  generalize hb58 : decide (58 ∈ befC 41 s) = b58 at k2 hkO
  generalize aftD 58 (befC 41 s) = po at k2 hkO hA
  generalize turnedL 44 46 (befC 58 (befC 41 s)) = HT at k3 hA
  generalize befC 58 (befC 41 s) = hh at k2 k3
  generalize befC 41 s = pl at k1 k2
  generalize aftD 41 s = re at k1 k4 k5 hA hts
  rw [hts] at k5 hA
  clear hts hfit
  generalize hKA : keyA (ofKeyA s) = KA at kk hkO
  generalize hFA : addrF (ofKeyA s) = FA at kc kk hkO
  rw [hA] at kc kk eX'
  clear hA hKA hFA
  unfold httpL httpsL at *
  simp only [List.length_cons, List.length_nil] at k4
  refine ACalls.of mixed (fn := Tryz.f83) (by kernel_rfl) (by kernel_rfl) rfl (by kernel_rfl) (by simp [Tryz.f83]) (fun hok => ?_)
  simp -implicitDefEqProofs [hl, hl']
  refine ACallK.of k1 ?_
  simp -implicitDefEqProofs
  refine ACallK.of k2 ?_
  simp -implicitDefEqProofs
  refine ACallK.of k3 ?_
  simp -implicitDefEqProofs
  refine ACallK.of k4 ?_
  by_cases h115 : re.head? = some 115
  · have hd : decide (re.head? = some 115) = true := by simpa using h115
    rw [hd]
    simp only [h115, if_true] at k5 kc kk eX'
    simp only [List.drop_one] at k5 kc kk eX'
    generalize befC 63 re.tail = PQ at k5 kc kk eX'
    generalize aftD 63 re.tail = QQ at k5 kc kk eX'
    generalize decide (63 ∈ re.tail) = HQ at k5 kc kk eX'
    simp only [Addr.row] at kc kk
    simp -implicitDefEqProofs
    refine ACallK.of k5 ?_
    by_cases he : b58 = true ∧ po = []
    · obtain ⟨e1, e2⟩ := he
      subst e1; subst e2
      have hk : keyOk s = false := by rw [hkO]; simp
      rw [hk, if_neg (by decide)] at eF
      subst eF
      rw [if_neg (by decide)] at eX'
      subst eX'
      simp -implicitDefEqProofs
      refine ACallGS.of (fun h => by simp at h) (r := .x (.one (.int .i64 0))) rfl ?_
      simp -implicitDefEqProofs
      refine ACallGS.of (fun h => by simp at h) (r := .x (.one (.str []))) rfl ?_
      simp -implicitDefEqProofs [noAddr, Addr.row]
    have hdec : (b58 && decide (po = [])) = false := by
      cases b58
      · rfl
      · have : ¬ po = [] := fun e => he ⟨rfl, e⟩
        simp [this]
    have hdec2 : b58 = true → po.isEmpty = false := fun e => by
      have : ¬ po = [] := fun e2 => he ⟨e, e2⟩
      simpa using this
    rw [hdec] at hkO
    by_cases hFA : FA = 0
    rotate_left
    · have f1 : (FA == 0) = false := by simpa using hFA
      have f2 : (FA != 0) = true := by simpa using hFA
      have hk : keyOk s = false := by rw [hkO]; simp [hFA]
      rw [hk, if_neg (by decide)] at eF
      subst eF
      rw [if_neg (by decide)] at eX'
      subst eX'
      cases b58
      · simp -implicitDefEqProofs
        refine ACallGS.of (fun _ => kc) rfl ?_
        simp -implicitDefEqProofs [hFA, f1, f2]
        refine ACallGS.of (fun h => by simp at h) (r := .x (.one (.str []))) rfl ?_
        simp -implicitDefEqProofs [noAddr, Addr.row]
      · have hpe := hdec2 rfl
        have hpn : ¬ po = [] := fun e => he ⟨rfl, e⟩
        simp -implicitDefEqProofs [hpe, hpn]
        refine ACallGS.of (fun _ => kc) rfl ?_
        simp -implicitDefEqProofs [hFA, f1, f2, hpe, hpn]
        refine ACallGS.of (fun h => by simp at h) (r := .x (.one (.str []))) rfl ?_
        simp -implicitDefEqProofs [noAddr, Addr.row]
    subst hFA
    have kk := kk rfl
    by_cases hK : KA = s
    · have hk : keyOk s = true := by rw [hkO, hK]; simp
      rw [hk, if_pos rfl] at eF
      subst eF
      rw [if_pos rfl] at eX'
      subst eX'
      cases b58
      · simp -implicitDefEqProofs
        refine ACallGS.of (fun _ => kc) rfl ?_
        simp -implicitDefEqProofs
        refine ACallGS.of (fun _ => kk) rfl ?_
        simp -implicitDefEqProofs [hK, Addr.row]
      · have hpe := hdec2 rfl
        have hpn : ¬ po = [] := fun e => he ⟨rfl, e⟩
        simp -implicitDefEqProofs [hpe, hpn]
        refine ACallGS.of (fun _ => kc) rfl ?_
        simp -implicitDefEqProofs [hpe, hpn]
        refine ACallGS.of (fun _ => kk) rfl ?_
        simp -implicitDefEqProofs [hK, Addr.row]
    · have hk : keyOk s = false := by rw [hkO]; simp [hK]
      rw [hk, if_neg (by decide)] at eF
      subst eF
      rw [if_neg (by decide)] at eX'
      subst eX'
      cases b58
      · simp -implicitDefEqProofs
        refine ACallGS.of (fun _ => kc) rfl ?_
        simp -implicitDefEqProofs
        refine ACallGS.of (fun _ => kk) rfl ?_
        simp -implicitDefEqProofs [hK, noAddr, Addr.row]
      · have hpe := hdec2 rfl
        have hpn : ¬ po = [] := fun e => he ⟨rfl, e⟩
        simp -implicitDefEqProofs [hpe, hpn]
        refine ACallGS.of (fun _ => kc) rfl ?_
        simp -implicitDefEqProofs [hpe, hpn]
        refine ACallGS.of (fun _ => kk) rfl ?_
        simp -implicitDefEqProofs [hK, noAddr, Addr.row]
  · have hd : decide (re.head? = some 115) = false := by simpa using h115
    rw [hd]
    simp only [h115, if_false, Bool.false_eq_true] at k5 kc kk eX'
    generalize befC 63 re = PQ at k5 kc kk eX'
    generalize aftD 63 re = QQ at k5 kc kk eX'
    generalize decide (63 ∈ re) = HQ at k5 kc kk eX'
    simp only [Addr.row] at kc kk
    simp -implicitDefEqProofs
    refine ACallK.of k5 ?_
    by_cases he : b58 = true ∧ po = []
    · obtain ⟨e1, e2⟩ := he
      subst e1; subst e2
      have hk : keyOk s = false := by rw [hkO]; simp
      rw [hk, if_neg (by decide)] at eF
      subst eF
      rw [if_neg (by decide)] at eX'
      subst eX'
      simp -implicitDefEqProofs
      refine ACallGS.of (fun h => by simp at h) (r := .x (.one (.int .i64 0))) rfl ?_
      simp -implicitDefEqProofs
      refine ACallGS.of (fun h => by simp at h) (r := .x (.one (.str []))) rfl ?_
      simp -implicitDefEqProofs [noAddr, Addr.row]
    have hdec : (b58 && decide (po = [])) = false := by
      cases b58
      · rfl
      · have : ¬ po = [] := fun e => he ⟨rfl, e⟩
        simp [this]
    have hdec2 : b58 = true → po.isEmpty = false := fun e => by
      have : ¬ po = [] := fun e2 => he ⟨e, e2⟩
      simpa using this
    rw [hdec] at hkO
    by_cases hFA : FA = 0
    rotate_left
    · have f1 : (FA == 0) = false := by simpa using hFA
      have f2 : (FA != 0) = true := by simpa using hFA
      have hk : keyOk s = false := by rw [hkO]; simp [hFA]
      rw [hk, if_neg (by decide)] at eF
      subst eF
      rw [if_neg (by decide)] at eX'
      subst eX'
      cases b58
      · simp -implicitDefEqProofs
        refine ACallGS.of (fun _ => kc) rfl ?_
        simp -implicitDefEqProofs [hFA, f1, f2]
        refine ACallGS.of (fun h => by simp at h) (r := .x (.one (.str []))) rfl ?_
        simp -implicitDefEqProofs [noAddr, Addr.row]
      · have hpe := hdec2 rfl
        have hpn : ¬ po = [] := fun e => he ⟨rfl, e⟩
        simp -implicitDefEqProofs [hpe, hpn]
        refine ACallGS.of (fun _ => kc) rfl ?_
        simp -implicitDefEqProofs [hFA, f1, f2, hpe, hpn]
        refine ACallGS.of (fun h => by simp at h) (r := .x (.one (.str []))) rfl ?_
        simp -implicitDefEqProofs [noAddr, Addr.row]
    subst hFA
    have kk := kk rfl
    by_cases hK : KA = s
    · have hk : keyOk s = true := by rw [hkO, hK]; simp
      rw [hk, if_pos rfl] at eF
      subst eF
      rw [if_pos rfl] at eX'
      subst eX'
      cases b58
      · simp -implicitDefEqProofs
        refine ACallGS.of (fun _ => kc) rfl ?_
        simp -implicitDefEqProofs
        refine ACallGS.of (fun _ => kk) rfl ?_
        simp -implicitDefEqProofs [hK, Addr.row]
      · have hpe := hdec2 rfl
        have hpn : ¬ po = [] := fun e => he ⟨rfl, e⟩
        simp -implicitDefEqProofs [hpe, hpn]
        refine ACallGS.of (fun _ => kc) rfl ?_
        simp -implicitDefEqProofs [hpe, hpn]
        refine ACallGS.of (fun _ => kk) rfl ?_
        simp -implicitDefEqProofs [hK, Addr.row]
    · have hk : keyOk s = false := by rw [hkO]; simp [hK]
      rw [hk, if_neg (by decide)] at eF
      subst eF
      rw [if_neg (by decide)] at eX'
      subst eX'
      cases b58
      · simp -implicitDefEqProofs
        refine ACallGS.of (fun _ => kc) rfl ?_
        simp -implicitDefEqProofs
        refine ACallGS.of (fun _ => kk) rfl ?_
        simp -implicitDefEqProofs [hK, noAddr, Addr.row]
      · have hpe := hdec2 rfl
        have hpn : ¬ po = [] := fun e => he ⟨rfl, e⟩
        simp -implicitDefEqProofs [hpe, hpn]
        refine ACallGS.of (fun _ => kc) rfl ?_
        simp -implicitDefEqProofs [hpe, hpn]
        refine ACallGS.of (fun _ => kk) rfl ?_
        simp -implicitDefEqProofs [hK, noAddr, Addr.row]
end Go.Proofs.YtklnopamfncfgaaGreatDoor
namespace Go.Proofs.YtklnopamfncfgaaGreatDoor
open Go Go.Ab
set_option linter.unusedSectionVars false
variable [Amb] [HasPow10 Tryz.prog] [HasErrSyntax Tryz.prog]
set_option maxRecDepth 100000
set_option maxHeartbeats 4000000
theorem keyOk_41 {s : List UInt8} (h : keyOk s = true) : 41 ∈ s := by
  rw [keyOk_ref] at h
  simp only [Bool.and_eq_true, decide_eq_true_eq] at h
  exact h.1
theorem ofKeyF_ok {s : List UInt8} (h : ofKeyF s = 0) : s.length ≤ 2000 ∧ keyOk s = true := by
  unfold ofKeyF at h
  split at h
  · cases h
  · rename_i hl
    split at h
    · rename_i hk; exact ⟨by omega, hk⟩
    · cases h
theorem address_hostOf (s : List UInt8) (h : 41 ∈ s) : ACalls Tryz.prog 152 [.one (.str s)] (.x (.one (.str (hostK s)))) := by
  have hx := strings_IndexByte s 41
  have ha : atByte s 41 = ((befC 41 s).length : Int) := by unfold atByte; rw [if_pos h]
  rw [ha] at hx
  have hb := befC_lt h
  have ht := take_bef 41 s
  have hk : hostK s = befC 41 s := rfl
  rw [hk]
  generalize befC 41 s = x at hx hb ht ⊢
  have g1 : ((x.length : Int) ≤ (s.length : Int)) = True := eq_true (by omega)
  have g2 : (x.length ≤ s.length) = True := eq_true (by omega)
  have hc : cutAt s 0 (x.length : Int) = x := by simp [cutAt, ht]
  refine ACalls.of mixed (fn := Tryz.f152) (by kernel_rfl) (by kernel_rfl) rfl (by kernel_rfl) (by simp [Tryz.f152]) (fun hok => ?_)
  simp -implicitDefEqProofs
  refine ACallK.of hx ?_
  simp -implicitDefEqProofs [g1, g2, hc, ht]
def hostR (s : List UInt8) : List UInt8 := if ofKeyF s = 0 then hostK s else []
theorem address_HostOf (s : List UInt8) : ACalls Tryz.prog 108 [.one (.str s)] (.tup [.one (.str (hostR s)), .one (.int .i64 (ofKeyF s))]) := by
  have k1 := address_ofKey s
  have hf := fun e => ofKeyF_ok (s := s) e
  unfold hostR
  generalize ofKeyF s = F at k1 hf ⊢
  generalize ofKeyR s = R at k1
  obtain ⟨sc, ho, po, pa, qu, hq, fr, hfr⟩ := R
  simp only [Addr.row] at k1
  refine ACalls.of mixed (fn := Tryz.f108) (by kernel_rfl) (by kernel_rfl) rfl (by kernel_rfl) (by simp [Tryz.f108]) (fun hok => ?_)
  simp -implicitDefEqProofs
  refine ACallK.of k1 ?_
  by_cases h0 : F = 0
  · have k2 := address_hostOf s (keyOk_41 (hf h0).2)
    simp -implicitDefEqProofs [h0]
    refine ACallK.of k2 ?_
    simp -implicitDefEqProofs [h0]
  · have hb : (F == 0) = false := by simpa using h0
    simp -implicitDefEqProofs [h0, hb]
theorem ref1_OfKey (s : List UInt8) : ACalls Tryz.prog 44 [.one (.str s)] (.tup [.agg (ofKeyR s).row, .one (.int .i64 (ofKeyF s))]) := by
  obtain ⟨X, eX⟩ : ∃ X, X = ofKeyR s := ⟨_, rfl⟩
  obtain ⟨F, eF⟩ : ∃ F, F = ofKeyF s := ⟨_, rfl⟩
  have eX' := eX
  unfold ofKeyR at eX'
  rw [← eF] at eX' ⊢
  rw [← eX]
  clear eX
  unfold ofKeyF at eF
  by_cases hl : 2000 < s.length
  · have hl' : (2000 < (s.length : Int)) = True := eq_true (by omega)
    rw [if_pos hl] at eF
    subst eF
    rw [if_neg (by decide)] at eX'
    subst eX'
    refine ACalls.of mixed (fn := Tryz.f44) (by kernel_rfl) (by kernel_rfl) rfl (by kernel_rfl) (by simp [Tryz.f44]) (fun hok => ?_)
    simp -implicitDefEqProofs [hl, hl', noAddr, Addr.row]
  have hl' : (2000 < (s.length : Int)) = False := eq_false (by omega)
  rw [if_neg hl] at eF
  have hfit := ofKeyA_Fit (s := s) (by omega)
  have kc := ref1_CheckAddress (ofKeyA s) hfit
  have kk := fun e => ref1_KeyOf_nil (ofKeyA s) e
  have hkO := keyOk_ref s
  have hA : ofKeyA s = ⟨if (aftD 41 s).head? = some 115 then httpsL else httpL, turnedL 44 46 (befC 58 (befC 41 s)), aftD 58 (befC 41 s), befC 63 (tailS (aftD 41 s)), aftD 63 (tailS (aftD 41 s)), decide (63 ∈ tailS (aftD 41 s)), [], false⟩ := rfl
  have hts : tailS (aftD 41 s) = if (aftD 41 s).head? = some 115 then (aftD 41 s).drop 1 else aftD 41 s := rfl
  have k1 := strings_CutD s 41
  have k2 := strings_CutD (befC 41 s) 58
  have hb1 := befC_le 41 s
  have hb2 := befC_le 58 (befC 41 s)
  have k3 := strings_Split1 (befC 58 (befC 41 s)) 44 (by omega)
  have hcnt := splitC_count 44 (befC 58 (befC 41 s))
  have hne := splitC_ne 44 (befC 58 (befC 41 s))
  have htl := split_join_len 44 (befC 58 (befC 41 s))
  have hT : turnedL 44 46 (befC 58 (befC 41 s)) = joinC 46 (splitC 44 (befC 58 (befC 41 s))).reverse := rfl
  have k4 := strings_HasPrefix (aftD 41 s) [115]
  rw [hasPre_head] at k4
  have k5 := strings_CutD (tailS (aftD 41 s)) 63
  rw [hT] at hA
  generalize hb41 : decide (41 ∈ s) = b41 at k1 hkO
  by_cases h41 : b41 = true
  rotate_left
  · have e41 : b41 = false := by simpa using h41
    subst e41
    rw [hkO] at eF
    simp only [Bool.false_and, Bool.false_eq_true, if_false] at eF
    subst eF
    rw [if_neg (by decide)] at eX'
    subst eX'
    refine ACalls.of mixed (fn := Tryz.f44) (by kernel_rfl) (by kernel_rfl) rfl (by kernel_rfl) (by simp [Tryz.f44]) (fun hok => ?_)
    simp -implicitDefEqProofs [hl, hl']
    refine ACallK.of k1 ?_
    simp -implicitDefEqProofs [noAddr, Addr.row]
  subst h41
  generalize decide (58 ∈ befC 41 s) = b58 at k2
  generalize aftD 58 (befC 41 s) = po at k2 hA
  generalize splitC 44 (befC 58 (befC 41 s)) = l at k3 hcnt hne htl hA
  generalize befC 58 (befC 41 s) = hh at k2 k3 hcnt htl hb2
  generalize befC 41 s = pl at k1 k2 hb1 hb2
  have hrel := aftD_len 41 s
  generalize aftD 41 s = re at k1 k4 k5 hA hts hrel
  rw [hts] at k5 hA
  clear hts hfit hT
  generalize hKA : keyA (ofKeyA s) = KA at kk hkO
  generalize hFA : addrF (ofKeyA s) = FA at kc kk hkO
  rw [hA] at kc kk eX'
  clear hA hKA hFA
  have hTd := turnS_done 46 l hne
  rw [← hTd] at kc kk eX'
  unfold httpL httpsL at *
  have w0 : IntKind.i64.wrap ((l.length : Int) - 1) = (l.length : Int) - 1 := wrapS _ (by omega)
  refine ACalls.of mixed (fn := Tryz.f44) (by kernel_rfl) (by kernel_rfl) rfl (by kernel_rfl) (by simp [Tryz.f44]) (fun hok => ?_)
  simp -implicitDefEqProofs [hl, hl']
  refine ACallK.of k1 ?_
  simp -implicitDefEqProofs
  refine ACallK.of k4 ?_
  by_cases h115 : re.head? = some 115
  · have hd : decide (re.head? = some 115) = true := by simpa using h115
    rw [hd]
    simp only [h115, if_true] at k5 kc kk eX'
    simp only [List.drop_one] at k5 kc kk eX'
    have hr1 : 0 < re.length := by cases re with | nil => cases h115 | cons a r => simp
    have g1 : (1 ≤ (re.length : Int)) = True := eq_true (by omega)
    have g1' : (1 ≤ re.length) = True := eq_true (by omega)
    simp -implicitDefEqProofs [g1, g1']
    refine AltR.l ⟨by kernel_rfl, ?_⟩
    simp -implicitDefEqProofs [g1, g1']
    refine ACallK.of k2 ?_
    simp -implicitDefEqProofs
    refine ACallK.of k3 ?_
    simp -implicitDefEqProofs [w0]
    refine ALoopS.of Nat (fun j => [(0, .x (.one (.str s))), (2, .box [.str [], .str [], .str [], .str [], .str [], .bool false, .str [], .bool false]), (5, .x (.one (.str (re.tail)))), (7, .box [.str [104, 116, 116, 112, 115], .str (turnS 46 l j), .str po, .str [], .str [], .bool false, .str [], .bool false]), (11, .x (strs l)), (12, .x (.one (.int .i64 ((j : Int) - 1))))]) (fun j => j ≤ l.length) (fun j => j) l.length (Nat.le_refl _) ?_ ?_
    · simp [w0, turnS]
    intro j hj
    cases j with
    | succ m =>
      have hm : m < l.length := by omega
      have e1 : ((m + 1 : Nat) : Int) - 1 = (m : Int) := by omega
      rw [e1]
      have hm' : ((m : Int) < (l.length : Int)) = True := eq_true (by omega)
      have h0 : (0 ≤ (m : Int)) = True := eq_true (by omega)
      have w1 : IntKind.i64.wrap ((m : Int) - 1) = (m : Int) - 1 := wrapS _ (by omega)
      have hst := turnS_step (c := 46) hm
      have hl1 := turnS_len 46 l m
      rw [hst] at hl1
      simp only [List.length_append] at hl1
      generalize turnS 46 l (m + 1) = q at hst hl1 ⊢
      have m1 : q.length + l[m].length ≤ maxLen := by unfold maxLen; omega
      have m2 : q.length + l[m].length + 1 ≤ maxLen := by unfold maxLen; omega
      have m3 : q.length + (l[m].length + 1) ≤ maxLen := by unfold maxLen; omega
      by_cases hz : m = 0
      · have g1 : (0 < (m : Int)) = False := eq_false (by omega)
        have g2 : (0 < m) = False := eq_false (by omega)
        simp only [g2, if_false, List.append_nil] at hst
        simp -implicitDefEqProofs [hm, hm', h0, m1, g1, g2, w1]
        refine AltR.l ⟨by kernel_rfl, ?_⟩
        simp -implicitDefEqProofs [hm, hm', h0, m1, g1, g2, w1]
        refine Again.of m (by omega) (by omega) ?_
        simp [hst, w1]
      · have g1 : (0 < (m : Int)) = True := eq_true (by omega)
        have g2 : (0 < m) = True := eq_true (by omega)
        simp only [g2, if_true] at hst
        simp -implicitDefEqProofs [hm, hm', h0, m1, m2, m3, g1, g2, w1]
        refine AltR.l ⟨by kernel_rfl, ?_⟩
        simp -implicitDefEqProofs [hm, hm', h0, m1, m2, m3, g1, g2, w1]
        refine Again.of m (by omega) (by omega) ?_
        simp [hst, w1]
    | zero =>
      generalize befC 63 (re.tail) = PQ at k5 kc kk eX'
      generalize aftD 63 (re.tail) = QQ at k5 kc kk eX'
      generalize decide (63 ∈ re.tail) = HQ at k5 kc kk eX'
      simp only [Addr.row] at kc kk
      generalize turnS 46 l 0 = HT at kc kk eX' ⊢
      simp -implicitDefEqProofs
      refine ACallK.of k5 ?_
      simp -implicitDefEqProofs
      refine ACallK.of kc ?_
      by_cases hFA : FA = 0
      rotate_left
      · have f1 : (FA == 0) = false := by simpa using hFA
        have f2 : (FA != 0) = true := by simpa using hFA
        have hk : keyOk s = false := by rw [hkO]; simp [hFA]
        rw [hk, if_neg (by decide)] at eF
        subst eF
        rw [if_neg (by decide)] at eX'
        subst eX'
        simp -implicitDefEqProofs [hFA, f1, f2]
        refine ACallGS.of (fun h => by simp at h) (r := .x (.one (.str []))) rfl ?_
        simp -implicitDefEqProofs [noAddr, Addr.row]
      subst hFA
      have kk := kk rfl
      by_cases hK : KA = s
      · have hk : keyOk s = true := by rw [hkO, hK]; simp
        rw [hk, if_pos rfl] at eF
        subst eF
        rw [if_pos rfl] at eX'
        subst eX'
        simp -implicitDefEqProofs
        refine ACallGS.of (fun _ => kk) rfl ?_
        simp -implicitDefEqProofs [hK, Addr.row]
      · have hk : keyOk s = false := by rw [hkO]; simp [hK]
        rw [hk, if_neg (by decide)] at eF
        subst eF
        rw [if_neg (by decide)] at eX'
        subst eX'
        simp -implicitDefEqProofs
        refine ACallGS.of (fun _ => kk) rfl ?_
        simp -implicitDefEqProofs [hK, noAddr, Addr.row]
  · have hd : decide (re.head? = some 115) = false := by simpa using h115
    rw [hd]
    simp only [h115, if_false, Bool.false_eq_true] at k5 kc kk eX'
    simp -implicitDefEqProofs
    refine ACallK.of k2 ?_
    simp -implicitDefEqProofs
    refine ACallK.of k3 ?_
    simp -implicitDefEqProofs [w0]
    refine ALoopS.of Nat (fun j => [(0, .x (.one (.str s))), (2, .box [.str [], .str [], .str [], .str [], .str [], .bool false, .str [], .bool false]), (5, .x (.one (.str (re)))), (7, .box [.str [104, 116, 116, 112], .str (turnS 46 l j), .str po, .str [], .str [], .bool false, .str [], .bool false]), (11, .x (strs l)), (12, .x (.one (.int .i64 ((j : Int) - 1))))]) (fun j => j ≤ l.length) (fun j => j) l.length (Nat.le_refl _) ?_ ?_
    · simp [w0, turnS]
    intro j hj
    cases j with
    | succ m =>
      have hm : m < l.length := by omega
      have e1 : ((m + 1 : Nat) : Int) - 1 = (m : Int) := by omega
      rw [e1]
      have hm' : ((m : Int) < (l.length : Int)) = True := eq_true (by omega)
      have h0 : (0 ≤ (m : Int)) = True := eq_true (by omega)
      have w1 : IntKind.i64.wrap ((m : Int) - 1) = (m : Int) - 1 := wrapS _ (by omega)
      have hst := turnS_step (c := 46) hm
      have hl1 := turnS_len 46 l m
      rw [hst] at hl1
      simp only [List.length_append] at hl1
      generalize turnS 46 l (m + 1) = q at hst hl1 ⊢
      have m1 : q.length + l[m].length ≤ maxLen := by unfold maxLen; omega
      have m2 : q.length + l[m].length + 1 ≤ maxLen := by unfold maxLen; omega
      have m3 : q.length + (l[m].length + 1) ≤ maxLen := by unfold maxLen; omega
      by_cases hz : m = 0
      · have g1 : (0 < (m : Int)) = False := eq_false (by omega)
        have g2 : (0 < m) = False := eq_false (by omega)
        simp only [g2, if_false, List.append_nil] at hst
        simp -implicitDefEqProofs [hm, hm', h0, m1, g1, g2, w1]
        refine AltR.l ⟨by kernel_rfl, ?_⟩
        simp -implicitDefEqProofs [hm, hm', h0, m1, g1, g2, w1]
        refine Again.of m (by omega) (by omega) ?_
        simp [hst, w1]
      · have g1 : (0 < (m : Int)) = True := eq_true (by omega)
        have g2 : (0 < m) = True := eq_true (by omega)
        simp only [g2, if_true] at hst
        simp -implicitDefEqProofs [hm, hm', h0, m1, m2, m3, g1, g2, w1]
        refine AltR.l ⟨by kernel_rfl, ?_⟩
        simp -implicitDefEqProofs [hm, hm', h0, m1, m2, m3, g1, g2, w1]
        refine Again.of m (by omega) (by omega) ?_
        simp [hst, w1]
    | zero =>
      generalize befC 63 (re) = PQ at k5 kc kk eX'
      generalize aftD 63 (re) = QQ at k5 kc kk eX'
      generalize decide (63 ∈ re) = HQ at k5 kc kk eX'
      simp only [Addr.row] at kc kk
      generalize turnS 46 l 0 = HT at kc kk eX' ⊢
      simp -implicitDefEqProofs
      refine ACallK.of k5 ?_
      simp -implicitDefEqProofs
      refine ACallK.of kc ?_
      by_cases hFA : FA = 0
      rotate_left
      · have f1 : (FA == 0) = false := by simpa using hFA
        have f2 : (FA != 0) = true := by simpa using hFA
        have hk : keyOk s = false := by rw [hkO]; simp [hFA]
        rw [hk, if_neg (by decide)] at eF
        subst eF
        rw [if_neg (by decide)] at eX'
        subst eX'
        simp -implicitDefEqProofs [hFA, f1, f2]
        refine ACallGS.of (fun h => by simp at h) (r := .x (.one (.str []))) rfl ?_
        simp -implicitDefEqProofs [noAddr, Addr.row]
      subst hFA
      have kk := kk rfl
      by_cases hK : KA = s
      · have hk : keyOk s = true := by rw [hkO, hK]; simp
        rw [hk, if_pos rfl] at eF
        subst eF
        rw [if_pos rfl] at eX'
        subst eX'
        simp -implicitDefEqProofs
        refine ACallGS.of (fun _ => kk) rfl ?_
        simp -implicitDefEqProofs [hK, Addr.row]
      · have hk : keyOk s = false := by rw [hkO]; simp [hK]
        rw [hk, if_neg (by decide)] at eF
        subst eF
        rw [if_neg (by decide)] at eX'
        subst eX'
        simp -implicitDefEqProofs
        refine ACallGS.of (fun _ => kk) rfl ?_
        simp -implicitDefEqProofs [hK, noAddr, Addr.row]
end Go.Proofs.YtklnopamfncfgaaGreatDoor
namespace Go.Proofs.YtklnopamfncfgaaGreatDoor
open Go Go.Ab
set_option linter.unusedSectionVars false
variable [Amb] [HasPow10 Tryz.prog] [HasErrSyntax Tryz.prog]
set_option maxRecDepth 100000
set_option maxHeartbeats 4000000
theorem ref1_HostOf (s : List UInt8) : ACalls Tryz.prog 111 [.one (.str s)] (.tup [.one (.str (hostR s)), .one (.int .i64 (ofKeyF s))]) := by
  have k1 := ref1_OfKey s
  have hf := fun e => ofKeyF_ok (s := s) e
  unfold hostR
  generalize ofKeyF s = F at k1 hf ⊢
  generalize ofKeyR s = R at k1
  obtain ⟨sc, ho, po, pa, qu, hq, fr, hfr⟩ := R
  simp only [Addr.row] at k1
  refine ACalls.of mixed (fn := Tryz.f111) (by kernel_rfl) (by kernel_rfl) rfl (by kernel_rfl) (by simp [Tryz.f111]) (fun hok => ?_)
  simp -implicitDefEqProofs
  refine ACallK.of k1 ?_
  by_cases h0 : F = 0
  · have h41 := keyOk_41 (hf h0).2
    have hx := strings_IndexByte s 41
    have ha : atByte s 41 = ((befC 41 s).length : Int) := by unfold atByte; rw [if_pos h41]
    rw [ha] at hx
    have hb := befC_lt h41
    have ht := take_bef 41 s
    have hk : hostK s = befC 41 s := rfl
    rw [hk]
    generalize befC 41 s = x at hx hb ht ⊢
    have g1 : ((x.length : Int) ≤ (s.length : Int)) = True := eq_true (by omega)
    have g2 : (x.length ≤ s.length) = True := eq_true (by omega)
    have hc : cutAt s 0 (x.length : Int) = x := by simp [cutAt, ht]
    simp -implicitDefEqProofs [h0]
    refine ACallK.of hx ?_
    simp -implicitDefEqProofs [h0, g1, g2, hc, ht]
  · have hb : (F == 0) = false := by simpa using h0
    simp -implicitDefEqProofs [h0, hb]
structure Scope where
  kind : Int
  key : List UInt8
  not : Bool
def Scope.row (s : Scope) : List CV := [.int .i64 s.kind, .str s.key, .bool s.not]
end Go.Proofs.YtklnopamfncfgaaGreatDoor
namespace Go.Proofs.YtklnopamfncfgaaGreatDoor
open Go Go.Ab
set_option linter.unusedSectionVars false
set_option maxRecDepth 100000
section
variable [Amb]
end
theorem ambE_laid {W : World} {l : List (String × DataW Unit)} (j k : Nat) {n : String} {d : DataW Unit} (h : laidMetH Tryz.prog l W) (hp : (l.all fun x => x.2.handleName?.isNone) = true) (hj : l[j]? = some ("internal/strconv.uint64pow10", Lib.tabData .u64 Lib.pow10Tab)) (hk : l[k]? = some ("strconv.ErrSyntax", .iface n d)) : (ambE Tryz.prog).holds W := by
  rw [MakeChecks.laidMetH_plain _ _ _ hp] at h
  exact ambE_of (tabIs_at (g := 3) (t := 230) (e := 209) (n := 20) (by kernel_rfl) (by kernel_rfl) Tryz.underlying230 Tryz.underlying209 (by kernel_rfl) (by kernel_rfl) j h hj)
    (ifaceIs_at (g := 1) (t := 113) (by kernel_rfl) (by kernel_rfl) Tryz.underlying113 k h hk)
end Go.Proofs.YtklnopamfncfgaaGreatDoor
namespace Go.Proofs.YtklnopamfncfgaaGreatDoor
open Go Go.Ab
set_option linter.unusedSectionVars false
variable [Amb]
set_option maxRecDepth 100000
set_option maxHeartbeats 4000000
theorem ref1_passed (t u : List UInt8) (k : Nat) (ht : t.length ≤ 4000000000000000) (hu : u.length ≤ 1000) (hk : k ≤ 1000) : ACalls Tryz.prog 198 [.one (.str t), .one (.str u), .one (.int .i64 k)] (.x (.one (.int .i64 (passI u t k)))) := by
  obtain ⟨R, eR⟩ : ∃ R, R = passI u t k := ⟨_, rfl⟩
  rw [← eR]
  unfold passI at eR
  refine ACalls.of mixed (fn := Tryz.f198) (by kernel_rfl) (by kernel_rfl) rfl (by kernel_rfl) (by simp [Tryz.f198]) (fun hok => ?_)
  simp -implicitDefEqProofs
  refine ALoopS.of Nat (fun i => [(0, .x (.one (.str t))), (1, .x (.one (.str u))), (2, .x (.one (.int .i64 k))), (7, .x (.one (.int .i64 i)))]) (ComAt u (t.drop k)) (fun i => u.length - i) 0 (ComAt.zero _ _) ?_ ?_
  · simp
  intro i hi
  have hle := hi.le
  have hle2 := hi.le2
  rw [List.length_drop] at hle2
  by_cases hlu : i < u.length
  rotate_left
  · have hlu' : ((i : Int) < (u.length : Int)) = False := eq_false (by omega)
    rw [if_pos (hi.full hlu).1] at eR
    subst eR
    simp -implicitDefEqProofs [hlu']
  have hlu' : ((i : Int) < (u.length : Int)) = True := eq_true (by omega)
  obtain ⟨q, eq⟩ : ∃ q, q = k + i := ⟨_, rfl⟩
  have w1 : IntKind.i64.wrap ((k : Int) + (i : Int)) = (q : Int) := by rw [wrapS _ (by omega)]; omega
  have w2 : IntKind.i64.wrap ((i : Int) + 1) = (i : Int) + 1 := wrapS _ (by omega)
  by_cases hlt : q < t.length
  rotate_left
  · have hlt' : ((t.length : Int) ≤ (q : Int)) = True := eq_true (by omega)
    have hc := hi.short (by rw [List.length_drop]; omega)
    rw [hc, if_neg (by omega), ← eq] at eR
    subst eR
    simp -implicitDefEqProofs [hlu', w1, hlt']
    refine ACallGS.of (fun h => by cases h) (r := .x (.one (.str []))) rfl ?_
    simp -implicitDefEqProofs [hlu', w1, hlt']
  have hlt' : ((t.length : Int) ≤ (q : Int)) = False := eq_false (by omega)
  have w3 : IntKind.i64.wrap ((q : Int) + 1) = (q : Int) + 1 := wrapS _ (by omega)
  have hl1 : ((q : Int) ≤ (t.length : Int)) = True := eq_true (by omega)
  have hl2 : ((q : Int) + 1 ≤ (t.length : Int)) = True := eq_true (by omega)
  have hl3 : ((i : Int) ≤ (u.length : Int)) = True := eq_true (by omega)
  have hl4 : ((i : Int) + 1 ≤ (u.length : Int)) = True := eq_true (by omega)
  have hl5 : ((q : Int) ≤ (q : Int) + 1) = True := eq_true (by omega)
  have hl6 : ((i : Int) ≤ (i : Int) + 1) = True := eq_true (by omega)
  have q1 := cut_one_at hlt
  have q2 := cut_one_at hlu
  have hsm := ref1_Small [t[q]]
  rw [small_one] at hsm
  have hdq : (t.drop k)[i]'(by rw [List.length_drop]; omega) = t[q] := by rw [List.getElem_drop]; simp only [eq]
  simp -implicitDefEqProofs [hlu', w1, hlt', w2, w3, hl1, hl2, hl3, hl4, hl5, hl6, q1, q2]
  refine ACallGS.of (fun _ => hsm) rfl ?_
  by_cases he : smallC t[q] = u[i]
  · have he1 : (smallC t[q] == u[i]) = true := by simpa using he
    simp -implicitDefEqProofs [w1, w2, w3, hl1, hl2, hl3, hl4, hl5, hl6, q1, q2, he, he1]
    refine Again.of (i + 1) (hi.step hlu (by rw [List.length_drop]; omega) (by rw [hdq]; exact he)) (by omega) (by simp [w2])
  · have he1 : (smallC t[q] == u[i]) = false := by simpa using he
    have hc := hi.miss hlu (by rw [List.length_drop]; omega) (by rw [hdq]; exact he)
    rw [hc, if_neg (by omega), ← eq] at eR
    subst eR
    simp -implicitDefEqProofs [w1, w2, w3, hl1, hl2, hl3, hl4, hl5, hl6, q1, q2, he, he1]
def rdR (t : List UInt8) (a : Nat) (bad : Int) : List CV := [.str t, .int .i64 a, .int .i64 bad]
theorem ref1_until (t w : List UInt8) (a : Nat) (bad : Int) (ht : t.length ≤ 2000) (ha : a ≤ t.length) :
    ACallsM Tryz.prog 201 [.box (rdR t a bad), .x (.one (.str w))] (.x (.one (.str (stopW w (t.drop a))))) [.box (rdR t (a + (stopW w (t.drop a)).length) bad), .dead] := by
  obtain ⟨u, eu⟩ : ∃ u, u = stopW w (t.drop a) := ⟨_, rfl⟩
  rw [← eu]
  refine ACallsM.of mixed (fn := Tryz.f201) (by kernel_rfl) (by kernel_rfl) rfl (by kernel_rfl) (by kernel_rfl) rfl (by simp [Tryz.f201]) (fun hok => ?_)
  simp -implicitDefEqProofs [rdR]
  refine ALoopS.of Nat (fun i => [(0, .box (rdR t (a + i) bad)), (1, .x (.one (.str w))), (5, .x (.one (.int .i64 a)))]) (Upto (fun c => !w.contains c) (t.drop a)) (fun i => t.length - (a + i)) 0 Upto.zero ?_ ?_
  · simp [rdR]
  intro i hi
  have hle := hi.1
  rw [List.length_drop] at hle
  obtain ⟨q, eq⟩ : ∃ q, q = a + i := ⟨_, rfl⟩
  rw [← eq]
  by_cases hx : ∃ h : q < t.length, w.contains t[q] = false
  · obtain ⟨hlt, hdg⟩ := hx
    have hlt' : ((q : Int) < (t.length : Int)) = True := eq_true (by omega)
    have hwq : IntKind.i64.wrap ((q : Int) + 1) = (q : Int) + 1 := wrapS _ (by omega)
    have hno := atByte_no hdg
    simp -implicitDefEqProofs [rdR, hlt, hlt']
    refine ACallGS.of (fun _ => strings_IndexByte w t[q]) rfl ?_
    simp -implicitDefEqProofs [hno, hwq]
    refine Again.of (i + 1) (hi.step (by rw [List.length_drop]; omega) (by rw [List.getElem_drop]; simp only [← eq, hdg]; rfl)) (by omega) ?_
    simp [rdR, hwq]
    omega
  have hui : u = (t.drop a).take i := by
    rw [eu]
    refine takeWhile_upto hi (fun h => ?_)
    rw [List.length_drop] at h
    rw [List.getElem_drop]
    cases hc : w.contains t[a + i] with
    | true => rfl
    | false => exact absurd ⟨by omega, by simpa only [eq] using hc⟩ hx
  have hm : q = a + u.length := by
    have := congrArg List.length hui
    rw [List.length_take, List.length_drop] at this
    omega
  rw [← hm]
  have hcut : cutAt t (a : Int) (q : Int) = u := by rw [cut_nat, hui]; congr 1; omega
  have g5 : ((a : Int) ≤ (q : Int)) = True := eq_true (by omega)
  have g6 : ((q : Int) ≤ (t.length : Int)) = True := eq_true (by omega)
  have g5' : (a ≤ q) = True := eq_true (by omega)
  have g6' : (q ≤ t.length) = True := eq_true (by omega)
  by_cases hlt : q < t.length
  · have hlt' : ((q : Int) < (t.length : Int)) = True := eq_true (by omega)
    have hdg : w.contains t[q] = true := by
      cases hc : w.contains t[q] with
      | true => rfl
      | false => exact absurd ⟨hlt, hc⟩ hx
    have g : (atByte w t[q] < 0) = False := eq_false (by have := atByte_in hdg; omega)
    simp -implicitDefEqProofs [rdR, hlt, hlt']
    refine ACallGS.of (fun _ => strings_IndexByte w t[q]) rfl ?_
    simp -implicitDefEqProofs [g, g5, g6, g5', g6', hcut, rdR]
  · have hlt' : ((q : Int) < (t.length : Int)) = False := eq_false (by omega)
    simp -implicitDefEqProofs [rdR, hlt, hlt']
    refine ACallGS.of (fun h => by cases h) (r := .x (.one (.int .i64 0))) rfl ?_
    simp -implicitDefEqProofs [g5, g6, g5', g6', hcut, rdR]
def wholeC (port : Bool) (c : UInt8) : Bool := isDig c || (!port && (letB c || (decide (c = 45) || decide (c = 46))))
theorem wholeC_port (c : UInt8) : wholeC true c = isDig c := by unfold wholeC; simp
theorem wholeC_host (c : UInt8) : wholeC false c = hostC c := by
  rw [hostC_split]; unfold wholeC
  cases letB c <;> cases isDig c <;> simp
theorem ref1_whole (t : List UInt8) (port : Bool) (a : Nat) (bad : Int) (ht : t.length ≤ 2000) (ha : a ≤ t.length) :
    ACallsM Tryz.prog 142 [.box (rdR t a bad), .x (.one (.bool port))] (.x (.one (.str ((t.drop a).takeWhile (wholeC port))))) [.box (rdR t (a + ((t.drop a).takeWhile (wholeC port)).length) bad), .dead] := by
  obtain ⟨u, eu⟩ : ∃ u, u = (t.drop a).takeWhile (wholeC port) := ⟨_, rfl⟩
  rw [← eu]
  refine ACallsM.of mixed (fn := Tryz.f142) (by kernel_rfl) (by kernel_rfl) rfl (by kernel_rfl) (by kernel_rfl) rfl (by simp [Tryz.f142]) (fun hok => ?_)
  simp -implicitDefEqProofs [rdR]
  refine ALoopS.of Nat (fun i => [(0, .box (rdR t (a + i) bad)), (1, .x (.one (.bool port))), (5, .x (.one (.int .i64 a)))]) (Upto (wholeC port) (t.drop a)) (fun i => t.length - (a + i)) 0 Upto.zero ?_ ?_
  · simp [rdR]
  intro i hi
  have hle := hi.1
  rw [List.length_drop] at hle
  obtain ⟨q, eq⟩ : ∃ q, q = a + i := ⟨_, rfl⟩
  rw [← eq]
  by_cases hlt : q < t.length
  · have hlt' : ((q : Int) < (t.length : Int)) = True := eq_true (by omega)
    have hwq : IntKind.i64.wrap ((q : Int) + 1) = (q : Int) + 1 := wrapS _ (by omega)
    have hst : wholeC port t[q] = true → Upto (wholeC port) (t.drop a) (i + 1) := fun hc => hi.step (by rw [List.length_drop]; omega) (by rw [List.getElem_drop]; simpa only [← eq] using hc)
    have hend : wholeC port t[q] = false → u = (t.drop a).take i := fun hc => by
      rw [eu]
      exact takeWhile_upto hi (fun h => by rw [List.getElem_drop]; simpa only [← eq] using hc)
    have hfin : u = (t.drop a).take i → q = a + u.length ∧ cutAt t (a : Int) (q : Int) = u := fun hui => by
      have := congrArg List.length hui
      rw [List.length_take, List.length_drop] at this
      exact ⟨by omega, by rw [cut_nat, hui]; congr 1; omega⟩
    have g5 : ((a : Int) ≤ (q : Int)) = True := eq_true (by omega)
    have g6 : ((q : Int) ≤ (t.length : Int)) = True := eq_true (by omega)
    have g5' : (a ≤ q) = True := eq_true (by omega)
    have g6' : (q ≤ t.length) = True := eq_true (by omega)
    have hC : wholeC port t[q] = (isDig t[q] || (!port && (letB t[q] || (decide (t[q] = 45) || decide (t[q] = 46))))) := rfl
    simp -implicitDefEqProofs [rdR, hlt, hlt']
    refine ACallGS.of (fun _ => ref1_digit t[q]) rfl ?_
    cases b1 : isDig t[q]
    · cases port
      · simp -implicitDefEqProofs [hlt, hlt']
        refine ACallGS.of (fun _ => ref1_letter t[q]) rfl ?_
        cases b2 : letB t[q]
        · by_cases b3 : t[q] = 45
          · have e3 : ((t[q].toNat : Int) = 45) = True := eq_true ((u8_int 45 (by omega)).2 b3)
            have f3 : ((t[q].toNat : Int) == 45) = true := by simpa using e3
            simp -implicitDefEqProofs [hlt, hlt', hwq, e3, f3]
            refine Again.of (i + 1) (hst (by rw [hC, b1, b2]; simp [b3])) (by omega) ?_
            simp [rdR, hwq]; omega
          · have e3 : ((t[q].toNat : Int) = 45) = False := eq_false (fun h => b3 ((u8_int 45 (by omega)).1 h))
            have f3 : ((t[q].toNat : Int) == 45) = false := by simpa using e3
            by_cases b4 : t[q] = 46
            · have e4 : ((t[q].toNat : Int) = 46) = True := eq_true ((u8_int 46 (by omega)).2 b4)
              have f4 : ((t[q].toNat : Int) == 46) = true := by simpa using e4
              simp -implicitDefEqProofs [hlt, hlt', hwq, e3, f3, e4, f4]
              refine Again.of (i + 1) (hst (by rw [hC, b1, b2]; simp [b4])) (by omega) ?_
              simp [rdR, hwq]; omega
            · have e4 : ((t[q].toNat : Int) = 46) = False := eq_false (fun h => b4 ((u8_int 46 (by omega)).1 h))
              have f4 : ((t[q].toNat : Int) == 46) = false := by simpa using e4
              obtain ⟨hm, hcut⟩ := hfin (hend (by rw [hC, b1, b2]; simp [b3, b4]))
              rw [← hm]
              simp -implicitDefEqProofs [hlt, hlt', e3, f3, e4, f4, g5, g6, g5', g6', hcut, rdR]
        · simp -implicitDefEqProofs [hlt, hlt', hwq]
          refine Again.of (i + 1) (hst (by rw [hC, b1, b2]; simp)) (by omega) ?_
          simp [rdR, hwq]; omega
      · obtain ⟨hm, hcut⟩ := hfin (hend (by rw [hC, b1]; simp))
        rw [← hm]
        simp -implicitDefEqProofs [hlt, hlt']
        refine ACallGS.of (fun h => by cases h) (r := .x (.one (.bool false))) rfl ?_
        simp -implicitDefEqProofs [hlt, hlt', g5, g6, g5', g6', hcut, rdR]
    · simp -implicitDefEqProofs [hlt, hlt', hwq]
      refine ACallGS.of (fun h => by cases h) (r := .x (.one (.bool false))) rfl ?_
      simp -implicitDefEqProofs [hlt, hlt', hwq]
      refine Again.of (i + 1) (hst (by rw [hC, b1]; simp)) (by omega) ?_
      simp [rdR, hwq]; omega
  · have hlt' : ((q : Int) < (t.length : Int)) = False := eq_false (by omega)
    have hui : u = (t.drop a).take i := by
      rw [eu]
      exact takeWhile_upto hi (fun h => by rw [List.length_drop] at h; omega)
    have hm : q = a + u.length := by
      have := congrArg List.length hui
      rw [List.length_take, List.length_drop] at this
      omega
    rw [← hm]
    have hcut : cutAt t (a : Int) (q : Int) = u := by rw [cut_nat, hui]; congr 1; omega
    have g5 : ((a : Int) ≤ (q : Int)) = True := eq_true (by omega)
    have g6 : ((q : Int) ≤ (t.length : Int)) = True := eq_true (by omega)
    have g5' : (a ≤ q) = True := eq_true (by omega)
    have g6' : (q ≤ t.length) = True := eq_true (by omega)
    simp -implicitDefEqProofs [rdR, hlt, hlt']
    refine ACallGS.of (fun h => by cases h) (r := .x (.one (.bool false))) rfl ?_
    simp -implicitDefEqProofs [hlt, hlt']
    refine ACallGS.of (fun h => by cases h) (r := .x (.one (.bool false))) rfl ?_
    simp -implicitDefEqProofs [g5, g6, g5', g6', hcut, rdR]
theorem ref1_stop (t : List UInt8) (a : Nat) (bad p : Int) :
    ACallsM Tryz.prog 199 [.box (rdR t a bad), .x (.one (.int .i64 p))] (.tup []) [.box (rdR t a (if bad < 0 then p else bad)), .dead] := by
  refine ACallsM.of mixed (fn := Tryz.f199) (by kernel_rfl) (by kernel_rfl) rfl (by kernel_rfl) (by kernel_rfl) rfl (by simp [Tryz.f199]) (fun hok => ?_)
  by_cases h : bad < 0
  · simp -implicitDefEqProofs [rdR, h]
  · simp -implicitDefEqProofs [rdR, h]
end Go.Proofs.YtklnopamfncfgaaGreatDoor
namespace Go.Proofs.YtklnopamfncfgaaGreatDoor
open Go Go.Ab
set_option linter.unusedSectionVars false
variable [Amb]
set_option maxRecDepth 100000
set_option maxHeartbeats 4000000
def rowBadN (w s : List UInt8) (k : Nat) (bad : Int) : Int := if (rowEndL w s).2 = false ∧ bad < 0 then ((k + (rowEndL w s).1 : Nat) : Int) else bad
theorem badI_stop {w : List UInt8} (hw : ∀ c, w.contains c = true → hexC c = false) (s : List UInt8) : badI [0] (stopW w s) = if (rowEndL w s).2 = false then ((rowEndL w s).1 : Int) else -1 := by
  have h := rowEndL_zero (stopW w s)
  have hc := rowEndL_cut hw s
  unfold badI
  rw [h.1, h.2]
  unfold rowB
  rw [hc]
  cases b : (rowEndL w s).2
  · simp
  · have := rowEndL_full w s b
    simp [this]
theorem ref1_row (t w : List UInt8) (a : Nat) (bad : Int) (ht : t.length ≤ 2000) (ha : a ≤ t.length) (hw : ∀ c, w.contains c = true → hexC c = false) :
    ACallsM Tryz.prog 143 [.box (rdR t a bad), .x (.one (.str w))] (.x (.one (.str (stopW w (t.drop a))))) [.box (rdR t (a + (stopW w (t.drop a)).length) (rowBadN w (t.drop a) a bad)), .dead] := by
  have hu := ref1_until t w a bad ht ha
  have hl := stopW_len w (t.drop a)
  rw [List.length_drop] at hl
  have hb := ref1_rowBad (stopW w (t.drop a)) 0 (by omega)
  rw [badI_stop hw] at hb
  have hP := rowEndL_le w (t.drop a)
  rw [List.length_drop] at hP
  unfold rowBadN
  generalize stopW w (t.drop a) = u at hu hl hb ⊢
  generalize rowEndL w (t.drop a) = P at hb hP ⊢
  simp only [rdR] at hu
  refine ACallsM.of mixed (fn := Tryz.f143) (by kernel_rfl) (by kernel_rfl) rfl (by kernel_rfl) (by kernel_rfl) rfl (by simp [Tryz.f143]) (fun hok => ?_)
  simp -implicitDefEqProofs [rdR]
  refine ACallM.of hu ?_
  simp -implicitDefEqProofs
  refine ACallK.of hb ?_
  cases b : P.2
  · have wa : IntKind.i64.wrap ((a : Int) + (P.1 : Int)) = ((a + P.1 : Nat) : Int) := by rw [wrapS _ (by omega)]; omega
    by_cases h : bad < 0
    · simp -implicitDefEqProofs [rdR, h, wa]
    · have h' : (bad < 0) = False := eq_false h
      simp -implicitDefEqProofs [rdR, h']
  · simp -implicitDefEqProofs [rdR]
theorem ref1_scheme (t : List UInt8) (ht : t.length ≤ 2000) :
    ACallsM Tryz.prog 141 [.box (rdR t 0 (-1))] (.x (.one (.str (match schemeR t with | .ok n => t.take n | .error _ => [])))) [.box (match schemeR t with | .ok n => rdR t (n + 3) (-1) | .error k => rdR t 0 k)] := by
  have hS := schemeR_by t
  have h1 := ref1_passed t httpL 0 (by omega) (by decide) (by omega)
  have e1 : passI httpL t 0 = if comL httpL t = 4 then -1 else ((comL httpL t : Nat) : Int) := by
    unfold passI
    rw [List.drop_zero, show httpL.length = 4 from rfl, Nat.zero_add]
  rw [e1] at h1
  unfold httpL at h1
  by_cases h4 : comL httpL t = 4
  rotate_left
  · have hst := ref1_stop t 0 (-1) (comL httpL t)
    have hk : (comL [104, 116, 116, 112] t = 4) = False := eq_false h4
    rw [show ([104, 116, 116, 112] : List UInt8) = httpL from rfl] at hk h1
    rw [if_pos h4] at hS
    rw [hS]
    generalize comL httpL t = k at h1 hst hk
    simp only [rdR] at hst
    have k0 : ((k : Int) < 0) = False := eq_false (by omega)
    rw [if_neg (by rw [hk]; exact id)] at h1
    refine ACallsM.of mixed (fn := Tryz.f141) (by kernel_rfl) (by kernel_rfl) rfl (by kernel_rfl) (by kernel_rfl) rfl (by simp [Tryz.f141]) (fun hok => ?_)
    simp -implicitDefEqProofs [rdR]
    refine ACallK.of h1 ?_
    simp -implicitDefEqProofs [k0]
    refine ACallM.of hst ?_
    simp -implicitDefEqProofs [rdR]
  · rw [if_neg (fun h => h h4)] at hS
    rw [show ([104, 116, 116, 112] : List UInt8) = httpL from rfl, if_pos h4] at h1
    have hn : schemeN t = 4 ∨ schemeN t = 5 := by unfold schemeN; split <;> simp
    have h2 := ref1_passed t [58, 47, 47] (schemeN t) (by omega) (by decide) (by omega)
    have e2 : passI [58, 47, 47] t (schemeN t) = if comL sepL (t.drop (schemeN t)) = 3 then -1 else ((schemeN t + comL sepL (t.drop (schemeN t)) : Nat) : Int) := rfl
    rw [e2] at h2
    have hc := comL_le sepL (t.drop (schemeN t))
    have hst := ref1_stop t 0 (-1) ((schemeN t + comL sepL (t.drop (schemeN t)) : Nat) : Int)
    generalize comL sepL (t.drop (schemeN t)) = c at hS h2 hc hst
    have hs3 : sepL.length = 3 := rfl
    rw [hs3, List.length_drop] at hc
    simp only [rdR] at hst
    refine ACallsM.of mixed (fn := Tryz.f141) (by kernel_rfl) (by kernel_rfl) rfl (by kernel_rfl) (by kernel_rfl) rfl (by simp [Tryz.f141]) (fun hok => ?_)
    simp -implicitDefEqProofs [rdR]
    refine ACallK.of h1 ?_
    by_cases hl : 4 < t.length
    rotate_left
    · have hl' : (4 < (t.length : Int)) = False := eq_false (by omega)
      have hn4 : schemeN t = 4 := by unfold schemeN; rw [if_neg (by rw [List.drop_eq_nil_of_le (by omega)]; simp)]
      rw [hn4] at hS h2 hc hst
      rw [hS]
      simp -implicitDefEqProofs [hl']
      refine ACallK.of h2 ?_
      by_cases c3 : c = 3
      · have hk : (4 : Int) ≤ (t.length : Int) := by omega
        have hk' : ((4 : Int) ≤ (t.length : Int)) = True := eq_true hk
        have hk2 : ((4 : Nat) ≤ t.length) = True := eq_true (by omega)
        have hw : IntKind.i64.wrap 7 = 7 := wrapS _ (by omega)
        simp -implicitDefEqProofs [c3, hk', hk2, hw, rdR]
        try simp [cutAt]
      · have k0 : (((4 + c : Nat) : Int) < 0) = False := eq_false (by omega)
        have k1 : (0 ≤ ((4 + c : Nat) : Int)) = True := eq_true (by omega)
        have k2 : (0 ≤ (4 : Int) + (c : Int)) = True := eq_true (by omega)
        simp -implicitDefEqProofs [c3, k0, k1, k2]
        refine ACallM.of hst ?_
        simp -implicitDefEqProofs [rdR, c3]
    have hl' : (4 < (t.length : Int)) = True := eq_true (by omega)
    have hd := head_drop hl
    by_cases b1 : t[4] = 115
    · have f1 : ((t[4].toNat : Int) = 115) = True := eq_true ((u8_int 115 (by omega)).2 b1)
      have f1b : ((t[4].toNat : Int) == 115) = true := by simpa using f1
      have hn4 : schemeN t = 5 := by unfold schemeN; rw [if_pos (by rw [hd, b1]; simp)]
      rw [hn4] at hS h2 hc hst
      rw [hS]
      simp -implicitDefEqProofs [hl, hl', f1, f1b]
      refine ACallK.of h2 ?_
      by_cases c3 : c = 3
      · have hk : (5 : Int) ≤ (t.length : Int) := by omega
        have hk' : ((5 : Int) ≤ (t.length : Int)) = True := eq_true hk
        have hk2 : ((5 : Nat) ≤ t.length) = True := eq_true (by omega)
        have hw : IntKind.i64.wrap 8 = 8 := wrapS _ (by omega)
        simp -implicitDefEqProofs [c3, hk', hk2, hw, rdR]
        try simp [cutAt]
      · have k0 : (((5 + c : Nat) : Int) < 0) = False := eq_false (by omega)
        have k1 : (0 ≤ ((5 + c : Nat) : Int)) = True := eq_true (by omega)
        have k2 : (0 ≤ (5 : Int) + (c : Int)) = True := eq_true (by omega)
        simp -implicitDefEqProofs [c3, k0, k1, k2]
        refine ACallM.of hst ?_
        simp -implicitDefEqProofs [rdR, c3]
    have f1 : ((t[4].toNat : Int) = 115) = False := eq_false (fun e => b1 ((u8_int 115 (by omega)).1 e))
    have f1b : ((t[4].toNat : Int) == 115) = false := by simpa using f1
    by_cases b2 : t[4] = 83
    · have f2 : ((t[4].toNat : Int) = 83) = True := eq_true ((u8_int 83 (by omega)).2 b2)
      have f2b : ((t[4].toNat : Int) == 83) = true := by simpa using f2
      have hn4 : schemeN t = 5 := by unfold schemeN; rw [if_pos (by rw [hd, b2]; simp)]
      rw [hn4] at hS h2 hc hst
      rw [hS]
      simp -implicitDefEqProofs [hl, hl', f1, f1b, f2, f2b]
      refine ACallK.of h2 ?_
      by_cases c3 : c = 3
      · have hk : (5 : Int) ≤ (t.length : Int) := by omega
        have hk' : ((5 : Int) ≤ (t.length : Int)) = True := eq_true hk
        have hk2 : ((5 : Nat) ≤ t.length) = True := eq_true (by omega)
        have hw : IntKind.i64.wrap 8 = 8 := wrapS _ (by omega)
        simp -implicitDefEqProofs [c3, hk', hk2, hw, rdR]
        try simp [cutAt]
      · have k0 : (((5 + c : Nat) : Int) < 0) = False := eq_false (by omega)
        have k1 : (0 ≤ ((5 + c : Nat) : Int)) = True := eq_true (by omega)
        have k2 : (0 ≤ (5 : Int) + (c : Int)) = True := eq_true (by omega)
        simp -implicitDefEqProofs [c3, k0, k1, k2]
        refine ACallM.of hst ?_
        simp -implicitDefEqProofs [rdR, c3]
    · have f2 : ((t[4].toNat : Int) = 83) = False := eq_false (fun e => b2 ((u8_int 83 (by omega)).1 e))
      have f2b : ((t[4].toNat : Int) == 83) = false := by simpa using f2
      have hn4 : schemeN t = 4 := by unfold schemeN; rw [if_neg (by rw [hd]; simp [b1, b2])]
      rw [hn4] at hS h2 hc hst
      rw [hS]
      simp -implicitDefEqProofs [hl, hl', f1, f1b, f2, f2b]
      refine ACallK.of h2 ?_
      by_cases c3 : c = 3
      · have hk : (4 : Int) ≤ (t.length : Int) := by omega
        have hk' : ((4 : Int) ≤ (t.length : Int)) = True := eq_true hk
        have hk2 : ((4 : Nat) ≤ t.length) = True := eq_true (by omega)
        have hw : IntKind.i64.wrap 7 = 7 := wrapS _ (by omega)
        simp -implicitDefEqProofs [c3, hk', hk2, hw, rdR]
        try simp [cutAt]
      · have k0 : (((4 + c : Nat) : Int) < 0) = False := eq_false (by omega)
        have k1 : (0 ≤ ((4 + c : Nat) : Int)) = True := eq_true (by omega)
        have k2 : (0 ≤ (4 : Int) + (c : Int)) = True := eq_true (by omega)
        simp -implicitDefEqProofs [c3, k0, k1, k2]
        refine ACallM.of hst ?_
        simp -implicitDefEqProofs [rdR, c3]
end Go.Proofs.YtklnopamfncfgaaGreatDoor
namespace Go.Proofs.YtklnopamfncfgaaGreatDoor
open Go Go.Ab
set_option linter.unusedSectionVars false
variable [Amb]
set_option maxRecDepth 100000
set_option maxHeartbeats 4000000
structure DocR where
  path : List UInt8
  query : List UInt8
  hasQ : Bool
  frag : List UInt8
  hasF : Bool
  bad : Int
def docQ (t : List UInt8) (k : Nat) (b : Int) : List UInt8 × Bool × Nat × Int :=
  if (t.drop k).head? = some 63 then (stopW [35] (t.drop (k + 1)), true, k + 1 + (stopW [35] (t.drop (k + 1))).length, rowBadN [35] (t.drop (k + 1)) (k + 1) b) else ([], false, k, b)
def docF (t : List UInt8) (k : Nat) (b : Int) : List UInt8 × Bool × Int :=
  if k < t.length then (stopW [] (t.drop (k + 1)), true, rowBadN [] (t.drop (k + 1)) (k + 1) b) else ([], false, b)
def docR (t : List UInt8) (k : Nat) : DocR :=
  let u := stopW [63, 35] (t.drop k)
  let q := docQ t (k + u.length) (rowBadN [63, 35] (t.drop k) k (-1))
  let f := docF t q.2.2.1 q.2.2.2
  ⟨u, q.1, q.2.1, f.1, f.2.1, f.2.2⟩
theorem stopW_take {w s : List UInt8} (h : (rowEndL w s).2 = true) : stopW w s = s.take (rowEndL w s).1 := by
  rw [rowEndL_full w s h]
  exact List.prefix_iff_eq_take.1 (List.takeWhile_prefix _)
theorem rowBadN_keep {w s : List UInt8} {k : Nat} {b : Int} (h : 0 ≤ b) : rowBadN w s k b = b := by unfold rowBadN; rw [if_neg (by omega)]
theorem docF_keep {t : List UInt8} {k : Nat} {b : Int} (h : 0 ≤ b) : (docF t k b).2.2 = b := by
  unfold docF
  split
  · exact rowBadN_keep h
  · rfl
theorem docF_ok {t : List UInt8} {k : Nat} (hs : ∀ c, (t.drop k).head? = some c → c = 35) : (docF t k (-1)).2.1 = (tailR 35 [] (t.drop k)).2.2.2 ∧
    (((tailR 35 [] (t.drop k)).1 = true ∧ (docF t k (-1)).2.2 = -1 ∧ (docF t k (-1)).1 = (tailR 35 [] (t.drop k)).2.2.1) ∨ ((tailR 35 [] (t.drop k)).1 = false ∧ (docF t k (-1)).2.2 = ((k + (tailR 35 [] (t.drop k)).2.1 : Nat) : Int))) := by
  by_cases hk : k < t.length
  · have hd := head_drop hk
    have h35 := hs _ hd
    rw [h35] at hd
    rw [tailR_yes hd]
    unfold docF
    rw [if_pos hk]
    refine ⟨rfl, ?_⟩
    simp only
    cases b : (rowEndL [] (t.drop (k + 1))).2
    · right
      refine ⟨rfl, ?_⟩
      unfold rowBadN
      rw [if_pos ⟨b, by omega⟩]
      omega
    · left
      refine ⟨rfl, ?_, stopW_take b⟩
      unfold rowBadN
      rw [if_neg (by rw [b]; simp)]
  · have hd : ¬ (t.drop k).head? = some 35 := by rw [List.drop_eq_nil_of_le (by omega)]; simp
    rw [tailR_no hd]
    unfold docF
    rw [if_neg hk]
    exact ⟨rfl, .inl ⟨rfl, rfl, rfl⟩⟩
theorem docR_eq (t : List UInt8) (k : Nat) (hk : k ≤ t.length) : (0 ≤ (docR t k).bad ∧ (restR (t.drop k)).ok = false ∧ (docR t k).bad = ((k + (restR (t.drop k)).n : Nat) : Int)) ∨
    ((docR t k).bad = -1 ∧ (restR (t.drop k)).ok = true ∧ (restR (t.drop k)).path = (docR t k).path ∧ (restR (t.drop k)).query = (docR t k).query ∧ (restR (t.drop k)).hasQ = (docR t k).hasQ ∧ (restR (t.drop k)).frag = (docR t k).frag ∧ (restR (t.drop k)).hasF = (docR t k).hasF) := by
  have hR := restR_at t k
  rw [hR]
  unfold docR
  simp only
  cases b1 : (rowEndL [63, 35] (t.drop k)).2
  · rw [if_pos rfl]
    left
    have hb : rowBadN [63, 35] (t.drop k) k (-1) = ((k + (rowEndL [63, 35] (t.drop k)).1 : Nat) : Int) := by unfold rowBadN; rw [if_pos ⟨b1, by omega⟩]
    have hq : (docQ t (k + (stopW [63, 35] (t.drop k)).length) (rowBadN [63, 35] (t.drop k) k (-1))).2.2.2 = ((k + (rowEndL [63, 35] (t.drop k)).1 : Nat) : Int) := by
      unfold docQ
      rw [hb]
      split
      · exact rowBadN_keep (by omega)
      · rfl
    rw [hq, docF_keep (by omega)]
    exact ⟨by omega, rfl, rfl⟩
  · rw [if_neg (by decide)]
    have hb : rowBadN [63, 35] (t.drop k) k (-1) = -1 := by unfold rowBadN; rw [if_neg (by rw [b1]; simp)]
    have hu := stopW_take b1
    have hul := (rowEndL_full _ _ b1).symm
    have hst := rowEndL_stop _ b1
    rw [hb, hul]
    have hP := rowEndL_le [63, 35] (t.drop k)
    rw [List.length_drop] at hP
    generalize hk1 : k + (rowEndL [63, 35] (t.drop k)).1 = k1
    rw [List.drop_drop, hk1] at hst
    by_cases hq : (t.drop k1).head? = some 63
    · have hlt := head_lt hq
      rw [tailR_yes hq]
      have hQ : docQ t k1 (-1) = (stopW [35] (t.drop (k1 + 1)), true, k1 + 1 + (stopW [35] (t.drop (k1 + 1))).length, rowBadN [35] (t.drop (k1 + 1)) (k1 + 1) (-1)) := by unfold docQ; rw [if_pos hq]
      rw [hQ]
      simp only
      cases b2 : (rowEndL [35] (t.drop (k1 + 1))).2
      · rw [if_pos rfl]
        left
        have hb2 : rowBadN [35] (t.drop (k1 + 1)) (k1 + 1) (-1) = ((k1 + 1 + (rowEndL [35] (t.drop (k1 + 1))).1 : Nat) : Int) := by unfold rowBadN; rw [if_pos ⟨b2, by omega⟩]
        rw [hb2, docF_keep (by omega)]
        refine ⟨by omega, rfl, ?_⟩
        (try dsimp only); omega
      · rw [if_neg (by decide)]
        have hb2 : rowBadN [35] (t.drop (k1 + 1)) (k1 + 1) (-1) = -1 := by unfold rowBadN; rw [if_neg (by rw [b2]; simp)]
        have hu2 := stopW_take b2
        have hul2 := (rowEndL_full _ _ b2).symm
        have hst2 := rowEndL_stop _ b2
        rw [hb2, hul2]
        have e2 : k1 + ((rowEndL [35] (t.drop (k1 + 1))).1 + 1) = k1 + 1 + (rowEndL [35] (t.drop (k1 + 1))).1 := by omega
        rw [e2]
        generalize hk2 : k1 + 1 + (rowEndL [35] (t.drop (k1 + 1))).1 = k2
        rw [List.drop_drop, hk2] at hst2
        have hF := docF_ok (t := t) (k := k2) (fun c hc => by have := hst2 c hc; simpa using this)
        obtain ⟨f1, ⟨f2, f3, f4⟩ | ⟨f2, f3⟩⟩ := hF
        · right
          exact ⟨f3, f2, hu.symm, hu2.symm, rfl, f4.symm, f1.symm⟩
        · left
          rw [f3]
          refine ⟨by omega, f2, ?_⟩
          (try dsimp only); omega
    · rw [tailR_no hq]
      have hQ : docQ t k1 (-1) = ([], false, k1, -1) := by unfold docQ; rw [if_neg hq]
      rw [hQ]
      simp only [Bool.true_eq_false, if_false, Nat.add_zero]
      have hF := docF_ok (t := t) (k := k1) (fun c hc => by
        have := hst c hc
        simp only [List.contains_cons, List.contains_nil, Bool.or_false, Bool.or_eq_true, beq_iff_eq] at this
        rcases this with e | e
        · rw [e] at hc; exact absurd hc hq
        · exact e)
      obtain ⟨f1, ⟨f2, f3, f4⟩ | ⟨f2, f3⟩⟩ := hF
      · right
        exact ⟨f3, f2, hu.symm, trivial, trivial, f4.symm, f1.symm⟩
      · left
        rw [f3]
        refine ⟨by omega, f2, ?_⟩
        (try dsimp only); omega
end Go.Proofs.YtklnopamfncfgaaGreatDoor
