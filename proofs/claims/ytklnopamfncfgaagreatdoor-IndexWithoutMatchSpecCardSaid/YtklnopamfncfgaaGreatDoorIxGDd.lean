/- A part of the proof: lemmas and contracts of functions. -/
import Derived.Test.YtklnopamfncfgaaGreatDoorIxGDc
import Derived.Test.YtklnopamfncfgaaGreatDoorIxGDa
import Derived.Test.YtklnopamfncfgaaGreatDoorIxGDb
namespace Go.Proofs.YtklnopamfncfgaaGreatDoor
open Go Go.Ab
set_option linter.unusedSectionVars false
variable [Amb]
set_option maxRecDepth 100000
set_option maxHeartbeats 4000000

theorem hex_63_35 : ∀ c : UInt8, ([63, 35] : List UInt8).contains c = true → hexC c = false := u8_all (by decide +kernel)
theorem hex_35 : ∀ c : UInt8, ([35] : List UInt8).contains c = true → hexC c = false := u8_all (by decide +kernel)
theorem hex_none : ∀ c : UInt8, ([] : List UInt8).contains c = true → hexC c = false := fun c h => by cases h
theorem restR_at (t : List UInt8) (k : Nat) : restR (t.drop k) =
    (if (rowEndL [63, 35] (t.drop k)).2 = false then ⟨false, (rowEndL [63, 35] (t.drop k)).1, (t.drop k).take (rowEndL [63, 35] (t.drop k)).1, [], false, [], false⟩
    else if (tailR 63 [35] (t.drop (k + (rowEndL [63, 35] (t.drop k)).1))).1 = false then ⟨false, (rowEndL [63, 35] (t.drop k)).1 + (tailR 63 [35] (t.drop (k + (rowEndL [63, 35] (t.drop k)).1))).2.1, (t.drop k).take (rowEndL [63, 35] (t.drop k)).1, (tailR 63 [35] (t.drop (k + (rowEndL [63, 35] (t.drop k)).1))).2.2.1, (tailR 63 [35] (t.drop (k + (rowEndL [63, 35] (t.drop k)).1))).2.2.2, [], false⟩
    else ⟨(tailR 35 [] (t.drop (k + (rowEndL [63, 35] (t.drop k)).1 + (tailR 63 [35] (t.drop (k + (rowEndL [63, 35] (t.drop k)).1))).2.1))).1,
      (rowEndL [63, 35] (t.drop k)).1 + (tailR 63 [35] (t.drop (k + (rowEndL [63, 35] (t.drop k)).1))).2.1 + (tailR 35 [] (t.drop (k + (rowEndL [63, 35] (t.drop k)).1 + (tailR 63 [35] (t.drop (k + (rowEndL [63, 35] (t.drop k)).1))).2.1))).2.1,
      (t.drop k).take (rowEndL [63, 35] (t.drop k)).1, (tailR 63 [35] (t.drop (k + (rowEndL [63, 35] (t.drop k)).1))).2.2.1, (tailR 63 [35] (t.drop (k + (rowEndL [63, 35] (t.drop k)).1))).2.2.2,
      (tailR 35 [] (t.drop (k + (rowEndL [63, 35] (t.drop k)).1 + (tailR 63 [35] (t.drop (k + (rowEndL [63, 35] (t.drop k)).1))).2.1))).2.2.1, (tailR 35 [] (t.drop (k + (rowEndL [63, 35] (t.drop k)).1 + (tailR 63 [35] (t.drop (k + (rowEndL [63, 35] (t.drop k)).1))).2.1))).2.2.2⟩) := by
  unfold restR
  simp only [List.drop_drop, Nat.add_assoc]
theorem tailR_no {c : UInt8} {w s : List UInt8} (h : ¬ s.head? = some c) : tailR c w s = (true, 0, [], false) := by unfold tailR; rw [if_neg h]
theorem tailR_yes {c : UInt8} {w t : List UInt8} {k : Nat} (h : (t.drop k).head? = some c) : tailR c w (t.drop k) = ((rowEndL w (t.drop (k + 1))).2, (rowEndL w (t.drop (k + 1))).1 + 1, (t.drop (k + 1)).take (rowEndL w (t.drop (k + 1))).1, true) := by
  unfold tailR; rw [if_pos h, List.drop_drop]
theorem head_lt {t : List UInt8} {k : Nat} {c : UInt8} (h : (t.drop k).head? = some c) : k < t.length := by
  by_cases hk : k < t.length
  · exact hk
  · rw [List.drop_eq_nil_of_le (by omega)] at h; cases h
theorem reader_rest (t : List UInt8) (k : Nat) (sc ho po : List UInt8) (ht : t.length ≤ 2000) (hk : k ≤ t.length) :
    ACallsM Tryz.prog 77 [.box (rdRow t k ⟨sc, ho, po, [], [], false, [], false⟩)] (.x (.one (.bool (restR (t.drop k)).ok)))
      [.box (rdRow t (k + (restR (t.drop k)).n) ⟨sc, ho, po, (restR (t.drop k)).path, (restR (t.drop k)).query, (restR (t.drop k)).hasQ, (restR (t.drop k)).frag, (restR (t.drop k)).hasF⟩)] := by
  have hR := restR_at t k
  obtain ⟨R, eR⟩ : ∃ R, R = restR (t.drop k) := ⟨_, rfl⟩
  rw [← eR] at hR ⊢
  have hr1 := reader_row t [63, 35] k ⟨sc, ho, po, [], [], false, [], false⟩ ht hk hex_63_35
  have hP := rowEndL_le [63, 35] (t.drop k)
  obtain ⟨P, eP⟩ : ∃ P, P = rowEndL [63, 35] (t.drop k) := ⟨_, rfl⟩
  obtain ⟨pa, epa⟩ : ∃ pa, pa = (t.drop k).take P.1 := ⟨_, rfl⟩
  obtain ⟨k1, ek1⟩ : ∃ k1, k1 = k + P.1 := ⟨_, rfl⟩
  rw [← eP, ← ek1, ← epa] at hR hr1
  rw [← eP, List.length_drop] at hP
  simp only [rdRow, Addr.row] at hr1
  have hk1 : k1 ≤ t.length := by omega
  have g1 : ((k1 : Int) ≤ (t.length : Int)) = True := eq_true (by omega)
  have g1' : (k1 ≤ t.length) = True := eq_true (by omega)
  have hpre := hasPre_head (t.drop k1) 63
  clear eP eR epa
  cases bP : P.2
  · rw [if_pos bP] at hR
    refine ACallsM.of mixed (fn := Tryz.f77) (by kernel_rfl) (by kernel_rfl) rfl (by kernel_rfl) (by kernel_rfl) rfl (by simp [Tryz.f77]) (fun hok => ?_)
    simp -implicitDefEqProofs [rdRow, Addr.row]
    refine ACallM.of hr1 ?_
    rw [bP]
    simp -implicitDefEqProofs [hR, rdRow, Addr.row, ek1]
  rw [if_neg (by simp [bP])] at hR
  by_cases hq : (t.drop k1).head? = some 63
  rotate_left
  · have hqd : decide ((t.drop k1).head? = some 63) = false := by simpa using hq
    rw [hqd] at hpre
    rw [tailR_no hq] at hR
    simp only [Bool.true_eq_false, if_false, Nat.add_zero] at hR
    have hpf := hasPre_head (t.drop k1) 35
    refine ACallsM.of mixed (fn := Tryz.f77) (by kernel_rfl) (by kernel_rfl) rfl (by kernel_rfl) (by kernel_rfl) rfl (by simp [Tryz.f77]) (fun hok => ?_)
    simp -implicitDefEqProofs [rdRow, Addr.row]
    refine ACallM.of hr1 ?_
    rw [bP]
    simp -implicitDefEqProofs [g1, g1']
    refine ACallK.of (strings_HasPrefix (t.drop k1) [63]) ?_
    rw [hpre]
    by_cases hf : (t.drop k1).head? = some 35
    rotate_left
    · have hfd : decide ((t.drop k1).head? = some 35) = false := by simpa using hf
      rw [hfd] at hpf
      rw [tailR_no hf] at hR
      simp -implicitDefEqProofs [g1, g1']
      refine ACallK.of (strings_HasPrefix (t.drop k1) [35]) ?_
      rw [hpf]
      simp -implicitDefEqProofs [hR, rdRow, Addr.row, ek1]
    have hfd : decide ((t.drop k1).head? = some 35) = true := by simpa using hf
    rw [hfd] at hpf
    rw [tailR_yes hf] at hR
    have hlf := head_lt hf
    obtain ⟨m, em⟩ : ∃ m, m = k1 + 1 := ⟨_, rfl⟩
    have hr3 := reader_row t [] m ⟨sc, ho, po, pa, [], false, [], true⟩ ht (by omega) hex_none
    rw [← em] at hR
    have wm : IntKind.i64.wrap ((k1 : Int) + 1) = (m : Int) := by rw [wrapS _ (by omega)]; omega
    obtain ⟨F, eF⟩ : ∃ F, F = rowEndL [] (t.drop m) := ⟨_, rfl⟩
    rw [← eF] at hR hr3
    simp only [rdRow, Addr.row] at hr3
    simp -implicitDefEqProofs [g1, g1']
    refine ACallK.of (strings_HasPrefix (t.drop k1) [35]) ?_
    rw [hpf]
    simp -implicitDefEqProofs [wm]
    refine ACallM.of hr3 ?_
    cases bF : F.2
    · have hm2 : m + F.1 = k + R.n := by rw [hR]; simp only; omega
      simp -implicitDefEqProofs [hR, rdRow, Addr.row, bF]
      first | done | (rw [hR] at hm2; omega)
    · have hm2 : m + F.1 = k + R.n := by rw [hR]; simp only; omega
      simp -implicitDefEqProofs [hR, rdRow, Addr.row, bF]
      first | done | (rw [hR] at hm2; omega)
  have hqd : decide ((t.drop k1).head? = some 63) = true := by simpa using hq
  rw [hqd] at hpre
  rw [tailR_yes hq] at hR
  have hlq := head_lt hq
  obtain ⟨j, ej⟩ : ∃ j, j = k1 + 1 := ⟨_, rfl⟩
  have hr2 := reader_row t [35] j ⟨sc, ho, po, pa, [], true, [], false⟩ ht (by omega) hex_35
  rw [← ej] at hR
  have wj : IntKind.i64.wrap ((k1 : Int) + 1) = (j : Int) := by rw [wrapS _ (by omega)]; omega
  have hQ := rowEndL_le [35] (t.drop j)
  obtain ⟨Q, eQ⟩ : ∃ Q, Q = rowEndL [35] (t.drop j) := ⟨_, rfl⟩
  obtain ⟨qu, equ⟩ : ∃ qu, qu = (t.drop j).take Q.1 := ⟨_, rfl⟩
  obtain ⟨k2, ek2⟩ : ∃ k2, k2 = j + Q.1 := ⟨_, rfl⟩
  rw [← eQ] at hR hr2
  rw [← equ, ← ek2] at hr2
  rw [← equ] at hR
  rw [← eQ, List.length_drop] at hQ
  have hk2 : k2 ≤ t.length := by omega
  have g2 : ((k2 : Int) ≤ (t.length : Int)) = True := eq_true (by omega)
  have g2' : (k2 ≤ t.length) = True := eq_true (by omega)
  simp only [rdRow, Addr.row] at hr2
  clear eQ equ
  refine ACallsM.of mixed (fn := Tryz.f77) (by kernel_rfl) (by kernel_rfl) rfl (by kernel_rfl) (by kernel_rfl) rfl (by simp [Tryz.f77]) (fun hok => ?_)
  simp -implicitDefEqProofs [rdRow, Addr.row]
  refine ACallM.of hr1 ?_
  rw [bP]
  simp -implicitDefEqProofs [g1, g1']
  refine ACallK.of (strings_HasPrefix (t.drop k1) [63]) ?_
  rw [hpre]
  simp -implicitDefEqProofs [wj]
  refine ACallM.of hr2 ?_
  cases bQ : Q.2
  · rw [if_pos bQ] at hR
    have hm2 : k2 = k + R.n := by rw [hR]; simp only; omega
    simp -implicitDefEqProofs [hR, rdRow, Addr.row, bQ]
    first | done | (rw [hR] at hm2; omega)
  · rw [if_neg (by simp [bQ])] at hR
    simp only at hR
    have hk2n : k1 + (Q.1 + 1) = k2 := by omega
    have hk2m : k + (P.1 + (Q.1 + 1)) = k2 := by omega
    rw [hk2n] at hR
    have hpf := hasPre_head (t.drop k2) 35
    by_cases hf : (t.drop k2).head? = some 35
    rotate_left
    · have hfd : decide ((t.drop k2).head? = some 35) = false := by simpa using hf
      rw [hfd] at hpf
      rw [tailR_no hf] at hR
      simp -implicitDefEqProofs [g2, g2']
      refine ACallK.of (strings_HasPrefix (t.drop k2) [35]) ?_
      rw [hpf]
      simp -implicitDefEqProofs [hR, rdRow, Addr.row, hk2n]
      omega
    have hfd : decide ((t.drop k2).head? = some 35) = true := by simpa using hf
    rw [hfd] at hpf
    rw [tailR_yes hf] at hR
    have hlf := head_lt hf
    obtain ⟨m, em⟩ : ∃ m, m = k2 + 1 := ⟨_, rfl⟩
    have hr3 := reader_row t [] m ⟨sc, ho, po, pa, qu, true, [], true⟩ ht (by omega) hex_none
    rw [← em] at hR
    have wm : IntKind.i64.wrap ((k2 : Int) + 1) = (m : Int) := by rw [wrapS _ (by omega)]; omega
    obtain ⟨F, eF⟩ : ∃ F, F = rowEndL [] (t.drop m) := ⟨_, rfl⟩
    rw [← eF] at hR hr3
    simp only [rdRow, Addr.row] at hr3
    simp -implicitDefEqProofs [g2, g2']
    refine ACallK.of (strings_HasPrefix (t.drop k2) [35]) ?_
    rw [hpf]
    simp -implicitDefEqProofs [wm]
    refine ACallM.of hr3 ?_
    cases bF : F.2
    · have hm2 : m + F.1 = k + R.n := by rw [hR]; simp only; omega
      simp -implicitDefEqProofs [hR, rdRow, Addr.row, bF]
      first | done | (rw [hR] at hm2; omega)
    · have hm2 : m + F.1 = k + R.n := by rw [hR]; simp only; omega
      simp -implicitDefEqProofs [hR, rdRow, Addr.row, bF]
      first | done | (rw [hR] at hm2; omega)
end Go.Proofs.YtklnopamfncfgaaGreatDoor
namespace Go.Proofs.YtklnopamfncfgaaGreatDoor
open Go Go.Ab
set_option linter.unusedSectionVars false
variable [Amb]
set_option maxRecDepth 100000
set_option maxHeartbeats 4000000

theorem cut_one_at {s : List UInt8} {i : Nat} (h : i < s.length) : cutAt s (i : Int) ((i : Int) + 1) = [s[i]] := by
  rw [show ((i : Int) + 1) = ((i + 1 : Nat) : Int) from by omega, cut_nat, List.drop_eq_getElem_cons h]
  rw [show i + 1 - i = 1 from by omega]; rfl
theorem small_one (c : UInt8) : smallL [c] = [smallC c] := rfl
/-- What the reading of a scheme answers. -/
def schX (t : List UInt8) : List UInt8 × Nat × Bool := match schemeR t with
  | .ok n => (t.take n, n + 3, true)
  | .error k => ([], k, false)
def w1L : List UInt8 := [104, 116, 116, 112, 58, 47, 47]
def w2L : List UInt8 := [104, 116, 116, 112, 115, 58, 47, 47]
theorem schX_by (t : List UInt8) : schX t = if comL w1L t = 7 then (t.take 4, 7, true) else if comL w2L t = 8 then (t.take 5, 8, true) else ([], max (comL w1L t) (comL w2L t), false) := by
  have h1 : httpL ++ [58, 47, 47] = w1L := rfl
  have h2 : httpsL ++ [58, 47, 47] = w2L := rfl
  unfold schX schemeR
  rw [h1, h2]
  split
  · rename_i n h
    split at h
    · rename_i h7; injection h with h; subst h; rw [if_pos h7]
    · rename_i h7
      split at h
      · rename_i h8; injection h with h; subst h; rw [if_neg h7, if_pos h8]
      · cases h
  · rename_i n h
    split at h
    · cases h
    · rename_i h7
      split at h
      · cases h
      · rename_i h8; injection h with h; subst h; rw [if_neg h7, if_neg h8]
theorem address_scheme (t : List UInt8) (ht : t.length ≤ 4000000000000000) : ACalls Tryz.prog 75 [.one (.str t)] (.tup [.one (.str (schX t).1), .one (.int .i64 (schX t).2.1), .one (.bool (schX t).2.2)]) := by
  have hX := schX_by t
  obtain ⟨X, eX⟩ : ∃ X, X = schX t := ⟨_, rfl⟩
  rw [← eX] at hX ⊢
  clear eX
  obtain ⟨c1, ec1⟩ : ∃ c, c = comL w1L t := ⟨_, rfl⟩
  obtain ⟨c2, ec2⟩ : ∃ c, c = comL w2L t := ⟨_, rfl⟩
  rw [← ec1, ← ec2] at hX
  have W1 : IntKind.i64.wrap 1 = 1 := wrapS _ (by omega)
  have W2 : IntKind.i64.wrap 2 = 2 := wrapS _ (by omega)
  have W4 : IntKind.i64.wrap 4 = 4 := wrapS _ (by omega)
  have W5 : IntKind.i64.wrap 5 = 5 := wrapS _ (by omega)
  refine ACalls.of mixed (fn := Tryz.f75) (by kernel_rfl) (by kernel_rfl) rfl (by kernel_rfl) (by simp [Tryz.f75]) (fun hok => ?_)
  simp -implicitDefEqProofs
  refine ALoopS.of Nat (fun i => [(0, .x (.one (.str t))), (3, .x (.one (.int .i64 ((if i = 0 then 0 else if i = 1 then c1 else max c1 c2 : Nat) : Int)))), (8, .own 9 1 [[.str [104, 116, 116, 112, 58, 47, 47]], [.str [104, 116, 116, 112, 115, 58, 47, 47]]]), (9, .x (.one (.int .i64 2))), (10, .x (.one (.int .i64 i)))])
    (fun i => i = 0 ∨ (i = 1 ∧ c1 ≠ 7) ∨ (i = 2 ∧ c1 ≠ 7 ∧ c2 ≠ 8)) (fun i => 2 - i) 0 (.inl rfl) ?_ ?_
  · simp
  rintro i (rfl | ⟨rfl, n1⟩ | ⟨rfl, n1, n2⟩)
  · obtain ⟨u, eu⟩ : ∃ u, u = w1L := ⟨_, rfl⟩
    have hul : u.length = 7 := by rw [eu]; rfl
    rw [← eu] at ec1
    obtain ⟨a, ea⟩ : ∃ a : Nat, a = 0 := ⟨_, rfl⟩
    simp -implicitDefEqProofs
    refine ALoopS.of Nat (fun n => [(0, .x (.one (.str t))), (3, .x (.one (.int .i64 a))), (6, .x (.one (.str u))), (7, .x (.one (.int .i64 n))), (8, .own 9 1 [[.str [104, 116, 116, 112, 58, 47, 47]], [.str [104, 116, 116, 112, 115, 58, 47, 47]]]), (9, .x (.one (.int .i64 2))), (10, .x (.one (.int .i64 0)))])
      (ComAt u t) (fun n => u.length - n) 0 (ComAt.zero u t) ?_ ?_
    · simp [eu, ea, w1L]
    intro n hn
    have hle := hn.le
    have hle2 := hn.le2
    have w1 : IntKind.i64.wrap ((n : Int) + 1) = (n : Int) + 1 := wrapS _ (by omega)
    by_cases hu : n < u.length
    rotate_left
    · obtain ⟨hf, hnu⟩ := hn.full hu
      rw [← ec1, hul] at hf
      rw [hul] at hnu
      subst hnu
      have f1 : ((7 : Int) < (u.length : Int)) = False := eq_false (by omega)
      have f2 : ((7 : Int) = (u.length : Int)) = True := eq_true (by omega)
      have f3 : ((7 : Int) ≤ (t.length : Int)) = True := eq_true (by omega)
      have f4 : ((7 - 3 : Int) ≤ (t.length : Int)) = True := eq_true (by omega)
      rw [if_pos hf] at hX
      simp -implicitDefEqProofs [hul, f1]
      refine ACallGS.of (fun h => by cases h) (r := .x (.one (.str []))) rfl ?_
      simp -implicitDefEqProofs [hul, f1, f2, f3, f4, hX, W4, W5]
      try omega
    have hu' : ((n : Int) < (u.length : Int)) = True := eq_true (by omega)
    have hne : ((n : Int) = (u.length : Int)) = False := eq_false (by omega)
    by_cases hx : ∃ h : n < t.length, smallC t[n] = u[n]
    · obtain ⟨hlt, he⟩ := hx
      have hlt' : ((n : Int) < (t.length : Int)) = True := eq_true (by omega)
      have hlt2 : ((n : Int) ≤ (t.length : Int)) = True := eq_true (by omega)
      have hlt3 : ((n : Int) + 1 ≤ (t.length : Int)) = True := eq_true (by omega)
      have hlt4 : ((n : Int) + 1 ≤ (u.length : Int)) = True := eq_true (by omega)
      have q1 := cut_one_at hlt
      have q2 := cut_one_at hu
      have q3 : ((n : Int) ≤ (n : Int) + 1) = True := eq_true (by omega)
      have hsm := address_Small [t[n]]
      rw [small_one, he] at hsm
      simp -implicitDefEqProofs [hu', hlt', w1, hlt2, hlt3, hlt4, q1, q2, q3]
      refine ACallGS.of (fun _ => hsm) rfl ?_
      simp -implicitDefEqProofs [hu', hlt', w1, hlt2, hlt3, hlt4, q1, q2, q3]
      refine Again.of (n + 1) (hn.step hu hlt he) (by omega) (by simp [w1])
    have hcn : c1 = n := by
      rw [ec1]
      by_cases h : n < t.length
      · exact hn.miss hu h (fun he => hx ⟨h, he⟩)
      · exact hn.short h
    have K : (∃ h : n < t.length, ¬ smallC t[n] = u[n]) ∨ ¬ n < t.length := by
      by_cases h : n < t.length
      · exact .inl ⟨h, fun he => hx ⟨h, he⟩⟩
      · exact .inr h
    rcases K with ⟨hlt, he⟩ | hlt
    · have hlt' : ((n : Int) < (t.length : Int)) = True := eq_true (by omega)
      have hlt2 : ((n : Int) ≤ (t.length : Int)) = True := eq_true (by omega)
      have hlt3 : ((n : Int) + 1 ≤ (t.length : Int)) = True := eq_true (by omega)
      have hlt4 : ((n : Int) + 1 ≤ (u.length : Int)) = True := eq_true (by omega)
      have q1 := cut_one_at hlt
      have q2 := cut_one_at hu
      have q3 : ((n : Int) ≤ (n : Int) + 1) = True := eq_true (by omega)
      have hsm := address_Small [t[n]]
      rw [small_one] at hsm
      have he' : (smallC t[n] = u[n]) = False := eq_false he
      have he2 : (smallC t[n] == u[n]) = false := by rw [beq_eq_false_iff_ne]; exact he
      simp -implicitDefEqProofs [hu', hlt', w1, hlt2, hlt3, hlt4, q1, q2, q3]
      refine ACallGS.of (fun _ => hsm) rfl ?_
      simp -implicitDefEqProofs [hu', hlt', w1, hlt2, hlt3, hlt4, q1, q2, q3, he', he2, hne]
      refine Again.of 1 (.inr (.inl ⟨rfl, by omega⟩)) (by omega) ?_
      simp [ea, hcn, W1, W2]
      try omega
    · have hlt' : ((n : Int) < (t.length : Int)) = False := eq_false (by omega)
      simp -implicitDefEqProofs [hu', hlt']
      refine ACallGS.of (fun h => by cases h) (r := .x (.one (.str []))) rfl ?_
      simp -implicitDefEqProofs [hu', hlt', hne]
      refine Again.of 1 (.inr (.inl ⟨rfl, by omega⟩)) (by omega) ?_
      simp [ea, hcn, W1, W2]
      try omega
  · obtain ⟨u, eu⟩ : ∃ u, u = w2L := ⟨_, rfl⟩
    have hul : u.length = 8 := by rw [eu]; rfl
    rw [← eu] at ec2
    obtain ⟨a, ea⟩ : ∃ a : Nat, a = c1 := ⟨_, rfl⟩
    simp -implicitDefEqProofs
    refine ALoopS.of Nat (fun n => [(0, .x (.one (.str t))), (3, .x (.one (.int .i64 a))), (6, .x (.one (.str u))), (7, .x (.one (.int .i64 n))), (8, .own 9 1 [[.str [104, 116, 116, 112, 58, 47, 47]], [.str [104, 116, 116, 112, 115, 58, 47, 47]]]), (9, .x (.one (.int .i64 2))), (10, .x (.one (.int .i64 1)))])
      (ComAt u t) (fun n => u.length - n) 0 (ComAt.zero u t) ?_ ?_
    · simp [eu, ea, w2L]
    intro n hn
    have hle := hn.le
    have hle2 := hn.le2
    have w1 : IntKind.i64.wrap ((n : Int) + 1) = (n : Int) + 1 := wrapS _ (by omega)
    by_cases hu : n < u.length
    rotate_left
    · obtain ⟨hf, hnu⟩ := hn.full hu
      rw [← ec2, hul] at hf
      rw [hul] at hnu
      subst hnu
      have f1 : ((8 : Int) < (u.length : Int)) = False := eq_false (by omega)
      have f2 : ((8 : Int) = (u.length : Int)) = True := eq_true (by omega)
      have f3 : ((8 : Int) ≤ (t.length : Int)) = True := eq_true (by omega)
      have f4 : ((8 - 3 : Int) ≤ (t.length : Int)) = True := eq_true (by omega)
      rw [if_neg n1, if_pos hf] at hX
      simp -implicitDefEqProofs [hul, f1]
      refine ACallGS.of (fun h => by cases h) (r := .x (.one (.str []))) rfl ?_
      simp -implicitDefEqProofs [hul, f1, f2, f3, f4, hX, W4, W5]
      try omega
    have hu' : ((n : Int) < (u.length : Int)) = True := eq_true (by omega)
    have hne : ((n : Int) = (u.length : Int)) = False := eq_false (by omega)
    by_cases hx : ∃ h : n < t.length, smallC t[n] = u[n]
    · obtain ⟨hlt, he⟩ := hx
      have hlt' : ((n : Int) < (t.length : Int)) = True := eq_true (by omega)
      have hlt2 : ((n : Int) ≤ (t.length : Int)) = True := eq_true (by omega)
      have hlt3 : ((n : Int) + 1 ≤ (t.length : Int)) = True := eq_true (by omega)
      have hlt4 : ((n : Int) + 1 ≤ (u.length : Int)) = True := eq_true (by omega)
      have q1 := cut_one_at hlt
      have q2 := cut_one_at hu
      have q3 : ((n : Int) ≤ (n : Int) + 1) = True := eq_true (by omega)
      have hsm := address_Small [t[n]]
      rw [small_one, he] at hsm
      simp -implicitDefEqProofs [hu', hlt', w1, hlt2, hlt3, hlt4, q1, q2, q3]
      refine ACallGS.of (fun _ => hsm) rfl ?_
      simp -implicitDefEqProofs [hu', hlt', w1, hlt2, hlt3, hlt4, q1, q2, q3]
      refine Again.of (n + 1) (hn.step hu hlt he) (by omega) (by simp [w1])
    have hcn : c2 = n := by
      rw [ec2]
      by_cases h : n < t.length
      · exact hn.miss hu h (fun he => hx ⟨h, he⟩)
      · exact hn.short h
    have K : (∃ h : n < t.length, ¬ smallC t[n] = u[n]) ∨ ¬ n < t.length := by
      by_cases h : n < t.length
      · exact .inl ⟨h, fun he => hx ⟨h, he⟩⟩
      · exact .inr h
    rcases K with ⟨hlt, he⟩ | hlt
    · have hlt' : ((n : Int) < (t.length : Int)) = True := eq_true (by omega)
      have hlt2 : ((n : Int) ≤ (t.length : Int)) = True := eq_true (by omega)
      have hlt3 : ((n : Int) + 1 ≤ (t.length : Int)) = True := eq_true (by omega)
      have hlt4 : ((n : Int) + 1 ≤ (u.length : Int)) = True := eq_true (by omega)
      have q1 := cut_one_at hlt
      have q2 := cut_one_at hu
      have q3 : ((n : Int) ≤ (n : Int) + 1) = True := eq_true (by omega)
      have hsm := address_Small [t[n]]
      rw [small_one] at hsm
      have he' : (smallC t[n] = u[n]) = False := eq_false he
      have he2 : (smallC t[n] == u[n]) = false := by rw [beq_eq_false_iff_ne]; exact he
      simp -implicitDefEqProofs [hu', hlt', w1, hlt2, hlt3, hlt4, q1, q2, q3]
      refine ACallGS.of (fun _ => hsm) rfl ?_
      simp -implicitDefEqProofs [hu', hlt', w1, hlt2, hlt3, hlt4, q1, q2, q3, he', he2, hne]
      refine Again.of 2 (.inr (.inr ⟨rfl, n1, by omega⟩)) (by omega) ?_
      simp [ea, hcn, W1, W2]
      try omega
    · have hlt' : ((n : Int) < (t.length : Int)) = False := eq_false (by omega)
      simp -implicitDefEqProofs [hu', hlt']
      refine ACallGS.of (fun h => by cases h) (r := .x (.one (.str []))) rfl ?_
      simp -implicitDefEqProofs [hu', hlt', hne]
      refine Again.of 2 (.inr (.inr ⟨rfl, n1, by omega⟩)) (by omega) ?_
      simp [ea, hcn, W1, W2]
      try omega
  · rw [if_neg n1, if_neg n2] at hX
    simp -implicitDefEqProofs [hX]
end Go.Proofs.YtklnopamfncfgaaGreatDoor
namespace Go.Proofs.YtklnopamfncfgaaGreatDoor
open Go Go.Ab
set_option linter.unusedSectionVars false
variable [Amb]
set_option maxRecDepth 100000
set_option maxHeartbeats 4000000

theorem placeR_le (s : List UInt8) : (placeR s).2.1 ≤ s.length := by
  rw [placeR_eq]
  have h1 := takeWhile_len_le hostC s
  split
  · simp
  split
  · rename_i h58
    have hl := head_lt h58
    have h2 := takeWhile_len_le isDig (s.drop ((s.takeWhile hostC).length + 1))
    rw [List.length_drop] at h2
    split <;> simp only <;> omega
  · simpa using h1
theorem schemeR_le {t : List UInt8} {n : Nat} (h : schemeR t = .ok n) : n + 3 ≤ t.length := by
  unfold schemeR at h
  have h1 := (comL_le (httpL ++ [58, 47, 47]) t).2
  have h2 := (comL_le (httpsL ++ [58, 47, 47]) t).2
  split at h
  · injection h; omega
  · split at h
    · injection h; omega
    · cases h
theorem address_Read (t : List UInt8) : ACalls Tryz.prog 32 [.one (.str t)] (.tup [.agg (readAR t).1.row, .one (.int .i64 (readAR t).2.1), .one (.int .i64 (readAR t).2.2)]) := by
  obtain ⟨X, eX⟩ : ∃ X, X = readAR t := ⟨_, rfl⟩
  rw [← eX]
  unfold readAR at eX
  refine ACalls.of mixed (fn := Tryz.f32) (by kernel_rfl) (by kernel_rfl) rfl (by kernel_rfl) (by simp [Tryz.f32]) (fun hok => ?_)
  by_cases hl : 2000 < t.length
  · rw [if_pos hl] at eX
    have hl' : (2000 < (t.length : Int)) = True := eq_true (by omega)
    subst eX
    simp -implicitDefEqProofs [hl, hl', noAddr, Addr.row]
  rw [if_neg hl] at eX
  have hl' : (2000 < (t.length : Int)) = False := eq_false (by omega)
  have hsc := address_scheme t (by omega)
  unfold readA at eX
  simp -implicitDefEqProofs [hl, hl']
  refine ACallK.of hsc ?_
  cases hs : schemeR t with
  | error k =>
    have hX : schX t = ([], k, false) := by unfold schX; rw [hs]
    rw [hX]
    rw [hs] at eX
    subst eX
    simp -implicitDefEqProofs [noAddr, Addr.row]
  | ok n =>
    have hX : schX t = (t.take n, n + 3, true) := by unfold schX; rw [hs]
    have hn := schemeR_le hs
    rw [hX]
    rw [hs] at eX
    obtain ⟨k, ek⟩ : ∃ k, k = n + 3 := ⟨_, rfl⟩
    obtain ⟨sc, esc⟩ : ∃ sc, sc = t.take n := ⟨_, rfl⟩
    simp only [← ek, ← esc] at eX ⊢
    have hp := reader_place t k ⟨sc, [], [], [], [], false, [], false⟩ (by omega) (by omega) rfl
    have hpl := placeR_le (t.drop k)
    obtain ⟨P, eP⟩ : ∃ P, P = placeR (t.drop k) := ⟨_, rfl⟩
    rw [← eP] at eX hp hpl
    rw [List.length_drop] at hpl
    obtain ⟨m, em⟩ : ∃ m, m = k + P.2.1 := ⟨_, rfl⟩
    simp only [rdRow, Addr.row, ← em, List.drop_drop] at eX hp
    have hr := reader_rest t m sc P.2.2.1 P.2.2.2 (by omega) (by omega)
    simp only [rdRow, Addr.row] at hr
    obtain ⟨R, eR⟩ : ∃ R, R = restR (t.drop m) := ⟨_, rfl⟩
    rw [← eR] at eX hr
    simp -implicitDefEqProofs
    refine ACallM.of hp ?_
    cases b : P.1
    · rw [b] at eX
      simp only [if_true] at eX
      subst eX
      simp -implicitDefEqProofs [noAddr, Addr.row]
      refine AltR.r ⟨[26], by kernel_rfl, ?_⟩
      simp -implicitDefEqProofs
      rfl
    · rw [b] at eX
      simp only [Bool.true_eq_false, if_false] at eX
      simp -implicitDefEqProofs
      refine ACallM.of hr ?_
      cases bR : R.ok
      · rw [bR] at eX
        simp only [if_true] at eX
        subst eX
        simp -implicitDefEqProofs [noAddr, Addr.row]
        refine AltR.r ⟨[26], by kernel_rfl, ?_⟩
        simp -implicitDefEqProofs [em]
        rfl
      · rw [bR] at eX
        simp only [Bool.true_eq_false, if_false] at eX
        subst eX
        simp -implicitDefEqProofs [noAddr, Addr.row]
end Go.Proofs.YtklnopamfncfgaaGreatDoor
namespace Go.Proofs.YtklnopamfncfgaaGreatDoor

/-! ### The calendar, in plain numbers -/
def leapI (y : Int) : Bool := decide (y % 4 = 0) && (decide (y % 100 ≠ 0) || decide (y % 400 = 0))
/-- Days before January 1st of a year, from 1970 on. -/
def dY (y : Int) : Int := 365 * (y - 1) + (y - 1) / 4 - (y - 1) / 100 + (y - 1) / 400 - 719162
def yLen (y : Int) : Int := if leapI y = true then 366 else 365
def mLen (y m : Int) : Int := if m = 4 ∨ m = 6 ∨ m = 9 ∨ m = 11 then 30 else if m = 2 then (if leapI y = true then 29 else 28) else 31
/-- Days before the first one of a month. -/
def dMN (y : Int) : Nat → Int
  | 0 => 0
  | n + 1 => if n = 0 then 0 else dMN y n + mLen y n
def dM (y m : Int) : Int := dMN y m.toNat
theorem dY_step (y : Int) : dY (y + 1) = dY y + yLen y := by
  unfold dY yLen leapI
  simp only [Bool.and_eq_true, Bool.or_eq_true, decide_eq_true_eq]
  split <;> omega
theorem yLen_pos (y : Int) : 365 ≤ yLen y ∧ yLen y ≤ 366 := by unfold yLen; split <;> omega
theorem dM_one (y : Int) : dM y 1 = 0 := rfl
theorem dM_step (y m : Int) (h : 1 ≤ m) : dM y (m + 1) = dM y m + mLen y m := by
  unfold dM
  obtain ⟨n, rfl⟩ : ∃ n : Nat, m = (n : Int) + 1 := ⟨(m - 1).toNat, by omega⟩
  have e1 : ((n : Int) + 1 + 1).toNat = n + 2 := by omega
  have e2 : ((n : Int) + 1).toNat = n + 1 := by omega
  rw [e1, e2]
  show (if n + 1 = 0 then 0 else dMN y (n + 1) + mLen y ((n + 1 : Nat) : Int)) = _
  rw [if_neg (by omega)]
  congr 1
theorem mLen_pos (y m : Int) : 28 ≤ mLen y m ∧ mLen y m ≤ 31 := by unfold mLen; repeat' split <;> omega
theorem dM_year (y : Int) : dM y 13 = yLen y := by
  have h := fun m h => dM_step y m h
  have h1 := h 1 (by omega); have h2 := h 2 (by omega); have h3 := h 3 (by omega); have h4 := h 4 (by omega); have h5 := h 5 (by omega); have h6 := h 6 (by omega)
  have h7 := h 7 (by omega); have h8 := h 8 (by omega); have h9 := h 9 (by omega); have h10 := h 10 (by omega); have h11 := h 11 (by omega); have h12 := h 12 (by omega)
  simp only [mLen, Int.reduceAdd] at h1 h2 h3 h4 h5 h6 h7 h8 h9 h10 h11 h12
  rw [dM_one] at h1
  unfold yLen
  cases hl : leapI y <;> simp [hl] at * <;> omega
theorem dM_mono (y : Int) {a b : Int} (ha : 1 ≤ a) (h : a ≤ b) : dM y a ≤ dM y b := by
  obtain ⟨n, rfl⟩ : ∃ n : Nat, b = a + n := ⟨(b - a).toNat, by omega⟩
  clear h
  induction n with
  | zero => simp
  | succ n ih =>
    have := dM_step y (a + n) (by omega)
    have := mLen_pos y (a + n)
    rw [show a + ((n + 1 : Nat) : Int) = a + n + 1 by omega]
    omega
theorem dY_mono {a b : Int} (h : a ≤ b) : dY a ≤ dY b := by
  obtain ⟨n, rfl⟩ : ∃ n : Nat, b = a + n := ⟨(b - a).toNat, by omega⟩
  clear h
  induction n with
  | zero => simp
  | succ n ih =>
    have := dY_step (a + n)
    have := yLen_pos (a + n)
    rw [show a + ((n + 1 : Nat) : Int) = a + n + 1 by omega]
    omega

/-- A day by the calendar. -/
structure IsCiv (day y m d : Int) : Prop where
  y0 : 1970 ≤ y
  lo : dY y ≤ day
  hi : day < dY (y + 1)
  m0 : 1 ≤ m
  m1 : m ≤ 12
  ml : dY y + dM y m ≤ day
  mh : day < dY y + dM y (m + 1)
  dd : d = day - dY y - dM y m + 1
theorem IsCiv.d {day y m d : Int} (h : IsCiv day y m d) : 1 ≤ d ∧ d ≤ mLen y m := by
  have := dM_step y m h.m0; have := h.ml; have := h.mh; have := h.dd
  omega
theorem IsCiv.year {day y m d : Int} (h : IsCiv day y m d) {z : Int} (h1 : dY z ≤ day) (h2 : day < dY (z + 1)) : z = y := by
  have a1 := h.lo; have a2 := h.hi
  by_cases hz : z = y
  · exact hz
  · rcases Int.lt_or_lt_of_ne hz with hlt | hlt
    · have := dY_mono (a := z + 1) (b := y) (by omega); omega
    · have := dY_mono (a := y + 1) (b := z) (by omega); omega
theorem IsCiv.month {day y m d : Int} (h : IsCiv day y m d) {n : Int} (h0 : 1 ≤ n) (h1 : dY y + dM y n ≤ day) (h2 : day < dY y + dM y (n + 1)) : n = m := by
  have a1 := h.ml; have a2 := h.mh
  have := h.m0
  by_cases hz : n = m
  · exact hz
  · rcases Int.lt_or_lt_of_ne hz with hlt | hlt
    · have := dM_mono y (a := n + 1) (b := m) (by omega) (by omega); omega
    · have := dM_mono y (a := m + 1) (b := n) (by omega) (by omega); omega
theorem IsCiv.unique {day y m d z n e : Int} (h : IsCiv day y m d) (k : IsCiv day z n e) : z = y ∧ n = m ∧ e = d := by
  have h1 := h.year k.lo k.hi
  subst h1
  have h2 := h.month k.m0 k.ml k.mh
  subst h2
  exact ⟨rfl, rfl, k.dd.trans h.dd.symm⟩
def yearN : Nat → Int
  | 0 => 1970
  | n + 1 => if ((n + 1 : Nat) : Int) < dY (yearN n + 1) then yearN n else yearN n + 1
theorem yearN_ok (n : Nat) : 1970 ≤ yearN n ∧ dY (yearN n) ≤ n ∧ (n : Int) < dY (yearN n + 1) := by
  induction n with
  | zero => exact ⟨by decide, by decide, by decide⟩
  | succ n ih =>
    obtain ⟨h0, h1, h2⟩ := ih
    unfold yearN
    split
    · rename_i h
      exact ⟨h0, by omega, h⟩
    · have := dY_step (yearN n + 1)
      have := yLen_pos (yearN n + 1)
      exact ⟨by omega, by omega, by omega⟩
theorem civ_month (y r : Int) (h0 : 0 ≤ r) (h1 : r < yLen y) : ∃ m, 1 ≤ m ∧ m ≤ 12 ∧ dM y m ≤ r ∧ r < dM y (m + 1) := by
  have key : ∀ n : Nat, n ≤ 11 → (∃ m, 1 ≤ m ∧ m ≤ 12 ∧ dM y m ≤ r ∧ r < dM y (m + 1)) ∨ dM y ((n : Int) + 2) ≤ r := by
    intro n
    induction n with
    | zero =>
      intro _
      by_cases h : r < dM y 2
      · exact .inl ⟨1, by omega, by omega, by rw [dM_one]; exact h0, h⟩
      · exact .inr (by simpa using h)
    | succ n ih =>
      intro hn
      rcases ih (by omega) with h | h
      · exact .inl h
      · by_cases h' : r < dM y ((n : Int) + 2 + 1)
        · exact .inl ⟨(n : Int) + 2, by omega, by omega, h, h'⟩
        · refine .inr ?_
          rw [show ((n + 1 : Nat) : Int) + 2 = (n : Int) + 2 + 1 by omega]
          omega
  rcases key 11 (by omega) with h | h
  · exact h
  · have := dM_year y
    have e : dM y (((11 : Nat) : Int) + 2) = dM y 13 := rfl
    omega
def yearOf (day : Int) : Int := yearN day.toNat
def monthOf (day : Int) : Int := ((((List.range 12).find? (fun (k : Nat) => decide (day < dY (yearOf day) + dM (yearOf day) ((k : Int) + 2)))).getD 0 : Nat) : Int) + 1
def dayOf (day : Int) : Int := day - dY (yearOf day) - dM (yearOf day) (monthOf day) + 1
theorem civ_ok (day : Int) (h : 0 ≤ day) : IsCiv day (yearOf day) (monthOf day) (dayOf day) := by
  have hy := yearN_ok day.toNat
  rw [show ((day.toNat : Nat) : Int) = day by omega] at hy
  obtain ⟨h0, h1, h2⟩ := hy
  have hs := dY_step (yearN day.toNat)
  obtain ⟨m, m0, m1, m2, m3⟩ := civ_month (yearN day.toNat) (day - dY (yearN day.toNat)) (by omega) (by omega)
  have hm : monthOf day = m := by
    have hfind : (List.range 12).find? (fun (k : Nat) => decide (day < dY (yearOf day) + dM (yearOf day) ((k : Int) + 2))) = some (m - 1).toNat := by
      rw [List.find?_eq_some_iff_getElem]
      refine ⟨?_, (m - 1).toNat, by simp; omega, by simp, fun j hj => ?_⟩
      · have e2 : (((m - 1).toNat : Nat) : Int) + 2 = m + 1 := by omega
        have : day < dY (yearOf day) + dM (yearOf day) ((((m - 1).toNat : Nat) : Int) + 2) := by rw [e2]; simp only [yearOf]; omega
        simpa using this
      · have hj' : (j : Int) + 2 ≤ m := by omega
        have := dM_mono (yearN day.toNat) (a := (j : Int) + 2) (b := m) (by omega) hj'
        simp only [List.getElem_range, yearOf]
        simp; omega
    unfold monthOf
    rw [hfind]
    simp only [Option.getD_some]
    omega
  unfold dayOf
  rw [hm]
  exact ⟨h0, h1, h2, m0, m1, by unfold yearOf; omega, by unfold yearOf; omega, rfl⟩
theorem IsCiv.top {day y m d : Int} (h : IsCiv day y m d) (hd : day ≤ 2932896) : y ≤ 9999 := by
  refine Classical.byContradiction fun hn => ?_
  have h1 := dY_mono (a := 10000) (b := y) (by omega)
  have h2 : dY 10000 = 2932897 := by decide
  have := h.lo
  omega
theorem IsCiv.back {y m d : Int} (h0 : 1970 ≤ y) (m0 : 1 ≤ m) (m1 : m ≤ 12) (d0 : 1 ≤ d) (d1 : d ≤ mLen y m) : IsCiv (dY y + dM y m + d - 1) y m d := by
  have hs := dM_step y m m0
  have h1 := dM_mono y (a := 1) (b := m) (by omega) m0
  have h2 := dM_mono y (a := m + 1) (b := 13) (by omega) (by omega)
  have hy := dY_step y
  have h13 := dM_year y
  have h11 := dM_one y
  refine ⟨h0, by omega, by omega, m0, m1, by omega, by omega, by omega⟩

/-! ### Stamps -/
def stampL (t : Int) : List UInt8 :=
  padD 4 (yearOf (t / 86400)).toNat ++ padD 2 (monthOf (t / 86400)).toNat ++ padD 2 (dayOf (t / 86400)).toNat ++ padD 2 (t % 86400 / 3600).toNat ++ padD 2 (t % 86400 / 60 % 60).toNat ++ padD 2 (t % 86400 % 60).toNat
@[simp] theorem stampL_len (t : Int) : (stampL t).length = 14 := by simp [stampL]
end Go.Proofs.YtklnopamfncfgaaGreatDoor
namespace Go.Proofs.YtklnopamfncfgaaGreatDoor
open Go

/-! ### The moment of fourteen digits -/
theorem dig_isDig (n : Nat) : isDig (dig n) = true ∧ (dig n).toNat - 48 = n % 10 := by
  have h : n % 10 < 10 := Nat.mod_lt _ (by omega)
  have : (dig n).toNat = 48 + n % 10 := by
    unfold dig
    rw [UInt8.toNat_ofNat_of_lt' (by simp [UInt8.size]; omega)]
  unfold isDig
  rw [this]
  simp; omega
theorem padD_isDig : ∀ (k n : Nat), (padD k n).all isDig = true
  | 0, _ => rfl
  | k + 1, n => by rw [padD, List.all_append, padD_isDig k]; simp [dig_isDig]
theorem decV_padD : ∀ (k n : Nat), n < 10 ^ k → decV (padD k n) = n
  | 0, n, h => by simp at h; subst h; rfl
  | k + 1, n, h => by
    rw [padD, decV_snoc, decV_padD k (n / 10) (by rw [Nat.pow_succ] at h; omega), (dig_isDig n).2]
    omega
theorem padD_decV (s : List UInt8) : s.all isDig = true → padD s.length (decV s) = s := by
  refine snoc_ind (p := fun s => s.all isDig = true → padD s.length (decV s) = s) (fun _ => rfl) ?_ s
  intro t b ih h
  simp only [List.all_append, List.all_cons, List.all_nil, Bool.and_true, Bool.and_eq_true] at h
  obtain ⟨h1, h2⟩ := dig_of h.2
  rw [List.length_append, List.length_singleton, padD, decV_snoc]
  have e1 : (decV t * 10 + (b.toNat - 48)) / 10 = decV t := by omega
  have e2 : dig (decV t * 10 + (b.toNat - 48)) = b := by
    unfold dig
    rw [show (decV t * 10 + (b.toNat - 48)) % 10 = b.toNat - 48 by omega, h1]
  rw [e1, ih h.1, e2]
/-- A number that stands in a string. -/
def numAt (s : List UInt8) (i j : Nat) : Nat := decV ((s.take j).drop i)
def okDate (y m d h i s : Int) : Prop := 1970 ≤ y ∧ (1 ≤ m ∧ m ≤ 12) ∧ (1 ≤ d ∧ d ≤ mLen y m) ∧ (0 ≤ h ∧ h ≤ 23) ∧ (0 ≤ i ∧ i ≤ 59) ∧ (0 ≤ s ∧ s ≤ 59)
instance (y m d h i s : Int) : Decidable (okDate y m d h i s) := by unfold okDate; infer_instance
def dateN (y m d h i s : Int) : Int := (dY y + dM y m + d - 1) * 86400 + h * 3600 + i * 60 + s
def momentL (s : List UInt8) : Option Int :=
  if (s.length = 14 ∧ s.all isDig = true) ∧ okDate (numAt s 0 4) (numAt s 4 6) (numAt s 6 8) (numAt s 8 10) (numAt s 10 12) (numAt s 12 14) then
    some (dateN (numAt s 0 4) (numAt s 4 6) (numAt s 6 8) (numAt s 8 10) (numAt s 10 12) (numAt s 12 14))
  else none
theorem dY_1970 : dY 1970 = 0 := by decide
/-- The calendar of a date's moment. -/
theorem date_parts {y m d h i s : Int} (hk : okDate y m d h i s) (hy : y ≤ 9999) : 0 ≤ dateN y m d h i s ∧ dateN y m d h i s ≤ 253402300799 ∧ yearOf (dateN y m d h i s / 86400) = y ∧ monthOf (dateN y m d h i s / 86400) = m ∧
    dayOf (dateN y m d h i s / 86400) = d ∧ dateN y m d h i s % 86400 / 3600 = h ∧ dateN y m d h i s % 86400 / 60 % 60 = i ∧ dateN y m d h i s % 86400 % 60 = s := by
  obtain ⟨h1, h2, h3, h4, h5, h6⟩ := hk
  have hc := IsCiv.back h1 h2.1 h2.2 h3.1 h3.2
  obtain ⟨D, eD⟩ : ∃ D, D = dY y + dM y m + d - 1 := ⟨_, rfl⟩
  have hD0 : 0 ≤ D := by
    have := hc.lo
    have := dY_mono (a := 1970) (b := y) h1
    rw [dY_1970] at this
    omega
  have hD1 : D ≤ 2932896 := by
    have := hc.hi
    have := dY_mono (a := y + 1) (b := 10000) (by omega)
    have h2 : dY 10000 = 2932897 := by decide
    omega
  have e : dateN y m d h i s = D * 86400 + h * 3600 + i * 60 + s := by rw [eD]; rfl
  have eq : dateN y m d h i s / 86400 = D := by omega
  rw [← eD] at hc
  obtain ⟨u1, u2, u3⟩ := hc.unique (civ_ok D hD0)
  rw [eq]
  exact ⟨by omega, by omega, u1, u2, u3, by omega, by omega, by omega⟩
theorem date_back {t : Int} (h0 : 0 ≤ t) : okDate (yearOf (t / 86400)) (monthOf (t / 86400)) (dayOf (t / 86400)) (t % 86400 / 3600) (t % 86400 / 60 % 60) (t % 86400 % 60) ∧
    dateN (yearOf (t / 86400)) (monthOf (t / 86400)) (dayOf (t / 86400)) (t % 86400 / 3600) (t % 86400 / 60 % 60) (t % 86400 % 60) = t := by
  have hc := civ_ok (t / 86400) (by omega)
  have hd := hc.d
  have hdd := hc.dd
  refine ⟨⟨hc.y0, ⟨hc.m0, hc.m1⟩, hd, by omega, by omega, by omega⟩, ?_⟩
  unfold dateN
  rw [show dY (yearOf (t / 86400)) + dM (yearOf (t / 86400)) (monthOf (t / 86400)) + dayOf (t / 86400) - 1 = t / 86400 by omega]
  omega
theorem numAt_app {a b c : List UInt8} : numAt (a ++ b ++ c) a.length (a.length + b.length) = decV b := by
  unfold numAt
  congr 1
  rw [← List.length_append, List.take_left' rfl, List.drop_left' rfl]
theorem momentL_stamp {t : Int} (h0 : 0 ≤ t) (h1 : t ≤ 253402300799) : momentL (stampL t) = some t := by
  obtain ⟨hk, he⟩ := date_back h0
  have hy : yearOf (t / 86400) ≤ 9999 := (civ_ok (t / 86400) (by omega)).top (by omega)
  obtain ⟨k1, k2, k3, k4, k5, k6⟩ := hk
  have km := mLen_pos (yearOf (t / 86400)) (monthOf (t / 86400))
  obtain ⟨Y, eY⟩ : ∃ Y : Nat, yearOf (t / 86400) = Y := ⟨(yearOf (t / 86400)).toNat, by omega⟩
  obtain ⟨M, eM⟩ : ∃ M : Nat, monthOf (t / 86400) = M := ⟨(monthOf (t / 86400)).toNat, by omega⟩
  obtain ⟨D, eD⟩ : ∃ D : Nat, dayOf (t / 86400) = D := ⟨(dayOf (t / 86400)).toNat, by omega⟩
  obtain ⟨H, eH⟩ : ∃ H : Nat, t % 86400 / 3600 = H := ⟨(t % 86400 / 3600).toNat, by omega⟩
  obtain ⟨I, eI⟩ : ∃ I : Nat, t % 86400 / 60 % 60 = I := ⟨(t % 86400 / 60 % 60).toNat, by omega⟩
  obtain ⟨S, eS⟩ : ∃ S : Nat, t % 86400 % 60 = S := ⟨(t % 86400 % 60).toNat, by omega⟩
  have hst : stampL t = padD 4 Y ++ padD 2 M ++ padD 2 D ++ padD 2 H ++ padD 2 I ++ padD 2 S := by unfold stampL; rw [eY, eM, eD, eH, eI, eS]; rfl
  rw [eY, eM, eD, eH, eI, eS] at he
  rw [eM, eY] at km
  rw [eY] at k1 hy
  rw [eM] at k2
  rw [eD, eY, eM] at k3
  rw [eH] at k4
  rw [eI] at k5
  rw [eS] at k6
  have f0 : numAt (stampL t) 0 4 = Y := by rw [hst]; refine Eq.trans ?_ (decV_padD 4 Y (by omega)); simpa using numAt_app (a := []) (b := padD 4 Y) (c := padD 2 M ++ padD 2 D ++ padD 2 H ++ padD 2 I ++ padD 2 S)
  have f1 : numAt (stampL t) 4 6 = M := by rw [hst]; refine Eq.trans ?_ (decV_padD 2 M (by omega)); simpa using numAt_app (a := padD 4 Y) (b := padD 2 M) (c := padD 2 D ++ padD 2 H ++ padD 2 I ++ padD 2 S)
  have f2 : numAt (stampL t) 6 8 = D := by rw [hst]; refine Eq.trans ?_ (decV_padD 2 D (by omega)); simpa using numAt_app (a := padD 4 Y ++ padD 2 M) (b := padD 2 D) (c := padD 2 H ++ padD 2 I ++ padD 2 S)
  have f3 : numAt (stampL t) 8 10 = H := by rw [hst]; refine Eq.trans ?_ (decV_padD 2 H (by omega)); simpa using numAt_app (a := padD 4 Y ++ padD 2 M ++ padD 2 D) (b := padD 2 H) (c := padD 2 I ++ padD 2 S)
  have f4 : numAt (stampL t) 10 12 = I := by rw [hst]; refine Eq.trans ?_ (decV_padD 2 I (by omega)); simpa using numAt_app (a := padD 4 Y ++ padD 2 M ++ padD 2 D ++ padD 2 H) (b := padD 2 I) (c := padD 2 S)
  have f5 : numAt (stampL t) 12 14 = S := by rw [hst]; refine Eq.trans ?_ (decV_padD 2 S (by omega)); simpa using numAt_app (a := padD 4 Y ++ padD 2 M ++ padD 2 D ++ padD 2 H ++ padD 2 I) (b := padD 2 S) (c := [])
  have hall : (stampL t).all isDig = true := by rw [hst]; simp only [List.all_append, padD_isDig]; rfl
  unfold momentL
  rw [f0, f1, f2, f3, f4, f5, if_pos ⟨⟨stampL_len t, hall⟩, k1, k2, k3, k4, k5, k6⟩, he]
theorem stamp_moment {s : List UInt8} {t : Int} (h : momentL s = some t) : 0 ≤ t ∧ t ≤ 253402300799 ∧ stampL t = s := by
  unfold momentL at h
  split at h
  · rename_i hc
    injection h with h
    obtain ⟨⟨hl, ha⟩, hk⟩ := hc
    have pd : ∀ (i j : Nat), i ≤ j → j ≤ 14 → padD (j - i) (numAt s i j) = (s.take j).drop i := by
      intro i j h1 h2
      have hx : ((s.take j).drop i).all isDig = true := by
        rw [List.all_eq_true] at ha ⊢
        exact fun x hx => ha x (List.mem_of_mem_take (List.mem_of_mem_drop hx))
      have hlen : ((s.take j).drop i).length = j - i := by rw [List.length_drop, List.length_take]; omega
      have := padD_decV _ hx
      rw [hlen] at this
      exact this
    have hy : (numAt s 0 4 : Int) ≤ 9999 := by
      have hx : ((s.take 4).drop 0).all isDig = true := by
        rw [List.all_eq_true] at ha ⊢
        exact fun x hx => ha x (List.mem_of_mem_take (List.mem_of_mem_drop hx))
      have := decV_lt _ hx
      have hlen : ((s.take 4).drop 0).length = 4 := by rw [List.length_drop, List.length_take]; omega
      rw [hlen] at this
      unfold numAt; omega
    obtain ⟨p0, p1, p2, p3, p4, p5, p6, p7⟩ := date_parts hk hy
    rw [h] at p0 p1 p2 p3 p4 p5 p6 p7
    refine ⟨p0, p1, ?_⟩
    unfold stampL
    rw [p2, p3, p4, p5, p6, p7]
    simp only [Int.toNat_natCast]
    have q0 := pd 0 4 (by omega) (by omega)
    have q1 := pd 4 6 (by omega) (by omega)
    have q2 := pd 6 8 (by omega) (by omega)
    have q3 := pd 8 10 (by omega) (by omega)
    have q4 := pd 10 12 (by omega) (by omega)
    have q5 := pd 12 14 (by omega) (by omega)
    simp only [Nat.reduceSub] at q0 q1 q2 q3 q4 q5
    rw [q0, q1, q2, q3, q4, q5]
    have step : ∀ i j, i ≤ j → s.take i ++ (s.take j).drop i = s.take j := by
      intro i j hij
      have := List.take_append_drop i (s.take j)
      rw [List.take_take, Nat.min_eq_left hij] at this
      exact this
    rw [List.drop_zero, step 4 6 (by omega), step 6 8 (by omega), step 8 10 (by omega), step 10 12 (by omega), step 12 14 (by omega), List.take_of_length_le (by omega)]
  · cases h
end Go.Proofs.YtklnopamfncfgaaGreatDoor
namespace Go.Proofs.YtklnopamfncfgaaGreatDoor
open Go Go.Ab

/-! ### The text at which an address is replayed -/
def leadCs : List UInt8 := [34, 35, 39, 40, 41, 44, 60, 62]
def leadC (c : UInt8) : Bool := keyChar c && !leadCs.contains c
def leadB (s : List UInt8) : Bool := s.all leadC && (inB 1 200 s.length && decide (s.getLast? ≠ some 47))
def replayF (lead : List UInt8) (t : Int) (a : Addr) : Int := if leadB lead = false then 3 else if momentB t = false then 1 else addrF a
def replayL (lead : List UInt8) (t : Int) (a : Addr) : List UInt8 := if replayF lead t a = 0 then lead ++ [47] ++ stampL t ++ [47] ++ writeL a else []
/-- What stands behind a lead and its stroke. -/
def restL (lead text : List UInt8) : Option (List UInt8) := if (lead ++ [47]).isPrefixOf text = true then some (text.drop (lead.length + 1)) else none
def goodL (r : List UInt8) : Bool := decide (15 ≤ r.length) && decide (r[14]? = some 47)
def readRp (lead text : List UInt8) : Int × Addr × Int :=
  if leadB lead = false then (0, noAddr, 3) else match restL lead text with
  | none => (0, noAddr, 10)
  | some r => if goodL r = false then (0, noAddr, 10) else match momentL (r.take 14) with
    | none => (0, noAddr, 10)
    | some t => if (readAR (r.drop 15)).2.2 ≠ 0 then (0, noAddr, 10) else (t, (readAR (r.drop 15)).1, 0)
theorem readAR_ok {t : List UInt8} (h : (readAR t).2.2 = 0) : t.length ≤ 2000 ∧ readA t = .ok (readAR t).1 := by
  unfold readAR at h ⊢
  split at h
  · cases h
  · rename_i hl
    rw [if_neg hl]
    split at h
    · cases h
    · rename_i a ha
      exact ⟨by omega, ha⟩
theorem readAR_write {a : Addr} (h : addrF a = 0) : readAR (writeL a) = (a, 0, 0) := by
  have hl := (addrF_ok h).2.2.2.2.2.2.2.2
  unfold readAR
  rw [if_neg (by omega), read_write h]
theorem replayF_ok {lead : List UInt8} {t : Int} {a : Addr} (h : replayF lead t a = 0) : leadB lead = true ∧ momentB t = true ∧ addrF a = 0 := by
  unfold replayF at h
  split at h
  · cases h
  · rename_i h1
    split at h
    · cases h
    · rename_i h2
      exact ⟨by simpa using h1, by simpa using h2, h⟩
theorem replay_back {lead : List UInt8} {t : Int} {a : Addr} (h : replayF lead t a = 0) : readRp lead (replayL lead t a) = (t, a, 0) := by
  obtain ⟨h1, h2, h3⟩ := replayF_ok h
  have hL : replayL lead t a = (lead ++ [47]) ++ (stampL t ++ [47] ++ writeL a) := by unfold replayL; rw [if_pos h]; simp
  have hr : restL lead (replayL lead t a) = some (stampL t ++ [47] ++ writeL a) := by
    unfold restL
    rw [hL, if_pos (by rw [List.isPrefixOf_iff_prefix]; exact List.prefix_append _ _)]
    congr 1
    rw [show lead.length + 1 = (lead ++ [47]).length by simp, List.drop_left]
  have hs := stampL_len t
  have hg : goodL (stampL t ++ [47] ++ writeL a) = true := by
    unfold goodL
    rw [List.append_assoc, List.getElem?_append_right (by omega), hs]
    simp [hs]; omega
  have ht : (stampL t ++ [47] ++ writeL a).take 14 = stampL t := by rw [List.append_assoc, ← hs, List.take_left]
  have hd : (stampL t ++ [47] ++ writeL a).drop 15 = writeL a := by
    rw [show 15 = (stampL t ++ [47]).length by simp, List.drop_left]
  have hm : momentL (stampL t) = some t := by
    simp only [momentB, inB, Bool.and_eq_true, decide_eq_true_eq] at h2
    exact momentL_stamp h2.1 h2.2
  unfold readRp
  rw [if_neg (by simp [h1]), hr]
  simp only [hg, ht, hd, hm, readAR_write h3]
  simp
theorem replay_forth {lead text : List UInt8} (h : (readRp lead text).2.2 = 0) : replayF lead (readRp lead text).1 (readRp lead text).2.1 = 0 ∧ replayL lead (readRp lead text).1 (readRp lead text).2.1 = text := by
  unfold readRp at h ⊢
  by_cases h1 : leadB lead = false
  · rw [if_pos h1] at h; cases h
  rw [if_neg h1] at h ⊢
  cases hr : restL lead text with
  | none => rw [hr] at h; cases h
  | some r =>
    rw [hr] at h
    simp only at h ⊢
    by_cases h2 : goodL r = false
    · rw [if_pos h2] at h; cases h
    rw [if_neg h2] at h ⊢
    cases hm : momentL (r.take 14) with
    | none => rw [hm] at h; cases h
    | some t =>
      rw [hm] at h
      simp only at h ⊢
      by_cases h3 : (readAR (r.drop 15)).2.2 ≠ 0
      · rw [if_pos h3] at h; cases h
      rw [if_neg h3]
      simp only
      obtain ⟨l1, l2⟩ := readAR_ok (Classical.not_not.1 h3)
      obtain ⟨w1, w2⟩ := write_read l2
      obtain ⟨m1, m2, m3⟩ := stamp_moment hm
      have hf : replayF lead t (readAR (r.drop 15)).1 = 0 := by
        unfold replayF
        rw [if_neg h1, if_neg (by simp [momentB, inB, m1, m2])]
        exact w2 l1
      refine ⟨hf, ?_⟩
      unfold replayL
      rw [if_pos hf, m3, w1]
      unfold restL at hr
      split at hr
      · rename_i hp
        injection hr with hr
        obtain ⟨z, hz⟩ := List.isPrefixOf_iff_prefix.1 hp
        have hzr : z = r := by
          rw [← hr, ← hz, show lead.length + 1 = (lead ++ [47]).length by simp, List.drop_left]
        subst hzr
        rw [← hz]
        have h2' : 15 ≤ z.length ∧ z[14]? = some 47 := by
          unfold goodL at h2; simpa using h2
        have h47 : z.take 14 ++ [47] ++ z.drop 15 = z := by
          have hlt : 14 < z.length := by omega
          have e : z.drop 14 = 47 :: z.drop 15 := by
            rw [List.drop_eq_getElem_cons hlt]
            have := h2'.2
            rw [List.getElem?_eq_getElem hlt] at this
            injection this with this
            rw [this]
          rw [List.append_assoc]
          show z.take 14 ++ (47 :: z.drop 15) = z
          rw [← e, List.take_append_drop]
        conv => rhs; rw [← h47]
        simp
      · cases hr
end Go.Proofs.YtklnopamfncfgaaGreatDoor
namespace Go.Proofs.YtklnopamfncfgaaGreatDoor
open Go Go.Ab
set_option linter.unusedSectionVars false
variable [Amb]
set_option maxRecDepth 100000
set_option maxHeartbeats 4000000

/-! ### Texts of addresses, leads -/
def textL (a : Addr) : List UInt8 := if addrF a = 0 then writeL a else []
theorem address_Text (a : Addr) (h : a.Fit) : ACalls Tryz.prog 24 [.agg a.row] (.tup [.one (.str (textL a)), .one (.int .i64 (addrF a))]) := by
  refine ACalls.of mixed (fn := Tryz.f24) (by kernel_rfl) (by kernel_rfl) rfl (by kernel_rfl) (by simp [Tryz.f24]) (fun hok => ?_)
  have h1 := address_CheckAddress a h
  have h2 := address_write a h
  unfold textL
  obtain ⟨sc, ho, po, pa, qu, hq, fr, hf⟩ := a
  simp only [Addr.row] at h1 h2 ⊢
  generalize writeL ⟨sc, ho, po, pa, qu, hq, fr, hf⟩ = W at h2 ⊢
  generalize addrF ⟨sc, ho, po, pa, qu, hq, fr, hf⟩ = F at h1 ⊢
  simp -implicitDefEqProofs
  refine ACallK.of h1 ?_
  by_cases hF : F = 0
  · simp -implicitDefEqProofs [hF]
    exact ACallK.of h2 (by simp -implicitDefEqProofs [hF])
  · have hb : (F == 0) = false := by simpa using hF
    simp -implicitDefEqProofs [hF, hb]
theorem ref1_Text (a : Addr) (h : a.Fit) : ACalls Tryz.prog 28 [.agg a.row] (.tup [.one (.str (textL a)), .one (.int .i64 (addrF a))]) := by
  refine ACalls.of mixed (fn := Tryz.f28) (by kernel_rfl) (by kernel_rfl) rfl (by kernel_rfl) (by simp [Tryz.f28]) (fun hok => ?_)
  have h1 := ref1_CheckAddress a h
  have h2 := ref1_written a h
  unfold textL
  obtain ⟨sc, ho, po, pa, qu, hq, fr, hf⟩ := a
  simp only [Addr.row] at h1 h2 ⊢
  generalize writeL ⟨sc, ho, po, pa, qu, hq, fr, hf⟩ = W at h2 ⊢
  generalize addrF ⟨sc, ho, po, pa, qu, hq, fr, hf⟩ = F at h1 ⊢
  simp -implicitDefEqProofs
  refine ACallK.of h1 ?_
  by_cases hF : F = 0
  · simp -implicitDefEqProofs [hF]
    exact ACallK.of h2 (by simp -implicitDefEqProofs [hF])
  · have hb : (F == 0) = false := by simpa using hF
    simp -implicitDefEqProofs [hF, hb]
theorem leadB_get {s : List UInt8} (h : 0 < s.length) : leadB s = (s.all leadC && (inB 1 200 s.length && decide (s[s.length - 1] ≠ 47))) := by
  have h2 : s.getLast? = some s[s.length - 1] := by rw [List.getLast?_eq_getElem?, List.getElem?_eq_getElem (by omega)]
  unfold leadB
  rw [h2]
  simp
theorem stringslite_CutPrefix (s p : List UInt8) : ACalls Tryz.prog 70 [.one (.str s), .one (.str p)] (.tup [.one (.str (if hasPre s p = true then s.drop p.length else s)), .one (.bool (hasPre s p))]) := by
  refine ACalls.of mixed (fn := Tryz.f70) (by kernel_rfl) (by kernel_rfl) rfl (by kernel_rfl) (by simp [Tryz.f70]) (fun hok => ?_)
  simp -implicitDefEqProofs
  refine ACallK.of (stringslite_HasPrefix s p) ?_
  cases h : hasPre s p
  · simp -implicitDefEqProofs
  · have hl : p.length ≤ s.length := (List.isPrefixOf_iff_prefix.1 h).length_le
    have g1 : ((p.length : Int) ≤ (s.length : Int)) = True := eq_true (by omega)
    simp -implicitDefEqProofs [g1, hl]
theorem strings_CutPrefix (s p : List UInt8) : ACalls Tryz.prog 30 [.one (.str s), .one (.str p)] (.tup [.one (.str (if hasPre s p = true then s.drop p.length else s)), .one (.bool (hasPre s p))]) := by
  refine ACalls.of mixed (fn := Tryz.f30) (by kernel_rfl) (by kernel_rfl) rfl (by kernel_rfl) (by simp [Tryz.f30]) (fun hok => ?_)
  simp -implicitDefEqProofs
  refine ACallK.of (stringslite_CutPrefix s p) ?_
  simp -implicitDefEqProofs
theorem leadC_no (c : UInt8) : leadC c = (!(decide (c.toNat < 33) || (decide (126 < c.toNat) || leadCs.contains c))) := by
  unfold leadC keyChar
  have h1 : decide (33 ≤ c.toNat) = !decide (c.toNat < 33) := by rw [Bool.eq_iff_iff]; simp
  have h2 : decide (c.toNat ≤ 126) = !decide (126 < c.toNat) := by rw [Bool.eq_iff_iff]; simp
  rw [h1, h2]
  cases leadCs.contains c <;> cases decide (c.toNat < 33) <;> cases decide (126 < c.toNat) <;> rfl
theorem replay_isLead (s : List UInt8) : ACalls Tryz.prog 22 [.one (.str s)] (.x (.one (.bool (leadB s)))) := by
  obtain ⟨B, eB⟩ : ∃ B, B = leadB s := ⟨_, rfl⟩
  rw [← eB]
  have hbad : ∀ i (h : i < s.length), leadC s[i] = false → B = false := fun i h hc => by rw [eB]; unfold leadB; rw [all_bad h hc]; rfl
  refine ACalls.of mixed (fn := Tryz.f22) (by kernel_rfl) (by kernel_rfl) rfl (by kernel_rfl) (by simp [Tryz.f22]) (fun hok => ?_)
  simp -implicitDefEqProofs
  refine ALoopS.of Nat (fun i => [(0, .x (.one (.str s))), (5, .x (.one (.int .i64 s.length))), (6, .x (.one (.int .i64 i)))]) (Upto leadC s) (fun i => s.length - i) 0 Upto.zero ?_ ?_
  · simp
  intro i hi
  have hle := hi.1
  by_cases hlt : i < s.length
  · have hlt' : ((i : Int) < (s.length : Int)) = True := eq_true (by omega)
    have hwr : IntKind.i64.wrap ((i : Int) + 1) = (i : Int) + 1 := wrapS _ (by have := hok; simp [XV.ok, CV.ok, maxLen] at this; omega)
    have hno := leadC_no s[i]
    by_cases c1 : s[i].toNat < 33
    · have c1' : ((s[i].toNat : Int) < 33) = True := eq_true (by omega)
      have hB := hbad i hlt (by rw [hno]; simp [c1])
      simp -implicitDefEqProofs [hlt, hlt', c1', c1]
      refine ACallGS.of (fun h => by cases h) (r := .x (.one (.int .i64 0))) rfl ?_
      simp -implicitDefEqProofs [hB]
    · have c1' : ((s[i].toNat : Int) < 33) = False := eq_false (by omega)
      by_cases c2 : 126 < s[i].toNat
      · have c2' : (126 < (s[i].toNat : Int)) = True := eq_true (by omega)
        have hB := hbad i hlt (by rw [hno]; simp [c2])
        simp -implicitDefEqProofs [hlt, hlt', c1', c1, c2', c2]
        refine ACallGS.of (fun h => by cases h) (r := .x (.one (.int .i64 0))) rfl ?_
        simp -implicitDefEqProofs [hB]
      · have c2' : (126 < (s[i].toNat : Int)) = False := eq_false (by omega)
        simp -implicitDefEqProofs [hlt, hlt', c1', c1, c2', c2]
        refine ACallGS.of (fun _ => strings_IndexByte [34, 35, 39, 40, 41, 44, 60, 62] s[i]) rfl ?_
        cases hc : leadCs.contains s[i]
        · have g : atByte [34, 35, 39, 40, 41, 44, 60, 62] s[i] = -1 := atByte_no hc
          simp -implicitDefEqProofs [g, hwr]
          refine Again.of (i + 1) (hi.step hlt (by rw [hno, hc]; simp [c1, c2])) (by omega) (by simp [hwr])
        · have g : (0 ≤ atByte [34, 35, 39, 40, 41, 44, 60, 62] s[i]) = True := eq_true (atByte_in hc)
          have hB := hbad i hlt (by rw [hno, hc]; simp)
          simp -implicitDefEqProofs [g, hB]
  · have hlt' : ((i : Int) < (s.length : Int)) = False := eq_false (by omega)
    have hall := hi.done hlt
    by_cases hp : 0 < s.length
    · rw [leadB_get hp, hall] at eB
      have hlast : s.length - 1 < s.length := by omega
      have g1 : (1 ≤ (s.length : Int)) = True := eq_true (by omega)
      by_cases h2 : s.length ≤ 200
      · have g2 : ((s.length : Int) ≤ 200) = True := eq_true (by omega)
        have hw : IntKind.i64.wrap ((s.length : Int) - 1) = ((s.length - 1 : Nat) : Int) := by rw [wrapS _ (by omega)]; omega
        have hz : ((s[s.length - 1].toNat : Int) = 47) = (s[s.length - 1] = 47) := propext (u8_int 47 (by omega))
        simp -implicitDefEqProofs [hlt', g1, g2, hw, hlast, hp, h2]
        rw [eB]
        by_cases hz : s[s.length - 1] = 47
        · have e1 : ((s[s.length - 1].toNat : Int) = 47) := (u8_int 47 (by omega)).2 hz
          simp [hz, inB]
        · have e1 : ¬ ((s[s.length - 1].toNat : Int) = 47) := fun h => hz ((u8_int 47 (by omega)).1 h)
          have e2 : ((s[s.length - 1].toNat : Int) != 47) = true := by rw [bne_iff_ne]; exact e1
          have hin : inB 1 200 s.length = true := by simp only [inB, Bool.and_eq_true, decide_eq_true_eq]; omega
          rw [hin, e2]
          simp [hz]
      · have g2 : ((s.length : Int) ≤ 200) = False := eq_false (by omega)
        have hB : B = false := by rw [eB]; simp [inB]; omega
        simp -implicitDefEqProofs [hlt', g1, g2, hp, hB]
    · have g1 : (1 ≤ (s.length : Int)) = False := eq_false (by omega)
      have hB : B = false := by rw [eB]; unfold leadB; simp [inB]; omega
      simp -implicitDefEqProofs [hlt', g1, hB]
theorem ref9_within (n lo hi : Int) : ACalls Tryz.prog 27 [.one (.int .i64 n), .one (.int .i64 lo), .one (.int .i64 hi)] (.x (.one (.bool (inB lo hi n)))) := by
  refine ACalls.of mixed (fn := Tryz.f27) (by kernel_rfl) (by kernel_rfl) rfl (by kernel_rfl) (by simp [Tryz.f27]) (fun hok => ?_)
  simp -implicitDefEqProofs [inB]
theorem ref9_isLead (s : List UInt8) : ACalls Tryz.prog 26 [.one (.str s)] (.x (.one (.bool (leadB s)))) := by
  obtain ⟨B, eB⟩ : ∃ B, B = leadB s := ⟨_, rfl⟩
  rw [← eB]
  have hbad : ∀ i (h : i < s.length), leadC s[i] = false → B = false := fun i h hc => by rw [eB]; unfold leadB; rw [all_bad h hc]; rfl
  refine ACalls.of mixed (fn := Tryz.f26) (by kernel_rfl) (by kernel_rfl) rfl (by kernel_rfl) (by simp [Tryz.f26]) (fun hok => ?_)
  simp -implicitDefEqProofs
  refine ALoopS.of Nat (fun i => [(0, .x (.one (.str s))), (3, .x (.one (.int .i64 i)))]) (Upto leadC s) (fun i => s.length - i) 0 Upto.zero ?_ ?_
  · simp
  intro i hi
  have hle := hi.1
  by_cases hlt : i < s.length
  · have hlt' : ((i : Int) < (s.length : Int)) = True := eq_true (by omega)
    have hwr : IntKind.i64.wrap ((i : Int) + 1) = (i : Int) + 1 := wrapS _ (by have := hok; simp [XV.ok, CV.ok, maxLen] at this; omega)
    have hno := leadC_no s[i]
    by_cases c1 : s[i].toNat < 33
    · have c1' : ((s[i].toNat : Int) < 33) = True := eq_true (by omega)
      have hB := hbad i hlt (by rw [hno]; simp [c1])
      simp -implicitDefEqProofs [hlt, hlt', c1', c1]
      refine ACallGS.of (fun h => by cases h) (r := .x (.one (.int .i64 0))) rfl ?_
      simp -implicitDefEqProofs [hB]
    · have c1' : ((s[i].toNat : Int) < 33) = False := eq_false (by omega)
      by_cases c2 : 126 < s[i].toNat
      · have c2' : (126 < (s[i].toNat : Int)) = True := eq_true (by omega)
        have hB := hbad i hlt (by rw [hno]; simp [c2])
        simp -implicitDefEqProofs [hlt, hlt', c1', c1, c2', c2]
        refine ACallGS.of (fun h => by cases h) (r := .x (.one (.int .i64 0))) rfl ?_
        simp -implicitDefEqProofs [hB]
      · have c2' : (126 < (s[i].toNat : Int)) = False := eq_false (by omega)
        simp -implicitDefEqProofs [hlt, hlt', c1', c1, c2', c2]
        refine ACallGS.of (fun _ => strings_IndexByte [34, 35, 39, 40, 41, 44, 60, 62] s[i]) rfl ?_
        cases hc : leadCs.contains s[i]
        · have g : atByte [34, 35, 39, 40, 41, 44, 60, 62] s[i] = -1 := atByte_no hc
          simp -implicitDefEqProofs [g, hwr]
          refine Again.of (i + 1) (hi.step hlt (by rw [hno, hc]; simp [c1, c2])) (by omega) (by simp [hwr])
        · have g : (0 ≤ atByte [34, 35, 39, 40, 41, 44, 60, 62] s[i]) = True := eq_true (atByte_in hc)
          have hB := hbad i hlt (by rw [hno, hc]; simp)
          simp -implicitDefEqProofs [g, hB]
  · have hlt' : ((i : Int) < (s.length : Int)) = False := eq_false (by omega)
    have hall := hi.done hlt
    simp -implicitDefEqProofs [hlt']
    refine ACallK.of (ref9_within s.length 1 200) ?_
    by_cases hp : 0 < s.length
    · rw [leadB_get hp, hall] at eB
      have hlast : s.length - 1 < s.length := by omega
      cases hin : inB 1 200 s.length
      · have hB : B = false := by rw [eB, hin]; rfl
        simp -implicitDefEqProofs
        exact hB
      · have hw : IntKind.i64.wrap ((s.length : Int) - 1) = ((s.length - 1 : Nat) : Int) := by
          have hin' := hin
          simp only [inB, Bool.and_eq_true, decide_eq_true_eq] at hin'
          rw [wrapS _ (by omega)]; omega
        simp -implicitDefEqProofs [hw, hlast, hp]
        rw [eB, hin]
        by_cases hz : s[s.length - 1] = 47
        · have e1 : ((s[s.length - 1].toNat : Int) != 47) = false := by rw [bne_eq_false_iff_eq]; exact (u8_int 47 (by omega)).2 hz
          rw [e1]
          simp [hz]
        · have e1 : ((s[s.length - 1].toNat : Int) != 47) = true := by rw [bne_iff_ne]; exact fun h => hz ((u8_int 47 (by omega)).1 h)
          rw [e1]
          simp [hz]
    · have hin : inB 1 200 s.length = false := by
        cases hin : inB 1 200 s.length with
        | false => rfl
        | true => simp only [inB, Bool.and_eq_true, decide_eq_true_eq] at hin; omega
      have hB : B = false := by rw [eB]; unfold leadB; rw [hin]; simp
      rw [hin]
      simp -implicitDefEqProofs
      exact hB
end Go.Proofs.YtklnopamfncfgaaGreatDoor
namespace Go.Proofs.YtklnopamfncfgaaGreatDoor
open Go Go.Ab
set_option linter.unusedSectionVars false
variable [Amb] [HasPow10 Tryz.prog] [HasErrSyntax Tryz.prog]
set_option maxRecDepth 100000
set_option maxHeartbeats 4000000

structure SmallA (n : Addr) : Prop where
  scheme : n.scheme.length ≤ 2000
  host : n.host.length ≤ 2000
  port : n.port.length ≤ 2000
  path : n.path.length ≤ 2100
  query : n.query.length ≤ 2000
theorem normalA_small {a : Addr} (h : addrF a = 0) : SmallA (normalA a) := by
  obtain ⟨hpo, hpa, hhd, hqu, lp, lq⟩ := RightA.of h
  have hl := (addrF_ok h).2.2.2.2.2.2.2.2
  have hw := writeL_len2 a
  have h1 : (normalA a).scheme.length = a.scheme.length := by show (smallL a.scheme).length = _; simp [smallL]
  have h2 : (normalA a).host.length = a.host.length := by show (smallL a.host).length = _; simp [smallL]
  have h3 : (normalA a).port.length ≤ a.port.length := by
    show (portN (smallL a.scheme) a.port).length ≤ _
    unfold portN
    split
    · simp
    · unfold trim0; exact (List.dropWhile_suffix _).length_le
  have h4 : (normalA a).path.length ≤ 2100 := by
    show (pathN a.path).length ≤ _
    unfold pathN
    have hc := codedL_len a.path
    split
    · simp
    · unfold undotL
      split
      · simp
      · have hne := splitC_ne 47 ((codedL a.path).drop 1)
        have e := undotP_len _ hne 47
        have e2 := totL_join 47 _ hne
        rw [join_split, List.length_drop] at e2
        simp only [List.length_cons]; omega
  have h5 : (normalA a).query.length ≤ a.query.length := by show (codedL a.query).length ≤ _; exact codedL_len _
  exact ⟨by omega, by omega, by omega, by omega, by omega⟩
theorem turnedL_len (c d : UInt8) (s : List UInt8) : (turnedL c d s).length = s.length := by
  have ht := totL_join d (splitC c s).reverse (by simpa using splitC_ne c s)
  rw [totL_reverse, split_join_len] at ht
  unfold turnedL; omega
theorem address_key_nil (a : Addr) (h : addrF a = 0) : ACalls Tryz.prog 150 [.agg a.row, .one .nil] (.x (.one (.str (keyA a)))) := by
  have k1 := address_normal a h
  obtain ⟨ls, lh, lo, lp, lq⟩ := normalA_small h
  have hK : keyA a = turnedL 46 44 (normalA a).host ++ portL (normalA a) ++ [41] ++ (if (normalA a).scheme = httpsL then [115] else []) ++ (normalA a).path ++ queryL (normalA a) := rfl
  rw [hK]
  clear hK
  generalize normalA a = N at k1 ls lh lo lp lq ⊢
  obtain ⟨sc, ho, po, pa, qu, hq, fr, hf⟩ := a
  obtain ⟨nc, no, np, na, nu, nq, nr, nf⟩ := N
  simp only at ls lh lo lp lq
  simp only [Addr.row, portL, queryL] at k1 ⊢
  have kt := address_turned no 46 44 (by omega)
  have hTl := turnedL_len 46 44 no
  generalize turnedL 46 44 no = T at kt hTl ⊢
  have kp := address_pathOf_nil na (by omega)
  have kq := address_queryOf_nil nu (by omega)
  unfold httpsL
  refine ACalls.of mixed (fn := Tryz.f150) (by kernel_rfl) (by kernel_rfl) rfl (by kernel_rfl) (by simp [Tryz.f150]) (fun hok => ?_)
  simp -implicitDefEqProofs
  refine ACallK.of k1 ?_
  have kc := strings_CutPrefix no [119, 119, 119, 46]
  simp -implicitDefEqProofs
  refine ACallK.of kc ?_
  cases bw : hasPre no [119, 119, 119, 46]
  · simp -implicitDefEqProofs
    refine ACallGS.of (fun h => by simp at h) (r := .x (.one (.bool false))) rfl ?_
    simp -implicitDefEqProofs
    refine ACallK.of kt ?_
    by_cases hp : np = []
    · subst hp
      by_cases hs : nc = [104, 116, 116, 112, 115]
      · simp -implicitDefEqProofs [hs]
        repeat (refine ⟨by (first | (unfold maxLen; omega) | (simp; unfold maxLen; omega)), ?_⟩)
        refine ACallGS.of (fun _ => address_has_nil 1 []) rfl ?_
        simp -implicitDefEqProofs [hs]
        repeat (refine ⟨by (first | (unfold maxLen; omega) | (simp; unfold maxLen; omega)), ?_⟩)
        refine ACallK.of kp ?_
        cases nq
        · simp -implicitDefEqProofs [hs]
          try (repeat' (first | (unfold maxLen; omega) | refine ⟨?_, ?_⟩))
        · simp -implicitDefEqProofs [hs]
          repeat (refine ⟨by (first | (unfold maxLen; omega) | (simp; unfold maxLen; omega)), ?_⟩)
          refine ACallK.of kq ?_
          simp -implicitDefEqProofs [hs]
          try (repeat' (first | (unfold maxLen; omega) | refine ⟨?_, ?_⟩))
      · simp -implicitDefEqProofs [hs]
        repeat (refine ⟨by (first | (unfold maxLen; omega) | (simp; unfold maxLen; omega)), ?_⟩)
        refine ACallGS.of (fun h => absurd (by simpa using h) hs) (r := .x (.one (.bool false))) rfl ?_
        simp -implicitDefEqProofs [hs]
        repeat (refine ⟨by (first | (unfold maxLen; omega) | (simp; unfold maxLen; omega)), ?_⟩)
        refine ACallK.of kp ?_
        cases nq
        · simp -implicitDefEqProofs [hs]
          try (repeat' (first | (unfold maxLen; omega) | refine ⟨?_, ?_⟩))
        · simp -implicitDefEqProofs [hs]
          repeat (refine ⟨by (first | (unfold maxLen; omega) | (simp; unfold maxLen; omega)), ?_⟩)
          refine ACallK.of kq ?_
          simp -implicitDefEqProofs [hs]
          try (repeat' (first | (unfold maxLen; omega) | refine ⟨?_, ?_⟩))
    · have hpe : np.isEmpty = false := by simpa using hp
      by_cases hs : nc = [104, 116, 116, 112, 115]
      · simp -implicitDefEqProofs [hs, hp, hpe]
        repeat (refine ⟨by (first | (unfold maxLen; omega) | (simp; unfold maxLen; omega)), ?_⟩)
        refine ACallGS.of (fun _ => address_has_nil 1 []) rfl ?_
        simp -implicitDefEqProofs [hs, hp, hpe]
        repeat (refine ⟨by (first | (unfold maxLen; omega) | (simp; unfold maxLen; omega)), ?_⟩)
        refine ACallK.of kp ?_
        cases nq
        · simp -implicitDefEqProofs [hs, hp, hpe]
          try (repeat' (first | (unfold maxLen; omega) | refine ⟨?_, ?_⟩))
        · simp -implicitDefEqProofs [hs, hp, hpe]
          repeat (refine ⟨by (first | (unfold maxLen; omega) | (simp; unfold maxLen; omega)), ?_⟩)
          refine ACallK.of kq ?_
          simp -implicitDefEqProofs [hs, hp, hpe]
          try (repeat' (first | (unfold maxLen; omega) | refine ⟨?_, ?_⟩))
      · simp -implicitDefEqProofs [hs, hp, hpe]
        repeat (refine ⟨by (first | (unfold maxLen; omega) | (simp; unfold maxLen; omega)), ?_⟩)
        refine ACallGS.of (fun h => absurd (by simpa using h) hs) (r := .x (.one (.bool false))) rfl ?_
        simp -implicitDefEqProofs [hs, hp, hpe]
        repeat (refine ⟨by (first | (unfold maxLen; omega) | (simp; unfold maxLen; omega)), ?_⟩)
        refine ACallK.of kp ?_
        cases nq
        · simp -implicitDefEqProofs [hs, hp, hpe]
          try (repeat' (first | (unfold maxLen; omega) | refine ⟨?_, ?_⟩))
        · simp -implicitDefEqProofs [hs, hp, hpe]
          repeat (refine ⟨by (first | (unfold maxLen; omega) | (simp; unfold maxLen; omega)), ?_⟩)
          refine ACallK.of kq ?_
          simp -implicitDefEqProofs [hs, hp, hpe]
          try (repeat' (first | (unfold maxLen; omega) | refine ⟨?_, ?_⟩))
  · simp -implicitDefEqProofs
    refine ACallGS.of (fun _ => address_has_nil 2 []) rfl ?_
    simp -implicitDefEqProofs
    refine ACallK.of kt ?_
    by_cases hp : np = []
    · subst hp
      by_cases hs : nc = [104, 116, 116, 112, 115]
      · simp -implicitDefEqProofs [hs]
        repeat (refine ⟨by (first | (unfold maxLen; omega) | (simp; unfold maxLen; omega)), ?_⟩)
        refine ACallGS.of (fun _ => address_has_nil 1 []) rfl ?_
        simp -implicitDefEqProofs [hs]
        repeat (refine ⟨by (first | (unfold maxLen; omega) | (simp; unfold maxLen; omega)), ?_⟩)
        refine ACallK.of kp ?_
        cases nq
        · simp -implicitDefEqProofs [hs]
          try (repeat' (first | (unfold maxLen; omega) | refine ⟨?_, ?_⟩))
        · simp -implicitDefEqProofs [hs]
          repeat (refine ⟨by (first | (unfold maxLen; omega) | (simp; unfold maxLen; omega)), ?_⟩)
          refine ACallK.of kq ?_
          simp -implicitDefEqProofs [hs]
          try (repeat' (first | (unfold maxLen; omega) | refine ⟨?_, ?_⟩))
      · simp -implicitDefEqProofs [hs]
        repeat (refine ⟨by (first | (unfold maxLen; omega) | (simp; unfold maxLen; omega)), ?_⟩)
        refine ACallGS.of (fun h => absurd (by simpa using h) hs) (r := .x (.one (.bool false))) rfl ?_
        simp -implicitDefEqProofs [hs]
        repeat (refine ⟨by (first | (unfold maxLen; omega) | (simp; unfold maxLen; omega)), ?_⟩)
        refine ACallK.of kp ?_
        cases nq
        · simp -implicitDefEqProofs [hs]
          try (repeat' (first | (unfold maxLen; omega) | refine ⟨?_, ?_⟩))
        · simp -implicitDefEqProofs [hs]
          repeat (refine ⟨by (first | (unfold maxLen; omega) | (simp; unfold maxLen; omega)), ?_⟩)
          refine ACallK.of kq ?_
          simp -implicitDefEqProofs [hs]
          try (repeat' (first | (unfold maxLen; omega) | refine ⟨?_, ?_⟩))
    · have hpe : np.isEmpty = false := by simpa using hp
      by_cases hs : nc = [104, 116, 116, 112, 115]
      · simp -implicitDefEqProofs [hs, hp, hpe]
        repeat (refine ⟨by (first | (unfold maxLen; omega) | (simp; unfold maxLen; omega)), ?_⟩)
        refine ACallGS.of (fun _ => address_has_nil 1 []) rfl ?_
        simp -implicitDefEqProofs [hs, hp, hpe]
        repeat (refine ⟨by (first | (unfold maxLen; omega) | (simp; unfold maxLen; omega)), ?_⟩)
        refine ACallK.of kp ?_
        cases nq
        · simp -implicitDefEqProofs [hs, hp, hpe]
          try (repeat' (first | (unfold maxLen; omega) | refine ⟨?_, ?_⟩))
        · simp -implicitDefEqProofs [hs, hp, hpe]
          repeat (refine ⟨by (first | (unfold maxLen; omega) | (simp; unfold maxLen; omega)), ?_⟩)
          refine ACallK.of kq ?_
          simp -implicitDefEqProofs [hs, hp, hpe]
          try (repeat' (first | (unfold maxLen; omega) | refine ⟨?_, ?_⟩))
      · simp -implicitDefEqProofs [hs, hp, hpe]
        repeat (refine ⟨by (first | (unfold maxLen; omega) | (simp; unfold maxLen; omega)), ?_⟩)
        refine ACallGS.of (fun h => absurd (by simpa using h) hs) (r := .x (.one (.bool false))) rfl ?_
        simp -implicitDefEqProofs [hs, hp, hpe]
        repeat (refine ⟨by (first | (unfold maxLen; omega) | (simp; unfold maxLen; omega)), ?_⟩)
        refine ACallK.of kp ?_
        cases nq
        · simp -implicitDefEqProofs [hs, hp, hpe]
          try (repeat' (first | (unfold maxLen; omega) | refine ⟨?_, ?_⟩))
        · simp -implicitDefEqProofs [hs, hp, hpe]
          repeat (refine ⟨by (first | (unfold maxLen; omega) | (simp; unfold maxLen; omega)), ?_⟩)
          refine ACallK.of kq ?_
          simp -implicitDefEqProofs [hs, hp, hpe]
          try (repeat' (first | (unfold maxLen; omega) | refine ⟨?_, ?_⟩))
theorem ref1_KeyOf_nil (a : Addr) (h : addrF a = 0) : ACalls Tryz.prog 94 [.agg a.row, .one .nil] (.x (.one (.str (keyA a)))) := by
  have k1 := ref1_NormalOf a h
  obtain ⟨ls, lh, lo, lp, lq⟩ := normalA_small h
  have hK : keyA a = turnedL 46 44 (normalA a).host ++ portL (normalA a) ++ [41] ++ (if (normalA a).scheme = httpsL then [115] else []) ++ (normalA a).path ++ queryL (normalA a) := rfl
  rw [hK]
  clear hK
  generalize normalA a = N at k1 ls lh lo lp lq ⊢
  obtain ⟨sc, ho, po, pa, qu, hq, fr, hf⟩ := a
  obtain ⟨nc, no, np, na, nu, nq, nr, nf⟩ := N
  simp only at ls lh lo lp lq
  simp only [Addr.row, portL, queryL] at k1 ⊢
  have kt := ref1_turned no (by omega)
  have hTl := turnedL_len 46 44 no
  generalize turnedL 46 44 no = T at kt hTl ⊢
  have kp := ref1_pathOf_nil na (by omega)
  have kq := ref1_queryOf_nil nu (by omega)
  unfold httpsL
  refine ACalls.of mixed (fn := Tryz.f94) (by kernel_rfl) (by kernel_rfl) rfl (by kernel_rfl) (by simp [Tryz.f94]) (fun hok => ?_)
  simp -implicitDefEqProofs
  refine ACallK.of k1 ?_
  simp -implicitDefEqProofs
  refine ACallK.of (ref1_says_nil 2 []) ?_
  simp -implicitDefEqProofs
  refine ACallGS.of (fun h => by simp at h) (r := .x (.one (.bool false))) rfl ?_
  simp -implicitDefEqProofs
  refine ACallK.of kt ?_
  by_cases hp : np = []
  · subst hp
    by_cases hs : nc = [104, 116, 116, 112, 115]
    · simp -implicitDefEqProofs [hs]
      repeat (refine ⟨by (first | (unfold maxLen; omega) | (simp; unfold maxLen; omega)), ?_⟩)
      refine ACallGS.of (fun _ => ref1_says_nil 1 []) rfl ?_
      simp -implicitDefEqProofs [hs]
      repeat (refine ⟨by (first | (unfold maxLen; omega) | (simp; unfold maxLen; omega)), ?_⟩)
      refine ACallK.of kp ?_
      cases nq
      · simp -implicitDefEqProofs [hs]
        try (repeat' (first | (unfold maxLen; omega) | refine ⟨?_, ?_⟩))
      · simp -implicitDefEqProofs [hs]
        repeat (refine ⟨by (first | (unfold maxLen; omega) | (simp; unfold maxLen; omega)), ?_⟩)
        refine ACallK.of kq ?_
        simp -implicitDefEqProofs [hs]
        try (repeat' (first | (unfold maxLen; omega) | refine ⟨?_, ?_⟩))
    · simp -implicitDefEqProofs [hs]
      repeat (refine ⟨by (first | (unfold maxLen; omega) | (simp; unfold maxLen; omega)), ?_⟩)
      refine ACallGS.of (fun h => absurd (by simpa using h) hs) (r := .x (.one (.bool false))) rfl ?_
      simp -implicitDefEqProofs [hs]
      repeat (refine ⟨by (first | (unfold maxLen; omega) | (simp; unfold maxLen; omega)), ?_⟩)
      refine ACallK.of kp ?_
      cases nq
      · simp -implicitDefEqProofs [hs]
        try (repeat' (first | (unfold maxLen; omega) | refine ⟨?_, ?_⟩))
      · simp -implicitDefEqProofs [hs]
        repeat (refine ⟨by (first | (unfold maxLen; omega) | (simp; unfold maxLen; omega)), ?_⟩)
        refine ACallK.of kq ?_
        simp -implicitDefEqProofs [hs]
        try (repeat' (first | (unfold maxLen; omega) | refine ⟨?_, ?_⟩))
  · have hpe : np.isEmpty = false := by simpa using hp
    by_cases hs : nc = [104, 116, 116, 112, 115]
    · simp -implicitDefEqProofs [hs, hp, hpe]
      repeat (refine ⟨by (first | (unfold maxLen; omega) | (simp; unfold maxLen; omega)), ?_⟩)
      refine ACallGS.of (fun _ => ref1_says_nil 1 []) rfl ?_
      simp -implicitDefEqProofs [hs, hp, hpe]
      repeat (refine ⟨by (first | (unfold maxLen; omega) | (simp; unfold maxLen; omega)), ?_⟩)
      refine ACallK.of kp ?_
      cases nq
      · simp -implicitDefEqProofs [hs, hp, hpe]
        try (repeat' (first | (unfold maxLen; omega) | refine ⟨?_, ?_⟩))
      · simp -implicitDefEqProofs [hs, hp, hpe]
        repeat (refine ⟨by (first | (unfold maxLen; omega) | (simp; unfold maxLen; omega)), ?_⟩)
        refine ACallK.of kq ?_
        simp -implicitDefEqProofs [hs, hp, hpe]
        try (repeat' (first | (unfold maxLen; omega) | refine ⟨?_, ?_⟩))
    · simp -implicitDefEqProofs [hs, hp, hpe]
      repeat (refine ⟨by (first | (unfold maxLen; omega) | (simp; unfold maxLen; omega)), ?_⟩)
      refine ACallGS.of (fun h => absurd (by simpa using h) hs) (r := .x (.one (.bool false))) rfl ?_
      simp -implicitDefEqProofs [hs, hp, hpe]
      repeat (refine ⟨by (first | (unfold maxLen; omega) | (simp; unfold maxLen; omega)), ?_⟩)
      refine ACallK.of kp ?_
      cases nq
      · simp -implicitDefEqProofs [hs, hp, hpe]
        try (repeat' (first | (unfold maxLen; omega) | refine ⟨?_, ?_⟩))
      · simp -implicitDefEqProofs [hs, hp, hpe]
        repeat (refine ⟨by (first | (unfold maxLen; omega) | (simp; unfold maxLen; omega)), ?_⟩)
        refine ACallK.of kq ?_
        simp -implicitDefEqProofs [hs, hp, hpe]
        try (repeat' (first | (unfold maxLen; omega) | refine ⟨?_, ?_⟩))
end Go.Proofs.YtklnopamfncfgaaGreatDoor
namespace Go.Proofs.YtklnopamfncfgaaGreatDoor
open Go Go.Ab
set_option linter.unusedSectionVars false
variable [Amb] [HasPow10 Tryz.prog] [HasErrSyntax Tryz.prog]
set_option maxRecDepth 100000
set_option maxHeartbeats 4000000

theorem strings_CutD (s : List UInt8) (c : UInt8) : ACalls Tryz.prog 91 [.one (.str s), .one (.str [c])] (.tup [.one (.str (befC c s)), .one (.str (aftD c s)), .one (.bool (decide (c ∈ s)))]) := strings_Cut1 s c
theorem aftD_len (c : UInt8) (s : List UInt8) : (aftD c s).length ≤ s.length := by
  unfold aftD
  split
  · unfold aftC; rw [List.length_drop]; omega
  · simp
theorem ofKeyA_Fit {s : List UInt8} (h : s.length ≤ 2000) : (ofKeyA s).Fit := by
  have h1 := befC_le 41 s
  have h2 := befC_le 58 (befC 41 s)
  have h3 := aftD_len 58 (befC 41 s)
  have h4 := aftD_len 41 s
  have h5 : (tailS (aftD 41 s)).length ≤ (aftD 41 s).length := by unfold tailS; split <;> simp
  have h6 := befC_le 63 (tailS (aftD 41 s))
  have h7 := aftD_len 63 (tailS (aftD 41 s))
  have h8 := turnedL_len 44 46 (befC 58 (befC 41 s))
  refine ⟨?_, ?_, ?_, ?_, ?_, ?_⟩
  · show (if (aftD 41 s).head? = some 115 then httpsL else httpL).length ≤ _
    split <;> simp [httpsL, httpL]
  · show (turnedL 44 46 (befC 58 (befC 41 s))).length ≤ _; omega
  · show (aftD 58 (befC 41 s)).length ≤ _; omega
  · show (befC 63 (tailS (aftD 41 s))).length ≤ _; omega
  · show (aftD 63 (tailS (aftD 41 s))).length ≤ _; omega
  · show (0 : Nat) ≤ _; omega
theorem address_ofKey (s : List UInt8) : ACalls Tryz.prog 83 [.one (.str s)] (.tup [.agg (ofKeyR s).row, .one (.int .i64 (ofKeyF s))]) := by
  obtain ⟨X, eX⟩ : ∃ X, X = ofKeyR s := ⟨_, rfl⟩
  obtain ⟨F, eF⟩ : ∃ F, F = ofKeyF s := ⟨_, rfl⟩
  have eX' := eX
  unfold ofKeyR at eX'
  rw [← eF] at eX' ⊢
  rw [← eX]
  clear eX
  unfold ofKeyF at eF
  by_cases hl : 2000 < s.length
  · have hl' : (2000 < (s.length : Int)) = True := eq_true (by omega)
    rw [if_pos hl] at eF
    subst eF
    rw [if_neg (by decide)] at eX'
    subst eX'
    refine ACalls.of mixed (fn := Tryz.f83) (by kernel_rfl) (by kernel_rfl) rfl (by kernel_rfl) (by simp [Tryz.f83]) (fun hok => ?_)
    simp -implicitDefEqProofs [hl, hl', noAddr, Addr.row]
  have hl' : (2000 < (s.length : Int)) = False := eq_false (by omega)
  rw [if_neg hl] at eF
  have hfit := ofKeyA_Fit (s := s) (by omega)
  have kc := address_CheckAddress (ofKeyA s) hfit
  have kk := fun e => address_key_nil (ofKeyA s) e
  have hkO : keyOk s = (decide (addrF (ofKeyA s) = 0) && (decide (keyA (ofKeyA s) = s) && !(decide (58 ∈ befC 41 s) && decide (aftD 58 (befC 41 s) = [])))) := rfl
  have hA : ofKeyA s = ⟨if (aftD 41 s).head? = some 115 then httpsL else httpL, turnedL 44 46 (befC 58 (befC 41 s)), aftD 58 (befC 41 s), befC 63 (tailS (aftD 41 s)), aftD 63 (tailS (aftD 41 s)), decide (63 ∈ tailS (aftD 41 s)), [], false⟩ := rfl
  have hts : tailS (aftD 41 s) = if (aftD 41 s).head? = some 115 then (aftD 41 s).drop 1 else aftD 41 s := rfl
  have k1 := strings_CutD s 41
  have k2 := strings_CutD (befC 41 s) 58
  have hb1 := befC_le 41 s
  have hb2 := befC_le 58 (befC 41 s)
  have k3 := address_turned (befC 58 (befC 41 s)) 44 46 (by omega)
  have k4 := strings_CutPrefix (aftD 41 s) [115]
  rw [hasPre_head] at k4
  have k5 := strings_CutD (tailS (aftD 41 s)) 63
  generalize decide (41 ∈ s) = b41 at k1
  generalize hb58 : decide (58 ∈ befC 41 s) = b58 at k2 hkO
  generalize aftD 58 (befC 41 s) = po at k2 hkO hA
  generalize turnedL 44 46 (befC 58 (befC 41 s)) = HT at k3 hA
  generalize befC 58 (befC 41 s) = hh at k2 k3
  generalize befC 41 s = pl at k1 k2
  generalize aftD 41 s = re at k1 k4 k5 hA hts
  rw [hts] at k5 hA
  clear hts hfit
  generalize hKA : keyA (ofKeyA s) = KA at kk hkO
  generalize hFA : addrF (ofKeyA s) = FA at kc kk hkO
  rw [hA] at kc kk eX'
  clear hA hKA hFA
  unfold httpL httpsL at *
  simp only [List.length_cons, List.length_nil] at k4
  refine ACalls.of mixed (fn := Tryz.f83) (by kernel_rfl) (by kernel_rfl) rfl (by kernel_rfl) (by simp [Tryz.f83]) (fun hok => ?_)
  simp -implicitDefEqProofs [hl, hl']
  refine ACallK.of k1 ?_
  simp -implicitDefEqProofs
  refine ACallK.of k2 ?_
  simp -implicitDefEqProofs
  refine ACallK.of k3 ?_
  simp -implicitDefEqProofs
  refine ACallK.of k4 ?_
  by_cases h115 : re.head? = some 115
  · have hd : decide (re.head? = some 115) = true := by simpa using h115
    rw [hd]
    simp only [h115, if_true] at k5 kc kk eX'
    simp only [List.drop_one] at k5 kc kk eX'
    generalize befC 63 re.tail = PQ at k5 kc kk eX'
    generalize aftD 63 re.tail = QQ at k5 kc kk eX'
    generalize decide (63 ∈ re.tail) = HQ at k5 kc kk eX'
    simp only [Addr.row] at kc kk
    simp -implicitDefEqProofs
    refine ACallK.of k5 ?_
    by_cases he : b58 = true ∧ po = []
    · obtain ⟨e1, e2⟩ := he
      subst e1; subst e2
      have hk : keyOk s = false := by rw [hkO]; simp
      rw [hk, if_neg (by decide)] at eF
      subst eF
      rw [if_neg (by decide)] at eX'
      subst eX'
      simp -implicitDefEqProofs
      refine ACallGS.of (fun h => by simp at h) (r := .x (.one (.int .i64 0))) rfl ?_
      simp -implicitDefEqProofs
      refine ACallGS.of (fun h => by simp at h) (r := .x (.one (.str []))) rfl ?_
      simp -implicitDefEqProofs [noAddr, Addr.row]
    have hdec : (b58 && decide (po = [])) = false := by
      cases b58
      · rfl
      · have : ¬ po = [] := fun e => he ⟨rfl, e⟩
        simp [this]
    have hdec2 : b58 = true → po.isEmpty = false := fun e => by
      have : ¬ po = [] := fun e2 => he ⟨e, e2⟩
      simpa using this
    rw [hdec] at hkO
    by_cases hFA : FA = 0
    rotate_left
    · have f1 : (FA == 0) = false := by simpa using hFA
      have f2 : (FA != 0) = true := by simpa using hFA
      have hk : keyOk s = false := by rw [hkO]; simp [hFA]
      rw [hk, if_neg (by decide)] at eF
      subst eF
      rw [if_neg (by decide)] at eX'
      subst eX'
      cases b58
      · simp -implicitDefEqProofs
        refine ACallGS.of (fun _ => kc) rfl ?_
        simp -implicitDefEqProofs [hFA, f1, f2]
        refine ACallGS.of (fun h => by simp at h) (r := .x (.one (.str []))) rfl ?_
        simp -implicitDefEqProofs [noAddr, Addr.row]
      · have hpe := hdec2 rfl
        have hpn : ¬ po = [] := fun e => he ⟨rfl, e⟩
        simp -implicitDefEqProofs [hpe, hpn]
        refine ACallGS.of (fun _ => kc) rfl ?_
        simp -implicitDefEqProofs [hFA, f1, f2, hpe, hpn]
        refine ACallGS.of (fun h => by simp at h) (r := .x (.one (.str []))) rfl ?_
        simp -implicitDefEqProofs [noAddr, Addr.row]
    subst hFA
    have kk := kk rfl
    by_cases hK : KA = s
    · have hk : keyOk s = true := by rw [hkO, hK]; simp
      rw [hk, if_pos rfl] at eF
      subst eF
      rw [if_pos rfl] at eX'
      subst eX'
      cases b58
      · simp -implicitDefEqProofs
        refine ACallGS.of (fun _ => kc) rfl ?_
        simp -implicitDefEqProofs
        refine ACallGS.of (fun _ => kk) rfl ?_
        simp -implicitDefEqProofs [hK, Addr.row]
      · have hpe := hdec2 rfl
        have hpn : ¬ po = [] := fun e => he ⟨rfl, e⟩
        simp -implicitDefEqProofs [hpe, hpn]
        refine ACallGS.of (fun _ => kc) rfl ?_
        simp -implicitDefEqProofs [hpe, hpn]
        refine ACallGS.of (fun _ => kk) rfl ?_
        simp -implicitDefEqProofs [hK, Addr.row]
    · have hk : keyOk s = false := by rw [hkO]; simp [hK]
      rw [hk, if_neg (by decide)] at eF
      subst eF
      rw [if_neg (by decide)] at eX'
      subst eX'
      cases b58
      · simp -implicitDefEqProofs
        refine ACallGS.of (fun _ => kc) rfl ?_
        simp -implicitDefEqProofs
        refine ACallGS.of (fun _ => kk) rfl ?_
        simp -implicitDefEqProofs [hK, noAddr, Addr.row]
      · have hpe := hdec2 rfl
        have hpn : ¬ po = [] := fun e => he ⟨rfl, e⟩
        simp -implicitDefEqProofs [hpe, hpn]
        refine ACallGS.of (fun _ => kc) rfl ?_
        simp -implicitDefEqProofs [hpe, hpn]
        refine ACallGS.of (fun _ => kk) rfl ?_
        simp -implicitDefEqProofs [hK, noAddr, Addr.row]
  · have hd : decide (re.head? = some 115) = false := by simpa using h115
    rw [hd]
    simp only [h115, if_false, Bool.false_eq_true] at k5 kc kk eX'
    generalize befC 63 re = PQ at k5 kc kk eX'
    generalize aftD 63 re = QQ at k5 kc kk eX'
    generalize decide (63 ∈ re) = HQ at k5 kc kk eX'
    simp only [Addr.row] at kc kk
    simp -implicitDefEqProofs
    refine ACallK.of k5 ?_
    by_cases he : b58 = true ∧ po = []
    · obtain ⟨e1, e2⟩ := he
      subst e1; subst e2
      have hk : keyOk s = false := by rw [hkO]; simp
      rw [hk, if_neg (by decide)] at eF
      subst eF
      rw [if_neg (by decide)] at eX'
      subst eX'
      simp -implicitDefEqProofs
      refine ACallGS.of (fun h => by simp at h) (r := .x (.one (.int .i64 0))) rfl ?_
      simp -implicitDefEqProofs
      refine ACallGS.of (fun h => by simp at h) (r := .x (.one (.str []))) rfl ?_
      simp -implicitDefEqProofs [noAddr, Addr.row]
    have hdec : (b58 && decide (po = [])) = false := by
      cases b58
      · rfl
      · have : ¬ po = [] := fun e => he ⟨rfl, e⟩
        simp [this]
    have hdec2 : b58 = true → po.isEmpty = false := fun e => by
      have : ¬ po = [] := fun e2 => he ⟨e, e2⟩
      simpa using this
    rw [hdec] at hkO
    by_cases hFA : FA = 0
    rotate_left
    · have f1 : (FA == 0) = false := by simpa using hFA
      have f2 : (FA != 0) = true := by simpa using hFA
      have hk : keyOk s = false := by rw [hkO]; simp [hFA]
      rw [hk, if_neg (by decide)] at eF
      subst eF
      rw [if_neg (by decide)] at eX'
      subst eX'
      cases b58
      · simp -implicitDefEqProofs
        refine ACallGS.of (fun _ => kc) rfl ?_
        simp -implicitDefEqProofs [hFA, f1, f2]
        refine ACallGS.of (fun h => by simp at h) (r := .x (.one (.str []))) rfl ?_
        simp -implicitDefEqProofs [noAddr, Addr.row]
      · have hpe := hdec2 rfl
        have hpn : ¬ po = [] := fun e => he ⟨rfl, e⟩
        simp -implicitDefEqProofs [hpe, hpn]
        refine ACallGS.of (fun _ => kc) rfl ?_
        simp -implicitDefEqProofs [hFA, f1, f2, hpe, hpn]
        refine ACallGS.of (fun h => by simp at h) (r := .x (.one (.str []))) rfl ?_
        simp -implicitDefEqProofs [noAddr, Addr.row]
    subst hFA
    have kk := kk rfl
    by_cases hK : KA = s
    · have hk : keyOk s = true := by rw [hkO, hK]; simp
      rw [hk, if_pos rfl] at eF
      subst eF
      rw [if_pos rfl] at eX'
      subst eX'
      cases b58
      · simp -implicitDefEqProofs
        refine ACallGS.of (fun _ => kc) rfl ?_
        simp -implicitDefEqProofs
        refine ACallGS.of (fun _ => kk) rfl ?_
        simp -implicitDefEqProofs [hK, Addr.row]
      · have hpe := hdec2 rfl
        have hpn : ¬ po = [] := fun e => he ⟨rfl, e⟩
        simp -implicitDefEqProofs [hpe, hpn]
        refine ACallGS.of (fun _ => kc) rfl ?_
        simp -implicitDefEqProofs [hpe, hpn]
        refine ACallGS.of (fun _ => kk) rfl ?_
        simp -implicitDefEqProofs [hK, Addr.row]
    · have hk : keyOk s = false := by rw [hkO]; simp [hK]
      rw [hk, if_neg (by decide)] at eF
      subst eF
      rw [if_neg (by decide)] at eX'
      subst eX'
      cases b58
      · simp -implicitDefEqProofs
        refine ACallGS.of (fun _ => kc) rfl ?_
        simp -implicitDefEqProofs
        refine ACallGS.of (fun _ => kk) rfl ?_
        simp -implicitDefEqProofs [hK, noAddr, Addr.row]
      · have hpe := hdec2 rfl
        have hpn : ¬ po = [] := fun e => he ⟨rfl, e⟩
        simp -implicitDefEqProofs [hpe, hpn]
        refine ACallGS.of (fun _ => kc) rfl ?_
        simp -implicitDefEqProofs [hpe, hpn]
        refine ACallGS.of (fun _ => kk) rfl ?_
        simp -implicitDefEqProofs [hK, noAddr, Addr.row]
end Go.Proofs.YtklnopamfncfgaaGreatDoor
namespace Go.Proofs.YtklnopamfncfgaaGreatDoor
open Go Go.Ab
set_option linter.unusedSectionVars false
variable [Amb] [HasPow10 Tryz.prog] [HasErrSyntax Tryz.prog]
set_option maxRecDepth 100000
set_option maxHeartbeats 4000000

theorem keyOk_41 {s : List UInt8} (h : keyOk s = true) : 41 ∈ s := by
  rw [keyOk_ref] at h
  simp only [Bool.and_eq_true, decide_eq_true_eq] at h
  exact h.1
theorem ofKeyF_ok {s : List UInt8} (h : ofKeyF s = 0) : s.length ≤ 2000 ∧ keyOk s = true := by
  unfold ofKeyF at h
  split at h
  · cases h
  · rename_i hl
    split at h
    · rename_i hk; exact ⟨by omega, hk⟩
    · cases h
theorem address_hostOf (s : List UInt8) (h : 41 ∈ s) : ACalls Tryz.prog 152 [.one (.str s)] (.x (.one (.str (hostK s)))) := by
  have hx := strings_IndexByte s 41
  have ha : atByte s 41 = ((befC 41 s).length : Int) := by unfold atByte; rw [if_pos h]
  rw [ha] at hx
  have hb := befC_lt h
  have ht := take_bef 41 s
  have hk : hostK s = befC 41 s := rfl
  rw [hk]
  generalize befC 41 s = x at hx hb ht ⊢
  have g1 : ((x.length : Int) ≤ (s.length : Int)) = True := eq_true (by omega)
  have g2 : (x.length ≤ s.length) = True := eq_true (by omega)
  have hc : cutAt s 0 (x.length : Int) = x := by simp [cutAt, ht]
  refine ACalls.of mixed (fn := Tryz.f152) (by kernel_rfl) (by kernel_rfl) rfl (by kernel_rfl) (by simp [Tryz.f152]) (fun hok => ?_)
  simp -implicitDefEqProofs
  refine ACallK.of hx ?_
  simp -implicitDefEqProofs [g1, g2, hc, ht]
def hostR (s : List UInt8) : List UInt8 := if ofKeyF s = 0 then hostK s else []
theorem address_HostOf (s : List UInt8) : ACalls Tryz.prog 108 [.one (.str s)] (.tup [.one (.str (hostR s)), .one (.int .i64 (ofKeyF s))]) := by
  have k1 := address_ofKey s
  have hf := fun e => ofKeyF_ok (s := s) e
  unfold hostR
  generalize ofKeyF s = F at k1 hf ⊢
  generalize ofKeyR s = R at k1
  obtain ⟨sc, ho, po, pa, qu, hq, fr, hfr⟩ := R
  simp only [Addr.row] at k1
  refine ACalls.of mixed (fn := Tryz.f108) (by kernel_rfl) (by kernel_rfl) rfl (by kernel_rfl) (by simp [Tryz.f108]) (fun hok => ?_)
  simp -implicitDefEqProofs
  refine ACallK.of k1 ?_
  by_cases h0 : F = 0
  · have k2 := address_hostOf s (keyOk_41 (hf h0).2)
    simp -implicitDefEqProofs [h0]
    refine ACallK.of k2 ?_
    simp -implicitDefEqProofs [h0]
  · have hb : (F == 0) = false := by simpa using h0
    simp -implicitDefEqProofs [h0, hb]
theorem ref1_OfKey (s : List UInt8) : ACalls Tryz.prog 44 [.one (.str s)] (.tup [.agg (ofKeyR s).row, .one (.int .i64 (ofKeyF s))]) := by
  obtain ⟨X, eX⟩ : ∃ X, X = ofKeyR s := ⟨_, rfl⟩
  obtain ⟨F, eF⟩ : ∃ F, F = ofKeyF s := ⟨_, rfl⟩
  have eX' := eX
  unfold ofKeyR at eX'
  rw [← eF] at eX' ⊢
  rw [← eX]
  clear eX
  unfold ofKeyF at eF
  by_cases hl : 2000 < s.length
  · have hl' : (2000 < (s.length : Int)) = True := eq_true (by omega)
    rw [if_pos hl] at eF
    subst eF
    rw [if_neg (by decide)] at eX'
    subst eX'
    refine ACalls.of mixed (fn := Tryz.f44) (by kernel_rfl) (by kernel_rfl) rfl (by kernel_rfl) (by simp [Tryz.f44]) (fun hok => ?_)
    simp -implicitDefEqProofs [hl, hl', noAddr, Addr.row]
  have hl' : (2000 < (s.length : Int)) = False := eq_false (by omega)
  rw [if_neg hl] at eF
  have hfit := ofKeyA_Fit (s := s) (by omega)
  have kc := ref1_CheckAddress (ofKeyA s) hfit
  have kk := fun e => ref1_KeyOf_nil (ofKeyA s) e
  have hkO := keyOk_ref s
  have hA : ofKeyA s = ⟨if (aftD 41 s).head? = some 115 then httpsL else httpL, turnedL 44 46 (befC 58 (befC 41 s)), aftD 58 (befC 41 s), befC 63 (tailS (aftD 41 s)), aftD 63 (tailS (aftD 41 s)), decide (63 ∈ tailS (aftD 41 s)), [], false⟩ := rfl
  have hts : tailS (aftD 41 s) = if (aftD 41 s).head? = some 115 then (aftD 41 s).drop 1 else aftD 41 s := rfl
  have k1 := strings_CutD s 41
  have k2 := strings_CutD (befC 41 s) 58
  have hb1 := befC_le 41 s
  have hb2 := befC_le 58 (befC 41 s)
  have k3 := strings_Split1 (befC 58 (befC 41 s)) 44 (by omega)
  have hcnt := splitC_count 44 (befC 58 (befC 41 s))
  have hne := splitC_ne 44 (befC 58 (befC 41 s))
  have htl := split_join_len 44 (befC 58 (befC 41 s))
  have hT : turnedL 44 46 (befC 58 (befC 41 s)) = joinC 46 (splitC 44 (befC 58 (befC 41 s))).reverse := rfl
  have k4 := strings_HasPrefix (aftD 41 s) [115]
  rw [hasPre_head] at k4
  have k5 := strings_CutD (tailS (aftD 41 s)) 63
  rw [hT] at hA
  generalize hb41 : decide (41 ∈ s) = b41 at k1 hkO
  by_cases h41 : b41 = true
  rotate_left
  · have e41 : b41 = false := by simpa using h41
    subst e41
    rw [hkO] at eF
    simp only [Bool.false_and, Bool.false_eq_true, if_false] at eF
    subst eF
    rw [if_neg (by decide)] at eX'
    subst eX'
    refine ACalls.of mixed (fn := Tryz.f44) (by kernel_rfl) (by kernel_rfl) rfl (by kernel_rfl) (by simp [Tryz.f44]) (fun hok => ?_)
    simp -implicitDefEqProofs [hl, hl']
    refine ACallK.of k1 ?_
    simp -implicitDefEqProofs [noAddr, Addr.row]
  subst h41
  generalize decide (58 ∈ befC 41 s) = b58 at k2
  generalize aftD 58 (befC 41 s) = po at k2 hA
  generalize splitC 44 (befC 58 (befC 41 s)) = l at k3 hcnt hne htl hA
  generalize befC 58 (befC 41 s) = hh at k2 k3 hcnt htl hb2
  generalize befC 41 s = pl at k1 k2 hb1 hb2
  have hrel := aftD_len 41 s
  generalize aftD 41 s = re at k1 k4 k5 hA hts hrel
  rw [hts] at k5 hA
  clear hts hfit hT
  generalize hKA : keyA (ofKeyA s) = KA at kk hkO
  generalize hFA : addrF (ofKeyA s) = FA at kc kk hkO
  rw [hA] at kc kk eX'
  clear hA hKA hFA
  have hTd := turnS_done 46 l hne
  rw [← hTd] at kc kk eX'
  unfold httpL httpsL at *
  have w0 : IntKind.i64.wrap ((l.length : Int) - 1) = (l.length : Int) - 1 := wrapS _ (by omega)
  refine ACalls.of mixed (fn := Tryz.f44) (by kernel_rfl) (by kernel_rfl) rfl (by kernel_rfl) (by simp [Tryz.f44]) (fun hok => ?_)
  simp -implicitDefEqProofs [hl, hl']
  refine ACallK.of k1 ?_
  simp -implicitDefEqProofs
  refine ACallK.of k4 ?_
  by_cases h115 : re.head? = some 115
  · have hd : decide (re.head? = some 115) = true := by simpa using h115
    rw [hd]
    simp only [h115, if_true] at k5 kc kk eX'
    simp only [List.drop_one] at k5 kc kk eX'
    have hr1 : 0 < re.length := by cases re with | nil => cases h115 | cons a r => simp
    have g1 : (1 ≤ (re.length : Int)) = True := eq_true (by omega)
    have g1' : (1 ≤ re.length) = True := eq_true (by omega)
    simp -implicitDefEqProofs [g1, g1']
    refine AltR.l ⟨by kernel_rfl, ?_⟩
    simp -implicitDefEqProofs [g1, g1']
    refine ACallK.of k2 ?_
    simp -implicitDefEqProofs
    refine ACallK.of k3 ?_
    simp -implicitDefEqProofs [w0]
    refine ALoopS.of Nat (fun j => [(0, .x (.one (.str s))), (2, .box [.str [], .str [], .str [], .str [], .str [], .bool false, .str [], .bool false]), (5, .x (.one (.str (re.tail)))), (7, .box [.str [104, 116, 116, 112, 115], .str (turnS 46 l j), .str po, .str [], .str [], .bool false, .str [], .bool false]), (11, .x (strs l)), (12, .x (.one (.int .i64 ((j : Int) - 1))))]) (fun j => j ≤ l.length) (fun j => j) l.length (Nat.le_refl _) ?_ ?_
    · simp [w0, turnS]
    intro j hj
    cases j with
    | succ m =>
      have hm : m < l.length := by omega
      have e1 : ((m + 1 : Nat) : Int) - 1 = (m : Int) := by omega
      rw [e1]
      have hm' : ((m : Int) < (l.length : Int)) = True := eq_true (by omega)
      have h0 : (0 ≤ (m : Int)) = True := eq_true (by omega)
      have w1 : IntKind.i64.wrap ((m : Int) - 1) = (m : Int) - 1 := wrapS _ (by omega)
      have hst := turnS_step (c := 46) hm
      have hl1 := turnS_len 46 l m
      rw [hst] at hl1
      simp only [List.length_append] at hl1
      generalize turnS 46 l (m + 1) = q at hst hl1 ⊢
      have m1 : q.length + l[m].length ≤ maxLen := by unfold maxLen; omega
      have m2 : q.length + l[m].length + 1 ≤ maxLen := by unfold maxLen; omega
      have m3 : q.length + (l[m].length + 1) ≤ maxLen := by unfold maxLen; omega
      by_cases hz : m = 0
      · have g1 : (0 < (m : Int)) = False := eq_false (by omega)
        have g2 : (0 < m) = False := eq_false (by omega)
        simp only [g2, if_false, List.append_nil] at hst
        simp -implicitDefEqProofs [hm, hm', h0, m1, g1, g2, w1]
        refine AltR.l ⟨by kernel_rfl, ?_⟩
        simp -implicitDefEqProofs [hm, hm', h0, m1, g1, g2, w1]
        refine Again.of m (by omega) (by omega) ?_
        simp [hst, w1]
      · have g1 : (0 < (m : Int)) = True := eq_true (by omega)
        have g2 : (0 < m) = True := eq_true (by omega)
        simp only [g2, if_true] at hst
        simp -implicitDefEqProofs [hm, hm', h0, m1, m2, m3, g1, g2, w1]
        refine AltR.l ⟨by kernel_rfl, ?_⟩
        simp -implicitDefEqProofs [hm, hm', h0, m1, m2, m3, g1, g2, w1]
        refine Again.of m (by omega) (by omega) ?_
        simp [hst, w1]
    | zero =>
      generalize befC 63 (re.tail) = PQ at k5 kc kk eX'
      generalize aftD 63 (re.tail) = QQ at k5 kc kk eX'
      generalize decide (63 ∈ re.tail) = HQ at k5 kc kk eX'
      simp only [Addr.row] at kc kk
      generalize turnS 46 l 0 = HT at kc kk eX' ⊢
      simp -implicitDefEqProofs
      refine ACallK.of k5 ?_
      simp -implicitDefEqProofs
      refine ACallK.of kc ?_
      by_cases hFA : FA = 0
      rotate_left
      · have f1 : (FA == 0) = false := by simpa using hFA
        have f2 : (FA != 0) = true := by simpa using hFA
        have hk : keyOk s = false := by rw [hkO]; simp [hFA]
        rw [hk, if_neg (by decide)] at eF
        subst eF
        rw [if_neg (by decide)] at eX'
        subst eX'
        simp -implicitDefEqProofs [hFA, f1, f2]
        refine ACallGS.of (fun h => by simp at h) (r := .x (.one (.str []))) rfl ?_
        simp -implicitDefEqProofs [noAddr, Addr.row]
      subst hFA
      have kk := kk rfl
      by_cases hK : KA = s
      · have hk : keyOk s = true := by rw [hkO, hK]; simp
        rw [hk, if_pos rfl] at eF
        subst eF
        rw [if_pos rfl] at eX'
        subst eX'
        simp -implicitDefEqProofs
        refine ACallGS.of (fun _ => kk) rfl ?_
        simp -implicitDefEqProofs [hK, Addr.row]
      · have hk : keyOk s = false := by rw [hkO]; simp [hK]
        rw [hk, if_neg (by decide)] at eF
        subst eF
        rw [if_neg (by decide)] at eX'
        subst eX'
        simp -implicitDefEqProofs
        refine ACallGS.of (fun _ => kk) rfl ?_
        simp -implicitDefEqProofs [hK, noAddr, Addr.row]
  · have hd : decide (re.head? = some 115) = false := by simpa using h115
    rw [hd]
    simp only [h115, if_false, Bool.false_eq_true] at k5 kc kk eX'
    simp -implicitDefEqProofs
    refine ACallK.of k2 ?_
    simp -implicitDefEqProofs
    refine ACallK.of k3 ?_
    simp -implicitDefEqProofs [w0]
    refine ALoopS.of Nat (fun j => [(0, .x (.one (.str s))), (2, .box [.str [], .str [], .str [], .str [], .str [], .bool false, .str [], .bool false]), (5, .x (.one (.str (re)))), (7, .box [.str [104, 116, 116, 112], .str (turnS 46 l j), .str po, .str [], .str [], .bool false, .str [], .bool false]), (11, .x (strs l)), (12, .x (.one (.int .i64 ((j : Int) - 1))))]) (fun j => j ≤ l.length) (fun j => j) l.length (Nat.le_refl _) ?_ ?_
    · simp [w0, turnS]
    intro j hj
    cases j with
    | succ m =>
      have hm : m < l.length := by omega
      have e1 : ((m + 1 : Nat) : Int) - 1 = (m : Int) := by omega
      rw [e1]
      have hm' : ((m : Int) < (l.length : Int)) = True := eq_true (by omega)
      have h0 : (0 ≤ (m : Int)) = True := eq_true (by omega)
      have w1 : IntKind.i64.wrap ((m : Int) - 1) = (m : Int) - 1 := wrapS _ (by omega)
      have hst := turnS_step (c := 46) hm
      have hl1 := turnS_len 46 l m
      rw [hst] at hl1
      simp only [List.length_append] at hl1
      generalize turnS 46 l (m + 1) = q at hst hl1 ⊢
      have m1 : q.length + l[m].length ≤ maxLen := by unfold maxLen; omega
      have m2 : q.length + l[m].length + 1 ≤ maxLen := by unfold maxLen; omega
      have m3 : q.length + (l[m].length + 1) ≤ maxLen := by unfold maxLen; omega
      by_cases hz : m = 0
      · have g1 : (0 < (m : Int)) = False := eq_false (by omega)
        have g2 : (0 < m) = False := eq_false (by omega)
        simp only [g2, if_false, List.append_nil] at hst
        simp -implicitDefEqProofs [hm, hm', h0, m1, g1, g2, w1]
        refine AltR.l ⟨by kernel_rfl, ?_⟩
        simp -implicitDefEqProofs [hm, hm', h0, m1, g1, g2, w1]
        refine Again.of m (by omega) (by omega) ?_
        simp [hst, w1]
      · have g1 : (0 < (m : Int)) = True := eq_true (by omega)
        have g2 : (0 < m) = True := eq_true (by omega)
        simp only [g2, if_true] at hst
        simp -implicitDefEqProofs [hm, hm', h0, m1, m2, m3, g1, g2, w1]
        refine AltR.l ⟨by kernel_rfl, ?_⟩
        simp -implicitDefEqProofs [hm, hm', h0, m1, m2, m3, g1, g2, w1]
        refine Again.of m (by omega) (by omega) ?_
        simp [hst, w1]
    | zero =>
      generalize befC 63 (re) = PQ at k5 kc kk eX'
      generalize aftD 63 (re) = QQ at k5 kc kk eX'
      generalize decide (63 ∈ re) = HQ at k5 kc kk eX'
      simp only [Addr.row] at kc kk
      generalize turnS 46 l 0 = HT at kc kk eX' ⊢
      simp -implicitDefEqProofs
      refine ACallK.of k5 ?_
      simp -implicitDefEqProofs
      refine ACallK.of kc ?_
      by_cases hFA : FA = 0
      rotate_left
      · have f1 : (FA == 0) = false := by simpa using hFA
        have f2 : (FA != 0) = true := by simpa using hFA
        have hk : keyOk s = false := by rw [hkO]; simp [hFA]
        rw [hk, if_neg (by decide)] at eF
        subst eF
        rw [if_neg (by decide)] at eX'
        subst eX'
        simp -implicitDefEqProofs [hFA, f1, f2]
        refine ACallGS.of (fun h => by simp at h) (r := .x (.one (.str []))) rfl ?_
        simp -implicitDefEqProofs [noAddr, Addr.row]
      subst hFA
      have kk := kk rfl
      by_cases hK : KA = s
      · have hk : keyOk s = true := by rw [hkO, hK]; simp
        rw [hk, if_pos rfl] at eF
        subst eF
        rw [if_pos rfl] at eX'
        subst eX'
        simp -implicitDefEqProofs
        refine ACallGS.of (fun _ => kk) rfl ?_
        simp -implicitDefEqProofs [hK, Addr.row]
      · have hk : keyOk s = false := by rw [hkO]; simp [hK]
        rw [hk, if_neg (by decide)] at eF
        subst eF
        rw [if_neg (by decide)] at eX'
        subst eX'
        simp -implicitDefEqProofs
        refine ACallGS.of (fun _ => kk) rfl ?_
        simp -implicitDefEqProofs [hK, noAddr, Addr.row]
end Go.Proofs.YtklnopamfncfgaaGreatDoor
namespace Go.Proofs.YtklnopamfncfgaaGreatDoor
open Go Go.Ab
set_option linter.unusedSectionVars false
variable [Amb] [HasPow10 Tryz.prog] [HasErrSyntax Tryz.prog]
set_option maxRecDepth 100000
set_option maxHeartbeats 4000000

/-! ### Scopes -/
theorem ref1_HostOf (s : List UInt8) : ACalls Tryz.prog 111 [.one (.str s)] (.tup [.one (.str (hostR s)), .one (.int .i64 (ofKeyF s))]) := by
  have k1 := ref1_OfKey s
  have hf := fun e => ofKeyF_ok (s := s) e
  unfold hostR
  generalize ofKeyF s = F at k1 hf ⊢
  generalize ofKeyR s = R at k1
  obtain ⟨sc, ho, po, pa, qu, hq, fr, hfr⟩ := R
  simp only [Addr.row] at k1
  refine ACalls.of mixed (fn := Tryz.f111) (by kernel_rfl) (by kernel_rfl) rfl (by kernel_rfl) (by simp [Tryz.f111]) (fun hok => ?_)
  simp -implicitDefEqProofs
  refine ACallK.of k1 ?_
  by_cases h0 : F = 0
  · have h41 := keyOk_41 (hf h0).2
    have hx := strings_IndexByte s 41
    have ha : atByte s 41 = ((befC 41 s).length : Int) := by unfold atByte; rw [if_pos h41]
    rw [ha] at hx
    have hb := befC_lt h41
    have ht := take_bef 41 s
    have hk : hostK s = befC 41 s := rfl
    rw [hk]
    generalize befC 41 s = x at hx hb ht ⊢
    have g1 : ((x.length : Int) ≤ (s.length : Int)) = True := eq_true (by omega)
    have g2 : (x.length ≤ s.length) = True := eq_true (by omega)
    have hc : cutAt s 0 (x.length : Int) = x := by simp [cutAt, ht]
    simp -implicitDefEqProofs [h0]
    refine ACallK.of hx ?_
    simp -implicitDefEqProofs [h0, g1, g2, hc, ht]
  · have hb : (F == 0) = false := by simpa using h0
    simp -implicitDefEqProofs [h0, hb]
structure Scope where
  kind : Int
  key : List UInt8
  not : Bool
def Scope.row (s : Scope) : List CV := [.int .i64 s.kind, .str s.key, .bool s.not]
abbrev scopesV (l : List Scope) : XV := .one (.list 3 (l.map Scope.row))
def scopeF (s : Scope) : Int := if inB 1 4 s.kind = false then 4 else ofKeyF s.key
def scopesG : List Scope → Int
  | [] => 0
  | s :: r => if scopeF s = 0 then scopesG r else scopeF s
def scopesF (l : List Scope) : Int := if 200 < l.length then 2 else scopesG l
theorem inB_no {lo hi n : Int} (h : inB lo hi n = false) : n < lo ∨ hi < n := by
  unfold inB at h
  by_cases h1 : lo ≤ n
  · right; simp [h1] at h; exact h
  · left; omega
theorem inB_yes {lo hi n : Int} (h : inB lo hi n = true) : lo ≤ n ∧ n ≤ hi := by
  unfold inB at h
  simpa using h
theorem ref1_checkScope (s : Scope) : ACalls Tryz.prog 90 [.agg s.row] (.x (.one (.int .i64 (scopeF s)))) := by
  have k1 := ref1_OfKey s.key
  obtain ⟨ki, ke, no⟩ := s
  unfold scopeF
  simp only [Scope.row] at k1 ⊢
  generalize ofKeyF ke = F at k1 ⊢
  generalize ofKeyR ke = R at k1
  obtain ⟨sc, ho, po, pa, qu, hq, fr, hfr⟩ := R
  simp only [Addr.row] at k1
  refine ACalls.of mixed (fn := Tryz.f90) (by kernel_rfl) (by kernel_rfl) rfl (by kernel_rfl) (by simp [Tryz.f90]) (fun hok => ?_)
  cases hk : inB 1 4 ki
  · rcases inB_no hk with h | h
    · have g1 : (ki < 1) = True := eq_true h
      simp -implicitDefEqProofs [g1]
    · have g1 : (ki < 1) = False := eq_false (by omega)
      have g2 : (4 < ki) = True := eq_true h
      simp -implicitDefEqProofs [g1, g2]
  · obtain ⟨h1, h2⟩ := inB_yes hk
    have g1 : (ki < 1) = False := eq_false (by omega)
    have g2 : (4 < ki) = False := eq_false (by omega)
    simp -implicitDefEqProofs [g1, g2]
    refine ACallK.of k1 ?_
    simp -implicitDefEqProofs
theorem ref1_CheckScopes (l : List Scope) : ACalls Tryz.prog 43 [scopesV l] (.x (.one (.int .i64 (scopesF l)))) := by
  obtain ⟨X, eX⟩ : ∃ X, X = scopesF l := ⟨_, rfl⟩
  rw [← eX]
  unfold scopesF at eX
  refine ACalls.of mixed (fn := Tryz.f43) (by kernel_rfl) (by kernel_rfl) rfl (by kernel_rfl) (by simp [Tryz.f43]) (fun hok => ?_)
  by_cases hl : 200 < l.length
  · have hl' : (200 < (l.length : Int)) = True := eq_true (by omega)
    rw [if_pos hl] at eX
    subst eX
    simp -implicitDefEqProofs [hl, hl']
  have hl' : (200 < (l.length : Int)) = False := eq_false (by omega)
  rw [if_neg hl] at eX
  simp -implicitDefEqProofs [hl, hl']
  refine ALoopS.of Nat (fun i => [(0, .x (scopesV l)), (3, .x (.one (.int .i64 i)))]) (fun i => i ≤ l.length ∧ X = scopesG (l.drop i)) (fun i => l.length - i) 0 ⟨Nat.zero_le _, by simpa using eX⟩ ?_ ?_
  · simp
  rintro i ⟨hi, hX⟩
  by_cases hlt : i < l.length
  · have hlt' : ((i : Int) < (l.length : Int)) = True := eq_true (by omega)
    have wi : IntKind.i64.wrap ((i : Int) + 1) = (i : Int) + 1 := wrapS _ (by omega)
    have k1 := ref1_checkScope l[i]
    rw [List.drop_eq_getElem_cons hlt, scopesG] at hX
    have hrow : l[i].row = [.int .i64 l[i].kind, .str l[i].key, .bool l[i].not] := rfl
    rw [hrow] at k1
    simp -implicitDefEqProofs [hlt, hlt', hrow]
    refine ACallK.of k1 ?_
    by_cases h0 : scopeF l[i] = 0
    · rw [if_pos h0] at hX
      simp -implicitDefEqProofs [h0, wi]
      refine Again.of (i + 1) ⟨hlt, hX⟩ (by omega) (by simp [wi])
    · rw [if_neg h0] at hX
      subst hX
      have hb : (scopeF l[i] == 0) = false := by simpa using h0
      have hb2 : (scopeF l[i] != 0) = true := by simpa using h0
      simp -implicitDefEqProofs [h0, hb, hb2]
  · have hlt' : ((i : Int) < (l.length : Int)) = False := eq_false (by omega)
    rw [List.drop_eq_nil_of_le (by omega)] at hX
    have h0 : X = 0 := hX
    subst h0
    simp -implicitDefEqProofs [hlt']
theorem address_CheckScopes (l : List Scope) : ACalls Tryz.prog 37 [scopesV l] (.x (.one (.int .i64 (scopesF l)))) := by
  obtain ⟨X, eX⟩ : ∃ X, X = scopesF l := ⟨_, rfl⟩
  rw [← eX]
  unfold scopesF at eX
  refine ACalls.of mixed (fn := Tryz.f37) (by kernel_rfl) (by kernel_rfl) rfl (by kernel_rfl) (by simp [Tryz.f37]) (fun hok => ?_)
  by_cases hl : 200 < l.length
  · have hl' : (200 < (l.length : Int)) = True := eq_true (by omega)
    rw [if_pos hl] at eX
    subst eX
    simp -implicitDefEqProofs [hl, hl']
  have hl' : (200 < (l.length : Int)) = False := eq_false (by omega)
  rw [if_neg hl] at eX
  simp -implicitDefEqProofs [hl, hl']
  refine ALoopS.of Nat (fun i => [(10, .x (scopesV l)), (11, .x (.one (.int .i64 l.length))), (12, .x (.one (.int .i64 i)))]) (fun i => i ≤ l.length ∧ X = scopesG (l.drop i)) (fun i => l.length - i) 0 ⟨Nat.zero_le _, by simpa using eX⟩ ?_ ?_
  · simp
  rintro i ⟨hi, hX⟩
  by_cases hlt : i < l.length
  · have hlt' : ((i : Int) < (l.length : Int)) = True := eq_true (by omega)
    have wi : IntKind.i64.wrap ((i : Int) + 1) = (i : Int) + 1 := wrapS _ (by omega)
    rw [List.drop_eq_getElem_cons hlt, scopesG] at hX
    have hrow : l[i].row = [.int .i64 l[i].kind, .str l[i].key, .bool l[i].not] := rfl
    have hsF : scopeF l[i] = if inB 1 4 l[i].kind = false then 4 else ofKeyF l[i].key := rfl
    have k1 := address_ofKey l[i].key
    generalize ofKeyF l[i].key = F at k1 hsF
    generalize ofKeyR l[i].key = R at k1
    obtain ⟨sc, ho, po, pa, qu, hq, fr, hfr⟩ := R
    simp only [Addr.row] at k1
    cases hk : inB 1 4 l[i].kind
    · rw [hk, if_pos rfl] at hsF
      rw [hsF, if_neg (by decide)] at hX
      subst hX
      rcases inB_no hk with h | h
      · have g1 : (l[i].kind < 1) = True := eq_true h
        simp -implicitDefEqProofs [hlt, hlt', hrow, g1]
      · have g1 : (l[i].kind < 1) = False := eq_false (by omega)
        have g2 : (4 < l[i].kind) = True := eq_true h
        simp -implicitDefEqProofs [hlt, hlt', hrow, g1, g2]
    · rw [hk, if_neg (by decide)] at hsF
      rw [hsF] at hX
      obtain ⟨h1, h2⟩ := inB_yes hk
      have g1 : (l[i].kind < 1) = False := eq_false (by omega)
      have g2 : (4 < l[i].kind) = False := eq_false (by omega)
      simp -implicitDefEqProofs [hlt, hlt', hrow, g1, g2]
      refine ACallK.of k1 ?_
      by_cases h0 : F = 0
      · rw [if_pos h0] at hX
        simp -implicitDefEqProofs [h0, wi]
        refine Again.of (i + 1) ⟨hlt, hX⟩ (by omega) (by simp [wi])
      · rw [if_neg h0] at hX
        subst hX
        have hb : (X == 0) = false := by simpa using h0
        have hb2 : (X != 0) = true := by simpa using h0
        simp -implicitDefEqProofs [h0, hb, hb2]
  · have hlt' : ((i : Int) < (l.length : Int)) = False := eq_false (by omega)
    rw [List.drop_eq_nil_of_le (by omega)] at hX
    have h0 : X = 0 := hX
    subst h0
    simp -implicitDefEqProofs [hlt']
end Go.Proofs.YtklnopamfncfgaaGreatDoor
namespace Go.Proofs.YtklnopamfncfgaaGreatDoor
open Go Go.Ab
set_option linter.unusedSectionVars false
variable [Amb] [HasPow10 Tryz.prog] [HasErrSyntax Tryz.prog]
set_option maxRecDepth 100000
set_option maxHeartbeats 4000000

def coverB (s : Scope) (k : List UInt8) : Bool := if s.kind = 1 then decide (s.key = k) else if s.kind = 2 then hasPre k s.key else if s.kind = 3 then decide (hostK s.key = hostK k) else decide (hostK s.key = hostK k) || hasPre (hostK k) (hostK s.key ++ [44])
theorem hostK_len (s : List UInt8) : (hostK s).length ≤ s.length := befC_le 41 s
theorem address_covers (s : Scope) (k : List UInt8) (h1 : 41 ∈ s.key) (h2 : 41 ∈ k) (hl : s.key.length ≤ 2000) : ACalls Tryz.prog 87 [.agg s.row, .one (.str k)] (.x (.one (.bool (coverB s k)))) := by
  have a1 := address_hostOf s.key h1
  have a2 := address_hostOf k h2
  have hlen := hostK_len s.key
  obtain ⟨ki, ke, no⟩ := s
  unfold coverB
  simp only [Scope.row] at a1 a2 hlen hl ⊢
  generalize hostK ke = A at a1 hlen ⊢
  generalize hostK k = B at a2 ⊢
  have hm : A.length + 1 ≤ maxLen := by unfold maxLen; omega
  obtain ⟨V, eV⟩ : ∃ V, V = if ki = 1 then decide (ke = k) else if ki = 2 then hasPre k ke else if ki = 3 then decide (A = B) else decide (A = B) || hasPre B (A ++ [44]) := ⟨_, rfl⟩
  rw [← eV]
  refine ACalls.of mixed (fn := Tryz.f87) (by kernel_rfl) (by kernel_rfl) rfl (by kernel_rfl) (by simp [Tryz.f87]) (fun hok => ?_)
  by_cases c1 : ki = 1
  · rw [if_pos c1] at eV
    subst c1
    subst eV
    simp -implicitDefEqProofs
    rw [Bool.eq_iff_iff, decide_eq_true_eq, beq_iff_eq]
    try exact eq_comm
  by_cases c2 : ki = 2
  · rw [if_neg (by omega), if_pos c2] at eV
    subst c2
    subst eV
    simp -implicitDefEqProofs
    refine ACallK.of (strings_HasPrefix k ke) ?_
    simp -implicitDefEqProofs
  by_cases c3 : ki = 3
  · rw [if_neg (by omega), if_neg (by omega), if_pos c3] at eV
    subst c3
    subst eV
    simp -implicitDefEqProofs
    refine ACallK.of a2 ?_
    simp -implicitDefEqProofs
    refine ACallK.of a1 ?_
    simp -implicitDefEqProofs
    rw [Bool.eq_iff_iff, decide_eq_true_eq, beq_iff_eq]
    try exact eq_comm
  simp -implicitDefEqProofs [c1, c2, c3]
  refine ACallK.of a2 ?_
  simp -implicitDefEqProofs
  refine ACallK.of a1 ?_
  rw [if_neg c1, if_neg c2, if_neg c3] at eV
  by_cases hAB : A = B
  · subst hAB
    have eV : V = true := by rw [eV]; simp
    subst eV
    simp -implicitDefEqProofs
    refine ACallGS.of (fun h => by simp at h) (r := .x (.one (.str []))) rfl ?_
    simp -implicitDefEqProofs
    refine ACallGS.of (fun h => by simp at h) (r := .x (.one (.str []))) rfl ?_
    simp -implicitDefEqProofs
    refine ACallGS.of (fun h => by simp at h) (r := .x (.one (.bool false))) rfl ?_
    simp -implicitDefEqProofs
  · have hBA : ¬ B = A := fun e => hAB e.symm
    have eV : V = hasPre B (A ++ [44]) := by rw [eV]; simp [hAB]
    subst eV
    have b1 : (B == A) = false := by simpa using hBA
    have b2 : (A == B) = false := by simpa using hAB
    simp -implicitDefEqProofs [hAB, hBA, b1, b2]
    refine ACallGS.of (fun _ => a2) rfl ?_
    simp -implicitDefEqProofs [hAB, hBA, b1, b2]
    refine ACallGS.of (fun _ => a1) rfl ?_
    simp -implicitDefEqProofs [hAB, hBA, b1, b2, hm]
    refine ACallGS.of (fun _ => strings_HasPrefix B (A ++ [44])) rfl ?_
    simp -implicitDefEqProofs [hAB, hBA, b1, b2, hm]
theorem hostR_ok {s : List UInt8} (h : ofKeyF s = 0) : hostR s = hostK s := by unfold hostR; rw [if_pos h]
theorem ref1_CoversOf (s : Scope) (k : List UInt8) (h1 : ofKeyF s.key = 0) (h2 : ofKeyF k = 0) : ACalls Tryz.prog 95 [.agg s.row, .one (.str k)] (.x (.one (.bool (coverB s k)))) := by
  have a1 := ref1_HostOf s.key
  have a2 := ref1_HostOf k
  rw [hostR_ok h1] at a1
  rw [hostR_ok h2] at a2
  have hl := (ofKeyF_ok h1).1
  have hlen := hostK_len s.key
  obtain ⟨ki, ke, no⟩ := s
  unfold coverB
  simp only [Scope.row] at a1 a2 hlen hl ⊢
  generalize hostK ke = A at a1 hlen ⊢
  generalize hostK k = B at a2 ⊢
  have hm : A.length + 1 ≤ maxLen := by unfold maxLen; omega
  obtain ⟨V, eV⟩ : ∃ V, V = if ki = 1 then decide (ke = k) else if ki = 2 then hasPre k ke else if ki = 3 then decide (A = B) else decide (A = B) || hasPre B (A ++ [44]) := ⟨_, rfl⟩
  rw [← eV]
  refine ACalls.of mixed (fn := Tryz.f95) (by kernel_rfl) (by kernel_rfl) rfl (by kernel_rfl) (by simp [Tryz.f95]) (fun hok => ?_)
  simp -implicitDefEqProofs
  refine ACallK.of a1 ?_
  simp -implicitDefEqProofs
  refine ACallK.of a2 ?_
  by_cases c1 : ki = 1
  · rw [if_pos c1] at eV
    subst c1
    subst eV
    simp -implicitDefEqProofs
    rw [Bool.eq_iff_iff, decide_eq_true_eq, beq_iff_eq]
    try exact eq_comm
  by_cases c2 : ki = 2
  · rw [if_neg (by omega), if_pos c2] at eV
    subst c2
    subst eV
    simp -implicitDefEqProofs
    refine ACallK.of (strings_HasPrefix k ke) ?_
    simp -implicitDefEqProofs
  by_cases c3 : ki = 3
  · rw [if_neg (by omega), if_neg (by omega), if_pos c3] at eV
    subst c3
    subst eV
    simp -implicitDefEqProofs
    rw [Bool.eq_iff_iff, decide_eq_true_eq, beq_iff_eq]
    try exact eq_comm
  rw [if_neg c1, if_neg c2, if_neg c3] at eV
  by_cases hAB : A = B
  · subst hAB
    have eV : V = true := by rw [eV]; simp
    subst eV
    simp -implicitDefEqProofs [c1, c2, c3]
    refine ACallGS.of (fun h => by simp at h) (r := .x (.one (.bool false))) rfl ?_
    simp -implicitDefEqProofs
  · have hBA : ¬ B = A := fun e => hAB e.symm
    have eV : V = hasPre B (A ++ [44]) := by rw [eV]; simp [hAB]
    subst eV
    have b1 : (B == A) = false := by simpa using hBA
    have b2 : (A == B) = false := by simpa using hAB
    simp -implicitDefEqProofs [c1, c2, c3, hAB, hBA, b1, b2, hm]
    refine ACallGS.of (fun _ => strings_HasPrefix B (A ++ [44])) rfl ?_
    simp -implicitDefEqProofs [hAB, hBA, b1, b2, hm]
/-- The last scope that covers a key says whether it is in. -/
def inScopeR (k : List UInt8) : List Scope → Bool
  | [] => false
  | s :: r => if coverB s k = true then !s.not else inScopeR k r
def inScopeB (l : List Scope) (k : List UInt8) : Bool := inScopeR k l.reverse
theorem inScope_step {l : List Scope} {k : List UInt8} {m : Nat} (h : m < l.length) : inScopeR k (l.take (m + 1)).reverse = if coverB l[m] k = true then !l[m].not else inScopeR k (l.take m).reverse := by
  rw [List.take_succ_eq_append_getElem h, List.reverse_append]; rfl
theorem scopesG_ok : ∀ {l : List Scope}, scopesG l = 0 → ∀ s ∈ l, ofKeyF s.key = 0 ∧ inB 1 4 s.kind = true
  | [], _, s, hs => by cases hs
  | a :: r, h, s, hs => by
    rw [scopesG] at h
    split at h
    · rename_i h0
      rcases List.mem_cons.1 hs with rfl | hs
      · unfold scopeF at h0
        split at h0
        · cases h0
        · rename_i hk; exact ⟨h0, by simpa using hk⟩
      · exact scopesG_ok h s hs
    · rename_i h0; exact absurd h h0
theorem scopesF_ok {l : List Scope} (h : scopesF l = 0) : l.length ≤ 200 ∧ ∀ s ∈ l, ofKeyF s.key = 0 := by
  unfold scopesF at h
  split at h
  · cases h
  · rename_i hl; exact ⟨by omega, fun s hs => (scopesG_ok h s hs).1⟩
theorem ref1_InScopeOf (l : List Scope) (k : List UInt8) (hs : scopesF l = 0) (hk : ofKeyF k = 0) : ACalls Tryz.prog 45 [scopesV l, .one (.str k)] (.x (.one (.bool (inScopeB l k)))) := by
  obtain ⟨hl, hkeys⟩ := scopesF_ok hs
  obtain ⟨X, eX⟩ : ∃ X, X = inScopeB l k := ⟨_, rfl⟩
  rw [← eX]
  unfold inScopeB at eX
  refine ACalls.of mixed (fn := Tryz.f45) (by kernel_rfl) (by kernel_rfl) rfl (by kernel_rfl) (by simp [Tryz.f45]) (fun hok => ?_)
  have w0 : IntKind.i64.wrap ((l.length : Int) - 1) = (l.length : Int) - 1 := wrapS _ (by omega)
  simp -implicitDefEqProofs [w0]
  refine ALoopS.of Nat (fun n => [(0, .x (scopesV l)), (1, .x (.one (.str k))), (5, .x (.one (.int .i64 ((n : Int) - 1))))]) (fun n => n ≤ l.length ∧ X = inScopeR k (l.take n).reverse) (fun n => n) l.length ⟨Nat.le_refl _, by rw [List.take_length]; exact eX⟩ ?_ ?_
  · simp [w0]
  rintro n ⟨hn, hX⟩
  cases n with
  | zero =>
    have h : X = false := hX
    subst h
    simp -implicitDefEqProofs
  | succ m =>
    have hm : m < l.length := by omega
    have e1 : ((m + 1 : Nat) : Int) - 1 = (m : Int) := by omega
    rw [e1]
    have hm' : ((m : Int) < (l.length : Int)) = True := eq_true (by omega)
    have h0 : (0 ≤ (m : Int)) = True := eq_true (by omega)
    have w1 : IntKind.i64.wrap ((m : Int) - 1) = (m : Int) - 1 := wrapS _ (by omega)
    rw [inScope_step hm] at hX
    have hrow : l[m].row = [.int .i64 l[m].kind, .str l[m].key, .bool l[m].not] := rfl
    have k1 := ref1_CoversOf l[m] k (hkeys _ (List.getElem_mem hm)) hk
    rw [hrow] at k1
    simp -implicitDefEqProofs [hm, hm', h0, hrow]
    refine ACallK.of k1 ?_
    cases hc : coverB l[m] k
    · rw [hc, if_neg (by decide)] at hX
      simp -implicitDefEqProofs [w1]
      refine Again.of m ⟨by omega, hX⟩ (by omega) (by simp [w1])
    · rw [hc, if_pos rfl] at hX
      subst hX
      simp -implicitDefEqProofs [hm, hm', h0, hrow]
theorem address_checkKey (l : List Scope) (k : List UInt8) : ACalls Tryz.prog 85 [scopesV l, .one (.str k)] (.x (.one (.int .i64 (if scopesF l ≠ 0 then scopesF l else ofKeyF k)))) := by
  have k1 := address_CheckScopes l
  have k2 := address_ofKey k
  generalize scopesF l = F at k1 ⊢
  generalize ofKeyF k = G at k2 ⊢
  generalize ofKeyR k = R at k2
  obtain ⟨sc, ho, po, pa, qu, hq, fr, hfr⟩ := R
  simp only [Addr.row] at k2
  refine ACalls.of mixed (fn := Tryz.f85) (by kernel_rfl) (by kernel_rfl) rfl (by kernel_rfl) (by simp [Tryz.f85]) (fun hok => ?_)
  simp -implicitDefEqProofs
  refine ACallK.of k1 ?_
  by_cases h0 : F = 0
  · simp -implicitDefEqProofs [h0]
    refine ACallK.of k2 ?_
    simp -implicitDefEqProofs [h0]
  · have hb : (F == 0) = false := by simpa using h0
    simp -implicitDefEqProofs [h0, hb]
end Go.Proofs.YtklnopamfncfgaaGreatDoor
namespace Go.Proofs.YtklnopamfncfgaaGreatDoor
open Go Go.Ab
set_option linter.unusedSectionVars false
variable [Amb] [HasPow10 Tryz.prog] [HasErrSyntax Tryz.prog]
set_option maxRecDepth 100000
set_option maxHeartbeats 4000000

/-! ### Entries without those in scopes -/
def inA (sc : List Scope) (e : Entry) : Bool := decide (ofKeyF e.key = 0) && inScopeB sc e.key
def outL (l : List Entry) (sc : List Scope) : List Entry := l.filter fun e => !inA sc e
def withoutF (l : List Entry) (sc : List Scope) : Int := if entriesF l ≠ 0 then entriesF l else scopesF sc
def withoutL (l : List Entry) (sc : List Scope) : List Entry := if withoutF l sc = 0 then outL l sc else []
theorem outL_step {l : List Entry} {sc : List Scope} {i : Nat} (h : i < l.length) : outL (l.take (i + 1)) sc = outL (l.take i) sc ++ (if inA sc l[i] = true then [] else [l[i]]) := by
  unfold outL
  rw [List.take_succ_eq_append_getElem h, List.filter_append]
  cases b : inA sc l[i] <;> simp [b]
theorem ref8_Without (l : List Entry) (sc : List Scope) : ACalls Tryz.prog 13 [entries l, scopesV sc] (.tup [entries (withoutL l sc), .one (.int .i64 (withoutF l sc))]) := by
  have k1 := ref8_checkEntries l
  have k2 := ref1_CheckScopes sc
  have hsh := fun e => entriesF_short (l := l) e
  have hL : withoutL l sc = if withoutF l sc = 0 then outL l sc else [] := rfl
  have hF : withoutF l sc = if entriesF l ≠ 0 then entriesF l else scopesF sc := rfl
  have kin := fun (e : Entry) (h1 : scopesF sc = 0) (h2 : ofKeyF e.key = 0) => ref1_InScopeOf sc e.key h1 h2
  generalize withoutL l sc = X at hL ⊢
  generalize withoutF l sc = F at hL hF ⊢
  generalize entriesF l = G at k1 hsh hF
  generalize scopesF sc = H at k2 hF kin
  refine ACalls.of mixed (fn := Tryz.f13) (by kernel_rfl) (by kernel_rfl) rfl (by kernel_rfl) (by simp [Tryz.f13]) (fun hok => ?_)
  simp -implicitDefEqProofs
  refine ACallK.of k1 ?_
  by_cases hG : G = 0
  rotate_left
  · have b1 : (G == 0) = false := by simpa using hG
    rw [if_pos hG] at hF
    rw [hF, if_neg hG] at hL
    subst hF; subst hL
    simp -implicitDefEqProofs [hG, b1]
  rw [if_neg (fun e => e hG)] at hF
  have hl := hsh hG
  subst hG
  simp -implicitDefEqProofs
  refine ACallK.of k2 ?_
  by_cases hH : H = 0
  rotate_left
  · have b1 : (H == 0) = false := by simpa using hH
    rw [hF, if_neg hH] at hL
    subst hF; subst hL
    simp -implicitDefEqProofs [hH, b1]
  subst hH
  subst hF
  rw [if_pos rfl] at hL
  simp -implicitDefEqProofs
  refine ALoopS.of Nat (fun i => [(0, .x (entries l)), (1, .x (scopesV sc)), (8, .own 39 9 ((outL (l.take i) sc).map Entry.row)), (9, .x (.one (.int .i64 i)))]) (fun i => i ≤ l.length) (fun i => l.length - i) 0 (Nat.zero_le _) ?_ ?_
  · simp [outL]
  intro i hi
  have hol : (outL (l.take i) sc).length ≤ i := by
    have := List.length_filter_le (fun e => !inA sc e) (l.take i)
    unfold outL
    rw [List.length_take] at this
    omega
  by_cases hlt : i < l.length
  · have hlt' : ((i : Int) < (l.length : Int)) = True := eq_true (by omega)
    have wi : IntKind.i64.wrap ((i : Int) + 1) = (i : Int) + 1 := wrapS _ (by omega)
    have hst := outL_step (sc := sc) hlt
    have k3 := ref1_OfKey l[i].key
    have kin2 := kin l[i] rfl
    have hin : inA sc l[i] = (decide (ofKeyF l[i].key = 0) && inScopeB sc l[i].key) := rfl
    generalize outL (l.take i) sc = out at hol hst ⊢
    have hm : out.length + 1 ≤ maxLen := by unfold maxLen; omega
    have hrow : l[i].row = [.str l[i].key, .int .i64 l[i].time, .int .i64 l[i].status, .str l[i].type, .str l[i].digest, .str l[i].file, .int .i64 l[i].lo, .int .i64 l[i].hi, .bool l[i].same] := rfl
    generalize ofKeyF l[i].key = K at k3 kin2 hin
    generalize ofKeyR l[i].key = R at k3
    obtain ⟨rc, ro, rp, ra, ru, rq, rr, rf⟩ := R
    simp only [Addr.row] at k3
    simp -implicitDefEqProofs [hlt, hlt', hrow]
    refine ACallK.of k3 ?_
    by_cases hK : K = 0
    · subst hK
      have kin3 := kin2 rfl
      simp -implicitDefEqProofs [hlt, hlt', hrow]
      refine ACallGS.of (fun _ => kin3) rfl ?_
      cases hb : inScopeB sc l[i].key
      · rw [hin, hb] at hst
        simp only [Bool.and_false, Bool.false_eq_true, if_false] at hst
        simp -implicitDefEqProofs [hlt, hlt', hrow, hm, wi]
        refine ⟨by omega, Again.of (i + 1) hlt (by omega) ?_⟩
        simp [hst, hrow, wi]
      · rw [hin, hb] at hst
        simp only [decide_true, Bool.and_true, if_true, List.append_nil] at hst
        simp -implicitDefEqProofs [hlt, hlt', hrow, hm, wi]
        refine Again.of (i + 1) hlt (by omega) ?_
        simp [hst, wi]
    · have b1 : (K == 0) = false := by simpa using hK
      have b2 : (K != 0) = true := by simpa using hK
      rw [hin, show decide (K = 0) = false by simpa using hK] at hst
      simp only [Bool.false_and, Bool.false_eq_true, if_false] at hst
      simp -implicitDefEqProofs [hlt, hlt', hrow, hK, b1, b2]
      refine ACallGS.of (fun h => by simp at h) (r := .x (.one (.bool false))) rfl ?_
      simp -implicitDefEqProofs [hlt, hlt', hrow, hm, wi]
      refine ⟨by omega, Again.of (i + 1) hlt (by omega) ?_⟩
      simp [hst, hrow, wi]
  · have hlt' : ((i : Int) < (l.length : Int)) = False := eq_false (by omega)
    rw [List.take_of_length_le (by omega), ← hL]
    simp -implicitDefEqProofs [hlt']
end Go.Proofs.YtklnopamfncfgaaGreatDoor
namespace Go.Proofs.YtklnopamfncfgaaGreatDoor
open Go Go.Ab
set_option linter.unusedSectionVars false
variable [Amb] [HasPow10 Tryz.prog] [HasErrSyntax Tryz.prog]
set_option maxRecDepth 100000
set_option maxHeartbeats 4000000

/-! ### Deleting what a function tells -/
theorem tw_upto {α : Type} {q : α → Bool} {l : List α} {i : Nat} (h : Upto q l i) (hs : ∀ hlt : i < l.length, q l[i] = false) : (l.takeWhile q).length = i := by
  obtain ⟨h1, h2⟩ := h
  have e : l = l.take i ++ l.drop i := (List.take_append_drop i l).symm
  have hd : (l.drop i).takeWhile q = [] := by
    by_cases hlt : i < l.length
    · rw [List.drop_eq_getElem_cons hlt, List.takeWhile_cons_of_neg (by rw [hs hlt]; decide)]
    · rw [List.drop_eq_nil_of_le (by omega)]; rfl
  have : l.takeWhile q = l.take i := by
    conv => lhs; rw [e]
    rw [List.takeWhile_append_of_pos (fun a ha => List.all_eq_true.1 h2 a ha), hd, List.append_nil]
  rw [this, List.length_take]; omega
abbrev ownN (l : List Entry) : AV := .own 39 9 (l.map Entry.row)
abbrev wC (cs : List CV) : CV := .clo 40 [.ref cs]
def firstI (p : Entry → Bool) (l : List Entry) : Int := if (l.takeWhile fun e => !p e).length < l.length then ((l.takeWhile fun e => !p e).length : Int) else -1
theorem slices_IndexFuncE (l : List Entry) (cs : List CV) (p : Entry → Bool) (hc : ∀ e ∈ l, ACalls Tryz.prog 40 [.agg e.row, .one (.ref cs)] (.x (.one (.bool (p e))))) (hl : l.length ≤ 3000) :
    ACallsM Tryz.prog 84 [ownN l, .x (.one (wC cs))] (.x (.one (.int .i64 (firstI p l)))) [ownN l, .dead] := by
  obtain ⟨R, eR⟩ : ∃ R, R = firstI p l := ⟨_, rfl⟩
  rw [← eR]
  unfold firstI at eR
  refine ACallsM.of mixed (fn := Tryz.f84) (by kernel_rfl) (by kernel_rfl) rfl (by kernel_rfl) (by kernel_rfl) rfl (by simp [Tryz.f84]) (fun hok => ?_)
  simp -implicitDefEqProofs
  refine ALoopS.of Nat (fun i => [(0, ownN l), (1, .x (.one (wC cs))), (7, .x (.one (.int .i64 l.length))), (8, .x (.one (.int .i64 i)))]) (Upto (fun e => !p e) l) (fun i => l.length - i) 0 Upto.zero ?_ ?_
  · simp
  intro i hi
  have hle := hi.1
  by_cases hlt : i < l.length
  · have hlt' : ((i : Int) < (l.length : Int)) = True := eq_true (by omega)
    have wi : IntKind.i64.wrap ((i : Int) + 1) = (i : Int) + 1 := wrapS _ (by omega)
    have k1 := hc l[i] (List.getElem_mem hlt)
    have hrow : l[i].row = [.str l[i].key, .int .i64 l[i].time, .int .i64 l[i].status, .str l[i].type, .str l[i].digest, .str l[i].file, .int .i64 l[i].lo, .int .i64 l[i].hi, .bool l[i].same] := rfl
    rw [hrow] at k1
    simp -implicitDefEqProofs [hlt, hlt', hrow]
    refine ACallK.of k1 ?_
    cases hp : p l[i]
    · simp -implicitDefEqProofs [wi]
      refine Again.of (i + 1) (hi.step hlt (by rw [hp]; rfl)) (by omega) (by simp [wi])
    · have ht := tw_upto hi (fun _ => by rw [hp]; rfl)
      rw [ht, if_pos hlt] at eR
      subst eR
      simp -implicitDefEqProofs
  · have hlt' : ((i : Int) < (l.length : Int)) = False := eq_false (by omega)
    have ht := tw_upto hi (fun h => absurd h hlt)
    rw [ht, if_neg hlt] at eR
    subst eR
    simp -implicitDefEqProofs [hlt']
end Go.Proofs.YtklnopamfncfgaaGreatDoor
namespace Go.Proofs.YtklnopamfncfgaaGreatDoor
open Go Go.Ab
set_option linter.unusedSectionVars false
variable [Amb] [HasPow10 Tryz.prog] [HasErrSyntax Tryz.prog]
set_option maxRecDepth 100000
set_option maxHeartbeats 4000000

/-- Where the deleting has come to. -/
structure DelAt (l : List Entry) (p : Entry → Bool) (i j : Nat) (m : List Entry) : Prop where
  len : m.length = l.length
  lt : i < j
  le : j ≤ l.length
  front : m.take i = (l.take j).filter fun e => !p e
  rest : ∀ r, j ≤ r → m[r]? = l[r]?
theorem DelAt.skip {l m : List Entry} {p : Entry → Bool} {i j : Nat} (h : DelAt l p i j m) (hj : j < l.length) (hp : p l[j] = true) : DelAt l p i (j + 1) m :=
  ⟨h.len, by have := h.lt; omega, hj, by rw [h.front, List.take_succ_eq_append_getElem hj, List.filter_append]; simp [hp], fun r hr => h.rest r (by omega)⟩
theorem DelAt.keep {l m : List Entry} {p : Entry → Bool} {i j : Nat} (h : DelAt l p i j m) (hj : j < l.length) (hp : p l[j] = false) : DelAt l p (i + 1) (j + 1) (m.set i l[j]) := by
  have h1 := h.lt
  have h2 := h.len
  refine ⟨by simpa using h.len, by omega, hj, ?_, fun r hr => ?_⟩
  · rw [List.take_succ_eq_append_getElem (by simp; omega), List.take_set_of_le (Nat.le_refl _), h.front, List.take_succ_eq_append_getElem hj, List.filter_append]
    simp [hp]
  · rw [List.getElem?_set, if_neg (by omega)]
    exact h.rest r (by omega)
theorem filter_all {l : List Entry} {q : Entry → Bool} (h : l.all q = true) : l.filter q = l := by
  rw [List.filter_eq_self]
  exact fun a ha => List.all_eq_true.1 h a ha
theorem slices_DeleteFuncE (l : List Entry) (cs : List CV) (p : Entry → Bool) (hc : ∀ e ∈ l, ACalls Tryz.prog 40 [.agg e.row, .one (.ref cs)] (.x (.one (.bool (p e))))) (hl : l.length ≤ 3000) :
    ACallsM Tryz.prog 38 [ownN l, .x (.one (wC cs))] (.own 39 9 ((l.filter fun e => !p e).map Entry.row)) [.dead, .dead] := by
  have k0 := slices_IndexFuncE l cs p hc hl
  unfold firstI at k0
  obtain ⟨n, en⟩ : ∃ n, n = (l.takeWhile fun e => !p e).length := ⟨_, rfl⟩
  rw [← en] at k0
  have hwl : l.takeWhile (fun e => !p e) = l.take n := by rw [en]; exact List.prefix_iff_eq_take.1 (List.takeWhile_prefix _)
  have hall : (l.take n).all (fun e => !p e) = true := by rw [← hwl]; rw [List.all_eq_true]; exact fun x hx => List.all_eq_true.1 List.all_takeWhile x hx
  have hnl : n ≤ l.length := by rw [en]; exact (List.takeWhile_prefix _).length_le
  obtain ⟨Y, eY⟩ : ∃ Y, Y = l.filter fun e => !p e := ⟨_, rfl⟩
  rw [← eY]
  refine ACallsM.of mixed (fn := Tryz.f38) (by kernel_rfl) (by kernel_rfl) rfl (by kernel_rfl) (by kernel_rfl) rfl (by simp [Tryz.f38]) (fun hok => ?_)
  simp -implicitDefEqProofs
  by_cases hn : n < l.length
  rotate_left
  · rw [if_neg hn] at k0
    have hy : Y = l := by
      rw [eY]; rw [List.take_of_length_le (by omega)] at hall; exact filter_all hall
    subst hy
    refine ACallK.lend ?_
    simp -implicitDefEqProofs
    refine ACallM.of k0 ?_
    simp -implicitDefEqProofs
  rw [if_pos hn] at k0
  have hpn : p l[n] = true := by
    have h1 : l = l.takeWhile (fun e => !p e) ++ l.dropWhile (fun e => !p e) := (List.takeWhile_append_dropWhile).symm
    cases hd : l.dropWhile (fun e => !p e) with
    | nil =>
      rw [hd, List.append_nil] at h1
      have := congrArg List.length h1
      omega
    | cons a r =>
      have ha : (!p a) = false := by
        have := List.head?_dropWhile_not (fun e => !p e) l
        rw [hd] at this
        simpa using this
      have : l[n] = a := by
        have h2 : l[n]? = some a := by
          rw [h1, hd, List.getElem?_append_right (by omega), ← en]; simp
        rw [List.getElem?_eq_getElem hn] at h2
        exact Option.some.inj h2
      rw [this]; simpa using ha
  have w0 : IntKind.i64.wrap ((n : Int) + 1) = ((n + 1 : Nat) : Int) := by rw [wrapS _ (by omega)]; omega
  have g1 : ((n : Int) = -1) = False := eq_false (by omega)
  have g2 : ((n : Int) == -1) = false := by rw [beq_eq_false_iff_ne]; omega
  refine ACallK.lend ?_
  simp -implicitDefEqProofs
  refine ACallM.of k0 ?_
  simp -implicitDefEqProofs [g1, g2, w0]
  refine ALoopS.of (Nat × Nat × List Entry) (fun x => [(0, ownN x.2.2), (1, .x (.one (wC cs))), (5, .x (.one (.int .i64 x.1))), (6, .x (.one (.int .i64 x.2.1)))]) (fun x => DelAt l p x.1 x.2.1 x.2.2) (fun x => l.length - x.2.1) (n, n + 1, l)
    ⟨rfl, by simp, hn, by
      simp only
      rw [List.take_succ_eq_append_getElem hn, List.filter_append, filter_all hall]; simp [hpn], fun r hr => rfl⟩ ?_ ?_
  · simp [w0]
  rintro ⟨i, j, m⟩ h
  dsimp only at h ⊢
  have hlen := h.len; have hij := h.lt; have hjl := h.le
  by_cases hlt : j < l.length
  · have hlt' : ((j : Int) < (m.length : Int)) = True := eq_true (by omega)
    have hjm : j < m.length := by omega
    have him : i < m.length := by omega
    have wi : IntKind.i64.wrap ((i : Int) + 1) = (i : Int) + 1 := wrapS _ (by omega)
    have wj : IntKind.i64.wrap ((j : Int) + 1) = (j : Int) + 1 := wrapS _ (by omega)
    have hmj : m[j] = l[j] := by
      have := h.rest j (Nat.le_refl _)
      rw [List.getElem?_eq_getElem hjm, List.getElem?_eq_getElem hlt] at this
      exact Option.some.inj this
    have k1 := hc l[j] (List.getElem_mem hlt)
    have hskip := h.skip hlt
    have hkeep := h.keep hlt
    obtain ⟨x, ex⟩ : ∃ x, x = l[j] := ⟨_, rfl⟩
    rw [← ex] at hmj k1 hskip hkeep
    have hrow : x.row = [.str x.key, .int .i64 x.time, .int .i64 x.status, .str x.type, .str x.digest, .str x.file, .int .i64 x.lo, .int .i64 x.hi, .bool x.same] := rfl
    rw [hrow] at k1
    simp -implicitDefEqProofs [hlt', hjm, hmj, hrow]
    refine ACallK.of k1 ?_
    cases hp : p x
    · simp -implicitDefEqProofs [him, hjm, wi, wj]
      refine Again.of (i + 1, j + 1, m.set i x) (hkeep hp) (by dsimp only; omega) ?_
      have hd9 : m[i].row.drop 9 = [] := rfl
      simp [wi, wj, hrow, List.map_set, hd9]
    · simp -implicitDefEqProofs [him, hjm, wi, wj]
      refine Again.of (i, j + 1, m) (hskip hp) (by dsimp only; omega) (by simp [wj])
  · have hj : j = l.length := by omega
    have hlt' : ((j : Int) < (m.length : Int)) = False := eq_false (by omega)
    have hfr := h.front
    rw [hj, List.take_length, ← eY] at hfr
    have hi : i ≤ m.length := by omega
    have hi' : ((i : Int) ≤ (m.length : Int)) = True := eq_true (by omega)
    simp -implicitDefEqProofs [hlt', hi, hi']
    rw [← List.map_take, hfr]
end Go.Proofs.YtklnopamfncfgaaGreatDoor
namespace Go.Proofs.YtklnopamfncfgaaGreatDoor
open Go Go.Ab
set_option linter.unusedSectionVars false
variable [Amb] [HasPow10 Tryz.prog] [HasErrSyntax Tryz.prog]
set_option maxRecDepth 100000
set_option maxHeartbeats 4000000

def isF (sc : List Scope) (k : List UInt8) : Int := if scopesF sc ≠ 0 then scopesF sc else ofKeyF k
def isB (sc : List Scope) (k : List UInt8) : Bool := if isF sc k = 0 then inScopeB sc k else false
/-- What is asked of InScope. -/
def InScopeDoes : Prop := ∀ (sc : List Scope) (k : List UInt8), ACalls Tryz.prog 41 [scopesV sc, .one (.str k)] (.tup [.one (.bool (isB sc k)), .one (.int .i64 (isF sc k))])
theorem index_Without1 (hI : InScopeDoes) (sc : List Scope) (e : Entry) (h : scopesF sc = 0) : ACalls Tryz.prog 40 [.agg e.row, .one (.ref [.list 3 (sc.map Scope.row)])] (.x (.one (.bool (inA sc e)))) := by
  have k1 := hI sc e.key
  have hF : isF sc e.key = ofKeyF e.key := by unfold isF; rw [if_neg (fun x => x h)]
  have hB : isB sc e.key = (if ofKeyF e.key = 0 then inScopeB sc e.key else false) := by unfold isB; rw [hF]
  rw [hF, hB] at k1
  have hA : inA sc e = (decide (ofKeyF e.key = 0) && inScopeB sc e.key) := rfl
  rw [hA]
  have hrow : e.row = [.str e.key, .int .i64 e.time, .int .i64 e.status, .str e.type, .str e.digest, .str e.file, .int .i64 e.lo, .int .i64 e.hi, .bool e.same] := rfl
  rw [hrow]
  generalize ofKeyF e.key = K at k1 ⊢
  generalize inScopeB sc e.key = B at k1 ⊢
  refine ACalls.of mixed (fn := Tryz.f40) (by kernel_rfl) (by kernel_rfl) rfl (by kernel_rfl) (by simp [Tryz.f40]) (fun hok => ?_)
  simp -implicitDefEqProofs
  refine ACallK.of k1 ?_
  by_cases hK : K = 0
  · simp -implicitDefEqProofs [hK]
  · have b1 : (K == 0) = false := by simpa using hK
    simp -implicitDefEqProofs [hK, b1]
theorem slices_CloneO (l : List Entry) (hb : l.length ≤ 16777216) : ACalls Tryz.prog 39 [entries l] (.own 39 9 (l.map Entry.row)) := by
  cases l with
  | nil =>
    refine ACalls.split_list (pre := []) (post := []) ?_ ?_
    · refine ACalls.of mixed (fn := Tryz.f39) (by kernel_rfl) (by kernel_rfl) rfl (by kernel_rfl) (by simp [Tryz.f39]) (fun hok => ?_)
      simp -implicitDefEqProofs +contextual [-Bool.and_eq_false_imp, Bool.and_eq_false_iff]
    · refine ACalls.of mixed (fn := Tryz.f39) (by kernel_rfl) (by kernel_rfl) rfl (by kernel_rfl) (by simp [Tryz.f39]) (fun hok => ?_)
      simp -implicitDefEqProofs +contextual [-Bool.and_eq_false_imp, Bool.and_eq_false_iff]
  | cons x r =>
    refine ACalls.of mixed (fn := Tryz.f39) (by kernel_rfl) (by kernel_rfl) rfl (by kernel_rfl) (by simp [Tryz.f39]) (fun hok => ?_)
    simp -implicitDefEqProofs +contextual [-Bool.and_eq_false_imp, Bool.and_eq_false_iff]
    simp at hb
    unfold maxLen
    omega
end Go.Proofs.YtklnopamfncfgaaGreatDoor
namespace Go.Proofs.YtklnopamfncfgaaGreatDoor
open Go Go.Ab
set_option linter.unusedSectionVars false
variable [Amb] [HasPow10 Tryz.prog] [HasErrSyntax Tryz.prog]
set_option maxRecDepth 100000
set_option maxHeartbeats 4000000

theorem index_Without (hI : InScopeDoes) (l : List Entry) (sc : List Scope) : ACalls Tryz.prog 12 [entries l, scopesV sc] (.tup [entries (withoutL l sc), .one (.int .i64 (withoutF l sc))]) := by
  have k1 := index_checkEntries l
  have k2 := address_CheckScopes sc
  have hsh := fun e => entriesF_short (l := l) e
  have hL : withoutL l sc = if withoutF l sc = 0 then outL l sc else [] := rfl
  have hF : withoutF l sc = if entriesF l ≠ 0 then entriesF l else scopesF sc := rfl
  have k3 := fun (h : scopesF sc = 0) (hl : l.length ≤ 3000) => slices_DeleteFuncE l [.list 3 (sc.map Scope.row)] (inA sc) (fun e _ => index_Without1 hI sc e h) hl
  have k4 := fun (hl : l.length ≤ 3000) => slices_CloneO l (by omega)
  have hO : outL l sc = l.filter fun e => !inA sc e := rfl
  rw [← hO] at k3
  generalize withoutL l sc = X at hL ⊢
  generalize withoutF l sc = F at hL hF ⊢
  generalize entriesF l = G at k1 hsh hF
  generalize scopesF sc = H at k2 hF k3
  clear hO
  generalize outL l sc = Y at k3 hL
  refine ACalls.of mixed (fn := Tryz.f12) (by kernel_rfl) (by kernel_rfl) rfl (by kernel_rfl) (by simp [Tryz.f12]) (fun hok => ?_)
  simp -implicitDefEqProofs
  refine ACallK.of k1 ?_
  by_cases hG : G = 0
  rotate_left
  · have b1 : (G == 0) = false := by simpa using hG
    rw [if_pos hG] at hF
    rw [hF, if_neg hG] at hL
    subst hF; subst hL
    simp -implicitDefEqProofs [hG, b1]
  rw [if_neg (fun e => e hG)] at hF
  have hl := hsh hG
  subst hG
  simp -implicitDefEqProofs
  refine ACallK.of k2 ?_
  by_cases hH : H = 0
  rotate_left
  · have b1 : (H == 0) = false := by simpa using hH
    rw [hF, if_neg hH] at hL
    subst hF; subst hL
    simp -implicitDefEqProofs [hH, b1]
  subst hH
  subst hF
  rw [if_pos rfl] at hL
  have k5 := k3 rfl hl
  simp -implicitDefEqProofs
  refine ACallK.of (k4 hl) ?_
  simp -implicitDefEqProofs [rav_own]
  refine ACallK.lend ?_
  simp -implicitDefEqProofs
  refine ACallM.of k5 ?_
  simp -implicitDefEqProofs [rav_own, hL]
end Go.Proofs.YtklnopamfncfgaaGreatDoor
