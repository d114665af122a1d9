/- A part of the proof: lemmas and contracts of functions. -/
import Derived.Test.YtklnopamfncfgaaGreatDoorIxG22b
import Derived.Test.YtklnopamfncfgaaGreatDoorIxG22a
import Derived.Shelf.Lays
import Derived.Shelf.Strings.BuilderX
import Derived.Test.YtklnopamfncfgaaGreatDoorProg
import Derived.KernelRfl
import Derived.Shelf.Strings.Repeat
namespace Go.Proofs.YtklnopamfncfgaaGreatDoor
open Go Go.Ab
set_option linter.unusedSectionVars false
variable [Amb]
set_option maxRecDepth 100000
set_option maxHeartbeats 4000000

theorem hex_63_35 : ∀ c : UInt8, ([63, 35] : List UInt8).contains c = true → hexC c = false := u8_all (by decide +kernel)
theorem hex_35 : ∀ c : UInt8, ([35] : List UInt8).contains c = true → hexC c = false := u8_all (by decide +kernel)
theorem hex_none : ∀ c : UInt8, ([] : List UInt8).contains c = true → hexC c = false := fun c h => by cases h
theorem restR_at (t : List UInt8) (k : Nat) : restR (t.drop k) =
    (if (rowEndL [63, 35] (t.drop k)).2 = false then ⟨false, (rowEndL [63, 35] (t.drop k)).1, (t.drop k).take (rowEndL [63, 35] (t.drop k)).1, [], false, [], false⟩
    else if (tailR 63 [35] (t.drop (k + (rowEndL [63, 35] (t.drop k)).1))).1 = false then ⟨false, (rowEndL [63, 35] (t.drop k)).1 + (tailR 63 [35] (t.drop (k + (rowEndL [63, 35] (t.drop k)).1))).2.1, (t.drop k).take (rowEndL [63, 35] (t.drop k)).1, (tailR 63 [35] (t.drop (k + (rowEndL [63, 35] (t.drop k)).1))).2.2.1, (tailR 63 [35] (t.drop (k + (rowEndL [63, 35] (t.drop k)).1))).2.2.2, [], false⟩
    else ⟨(tailR 35 [] (t.drop (k + (rowEndL [63, 35] (t.drop k)).1 + (tailR 63 [35] (t.drop (k + (rowEndL [63, 35] (t.drop k)).1))).2.1))).1,
      (rowEndL [63, 35] (t.drop k)).1 + (tailR 63 [35] (t.drop (k + (rowEndL [63, 35] (t.drop k)).1))).2.1 + (tailR 35 [] (t.drop (k + (rowEndL [63, 35] (t.drop k)).1 + (tailR 63 [35] (t.drop (k + (rowEndL [63, 35] (t.drop k)).1))).2.1))).2.1,
      (t.drop k).take (rowEndL [63, 35] (t.drop k)).1, (tailR 63 [35] (t.drop (k + (rowEndL [63, 35] (t.drop k)).1))).2.2.1, (tailR 63 [35] (t.drop (k + (rowEndL [63, 35] (t.drop k)).1))).2.2.2,
      (tailR 35 [] (t.drop (k + (rowEndL [63, 35] (t.drop k)).1 + (tailR 63 [35] (t.drop (k + (rowEndL [63, 35] (t.drop k)).1))).2.1))).2.2.1, (tailR 35 [] (t.drop (k + (rowEndL [63, 35] (t.drop k)).1 + (tailR 63 [35] (t.drop (k + (rowEndL [63, 35] (t.drop k)).1))).2.1))).2.2.2⟩) := by
  unfold restR
  simp only [List.drop_drop, Nat.add_assoc]
theorem tailR_no {c : UInt8} {w s : List UInt8} (h : ¬ s.head? = some c) : tailR c w s = (true, 0, [], false) := by unfold tailR; rw [if_neg h]
theorem tailR_yes {c : UInt8} {w t : List UInt8} {k : Nat} (h : (t.drop k).head? = some c) : tailR c w (t.drop k) = ((rowEndL w (t.drop (k + 1))).2, (rowEndL w (t.drop (k + 1))).1 + 1, (t.drop (k + 1)).take (rowEndL w (t.drop (k + 1))).1, true) := by
  unfold tailR; rw [if_pos h, List.drop_drop]
theorem head_lt {t : List UInt8} {k : Nat} {c : UInt8} (h : (t.drop k).head? = some c) : k < t.length := by
  by_cases hk : k < t.length
  · exact hk
  · rw [List.drop_eq_nil_of_le (by omega)] at h; cases h
theorem reader_rest (t : List UInt8) (k : Nat) (sc ho po : List UInt8) (ht : t.length ≤ 2000) (hk : k ≤ t.length) :
    ACallsM Tryz.prog 77 [.box (rdRow t k ⟨sc, ho, po, [], [], false, [], false⟩)] (.x (.one (.bool (restR (t.drop k)).ok)))
      [.box (rdRow t (k + (restR (t.drop k)).n) ⟨sc, ho, po, (restR (t.drop k)).path, (restR (t.drop k)).query, (restR (t.drop k)).hasQ, (restR (t.drop k)).frag, (restR (t.drop k)).hasF⟩)] := by
  have hR := restR_at t k
  obtain ⟨R, eR⟩ : ∃ R, R = restR (t.drop k) := ⟨_, rfl⟩
  rw [← eR] at hR ⊢
  have hr1 := reader_row t [63, 35] k ⟨sc, ho, po, [], [], false, [], false⟩ ht hk hex_63_35
  have hP := rowEndL_le [63, 35] (t.drop k)
  obtain ⟨P, eP⟩ : ∃ P, P = rowEndL [63, 35] (t.drop k) := ⟨_, rfl⟩
  obtain ⟨pa, epa⟩ : ∃ pa, pa = (t.drop k).take P.1 := ⟨_, rfl⟩
  obtain ⟨k1, ek1⟩ : ∃ k1, k1 = k + P.1 := ⟨_, rfl⟩
  rw [← eP, ← ek1, ← epa] at hR hr1
  rw [← eP, List.length_drop] at hP
  simp only [rdRow, Addr.row] at hr1
  have hk1 : k1 ≤ t.length := by omega
  have g1 : ((k1 : Int) ≤ (t.length : Int)) = True := eq_true (by omega)
  have g1' : (k1 ≤ t.length) = True := eq_true (by omega)
  have hpre := hasPre_head (t.drop k1) 63
  clear eP eR epa
  cases bP : P.2
  · rw [if_pos bP] at hR
    refine ACallsM.of mixed (fn := Tryz.f77) (by kernel_rfl) (by kernel_rfl) rfl (by kernel_rfl) (by kernel_rfl) rfl (by simp [Tryz.f77]) (fun hok => ?_)
    simp -implicitDefEqProofs [rdRow, Addr.row]
    refine ACallM.of hr1 ?_
    rw [bP]
    simp -implicitDefEqProofs [hR, rdRow, Addr.row, ek1]
  rw [if_neg (by simp [bP])] at hR
  by_cases hq : (t.drop k1).head? = some 63
  rotate_left
  · have hqd : decide ((t.drop k1).head? = some 63) = false := by simpa using hq
    rw [hqd] at hpre
    rw [tailR_no hq] at hR
    simp only [Bool.true_eq_false, if_false, Nat.add_zero] at hR
    have hpf := hasPre_head (t.drop k1) 35
    refine ACallsM.of mixed (fn := Tryz.f77) (by kernel_rfl) (by kernel_rfl) rfl (by kernel_rfl) (by kernel_rfl) rfl (by simp [Tryz.f77]) (fun hok => ?_)
    simp -implicitDefEqProofs [rdRow, Addr.row]
    refine ACallM.of hr1 ?_
    rw [bP]
    simp -implicitDefEqProofs [g1, g1']
    refine ACallK.of (strings_HasPrefix (t.drop k1) [63]) ?_
    rw [hpre]
    by_cases hf : (t.drop k1).head? = some 35
    rotate_left
    · have hfd : decide ((t.drop k1).head? = some 35) = false := by simpa using hf
      rw [hfd] at hpf
      rw [tailR_no hf] at hR
      simp -implicitDefEqProofs [g1, g1']
      refine ACallK.of (strings_HasPrefix (t.drop k1) [35]) ?_
      rw [hpf]
      simp -implicitDefEqProofs [hR, rdRow, Addr.row, ek1]
    have hfd : decide ((t.drop k1).head? = some 35) = true := by simpa using hf
    rw [hfd] at hpf
    rw [tailR_yes hf] at hR
    have hlf := head_lt hf
    obtain ⟨m, em⟩ : ∃ m, m = k1 + 1 := ⟨_, rfl⟩
    have hr3 := reader_row t [] m ⟨sc, ho, po, pa, [], false, [], true⟩ ht (by omega) hex_none
    rw [← em] at hR
    have wm : IntKind.i64.wrap ((k1 : Int) + 1) = (m : Int) := by rw [wrapS _ (by omega)]; omega
    obtain ⟨F, eF⟩ : ∃ F, F = rowEndL [] (t.drop m) := ⟨_, rfl⟩
    rw [← eF] at hR hr3
    simp only [rdRow, Addr.row] at hr3
    simp -implicitDefEqProofs [g1, g1']
    refine ACallK.of (strings_HasPrefix (t.drop k1) [35]) ?_
    rw [hpf]
    simp -implicitDefEqProofs [wm]
    refine ACallM.of hr3 ?_
    cases bF : F.2
    · have hm2 : m + F.1 = k + R.n := by rw [hR]; simp only; omega
      simp -implicitDefEqProofs [hR, rdRow, Addr.row, bF]
      first | done | (rw [hR] at hm2; omega)
    · have hm2 : m + F.1 = k + R.n := by rw [hR]; simp only; omega
      simp -implicitDefEqProofs [hR, rdRow, Addr.row, bF]
      first | done | (rw [hR] at hm2; omega)
  have hqd : decide ((t.drop k1).head? = some 63) = true := by simpa using hq
  rw [hqd] at hpre
  rw [tailR_yes hq] at hR
  have hlq := head_lt hq
  obtain ⟨j, ej⟩ : ∃ j, j = k1 + 1 := ⟨_, rfl⟩
  have hr2 := reader_row t [35] j ⟨sc, ho, po, pa, [], true, [], false⟩ ht (by omega) hex_35
  rw [← ej] at hR
  have wj : IntKind.i64.wrap ((k1 : Int) + 1) = (j : Int) := by rw [wrapS _ (by omega)]; omega
  have hQ := rowEndL_le [35] (t.drop j)
  obtain ⟨Q, eQ⟩ : ∃ Q, Q = rowEndL [35] (t.drop j) := ⟨_, rfl⟩
  obtain ⟨qu, equ⟩ : ∃ qu, qu = (t.drop j).take Q.1 := ⟨_, rfl⟩
  obtain ⟨k2, ek2⟩ : ∃ k2, k2 = j + Q.1 := ⟨_, rfl⟩
  rw [← eQ] at hR hr2
  rw [← equ, ← ek2] at hr2
  rw [← equ] at hR
  rw [← eQ, List.length_drop] at hQ
  have hk2 : k2 ≤ t.length := by omega
  have g2 : ((k2 : Int) ≤ (t.length : Int)) = True := eq_true (by omega)
  have g2' : (k2 ≤ t.length) = True := eq_true (by omega)
  simp only [rdRow, Addr.row] at hr2
  clear eQ equ
  refine ACallsM.of mixed (fn := Tryz.f77) (by kernel_rfl) (by kernel_rfl) rfl (by kernel_rfl) (by kernel_rfl) rfl (by simp [Tryz.f77]) (fun hok => ?_)
  simp -implicitDefEqProofs [rdRow, Addr.row]
  refine ACallM.of hr1 ?_
  rw [bP]
  simp -implicitDefEqProofs [g1, g1']
  refine ACallK.of (strings_HasPrefix (t.drop k1) [63]) ?_
  rw [hpre]
  simp -implicitDefEqProofs [wj]
  refine ACallM.of hr2 ?_
  cases bQ : Q.2
  · rw [if_pos bQ] at hR
    have hm2 : k2 = k + R.n := by rw [hR]; simp only; omega
    simp -implicitDefEqProofs [hR, rdRow, Addr.row, bQ]
    first | done | (rw [hR] at hm2; omega)
  · rw [if_neg (by simp [bQ])] at hR
    simp only at hR
    have hk2n : k1 + (Q.1 + 1) = k2 := by omega
    have hk2m : k + (P.1 + (Q.1 + 1)) = k2 := by omega
    rw [hk2n] at hR
    have hpf := hasPre_head (t.drop k2) 35
    by_cases hf : (t.drop k2).head? = some 35
    rotate_left
    · have hfd : decide ((t.drop k2).head? = some 35) = false := by simpa using hf
      rw [hfd] at hpf
      rw [tailR_no hf] at hR
      simp -implicitDefEqProofs [g2, g2']
      refine ACallK.of (strings_HasPrefix (t.drop k2) [35]) ?_
      rw [hpf]
      simp -implicitDefEqProofs [hR, rdRow, Addr.row, hk2n]
      omega
    have hfd : decide ((t.drop k2).head? = some 35) = true := by simpa using hf
    rw [hfd] at hpf
    rw [tailR_yes hf] at hR
    have hlf := head_lt hf
    obtain ⟨m, em⟩ : ∃ m, m = k2 + 1 := ⟨_, rfl⟩
    have hr3 := reader_row t [] m ⟨sc, ho, po, pa, qu, true, [], true⟩ ht (by omega) hex_none
    rw [← em] at hR
    have wm : IntKind.i64.wrap ((k2 : Int) + 1) = (m : Int) := by rw [wrapS _ (by omega)]; omega
    obtain ⟨F, eF⟩ : ∃ F, F = rowEndL [] (t.drop m) := ⟨_, rfl⟩
    rw [← eF] at hR hr3
    simp only [rdRow, Addr.row] at hr3
    simp -implicitDefEqProofs [g2, g2']
    refine ACallK.of (strings_HasPrefix (t.drop k2) [35]) ?_
    rw [hpf]
    simp -implicitDefEqProofs [wm]
    refine ACallM.of hr3 ?_
    cases bF : F.2
    · have hm2 : m + F.1 = k + R.n := by rw [hR]; simp only; omega
      simp -implicitDefEqProofs [hR, rdRow, Addr.row, bF]
      first | done | (rw [hR] at hm2; omega)
    · have hm2 : m + F.1 = k + R.n := by rw [hR]; simp only; omega
      simp -implicitDefEqProofs [hR, rdRow, Addr.row, bF]
      first | done | (rw [hR] at hm2; omega)
end Go.Proofs.YtklnopamfncfgaaGreatDoor
namespace Go.Proofs.YtklnopamfncfgaaGreatDoor
open Go Go.Ab
set_option linter.unusedSectionVars false
variable [Amb]
set_option maxRecDepth 100000
set_option maxHeartbeats 4000000

theorem cut_one_at {s : List UInt8} {i : Nat} (h : i < s.length) : cutAt s (i : Int) ((i : Int) + 1) = [s[i]] := by
  rw [show ((i : Int) + 1) = ((i + 1 : Nat) : Int) from by omega, cut_nat, List.drop_eq_getElem_cons h]
  rw [show i + 1 - i = 1 from by omega]; rfl
theorem small_one (c : UInt8) : smallL [c] = [smallC c] := rfl
/-- What the reading of a scheme answers. -/
def schX (t : List UInt8) : List UInt8 × Nat × Bool := match schemeR t with
  | .ok n => (t.take n, n + 3, true)
  | .error k => ([], k, false)
def w1L : List UInt8 := [104, 116, 116, 112, 58, 47, 47]
def w2L : List UInt8 := [104, 116, 116, 112, 115, 58, 47, 47]
theorem schX_by (t : List UInt8) : schX t = if comL w1L t = 7 then (t.take 4, 7, true) else if comL w2L t = 8 then (t.take 5, 8, true) else ([], max (comL w1L t) (comL w2L t), false) := by
  have h1 : httpL ++ [58, 47, 47] = w1L := rfl
  have h2 : httpsL ++ [58, 47, 47] = w2L := rfl
  unfold schX schemeR
  rw [h1, h2]
  split
  · rename_i n h
    split at h
    · rename_i h7; injection h with h; subst h; rw [if_pos h7]
    · rename_i h7
      split at h
      · rename_i h8; injection h with h; subst h; rw [if_neg h7, if_pos h8]
      · cases h
  · rename_i n h
    split at h
    · cases h
    · rename_i h7
      split at h
      · cases h
      · rename_i h8; injection h with h; subst h; rw [if_neg h7, if_neg h8]
theorem address_scheme (t : List UInt8) (ht : t.length ≤ 4000000000000000) : ACalls Tryz.prog 75 [.one (.str t)] (.tup [.one (.str (schX t).1), .one (.int .i64 (schX t).2.1), .one (.bool (schX t).2.2)]) := by
  have hX := schX_by t
  obtain ⟨X, eX⟩ : ∃ X, X = schX t := ⟨_, rfl⟩
  rw [← eX] at hX ⊢
  clear eX
  obtain ⟨c1, ec1⟩ : ∃ c, c = comL w1L t := ⟨_, rfl⟩
  obtain ⟨c2, ec2⟩ : ∃ c, c = comL w2L t := ⟨_, rfl⟩
  rw [← ec1, ← ec2] at hX
  have W1 : IntKind.i64.wrap 1 = 1 := wrapS _ (by omega)
  have W2 : IntKind.i64.wrap 2 = 2 := wrapS _ (by omega)
  have W4 : IntKind.i64.wrap 4 = 4 := wrapS _ (by omega)
  have W5 : IntKind.i64.wrap 5 = 5 := wrapS _ (by omega)
  refine ACalls.of mixed (fn := Tryz.f75) (by kernel_rfl) (by kernel_rfl) rfl (by kernel_rfl) (by simp [Tryz.f75]) (fun hok => ?_)
  simp -implicitDefEqProofs
  refine ALoopS.of Nat (fun i => [(0, .x (.one (.str t))), (3, .x (.one (.int .i64 ((if i = 0 then 0 else if i = 1 then c1 else max c1 c2 : Nat) : Int)))), (8, .own 9 1 [[.str [104, 116, 116, 112, 58, 47, 47]], [.str [104, 116, 116, 112, 115, 58, 47, 47]]]), (9, .x (.one (.int .i64 2))), (10, .x (.one (.int .i64 i)))])
    (fun i => i = 0 ∨ (i = 1 ∧ c1 ≠ 7) ∨ (i = 2 ∧ c1 ≠ 7 ∧ c2 ≠ 8)) (fun i => 2 - i) 0 (.inl rfl) ?_ ?_
  · simp
  rintro i (rfl | ⟨rfl, n1⟩ | ⟨rfl, n1, n2⟩)
  · obtain ⟨u, eu⟩ : ∃ u, u = w1L := ⟨_, rfl⟩
    have hul : u.length = 7 := by rw [eu]; rfl
    rw [← eu] at ec1
    obtain ⟨a, ea⟩ : ∃ a : Nat, a = 0 := ⟨_, rfl⟩
    simp -implicitDefEqProofs
    refine ALoopS.of Nat (fun n => [(0, .x (.one (.str t))), (3, .x (.one (.int .i64 a))), (6, .x (.one (.str u))), (7, .x (.one (.int .i64 n))), (8, .own 9 1 [[.str [104, 116, 116, 112, 58, 47, 47]], [.str [104, 116, 116, 112, 115, 58, 47, 47]]]), (9, .x (.one (.int .i64 2))), (10, .x (.one (.int .i64 0)))])
      (ComAt u t) (fun n => u.length - n) 0 (ComAt.zero u t) ?_ ?_
    · simp [eu, ea, w1L]
    intro n hn
    have hle := hn.le
    have hle2 := hn.le2
    have w1 : IntKind.i64.wrap ((n : Int) + 1) = (n : Int) + 1 := wrapS _ (by omega)
    by_cases hu : n < u.length
    rotate_left
    · obtain ⟨hf, hnu⟩ := hn.full hu
      rw [← ec1, hul] at hf
      rw [hul] at hnu
      subst hnu
      have f1 : ((7 : Int) < (u.length : Int)) = False := eq_false (by omega)
      have f2 : ((7 : Int) = (u.length : Int)) = True := eq_true (by omega)
      have f3 : ((7 : Int) ≤ (t.length : Int)) = True := eq_true (by omega)
      have f4 : ((7 - 3 : Int) ≤ (t.length : Int)) = True := eq_true (by omega)
      rw [if_pos hf] at hX
      simp -implicitDefEqProofs [hul, f1]
      refine ACallGS.of (fun h => by cases h) (r := .x (.one (.str []))) rfl ?_
      simp -implicitDefEqProofs [hul, f1, f2, f3, f4, hX, W4, W5]
      try omega
    have hu' : ((n : Int) < (u.length : Int)) = True := eq_true (by omega)
    have hne : ((n : Int) = (u.length : Int)) = False := eq_false (by omega)
    by_cases hx : ∃ h : n < t.length, smallC t[n] = u[n]
    · obtain ⟨hlt, he⟩ := hx
      have hlt' : ((n : Int) < (t.length : Int)) = True := eq_true (by omega)
      have hlt2 : ((n : Int) ≤ (t.length : Int)) = True := eq_true (by omega)
      have hlt3 : ((n : Int) + 1 ≤ (t.length : Int)) = True := eq_true (by omega)
      have hlt4 : ((n : Int) + 1 ≤ (u.length : Int)) = True := eq_true (by omega)
      have q1 := cut_one_at hlt
      have q2 := cut_one_at hu
      have q3 : ((n : Int) ≤ (n : Int) + 1) = True := eq_true (by omega)
      have hsm := address_Small [t[n]]
      rw [small_one, he] at hsm
      simp -implicitDefEqProofs [hu', hlt', w1, hlt2, hlt3, hlt4, q1, q2, q3]
      refine ACallGS.of (fun _ => hsm) rfl ?_
      simp -implicitDefEqProofs [hu', hlt', w1, hlt2, hlt3, hlt4, q1, q2, q3]
      refine Again.of (n + 1) (hn.step hu hlt he) (by omega) (by simp [w1])
    have hcn : c1 = n := by
      rw [ec1]
      by_cases h : n < t.length
      · exact hn.miss hu h (fun he => hx ⟨h, he⟩)
      · exact hn.short h
    have K : (∃ h : n < t.length, ¬ smallC t[n] = u[n]) ∨ ¬ n < t.length := by
      by_cases h : n < t.length
      · exact .inl ⟨h, fun he => hx ⟨h, he⟩⟩
      · exact .inr h
    rcases K with ⟨hlt, he⟩ | hlt
    · have hlt' : ((n : Int) < (t.length : Int)) = True := eq_true (by omega)
      have hlt2 : ((n : Int) ≤ (t.length : Int)) = True := eq_true (by omega)
      have hlt3 : ((n : Int) + 1 ≤ (t.length : Int)) = True := eq_true (by omega)
      have hlt4 : ((n : Int) + 1 ≤ (u.length : Int)) = True := eq_true (by omega)
      have q1 := cut_one_at hlt
      have q2 := cut_one_at hu
      have q3 : ((n : Int) ≤ (n : Int) + 1) = True := eq_true (by omega)
      have hsm := address_Small [t[n]]
      rw [small_one] at hsm
      have he' : (smallC t[n] = u[n]) = False := eq_false he
      have he2 : (smallC t[n] == u[n]) = false := by rw [beq_eq_false_iff_ne]; exact he
      simp -implicitDefEqProofs [hu', hlt', w1, hlt2, hlt3, hlt4, q1, q2, q3]
      refine ACallGS.of (fun _ => hsm) rfl ?_
      simp -implicitDefEqProofs [hu', hlt', w1, hlt2, hlt3, hlt4, q1, q2, q3, he', he2, hne]
      refine Again.of 1 (.inr (.inl ⟨rfl, by omega⟩)) (by omega) ?_
      simp [ea, hcn, W1, W2]
      try omega
    · have hlt' : ((n : Int) < (t.length : Int)) = False := eq_false (by omega)
      simp -implicitDefEqProofs [hu', hlt']
      refine ACallGS.of (fun h => by cases h) (r := .x (.one (.str []))) rfl ?_
      simp -implicitDefEqProofs [hu', hlt', hne]
      refine Again.of 1 (.inr (.inl ⟨rfl, by omega⟩)) (by omega) ?_
      simp [ea, hcn, W1, W2]
      try omega
  · obtain ⟨u, eu⟩ : ∃ u, u = w2L := ⟨_, rfl⟩
    have hul : u.length = 8 := by rw [eu]; rfl
    rw [← eu] at ec2
    obtain ⟨a, ea⟩ : ∃ a : Nat, a = c1 := ⟨_, rfl⟩
    simp -implicitDefEqProofs
    refine ALoopS.of Nat (fun n => [(0, .x (.one (.str t))), (3, .x (.one (.int .i64 a))), (6, .x (.one (.str u))), (7, .x (.one (.int .i64 n))), (8, .own 9 1 [[.str [104, 116, 116, 112, 58, 47, 47]], [.str [104, 116, 116, 112, 115, 58, 47, 47]]]), (9, .x (.one (.int .i64 2))), (10, .x (.one (.int .i64 1)))])
      (ComAt u t) (fun n => u.length - n) 0 (ComAt.zero u t) ?_ ?_
    · simp [eu, ea, w2L]
    intro n hn
    have hle := hn.le
    have hle2 := hn.le2
    have w1 : IntKind.i64.wrap ((n : Int) + 1) = (n : Int) + 1 := wrapS _ (by omega)
    by_cases hu : n < u.length
    rotate_left
    · obtain ⟨hf, hnu⟩ := hn.full hu
      rw [← ec2, hul] at hf
      rw [hul] at hnu
      subst hnu
      have f1 : ((8 : Int) < (u.length : Int)) = False := eq_false (by omega)
      have f2 : ((8 : Int) = (u.length : Int)) = True := eq_true (by omega)
      have f3 : ((8 : Int) ≤ (t.length : Int)) = True := eq_true (by omega)
      have f4 : ((8 - 3 : Int) ≤ (t.length : Int)) = True := eq_true (by omega)
      rw [if_neg n1, if_pos hf] at hX
      simp -implicitDefEqProofs [hul, f1]
      refine ACallGS.of (fun h => by cases h) (r := .x (.one (.str []))) rfl ?_
      simp -implicitDefEqProofs [hul, f1, f2, f3, f4, hX, W4, W5]
      try omega
    have hu' : ((n : Int) < (u.length : Int)) = True := eq_true (by omega)
    have hne : ((n : Int) = (u.length : Int)) = False := eq_false (by omega)
    by_cases hx : ∃ h : n < t.length, smallC t[n] = u[n]
    · obtain ⟨hlt, he⟩ := hx
      have hlt' : ((n : Int) < (t.length : Int)) = True := eq_true (by omega)
      have hlt2 : ((n : Int) ≤ (t.length : Int)) = True := eq_true (by omega)
      have hlt3 : ((n : Int) + 1 ≤ (t.length : Int)) = True := eq_true (by omega)
      have hlt4 : ((n : Int) + 1 ≤ (u.length : Int)) = True := eq_true (by omega)
      have q1 := cut_one_at hlt
      have q2 := cut_one_at hu
      have q3 : ((n : Int) ≤ (n : Int) + 1) = True := eq_true (by omega)
      have hsm := address_Small [t[n]]
      rw [small_one, he] at hsm
      simp -implicitDefEqProofs [hu', hlt', w1, hlt2, hlt3, hlt4, q1, q2, q3]
      refine ACallGS.of (fun _ => hsm) rfl ?_
      simp -implicitDefEqProofs [hu', hlt', w1, hlt2, hlt3, hlt4, q1, q2, q3]
      refine Again.of (n + 1) (hn.step hu hlt he) (by omega) (by simp [w1])
    have hcn : c2 = n := by
      rw [ec2]
      by_cases h : n < t.length
      · exact hn.miss hu h (fun he => hx ⟨h, he⟩)
      · exact hn.short h
    have K : (∃ h : n < t.length, ¬ smallC t[n] = u[n]) ∨ ¬ n < t.length := by
      by_cases h : n < t.length
      · exact .inl ⟨h, fun he => hx ⟨h, he⟩⟩
      · exact .inr h
    rcases K with ⟨hlt, he⟩ | hlt
    · have hlt' : ((n : Int) < (t.length : Int)) = True := eq_true (by omega)
      have hlt2 : ((n : Int) ≤ (t.length : Int)) = True := eq_true (by omega)
      have hlt3 : ((n : Int) + 1 ≤ (t.length : Int)) = True := eq_true (by omega)
      have hlt4 : ((n : Int) + 1 ≤ (u.length : Int)) = True := eq_true (by omega)
      have q1 := cut_one_at hlt
      have q2 := cut_one_at hu
      have q3 : ((n : Int) ≤ (n : Int) + 1) = True := eq_true (by omega)
      have hsm := address_Small [t[n]]
      rw [small_one] at hsm
      have he' : (smallC t[n] = u[n]) = False := eq_false he
      have he2 : (smallC t[n] == u[n]) = false := by rw [beq_eq_false_iff_ne]; exact he
      simp -implicitDefEqProofs [hu', hlt', w1, hlt2, hlt3, hlt4, q1, q2, q3]
      refine ACallGS.of (fun _ => hsm) rfl ?_
      simp -implicitDefEqProofs [hu', hlt', w1, hlt2, hlt3, hlt4, q1, q2, q3, he', he2, hne]
      refine Again.of 2 (.inr (.inr ⟨rfl, n1, by omega⟩)) (by omega) ?_
      simp [ea, hcn, W1, W2]
      try omega
    · have hlt' : ((n : Int) < (t.length : Int)) = False := eq_false (by omega)
      simp -implicitDefEqProofs [hu', hlt']
      refine ACallGS.of (fun h => by cases h) (r := .x (.one (.str []))) rfl ?_
      simp -implicitDefEqProofs [hu', hlt', hne]
      refine Again.of 2 (.inr (.inr ⟨rfl, n1, by omega⟩)) (by omega) ?_
      simp [ea, hcn, W1, W2]
      try omega
  · rw [if_neg n1, if_neg n2] at hX
    simp -implicitDefEqProofs [hX]
end Go.Proofs.YtklnopamfncfgaaGreatDoor
namespace Go.Proofs.YtklnopamfncfgaaGreatDoor
open Go Go.Ab
set_option linter.unusedSectionVars false
variable [Amb]
set_option maxRecDepth 100000
set_option maxHeartbeats 4000000

theorem placeR_le (s : List UInt8) : (placeR s).2.1 ≤ s.length := by
  rw [placeR_eq]
  have h1 := takeWhile_len_le hostC s
  split
  · simp
  split
  · rename_i h58
    have hl := head_lt h58
    have h2 := takeWhile_len_le isDig (s.drop ((s.takeWhile hostC).length + 1))
    rw [List.length_drop] at h2
    split <;> simp only <;> omega
  · simpa using h1
theorem schemeR_le {t : List UInt8} {n : Nat} (h : schemeR t = .ok n) : n + 3 ≤ t.length := by
  unfold schemeR at h
  have h1 := (comL_le (httpL ++ [58, 47, 47]) t).2
  have h2 := (comL_le (httpsL ++ [58, 47, 47]) t).2
  split at h
  · injection h; omega
  · split at h
    · injection h; omega
    · cases h
theorem address_Read (t : List UInt8) : ACalls Tryz.prog 32 [.one (.str t)] (.tup [.agg (readAR t).1.row, .one (.int .i64 (readAR t).2.1), .one (.int .i64 (readAR t).2.2)]) := by
  obtain ⟨X, eX⟩ : ∃ X, X = readAR t := ⟨_, rfl⟩
  rw [← eX]
  unfold readAR at eX
  refine ACalls.of mixed (fn := Tryz.f32) (by kernel_rfl) (by kernel_rfl) rfl (by kernel_rfl) (by simp [Tryz.f32]) (fun hok => ?_)
  by_cases hl : 2000 < t.length
  · rw [if_pos hl] at eX
    have hl' : (2000 < (t.length : Int)) = True := eq_true (by omega)
    subst eX
    simp -implicitDefEqProofs [hl, hl', noAddr, Addr.row]
  rw [if_neg hl] at eX
  have hl' : (2000 < (t.length : Int)) = False := eq_false (by omega)
  have hsc := address_scheme t (by omega)
  unfold readA at eX
  simp -implicitDefEqProofs [hl, hl']
  refine ACallK.of hsc ?_
  cases hs : schemeR t with
  | error k =>
    have hX : schX t = ([], k, false) := by unfold schX; rw [hs]
    rw [hX]
    rw [hs] at eX
    subst eX
    simp -implicitDefEqProofs [noAddr, Addr.row]
  | ok n =>
    have hX : schX t = (t.take n, n + 3, true) := by unfold schX; rw [hs]
    have hn := schemeR_le hs
    rw [hX]
    rw [hs] at eX
    obtain ⟨k, ek⟩ : ∃ k, k = n + 3 := ⟨_, rfl⟩
    obtain ⟨sc, esc⟩ : ∃ sc, sc = t.take n := ⟨_, rfl⟩
    simp only [← ek, ← esc] at eX ⊢
    have hp := reader_place t k ⟨sc, [], [], [], [], false, [], false⟩ (by omega) (by omega) rfl
    have hpl := placeR_le (t.drop k)
    obtain ⟨P, eP⟩ : ∃ P, P = placeR (t.drop k) := ⟨_, rfl⟩
    rw [← eP] at eX hp hpl
    rw [List.length_drop] at hpl
    obtain ⟨m, em⟩ : ∃ m, m = k + P.2.1 := ⟨_, rfl⟩
    simp only [rdRow, Addr.row, ← em, List.drop_drop] at eX hp
    have hr := reader_rest t m sc P.2.2.1 P.2.2.2 (by omega) (by omega)
    simp only [rdRow, Addr.row] at hr
    obtain ⟨R, eR⟩ : ∃ R, R = restR (t.drop m) := ⟨_, rfl⟩
    rw [← eR] at eX hr
    simp -implicitDefEqProofs
    refine ACallM.of hp ?_
    cases b : P.1
    · rw [b] at eX
      simp only [if_true] at eX
      subst eX
      simp -implicitDefEqProofs [noAddr, Addr.row]
      refine AltR.r ⟨[26], by kernel_rfl, ?_⟩
      simp -implicitDefEqProofs
      rfl
    · rw [b] at eX
      simp only [Bool.true_eq_false, if_false] at eX
      simp -implicitDefEqProofs
      refine ACallM.of hr ?_
      cases bR : R.ok
      · rw [bR] at eX
        simp only [if_true] at eX
        subst eX
        simp -implicitDefEqProofs [noAddr, Addr.row]
        refine AltR.r ⟨[26], by kernel_rfl, ?_⟩
        simp -implicitDefEqProofs [em]
        rfl
      · rw [bR] at eX
        simp only [Bool.true_eq_false, if_false] at eX
        subst eX
        simp -implicitDefEqProofs [noAddr, Addr.row]
end Go.Proofs.YtklnopamfncfgaaGreatDoor
namespace Go.Proofs.YtklnopamfncfgaaGreatDoor
open Go Go.Ab
set_option linter.unusedSectionVars false
variable [Amb]
set_option maxRecDepth 100000
set_option maxHeartbeats 4000000

theorem ref1_CheckAddress (a : Addr) (h : a.Fit) : ACalls Tryz.prog 66 [.agg a.row] (.x (.one (.int .i64 (addrF a)))) := by
  refine ACalls.of mixed (fn := Tryz.f66) (by kernel_rfl) (by kernel_rfl) rfl (by kernel_rfl) (by simp [Tryz.f66]) (fun hok => ?_)
  have hwr := ref1_written a h
  obtain ⟨l1, l2, l3, l4, l5, l6⟩ := h
  obtain ⟨sc, ho, po, pa, qu, hq, fr, hf⟩ := a
  simp only [Addr.row] at hwr l1 l2 l3 l4 l5 l6 ⊢
  obtain ⟨F, eF⟩ : ∃ F, F = addrF ⟨sc, ho, po, pa, qu, hq, fr, hf⟩ := ⟨_, rfl⟩
  obtain ⟨W, eW⟩ : ∃ W, W = writeL ⟨sc, ho, po, pa, qu, hq, fr, hf⟩ := ⟨_, rfl⟩
  rw [← eF]
  rw [← eW] at hwr
  simp -implicitDefEqProofs
  refine ACallK.of (ref1_isScheme sc) ?_
  cases h1 : schemeB sc
  · rw [addrF_10 (.inl h1)] at eF
    simp -implicitDefEqProofs
    repeat first
      | (refine ACallGS.of (fun _ => ref1_IsHost ho) rfl ?_; simp -implicitDefEqProofs)
      | (refine ACallGS.of (fun _ => ref1_isPort po) rfl ?_; simp -implicitDefEqProofs)
      | (refine ACallGS.of (fun _ => ref1_IsPath pa (by omega)) rfl ?_; simp -implicitDefEqProofs)
      | (refine ACallGS.of (fun _ => ref1_IsRow qu (by omega)) rfl ?_; simp -implicitDefEqProofs)
      | (refine ACallGS.of (fun _ => ref1_IsRow fr (by omega)) rfl ?_; simp -implicitDefEqProofs)
    exact eF
  simp -implicitDefEqProofs
  refine ACallGS.of (fun _ => ref1_IsHost ho) rfl ?_
  cases h2 : hostB ho
  · rw [addrF_10 (.inr (.inl h2))] at eF
    simp -implicitDefEqProofs
    repeat first
      | (refine ACallGS.of (fun _ => ref1_IsHost ho) rfl ?_; simp -implicitDefEqProofs)
      | (refine ACallGS.of (fun _ => ref1_isPort po) rfl ?_; simp -implicitDefEqProofs)
      | (refine ACallGS.of (fun _ => ref1_IsPath pa (by omega)) rfl ?_; simp -implicitDefEqProofs)
      | (refine ACallGS.of (fun _ => ref1_IsRow qu (by omega)) rfl ?_; simp -implicitDefEqProofs)
      | (refine ACallGS.of (fun _ => ref1_IsRow fr (by omega)) rfl ?_; simp -implicitDefEqProofs)
    exact eF
  simp -implicitDefEqProofs
  by_cases h3 : po ≠ [] ∧ portV po = 0
  · rw [addrF_10 (.inr (.inr (.inl h3)))] at eF
    have k1 : (po = []) = False := eq_false h3.1
    have k2 := h3.2
    have k3 : po.isEmpty = false := by simpa using h3.1
    simp -implicitDefEqProofs [k1, k2, k3]
    refine ACallGS.of (fun _ => ref1_isPort po) rfl ?_
    simp -implicitDefEqProofs [k1, k2, k3]
    repeat first
      | (refine ACallGS.of (fun _ => ref1_IsPath pa (by omega)) rfl ?_; simp -implicitDefEqProofs)
      | (refine ACallGS.of (fun _ => ref1_IsRow qu (by omega)) rfl ?_; simp -implicitDefEqProofs)
      | (refine ACallGS.of (fun _ => ref1_IsRow fr (by omega)) rfl ?_; simp -implicitDefEqProofs)
    exact eF
  have K : ((po = []) = True ∧ po.isEmpty = true ∧ (portV po = 0) = True) ∨ ((po = []) = False ∧ po.isEmpty = false ∧ (portV po = 0) = False) := by
    by_cases hp : po = []
    · left; subst hp; exact ⟨by simp, rfl, by simp [portV]⟩
    · right; exact ⟨eq_false hp, by simpa using hp, eq_false (fun e => h3 ⟨hp, e⟩)⟩
  rcases K with ⟨k1, k3, k2⟩ | ⟨k1, k3, k2⟩
  all_goals
    simp -implicitDefEqProofs [k1, k2, k3]
    refine ACallGS.of (fun _ => ref1_isPort po) rfl ?_
    simp -implicitDefEqProofs [k1, k2, k3]
    refine ACallGS.of (fun _ => ref1_IsPath pa (by omega)) rfl ?_
    cases h4 : pathB pa
    · rw [addrF_10 (.inr (.inr (.inr (.inl h4))))] at eF
      simp -implicitDefEqProofs [k1, k2, k3]
      repeat first
        | (refine ACallGS.of (fun _ => ref1_IsPath pa (by omega)) rfl ?_; simp -implicitDefEqProofs)
        | (refine ACallGS.of (fun _ => ref1_IsRow qu (by omega)) rfl ?_; simp -implicitDefEqProofs)
        | (refine ACallGS.of (fun _ => ref1_IsRow fr (by omega)) rfl ?_; simp -implicitDefEqProofs)
      exact eF
    simp -implicitDefEqProofs [k1, k2, k3]
    refine ACallGS.of (fun _ => ref1_IsRow qu (by omega)) rfl ?_
    cases h5 : rowB [] qu
    · rw [addrF_10 (.inr (.inr (.inr (.inr (.inl h5)))))] at eF
      simp -implicitDefEqProofs [k1, k2, k3]
      repeat first
        | (refine ACallGS.of (fun _ => ref1_IsPath pa (by omega)) rfl ?_; simp -implicitDefEqProofs)
        | (refine ACallGS.of (fun _ => ref1_IsRow qu (by omega)) rfl ?_; simp -implicitDefEqProofs)
        | (refine ACallGS.of (fun _ => ref1_IsRow fr (by omega)) rfl ?_; simp -implicitDefEqProofs)
      exact eF
    simp -implicitDefEqProofs [k1, k2, k3]
    refine ACallGS.of (fun _ => ref1_IsRow fr (by omega)) rfl ?_
    cases h6 : rowB [] fr
    · rw [addrF_10 (.inr (.inr (.inr (.inr (.inr h6)))))] at eF
      simp -implicitDefEqProofs [k1, k2, k3]
      exact eF
    rw [addrF_more h1 h2 h3 h4 h5 h6, ← eW] at eF
    cases hq <;> cases hf <;> by_cases q0 : qu = [] <;> by_cases f0 : fr = []
    all_goals
      simp only [q0, f0, ne_eq, not_true_eq_false, not_false_eq_true, false_and, and_false, true_and, and_true, false_or, or_false, true_or, or_true, if_true, if_false, Bool.true_eq_false, Bool.false_eq_true, reduceCtorEq] at eF
      simp -implicitDefEqProofs [k1, k2, k3, q0, f0]
      first
        | exact eF
        | (first
            | exact ACallK.of hwr (by
                by_cases hW : 2000 < W.length
                · rw [if_pos hW] at eF
                  have hW' : (2000 < (W.length : Int)) = True := eq_true (by omega)
                  simp -implicitDefEqProofs [hW, hW']
                  exact eF
                · rw [if_neg hW] at eF
                  have hW' : (2000 < (W.length : Int)) = False := eq_false (by omega)
                  simp -implicitDefEqProofs [hW, hW']
                  exact eF)
            | (simp only [q0, f0] at hwr
               exact ACallK.of hwr (by
                by_cases hW : 2000 < W.length
                · rw [if_pos hW] at eF
                  have hW' : (2000 < (W.length : Int)) = True := eq_true (by omega)
                  simp -implicitDefEqProofs [hW, hW']
                  exact eF
                · rw [if_neg hW] at eF
                  have hW' : (2000 < (W.length : Int)) = False := eq_false (by omega)
                  simp -implicitDefEqProofs [hW, hW']
                  exact eF)))
end Go.Proofs.YtklnopamfncfgaaGreatDoor
namespace Go.Proofs.YtklnopamfncfgaaGreatDoor

/-! ### The calendar, in plain numbers -/
def leapI (y : Int) : Bool := decide (y % 4 = 0) && (decide (y % 100 ≠ 0) || decide (y % 400 = 0))
/-- Days before January 1st of a year, from 1970 on. -/
def dY (y : Int) : Int := 365 * (y - 1) + (y - 1) / 4 - (y - 1) / 100 + (y - 1) / 400 - 719162
def yLen (y : Int) : Int := if leapI y = true then 366 else 365
def mLen (y m : Int) : Int := if m = 4 ∨ m = 6 ∨ m = 9 ∨ m = 11 then 30 else if m = 2 then (if leapI y = true then 29 else 28) else 31
/-- Days before the first one of a month. -/
def dMN (y : Int) : Nat → Int
  | 0 => 0
  | n + 1 => if n = 0 then 0 else dMN y n + mLen y n
def dM (y m : Int) : Int := dMN y m.toNat
theorem dY_step (y : Int) : dY (y + 1) = dY y + yLen y := by
  unfold dY yLen leapI
  simp only [Bool.and_eq_true, Bool.or_eq_true, decide_eq_true_eq]
  split <;> omega
theorem yLen_pos (y : Int) : 365 ≤ yLen y ∧ yLen y ≤ 366 := by unfold yLen; split <;> omega
theorem dM_one (y : Int) : dM y 1 = 0 := rfl
theorem dM_step (y m : Int) (h : 1 ≤ m) : dM y (m + 1) = dM y m + mLen y m := by
  unfold dM
  obtain ⟨n, rfl⟩ : ∃ n : Nat, m = (n : Int) + 1 := ⟨(m - 1).toNat, by omega⟩
  have e1 : ((n : Int) + 1 + 1).toNat = n + 2 := by omega
  have e2 : ((n : Int) + 1).toNat = n + 1 := by omega
  rw [e1, e2]
  show (if n + 1 = 0 then 0 else dMN y (n + 1) + mLen y ((n + 1 : Nat) : Int)) = _
  rw [if_neg (by omega)]
  congr 1
theorem mLen_pos (y m : Int) : 28 ≤ mLen y m ∧ mLen y m ≤ 31 := by unfold mLen; repeat' split <;> omega
theorem dM_year (y : Int) : dM y 13 = yLen y := by
  have h := fun m h => dM_step y m h
  have h1 := h 1 (by omega); have h2 := h 2 (by omega); have h3 := h 3 (by omega); have h4 := h 4 (by omega); have h5 := h 5 (by omega); have h6 := h 6 (by omega)
  have h7 := h 7 (by omega); have h8 := h 8 (by omega); have h9 := h 9 (by omega); have h10 := h 10 (by omega); have h11 := h 11 (by omega); have h12 := h 12 (by omega)
  simp only [mLen, Int.reduceAdd] at h1 h2 h3 h4 h5 h6 h7 h8 h9 h10 h11 h12
  rw [dM_one] at h1
  unfold yLen
  cases hl : leapI y <;> simp [hl] at * <;> omega
theorem dM_mono (y : Int) {a b : Int} (ha : 1 ≤ a) (h : a ≤ b) : dM y a ≤ dM y b := by
  obtain ⟨n, rfl⟩ : ∃ n : Nat, b = a + n := ⟨(b - a).toNat, by omega⟩
  clear h
  induction n with
  | zero => simp
  | succ n ih =>
    have := dM_step y (a + n) (by omega)
    have := mLen_pos y (a + n)
    rw [show a + ((n + 1 : Nat) : Int) = a + n + 1 by omega]
    omega
theorem dY_mono {a b : Int} (h : a ≤ b) : dY a ≤ dY b := by
  obtain ⟨n, rfl⟩ : ∃ n : Nat, b = a + n := ⟨(b - a).toNat, by omega⟩
  clear h
  induction n with
  | zero => simp
  | succ n ih =>
    have := dY_step (a + n)
    have := yLen_pos (a + n)
    rw [show a + ((n + 1 : Nat) : Int) = a + n + 1 by omega]
    omega

/-- A day by the calendar. -/
structure IsCiv (day y m d : Int) : Prop where
  y0 : 1970 ≤ y
  lo : dY y ≤ day
  hi : day < dY (y + 1)
  m0 : 1 ≤ m
  m1 : m ≤ 12
  ml : dY y + dM y m ≤ day
  mh : day < dY y + dM y (m + 1)
  dd : d = day - dY y - dM y m + 1
theorem IsCiv.d {day y m d : Int} (h : IsCiv day y m d) : 1 ≤ d ∧ d ≤ mLen y m := by
  have := dM_step y m h.m0; have := h.ml; have := h.mh; have := h.dd
  omega
theorem IsCiv.year {day y m d : Int} (h : IsCiv day y m d) {z : Int} (h1 : dY z ≤ day) (h2 : day < dY (z + 1)) : z = y := by
  have a1 := h.lo; have a2 := h.hi
  by_cases hz : z = y
  · exact hz
  · rcases Int.lt_or_lt_of_ne hz with hlt | hlt
    · have := dY_mono (a := z + 1) (b := y) (by omega); omega
    · have := dY_mono (a := y + 1) (b := z) (by omega); omega
theorem IsCiv.month {day y m d : Int} (h : IsCiv day y m d) {n : Int} (h0 : 1 ≤ n) (h1 : dY y + dM y n ≤ day) (h2 : day < dY y + dM y (n + 1)) : n = m := by
  have a1 := h.ml; have a2 := h.mh
  have := h.m0
  by_cases hz : n = m
  · exact hz
  · rcases Int.lt_or_lt_of_ne hz with hlt | hlt
    · have := dM_mono y (a := n + 1) (b := m) (by omega) (by omega); omega
    · have := dM_mono y (a := m + 1) (b := n) (by omega) (by omega); omega
theorem IsCiv.unique {day y m d z n e : Int} (h : IsCiv day y m d) (k : IsCiv day z n e) : z = y ∧ n = m ∧ e = d := by
  have h1 := h.year k.lo k.hi
  subst h1
  have h2 := h.month k.m0 k.ml k.mh
  subst h2
  exact ⟨rfl, rfl, k.dd.trans h.dd.symm⟩
def yearN : Nat → Int
  | 0 => 1970
  | n + 1 => if ((n + 1 : Nat) : Int) < dY (yearN n + 1) then yearN n else yearN n + 1
theorem yearN_ok (n : Nat) : 1970 ≤ yearN n ∧ dY (yearN n) ≤ n ∧ (n : Int) < dY (yearN n + 1) := by
  induction n with
  | zero => exact ⟨by decide, by decide, by decide⟩
  | succ n ih =>
    obtain ⟨h0, h1, h2⟩ := ih
    unfold yearN
    split
    · rename_i h
      exact ⟨h0, by omega, h⟩
    · have := dY_step (yearN n + 1)
      have := yLen_pos (yearN n + 1)
      exact ⟨by omega, by omega, by omega⟩
theorem civ_month (y r : Int) (h0 : 0 ≤ r) (h1 : r < yLen y) : ∃ m, 1 ≤ m ∧ m ≤ 12 ∧ dM y m ≤ r ∧ r < dM y (m + 1) := by
  have key : ∀ n : Nat, n ≤ 11 → (∃ m, 1 ≤ m ∧ m ≤ 12 ∧ dM y m ≤ r ∧ r < dM y (m + 1)) ∨ dM y ((n : Int) + 2) ≤ r := by
    intro n
    induction n with
    | zero =>
      intro _
      by_cases h : r < dM y 2
      · exact .inl ⟨1, by omega, by omega, by rw [dM_one]; exact h0, h⟩
      · exact .inr (by simpa using h)
    | succ n ih =>
      intro hn
      rcases ih (by omega) with h | h
      · exact .inl h
      · by_cases h' : r < dM y ((n : Int) + 2 + 1)
        · exact .inl ⟨(n : Int) + 2, by omega, by omega, h, h'⟩
        · refine .inr ?_
          rw [show ((n + 1 : Nat) : Int) + 2 = (n : Int) + 2 + 1 by omega]
          omega
  rcases key 11 (by omega) with h | h
  · exact h
  · have := dM_year y
    have e : dM y (((11 : Nat) : Int) + 2) = dM y 13 := rfl
    omega
def yearOf (day : Int) : Int := yearN day.toNat
def monthOf (day : Int) : Int := ((((List.range 12).find? (fun (k : Nat) => decide (day < dY (yearOf day) + dM (yearOf day) ((k : Int) + 2)))).getD 0 : Nat) : Int) + 1
def dayOf (day : Int) : Int := day - dY (yearOf day) - dM (yearOf day) (monthOf day) + 1
theorem civ_ok (day : Int) (h : 0 ≤ day) : IsCiv day (yearOf day) (monthOf day) (dayOf day) := by
  have hy := yearN_ok day.toNat
  rw [show ((day.toNat : Nat) : Int) = day by omega] at hy
  obtain ⟨h0, h1, h2⟩ := hy
  have hs := dY_step (yearN day.toNat)
  obtain ⟨m, m0, m1, m2, m3⟩ := civ_month (yearN day.toNat) (day - dY (yearN day.toNat)) (by omega) (by omega)
  have hm : monthOf day = m := by
    have hfind : (List.range 12).find? (fun (k : Nat) => decide (day < dY (yearOf day) + dM (yearOf day) ((k : Int) + 2))) = some (m - 1).toNat := by
      rw [List.find?_eq_some_iff_getElem]
      refine ⟨?_, (m - 1).toNat, by simp; omega, by simp, fun j hj => ?_⟩
      · have e2 : (((m - 1).toNat : Nat) : Int) + 2 = m + 1 := by omega
        have : day < dY (yearOf day) + dM (yearOf day) ((((m - 1).toNat : Nat) : Int) + 2) := by rw [e2]; simp only [yearOf]; omega
        simpa using this
      · have hj' : (j : Int) + 2 ≤ m := by omega
        have := dM_mono (yearN day.toNat) (a := (j : Int) + 2) (b := m) (by omega) hj'
        simp only [List.getElem_range, yearOf]
        simp; omega
    unfold monthOf
    rw [hfind]
    simp only [Option.getD_some]
    omega
  unfold dayOf
  rw [hm]
  exact ⟨h0, h1, h2, m0, m1, by unfold yearOf; omega, by unfold yearOf; omega, rfl⟩
theorem IsCiv.top {day y m d : Int} (h : IsCiv day y m d) (hd : day ≤ 2932896) : y ≤ 9999 := by
  refine Classical.byContradiction fun hn => ?_
  have h1 := dY_mono (a := 10000) (b := y) (by omega)
  have h2 : dY 10000 = 2932897 := by decide
  have := h.lo
  omega
theorem IsCiv.back {y m d : Int} (h0 : 1970 ≤ y) (m0 : 1 ≤ m) (m1 : m ≤ 12) (d0 : 1 ≤ d) (d1 : d ≤ mLen y m) : IsCiv (dY y + dM y m + d - 1) y m d := by
  have hs := dM_step y m m0
  have h1 := dM_mono y (a := 1) (b := m) (by omega) m0
  have h2 := dM_mono y (a := m + 1) (b := 13) (by omega) (by omega)
  have hy := dY_step y
  have h13 := dM_year y
  have h11 := dM_one y
  refine ⟨h0, by omega, by omega, m0, m1, by omega, by omega, by omega⟩

/-! ### Stamps -/
def stampL (t : Int) : List UInt8 :=
  padD 4 (yearOf (t / 86400)).toNat ++ padD 2 (monthOf (t / 86400)).toNat ++ padD 2 (dayOf (t / 86400)).toNat ++ padD 2 (t % 86400 / 3600).toNat ++ padD 2 (t % 86400 / 60 % 60).toNat ++ padD 2 (t % 86400 % 60).toNat
@[simp] theorem stampL_len (t : Int) : (stampL t).length = 14 := by simp [stampL]
end Go.Proofs.YtklnopamfncfgaaGreatDoor
namespace Go.Proofs.YtklnopamfncfgaaGreatDoor
open Go

/-! ### The moment of fourteen digits -/
theorem dig_isDig (n : Nat) : isDig (dig n) = true ∧ (dig n).toNat - 48 = n % 10 := by
  have h : n % 10 < 10 := Nat.mod_lt _ (by omega)
  have : (dig n).toNat = 48 + n % 10 := by
    unfold dig
    rw [UInt8.toNat_ofNat_of_lt' (by simp [UInt8.size]; omega)]
  unfold isDig
  rw [this]
  simp; omega
theorem padD_isDig : ∀ (k n : Nat), (padD k n).all isDig = true
  | 0, _ => rfl
  | k + 1, n => by rw [padD, List.all_append, padD_isDig k]; simp [dig_isDig]
theorem decV_padD : ∀ (k n : Nat), n < 10 ^ k → decV (padD k n) = n
  | 0, n, h => by simp at h; subst h; rfl
  | k + 1, n, h => by
    rw [padD, decV_snoc, decV_padD k (n / 10) (by rw [Nat.pow_succ] at h; omega), (dig_isDig n).2]
    omega
theorem padD_decV (s : List UInt8) : s.all isDig = true → padD s.length (decV s) = s := by
  refine snoc_ind (p := fun s => s.all isDig = true → padD s.length (decV s) = s) (fun _ => rfl) ?_ s
  intro t b ih h
  simp only [List.all_append, List.all_cons, List.all_nil, Bool.and_true, Bool.and_eq_true] at h
  obtain ⟨h1, h2⟩ := dig_of h.2
  rw [List.length_append, List.length_singleton, padD, decV_snoc]
  have e1 : (decV t * 10 + (b.toNat - 48)) / 10 = decV t := by omega
  have e2 : dig (decV t * 10 + (b.toNat - 48)) = b := by
    unfold dig
    rw [show (decV t * 10 + (b.toNat - 48)) % 10 = b.toNat - 48 by omega, h1]
  rw [e1, ih h.1, e2]
/-- A number that stands in a string. -/
def numAt (s : List UInt8) (i j : Nat) : Nat := decV ((s.take j).drop i)
def okDate (y m d h i s : Int) : Prop := 1970 ≤ y ∧ (1 ≤ m ∧ m ≤ 12) ∧ (1 ≤ d ∧ d ≤ mLen y m) ∧ (0 ≤ h ∧ h ≤ 23) ∧ (0 ≤ i ∧ i ≤ 59) ∧ (0 ≤ s ∧ s ≤ 59)
instance (y m d h i s : Int) : Decidable (okDate y m d h i s) := by unfold okDate; infer_instance
def dateN (y m d h i s : Int) : Int := (dY y + dM y m + d - 1) * 86400 + h * 3600 + i * 60 + s
def momentL (s : List UInt8) : Option Int :=
  if (s.length = 14 ∧ s.all isDig = true) ∧ okDate (numAt s 0 4) (numAt s 4 6) (numAt s 6 8) (numAt s 8 10) (numAt s 10 12) (numAt s 12 14) then
    some (dateN (numAt s 0 4) (numAt s 4 6) (numAt s 6 8) (numAt s 8 10) (numAt s 10 12) (numAt s 12 14))
  else none
theorem dY_1970 : dY 1970 = 0 := by decide
/-- The calendar of a date's moment. -/
theorem date_parts {y m d h i s : Int} (hk : okDate y m d h i s) (hy : y ≤ 9999) : 0 ≤ dateN y m d h i s ∧ dateN y m d h i s ≤ 253402300799 ∧ yearOf (dateN y m d h i s / 86400) = y ∧ monthOf (dateN y m d h i s / 86400) = m ∧
    dayOf (dateN y m d h i s / 86400) = d ∧ dateN y m d h i s % 86400 / 3600 = h ∧ dateN y m d h i s % 86400 / 60 % 60 = i ∧ dateN y m d h i s % 86400 % 60 = s := by
  obtain ⟨h1, h2, h3, h4, h5, h6⟩ := hk
  have hc := IsCiv.back h1 h2.1 h2.2 h3.1 h3.2
  obtain ⟨D, eD⟩ : ∃ D, D = dY y + dM y m + d - 1 := ⟨_, rfl⟩
  have hD0 : 0 ≤ D := by
    have := hc.lo
    have := dY_mono (a := 1970) (b := y) h1
    rw [dY_1970] at this
    omega
  have hD1 : D ≤ 2932896 := by
    have := hc.hi
    have := dY_mono (a := y + 1) (b := 10000) (by omega)
    have h2 : dY 10000 = 2932897 := by decide
    omega
  have e : dateN y m d h i s = D * 86400 + h * 3600 + i * 60 + s := by rw [eD]; rfl
  have eq : dateN y m d h i s / 86400 = D := by omega
  rw [← eD] at hc
  obtain ⟨u1, u2, u3⟩ := hc.unique (civ_ok D hD0)
  rw [eq]
  exact ⟨by omega, by omega, u1, u2, u3, by omega, by omega, by omega⟩
theorem date_back {t : Int} (h0 : 0 ≤ t) : okDate (yearOf (t / 86400)) (monthOf (t / 86400)) (dayOf (t / 86400)) (t % 86400 / 3600) (t % 86400 / 60 % 60) (t % 86400 % 60) ∧
    dateN (yearOf (t / 86400)) (monthOf (t / 86400)) (dayOf (t / 86400)) (t % 86400 / 3600) (t % 86400 / 60 % 60) (t % 86400 % 60) = t := by
  have hc := civ_ok (t / 86400) (by omega)
  have hd := hc.d
  have hdd := hc.dd
  refine ⟨⟨hc.y0, ⟨hc.m0, hc.m1⟩, hd, by omega, by omega, by omega⟩, ?_⟩
  unfold dateN
  rw [show dY (yearOf (t / 86400)) + dM (yearOf (t / 86400)) (monthOf (t / 86400)) + dayOf (t / 86400) - 1 = t / 86400 by omega]
  omega
theorem numAt_app {a b c : List UInt8} : numAt (a ++ b ++ c) a.length (a.length + b.length) = decV b := by
  unfold numAt
  congr 1
  rw [← List.length_append, List.take_left' rfl, List.drop_left' rfl]
theorem momentL_stamp {t : Int} (h0 : 0 ≤ t) (h1 : t ≤ 253402300799) : momentL (stampL t) = some t := by
  obtain ⟨hk, he⟩ := date_back h0
  have hy : yearOf (t / 86400) ≤ 9999 := (civ_ok (t / 86400) (by omega)).top (by omega)
  obtain ⟨k1, k2, k3, k4, k5, k6⟩ := hk
  have km := mLen_pos (yearOf (t / 86400)) (monthOf (t / 86400))
  obtain ⟨Y, eY⟩ : ∃ Y : Nat, yearOf (t / 86400) = Y := ⟨(yearOf (t / 86400)).toNat, by omega⟩
  obtain ⟨M, eM⟩ : ∃ M : Nat, monthOf (t / 86400) = M := ⟨(monthOf (t / 86400)).toNat, by omega⟩
  obtain ⟨D, eD⟩ : ∃ D : Nat, dayOf (t / 86400) = D := ⟨(dayOf (t / 86400)).toNat, by omega⟩
  obtain ⟨H, eH⟩ : ∃ H : Nat, t % 86400 / 3600 = H := ⟨(t % 86400 / 3600).toNat, by omega⟩
  obtain ⟨I, eI⟩ : ∃ I : Nat, t % 86400 / 60 % 60 = I := ⟨(t % 86400 / 60 % 60).toNat, by omega⟩
  obtain ⟨S, eS⟩ : ∃ S : Nat, t % 86400 % 60 = S := ⟨(t % 86400 % 60).toNat, by omega⟩
  have hst : stampL t = padD 4 Y ++ padD 2 M ++ padD 2 D ++ padD 2 H ++ padD 2 I ++ padD 2 S := by unfold stampL; rw [eY, eM, eD, eH, eI, eS]; rfl
  rw [eY, eM, eD, eH, eI, eS] at he
  rw [eM, eY] at km
  rw [eY] at k1 hy
  rw [eM] at k2
  rw [eD, eY, eM] at k3
  rw [eH] at k4
  rw [eI] at k5
  rw [eS] at k6
  have f0 : numAt (stampL t) 0 4 = Y := by rw [hst]; refine Eq.trans ?_ (decV_padD 4 Y (by omega)); simpa using numAt_app (a := []) (b := padD 4 Y) (c := padD 2 M ++ padD 2 D ++ padD 2 H ++ padD 2 I ++ padD 2 S)
  have f1 : numAt (stampL t) 4 6 = M := by rw [hst]; refine Eq.trans ?_ (decV_padD 2 M (by omega)); simpa using numAt_app (a := padD 4 Y) (b := padD 2 M) (c := padD 2 D ++ padD 2 H ++ padD 2 I ++ padD 2 S)
  have f2 : numAt (stampL t) 6 8 = D := by rw [hst]; refine Eq.trans ?_ (decV_padD 2 D (by omega)); simpa using numAt_app (a := padD 4 Y ++ padD 2 M) (b := padD 2 D) (c := padD 2 H ++ padD 2 I ++ padD 2 S)
  have f3 : numAt (stampL t) 8 10 = H := by rw [hst]; refine Eq.trans ?_ (decV_padD 2 H (by omega)); simpa using numAt_app (a := padD 4 Y ++ padD 2 M ++ padD 2 D) (b := padD 2 H) (c := padD 2 I ++ padD 2 S)
  have f4 : numAt (stampL t) 10 12 = I := by rw [hst]; refine Eq.trans ?_ (decV_padD 2 I (by omega)); simpa using numAt_app (a := padD 4 Y ++ padD 2 M ++ padD 2 D ++ padD 2 H) (b := padD 2 I) (c := padD 2 S)
  have f5 : numAt (stampL t) 12 14 = S := by rw [hst]; refine Eq.trans ?_ (decV_padD 2 S (by omega)); simpa using numAt_app (a := padD 4 Y ++ padD 2 M ++ padD 2 D ++ padD 2 H ++ padD 2 I) (b := padD 2 S) (c := [])
  have hall : (stampL t).all isDig = true := by rw [hst]; simp only [List.all_append, padD_isDig]; rfl
  unfold momentL
  rw [f0, f1, f2, f3, f4, f5, if_pos ⟨⟨stampL_len t, hall⟩, k1, k2, k3, k4, k5, k6⟩, he]
theorem stamp_moment {s : List UInt8} {t : Int} (h : momentL s = some t) : 0 ≤ t ∧ t ≤ 253402300799 ∧ stampL t = s := by
  unfold momentL at h
  split at h
  · rename_i hc
    injection h with h
    obtain ⟨⟨hl, ha⟩, hk⟩ := hc
    have pd : ∀ (i j : Nat), i ≤ j → j ≤ 14 → padD (j - i) (numAt s i j) = (s.take j).drop i := by
      intro i j h1 h2
      have hx : ((s.take j).drop i).all isDig = true := by
        rw [List.all_eq_true] at ha ⊢
        exact fun x hx => ha x (List.mem_of_mem_take (List.mem_of_mem_drop hx))
      have hlen : ((s.take j).drop i).length = j - i := by rw [List.length_drop, List.length_take]; omega
      have := padD_decV _ hx
      rw [hlen] at this
      exact this
    have hy : (numAt s 0 4 : Int) ≤ 9999 := by
      have hx : ((s.take 4).drop 0).all isDig = true := by
        rw [List.all_eq_true] at ha ⊢
        exact fun x hx => ha x (List.mem_of_mem_take (List.mem_of_mem_drop hx))
      have := decV_lt _ hx
      have hlen : ((s.take 4).drop 0).length = 4 := by rw [List.length_drop, List.length_take]; omega
      rw [hlen] at this
      unfold numAt; omega
    obtain ⟨p0, p1, p2, p3, p4, p5, p6, p7⟩ := date_parts hk hy
    rw [h] at p0 p1 p2 p3 p4 p5 p6 p7
    refine ⟨p0, p1, ?_⟩
    unfold stampL
    rw [p2, p3, p4, p5, p6, p7]
    simp only [Int.toNat_natCast]
    have q0 := pd 0 4 (by omega) (by omega)
    have q1 := pd 4 6 (by omega) (by omega)
    have q2 := pd 6 8 (by omega) (by omega)
    have q3 := pd 8 10 (by omega) (by omega)
    have q4 := pd 10 12 (by omega) (by omega)
    have q5 := pd 12 14 (by omega) (by omega)
    simp only [Nat.reduceSub] at q0 q1 q2 q3 q4 q5
    rw [q0, q1, q2, q3, q4, q5]
    have step : ∀ i j, i ≤ j → s.take i ++ (s.take j).drop i = s.take j := by
      intro i j hij
      have := List.take_append_drop i (s.take j)
      rw [List.take_take, Nat.min_eq_left hij] at this
      exact this
    rw [List.drop_zero, step 4 6 (by omega), step 6 8 (by omega), step 8 10 (by omega), step 10 12 (by omega), step 12 14 (by omega), List.take_of_length_le (by omega)]
  · cases h
end Go.Proofs.YtklnopamfncfgaaGreatDoor
namespace Go.Proofs.YtklnopamfncfgaaGreatDoor
open Go Go.Ab

/-! ### The text at which an address is replayed -/
def leadCs : List UInt8 := [34, 35, 39, 40, 41, 44, 60, 62]
def leadC (c : UInt8) : Bool := keyChar c && !leadCs.contains c
def leadB (s : List UInt8) : Bool := s.all leadC && (inB 1 200 s.length && decide (s.getLast? ≠ some 47))
def replayF (lead : List UInt8) (t : Int) (a : Addr) : Int := if leadB lead = false then 3 else if momentB t = false then 1 else addrF a
def replayL (lead : List UInt8) (t : Int) (a : Addr) : List UInt8 := if replayF lead t a = 0 then lead ++ [47] ++ stampL t ++ [47] ++ writeL a else []
/-- What stands behind a lead and its stroke. -/
def restL (lead text : List UInt8) : Option (List UInt8) := if (lead ++ [47]).isPrefixOf text = true then some (text.drop (lead.length + 1)) else none
def goodL (r : List UInt8) : Bool := decide (15 ≤ r.length) && decide (r[14]? = some 47)
def readRp (lead text : List UInt8) : Int × Addr × Int :=
  if leadB lead = false then (0, noAddr, 3) else match restL lead text with
  | none => (0, noAddr, 10)
  | some r => if goodL r = false then (0, noAddr, 10) else match momentL (r.take 14) with
    | none => (0, noAddr, 10)
    | some t => if (readAR (r.drop 15)).2.2 ≠ 0 then (0, noAddr, 10) else (t, (readAR (r.drop 15)).1, 0)
theorem readAR_ok {t : List UInt8} (h : (readAR t).2.2 = 0) : t.length ≤ 2000 ∧ readA t = .ok (readAR t).1 := by
  unfold readAR at h ⊢
  split at h
  · cases h
  · rename_i hl
    rw [if_neg hl]
    split at h
    · cases h
    · rename_i a ha
      exact ⟨by omega, ha⟩
theorem readAR_write {a : Addr} (h : addrF a = 0) : readAR (writeL a) = (a, 0, 0) := by
  have hl := (addrF_ok h).2.2.2.2.2.2.2.2
  unfold readAR
  rw [if_neg (by omega), read_write h]
theorem replayF_ok {lead : List UInt8} {t : Int} {a : Addr} (h : replayF lead t a = 0) : leadB lead = true ∧ momentB t = true ∧ addrF a = 0 := by
  unfold replayF at h
  split at h
  · cases h
  · rename_i h1
    split at h
    · cases h
    · rename_i h2
      exact ⟨by simpa using h1, by simpa using h2, h⟩
theorem replay_back {lead : List UInt8} {t : Int} {a : Addr} (h : replayF lead t a = 0) : readRp lead (replayL lead t a) = (t, a, 0) := by
  obtain ⟨h1, h2, h3⟩ := replayF_ok h
  have hL : replayL lead t a = (lead ++ [47]) ++ (stampL t ++ [47] ++ writeL a) := by unfold replayL; rw [if_pos h]; simp
  have hr : restL lead (replayL lead t a) = some (stampL t ++ [47] ++ writeL a) := by
    unfold restL
    rw [hL, if_pos (by rw [List.isPrefixOf_iff_prefix]; exact List.prefix_append _ _)]
    congr 1
    rw [show lead.length + 1 = (lead ++ [47]).length by simp, List.drop_left]
  have hs := stampL_len t
  have hg : goodL (stampL t ++ [47] ++ writeL a) = true := by
    unfold goodL
    rw [List.append_assoc, List.getElem?_append_right (by omega), hs]
    simp [hs]; omega
  have ht : (stampL t ++ [47] ++ writeL a).take 14 = stampL t := by rw [List.append_assoc, ← hs, List.take_left]
  have hd : (stampL t ++ [47] ++ writeL a).drop 15 = writeL a := by
    rw [show 15 = (stampL t ++ [47]).length by simp, List.drop_left]
  have hm : momentL (stampL t) = some t := by
    simp only [momentB, inB, Bool.and_eq_true, decide_eq_true_eq] at h2
    exact momentL_stamp h2.1 h2.2
  unfold readRp
  rw [if_neg (by simp [h1]), hr]
  simp only [hg, ht, hd, hm, readAR_write h3]
  simp
theorem replay_forth {lead text : List UInt8} (h : (readRp lead text).2.2 = 0) : replayF lead (readRp lead text).1 (readRp lead text).2.1 = 0 ∧ replayL lead (readRp lead text).1 (readRp lead text).2.1 = text := by
  unfold readRp at h ⊢
  by_cases h1 : leadB lead = false
  · rw [if_pos h1] at h; cases h
  rw [if_neg h1] at h ⊢
  cases hr : restL lead text with
  | none => rw [hr] at h; cases h
  | some r =>
    rw [hr] at h
    simp only at h ⊢
    by_cases h2 : goodL r = false
    · rw [if_pos h2] at h; cases h
    rw [if_neg h2] at h ⊢
    cases hm : momentL (r.take 14) with
    | none => rw [hm] at h; cases h
    | some t =>
      rw [hm] at h
      simp only at h ⊢
      by_cases h3 : (readAR (r.drop 15)).2.2 ≠ 0
      · rw [if_pos h3] at h; cases h
      rw [if_neg h3]
      simp only
      obtain ⟨l1, l2⟩ := readAR_ok (Classical.not_not.1 h3)
      obtain ⟨w1, w2⟩ := write_read l2
      obtain ⟨m1, m2, m3⟩ := stamp_moment hm
      have hf : replayF lead t (readAR (r.drop 15)).1 = 0 := by
        unfold replayF
        rw [if_neg h1, if_neg (by simp [momentB, inB, m1, m2])]
        exact w2 l1
      refine ⟨hf, ?_⟩
      unfold replayL
      rw [if_pos hf, m3, w1]
      unfold restL at hr
      split at hr
      · rename_i hp
        injection hr with hr
        obtain ⟨z, hz⟩ := List.isPrefixOf_iff_prefix.1 hp
        have hzr : z = r := by
          rw [← hr, ← hz, show lead.length + 1 = (lead ++ [47]).length by simp, List.drop_left]
        subst hzr
        rw [← hz]
        have h2' : 15 ≤ z.length ∧ z[14]? = some 47 := by
          unfold goodL at h2; simpa using h2
        have h47 : z.take 14 ++ [47] ++ z.drop 15 = z := by
          have hlt : 14 < z.length := by omega
          have e : z.drop 14 = 47 :: z.drop 15 := by
            rw [List.drop_eq_getElem_cons hlt]
            have := h2'.2
            rw [List.getElem?_eq_getElem hlt] at this
            injection this with this
            rw [this]
          rw [List.append_assoc]
          show z.take 14 ++ (47 :: z.drop 15) = z
          rw [← e, List.take_append_drop]
        conv => rhs; rw [← h47]
        simp
      · cases hr
end Go.Proofs.YtklnopamfncfgaaGreatDoor
namespace Go.Proofs.YtklnopamfncfgaaGreatDoor
open Go Go.Ab
set_option linter.unusedSectionVars false
variable [Amb]
set_option maxRecDepth 100000
set_option maxHeartbeats 4000000

/-! ### Texts of addresses, leads -/
def textL (a : Addr) : List UInt8 := if addrF a = 0 then writeL a else []
theorem address_Text (a : Addr) (h : a.Fit) : ACalls Tryz.prog 24 [.agg a.row] (.tup [.one (.str (textL a)), .one (.int .i64 (addrF a))]) := by
  refine ACalls.of mixed (fn := Tryz.f24) (by kernel_rfl) (by kernel_rfl) rfl (by kernel_rfl) (by simp [Tryz.f24]) (fun hok => ?_)
  have h1 := address_CheckAddress a h
  have h2 := address_write a h
  unfold textL
  obtain ⟨sc, ho, po, pa, qu, hq, fr, hf⟩ := a
  simp only [Addr.row] at h1 h2 ⊢
  generalize writeL ⟨sc, ho, po, pa, qu, hq, fr, hf⟩ = W at h2 ⊢
  generalize addrF ⟨sc, ho, po, pa, qu, hq, fr, hf⟩ = F at h1 ⊢
  simp -implicitDefEqProofs
  refine ACallK.of h1 ?_
  by_cases hF : F = 0
  · simp -implicitDefEqProofs [hF]
    exact ACallK.of h2 (by simp -implicitDefEqProofs [hF])
  · have hb : (F == 0) = false := by simpa using hF
    simp -implicitDefEqProofs [hF, hb]
theorem ref1_Text (a : Addr) (h : a.Fit) : ACalls Tryz.prog 28 [.agg a.row] (.tup [.one (.str (textL a)), .one (.int .i64 (addrF a))]) := by
  refine ACalls.of mixed (fn := Tryz.f28) (by kernel_rfl) (by kernel_rfl) rfl (by kernel_rfl) (by simp [Tryz.f28]) (fun hok => ?_)
  have h1 := ref1_CheckAddress a h
  have h2 := ref1_written a h
  unfold textL
  obtain ⟨sc, ho, po, pa, qu, hq, fr, hf⟩ := a
  simp only [Addr.row] at h1 h2 ⊢
  generalize writeL ⟨sc, ho, po, pa, qu, hq, fr, hf⟩ = W at h2 ⊢
  generalize addrF ⟨sc, ho, po, pa, qu, hq, fr, hf⟩ = F at h1 ⊢
  simp -implicitDefEqProofs
  refine ACallK.of h1 ?_
  by_cases hF : F = 0
  · simp -implicitDefEqProofs [hF]
    exact ACallK.of h2 (by simp -implicitDefEqProofs [hF])
  · have hb : (F == 0) = false := by simpa using hF
    simp -implicitDefEqProofs [hF, hb]
theorem leadB_get {s : List UInt8} (h : 0 < s.length) : leadB s = (s.all leadC && (inB 1 200 s.length && decide (s[s.length - 1] ≠ 47))) := by
  have h2 : s.getLast? = some s[s.length - 1] := by rw [List.getLast?_eq_getElem?, List.getElem?_eq_getElem (by omega)]
  unfold leadB
  rw [h2]
  simp
theorem stringslite_CutPrefix (s p : List UInt8) : ACalls Tryz.prog 70 [.one (.str s), .one (.str p)] (.tup [.one (.str (if hasPre s p = true then s.drop p.length else s)), .one (.bool (hasPre s p))]) := by
  refine ACalls.of mixed (fn := Tryz.f70) (by kernel_rfl) (by kernel_rfl) rfl (by kernel_rfl) (by simp [Tryz.f70]) (fun hok => ?_)
  simp -implicitDefEqProofs
  refine ACallK.of (stringslite_HasPrefix s p) ?_
  cases h : hasPre s p
  · simp -implicitDefEqProofs
  · have hl : p.length ≤ s.length := (List.isPrefixOf_iff_prefix.1 h).length_le
    have g1 : ((p.length : Int) ≤ (s.length : Int)) = True := eq_true (by omega)
    simp -implicitDefEqProofs [g1, hl]
theorem strings_CutPrefix (s p : List UInt8) : ACalls Tryz.prog 30 [.one (.str s), .one (.str p)] (.tup [.one (.str (if hasPre s p = true then s.drop p.length else s)), .one (.bool (hasPre s p))]) := by
  refine ACalls.of mixed (fn := Tryz.f30) (by kernel_rfl) (by kernel_rfl) rfl (by kernel_rfl) (by simp [Tryz.f30]) (fun hok => ?_)
  simp -implicitDefEqProofs
  refine ACallK.of (stringslite_CutPrefix s p) ?_
  simp -implicitDefEqProofs
theorem leadC_no (c : UInt8) : leadC c = (!(decide (c.toNat < 33) || (decide (126 < c.toNat) || leadCs.contains c))) := by
  unfold leadC keyChar
  have h1 : decide (33 ≤ c.toNat) = !decide (c.toNat < 33) := by rw [Bool.eq_iff_iff]; simp
  have h2 : decide (c.toNat ≤ 126) = !decide (126 < c.toNat) := by rw [Bool.eq_iff_iff]; simp
  rw [h1, h2]
  cases leadCs.contains c <;> cases decide (c.toNat < 33) <;> cases decide (126 < c.toNat) <;> rfl
theorem replay_isLead (s : List UInt8) : ACalls Tryz.prog 22 [.one (.str s)] (.x (.one (.bool (leadB s)))) := by
  obtain ⟨B, eB⟩ : ∃ B, B = leadB s := ⟨_, rfl⟩
  rw [← eB]
  have hbad : ∀ i (h : i < s.length), leadC s[i] = false → B = false := fun i h hc => by rw [eB]; unfold leadB; rw [all_bad h hc]; rfl
  refine ACalls.of mixed (fn := Tryz.f22) (by kernel_rfl) (by kernel_rfl) rfl (by kernel_rfl) (by simp [Tryz.f22]) (fun hok => ?_)
  simp -implicitDefEqProofs
  refine ALoopS.of Nat (fun i => [(0, .x (.one (.str s))), (5, .x (.one (.int .i64 s.length))), (6, .x (.one (.int .i64 i)))]) (Upto leadC s) (fun i => s.length - i) 0 Upto.zero ?_ ?_
  · simp
  intro i hi
  have hle := hi.1
  by_cases hlt : i < s.length
  · have hlt' : ((i : Int) < (s.length : Int)) = True := eq_true (by omega)
    have hwr : IntKind.i64.wrap ((i : Int) + 1) = (i : Int) + 1 := wrapS _ (by have := hok; simp [XV.ok, CV.ok, maxLen] at this; omega)
    have hno := leadC_no s[i]
    by_cases c1 : s[i].toNat < 33
    · have c1' : ((s[i].toNat : Int) < 33) = True := eq_true (by omega)
      have hB := hbad i hlt (by rw [hno]; simp [c1])
      simp -implicitDefEqProofs [hlt, hlt', c1', c1]
      refine ACallGS.of (fun h => by cases h) (r := .x (.one (.int .i64 0))) rfl ?_
      simp -implicitDefEqProofs [hB]
    · have c1' : ((s[i].toNat : Int) < 33) = False := eq_false (by omega)
      by_cases c2 : 126 < s[i].toNat
      · have c2' : (126 < (s[i].toNat : Int)) = True := eq_true (by omega)
        have hB := hbad i hlt (by rw [hno]; simp [c2])
        simp -implicitDefEqProofs [hlt, hlt', c1', c1, c2', c2]
        refine ACallGS.of (fun h => by cases h) (r := .x (.one (.int .i64 0))) rfl ?_
        simp -implicitDefEqProofs [hB]
      · have c2' : (126 < (s[i].toNat : Int)) = False := eq_false (by omega)
        simp -implicitDefEqProofs [hlt, hlt', c1', c1, c2', c2]
        refine ACallGS.of (fun _ => strings_IndexByte [34, 35, 39, 40, 41, 44, 60, 62] s[i]) rfl ?_
        cases hc : leadCs.contains s[i]
        · have g : atByte [34, 35, 39, 40, 41, 44, 60, 62] s[i] = -1 := atByte_no hc
          simp -implicitDefEqProofs [g, hwr]
          refine Again.of (i + 1) (hi.step hlt (by rw [hno, hc]; simp [c1, c2])) (by omega) (by simp [hwr])
        · have g : (0 ≤ atByte [34, 35, 39, 40, 41, 44, 60, 62] s[i]) = True := eq_true (atByte_in hc)
          have hB := hbad i hlt (by rw [hno, hc]; simp)
          simp -implicitDefEqProofs [g, hB]
  · have hlt' : ((i : Int) < (s.length : Int)) = False := eq_false (by omega)
    have hall := hi.done hlt
    by_cases hp : 0 < s.length
    · rw [leadB_get hp, hall] at eB
      have hlast : s.length - 1 < s.length := by omega
      have g1 : (1 ≤ (s.length : Int)) = True := eq_true (by omega)
      by_cases h2 : s.length ≤ 200
      · have g2 : ((s.length : Int) ≤ 200) = True := eq_true (by omega)
        have hw : IntKind.i64.wrap ((s.length : Int) - 1) = ((s.length - 1 : Nat) : Int) := by rw [wrapS _ (by omega)]; omega
        have hz : ((s[s.length - 1].toNat : Int) = 47) = (s[s.length - 1] = 47) := propext (u8_int 47 (by omega))
        simp -implicitDefEqProofs [hlt', g1, g2, hw, hlast, hp, h2]
        rw [eB]
        by_cases hz : s[s.length - 1] = 47
        · have e1 : ((s[s.length - 1].toNat : Int) = 47) := (u8_int 47 (by omega)).2 hz
          simp [hz, inB]
        · have e1 : ¬ ((s[s.length - 1].toNat : Int) = 47) := fun h => hz ((u8_int 47 (by omega)).1 h)
          have e2 : ((s[s.length - 1].toNat : Int) != 47) = true := by rw [bne_iff_ne]; exact e1
          have hin : inB 1 200 s.length = true := by simp only [inB, Bool.and_eq_true, decide_eq_true_eq]; omega
          rw [hin, e2]
          simp [hz]
      · have g2 : ((s.length : Int) ≤ 200) = False := eq_false (by omega)
        have hB : B = false := by rw [eB]; simp [inB]; omega
        simp -implicitDefEqProofs [hlt', g1, g2, hp, hB]
    · have g1 : (1 ≤ (s.length : Int)) = False := eq_false (by omega)
      have hB : B = false := by rw [eB]; unfold leadB; simp [inB]; omega
      simp -implicitDefEqProofs [hlt', g1, hB]
theorem ref9_within (n lo hi : Int) : ACalls Tryz.prog 27 [.one (.int .i64 n), .one (.int .i64 lo), .one (.int .i64 hi)] (.x (.one (.bool (inB lo hi n)))) := by
  refine ACalls.of mixed (fn := Tryz.f27) (by kernel_rfl) (by kernel_rfl) rfl (by kernel_rfl) (by simp [Tryz.f27]) (fun hok => ?_)
  simp -implicitDefEqProofs [inB]
theorem ref9_isLead (s : List UInt8) : ACalls Tryz.prog 26 [.one (.str s)] (.x (.one (.bool (leadB s)))) := by
  obtain ⟨B, eB⟩ : ∃ B, B = leadB s := ⟨_, rfl⟩
  rw [← eB]
  have hbad : ∀ i (h : i < s.length), leadC s[i] = false → B = false := fun i h hc => by rw [eB]; unfold leadB; rw [all_bad h hc]; rfl
  refine ACalls.of mixed (fn := Tryz.f26) (by kernel_rfl) (by kernel_rfl) rfl (by kernel_rfl) (by simp [Tryz.f26]) (fun hok => ?_)
  simp -implicitDefEqProofs
  refine ALoopS.of Nat (fun i => [(0, .x (.one (.str s))), (3, .x (.one (.int .i64 i)))]) (Upto leadC s) (fun i => s.length - i) 0 Upto.zero ?_ ?_
  · simp
  intro i hi
  have hle := hi.1
  by_cases hlt : i < s.length
  · have hlt' : ((i : Int) < (s.length : Int)) = True := eq_true (by omega)
    have hwr : IntKind.i64.wrap ((i : Int) + 1) = (i : Int) + 1 := wrapS _ (by have := hok; simp [XV.ok, CV.ok, maxLen] at this; omega)
    have hno := leadC_no s[i]
    by_cases c1 : s[i].toNat < 33
    · have c1' : ((s[i].toNat : Int) < 33) = True := eq_true (by omega)
      have hB := hbad i hlt (by rw [hno]; simp [c1])
      simp -implicitDefEqProofs [hlt, hlt', c1', c1]
      refine ACallGS.of (fun h => by cases h) (r := .x (.one (.int .i64 0))) rfl ?_
      simp -implicitDefEqProofs [hB]
    · have c1' : ((s[i].toNat : Int) < 33) = False := eq_false (by omega)
      by_cases c2 : 126 < s[i].toNat
      · have c2' : (126 < (s[i].toNat : Int)) = True := eq_true (by omega)
        have hB := hbad i hlt (by rw [hno]; simp [c2])
        simp -implicitDefEqProofs [hlt, hlt', c1', c1, c2', c2]
        refine ACallGS.of (fun h => by cases h) (r := .x (.one (.int .i64 0))) rfl ?_
        simp -implicitDefEqProofs [hB]
      · have c2' : (126 < (s[i].toNat : Int)) = False := eq_false (by omega)
        simp -implicitDefEqProofs [hlt, hlt', c1', c1, c2', c2]
        refine ACallGS.of (fun _ => strings_IndexByte [34, 35, 39, 40, 41, 44, 60, 62] s[i]) rfl ?_
        cases hc : leadCs.contains s[i]
        · have g : atByte [34, 35, 39, 40, 41, 44, 60, 62] s[i] = -1 := atByte_no hc
          simp -implicitDefEqProofs [g, hwr]
          refine Again.of (i + 1) (hi.step hlt (by rw [hno, hc]; simp [c1, c2])) (by omega) (by simp [hwr])
        · have g : (0 ≤ atByte [34, 35, 39, 40, 41, 44, 60, 62] s[i]) = True := eq_true (atByte_in hc)
          have hB := hbad i hlt (by rw [hno, hc]; simp)
          simp -implicitDefEqProofs [g, hB]
  · have hlt' : ((i : Int) < (s.length : Int)) = False := eq_false (by omega)
    have hall := hi.done hlt
    simp -implicitDefEqProofs [hlt']
    refine ACallK.of (ref9_within s.length 1 200) ?_
    by_cases hp : 0 < s.length
    · rw [leadB_get hp, hall] at eB
      have hlast : s.length - 1 < s.length := by omega
      cases hin : inB 1 200 s.length
      · have hB : B = false := by rw [eB, hin]; rfl
        simp -implicitDefEqProofs
        exact hB
      · have hw : IntKind.i64.wrap ((s.length : Int) - 1) = ((s.length - 1 : Nat) : Int) := by
          have hin' := hin
          simp only [inB, Bool.and_eq_true, decide_eq_true_eq] at hin'
          rw [wrapS _ (by omega)]; omega
        simp -implicitDefEqProofs [hw, hlast, hp]
        rw [eB, hin]
        by_cases hz : s[s.length - 1] = 47
        · have e1 : ((s[s.length - 1].toNat : Int) != 47) = false := by rw [bne_eq_false_iff_eq]; exact (u8_int 47 (by omega)).2 hz
          rw [e1]
          simp [hz]
        · have e1 : ((s[s.length - 1].toNat : Int) != 47) = true := by rw [bne_iff_ne]; exact fun h => hz ((u8_int 47 (by omega)).1 h)
          rw [e1]
          simp [hz]
    · have hin : inB 1 200 s.length = false := by
        cases hin : inB 1 200 s.length with
        | false => rfl
        | true => simp only [inB, Bool.and_eq_true, decide_eq_true_eq] at hin; omega
      have hB : B = false := by rw [eB]; unfold leadB; rw [hin]; simp
      rw [hin]
      simp -implicitDefEqProofs
      exact hB
end Go.Proofs.YtklnopamfncfgaaGreatDoor
namespace Go.Proofs.YtklnopamfncfgaaGreatDoor
open Go
set_option maxRecDepth 100000
def renn105 : Go.Shelf.Ren := ⟨fun x => if x = 99 then 92 else if x = 105 then 114 else if x = 165 then 179 else if x = 166 then 180 else if x = 169 then 182 else if x = 170 then 181 else if x = 206 then 125 else if x = 212 then 178 else if x = 240 then 224 else if x = 241 then 225 else if x = 263 then 222 else if x = 264 then 223 else if x = 276 then 249 else if x = 277 then 250 else x, fun x => if x = 0 then 0 else if x = 3 then 3 else if x = 4 then 4 else if x = 5 then 5 else if x = 9 then 9 else if x = 20 then 20 else if x = 37 then 46 else if x = 46 then 181 else if x = 51 then 206 else if x = 53 then 209 else if x = 70 then 184 else if x = 72 then 186 else if x = 75 then 113 else if x = 76 then 114 else if x = 80 then 168 else if x = 109 then 182 else if x = 127 then 212 else if x = 146 then 207 else if x = 148 then 210 else if x = 164 then 226 else x, fun x => x⟩
theorem layn105 : Go.Proofs.Lays.n105 Tryz.prog renn105 where
  mixed := by kernel_rfl
  f99 := Tryz.func92.trans (congrArg some (by kernel_rfl))
  f105 := Tryz.func114.trans (congrArg some (by kernel_rfl))
  f165 := Tryz.func179.trans (congrArg some (by kernel_rfl))
  f166 := Tryz.func180.trans (congrArg some (by kernel_rfl))
  f169 := Tryz.func182.trans (congrArg some (by kernel_rfl))
  f170 := Tryz.func181.trans (congrArg some (by kernel_rfl))
  f206 := Tryz.func125.trans (congrArg some (by kernel_rfl))
  f212 := Tryz.func178.trans (congrArg some (by kernel_rfl))
  f240 := Tryz.func224.trans (congrArg some (by kernel_rfl))
  f241 := Tryz.func225.trans (congrArg some (by kernel_rfl))
  f263 := Tryz.func222.trans (congrArg some (by kernel_rfl))
  f264 := Tryz.func223.trans (congrArg some (by kernel_rfl))
  f276 := Tryz.func249.trans (congrArg some (by kernel_rfl))
  f277 := Tryz.func250.trans (congrArg some (by kernel_rfl))
  t0 := Tryz.underlying0
  a0 := Tryz.isAgg0
  z0 := Tryz.sizeOf0
  v0 := Tryz.zeroValue0
  t3 := Tryz.underlying3
  a3 := Tryz.isAgg3
  z3 := Tryz.sizeOf3
  v3 := Tryz.zeroValue3
  t4 := Tryz.underlying4
  a4 := Tryz.isAgg4
  z4 := Tryz.sizeOf4
  v4 := Tryz.zeroValue4
  t5 := Tryz.underlying5
  a5 := Tryz.isAgg5
  z5 := Tryz.sizeOf5
  v5 := Tryz.zeroValue5
  t9 := Tryz.underlying9
  a9 := Tryz.isAgg9
  z9 := Tryz.sizeOf9
  v9 := Tryz.zeroValue9
  t20 := Tryz.underlying20
  a20 := Tryz.isAgg20
  z20 := Tryz.sizeOf20
  v20 := Tryz.zeroValue20
  t37 := Tryz.underlying46
  a37 := Tryz.isAgg46
  z37 := Tryz.sizeOf46
  v37 := Tryz.zeroValue46
  t46 := Tryz.underlying181
  a46 := Tryz.isAgg181
  z46 := Tryz.sizeOf181
  v46 := Tryz.zeroValue181
  t51 := Tryz.underlying206
  a51 := Tryz.isAgg206
  z51 := Tryz.sizeOf206
  v51 := Tryz.zeroValue206
  t53 := Tryz.underlying209
  a53 := Tryz.isAgg209
  z53 := Tryz.sizeOf209
  v53 := Tryz.zeroValue209
  t70 := Tryz.underlying184
  a70 := Tryz.isAgg184
  z70 := Tryz.sizeOf184
  v70 := Tryz.zeroValue184
  t72 := Tryz.underlying186
  a72 := Tryz.isAgg186
  z72 := Tryz.sizeOf186
  v72 := Tryz.zeroValue186
  t75 := Tryz.underlying113
  a75 := Tryz.isAgg113
  z75 := Tryz.sizeOf113
  v75 := Tryz.zeroValue113
  t76 := Tryz.underlying114
  a76 := Tryz.isAgg114
  z76 := Tryz.sizeOf114
  v76 := Tryz.zeroValue114
  t109 := Tryz.underlying182
  a109 := Tryz.isAgg182
  z109 := Tryz.sizeOf182
  v109 := Tryz.zeroValue182
  t127 := Tryz.underlying212
  a127 := Tryz.isAgg212
  z127 := Tryz.sizeOf212
  v127 := Tryz.zeroValue212
  t146 := Tryz.underlying207
  a146 := Tryz.isAgg207
  z146 := Tryz.sizeOf207
  v146 := Tryz.zeroValue207
  t148 := Tryz.underlying210
  a148 := Tryz.isAgg210
  z148 := Tryz.sizeOf210
  v148 := Tryz.zeroValue210
  t164 := Tryz.underlying226
  a164 := Tryz.isAgg226
  z164 := Tryz.sizeOf226
  v164 := Tryz.zeroValue226
theorem layBuilderExtra105 : Go.Proofs.Builder.Extra Tryz.prog renn105 where
  t5 := Tryz.underlying5
  a5 := Tryz.isAgg5
  z5 := Tryz.sizeOf5
  v5 := Tryz.zeroValue5
  infoByte := by kernel_rfl
  cellsByte := by kernel_rfl
  sizeByte := by kernel_rfl
  neB5 := by decide
  sizeBuilder := by kernel_rfl
  liesBuilder := by kernel_rfl
end Go.Proofs.YtklnopamfncfgaaGreatDoor
namespace Go.Proofs.YtklnopamfncfgaaGreatDoor
open Go Go.Ab
set_option linter.unusedSectionVars false
variable [Amb] [HasPow10 Tryz.prog]
set_option maxRecDepth 100000
set_option maxHeartbeats 4000000

theorem repeat_eq (b : UInt8) : ∀ n : Nat, Lib.repeatL [b] n = List.replicate n b
  | 0 => rfl
  | n + 1 => by
    rw [Lib.repeatL, repeat_eq b n]; rfl
theorem strings_Repeat (b : UInt8) (n : Nat) (h : n ≤ 1000000) : ACalls Tryz.prog 114 [.one (.str [b]), .one (.int .i64 n)] (.x (.one (.str (List.replicate n b)))) := by
  refine ACalls.ofKit [.string ⟨#[b]⟩, .int .i64 n] _ (callable_of Tryz.f114 (by kernel_rfl) (by kernel_rfl) rfl) rfl (fun _ _ => repR_str _ (by simp; unfold maxLen; omega)) (fun _ w => ?_)
  refine (Any.strings_Repeat layn105 layBuilderExtra105 ⟨#[b]⟩ n w (by omega) (by show 1 * n ≤ _; omega)).mono ?_
  rintro e w' ⟨rfl, hb⟩
  refine ⟨?_, hb⟩
  rw [show (⟨#[b]⟩ : ByteArray).data.toList = [b] from rfl, repeat_eq]
theorem message_Padded (n k : Nat) (hn : n < 10 ^ k) (hk : 1 ≤ k) (hk2 : k ≤ 18) : ACalls Tryz.prog 65 [.one (.int .i64 n), .one (.int .i64 k)] (.x (.one (.str (padD k n)))) := by
  refine ACalls.of mixed (fn := Tryz.f65) (by kernel_rfl) (by kernel_rfl) rfl (by kernel_rfl) (by simp [Tryz.f65]) (fun hok => ?_)
  obtain ⟨h1, h2⟩ := padD_itoa k n hn hk
  have hp : 10 ^ k ≤ 10 ^ 18 := Nat.pow_le_pow_right (by omega) hk2
  have h64 : I64 (n : Int) := by unfold I64; omega
  rw [← h2]
  simp -implicitDefEqProofs
  refine ACallK.of (strconv_Itoa _ h64) ?_
  obtain ⟨s, es⟩ : ∃ s, s = itoaL (n : Int) := ⟨_, rfl⟩
  rw [show Lib.itoa (n : Int) = s from es.symm] at h1 ⊢
  rw [← es]
  have w1 : IntKind.i64.wrap ((k : Int) - s.length) = ((k - s.length : Nat) : Int) := by rw [wrapS _ (by omega)]; omega
  have w2 : max 0 ((k - s.length : Nat) : Int) = ((k - s.length : Nat) : Int) := by omega
  simp -implicitDefEqProofs [w1, w2]
  refine ACallK.of (strings_Repeat 48 _ (by omega)) ?_
  have m1 : k - s.length + s.length ≤ maxLen := by unfold maxLen; omega
  simp -implicitDefEqProofs [m1]
theorem mLen_leap (y : Int) : (y % 4 = 0 ∧ (y % 100 ≠ 0 ∨ y % 400 = 0)) ↔ leapI y = true := by
  unfold leapI; simp
theorem tmod_pos {a : Int} (b : Int) (h : 0 ≤ a) : a.tmod b = a % b := Int.tmod_eq_emod_of_nonneg h
theorem tdiv_pos {a : Int} (b : Int) (h : 0 ≤ a) : a.tdiv b = a / b := Int.tdiv_eq_ediv_of_nonneg h
theorem message_monthLong (y m : Int) (hy : 0 ≤ y ∧ y ≤ 100000) : ACalls Tryz.prog 73 [.one (.int .i64 y), .one (.int .i64 m)] (.x (.one (.int .i64 (mLen y m)))) := by
  refine ACalls.of mixed (fn := Tryz.f73) (by kernel_rfl) (by kernel_rfl) rfl (by kernel_rfl) (by simp [Tryz.f73]) (fun hok => ?_)
  have t1 : y.tmod 4 = y % 4 := tmod_pos _ hy.1
  have t2 : y.tmod 100 = y % 100 := tmod_pos _ hy.1
  have t3 : y.tmod 400 = y % 400 := tmod_pos _ hy.1
  have w1 : IntKind.i64.wrap (y % 4) = y % 4 := wrapS _ (by omega)
  have w2 : IntKind.i64.wrap (y % 100) = y % 100 := wrapS _ (by omega)
  have w3 : IntKind.i64.wrap (y % 400) = y % 400 := wrapS _ (by omega)
  have e : mLen y m = if m = 4 ∨ m = 6 ∨ m = 9 ∨ m = 11 then 30 else if m = 2 then (if leapI y = true then 29 else 28) else 31 := rfl
  generalize mLen y m = r at e ⊢
  by_cases h4 : m = 4
  · subst h4; rw [if_pos (.inl rfl)] at e; subst e; simp -implicitDefEqProofs
  by_cases h6 : m = 6
  · subst h6; rw [if_pos (.inr (.inl rfl))] at e; subst e; simp -implicitDefEqProofs
  by_cases h9 : m = 9
  · subst h9; rw [if_pos (.inr (.inr (.inl rfl)))] at e; subst e; simp -implicitDefEqProofs
  by_cases h11 : m = 11
  · subst h11; rw [if_pos (.inr (.inr (.inr rfl)))] at e; subst e; simp -implicitDefEqProofs
  rw [if_neg (by simp [h4, h6, h9, h11])] at e
  by_cases h2 : m = 2
  · subst h2
    rw [if_pos rfl] at e
    have hl := mLen_leap y
    cases hb : leapI y with
    | true =>
      obtain ⟨l1, l2⟩ := hl.2 hb
      rw [if_pos hb] at e
      subst e
      by_cases l3 : y % 100 = 0
      · have l4 := l2.resolve_left (fun h => h l3)
        simp -implicitDefEqProofs [t1, t2, t3, w1, w2, w3, l1, l3, l4]
      · simp -implicitDefEqProofs [t1, t2, t3, w1, w2, w3, l1, l3]
    | false =>
      rw [if_neg (by simp [hb])] at e
      subst e
      by_cases l1 : y % 4 = 0
      · have l3 : y % 100 = 0 := Classical.byContradiction fun h => by rw [hl.1 ⟨l1, .inl h⟩] at hb; cases hb
        have l4 : ¬ y % 400 = 0 := fun h => by rw [hl.1 ⟨l1, .inr h⟩] at hb; cases hb
        simp -implicitDefEqProofs [t1, t2, t3, w1, w2, w3, l1, l3, l4]
      · simp -implicitDefEqProofs [t1, t2, t3, w1, w2, w3, l1]
  · rw [if_neg h2] at e
    subst e
    simp -implicitDefEqProofs [h4, h6, h9, h11, h2]
theorem message_days (y m : Int) (hy : 1 ≤ y ∧ y ≤ 100000) (hm : 1 ≤ m ∧ m ≤ 100) : ACalls Tryz.prog 74 [.one (.int .i64 y), .one (.int .i64 m)] (.x (.one (.int .i64 (dY y + dM y m)))) := by
  refine ACalls.of mixed (fn := Tryz.f74) (by kernel_rfl) (by kernel_rfl) rfl (by kernel_rfl) (by simp [Tryz.f74]) (fun hok => ?_)
  have t1 : (y - 1).tdiv 4 = (y - 1) / 4 := tdiv_pos _ (by omega)
  have t2 : (y - 1).tdiv 100 = (y - 1) / 100 := tdiv_pos _ (by omega)
  have t3 : (y - 1).tdiv 400 = (y - 1) / 400 := tdiv_pos _ (by omega)
  have w0 : IntKind.i64.wrap (y - 1) = y - 1 := wrapS _ (by omega)
  have w1 : IntKind.i64.wrap (365 * (y - 1)) = 365 * (y - 1) := wrapS _ (by omega)
  have w2 : IntKind.i64.wrap ((y - 1) / 4) = (y - 1) / 4 := wrapS _ (by omega)
  have w3 : IntKind.i64.wrap ((y - 1) / 100) = (y - 1) / 100 := wrapS _ (by omega)
  have w4 : IntKind.i64.wrap ((y - 1) / 400) = (y - 1) / 400 := wrapS _ (by omega)
  have w5 : IntKind.i64.wrap (365 * (y - 1) + (y - 1) / 4) = 365 * (y - 1) + (y - 1) / 4 := wrapS _ (by omega)
  have w6 : IntKind.i64.wrap (365 * (y - 1) + (y - 1) / 4 - (y - 1) / 100) = 365 * (y - 1) + (y - 1) / 4 - (y - 1) / 100 := wrapS _ (by omega)
  have w7 : IntKind.i64.wrap (365 * (y - 1) + (y - 1) / 4 - (y - 1) / 100 + (y - 1) / 400) = 365 * (y - 1) + (y - 1) / 4 - (y - 1) / 100 + (y - 1) / 400 := wrapS _ (by omega)
  have w8 : IntKind.i64.wrap (365 * (y - 1) + (y - 1) / 4 - (y - 1) / 100 + (y - 1) / 400 - 719162) = dY y := wrapS _ (by omega)
  have hdb : -800000 ≤ dY y ∧ dY y ≤ 40000000 := by unfold dY; omega
  simp -implicitDefEqProofs [t1, t2, t3, w0, w1, w2, w3, w4, w5, w6, w7, w8]
  refine ALoopS.of Nat (fun k => [(0, .x (.one (.int .i64 y))), (1, .x (.one (.int .i64 m))), (6, .x (.one (.int .i64 (dY y + dM y (k + 1))))), (7, .x (.one (.int .i64 ((k : Int) + 1))))]) (fun k => (k : Int) + 1 ≤ m) (fun k => m.toNat - k) 0 (by omega) ?_ ?_
  · simp [dM, dMN]
  intro k hk
  by_cases hlt : (k : Int) + 1 < m
  · have hst := dM_step y (k + 1) (by omega)
    have hb := mLen_pos y (k + 1)
    have hmono := dM_mono y (a := 1) (b := (k : Int) + 1) (by omega) (by omega)
    have hup : dM y ((k : Int) + 1) ≤ 31 * k := by
      clear hlt hst hb hmono hk
      induction k with
      | zero => simp [dM, dMN]
      | succ k ih =>
        have := dM_step y (k + 1) (by omega)
        have := mLen_pos y (k + 1)
        rw [show ((k + 1 : Nat) : Int) + 1 = (k : Int) + 1 + 1 by omega]
        omega
    rw [dM_one] at hmono
    have w9 : IntKind.i64.wrap (dY y + dM y ((k : Int) + 1) + mLen y ((k : Int) + 1)) = dY y + dM y ((k : Int) + 1 + 1) := by rw [wrapS _ (by omega)]; omega
    have w10 : IntKind.i64.wrap ((k : Int) + 1 + 1) = (k : Int) + 1 + 1 := wrapS _ (by omega)
    simp -implicitDefEqProofs [hlt]
    refine ACallK.of (message_monthLong y (k + 1) (by omega)) ?_
    simp -implicitDefEqProofs [w9, w10]
    refine Again.of (k + 1) (by omega) (by omega) ?_
    simp
  · have e : (k : Int) + 1 = m := by omega
    simp -implicitDefEqProofs [hlt, e]
end Go.Proofs.YtklnopamfncfgaaGreatDoor
namespace Go.Proofs.YtklnopamfncfgaaGreatDoor
open Go Go.Ab
set_option linter.unusedSectionVars false
variable [Amb] [HasPow10 Tryz.prog]
set_option maxRecDepth 100000
set_option maxHeartbeats 4000000

def dateRow (t : Int) : List CV := [.int .i64 (yearOf (t / 86400)), .int .i64 (monthOf (t / 86400)), .int .i64 (dayOf (t / 86400)), .int .i64 (t % 86400 / 3600), .int .i64 (t % 86400 / 60 % 60), .int .i64 (t % 86400 % 60)]
structure DateOk (t : Int) : Prop where
  y : 1970 ≤ yearOf (t / 86400) ∧ yearOf (t / 86400) ≤ 9999
  m : 1 ≤ monthOf (t / 86400) ∧ monthOf (t / 86400) ≤ 12
  d : 1 ≤ dayOf (t / 86400) ∧ dayOf (t / 86400) ≤ 31
theorem moment_bounds {t : Int} (h : momentB t = true) : 0 ≤ t ∧ t ≤ 253402300799 := by simpa [momentB, inB] using h
theorem date_ok {t : Int} (h : momentB t = true) : DateOk t := by
  have hb := moment_bounds h
  have hc := civ_ok (t / 86400) (by omega)
  have := hc.d
  have := mLen_pos (yearOf (t / 86400)) (monthOf (t / 86400))
  exact ⟨⟨hc.y0, hc.top (by omega)⟩, ⟨hc.m0, hc.m1⟩, by omega⟩
theorem dY_start (n : Nat) : dY (1970 + n) ≤ 366 * n := by
  induction n with
  | zero => decide
  | succ n ih =>
    have := dY_step (1970 + n)
    have := yLen_pos (1970 + n)
    rw [show (1970 : Int) + ((n + 1 : Nat) : Int) = 1970 + n + 1 by omega]
    omega
theorem year_start {d : Int} (h : 0 ≤ d) : 1970 + d / 366 ≤ yearOf d := by
  have hc := civ_ok d h
  have h1 := dY_start (d / 366).toNat
  rw [show (((d / 366).toNat : Nat) : Int) = d / 366 by omega] at h1
  refine Classical.byContradiction fun hn => ?_
  have := dY_mono (a := yearOf d + 1) (b := 1970 + d / 366) (by omega)
  have := hc.hi
  omega

theorem message_DateOf (t : Int) (h : momentB t = true) : ACalls Tryz.prog 64 [.one (.int .i64 t)] (.x (.agg (dateRow t))) := by
  refine ACalls.of mixed (fn := Tryz.f64) (by kernel_rfl) (by kernel_rfl) rfl (by kernel_rfl) (by simp [Tryz.f64]) (fun hok => ?_)
  have hb := moment_bounds h
  have hok := date_ok h
  have hc := civ_ok (t / 86400) (by omega)
  have hys := year_start (d := t / 86400) (by omega)
  unfold dateRow
  obtain ⟨day, ed⟩ : ∃ day, day = t / 86400 := ⟨_, rfl⟩
  obtain ⟨rest, er⟩ : ∃ rest, rest = t % 86400 := ⟨_, rfl⟩
  obtain ⟨Y, eY⟩ : ∃ Y, Y = yearOf (t / 86400) := ⟨_, rfl⟩
  obtain ⟨M, eM⟩ : ∃ M, M = monthOf (t / 86400) := ⟨_, rfl⟩
  obtain ⟨D, eD⟩ : ∃ D, D = dayOf (t / 86400) := ⟨_, rfl⟩
  obtain ⟨⟨y1, y2⟩, ⟨m1, m2⟩, ⟨d1, d2⟩⟩ := hok
  rw [← ed] at hys hc eY eM eD y1 y2 m1 m2 d1 d2
  rw [← eY] at hys hc y1 y2
  rw [← eM] at hc m1 m2
  rw [← eD] at hc d1 d2
  rw [← ed, ← eY, ← eM, ← eD, ← er]
  clear eY eM eD
  have t1 : t.tdiv 86400 = day := by rw [tdiv_pos _ hb.1, ed]
  have t2 : t.tmod 86400 = rest := by rw [tmod_pos _ hb.1, er]
  have r0 : 0 ≤ rest ∧ rest < 86400 := by omega
  have d0 : 0 ≤ day ∧ day ≤ 2932896 := by omega
  have t3 : day.tdiv 366 = day / 366 := tdiv_pos _ d0.1
  have t4 : rest.tdiv 3600 = rest / 3600 := tdiv_pos _ r0.1
  have t5 : rest.tdiv 60 = rest / 60 := tdiv_pos _ r0.1
  have t6 : (rest / 60).tmod 60 = rest / 60 % 60 := tmod_pos _ (by omega)
  have t7 : rest.tmod 60 = rest % 60 := tmod_pos _ r0.1
  have w1 : IntKind.i64.wrap day = day := wrapS _ (by omega)
  have w2 : IntKind.i64.wrap rest = rest := wrapS _ (by omega)
  have w3 : IntKind.i64.wrap (day / 366) = day / 366 := wrapS _ (by omega)
  have w4 : IntKind.i64.wrap (1970 + day / 366) = 1970 + day / 366 := wrapS _ (by omega)
  have w5 : IntKind.i64.wrap (rest / 3600) = rest / 3600 := wrapS _ (by omega)
  have w6 : IntKind.i64.wrap (rest / 60) = rest / 60 := wrapS _ (by omega)
  have w7 : IntKind.i64.wrap (rest / 60 % 60) = rest / 60 % 60 := wrapS _ (by omega)
  have w8 : IntKind.i64.wrap (rest % 60) = rest % 60 := wrapS _ (by omega)
  simp -implicitDefEqProofs [t1, t2, t3, t4, t5, t6, t7, w1, w2, w3, w4, w5, w6, w7, w8]
  refine ALoopS.of Int (fun y => [(2, .box [.int .i64 0, .int .i64 0, .int .i64 0, .int .i64 0, .int .i64 0, .int .i64 0]), (3, .x (.one (.int .i64 day))), (5, .box [.int .i64 y, .int .i64 1, .int .i64 0, .int .i64 (rest / 3600), .int .i64 (rest / 60 % 60), .int .i64 (rest % 60)])]) (fun y => 1970 ≤ y ∧ y ≤ Y) (fun y => (Y - y).toNat) (1970 + day / 366) ⟨by omega, hys⟩ ?_ ?_
  · simp
  rintro y ⟨g1, g2⟩
  have v1 : IntKind.i64.wrap (y + 1) = y + 1 := wrapS _ (by omega)
  have hd1 : dY (y + 1) + dM (y + 1) 1 = dY (y + 1) := by rw [dM_one, Int.add_zero]
  simp -implicitDefEqProofs [v1]
  refine ACallK.of (message_days (y + 1) 1 (by omega) (by omega)) ?_
  rw [hd1]
  by_cases hlt : y < Y
  · have := dY_mono (a := y + 1) (b := Y) (by omega)
    have := hc.lo
    have hle : dY (y + 1) ≤ day := by omega
    simp -implicitDefEqProofs [hle, v1]
    refine Again.of (y + 1) ⟨by omega, by omega⟩ (by omega) ?_
    simp
  have hyY : y = Y := by omega
  subst hyY
  have hle : ¬ dY (y + 1) ≤ day := by have := hc.hi; omega
  simp -implicitDefEqProofs [hle]
  clear hlt hle hd1 g1 g2 hys
  refine ALoopS.of Int (fun m => [(2, .box [.int .i64 0, .int .i64 0, .int .i64 0, .int .i64 0, .int .i64 0, .int .i64 0]), (3, .x (.one (.int .i64 day))), (5, .box [.int .i64 y, .int .i64 m, .int .i64 0, .int .i64 (rest / 3600), .int .i64 (rest / 60 % 60), .int .i64 (rest % 60)])]) (fun m => 1 ≤ m ∧ m ≤ M) (fun m => (M - m).toNat) 1 ⟨by omega, m1⟩ ?_ ?_
  · simp
  rintro m ⟨g1, g2⟩
  have v2 : IntKind.i64.wrap (m + 1) = m + 1 := wrapS _ (by omega)
  by_cases hlt : m < M
  · have h12 : m < 12 := by omega
    have := dM_mono y (a := m + 1) (b := M) (by omega) (by omega)
    have := hc.ml
    have hle : dY y + dM y (m + 1) ≤ day := by omega
    simp -implicitDefEqProofs [h12, v2]
    refine ACallGS.of (fun _ => message_days y (m + 1) (by omega) (by omega)) rfl ?_
    simp -implicitDefEqProofs [hle, v2]
    refine Again.of (m + 1) ⟨by omega, by omega⟩ (by omega) ?_
    simp
  have hmM : m = M := by omega
  subst hmM
  have hfin : ∀ x, x = dY y + dM y m → IntKind.i64.wrap (IntKind.i64.wrap (day - x) + 1) = D := by
    rintro x rfl
    have := hc.dd; have := hc.ml; have := hc.mh; have := dM_step y m m1; have := mLen_pos y m
    rw [wrapS (day - _) (by omega), wrapS _ (by omega)]; omega
  have hle : ¬ dY y + dM y (m + 1) ≤ day := by have := hc.mh; omega
  by_cases h12 : m < 12
  · simp -implicitDefEqProofs [h12, v2]
    refine ACallGS.of (fun _ => message_days y (m + 1) (by omega) (by omega)) rfl ?_
    simp -implicitDefEqProofs [hle]
    refine ACallK.of (message_days y m (by omega) (by omega)) ?_
    simp -implicitDefEqProofs [hfin _ rfl]
  · simp -implicitDefEqProofs [h12, v2]
    refine ACallGS.of (fun _ => message_days y (m + 1) (by omega) (by omega)) rfl ?_
    simp -implicitDefEqProofs [hle]
    refine ACallK.of (message_days y m (by omega) (by omega)) ?_
    simp -implicitDefEqProofs [hfin _ rfl]

theorem index_Stamp (t : Int) (h : momentB t = true) : ACalls Tryz.prog 25 [.one (.int .i64 t)] (.x (.one (.str (stampL t)))) := by
  refine ACalls.of mixed (fn := Tryz.f25) (by kernel_rfl) (by kernel_rfl) rfl (by kernel_rfl) (by simp [Tryz.f25]) (fun hok => ?_)
  have hb := moment_bounds h
  have hd := message_DateOf t h
  obtain ⟨⟨y1, y2⟩, ⟨m1, m2⟩, ⟨d1, d2⟩⟩ := date_ok h
  unfold dateRow at hd
  unfold stampL
  obtain ⟨Y, eY⟩ : ∃ Y : Nat, yearOf (t / 86400) = Y := ⟨(yearOf (t / 86400)).toNat, by omega⟩
  obtain ⟨M, eM⟩ : ∃ M : Nat, monthOf (t / 86400) = M := ⟨(monthOf (t / 86400)).toNat, by omega⟩
  obtain ⟨D, eD⟩ : ∃ D : Nat, dayOf (t / 86400) = D := ⟨(dayOf (t / 86400)).toNat, by omega⟩
  obtain ⟨H, eH⟩ : ∃ H : Nat, t % 86400 / 3600 = H := ⟨(t % 86400 / 3600).toNat, by omega⟩
  obtain ⟨I, eI⟩ : ∃ I : Nat, t % 86400 / 60 % 60 = I := ⟨(t % 86400 / 60 % 60).toNat, by omega⟩
  obtain ⟨S, eS⟩ : ∃ S : Nat, t % 86400 % 60 = S := ⟨(t % 86400 % 60).toNat, by omega⟩
  rw [eY, eM, eD, eH, eI, eS] at hd
  rw [eY, eM, eD, eH, eI, eS]
  rw [eY] at y1 y2
  rw [eM] at m1 m2
  rw [eD] at d1 d2
  simp only [Int.toNat_natCast]
  have hH : H < 100 := by omega
  have hI : I < 100 := by omega
  have hS : S < 100 := by omega
  have hM : M < 100 := by omega
  have hD : D < 100 := by omega
  clear eY eM eD eH eI eS
  simp -implicitDefEqProofs
  refine ACallK.of hd ?_
  simp -implicitDefEqProofs
  refine ACallK.of (message_Padded Y 4 (by omega) (by omega) (by omega)) ?_
  simp -implicitDefEqProofs
  obtain ⟨ns, ens⟩ : ∃ ns : List Nat, ns = [M, D, H, I, S] := ⟨_, rfl⟩
  have h5 : ns.length = 5 := by rw [ens]; rfl
  have hsm0 : ∀ x ∈ ns, x < 100 := by
    intro x hx
    rw [ens] at hx
    simp only [List.mem_cons, List.not_mem_nil, or_false] at hx
    omega
  have hsm : ∀ i (h : i < ns.length), ns[i] < 100 := fun i hi => hsm0 _ (List.getElem_mem hi)
  refine ALoopS.of Nat (fun i => [(4, .x (.one (.str (padD 4 Y ++ ((ns.take i).map (padD 2)).flatten)))), (22, .own 3 1 (ns.map fun n => [.int .i64 (n : Nat)])), (23, .x (.one (.int .i64 5))), (24, .x (.one (.int .i64 i)))]) (fun i => i ≤ ns.length) (fun i => ns.length - i) 0 (Nat.zero_le _) ?_ ?_
  · simp [ens]
  intro i hi
  have w1 : IntKind.i64.wrap ((i : Int) + 1) = (i : Int) + 1 := wrapS _ (by omega)
  by_cases hlt : i < ns.length
  · have hlt5 : (i : Int) < 5 := by omega
    have hlt5' : i < 5 := by omega
    have hlen : ((ns.take i).map (padD 2)).flatten.length ≤ 10 := by
      have : ∀ l : List Nat, ((l.map (padD 2)).flatten).length = 2 * l.length := by
        intro l; induction l with
        | nil => rfl
        | cons a r ih => simp only [List.map_cons, List.flatten_cons, List.length_append, padD_len, ih, List.length_cons]; omega
      rw [this, List.length_take]; omega
    obtain ⟨x, ex⟩ : ∃ x, x = ((ns.take i).map (padD 2)).flatten := ⟨_, rfl⟩
    have hst : ((ns.take (i + 1)).map (padD 2)).flatten = x ++ padD 2 ns[i] := by
      rw [List.take_succ_eq_append_getElem hlt, ex]
      simp only [List.map_append, List.map_cons, List.map_nil, List.flatten_append, List.flatten_cons, List.flatten_nil, List.append_nil]
    rw [← ex] at hlen ⊢
    have m1 : 4 + x.length + 2 ≤ maxLen := by unfold maxLen; omega
    have hgi : ns[i]?.getD 0 = ns[i] := by simp [hlt]
    simp -implicitDefEqProofs [hlt, hlt5, hlt5']
    refine ACallK.of (message_Padded ns[i] 2 (by have := hsm i hlt; omega) (by omega) (by omega)) ?_
    simp -implicitDefEqProofs [m1, w1]
    refine Again.of (i + 1) hlt (by omega) ?_
    rw [hst]
    simp
  · have hlt5 : ¬ (i : Int) < 5 := by omega
    have hlt5' : ¬ i < 5 := by omega
    rw [List.take_of_length_le (by omega), ens]
    simp -implicitDefEqProofs [hlt5, hlt5']
end Go.Proofs.YtklnopamfncfgaaGreatDoor
namespace Go.Proofs.YtklnopamfncfgaaGreatDoor
open Go Go.Ab
set_option linter.unusedSectionVars false
variable [Amb] [HasPow10 Tryz.prog]
set_option maxRecDepth 100000
set_option maxHeartbeats 4000000

/-! ### The date of the reference -/
theorem ref2_leap (y : Int) (hy : 0 ≤ y ∧ y ≤ 100000) : ACalls Tryz.prog 186 [.one (.int .i64 y)] (.x (.one (.bool (leapI y)))) := by
  refine ACalls.of mixed (fn := Tryz.f186) (by kernel_rfl) (by kernel_rfl) rfl (by kernel_rfl) (by simp [Tryz.f186]) (fun hok => ?_)
  have t1 : y.tmod 4 = y % 4 := tmod_pos _ hy.1
  have t2 : y.tmod 100 = y % 100 := tmod_pos _ hy.1
  have t3 : y.tmod 400 = y % 400 := tmod_pos _ hy.1
  have w1 : IntKind.i64.wrap (y % 4) = y % 4 := wrapS _ (by omega)
  have w2 : IntKind.i64.wrap (y % 100) = y % 100 := wrapS _ (by omega)
  have w3 : IntKind.i64.wrap (y % 400) = y % 400 := wrapS _ (by omega)
  have hl := mLen_leap y
  cases hb : leapI y with
  | true =>
    obtain ⟨l1, l2⟩ := hl.2 hb
    by_cases l3 : y % 100 = 0
    · have l4 := l2.resolve_left (fun h => h l3)
      simp -implicitDefEqProofs [t1, t2, t3, w1, w2, w3, l1, l3, l4]
    · simp -implicitDefEqProofs [t1, t2, t3, w1, w2, w3, l1, l3]
  | false =>
    by_cases l1 : y % 4 = 0
    · have l3 : y % 100 = 0 := Classical.byContradiction fun h => by rw [hl.1 ⟨l1, .inl h⟩] at hb; cases hb
      have l4 : ¬ y % 400 = 0 := fun h => by rw [hl.1 ⟨l1, .inr h⟩] at hb; cases hb
      simp -implicitDefEqProofs [t1, t2, t3, w1, w2, w3, l1, l3, l4]
    · have l4 : ¬ y % 400 = 0 := fun h => l1 (by omega)
      simp -implicitDefEqProofs [t1, t2, t3, w1, w2, w3, l1, l4]
theorem ref2_yearDays (y : Int) (hy : 0 ≤ y ∧ y ≤ 100000) : ACalls Tryz.prog 120 [.one (.int .i64 y)] (.x (.one (.int .i64 (yLen y)))) := by
  refine ACalls.of mixed (fn := Tryz.f120) (by kernel_rfl) (by kernel_rfl) rfl (by kernel_rfl) (by simp [Tryz.f120]) (fun hok => ?_)
  have e : yLen y = if leapI y = true then 366 else 365 := rfl
  generalize yLen y = r at e ⊢
  simp -implicitDefEqProofs
  refine ACallK.of (ref2_leap y hy) ?_
  cases hb : leapI y with
  | true => rw [hb, if_pos rfl] at e; subst e; simp -implicitDefEqProofs
  | false => rw [hb, if_neg (by decide)] at e; subst e; simp -implicitDefEqProofs
theorem ref2_monthDays (y m : Int) (hy : 0 ≤ y ∧ y ≤ 100000) (hm : 1 ≤ m ∧ m ≤ 12) : ACalls Tryz.prog 121 [.one (.int .i64 y), .one (.int .i64 m)] (.x (.one (.int .i64 (mLen y m)))) := by
  refine ACalls.of mixed (fn := Tryz.f121) (by kernel_rfl) (by kernel_rfl) rfl (by kernel_rfl) (by simp [Tryz.f121]) (fun hok => ?_)
  have e : mLen y m = if m = 4 ∨ m = 6 ∨ m = 9 ∨ m = 11 then 30 else if m = 2 then (if leapI y = true then 29 else 28) else 31 := rfl
  generalize mLen y m = r at e ⊢
  by_cases h2 : m = 2
  · subst h2
    rw [if_neg (by decide), if_pos rfl] at e
    simp -implicitDefEqProofs
    refine ACallGS.of (fun _ => ref2_leap y hy) rfl ?_
    have w : IntKind.i64.wrap 1 = 1 := by decide
    cases hb : leapI y with
    | true => rw [hb, if_pos rfl] at e; subst e; simp -implicitDefEqProofs
    | false => rw [hb, if_neg (by decide)] at e; subst e; simp -implicitDefEqProofs [w]
  · have hcase : m = 1 ∨ m = 3 ∨ m = 4 ∨ m = 5 ∨ m = 6 ∨ m = 7 ∨ m = 8 ∨ m = 9 ∨ m = 10 ∨ m = 11 ∨ m = 12 := by omega
    have ws : ∀ k : Int, 0 ≤ k ∧ k ≤ 11 → IntKind.i64.wrap k = k := fun k h => wrapS _ (by omega)
    have w0 := ws 0 (by omega); have w2 := ws 2 (by omega); have w3 := ws 3 (by omega); have w4 := ws 4 (by omega); have w5 := ws 5 (by omega); have w6 := ws 6 (by omega); have w7 := ws 7 (by omega); have w8 := ws 8 (by omega); have w9 := ws 9 (by omega); have w10 := ws 10 (by omega); have w11 := ws 11 (by omega)
    rcases hcase with rfl | rfl | rfl | rfl | rfl | rfl | rfl | rfl | rfl | rfl | rfl
    all_goals
      simp only [Int.reduceEq, false_or, or_false, true_or, or_true, or_self, if_true, if_false] at e
      subst e
      simp -implicitDefEqProofs
      refine ACallGS.of (fun h => by cases h) (r := .x (.one (.bool false))) rfl ?_
      simp -implicitDefEqProofs [w0, w2, w3, w4, w5, w6, w7, w8, w9, w10, w11]
theorem ref2_two (n : Nat) (h : n ≤ 100000) : ACalls Tryz.prog 122 [.one (.int .i64 n)] (.x (.one (.str (padD 2 n)))) := by
  refine ACalls.of mixed (fn := Tryz.f122) (by kernel_rfl) (by kernel_rfl) rfl (by kernel_rfl) (by simp [Tryz.f122]) (fun hok => ?_)
  have e : padD 2 n = [UInt8.ofNat (48 + n / 10 % 10), UInt8.ofNat (48 + n % 10)] := padD_two n
  generalize padD 2 n = r at e ⊢
  have t1 : (n : Int).tdiv 10 = ((n / 10 : Nat) : Int) := by rw [tdiv_pos _ (by omega)]; omega
  have t2 : ((n / 10 : Nat) : Int).tmod 10 = ((n / 10 % 10 : Nat) : Int) := by rw [tmod_pos _ (by omega)]; omega
  have t3 : (n : Int).tmod 10 = ((n % 10 : Nat) : Int) := by rw [tmod_pos _ (by omega)]; omega
  obtain ⟨a, ea⟩ : ∃ a, n / 10 % 10 = a := ⟨_, rfl⟩
  obtain ⟨b, eb⟩ : ∃ b, n % 10 = b := ⟨_, rfl⟩
  obtain ⟨c, ec⟩ : ∃ c, n / 10 = c := ⟨_, rfl⟩
  rw [ea, eb] at e
  rw [ec] at t1 t2
  rw [ec] at ea
  rw [ea] at t2
  rw [eb] at t3
  have w0 : IntKind.i64.wrap (c : Int) = c := wrapS _ (by omega)
  have w1 : IntKind.i64.wrap (a : Int) = a := wrapS _ (by omega)
  have w2 : IntKind.i64.wrap (48 + (a : Int)) = 48 + a := wrapS _ (by omega)
  have w3 : IntKind.i64.wrap (b : Int) = b := wrapS _ (by omega)
  have w4 : IntKind.i64.wrap (48 + (b : Int)) = 48 + b := wrapS _ (by omega)
  have u1 : IntKind.u8.wrap (48 + (a : Int)) = ((48 + a : Nat) : Int) := by
    have : ∀ x : Fin 10, IntKind.u8.wrap (48 + ((x.val : Nat) : Int)) = ((48 + x.val : Nat) : Int) := by decide
    exact this ⟨a, by omega⟩
  have u2 : IntKind.u8.wrap (48 + (b : Int)) = ((48 + b : Nat) : Int) := by
    have : ∀ x : Fin 10, IntKind.u8.wrap (48 + ((x.val : Nat) : Int)) = ((48 + x.val : Nat) : Int) := by decide
    exact this ⟨b, by omega⟩
  have v1 : ((48 : Int) + (a : Int)).toNat = 48 + a := by omega
  have v2 : ((48 : Int) + (b : Int)).toNat = 48 + b := by omega
  subst e
  clear ea eb ec h
  simp -implicitDefEqProofs [t1, t2, t3, w0, w1, w2, w3, w4, u1, u2]
  rw [v1, v2]
  simp

def monthsL : List UInt8 := [74, 97, 110, 70, 101, 98, 77, 97, 114, 65, 112, 114, 77, 97, 121, 74, 117, 110, 74, 117, 108, 65, 117, 103, 83, 101, 112, 79, 99, 116, 78, 111, 118, 68, 101, 99]
def weeksL : List UInt8 := [83, 117, 110, 77, 111, 110, 84, 117, 101, 87, 101, 100, 84, 104, 117, 70, 114, 105, 83, 97, 116]
def monthL (m : Nat) : List UInt8 := (monthsL.drop (3 * m - 3)).take 3
def weekL (w : Nat) : List UInt8 := (weeksL.drop (3 * w)).take 3
def dateL (t : Int) : List UInt8 :=
  weekL ((t / 86400 + 4) % 7).toNat ++ [44, 32] ++ padD 2 (dayOf (t / 86400)).toNat ++ [32] ++ monthL (monthOf (t / 86400)).toNat ++ [32] ++ padD 4 (yearOf (t / 86400)).toNat ++ [32] ++ padD 2 (t % 86400 / 3600).toNat ++ [58] ++ padD 2 (t % 86400 / 60 % 60).toNat ++ [58] ++ padD 2 (t % 86400 % 60).toNat ++ [32, 71, 77, 84]
theorem ref2_monthName (m : Nat) (h : 1 ≤ m ∧ m ≤ 12) : ACalls Tryz.prog 123 [.one (.int .i64 m)] (.x (.one (.str (monthL m)))) := by
  refine ACalls.of mixed (fn := Tryz.f123) (by kernel_rfl) (by kernel_rfl) rfl (by kernel_rfl) (by simp [Tryz.f123]) (fun hok => ?_)
  have q0 : IntKind.i64.wrap 0 = 0 := by decide
  have q3 : IntKind.i64.wrap 3 = 3 := by decide
  have q6 : IntKind.i64.wrap 6 = 6 := by decide
  have q9 : IntKind.i64.wrap 9 = 9 := by decide
  have q12 : IntKind.i64.wrap 12 = 12 := by decide
  have q15 : IntKind.i64.wrap 15 = 15 := by decide
  have q18 : IntKind.i64.wrap 18 = 18 := by decide
  have q21 : IntKind.i64.wrap 21 = 21 := by decide
  have q24 : IntKind.i64.wrap 24 = 24 := by decide
  have q27 : IntKind.i64.wrap 27 = 27 := by decide
  have q30 : IntKind.i64.wrap 30 = 30 := by decide
  have q33 : IntKind.i64.wrap 33 = 33 := by decide
  have q36 : IntKind.i64.wrap 36 = 36 := by decide
  have hc : m = 1 ∨ m = 2 ∨ m = 3 ∨ m = 4 ∨ m = 5 ∨ m = 6 ∨ m = 7 ∨ m = 8 ∨ m = 9 ∨ m = 10 ∨ m = 11 ∨ m = 12 := by omega
  clear h
  rcases hc with rfl | rfl | rfl | rfl | rfl | rfl | rfl | rfl | rfl | rfl | rfl | rfl
  all_goals
    simp -implicitDefEqProofs [q0, q3, q6, q9, q12, q15, q18, q21, q24, q27, q30, q33, q36, cutAt]
    try rfl
end Go.Proofs.YtklnopamfncfgaaGreatDoor
namespace Go.Proofs.YtklnopamfncfgaaGreatDoor
open Go Go.Ab
set_option linter.unusedSectionVars false
variable [Amb] [HasPow10 Tryz.prog]
set_option maxRecDepth 100000
set_option maxHeartbeats 4000000

theorem weekL_len (w : Nat) (h : w < 7) : (weekL w).length = 3 := by
  have : ∀ w : Fin 7, (weekL w.val).length = 3 := by decide
  exact this ⟨w, h⟩
theorem monthL_len (m : Nat) (h : 1 ≤ m ∧ m ≤ 12) : (monthL m).length = 3 := by
  have : ∀ w : Fin 12, (monthL (w.val + 1)).length = 3 := by decide
  have := this ⟨m - 1, by omega⟩
  simp only [show m - 1 + 1 = m by omega] at this
  exact this
theorem ref2_DateOf (t : Int) (h : momentB t = true) : ACalls Tryz.prog 68 [.one (.int .i64 t)] (.x (.one (.str (dateL t)))) := by
  refine ACalls.of mixed (fn := Tryz.f68) (by kernel_rfl) (by kernel_rfl) rfl (by kernel_rfl) (by simp [Tryz.f68]) (fun hok => ?_)
  have hb := moment_bounds h
  have hok := date_ok h
  have hc := civ_ok (t / 86400) (by omega)
  unfold dateL
  obtain ⟨day, ed⟩ : ∃ day, day = t / 86400 := ⟨_, rfl⟩
  obtain ⟨rest, er⟩ : ∃ rest, rest = t % 86400 := ⟨_, rfl⟩
  obtain ⟨Y, eY⟩ : ∃ Y, Y = yearOf (t / 86400) := ⟨_, rfl⟩
  obtain ⟨M, eM⟩ : ∃ M, M = monthOf (t / 86400) := ⟨_, rfl⟩
  obtain ⟨D, eD⟩ : ∃ D, D = dayOf (t / 86400) := ⟨_, rfl⟩
  obtain ⟨⟨y1, y2⟩, ⟨m1, m2⟩, ⟨d1, d2⟩⟩ := hok
  rw [← ed] at hc eY eM eD y1 y2 m1 m2 d1 d2
  rw [← eY] at hc y1 y2
  rw [← eM] at hc m1 m2
  rw [← eD] at hc d1 d2
  rw [← ed, ← eY, ← eM, ← eD, ← er]
  clear eY eM eD
  have t1 : t.tdiv 86400 = day := by rw [tdiv_pos _ hb.1, ed]
  have t2 : t.tmod 86400 = rest := by rw [tmod_pos _ hb.1, er]
  have r0 : 0 ≤ rest ∧ rest < 86400 := by omega
  have d0 : 0 ≤ day ∧ day ≤ 2932896 := by omega
  clear ed er
  have t3 : (day + 4).tmod 7 = (day + 4) % 7 := tmod_pos _ (by omega)
  have w1 : IntKind.i64.wrap day = day := wrapS _ (by omega)
  have w2 : IntKind.i64.wrap rest = rest := wrapS _ (by omega)
  have w3 : IntKind.i64.wrap (day + 4) = day + 4 := wrapS _ (by omega)
  have w4 : IntKind.i64.wrap ((day + 4) % 7) = (day + 4) % 7 := wrapS _ (by omega)
  obtain ⟨W, eW⟩ : ∃ W : Nat, (day + 4) % 7 = W := ⟨((day + 4) % 7).toNat, by omega⟩
  have hW : W < 7 := by omega
  rw [eW]
  simp -implicitDefEqProofs [t1, t2, t3, w1, w2, w3, w4, eW]
  have hd70 : dY 1970 = 0 := by decide
  refine ALoopS.of Int (fun y => [(3, .x (.one (.int .i64 (day - dY y)))), (4, .x (.one (.int .i64 rest))), (5, .x (.one (.int .i64 (W : Nat)))), (6, .x (.one (.int .i64 y))), (7, .x (.one (.int .i64 1)))]) (fun y => 1970 ≤ y ∧ y ≤ Y) (fun y => (Y - y).toNat) 1970 ⟨by omega, y1⟩ ?_ ?_
  · simp [hd70]
  rintro y ⟨g1, g2⟩
  have v1 : IntKind.i64.wrap (y + 1) = y + 1 := wrapS _ (by omega)
  have hst := dY_step y
  have hyl := yLen_pos y
  have hlo : 0 ≤ dY y := by have := dY_mono (a := 1970) (b := y) g1; omega
  simp -implicitDefEqProofs
  refine ACallK.of (ref2_yearDays y (by omega)) ?_
  by_cases hlt : y < Y
  · have := dY_mono (a := y + 1) (b := Y) (by omega)
    have := hc.lo
    have hle : yLen y ≤ day - dY y := by omega
    have v2 : IntKind.i64.wrap (day - dY y - yLen y) = day - dY (y + 1) := by rw [wrapS _ (by omega)]; omega
    simp -implicitDefEqProofs [hle]
    refine ACallK.of (ref2_yearDays y (by omega)) ?_
    simp -implicitDefEqProofs [v1, v2]
    refine Again.of (y + 1) ⟨by omega, by omega⟩ (by omega) ?_
    simp
  have hyY : y = Y := by omega
  subst hyY
  have hle : ¬ yLen y ≤ day - dY y := by have := hc.hi; omega
  simp -implicitDefEqProofs [hle]
  clear hlt hle g1 g2
  have hM1 : dM y 1 = 0 := dM_one y
  refine ALoopS.of Int (fun m => [(3, .x (.one (.int .i64 (day - dY y - dM y m)))), (4, .x (.one (.int .i64 rest))), (5, .x (.one (.int .i64 (W : Nat)))), (6, .x (.one (.int .i64 y))), (7, .x (.one (.int .i64 m)))]) (fun m => 1 ≤ m ∧ m ≤ M) (fun m => (M - m).toNat) 1 ⟨by omega, m1⟩ ?_ ?_
  · simp [hM1]
  rintro m ⟨g1, g2⟩
  have v2 : IntKind.i64.wrap (m + 1) = m + 1 := wrapS _ (by omega)
  have hms := dM_step y m g1
  have hml := mLen_pos y m
  have hmlo : 0 ≤ dM y m := by have := dM_mono y (a := 1) (b := m) (by omega) g1; omega
  simp -implicitDefEqProofs
  refine ACallK.of (ref2_monthDays y m (by omega) (by omega)) ?_
  by_cases hlt : m < M
  · have := dM_mono y (a := m + 1) (b := M) (by omega) (by omega)
    have := hc.ml
    have hle : mLen y m ≤ day - dY y - dM y m := by omega
    have v3 : IntKind.i64.wrap (day - dY y - dM y m - mLen y m) = day - dY y - dM y (m + 1) := by rw [wrapS _ (by omega)]; omega
    simp -implicitDefEqProofs [hle]
    refine ACallK.of (ref2_monthDays y m (by omega) (by omega)) ?_
    simp -implicitDefEqProofs [v2, v3]
    refine Again.of (m + 1) ⟨by omega, by omega⟩ (by omega) ?_
    simp
  have hmM : m = M := by omega
  subst hmM
  have hle : ¬ mLen y m ≤ day - dY y - dM y m := by have := hc.mh; omega
  obtain ⟨Yn, eYn⟩ : ∃ Yn : Nat, y = Yn := ⟨y.toNat, by omega⟩
  obtain ⟨Mn, eMn⟩ : ∃ Mn : Nat, m = Mn := ⟨m.toNat, by omega⟩
  obtain ⟨Dn, eDn⟩ : ∃ Dn : Nat, D = Dn := ⟨D.toNat, by omega⟩
  have hdd : IntKind.i64.wrap (day - dY y - dM y m + 1) = (Dn : Int) := by
    have := hc.dd
    rw [wrapS _ (by omega)]; omega
  obtain ⟨H, eH⟩ : ∃ H : Nat, rest / 3600 = H := ⟨(rest / 3600).toNat, by omega⟩
  obtain ⟨I, eI⟩ : ∃ I : Nat, rest / 60 % 60 = I := ⟨(rest / 60 % 60).toNat, by omega⟩
  obtain ⟨S, eS⟩ : ∃ S : Nat, rest % 60 = S := ⟨(rest % 60).toNat, by omega⟩
  obtain ⟨Q, eQ⟩ : ∃ Q : Nat, rest / 60 = Q := ⟨(rest / 60).toNat, by omega⟩
  have t4 : rest.tdiv 3600 = (H : Int) := by rw [tdiv_pos _ r0.1, eH]
  have t5 : rest.tdiv 60 = (Q : Int) := by rw [tdiv_pos _ r0.1, eQ]
  have t6 : (Q : Int).tmod 60 = (I : Int) := by rw [tmod_pos _ (by omega), ← eQ, eI]
  have t7 : rest.tmod 60 = (S : Int) := by rw [tmod_pos _ r0.1, eS]
  have w5 : IntKind.i64.wrap (H : Int) = H := wrapS _ (by omega)
  have w6 : IntKind.i64.wrap (Q : Int) = Q := wrapS _ (by omega)
  have w7 : IntKind.i64.wrap (I : Int) = I := wrapS _ (by omega)
  have w8 : IntKind.i64.wrap (S : Int) = S := wrapS _ (by omega)
  obtain ⟨Cn, eC⟩ : ∃ Cn : Nat, Yn / 100 = Cn := ⟨_, rfl⟩
  have t8 : (Yn : Int).tdiv 100 = (Cn : Int) := by rw [tdiv_pos _ (by omega)]; omega
  have w9 : IntKind.i64.wrap (Cn : Int) = Cn := wrapS _ (by omega)
  have hp4 : padD 4 Yn = padD 2 Cn ++ padD 2 Yn := by rw [padD_four, eC]
  have wk : (weeksL.drop (3 * W)).take 3 = weekL W := rfl
  have lw := weekL_len W hW
  have lm := monthL_len Mn (by omega)
  have hY9 : Yn ≤ 9999 := by omega
  have hM12 : 1 ≤ Mn ∧ Mn ≤ 12 := by omega
  have hD31 : Dn ≤ 31 := by omega
  have hH : H ≤ 24 := by omega
  have hI : I ≤ 60 := by omega
  have hS : S ≤ 60 := by omega
  have hC : Cn ≤ 100 := by omega
  have b1 : IntKind.i64.wrap (3 * (W : Int)) = 3 * W := wrapS _ (by omega)
  have b2 : IntKind.i64.wrap (3 * (W : Int) + 3) = 3 * W + 3 := wrapS _ (by omega)
  have b3 : cutAt weeksL (3 * (W : Int)) (3 * (W : Int) + 3) = weekL W := by
    unfold cutAt weekL
    rw [show (3 * (W : Int)).toNat = 3 * W by omega, show (3 * (W : Int) + 3).toNat = 3 * W + 3 by omega, List.drop_take, Nat.add_sub_cancel_left]
  have b4 : (3 * (W : Int) + 3 ≤ 21) = True := eq_true (by omega)
  have b5 : (0 ≤ 3 * (W : Int)) = True := eq_true (by omega)
  have b6 : (3 * (W : Int) ≤ 3 * (W : Int) + 3) = True := eq_true (by omega)
  subst eYn
  subst eMn
  subst eDn
  rw [eH, eI, eS]
  simp only [Int.toNat_natCast]
  rw [hp4]
  clear hc hb y1 y2 m1 m2 d1 d2 t1 t2 t3 hst hyl hlo hms hml hmlo g1 g2 hlt v1 v2 eH eI eS eQ eC hp4 wk eW
  unfold weeksL at b3
  simp -implicitDefEqProofs [hle, b1, b2, b3, b4, b5, b6, lw]
  rw [hdd]
  refine ACallK.of (ref2_two Dn (by omega)) ?_
  simp -implicitDefEqProofs [lw]
  refine ACallK.of (ref2_monthName Mn hM12) ?_
  simp -implicitDefEqProofs [lw, lm, t8, w9]
  refine ACallK.of (ref2_two Cn (by omega)) ?_
  simp -implicitDefEqProofs [lw, lm]
  refine ACallK.of (ref2_two Yn (by omega)) ?_
  simp -implicitDefEqProofs [lw, lm, t4, w5]
  refine ACallK.of (ref2_two H (by omega)) ?_
  simp -implicitDefEqProofs [lw, lm, t5, w6, t6, w7]
  refine ACallK.of (ref2_two I (by omega)) ?_
  simp -implicitDefEqProofs [lw, lm, t7, w8]
  refine ACallK.of (ref2_two S (by omega)) ?_
  simp -implicitDefEqProofs [lw, lm]
end Go.Proofs.YtklnopamfncfgaaGreatDoor
namespace Go.Proofs.YtklnopamfncfgaaGreatDoor
open Go Go.Ab
set_option linter.unusedSectionVars false
variable [Amb] [HasPow10 Tryz.prog]
set_option maxRecDepth 100000
set_option maxHeartbeats 4000000

theorem monthL_inj {a b : Nat} (ha : 1 ≤ a ∧ a ≤ 12) (hb : 1 ≤ b ∧ b ≤ 12) (h : monthL a = monthL b) : a = b := by
  have : ∀ x y : Fin 12, monthL (x.val + 1) = monthL (y.val + 1) → x = y := by decide
  have := this ⟨a - 1, by omega⟩ ⟨b - 1, by omega⟩ (by simp only [show a - 1 + 1 = a by omega, show b - 1 + 1 = b by omega]; exact h)
  have := congrArg Fin.val this
  simp only at this
  omega
theorem itoa_month (m : Nat) (h : 1 ≤ m ∧ m ≤ 12) : (itoaL (100 + (m : Int))).drop 1 = padD 2 m ∧ (itoaL (100 + (m : Int))).length = 3 := by
  have e : itoaL (100 + (m : Int)) = padD 3 (100 + m) := by
    obtain ⟨h1, h2⟩ := padD_itoa 3 (100 + m) (by omega) (by omega)
    rw [← h2]
    have h3 : (Lib.itoa ((100 + m : Nat) : Int)).length = 3 := by
      have := (padD_eq 3 (100 + m) (by omega) (by omega))
      have e : Lib.itoa ((100 + m : Nat) : Int) = Lib.decDigits (100 + m) := by unfold Lib.itoa; rw [if_neg (by omega)]; rfl
      rw [e, Lib.decDigits, dif_neg (by omega), Lib.decDigits, dif_neg (by omega), Lib.decDigits, dif_pos (by omega)]
      rfl
    rw [h3]
    show Lib.itoa (100 + (m : Int)) = _
    simp
  rw [e]
  refine ⟨?_, padD_len _ _⟩
  have hs := padD_split 1 2 (100 + m)
  rw [show 1 + 2 = 3 from rfl] at hs
  rw [hs, List.drop_left' (padD_len 1 _)]
  have hc : ∀ x : Fin 13, padD 2 (100 + x.val) = padD 2 x.val := by decide
  exact hc ⟨m, by omega⟩
theorem dateL_cut (t : Int) (h : momentB t = true) : (dateL t).length = 29 ∧ cutAt (dateL t) 8 11 = monthL (monthOf (t / 86400)).toNat ∧ cutAt (dateL t) 12 16 = padD 4 (yearOf (t / 86400)).toNat ∧ cutAt (dateL t) 5 7 = padD 2 (dayOf (t / 86400)).toNat ∧
    cutAt (dateL t) 17 19 = padD 2 (t % 86400 / 3600).toNat ∧ cutAt (dateL t) 20 22 = padD 2 (t % 86400 / 60 % 60).toNat ∧ cutAt (dateL t) 23 25 = padD 2 (t % 86400 % 60).toNat := by
  have hb := moment_bounds h
  obtain ⟨_, hm, _⟩ := date_ok h
  have lw := weekL_len ((t / 86400 + 4) % 7).toNat (by omega)
  have lm := monthL_len (monthOf (t / 86400)).toNat (by omega)
  unfold dateL
  generalize weekL ((t / 86400 + 4) % 7).toNat = W at lw ⊢
  generalize monthL (monthOf (t / 86400)).toNat = M at lm ⊢
  have l1 := padD_len 2 (dayOf (t / 86400)).toNat
  have l2 := padD_len 4 (yearOf (t / 86400)).toNat
  have l3 := padD_len 2 (t % 86400 / 3600).toNat
  have l4 := padD_len 2 (t % 86400 / 60 % 60).toNat
  have l5 := padD_len 2 (t % 86400 % 60).toNat
  generalize padD 2 (dayOf (t / 86400)).toNat = D at l1 ⊢
  generalize padD 4 (yearOf (t / 86400)).toNat = Y at l2 ⊢
  generalize padD 2 (t % 86400 / 3600).toNat = H at l3 ⊢
  generalize padD 2 (t % 86400 / 60 % 60).toNat = I at l4 ⊢
  generalize padD 2 (t % 86400 % 60).toNat = S at l5 ⊢
  match W, lw, D, l1, M, lm, Y, l2, H, l3, I, l4, S, l5 with
  | [w1, w2, w3], _, [d1, d2], _, [m1, m2, m3], _, [y1, y2, y3, y4], _, [h1, h2], _, [i1, i2], _, [s1, s2], _ => exact ⟨rfl, rfl, rfl, rfl, rfl, rfl, rfl⟩
end Go.Proofs.YtklnopamfncfgaaGreatDoor
namespace Go.Proofs.YtklnopamfncfgaaGreatDoor
open Go Go.Ab
set_option linter.unusedSectionVars false
variable [Amb] [HasPow10 Tryz.prog]
set_option maxRecDepth 100000
set_option maxHeartbeats 4000000

theorem atoi_digits {s : List UInt8} (h : s.all isDig = true) (h0 : 1 ≤ s.length) (h1 : s.length ≤ 4) : ACalls Tryz.prog 72 [.one (.str s)] (.tup [.one (.int .i64 (decV s : Nat)), .one (.atom .nilIface)]) :=
  strconv_Atoi1 s _ (by omega) (atoi_eq h (by intro e; rw [e] at h0; simp at h0))
theorem all_cut {p : UInt8 → Bool} {s : List UInt8} (h : s.all p = true) (i j : Nat) : ((s.take j).drop i).all p = true := by
  rw [List.all_eq_true] at h ⊢
  exact fun x hx => h x (List.mem_of_mem_take (List.mem_of_mem_drop hx))
theorem message_MomentOf (s : List UInt8) : ACalls Tryz.prog 31 [.one (.str s)] (.tup [.one (.int .i64 ((momentL s).getD 0)), .one (.bool (momentL s).isSome)]) := by
  obtain ⟨M, eM⟩ : ∃ M, M = momentL s := ⟨_, rfl⟩
  rw [← eM]
  unfold momentL at eM
  refine ACalls.of mixed (fn := Tryz.f31) (by kernel_rfl) (by kernel_rfl) rfl (by kernel_rfl) (by simp [Tryz.f31]) (fun hok => ?_)
  by_cases hl : s.length = 14
  rotate_left
  · have g1 : ((s.length : Int) = 14) = False := eq_false (by omega)
    have g2 : ((s.length : Int) != 14) = true := by rw [bne_iff_ne]; omega
    rw [if_neg (fun h => hl h.1.1)] at eM
    subst eM
    simp -implicitDefEqProofs [g1, g2, hl]
    refine ACallGS.of (fun h => by cases h) (r := .x (.one (.str []))) rfl ?_
    simp -implicitDefEqProofs
  have ht := strings_Trim s digCt (by decide) (by decide)
  cases hd : s.all isDig
  · rw [if_neg (fun h => by rw [hd] at h; cases h.1.2)] at eM
    have hne : ¬ Lib.trimS s digCt = [] := fun e => by rw [(trim_digt s).1 e] at hd; cases hd
    generalize Lib.trimS s digCt = T at ht hne
    subst eM
    simp -implicitDefEqProofs [hl]
    refine ACallGS.of (fun _ => ht) rfl ?_
    simp -implicitDefEqProofs [hne]
  have hT : Lib.trimS s digCt = [] := (trim_digt s).2 hd
  rw [hT] at ht
  have q1 : cutAt s 0 4 = (s.take 4).drop 0 := by simp [cutAt]
  have q2 : cutAt s 4 6 = (s.take 6).drop 4 := by simp [cutAt]
  have q3 : cutAt s 6 8 = (s.take 8).drop 6 := by simp [cutAt]
  have q4 : cutAt s 8 10 = (s.take 10).drop 8 := by simp [cutAt]
  have q5 : cutAt s 10 12 = (s.take 12).drop 10 := by simp [cutAt]
  have q6 : cutAt s 12 14 = (s.take 14).drop 12 := by simp [cutAt]
  obtain ⟨ps, eps⟩ : ∃ ps, ps = [(s.take 4).drop 0, (s.take 6).drop 4, (s.take 8).drop 6, (s.take 10).drop 8, (s.take 12).drop 10, (s.take 14).drop 12] := ⟨_, rfl⟩
  have hpl : ps.length = 6 := by rw [eps]; rfl
  have hpd : ∀ x ∈ ps, x.all isDig = true ∧ 1 ≤ x.length ∧ x.length ≤ 4 := by
    intro x hx
    rw [eps] at hx
    simp only [List.mem_cons, List.not_mem_nil, or_false] at hx
    rcases hx with rfl | rfl | rfl | rfl | rfl | rfl
    all_goals exact ⟨all_cut hd _ _, by rw [List.length_drop, List.length_take]; omega, by rw [List.length_drop, List.length_take]; omega⟩
  simp -implicitDefEqProofs [hl]
  refine ACallGS.of (fun _ => ht) rfl ?_
  simp -implicitDefEqProofs [hl, q1, q2, q3, q4, q5, q6]
  refine ALoopS.of Nat (fun i => [(4, .own 3 1 ((ps.take i).map fun x => [.int .i64 (decV x : Nat)])), (29, .own 9 1 (ps.map fun x => [.str x])), (30, .x (.one (.int .i64 6))), (31, .x (.one (.int .i64 i)))]) (fun i => i ≤ ps.length) (fun i => ps.length - i) 0 (Nat.zero_le _) ?_ ?_
  · simp [eps, List.take_take, List.drop_take]
  intro i hi
  by_cases hlt : i < ps.length
  · have hlt6 : i < 6 := by omega
    have hlt' : ((i : Int) < 6) = True := eq_true (by omega)
    have hwr : IntKind.i64.wrap ((i : Int) + 1) = (i : Int) + 1 := wrapS _ (by omega)
    obtain ⟨d1, d2, d3⟩ := hpd ps[i] (List.getElem_mem hlt)
    have hst : (ps.take (i + 1)).map (fun x => [CV.int .i64 (decV x : Nat)]) = (ps.take i).map (fun x => [CV.int .i64 (decV x : Nat)]) ++ [[CV.int .i64 (decV ps[i] : Nat)]] := by
      rw [List.take_succ_eq_append_getElem hlt, List.map_append]; rfl
    have hm : (ps.take i).length + 1 ≤ maxLen := by rw [List.length_take]; unfold maxLen; omega
    simp -implicitDefEqProofs [hlt, hlt', hlt6]
    refine ACallK.of (atoi_digits d1 d2 d3) ?_
    have hm2 : min i ps.length + 1 ≤ maxLen := by unfold maxLen; omega
    have hm3 : i + 1 ≤ maxLen := by unfold maxLen; omega
    simp -implicitDefEqProofs [hm, hm2, hm3, hwr]
    refine ⟨by omega, Again.of (i + 1) hlt (by omega) ?_⟩
    simp [hst, hwr]
  have hge : ¬ i < 6 := by omega
  have hlt' : ((i : Int) < 6) = False := eq_false (by omega)
  have hn : ∀ i j, i ≤ j → j ≤ 14 → (numAt s i j : Nat) < 10 ^ (j - i) := by
    intro i j h1 h2
    have := decV_lt _ (all_cut hd i j)
    have hlen : ((s.take j).drop i).length = j - i := by rw [List.length_drop, List.length_take]; omega
    rw [hlen] at this
    exact this
  have n1 := hn 0 4 (by omega) (by omega)
  have n2 := hn 4 6 (by omega) (by omega)
  have n3 := hn 6 8 (by omega) (by omega)
  have n4 := hn 8 10 (by omega) (by omega)
  have n5 := hn 10 12 (by omega) (by omega)
  have n6 := hn 12 14 (by omega) (by omega)
  have hps : (ps.take i).map (fun x => [CV.int .i64 (decV x : Nat)]) = [[.int .i64 (numAt s 0 4 : Nat)], [.int .i64 (numAt s 4 6 : Nat)], [.int .i64 (numAt s 6 8 : Nat)], [.int .i64 (numAt s 8 10 : Nat)], [.int .i64 (numAt s 10 12 : Nat)], [.int .i64 (numAt s 12 14 : Nat)]] := by
    rw [List.take_of_length_le (by omega), eps]; rfl
  rw [hps]
  generalize numAt s 0 4 = y at eM n1 ⊢
  generalize numAt s 4 6 = m at eM n2 ⊢
  generalize numAt s 6 8 = d at eM n3 ⊢
  generalize numAt s 8 10 = h at eM n4 ⊢
  generalize numAt s 10 12 = mi at eM n5 ⊢
  generalize numAt s 12 14 = se at eM n6 ⊢
  clear hps hpd eps
  simp only [hl, hd, and_self, true_and] at eM
  have eM1 : okDate y m d h mi se → M = some (dateN y m d h mi se) := fun hk => by rw [eM, if_pos hk]
  have eM0 : ¬ okDate y m d h mi se → M = none := fun hk => by rw [eM, if_neg hk]
  clear eM
  unfold okDate at eM1 eM0
  have hml := message_monthLong (y : Int) (m : Int) (by omega)
  have hmp := mLen_pos (y : Int) (m : Int)
  obtain ⟨L, eL⟩ : ∃ L, L = mLen (y : Int) (m : Int) := ⟨_, rfl⟩
  rw [← eL] at hml eM0 eM1 hmp
  by_cases c1 : (1970 : Int) ≤ y
  rotate_left
  · have fc1 : ((y : Int) < 1970) = True := eq_true (by omega)
    have eM := eM0 (by intro hh; exact c1 (by omega))
    subst eM
    simp -implicitDefEqProofs [hlt', hge, fc1]
    refine ACallGS.of (fun h => by cases h) (r := .x (.one (.int .i64 0))) rfl ?_
    simp -implicitDefEqProofs [fc1]
  have fc1 : ((y : Int) < 1970) = False := eq_false (by omega)
  by_cases c2 : (1 : Int) ≤ m
  rotate_left
  · have fc2 : ((m : Int) < 1) = True := eq_true (by omega)
    have eM := eM0 (by intro hh; exact c2 (by omega))
    subst eM
    simp -implicitDefEqProofs [hlt', hge, fc1, fc2]
    refine ACallGS.of (fun h => by cases h) (r := .x (.one (.int .i64 0))) rfl ?_
    simp -implicitDefEqProofs [fc1, fc2]
  have fc2 : ((m : Int) < 1) = False := eq_false (by omega)
  by_cases c3 : (m : Int) ≤ 12
  rotate_left
  · have fc3 : (12 < (m : Int)) = True := eq_true (by omega)
    have eM := eM0 (by intro hh; exact c3 (by omega))
    subst eM
    simp -implicitDefEqProofs [hlt', hge, fc1, fc2, fc3]
    refine ACallGS.of (fun h => by cases h) (r := .x (.one (.int .i64 0))) rfl ?_
    simp -implicitDefEqProofs [fc1, fc2, fc3]
  have fc3 : (12 < (m : Int)) = False := eq_false (by omega)
  by_cases c4 : (1 : Int) ≤ d
  rotate_left
  · have fc4 : ((d : Int) < 1) = True := eq_true (by omega)
    have eM := eM0 (by intro hh; exact c4 (by omega))
    subst eM
    simp -implicitDefEqProofs [hlt', hge, fc1, fc2, fc3, fc4]
    refine ACallGS.of (fun h => by cases h) (r := .x (.one (.int .i64 0))) rfl ?_
    simp -implicitDefEqProofs [fc1, fc2, fc3, fc4]
  have fc4 : ((d : Int) < 1) = False := eq_false (by omega)
  by_cases c5 : (d : Int) ≤ L
  rotate_left
  · have fc5 : (L < (d : Int)) = True := eq_true (by omega)
    have eM := eM0 (by intro hh; exact c5 (by omega))
    subst eM
    simp -implicitDefEqProofs [hlt', hge, fc1, fc2, fc3, fc4, fc5]
    refine ACallGS.of (fun _ => hml) rfl ?_
    simp -implicitDefEqProofs [fc1, fc2, fc3, fc4, fc5]
  have fc5 : (L < (d : Int)) = False := eq_false (by omega)
  by_cases c6 : (h : Int) ≤ 23
  rotate_left
  · have fc6 : (23 < (h : Int)) = True := eq_true (by omega)
    have eM := eM0 (by intro hh; exact c6 (by omega))
    subst eM
    simp -implicitDefEqProofs [hlt', hge, fc1, fc2, fc3, fc4, fc5, fc6]
    refine ACallGS.of (fun _ => hml) rfl ?_
    simp -implicitDefEqProofs [fc1, fc2, fc3, fc4, fc5, fc6]
  have fc6 : (23 < (h : Int)) = False := eq_false (by omega)
  by_cases c7 : (mi : Int) ≤ 59
  rotate_left
  · have fc7 : (59 < (mi : Int)) = True := eq_true (by omega)
    have eM := eM0 (by intro hh; exact c7 (by omega))
    subst eM
    simp -implicitDefEqProofs [hlt', hge, fc1, fc2, fc3, fc4, fc5, fc6, fc7]
    refine ACallGS.of (fun _ => hml) rfl ?_
    simp -implicitDefEqProofs [fc1, fc2, fc3, fc4, fc5, fc6, fc7]
  have fc7 : (59 < (mi : Int)) = False := eq_false (by omega)
  by_cases c8 : (se : Int) ≤ 59
  rotate_left
  · have fc8 : (59 < (se : Int)) = True := eq_true (by omega)
    have eM := eM0 (by intro hh; exact c8 (by omega))
    subst eM
    simp -implicitDefEqProofs [hlt', hge, fc1, fc2, fc3, fc4, fc5, fc6, fc7, fc8]
    refine ACallGS.of (fun _ => hml) rfl ?_
    simp -implicitDefEqProofs [fc1, fc2, fc3, fc4, fc5, fc6, fc7, fc8]
  have fc8 : (59 < (se : Int)) = False := eq_false (by omega)
  have eM := eM1 (by omega)
  subst eM
  have hdy := message_days (y : Int) (m : Int) (by omega) (by omega)
  obtain ⟨N, eN⟩ : ∃ N, N = dY (y : Int) + dM (y : Int) (m : Int) := ⟨_, rfl⟩
  rw [← eN] at hdy
  simp -implicitDefEqProofs [hlt', hge, fc1, fc2, fc3, fc4, fc5, fc6, fc7, fc8]
  refine ACallGS.of (fun _ => hml) rfl ?_
  simp -implicitDefEqProofs [fc1, fc2, fc3, fc4, fc5, fc6, fc7, fc8]
  refine ACallK.of hdy ?_
  have hNb : (-719163 : Int) ≤ N ∧ N ≤ 3700000 := by
    have h1 := dY_mono (a := 1970) (b := (y : Int)) c1
    have h2 := dY_mono (a := (y : Int)) (b := 9999) (by omega)
    have h3 := dM_mono (y : Int) (a := 1) (b := (m : Int)) (by omega) c2
    have h4 := dM_mono (y : Int) (a := (m : Int)) (b := 13) (by omega) (by omega)
    rw [dM_one] at h3
    rw [dM_year] at h4
    have h5 := yLen_pos (y : Int)
    rw [dY_1970] at h1
    have h6 : dY 9999 = 2932532 := by decide
    omega
  have e1 : IntKind.i64.wrap (N + (d : Int)) = N + d := wrapS _ (by omega)
  have e2 : IntKind.i64.wrap (N + (d : Int) - 1) = N + d - 1 := wrapS _ (by omega)
  have e3 : IntKind.i64.wrap ((N + (d : Int) - 1) * 86400) = (N + d - 1) * 86400 := wrapS _ (by omega)
  have e4 : IntKind.i64.wrap ((h : Int) * 3600) = (h : Int) * 3600 := wrapS _ (by omega)
  have e5 : IntKind.i64.wrap ((N + (d : Int) - 1) * 86400 + (h : Int) * 3600) = (N + d - 1) * 86400 + h * 3600 := wrapS _ (by omega)
  have e6 : IntKind.i64.wrap ((mi : Int) * 60) = (mi : Int) * 60 := wrapS _ (by omega)
  have e7 : IntKind.i64.wrap ((N + (d : Int) - 1) * 86400 + (h : Int) * 3600 + (mi : Int) * 60) = (N + d - 1) * 86400 + h * 3600 + mi * 60 := wrapS _ (by omega)
  have e8 : IntKind.i64.wrap ((N + (d : Int) - 1) * 86400 + (h : Int) * 3600 + (mi : Int) * 60 + (se : Int)) = (N + d - 1) * 86400 + h * 3600 + mi * 60 + se := wrapS _ (by omega)
  simp -implicitDefEqProofs [e1, e2, e3, e4, e5, e6, e7, e8]
  unfold dateN
  rw [← eN]
end Go.Proofs.YtklnopamfncfgaaGreatDoor
namespace Go.Proofs.YtklnopamfncfgaaGreatDoor
open Go Go.Ab
set_option linter.unusedSectionVars false
variable [Amb] [HasPow10 Tryz.prog]
set_option maxRecDepth 100000
set_option maxHeartbeats 4000000

theorem textL_len (a : Addr) : (textL a).length ≤ 2000 := by
  unfold textL
  split
  · rename_i h; exact (addrF_ok h).2.2.2.2.2.2.2.2
  · simp
theorem textL_ok {a : Addr} (h : addrF a = 0) : textL a = writeL a := by unfold textL; rw [if_pos h]
theorem leadB_len {s : List UInt8} (h : leadB s = true) : 1 ≤ s.length ∧ s.length ≤ 200 := by
  unfold leadB inB at h
  simp only [Bool.and_eq_true, decide_eq_true_eq] at h
  omega
theorem replay_ReplayText (l : List UInt8) (t : Int) (a : Addr) (h : a.Fit) : ACalls Tryz.prog 7 [.one (.str l), .one (.int .i64 t), .agg a.row] (.tup [.one (.str (replayL l t a)), .one (.int .i64 (replayF l t a))]) := by
  have ht := address_Text a h
  have hT := textL_len a
  have hW := fun e => textL_ok (a := a) e
  obtain ⟨F, eF⟩ : ∃ F, F = replayF l t a := ⟨_, rfl⟩
  obtain ⟨L, eL⟩ : ∃ L, L = replayL l t a := ⟨_, rfl⟩
  have eL' := eL
  unfold replayL at eL'
  rw [← eF] at eL' ⊢
  rw [← eL]
  unfold replayF at eF
  clear eL
  generalize textL a = T at ht hT hW
  generalize writeL a = W at hW eL'
  generalize addrF a = G at ht hW eF
  obtain ⟨sc, ho, po, pa, qu, hq, fr, hf⟩ := a
  simp only [Addr.row] at ht ⊢
  refine ACalls.of mixed (fn := Tryz.f7) (by kernel_rfl) (by kernel_rfl) rfl (by kernel_rfl) (by simp [Tryz.f7]) (fun hok => ?_)
  simp -implicitDefEqProofs
  refine ACallK.of (replay_isLead l) ?_
  cases b1 : leadB l
  · rw [if_pos b1] at eF
    rw [eF, if_neg (by omega)] at eL'
    subst eF; subst eL'
    simp -implicitDefEqProofs
  rw [if_neg (by simp [b1])] at eF
  obtain ⟨l1, l2⟩ := leadB_len b1
  simp -implicitDefEqProofs
  refine ACallK.of (isMoment t) ?_
  cases b2 : momentB t
  · rw [if_pos b2] at eF
    rw [eF, if_neg (by omega)] at eL'
    subst eF; subst eL'
    simp -implicitDefEqProofs
  rw [if_neg (by simp [b2])] at eF
  subst eF
  simp -implicitDefEqProofs
  refine ACallK.of ht ?_
  by_cases hF : F = 0
  · rw [hF, if_pos rfl, ← hW hF] at eL'
    have hs := stampL_len t
    have hst := index_Stamp t b2
    generalize stampL t = S at hs hst eL'
    subst hF
    have m1 : l.length + 1 ≤ maxLen := by unfold maxLen; omega
    have m2 : l.length + 1 + S.length ≤ maxLen := by unfold maxLen; omega
    have m3 : l.length + 1 + S.length + 1 ≤ maxLen := by unfold maxLen; omega
    have m4 : l.length + 1 + S.length + 1 + T.length ≤ maxLen := by unfold maxLen; omega
    subst eL'
    simp -implicitDefEqProofs [m1]
    refine ACallK.of hst ?_
    simp -implicitDefEqProofs [m1, m2]
    unfold maxLen; omega
  · have hb : (F == 0) = false := by simpa using hF
    rw [if_neg hF] at eL'
    subst eL'
    simp -implicitDefEqProofs [hF, hb]
theorem replay_ReadReplay (l x : List UInt8) : ACalls Tryz.prog 9 [.one (.str l), .one (.str x)] (.tup [.one (.int .i64 (readRp l x).1), .agg (readRp l x).2.1.row, .one (.int .i64 (readRp l x).2.2)]) := by
  obtain ⟨X, eX⟩ : ∃ X, X = readRp l x := ⟨_, rfl⟩
  rw [← eX]
  unfold readRp restL at eX
  refine ACalls.of mixed (fn := Tryz.f9) (by kernel_rfl) (by kernel_rfl) rfl (by kernel_rfl) (by simp [Tryz.f9]) (fun hok => ?_)
  simp -implicitDefEqProofs
  refine ACallK.of (replay_isLead l) ?_
  cases b1 : leadB l
  · rw [if_pos b1] at eX
    subst eX
    simp -implicitDefEqProofs [noAddr, Addr.row]
  rw [if_neg (by simp [b1])] at eX
  obtain ⟨l1, l2⟩ := leadB_len b1
  have m1 : l.length + 1 ≤ maxLen := by unfold maxLen; omega
  have hcp := strings_CutPrefix x (l ++ [47])
  have hll : (l ++ [47]).length = l.length + 1 := by simp
  rw [hll] at hcp
  unfold hasPre at hcp
  simp -implicitDefEqProofs [m1]
  refine ACallK.of hcp ?_
  cases b2 : (l ++ [47]).isPrefixOf x
  · rw [b2] at eX
    subst eX
    simp -implicitDefEqProofs [noAddr, Addr.row]
  rw [b2] at eX
  simp only [if_true] at eX ⊢
  obtain ⟨r, er⟩ : ∃ r, r = x.drop (l.length + 1) := ⟨_, rfl⟩
  rw [← er] at eX ⊢
  have hg : goodL r = (decide (15 ≤ r.length) && decide (r[14]? = some 47)) := rfl
  by_cases b3 : 15 ≤ r.length
  rotate_left
  · have g1 : ((r.length : Int) < 15) = True := eq_true (by omega)
    rw [if_pos (by rw [hg]; simp; omega)] at eX
    subst eX
    simp -implicitDefEqProofs [g1, noAddr, Addr.row]
  have g1 : ((r.length : Int) < 15) = False := eq_false (by omega)
  have h14 : 14 < r.length := by omega
  have h14' : (14 < (r.length : Int)) = True := eq_true (by omega)
  have e14 : r[14]? = some r[14] := List.getElem?_eq_getElem h14
  by_cases b4 : r[14] = 47
  rotate_left
  · have f1 : ((r[14].toNat : Int) = 47) = False := eq_false (fun e => b4 ((u8_int 47 (by omega)).1 e))
    have f2 : ((r[14].toNat : Int) != 47) = true := by rw [bne_iff_ne]; exact fun e => b4 ((u8_int 47 (by omega)).1 e)
    rw [if_pos (by rw [hg, e14]; simp [b4])] at eX
    subst eX
    simp -implicitDefEqProofs [g1, h14, h14', f1, f2, noAddr, Addr.row]
  have f1 : ((r[14].toNat : Int) = 47) = True := eq_true ((u8_int 47 (by omega)).2 b4)
  have f2 : ((r[14].toNat : Int) != 47) = false := by rw [bne_eq_false_iff_eq]; exact (u8_int 47 (by omega)).2 b4
  rw [if_neg (by rw [hg, e14]; simp [b3, b4])] at eX
  have hm := message_MomentOf (r.take 14)
  have ha := address_Read (r.drop 15)
  have g2 : (14 ≤ (r.length : Int)) = True := eq_true (by omega)
  have g3 : (15 ≤ (r.length : Int)) = True := eq_true (by omega)
  have q1 : cutAt r 0 14 = r.take 14 := by simp [cutAt]
  generalize readAR (r.drop 15) = A at ha eX
  obtain ⟨⟨sc, ho, po, pa, qu, hq, fr, hf⟩, n2, A⟩ := A
  simp only [Addr.row] at ha eX
  generalize momentL (r.take 14) = M at hm eX
  simp -implicitDefEqProofs [g1, h14, h14', f1, f2, g2, g3, q1]
  refine ACallK.of hm ?_
  simp -implicitDefEqProofs [g1, h14, h14', f1, f2, g2, g3, q1]
  refine ACallK.of ha ?_
  cases M with
  | none =>
    subst eX
    simp -implicitDefEqProofs [noAddr, Addr.row]
  | some n =>
    by_cases hA : A = 0
    · have hb : (A == 0) = true := by simpa using hA
      simp only [hA, ne_eq, not_true_eq_false, if_false] at eX
      subst eX
      simp -implicitDefEqProofs [hA, hb, Addr.row]
      refine AltR.r ⟨[10], by kernel_rfl, ?_⟩
      simp -implicitDefEqProofs [hA, hb, Addr.row]
    · have hb : (A == 0) = false := by simpa using hA
      simp only [ne_eq, hA, not_false_eq_true, if_true] at eX
      subst eX
      simp -implicitDefEqProofs [hA, hb, noAddr, Addr.row]
end Go.Proofs.YtklnopamfncfgaaGreatDoor
namespace Go.Proofs.YtklnopamfncfgaaGreatDoor
open Go Go.Ab
set_option linter.unusedSectionVars false
variable [Amb]
set_option maxRecDepth 100000
set_option maxHeartbeats 4000000

theorem replay_checkParts0 : ACalls Tryz.prog 80 [.one .nil] (.x (.one (.int .i64 0))) := by
  refine ACalls.of mixed (fn := Tryz.f80) (by kernel_rfl) (by kernel_rfl) rfl (by kernel_rfl) (by simp [Tryz.f80]) (fun hok => ?_)
  simp -implicitDefEqProofs +contextual [-Bool.and_eq_false_imp, Bool.and_eq_false_iff]
  refine ALoopS.of Unit (fun _ => [(8, .x (.one .nil)), (9, .x (.one (.int .i64 0))), (10, .x (.one (.int .i64 0)))]) (fun _ => True) (fun _ => 0) () trivial ?_ ?_
  · simp
  intro _ _
  simp -implicitDefEqProofs +contextual [-Bool.and_eq_false_imp, Bool.and_eq_false_iff]
abbrev view0 : XV := .agg [.bool false, .nil, .str [], .int .i64 0, .int .i64 0, .str [], .str [], .str [], .int .i64 0, .int .i64 0, .bool false, .nil, .nil, .int .i64 0]
theorem replay_Complete0 : ACalls Tryz.prog 35 [view0] (.tup [.agg [.int .i64 1, .int .i64 1], .one (.int .i64 0)]) := by
  refine ACalls.of mixed (fn := Tryz.f35) (by kernel_rfl) (by kernel_rfl) rfl (by kernel_rfl) (by simp [Tryz.f35]) (fun hok => ?_)
  simp -implicitDefEqProofs +contextual [-Bool.and_eq_false_imp, Bool.and_eq_false_iff]
  refine ACallK.of replay_checkParts0 ?_
  simp -implicitDefEqProofs +contextual [-Bool.and_eq_false_imp, Bool.and_eq_false_iff]
  refine ALoopS.of Unit (fun _ => [(1, .box view0.cells), (2, .box [.int .i64 0, .int .i64 0]), (5, .x (.one (.int .i64 0))), (18, .x (.one .nil)), (19, .x (.one (.int .i64 0))), (20, .x (.one (.int .i64 0)))]) (fun _ => True) (fun _ => 0) () trivial ?_ ?_
  · simp
  intro _ _
  simp -implicitDefEqProofs +contextual [-Bool.and_eq_false_imp, Bool.and_eq_false_iff]
theorem law9_awake : ACalls Tryz.prog 11 [] (.x (.one (.bool true))) := by
  refine ACalls.of mixed (fn := Tryz.f11) (by kernel_rfl) (by kernel_rfl) rfl (by kernel_rfl) (by simp [Tryz.f11]) (fun hok => ?_)
  simp -implicitDefEqProofs +contextual [-Bool.and_eq_false_imp, Bool.and_eq_false_iff]
  refine ACallK.of replay_Complete0 ?_
  simp -implicitDefEqProofs +contextual [-Bool.and_eq_false_imp, Bool.and_eq_false_iff]

end Go.Proofs.YtklnopamfncfgaaGreatDoor
namespace Go.Proofs.YtklnopamfncfgaaGreatDoor
open Go Go.Ab
set_option linter.unusedSectionVars false
variable [Amb] [HasPow10 Tryz.prog]
set_option maxRecDepth 100000
set_option maxHeartbeats 4000000

theorem writeL_len (a : Addr) : a.scheme.length + a.host.length + a.port.length + a.path.length + (queryL a).length + (fragL a).length ≤ (writeL a).length := by
  unfold writeL behindL portL
  simp only [List.length_append]
  split
  · rename_i h; rw [h]; simp; omega
  · simp; omega
theorem Fit_of {a : Addr} (h : addrF a = 0) : a.Fit := by
  obtain ⟨_, _, _, _, _, _, hq, hf, hl⟩ := addrF_ok h
  have := writeL_len a
  have q : a.query.length ≤ (queryL a).length := by
    unfold queryL
    by_cases e : a.query = []
    · rw [e]; simp
    · rw [hq e]; simp
  have f : a.frag.length ≤ (fragL a).length := by
    unfold fragL
    by_cases e : a.frag = []
    · rw [e]; simp
    · rw [hf e]; simp
  exact ⟨by omega, by omega, by omega, by omega, by omega, by omega⟩
theorem readRp_none {l x : List UInt8} (h : (readRp l x).2.2 ≠ 0) : (readRp l x).1 = 0 ∧ (readRp l x).2.1 = noAddr := by
  unfold readRp at h ⊢
  split
  · exact ⟨rfl, rfl⟩
  · rename_i h1
    rw [if_neg h1] at h
    split
    · exact ⟨rfl, rfl⟩
    · rename_i r hr
      rw [hr] at h
      simp only at h
      split
      · exact ⟨rfl, rfl⟩
      · rename_i h2
        rw [if_neg h2] at h
        split
        · exact ⟨rfl, rfl⟩
        · rename_i t ht
          rw [ht] at h
          simp only at h
          split
          · exact ⟨rfl, rfl⟩
          · rename_i h3
            rw [if_neg h3] at h
            exact absurd rfl h
theorem lawComeBack (l : List UInt8) (t : Int) (a : Addr) (x : List UInt8) (h : a.Fit) : ACalls Tryz.prog 4 [.one (.str l), .one (.int .i64 t), .agg a.row, .one (.str x)] (.x (.one (.bool true))) := by
  have c1 := replay_ReplayText l t a h
  have c2 := replay_ReadReplay l (replayL l t a)
  have c3 := replay_ReadReplay l x
  have hb := fun e => replay_back (lead := l) (t := t) (a := a) e
  have hn := fun e => readRp_none (l := l) (x := x) e
  have c4 : (readRp l x).2.2 = 0 → ACalls Tryz.prog 7 [.one (.str l), .one (.int .i64 (readRp l x).1), .agg (readRp l x).2.1.row] (.tup [.one (.str x), .one (.int .i64 0)]) := by
    intro e
    obtain ⟨f1, f2⟩ := replay_forth e
    have := replay_ReplayText l (readRp l x).1 (readRp l x).2.1 (Fit_of (replayF_ok f1).2.2)
    rw [f1, f2] at this
    exact this
  generalize readRp l x = R at c3 c4 hn
  obtain ⟨n, ⟨r1, r2, r3, r4, r5, r6, r7, r8⟩, f⟩ := R
  simp only [Addr.row] at c3 c4 hn
  generalize replayL l t a = L at c1 c2 hb
  generalize replayF l t a = F at c1 hb
  obtain ⟨sc, ho, po, pa, qu, hq, fr, hf⟩ := a
  simp only [Addr.row] at c1 ⊢
  refine ACalls.of mixed (fn := Tryz.f4) (by kernel_rfl) (by kernel_rfl) rfl (by kernel_rfl) (by simp [Tryz.f4]) (fun hok => ?_)
  simp -implicitDefEqProofs
  refine ACallK.of c1 ?_
  by_cases hF : F = 0
  · have hFb : (F == 0) = true := by simpa using hF
    rw [hb hF] at c2
    simp only [Addr.row] at c2
    simp -implicitDefEqProofs [hF, hFb]
    refine ACallK.of c2 ?_
    simp -implicitDefEqProofs
    refine ACallK.of c3 ?_
    by_cases hf0 : f = 0
    · have hfb : (f == 0) = true := by simpa using hf0
      have c5 := c4 hf0
      simp -implicitDefEqProofs [hf0, hfb]
      refine ACallK.of c5 ?_
      simp -implicitDefEqProofs
      refine ACallGS.of (fun _ => law9_awake) rfl ?_
      simp -implicitDefEqProofs
    · have hfb : (f == 0) = false := by simpa using hf0
      obtain ⟨e1, e2⟩ := hn hf0
      simp only [noAddr, Addr.mk.injEq] at e1 e2
      obtain ⟨rfl, rfl, rfl, rfl, rfl, rfl, rfl, rfl⟩ := e2
      subst e1
      simp -implicitDefEqProofs [hf0, hfb]
      refine ACallGS.of (fun _ => law9_awake) rfl ?_
      simp -implicitDefEqProofs
  · have hFb : (F == 0) = false := by simpa using hF
    simp -implicitDefEqProofs [hF, hFb]
    refine ACallK.of c3 ?_
    by_cases hf0 : f = 0
    · have hfb : (f == 0) = true := by simpa using hf0
      have c5 := c4 hf0
      simp -implicitDefEqProofs [hf0, hfb]
      refine ACallK.of c5 ?_
      simp -implicitDefEqProofs
      refine ACallGS.of (fun _ => law9_awake) rfl ?_
      simp -implicitDefEqProofs
    · have hfb : (f == 0) = false := by simpa using hf0
      obtain ⟨e1, e2⟩ := hn hf0
      simp only [noAddr, Addr.mk.injEq] at e1 e2
      obtain ⟨rfl, rfl, rfl, rfl, rfl, rfl, rfl, rfl⟩ := e2
      subst e1
      simp -implicitDefEqProofs [hf0, hfb]
      refine ACallGS.of (fun _ => law9_awake) rfl ?_
      simp -implicitDefEqProofs
end Go.Proofs.YtklnopamfncfgaaGreatDoor
namespace Go.Proofs.YtklnopamfncfgaaGreatDoor
open Go Go.Ab
set_option linter.unusedSectionVars false
variable [Amb]

/-! ### The order of strings and of entries -/
theorem ltB_irrefl : ∀ a : List UInt8, ltB a a = false
  | [] => rfl
  | a :: x => by
    have ih := ltB_irrefl x
    unfold ltB at ih ⊢
    simp [Op.bytesLess, ih]
theorem ltB_trans : ∀ {a b c : List UInt8}, ltB a b = true → ltB b c = true → ltB a c = true
  | a, b, [], _, h2 => by unfold ltB at h2; cases b <;> simp [Op.bytesLess] at h2
  | a, [], c :: z, h1, _ => by unfold ltB at h1; cases a <;> simp [Op.bytesLess] at h1
  | [], b :: y, c :: z, _, _ => by simp [ltB, Op.bytesLess]
  | a :: x, b :: y, c :: z, h1, h2 => by
    have ih := @ltB_trans x y z
    unfold ltB at h1 h2 ih ⊢
    simp only [Op.bytesLess, Bool.or_eq_true, decide_eq_true_eq, Bool.and_eq_true, beq_iff_eq] at h1 h2 ⊢
    rcases h1 with h1 | ⟨rfl, h1⟩
    · rcases h2 with h2 | ⟨rfl, h2⟩
      · exact .inl (UInt8.lt_trans h1 h2)
      · exact .inl h1
    · rcases h2 with h2 | ⟨rfl, h2⟩
      · exact .inl h2
      · exact .inr ⟨rfl, ih h1 h2⟩
theorem ltB_total : ∀ {a b : List UInt8}, ltB a b = false → ltB b a = false → a = b
  | [], [], _, _ => rfl
  | [], b :: y, h, _ => by simp [ltB, Op.bytesLess] at h
  | a :: x, [], _, h => by simp [ltB, Op.bytesLess] at h
  | a :: x, b :: y, h1, h2 => by
    have ih := @ltB_total x y
    unfold ltB at h1 h2 ih
    simp only [Op.bytesLess, Bool.or_eq_false_iff, decide_eq_false_iff_not] at h1 h2
    have hab : a = b := UInt8.le_antisymm (UInt8.not_lt.1 h2.1) (UInt8.not_lt.1 h1.1)
    subst hab
    simp only [BEq.rfl, Bool.true_and] at h1 h2
    rw [ih h1.2 h2.2]
theorem ltB_asymm {a b : List UInt8} (h : ltB a b = true) : ltB b a = false := by
  cases hb : ltB b a with
  | false => rfl
  | true => have := ltB_trans h hb; rw [ltB_irrefl] at this; cases this
theorem cmpB_neg {a b : List UInt8} : Lib.compareBytes a b < 0 ↔ ltB a b = true := by
  rw [cmpB_eq]
  split
  · simp [*]
  · rename_i h
    split <;> simp [h]
theorem cmpB_zero {a b : List UInt8} : Lib.compareBytes a b = 0 ↔ a = b := by
  rw [cmpB_eq]
  split
  · rename_i h
    simp
    rintro rfl
    rw [ltB_irrefl] at h; cases h
  · split <;> simp [*]
theorem cmpB_pos {a b : List UInt8} : 0 < Lib.compareBytes a b ↔ ltB b a = true := by
  rw [cmpB_eq]
  split
  · rename_i h; simp [ltB_asymm h]
  · rename_i h
    split
    · rename_i h2; subst h2; simp [ltB_irrefl]
    · rename_i h2
      simp
      cases hb : ltB b a with
      | true => rfl
      | false => exact absurd (ltB_total (by simpa using h) hb) h2
theorem cmpI_neg {a b : Int} : cmpI a b < 0 ↔ a < b := by unfold cmpI; split <;> (try split) <;> omega
theorem cmpI_zero {a b : Int} : cmpI a b = 0 ↔ a = b := by unfold cmpI; split <;> (try split) <;> omega
theorem cmpI_pos {a b : Int} : 0 < cmpI a b ↔ b < a := by unfold cmpI; split <;> (try split) <;> omega

theorem firstNZ_lt {a b c d : Int} : firstNZ [a, b, c, d] < 0 ↔ a < 0 ∨ (a = 0 ∧ (b < 0 ∨ (b = 0 ∧ (c < 0 ∨ (c = 0 ∧ d < 0))))) := by
  simp only [firstNZ]
  split <;> (try split) <;> (try split) <;> (try split) <;> omega
theorem firstNZ_eq {a b c d : Int} : firstNZ [a, b, c, d] = 0 ↔ a = 0 ∧ b = 0 ∧ c = 0 ∧ d = 0 := by
  simp only [firstNZ]
  split <;> (try split) <;> (try split) <;> (try split) <;> omega
/-- a comes ahead of b. -/
def Before (a b : Entry) : Prop := ltB a.key b.key = true ∨ (a.key = b.key ∧ (a.time < b.time ∨ (a.time = b.time ∧ (ltB a.file b.file = true ∨ (a.file = b.file ∧ a.lo < b.lo)))))
theorem cmpE_neg {a b : Entry} : cmpE a b < 0 ↔ Before a b := by
  unfold cmpE cmpL Before
  rw [firstNZ_lt, cmpB_neg, cmpB_zero, cmpI_neg, cmpI_zero, cmpB_neg, cmpB_zero, cmpI_neg]
theorem Before.trans {a b c : Entry} (h1 : Before a b) (h2 : Before b c) : Before a c := by
  unfold Before at *
  rcases h1 with h1 | ⟨e1, h1⟩
  · rcases h2 with h2 | ⟨e2, _⟩
    · exact .inl (ltB_trans h1 h2)
    · exact .inl (e2 ▸ h1)
  · rcases h2 with h2 | ⟨e2, h2⟩
    · exact .inl (e1 ▸ h2)
    · refine .inr ⟨e1.trans e2, ?_⟩
      rcases h1 with h1 | ⟨t1, h1⟩
      · rcases h2 with h2 | ⟨t2, _⟩ <;> exact .inl (by omega)
      · rcases h2 with h2 | ⟨t2, h2⟩
        · exact .inl (by omega)
        · refine .inr ⟨t1.trans t2, ?_⟩
          rcases h1 with h1 | ⟨f1, h1⟩
          · rcases h2 with h2 | ⟨f2, _⟩
            · exact .inl (ltB_trans h1 h2)
            · exact .inl (f2 ▸ h1)
          · rcases h2 with h2 | ⟨f2, h2⟩
            · exact .inl (f1 ▸ h2)
            · exact .inr ⟨f1.trans f2, by omega⟩

/-- Each ahead of what follows. -/
abbrev Sorted (l : List Entry) : Prop := l.Pairwise Before
theorem pairF_sorted : ∀ {l : List Entry} {p : Option Entry}, pairF p l = 0 → Sorted l ∧ (∀ q, p = some q → ∀ x ∈ l, Before q x) ∧ ∀ x ∈ l, entryF x = 0
  | [], p, _ => ⟨.nil, fun q _ x hx => (by cases hx), fun x hx => (by cases hx)⟩
  | e :: r, none, h => by
    simp only [pairF] at h
    split at h
    · rename_i he
      obtain ⟨h1, h2, h3⟩ := pairF_sorted h
      exact ⟨.cons (h2 e rfl) h1, fun q hq => (by cases hq), fun x hx => by rcases List.mem_cons.1 hx with rfl | hx; exact he; exact h3 x hx⟩
    · exact absurd h (by assumption)
  | e :: r, some q, h => by
    simp only [pairF] at h
    split at h
    · rename_i he
      split at h
      · cases h
      · split at h
        · cases h
        · rename_i h4 h5
          obtain ⟨h1, h2, h3⟩ := pairF_sorted h
          have hqe : Before q e := cmpE_neg.1 (by omega)
          refine ⟨.cons (h2 e rfl) h1, fun q' hq => ?_, fun x hx => by rcases List.mem_cons.1 hx with rfl | hx; exact he; exact h3 x hx⟩
          injection hq with hq
          subst hq
          intro x hx
          rcases List.mem_cons.1 hx with rfl | hx
          · exact hqe
          · exact hqe.trans (h2 e rfl x hx)
    · exact absurd h (by assumption)
theorem entriesF_sorted {l : List Entry} (h : entriesF l = 0) : Sorted l ∧ ∀ x ∈ l, entryF x = 0 := by
  unfold entriesF at h
  split at h
  · cases h
  · obtain ⟨h1, _, h2⟩ := pairF_sorted h; exact ⟨h1, h2⟩
theorem Before.key {a b : Entry} (h : Before a b) : ltB b.key a.key = false := by
  rcases h with h | ⟨e, _⟩
  · exact ltB_asymm h
  · rw [e]; exact ltB_irrefl _
end Go.Proofs.YtklnopamfncfgaaGreatDoor
