/- A part of the proof: lemmas and contracts of functions. -/
import Derived.Test.YtklnopamfncfgaaGreatDoorIxG21b
import Derived.Test.YtklnopamfncfgaaGreatDoorIxG21a
import Derived.Shelf.Lays
import Derived.Shelf.Strings.BuilderX
import Derived.Test.YtklnopamfncfgaaGreatDoorProg
import Derived.KernelRfl
import Derived.Shelf.Strings.Repeat
namespace Go.Proofs.YtklnopamfncfgaaGreatDoor
open Go Go.Ab
set_option linter.unusedSectionVars false
variable [Amb]
set_option maxRecDepth 100000
set_option maxHeartbeats 4000000

theorem hex_63_35 : ∀ c : UInt8, ([63, 35] : List UInt8).contains c = true → hexC c = false := u8_all (by decide +kernel)
theorem hex_35 : ∀ c : UInt8, ([35] : List UInt8).contains c = true → hexC c = false := u8_all (by decide +kernel)
theorem hex_none : ∀ c : UInt8, ([] : List UInt8).contains c = true → hexC c = false := fun c h => by cases h
theorem restR_at (t : List UInt8) (k : Nat) : restR (t.drop k) =
    (if (rowEndL [63, 35] (t.drop k)).2 = false then ⟨false, (rowEndL [63, 35] (t.drop k)).1, (t.drop k).take (rowEndL [63, 35] (t.drop k)).1, [], false, [], false⟩
    else if (tailR 63 [35] (t.drop (k + (rowEndL [63, 35] (t.drop k)).1))).1 = false then ⟨false, (rowEndL [63, 35] (t.drop k)).1 + (tailR 63 [35] (t.drop (k + (rowEndL [63, 35] (t.drop k)).1))).2.1, (t.drop k).take (rowEndL [63, 35] (t.drop k)).1, (tailR 63 [35] (t.drop (k + (rowEndL [63, 35] (t.drop k)).1))).2.2.1, (tailR 63 [35] (t.drop (k + (rowEndL [63, 35] (t.drop k)).1))).2.2.2, [], false⟩
    else ⟨(tailR 35 [] (t.drop (k + (rowEndL [63, 35] (t.drop k)).1 + (tailR 63 [35] (t.drop (k + (rowEndL [63, 35] (t.drop k)).1))).2.1))).1,
      (rowEndL [63, 35] (t.drop k)).1 + (tailR 63 [35] (t.drop (k + (rowEndL [63, 35] (t.drop k)).1))).2.1 + (tailR 35 [] (t.drop (k + (rowEndL [63, 35] (t.drop k)).1 + (tailR 63 [35] (t.drop (k + (rowEndL [63, 35] (t.drop k)).1))).2.1))).2.1,
      (t.drop k).take (rowEndL [63, 35] (t.drop k)).1, (tailR 63 [35] (t.drop (k + (rowEndL [63, 35] (t.drop k)).1))).2.2.1, (tailR 63 [35] (t.drop (k + (rowEndL [63, 35] (t.drop k)).1))).2.2.2,
      (tailR 35 [] (t.drop (k + (rowEndL [63, 35] (t.drop k)).1 + (tailR 63 [35] (t.drop (k + (rowEndL [63, 35] (t.drop k)).1))).2.1))).2.2.1, (tailR 35 [] (t.drop (k + (rowEndL [63, 35] (t.drop k)).1 + (tailR 63 [35] (t.drop (k + (rowEndL [63, 35] (t.drop k)).1))).2.1))).2.2.2⟩) := by
  unfold restR
  simp only [List.drop_drop, Nat.add_assoc]
theorem tailR_no {c : UInt8} {w s : List UInt8} (h : ¬ s.head? = some c) : tailR c w s = (true, 0, [], false) := by unfold tailR; rw [if_neg h]
theorem tailR_yes {c : UInt8} {w t : List UInt8} {k : Nat} (h : (t.drop k).head? = some c) : tailR c w (t.drop k) = ((rowEndL w (t.drop (k + 1))).2, (rowEndL w (t.drop (k + 1))).1 + 1, (t.drop (k + 1)).take (rowEndL w (t.drop (k + 1))).1, true) := by
  unfold tailR; rw [if_pos h, List.drop_drop]
theorem head_lt {t : List UInt8} {k : Nat} {c : UInt8} (h : (t.drop k).head? = some c) : k < t.length := by
  by_cases hk : k < t.length
  · exact hk
  · rw [List.drop_eq_nil_of_le (by omega)] at h; cases h
theorem reader_rest (t : List UInt8) (k : Nat) (sc ho po : List UInt8) (ht : t.length ≤ 2000) (hk : k ≤ t.length) :
    ACallsM Tryz.prog 77 [.box (rdRow t k ⟨sc, ho, po, [], [], false, [], false⟩)] (.x (.one (.bool (restR (t.drop k)).ok)))
      [.box (rdRow t (k + (restR (t.drop k)).n) ⟨sc, ho, po, (restR (t.drop k)).path, (restR (t.drop k)).query, (restR (t.drop k)).hasQ, (restR (t.drop k)).frag, (restR (t.drop k)).hasF⟩)] := by
  have hR := restR_at t k
  obtain ⟨R, eR⟩ : ∃ R, R = restR (t.drop k) := ⟨_, rfl⟩
  rw [← eR] at hR ⊢
  have hr1 := reader_row t [63, 35] k ⟨sc, ho, po, [], [], false, [], false⟩ ht hk hex_63_35
  have hP := rowEndL_le [63, 35] (t.drop k)
  obtain ⟨P, eP⟩ : ∃ P, P = rowEndL [63, 35] (t.drop k) := ⟨_, rfl⟩
  obtain ⟨pa, epa⟩ : ∃ pa, pa = (t.drop k).take P.1 := ⟨_, rfl⟩
  obtain ⟨k1, ek1⟩ : ∃ k1, k1 = k + P.1 := ⟨_, rfl⟩
  rw [← eP, ← ek1, ← epa] at hR hr1
  rw [← eP, List.length_drop] at hP
  simp only [rdRow, Addr.row] at hr1
  have hk1 : k1 ≤ t.length := by omega
  have g1 : ((k1 : Int) ≤ (t.length : Int)) = True := eq_true (by omega)
  have g1' : (k1 ≤ t.length) = True := eq_true (by omega)
  have hpre := hasPre_head (t.drop k1) 63
  clear eP eR epa
  cases bP : P.2
  · rw [if_pos bP] at hR
    refine ACallsM.of mixed (fn := Tryz.f77) (by kernel_rfl) (by kernel_rfl) rfl (by kernel_rfl) (by kernel_rfl) rfl (by simp [Tryz.f77]) (fun hok => ?_)
    simp -implicitDefEqProofs [rdRow, Addr.row]
    refine ACallM.of hr1 ?_
    rw [bP]
    simp -implicitDefEqProofs [hR, rdRow, Addr.row, ek1]
  rw [if_neg (by simp [bP])] at hR
  by_cases hq : (t.drop k1).head? = some 63
  rotate_left
  · have hqd : decide ((t.drop k1).head? = some 63) = false := by simpa using hq
    rw [hqd] at hpre
    rw [tailR_no hq] at hR
    simp only [Bool.true_eq_false, if_false, Nat.add_zero] at hR
    have hpf := hasPre_head (t.drop k1) 35
    refine ACallsM.of mixed (fn := Tryz.f77) (by kernel_rfl) (by kernel_rfl) rfl (by kernel_rfl) (by kernel_rfl) rfl (by simp [Tryz.f77]) (fun hok => ?_)
    simp -implicitDefEqProofs [rdRow, Addr.row]
    refine ACallM.of hr1 ?_
    rw [bP]
    simp -implicitDefEqProofs [g1, g1']
    refine ACallK.of (strings_HasPrefix (t.drop k1) [63]) ?_
    rw [hpre]
    by_cases hf : (t.drop k1).head? = some 35
    rotate_left
    · have hfd : decide ((t.drop k1).head? = some 35) = false := by simpa using hf
      rw [hfd] at hpf
      rw [tailR_no hf] at hR
      simp -implicitDefEqProofs [g1, g1']
      refine ACallK.of (strings_HasPrefix (t.drop k1) [35]) ?_
      rw [hpf]
      simp -implicitDefEqProofs [hR, rdRow, Addr.row, ek1]
    have hfd : decide ((t.drop k1).head? = some 35) = true := by simpa using hf
    rw [hfd] at hpf
    rw [tailR_yes hf] at hR
    have hlf := head_lt hf
    obtain ⟨m, em⟩ : ∃ m, m = k1 + 1 := ⟨_, rfl⟩
    have hr3 := reader_row t [] m ⟨sc, ho, po, pa, [], false, [], true⟩ ht (by omega) hex_none
    rw [← em] at hR
    have wm : IntKind.i64.wrap ((k1 : Int) + 1) = (m : Int) := by rw [wrapS _ (by omega)]; omega
    obtain ⟨F, eF⟩ : ∃ F, F = rowEndL [] (t.drop m) := ⟨_, rfl⟩
    rw [← eF] at hR hr3
    simp only [rdRow, Addr.row] at hr3
    simp -implicitDefEqProofs [g1, g1']
    refine ACallK.of (strings_HasPrefix (t.drop k1) [35]) ?_
    rw [hpf]
    simp -implicitDefEqProofs [wm]
    refine ACallM.of hr3 ?_
    cases bF : F.2
    · have hm2 : m + F.1 = k + R.n := by rw [hR]; simp only; omega
      simp -implicitDefEqProofs [hR, rdRow, Addr.row, bF]
      first | done | (rw [hR] at hm2; omega)
    · have hm2 : m + F.1 = k + R.n := by rw [hR]; simp only; omega
      simp -implicitDefEqProofs [hR, rdRow, Addr.row, bF]
      first | done | (rw [hR] at hm2; omega)
  have hqd : decide ((t.drop k1).head? = some 63) = true := by simpa using hq
  rw [hqd] at hpre
  rw [tailR_yes hq] at hR
  have hlq := head_lt hq
  obtain ⟨j, ej⟩ : ∃ j, j = k1 + 1 := ⟨_, rfl⟩
  have hr2 := reader_row t [35] j ⟨sc, ho, po, pa, [], true, [], false⟩ ht (by omega) hex_35
  rw [← ej] at hR
  have wj : IntKind.i64.wrap ((k1 : Int) + 1) = (j : Int) := by rw [wrapS _ (by omega)]; omega
  have hQ := rowEndL_le [35] (t.drop j)
  obtain ⟨Q, eQ⟩ : ∃ Q, Q = rowEndL [35] (t.drop j) := ⟨_, rfl⟩
  obtain ⟨qu, equ⟩ : ∃ qu, qu = (t.drop j).take Q.1 := ⟨_, rfl⟩
  obtain ⟨k2, ek2⟩ : ∃ k2, k2 = j + Q.1 := ⟨_, rfl⟩
  rw [← eQ] at hR hr2
  rw [← equ, ← ek2] at hr2
  rw [← equ] at hR
  rw [← eQ, List.length_drop] at hQ
  have hk2 : k2 ≤ t.length := by omega
  have g2 : ((k2 : Int) ≤ (t.length : Int)) = True := eq_true (by omega)
  have g2' : (k2 ≤ t.length) = True := eq_true (by omega)
  simp only [rdRow, Addr.row] at hr2
  clear eQ equ
  refine ACallsM.of mixed (fn := Tryz.f77) (by kernel_rfl) (by kernel_rfl) rfl (by kernel_rfl) (by kernel_rfl) rfl (by simp [Tryz.f77]) (fun hok => ?_)
  simp -implicitDefEqProofs [rdRow, Addr.row]
  refine ACallM.of hr1 ?_
  rw [bP]
  simp -implicitDefEqProofs [g1, g1']
  refine ACallK.of (strings_HasPrefix (t.drop k1) [63]) ?_
  rw [hpre]
  simp -implicitDefEqProofs [wj]
  refine ACallM.of hr2 ?_
  cases bQ : Q.2
  · rw [if_pos bQ] at hR
    have hm2 : k2 = k + R.n := by rw [hR]; simp only; omega
    simp -implicitDefEqProofs [hR, rdRow, Addr.row, bQ]
    first | done | (rw [hR] at hm2; omega)
  · rw [if_neg (by simp [bQ])] at hR
    simp only at hR
    have hk2n : k1 + (Q.1 + 1) = k2 := by omega
    have hk2m : k + (P.1 + (Q.1 + 1)) = k2 := by omega
    rw [hk2n] at hR
    have hpf := hasPre_head (t.drop k2) 35
    by_cases hf : (t.drop k2).head? = some 35
    rotate_left
    · have hfd : decide ((t.drop k2).head? = some 35) = false := by simpa using hf
      rw [hfd] at hpf
      rw [tailR_no hf] at hR
      simp -implicitDefEqProofs [g2, g2']
      refine ACallK.of (strings_HasPrefix (t.drop k2) [35]) ?_
      rw [hpf]
      simp -implicitDefEqProofs [hR, rdRow, Addr.row, hk2n]
      omega
    have hfd : decide ((t.drop k2).head? = some 35) = true := by simpa using hf
    rw [hfd] at hpf
    rw [tailR_yes hf] at hR
    have hlf := head_lt hf
    obtain ⟨m, em⟩ : ∃ m, m = k2 + 1 := ⟨_, rfl⟩
    have hr3 := reader_row t [] m ⟨sc, ho, po, pa, qu, true, [], true⟩ ht (by omega) hex_none
    rw [← em] at hR
    have wm : IntKind.i64.wrap ((k2 : Int) + 1) = (m : Int) := by rw [wrapS _ (by omega)]; omega
    obtain ⟨F, eF⟩ : ∃ F, F = rowEndL [] (t.drop m) := ⟨_, rfl⟩
    rw [← eF] at hR hr3
    simp only [rdRow, Addr.row] at hr3
    simp -implicitDefEqProofs [g2, g2']
    refine ACallK.of (strings_HasPrefix (t.drop k2) [35]) ?_
    rw [hpf]
    simp -implicitDefEqProofs [wm]
    refine ACallM.of hr3 ?_
    cases bF : F.2
    · have hm2 : m + F.1 = k + R.n := by rw [hR]; simp only; omega
      simp -implicitDefEqProofs [hR, rdRow, Addr.row, bF]
      first | done | (rw [hR] at hm2; omega)
    · have hm2 : m + F.1 = k + R.n := by rw [hR]; simp only; omega
      simp -implicitDefEqProofs [hR, rdRow, Addr.row, bF]
      first | done | (rw [hR] at hm2; omega)
end Go.Proofs.YtklnopamfncfgaaGreatDoor
namespace Go.Proofs.YtklnopamfncfgaaGreatDoor
open Go Go.Ab
set_option linter.unusedSectionVars false
variable [Amb]
set_option maxRecDepth 100000
set_option maxHeartbeats 4000000

theorem cut_one_at {s : List UInt8} {i : Nat} (h : i < s.length) : cutAt s (i : Int) ((i : Int) + 1) = [s[i]] := by
  rw [show ((i : Int) + 1) = ((i + 1 : Nat) : Int) from by omega, cut_nat, List.drop_eq_getElem_cons h]
  rw [show i + 1 - i = 1 from by omega]; rfl
theorem small_one (c : UInt8) : smallL [c] = [smallC c] := rfl
/-- What the reading of a scheme answers. -/
def schX (t : List UInt8) : List UInt8 × Nat × Bool := match schemeR t with
  | .ok n => (t.take n, n + 3, true)
  | .error k => ([], k, false)
def w1L : List UInt8 := [104, 116, 116, 112, 58, 47, 47]
def w2L : List UInt8 := [104, 116, 116, 112, 115, 58, 47, 47]
theorem schX_by (t : List UInt8) : schX t = if comL w1L t = 7 then (t.take 4, 7, true) else if comL w2L t = 8 then (t.take 5, 8, true) else ([], max (comL w1L t) (comL w2L t), false) := by
  have h1 : httpL ++ [58, 47, 47] = w1L := rfl
  have h2 : httpsL ++ [58, 47, 47] = w2L := rfl
  unfold schX schemeR
  rw [h1, h2]
  split
  · rename_i n h
    split at h
    · rename_i h7; injection h with h; subst h; rw [if_pos h7]
    · rename_i h7
      split at h
      · rename_i h8; injection h with h; subst h; rw [if_neg h7, if_pos h8]
      · cases h
  · rename_i n h
    split at h
    · cases h
    · rename_i h7
      split at h
      · cases h
      · rename_i h8; injection h with h; subst h; rw [if_neg h7, if_neg h8]
theorem address_scheme (t : List UInt8) (ht : t.length ≤ 4000000000000000) : ACalls Tryz.prog 75 [.one (.str t)] (.tup [.one (.str (schX t).1), .one (.int .i64 (schX t).2.1), .one (.bool (schX t).2.2)]) := by
  have hX := schX_by t
  obtain ⟨X, eX⟩ : ∃ X, X = schX t := ⟨_, rfl⟩
  rw [← eX] at hX ⊢
  clear eX
  obtain ⟨c1, ec1⟩ : ∃ c, c = comL w1L t := ⟨_, rfl⟩
  obtain ⟨c2, ec2⟩ : ∃ c, c = comL w2L t := ⟨_, rfl⟩
  rw [← ec1, ← ec2] at hX
  have W1 : IntKind.i64.wrap 1 = 1 := wrapS _ (by omega)
  have W2 : IntKind.i64.wrap 2 = 2 := wrapS _ (by omega)
  have W4 : IntKind.i64.wrap 4 = 4 := wrapS _ (by omega)
  have W5 : IntKind.i64.wrap 5 = 5 := wrapS _ (by omega)
  refine ACalls.of mixed (fn := Tryz.f75) (by kernel_rfl) (by kernel_rfl) rfl (by kernel_rfl) (by simp [Tryz.f75]) (fun hok => ?_)
  simp -implicitDefEqProofs
  refine ALoopS.of Nat (fun i => [(0, .x (.one (.str t))), (3, .x (.one (.int .i64 ((if i = 0 then 0 else if i = 1 then c1 else max c1 c2 : Nat) : Int)))), (8, .own 9 1 [[.str [104, 116, 116, 112, 58, 47, 47]], [.str [104, 116, 116, 112, 115, 58, 47, 47]]]), (9, .x (.one (.int .i64 2))), (10, .x (.one (.int .i64 i)))])
    (fun i => i = 0 ∨ (i = 1 ∧ c1 ≠ 7) ∨ (i = 2 ∧ c1 ≠ 7 ∧ c2 ≠ 8)) (fun i => 2 - i) 0 (.inl rfl) ?_ ?_
  · simp
  rintro i (rfl | ⟨rfl, n1⟩ | ⟨rfl, n1, n2⟩)
  · obtain ⟨u, eu⟩ : ∃ u, u = w1L := ⟨_, rfl⟩
    have hul : u.length = 7 := by rw [eu]; rfl
    rw [← eu] at ec1
    obtain ⟨a, ea⟩ : ∃ a : Nat, a = 0 := ⟨_, rfl⟩
    simp -implicitDefEqProofs
    refine ALoopS.of Nat (fun n => [(0, .x (.one (.str t))), (3, .x (.one (.int .i64 a))), (6, .x (.one (.str u))), (7, .x (.one (.int .i64 n))), (8, .own 9 1 [[.str [104, 116, 116, 112, 58, 47, 47]], [.str [104, 116, 116, 112, 115, 58, 47, 47]]]), (9, .x (.one (.int .i64 2))), (10, .x (.one (.int .i64 0)))])
      (ComAt u t) (fun n => u.length - n) 0 (ComAt.zero u t) ?_ ?_
    · simp [eu, ea, w1L]
    intro n hn
    have hle := hn.le
    have hle2 := hn.le2
    have w1 : IntKind.i64.wrap ((n : Int) + 1) = (n : Int) + 1 := wrapS _ (by omega)
    by_cases hu : n < u.length
    rotate_left
    · obtain ⟨hf, hnu⟩ := hn.full hu
      rw [← ec1, hul] at hf
      rw [hul] at hnu
      subst hnu
      have f1 : ((7 : Int) < (u.length : Int)) = False := eq_false (by omega)
      have f2 : ((7 : Int) = (u.length : Int)) = True := eq_true (by omega)
      have f3 : ((7 : Int) ≤ (t.length : Int)) = True := eq_true (by omega)
      have f4 : ((7 - 3 : Int) ≤ (t.length : Int)) = True := eq_true (by omega)
      rw [if_pos hf] at hX
      simp -implicitDefEqProofs [hul, f1]
      refine ACallGS.of (fun h => by cases h) (r := .x (.one (.str []))) rfl ?_
      simp -implicitDefEqProofs [hul, f1, f2, f3, f4, hX, W4, W5]
      try omega
    have hu' : ((n : Int) < (u.length : Int)) = True := eq_true (by omega)
    have hne : ((n : Int) = (u.length : Int)) = False := eq_false (by omega)
    by_cases hx : ∃ h : n < t.length, smallC t[n] = u[n]
    · obtain ⟨hlt, he⟩ := hx
      have hlt' : ((n : Int) < (t.length : Int)) = True := eq_true (by omega)
      have hlt2 : ((n : Int) ≤ (t.length : Int)) = True := eq_true (by omega)
      have hlt3 : ((n : Int) + 1 ≤ (t.length : Int)) = True := eq_true (by omega)
      have hlt4 : ((n : Int) + 1 ≤ (u.length : Int)) = True := eq_true (by omega)
      have q1 := cut_one_at hlt
      have q2 := cut_one_at hu
      have q3 : ((n : Int) ≤ (n : Int) + 1) = True := eq_true (by omega)
      have hsm := address_Small [t[n]]
      rw [small_one, he] at hsm
      simp -implicitDefEqProofs [hu', hlt', w1, hlt2, hlt3, hlt4, q1, q2, q3]
      refine ACallGS.of (fun _ => hsm) rfl ?_
      simp -implicitDefEqProofs [hu', hlt', w1, hlt2, hlt3, hlt4, q1, q2, q3]
      refine Again.of (n + 1) (hn.step hu hlt he) (by omega) (by simp [w1])
    have hcn : c1 = n := by
      rw [ec1]
      by_cases h : n < t.length
      · exact hn.miss hu h (fun he => hx ⟨h, he⟩)
      · exact hn.short h
    have K : (∃ h : n < t.length, ¬ smallC t[n] = u[n]) ∨ ¬ n < t.length := by
      by_cases h : n < t.length
      · exact .inl ⟨h, fun he => hx ⟨h, he⟩⟩
      · exact .inr h
    rcases K with ⟨hlt, he⟩ | hlt
    · have hlt' : ((n : Int) < (t.length : Int)) = True := eq_true (by omega)
      have hlt2 : ((n : Int) ≤ (t.length : Int)) = True := eq_true (by omega)
      have hlt3 : ((n : Int) + 1 ≤ (t.length : Int)) = True := eq_true (by omega)
      have hlt4 : ((n : Int) + 1 ≤ (u.length : Int)) = True := eq_true (by omega)
      have q1 := cut_one_at hlt
      have q2 := cut_one_at hu
      have q3 : ((n : Int) ≤ (n : Int) + 1) = True := eq_true (by omega)
      have hsm := address_Small [t[n]]
      rw [small_one] at hsm
      have he' : (smallC t[n] = u[n]) = False := eq_false he
      have he2 : (smallC t[n] == u[n]) = false := by rw [beq_eq_false_iff_ne]; exact he
      simp -implicitDefEqProofs [hu', hlt', w1, hlt2, hlt3, hlt4, q1, q2, q3]
      refine ACallGS.of (fun _ => hsm) rfl ?_
      simp -implicitDefEqProofs [hu', hlt', w1, hlt2, hlt3, hlt4, q1, q2, q3, he', he2, hne]
      refine Again.of 1 (.inr (.inl ⟨rfl, by omega⟩)) (by omega) ?_
      simp [ea, hcn, W1, W2]
      try omega
    · have hlt' : ((n : Int) < (t.length : Int)) = False := eq_false (by omega)
      simp -implicitDefEqProofs [hu', hlt']
      refine ACallGS.of (fun h => by cases h) (r := .x (.one (.str []))) rfl ?_
      simp -implicitDefEqProofs [hu', hlt', hne]
      refine Again.of 1 (.inr (.inl ⟨rfl, by omega⟩)) (by omega) ?_
      simp [ea, hcn, W1, W2]
      try omega
  · obtain ⟨u, eu⟩ : ∃ u, u = w2L := ⟨_, rfl⟩
    have hul : u.length = 8 := by rw [eu]; rfl
    rw [← eu] at ec2
    obtain ⟨a, ea⟩ : ∃ a : Nat, a = c1 := ⟨_, rfl⟩
    simp -implicitDefEqProofs
    refine ALoopS.of Nat (fun n => [(0, .x (.one (.str t))), (3, .x (.one (.int .i64 a))), (6, .x (.one (.str u))), (7, .x (.one (.int .i64 n))), (8, .own 9 1 [[.str [104, 116, 116, 112, 58, 47, 47]], [.str [104, 116, 116, 112, 115, 58, 47, 47]]]), (9, .x (.one (.int .i64 2))), (10, .x (.one (.int .i64 1)))])
      (ComAt u t) (fun n => u.length - n) 0 (ComAt.zero u t) ?_ ?_
    · simp [eu, ea, w2L]
    intro n hn
    have hle := hn.le
    have hle2 := hn.le2
    have w1 : IntKind.i64.wrap ((n : Int) + 1) = (n : Int) + 1 := wrapS _ (by omega)
    by_cases hu : n < u.length
    rotate_left
    · obtain ⟨hf, hnu⟩ := hn.full hu
      rw [← ec2, hul] at hf
      rw [hul] at hnu
      subst hnu
      have f1 : ((8 : Int) < (u.length : Int)) = False := eq_false (by omega)
      have f2 : ((8 : Int) = (u.length : Int)) = True := eq_true (by omega)
      have f3 : ((8 : Int) ≤ (t.length : Int)) = True := eq_true (by omega)
      have f4 : ((8 - 3 : Int) ≤ (t.length : Int)) = True := eq_true (by omega)
      rw [if_neg n1, if_pos hf] at hX
      simp -implicitDefEqProofs [hul, f1]
      refine ACallGS.of (fun h => by cases h) (r := .x (.one (.str []))) rfl ?_
      simp -implicitDefEqProofs [hul, f1, f2, f3, f4, hX, W4, W5]
      try omega
    have hu' : ((n : Int) < (u.length : Int)) = True := eq_true (by omega)
    have hne : ((n : Int) = (u.length : Int)) = False := eq_false (by omega)
    by_cases hx : ∃ h : n < t.length, smallC t[n] = u[n]
    · obtain ⟨hlt, he⟩ := hx
      have hlt' : ((n : Int) < (t.length : Int)) = True := eq_true (by omega)
      have hlt2 : ((n : Int) ≤ (t.length : Int)) = True := eq_true (by omega)
      have hlt3 : ((n : Int) + 1 ≤ (t.length : Int)) = True := eq_true (by omega)
      have hlt4 : ((n : Int) + 1 ≤ (u.length : Int)) = True := eq_true (by omega)
      have q1 := cut_one_at hlt
      have q2 := cut_one_at hu
      have q3 : ((n : Int) ≤ (n : Int) + 1) = True := eq_true (by omega)
      have hsm := address_Small [t[n]]
      rw [small_one, he] at hsm
      simp -implicitDefEqProofs [hu', hlt', w1, hlt2, hlt3, hlt4, q1, q2, q3]
      refine ACallGS.of (fun _ => hsm) rfl ?_
      simp -implicitDefEqProofs [hu', hlt', w1, hlt2, hlt3, hlt4, q1, q2, q3]
      refine Again.of (n + 1) (hn.step hu hlt he) (by omega) (by simp [w1])
    have hcn : c2 = n := by
      rw [ec2]
      by_cases h : n < t.length
      · exact hn.miss hu h (fun he => hx ⟨h, he⟩)
      · exact hn.short h
    have K : (∃ h : n < t.length, ¬ smallC t[n] = u[n]) ∨ ¬ n < t.length := by
      by_cases h : n < t.length
      · exact .inl ⟨h, fun he => hx ⟨h, he⟩⟩
      · exact .inr h
    rcases K with ⟨hlt, he⟩ | hlt
    · have hlt' : ((n : Int) < (t.length : Int)) = True := eq_true (by omega)
      have hlt2 : ((n : Int) ≤ (t.length : Int)) = True := eq_true (by omega)
      have hlt3 : ((n : Int) + 1 ≤ (t.length : Int)) = True := eq_true (by omega)
      have hlt4 : ((n : Int) + 1 ≤ (u.length : Int)) = True := eq_true (by omega)
      have q1 := cut_one_at hlt
      have q2 := cut_one_at hu
      have q3 : ((n : Int) ≤ (n : Int) + 1) = True := eq_true (by omega)
      have hsm := address_Small [t[n]]
      rw [small_one] at hsm
      have he' : (smallC t[n] = u[n]) = False := eq_false he
      have he2 : (smallC t[n] == u[n]) = false := by rw [beq_eq_false_iff_ne]; exact he
      simp -implicitDefEqProofs [hu', hlt', w1, hlt2, hlt3, hlt4, q1, q2, q3]
      refine ACallGS.of (fun _ => hsm) rfl ?_
      simp -implicitDefEqProofs [hu', hlt', w1, hlt2, hlt3, hlt4, q1, q2, q3, he', he2, hne]
      refine Again.of 2 (.inr (.inr ⟨rfl, n1, by omega⟩)) (by omega) ?_
      simp [ea, hcn, W1, W2]
      try omega
    · have hlt' : ((n : Int) < (t.length : Int)) = False := eq_false (by omega)
      simp -implicitDefEqProofs [hu', hlt']
      refine ACallGS.of (fun h => by cases h) (r := .x (.one (.str []))) rfl ?_
      simp -implicitDefEqProofs [hu', hlt', hne]
      refine Again.of 2 (.inr (.inr ⟨rfl, n1, by omega⟩)) (by omega) ?_
      simp [ea, hcn, W1, W2]
      try omega
  · rw [if_neg n1, if_neg n2] at hX
    simp -implicitDefEqProofs [hX]
end Go.Proofs.YtklnopamfncfgaaGreatDoor
namespace Go.Proofs.YtklnopamfncfgaaGreatDoor
open Go Go.Ab
set_option linter.unusedSectionVars false
variable [Amb]
set_option maxRecDepth 100000
set_option maxHeartbeats 4000000

theorem placeR_le (s : List UInt8) : (placeR s).2.1 ≤ s.length := by
  rw [placeR_eq]
  have h1 := takeWhile_len_le hostC s
  split
  · simp
  split
  · rename_i h58
    have hl := head_lt h58
    have h2 := takeWhile_len_le isDig (s.drop ((s.takeWhile hostC).length + 1))
    rw [List.length_drop] at h2
    split <;> simp only <;> omega
  · simpa using h1
theorem schemeR_le {t : List UInt8} {n : Nat} (h : schemeR t = .ok n) : n + 3 ≤ t.length := by
  unfold schemeR at h
  have h1 := (comL_le (httpL ++ [58, 47, 47]) t).2
  have h2 := (comL_le (httpsL ++ [58, 47, 47]) t).2
  split at h
  · injection h; omega
  · split at h
    · injection h; omega
    · cases h
theorem address_Read (t : List UInt8) : ACalls Tryz.prog 32 [.one (.str t)] (.tup [.agg (readAR t).1.row, .one (.int .i64 (readAR t).2.1), .one (.int .i64 (readAR t).2.2)]) := by
  obtain ⟨X, eX⟩ : ∃ X, X = readAR t := ⟨_, rfl⟩
  rw [← eX]
  unfold readAR at eX
  refine ACalls.of mixed (fn := Tryz.f32) (by kernel_rfl) (by kernel_rfl) rfl (by kernel_rfl) (by simp [Tryz.f32]) (fun hok => ?_)
  by_cases hl : 2000 < t.length
  · rw [if_pos hl] at eX
    have hl' : (2000 < (t.length : Int)) = True := eq_true (by omega)
    subst eX
    simp -implicitDefEqProofs [hl, hl', noAddr, Addr.row]
  rw [if_neg hl] at eX
  have hl' : (2000 < (t.length : Int)) = False := eq_false (by omega)
  have hsc := address_scheme t (by omega)
  unfold readA at eX
  simp -implicitDefEqProofs [hl, hl']
  refine ACallK.of hsc ?_
  cases hs : schemeR t with
  | error k =>
    have hX : schX t = ([], k, false) := by unfold schX; rw [hs]
    rw [hX]
    rw [hs] at eX
    subst eX
    simp -implicitDefEqProofs [noAddr, Addr.row]
  | ok n =>
    have hX : schX t = (t.take n, n + 3, true) := by unfold schX; rw [hs]
    have hn := schemeR_le hs
    rw [hX]
    rw [hs] at eX
    obtain ⟨k, ek⟩ : ∃ k, k = n + 3 := ⟨_, rfl⟩
    obtain ⟨sc, esc⟩ : ∃ sc, sc = t.take n := ⟨_, rfl⟩
    simp only [← ek, ← esc] at eX ⊢
    have hp := reader_place t k ⟨sc, [], [], [], [], false, [], false⟩ (by omega) (by omega) rfl
    have hpl := placeR_le (t.drop k)
    obtain ⟨P, eP⟩ : ∃ P, P = placeR (t.drop k) := ⟨_, rfl⟩
    rw [← eP] at eX hp hpl
    rw [List.length_drop] at hpl
    obtain ⟨m, em⟩ : ∃ m, m = k + P.2.1 := ⟨_, rfl⟩
    simp only [rdRow, Addr.row, ← em, List.drop_drop] at eX hp
    have hr := reader_rest t m sc P.2.2.1 P.2.2.2 (by omega) (by omega)
    simp only [rdRow, Addr.row] at hr
    obtain ⟨R, eR⟩ : ∃ R, R = restR (t.drop m) := ⟨_, rfl⟩
    rw [← eR] at eX hr
    simp -implicitDefEqProofs
    refine ACallM.of hp ?_
    cases b : P.1
    · rw [b] at eX
      simp only [if_true] at eX
      subst eX
      simp -implicitDefEqProofs [noAddr, Addr.row]
      refine AltR.r ⟨[26], by kernel_rfl, ?_⟩
      simp -implicitDefEqProofs
      rfl
    · rw [b] at eX
      simp only [Bool.true_eq_false, if_false] at eX
      simp -implicitDefEqProofs
      refine ACallM.of hr ?_
      cases bR : R.ok
      · rw [bR] at eX
        simp only [if_true] at eX
        subst eX
        simp -implicitDefEqProofs [noAddr, Addr.row]
        refine AltR.r ⟨[26], by kernel_rfl, ?_⟩
        simp -implicitDefEqProofs [em]
        rfl
      · rw [bR] at eX
        simp only [Bool.true_eq_false, if_false] at eX
        subst eX
        simp -implicitDefEqProofs [noAddr, Addr.row]
end Go.Proofs.YtklnopamfncfgaaGreatDoor
namespace Go.Proofs.YtklnopamfncfgaaGreatDoor
open Go Go.Ab
set_option linter.unusedSectionVars false
variable [Amb]
set_option maxRecDepth 100000
set_option maxHeartbeats 4000000

/-! ### The document's reader -/
theorem u8_cell {a b : UInt8} (h : ¬ a = b) : ([a] == [b]) = false := by simp [h]
theorem ref1_passed (t u : List UInt8) (k : Nat) (ht : t.length ≤ 4000000000000000) (hu : u.length ≤ 1000) (hk : k ≤ 1000) : ACalls Tryz.prog 198 [.one (.str t), .one (.str u), .one (.int .i64 k)] (.x (.one (.int .i64 (passI u t k)))) := by
  obtain ⟨R, eR⟩ : ∃ R, R = passI u t k := ⟨_, rfl⟩
  rw [← eR]
  unfold passI at eR
  refine ACalls.of mixed (fn := Tryz.f198) (by kernel_rfl) (by kernel_rfl) rfl (by kernel_rfl) (by simp [Tryz.f198]) (fun hok => ?_)
  simp -implicitDefEqProofs
  refine ALoopS.of Nat (fun i => [(0, .x (.one (.str t))), (1, .x (.one (.str u))), (2, .x (.one (.int .i64 k))), (7, .x (.one (.int .i64 i)))]) (ComAt u (t.drop k)) (fun i => u.length - i) 0 (ComAt.zero _ _) ?_ ?_
  · simp
  intro i hi
  have hle := hi.le
  have hle2 := hi.le2
  rw [List.length_drop] at hle2
  by_cases hlu : i < u.length
  rotate_left
  · have hlu' : ((i : Int) < (u.length : Int)) = False := eq_false (by omega)
    rw [if_pos (hi.full hlu).1] at eR
    subst eR
    simp -implicitDefEqProofs [hlu']
  have hlu' : ((i : Int) < (u.length : Int)) = True := eq_true (by omega)
  obtain ⟨q, eq⟩ : ∃ q, q = k + i := ⟨_, rfl⟩
  have w1 : IntKind.i64.wrap ((k : Int) + (i : Int)) = (q : Int) := by rw [wrapS _ (by omega)]; omega
  have w2 : IntKind.i64.wrap ((i : Int) + 1) = (i : Int) + 1 := wrapS _ (by omega)
  by_cases hlt : q < t.length
  rotate_left
  · have hlt' : ((t.length : Int) ≤ (q : Int)) = True := eq_true (by omega)
    have hc := hi.short (by rw [List.length_drop]; omega)
    rw [hc, if_neg (by omega), ← eq] at eR
    subst eR
    simp -implicitDefEqProofs [hlu', w1, hlt']
    refine ACallGS.of (fun h => by cases h) (r := .x (.one (.str []))) rfl ?_
    simp -implicitDefEqProofs [hlu', w1, hlt']
  have hlt' : ((t.length : Int) ≤ (q : Int)) = False := eq_false (by omega)
  have w3 : IntKind.i64.wrap ((q : Int) + 1) = (q : Int) + 1 := wrapS _ (by omega)
  have hl1 : ((q : Int) ≤ (t.length : Int)) = True := eq_true (by omega)
  have hl2 : ((q : Int) + 1 ≤ (t.length : Int)) = True := eq_true (by omega)
  have hl3 : ((i : Int) ≤ (u.length : Int)) = True := eq_true (by omega)
  have hl4 : ((i : Int) + 1 ≤ (u.length : Int)) = True := eq_true (by omega)
  have hl5 : ((q : Int) ≤ (q : Int) + 1) = True := eq_true (by omega)
  have hl6 : ((i : Int) ≤ (i : Int) + 1) = True := eq_true (by omega)
  have q1 := cut_one_at hlt
  have q2 := cut_one_at hlu
  have hsm := ref1_Small [t[q]]
  rw [small_one] at hsm
  have hdq : (t.drop k)[i]'(by rw [List.length_drop]; omega) = t[q] := by rw [List.getElem_drop]; simp only [eq]
  simp -implicitDefEqProofs [hlu', w1, hlt', w2, w3, hl1, hl2, hl3, hl4, hl5, hl6, q1, q2]
  refine ACallGS.of (fun _ => hsm) rfl ?_
  by_cases he : smallC t[q] = u[i]
  · have he1 : (smallC t[q] == u[i]) = true := by simpa using he
    simp -implicitDefEqProofs [w1, w2, w3, hl1, hl2, hl3, hl4, hl5, hl6, q1, q2, he, he1]
    refine Again.of (i + 1) (hi.step hlu (by rw [List.length_drop]; omega) (by rw [hdq]; exact he)) (by omega) (by simp [w2])
  · have he1 : (smallC t[q] == u[i]) = false := by simpa using he
    have hc := hi.miss hlu (by rw [List.length_drop]; omega) (by rw [hdq]; exact he)
    rw [hc, if_neg (by omega), ← eq] at eR
    subst eR
    simp -implicitDefEqProofs [w1, w2, w3, hl1, hl2, hl3, hl4, hl5, hl6, q1, q2, he, he1]
/-- A reader of the document. -/
def rdR (t : List UInt8) (a : Nat) (bad : Int) : List CV := [.str t, .int .i64 a, .int .i64 bad]
theorem ref1_until (t w : List UInt8) (a : Nat) (bad : Int) (ht : t.length ≤ 2000) (ha : a ≤ t.length) :
    ACallsM Tryz.prog 201 [.box (rdR t a bad), .x (.one (.str w))] (.x (.one (.str (stopW w (t.drop a))))) [.box (rdR t (a + (stopW w (t.drop a)).length) bad), .dead] := by
  obtain ⟨u, eu⟩ : ∃ u, u = stopW w (t.drop a) := ⟨_, rfl⟩
  rw [← eu]
  refine ACallsM.of mixed (fn := Tryz.f201) (by kernel_rfl) (by kernel_rfl) rfl (by kernel_rfl) (by kernel_rfl) rfl (by simp [Tryz.f201]) (fun hok => ?_)
  simp -implicitDefEqProofs [rdR]
  refine ALoopS.of Nat (fun i => [(0, .box (rdR t (a + i) bad)), (1, .x (.one (.str w))), (5, .x (.one (.int .i64 a)))]) (Upto (fun c => !w.contains c) (t.drop a)) (fun i => t.length - (a + i)) 0 Upto.zero ?_ ?_
  · simp [rdR]
  intro i hi
  have hle := hi.1
  rw [List.length_drop] at hle
  obtain ⟨q, eq⟩ : ∃ q, q = a + i := ⟨_, rfl⟩
  rw [← eq]
  by_cases hx : ∃ h : q < t.length, w.contains t[q] = false
  · obtain ⟨hlt, hdg⟩ := hx
    have hlt' : ((q : Int) < (t.length : Int)) = True := eq_true (by omega)
    have hwq : IntKind.i64.wrap ((q : Int) + 1) = (q : Int) + 1 := wrapS _ (by omega)
    have hno := atByte_no hdg
    simp -implicitDefEqProofs [rdR, hlt, hlt']
    refine ACallGS.of (fun _ => strings_IndexByte w t[q]) rfl ?_
    simp -implicitDefEqProofs [hno, hwq]
    refine Again.of (i + 1) (hi.step (by rw [List.length_drop]; omega) (by rw [List.getElem_drop]; simp only [← eq, hdg]; rfl)) (by omega) ?_
    simp [rdR, hwq]
    omega
  have hui : u = (t.drop a).take i := by
    rw [eu]
    refine takeWhile_upto hi (fun h => ?_)
    rw [List.length_drop] at h
    rw [List.getElem_drop]
    cases hc : w.contains t[a + i] with
    | true => rfl
    | false => exact absurd ⟨by omega, by simpa only [eq] using hc⟩ hx
  have hm : q = a + u.length := by
    have := congrArg List.length hui
    rw [List.length_take, List.length_drop] at this
    omega
  rw [← hm]
  have hcut : cutAt t (a : Int) (q : Int) = u := by rw [cut_nat, hui]; congr 1; omega
  have g5 : ((a : Int) ≤ (q : Int)) = True := eq_true (by omega)
  have g6 : ((q : Int) ≤ (t.length : Int)) = True := eq_true (by omega)
  have g5' : (a ≤ q) = True := eq_true (by omega)
  have g6' : (q ≤ t.length) = True := eq_true (by omega)
  by_cases hlt : q < t.length
  · have hlt' : ((q : Int) < (t.length : Int)) = True := eq_true (by omega)
    have hdg : w.contains t[q] = true := by
      cases hc : w.contains t[q] with
      | true => rfl
      | false => exact absurd ⟨hlt, hc⟩ hx
    have g : (atByte w t[q] < 0) = False := eq_false (by have := atByte_in hdg; omega)
    simp -implicitDefEqProofs [rdR, hlt, hlt']
    refine ACallGS.of (fun _ => strings_IndexByte w t[q]) rfl ?_
    simp -implicitDefEqProofs [g, g5, g6, g5', g6', hcut, rdR]
  · have hlt' : ((q : Int) < (t.length : Int)) = False := eq_false (by omega)
    simp -implicitDefEqProofs [rdR, hlt, hlt']
    refine ACallGS.of (fun h => by cases h) (r := .x (.one (.int .i64 0))) rfl ?_
    simp -implicitDefEqProofs [g5, g6, g5', g6', hcut, rdR]
def wholeC (port : Bool) (c : UInt8) : Bool := isDig c || (!port && (letB c || (decide (c = 45) || decide (c = 46))))
theorem wholeC_port (c : UInt8) : wholeC true c = isDig c := by unfold wholeC; simp
theorem wholeC_host (c : UInt8) : wholeC false c = hostC c := by
  rw [hostC_split]; unfold wholeC
  cases letB c <;> cases isDig c <;> simp
theorem ref1_whole (t : List UInt8) (port : Bool) (a : Nat) (bad : Int) (ht : t.length ≤ 2000) (ha : a ≤ t.length) :
    ACallsM Tryz.prog 142 [.box (rdR t a bad), .x (.one (.bool port))] (.x (.one (.str ((t.drop a).takeWhile (wholeC port))))) [.box (rdR t (a + ((t.drop a).takeWhile (wholeC port)).length) bad), .dead] := by
  obtain ⟨u, eu⟩ : ∃ u, u = (t.drop a).takeWhile (wholeC port) := ⟨_, rfl⟩
  rw [← eu]
  refine ACallsM.of mixed (fn := Tryz.f142) (by kernel_rfl) (by kernel_rfl) rfl (by kernel_rfl) (by kernel_rfl) rfl (by simp [Tryz.f142]) (fun hok => ?_)
  simp -implicitDefEqProofs [rdR]
  refine ALoopS.of Nat (fun i => [(0, .box (rdR t (a + i) bad)), (1, .x (.one (.bool port))), (5, .x (.one (.int .i64 a)))]) (Upto (wholeC port) (t.drop a)) (fun i => t.length - (a + i)) 0 Upto.zero ?_ ?_
  · simp [rdR]
  intro i hi
  have hle := hi.1
  rw [List.length_drop] at hle
  obtain ⟨q, eq⟩ : ∃ q, q = a + i := ⟨_, rfl⟩
  rw [← eq]
  by_cases hlt : q < t.length
  · have hlt' : ((q : Int) < (t.length : Int)) = True := eq_true (by omega)
    have hwq : IntKind.i64.wrap ((q : Int) + 1) = (q : Int) + 1 := wrapS _ (by omega)
    have hst : wholeC port t[q] = true → Upto (wholeC port) (t.drop a) (i + 1) := fun hc => hi.step (by rw [List.length_drop]; omega) (by rw [List.getElem_drop]; simpa only [← eq] using hc)
    have hend : wholeC port t[q] = false → u = (t.drop a).take i := fun hc => by
      rw [eu]
      exact takeWhile_upto hi (fun h => by rw [List.getElem_drop]; simpa only [← eq] using hc)
    have hfin : u = (t.drop a).take i → q = a + u.length ∧ cutAt t (a : Int) (q : Int) = u := fun hui => by
      have := congrArg List.length hui
      rw [List.length_take, List.length_drop] at this
      exact ⟨by omega, by rw [cut_nat, hui]; congr 1; omega⟩
    have g5 : ((a : Int) ≤ (q : Int)) = True := eq_true (by omega)
    have g6 : ((q : Int) ≤ (t.length : Int)) = True := eq_true (by omega)
    have g5' : (a ≤ q) = True := eq_true (by omega)
    have g6' : (q ≤ t.length) = True := eq_true (by omega)
    have hC : wholeC port t[q] = (isDig t[q] || (!port && (letB t[q] || (decide (t[q] = 45) || decide (t[q] = 46))))) := rfl
    simp -implicitDefEqProofs [rdR, hlt, hlt']
    refine ACallGS.of (fun _ => ref1_digit t[q]) rfl ?_
    cases b1 : isDig t[q]
    · cases port
      · simp -implicitDefEqProofs [hlt, hlt']
        refine ACallGS.of (fun _ => ref1_letter t[q]) rfl ?_
        cases b2 : letB t[q]
        · by_cases b3 : t[q] = 45
          · have e3 : ((t[q].toNat : Int) = 45) = True := eq_true ((u8_int 45 (by omega)).2 b3)
            have f3 : ((t[q].toNat : Int) == 45) = true := by simpa using e3
            simp -implicitDefEqProofs [hlt, hlt', hwq, e3, f3]
            refine Again.of (i + 1) (hst (by rw [hC, b1, b2]; simp [b3])) (by omega) ?_
            simp [rdR, hwq]; omega
          · have e3 : ((t[q].toNat : Int) = 45) = False := eq_false (fun h => b3 ((u8_int 45 (by omega)).1 h))
            have f3 : ((t[q].toNat : Int) == 45) = false := by simpa using e3
            by_cases b4 : t[q] = 46
            · have e4 : ((t[q].toNat : Int) = 46) = True := eq_true ((u8_int 46 (by omega)).2 b4)
              have f4 : ((t[q].toNat : Int) == 46) = true := by simpa using e4
              simp -implicitDefEqProofs [hlt, hlt', hwq, e3, f3, e4, f4]
              refine Again.of (i + 1) (hst (by rw [hC, b1, b2]; simp [b4])) (by omega) ?_
              simp [rdR, hwq]; omega
            · have e4 : ((t[q].toNat : Int) = 46) = False := eq_false (fun h => b4 ((u8_int 46 (by omega)).1 h))
              have f4 : ((t[q].toNat : Int) == 46) = false := by simpa using e4
              obtain ⟨hm, hcut⟩ := hfin (hend (by rw [hC, b1, b2]; simp [b3, b4]))
              rw [← hm]
              simp -implicitDefEqProofs [hlt, hlt', e3, f3, e4, f4, g5, g6, g5', g6', hcut, rdR]
        · simp -implicitDefEqProofs [hlt, hlt', hwq]
          refine Again.of (i + 1) (hst (by rw [hC, b1, b2]; simp)) (by omega) ?_
          simp [rdR, hwq]; omega
      · obtain ⟨hm, hcut⟩ := hfin (hend (by rw [hC, b1]; simp))
        rw [← hm]
        simp -implicitDefEqProofs [hlt, hlt']
        refine ACallGS.of (fun h => by cases h) (r := .x (.one (.bool false))) rfl ?_
        simp -implicitDefEqProofs [hlt, hlt', g5, g6, g5', g6', hcut, rdR]
    · simp -implicitDefEqProofs [hlt, hlt', hwq]
      refine ACallGS.of (fun h => by cases h) (r := .x (.one (.bool false))) rfl ?_
      simp -implicitDefEqProofs [hlt, hlt', hwq]
      refine Again.of (i + 1) (hst (by rw [hC, b1]; simp)) (by omega) ?_
      simp [rdR, hwq]; omega
  · have hlt' : ((q : Int) < (t.length : Int)) = False := eq_false (by omega)
    have hui : u = (t.drop a).take i := by
      rw [eu]
      exact takeWhile_upto hi (fun h => by rw [List.length_drop] at h; omega)
    have hm : q = a + u.length := by
      have := congrArg List.length hui
      rw [List.length_take, List.length_drop] at this
      omega
    rw [← hm]
    have hcut : cutAt t (a : Int) (q : Int) = u := by rw [cut_nat, hui]; congr 1; omega
    have g5 : ((a : Int) ≤ (q : Int)) = True := eq_true (by omega)
    have g6 : ((q : Int) ≤ (t.length : Int)) = True := eq_true (by omega)
    have g5' : (a ≤ q) = True := eq_true (by omega)
    have g6' : (q ≤ t.length) = True := eq_true (by omega)
    simp -implicitDefEqProofs [rdR, hlt, hlt']
    refine ACallGS.of (fun h => by cases h) (r := .x (.one (.bool false))) rfl ?_
    simp -implicitDefEqProofs [hlt, hlt']
    refine ACallGS.of (fun h => by cases h) (r := .x (.one (.bool false))) rfl ?_
    simp -implicitDefEqProofs [g5, g6, g5', g6', hcut, rdR]
theorem ref1_stop (t : List UInt8) (a : Nat) (bad p : Int) :
    ACallsM Tryz.prog 199 [.box (rdR t a bad), .x (.one (.int .i64 p))] (.tup []) [.box (rdR t a (if bad < 0 then p else bad)), .dead] := by
  refine ACallsM.of mixed (fn := Tryz.f199) (by kernel_rfl) (by kernel_rfl) rfl (by kernel_rfl) (by kernel_rfl) rfl (by simp [Tryz.f199]) (fun hok => ?_)
  by_cases h : bad < 0
  · simp -implicitDefEqProofs [rdR, h]
  · simp -implicitDefEqProofs [rdR, h]
end Go.Proofs.YtklnopamfncfgaaGreatDoor
namespace Go.Proofs.YtklnopamfncfgaaGreatDoor
open Go Go.Ab
set_option linter.unusedSectionVars false
variable [Amb]
set_option maxRecDepth 100000
set_option maxHeartbeats 4000000

def rowBadN (w s : List UInt8) (k : Nat) (bad : Int) : Int := if (rowEndL w s).2 = false ∧ bad < 0 then ((k + (rowEndL w s).1 : Nat) : Int) else bad
theorem badI_stop {w : List UInt8} (hw : ∀ c, w.contains c = true → hexC c = false) (s : List UInt8) : badI [0] (stopW w s) = if (rowEndL w s).2 = false then ((rowEndL w s).1 : Int) else -1 := by
  have h := rowEndL_zero (stopW w s)
  have hc := rowEndL_cut hw s
  unfold badI
  rw [h.1, h.2]
  unfold rowB
  rw [hc]
  cases b : (rowEndL w s).2
  · simp
  · have := rowEndL_full w s b
    simp [this]
theorem ref1_row (t w : List UInt8) (a : Nat) (bad : Int) (ht : t.length ≤ 2000) (ha : a ≤ t.length) (hw : ∀ c, w.contains c = true → hexC c = false) :
    ACallsM Tryz.prog 143 [.box (rdR t a bad), .x (.one (.str w))] (.x (.one (.str (stopW w (t.drop a))))) [.box (rdR t (a + (stopW w (t.drop a)).length) (rowBadN w (t.drop a) a bad)), .dead] := by
  have hu := ref1_until t w a bad ht ha
  have hl := stopW_len w (t.drop a)
  rw [List.length_drop] at hl
  have hb := ref1_rowBad (stopW w (t.drop a)) 0 (by omega)
  rw [badI_stop hw] at hb
  have hP := rowEndL_le w (t.drop a)
  rw [List.length_drop] at hP
  unfold rowBadN
  generalize stopW w (t.drop a) = u at hu hl hb ⊢
  generalize rowEndL w (t.drop a) = P at hb hP ⊢
  simp only [rdR] at hu
  refine ACallsM.of mixed (fn := Tryz.f143) (by kernel_rfl) (by kernel_rfl) rfl (by kernel_rfl) (by kernel_rfl) rfl (by simp [Tryz.f143]) (fun hok => ?_)
  simp -implicitDefEqProofs [rdR]
  refine ACallM.of hu ?_
  simp -implicitDefEqProofs
  refine ACallK.of hb ?_
  cases b : P.2
  · have wa : IntKind.i64.wrap ((a : Int) + (P.1 : Int)) = ((a + P.1 : Nat) : Int) := by rw [wrapS _ (by omega)]; omega
    by_cases h : bad < 0
    · simp -implicitDefEqProofs [rdR, h, wa]
    · have h' : (bad < 0) = False := eq_false h
      simp -implicitDefEqProofs [rdR, h']
  · simp -implicitDefEqProofs [rdR]
theorem ref1_scheme (t : List UInt8) (ht : t.length ≤ 2000) :
    ACallsM Tryz.prog 141 [.box (rdR t 0 (-1))] (.x (.one (.str (match schemeR t with | .ok n => t.take n | .error _ => [])))) [.box (match schemeR t with | .ok n => rdR t (n + 3) (-1) | .error k => rdR t 0 k)] := by
  have hS := schemeR_by t
  have h1 := ref1_passed t httpL 0 (by omega) (by decide) (by omega)
  have e1 : passI httpL t 0 = if comL httpL t = 4 then -1 else ((comL httpL t : Nat) : Int) := by
    unfold passI
    rw [List.drop_zero, show httpL.length = 4 from rfl, Nat.zero_add]
  rw [e1] at h1
  unfold httpL at h1
  by_cases h4 : comL httpL t = 4
  rotate_left
  · have hst := ref1_stop t 0 (-1) (comL httpL t)
    have hk : (comL [104, 116, 116, 112] t = 4) = False := eq_false h4
    rw [show ([104, 116, 116, 112] : List UInt8) = httpL from rfl] at hk h1
    rw [if_pos h4] at hS
    rw [hS]
    generalize comL httpL t = k at h1 hst hk
    simp only [rdR] at hst
    have k0 : ((k : Int) < 0) = False := eq_false (by omega)
    rw [if_neg (by rw [hk]; exact id)] at h1
    refine ACallsM.of mixed (fn := Tryz.f141) (by kernel_rfl) (by kernel_rfl) rfl (by kernel_rfl) (by kernel_rfl) rfl (by simp [Tryz.f141]) (fun hok => ?_)
    simp -implicitDefEqProofs [rdR]
    refine ACallK.of h1 ?_
    simp -implicitDefEqProofs [k0]
    refine ACallM.of hst ?_
    simp -implicitDefEqProofs [rdR]
  · rw [if_neg (fun h => h h4)] at hS
    rw [show ([104, 116, 116, 112] : List UInt8) = httpL from rfl, if_pos h4] at h1
    have hn : schemeN t = 4 ∨ schemeN t = 5 := by unfold schemeN; split <;> simp
    have h2 := ref1_passed t [58, 47, 47] (schemeN t) (by omega) (by decide) (by omega)
    have e2 : passI [58, 47, 47] t (schemeN t) = if comL sepL (t.drop (schemeN t)) = 3 then -1 else ((schemeN t + comL sepL (t.drop (schemeN t)) : Nat) : Int) := rfl
    rw [e2] at h2
    have hc := comL_le sepL (t.drop (schemeN t))
    have hst := ref1_stop t 0 (-1) ((schemeN t + comL sepL (t.drop (schemeN t)) : Nat) : Int)
    generalize comL sepL (t.drop (schemeN t)) = c at hS h2 hc hst
    have hs3 : sepL.length = 3 := rfl
    rw [hs3, List.length_drop] at hc
    simp only [rdR] at hst
    refine ACallsM.of mixed (fn := Tryz.f141) (by kernel_rfl) (by kernel_rfl) rfl (by kernel_rfl) (by kernel_rfl) rfl (by simp [Tryz.f141]) (fun hok => ?_)
    simp -implicitDefEqProofs [rdR]
    refine ACallK.of h1 ?_
    by_cases hl : 4 < t.length
    rotate_left
    · have hl' : (4 < (t.length : Int)) = False := eq_false (by omega)
      have hn4 : schemeN t = 4 := by unfold schemeN; rw [if_neg (by rw [List.drop_eq_nil_of_le (by omega)]; simp)]
      rw [hn4] at hS h2 hc hst
      rw [hS]
      simp -implicitDefEqProofs [hl']
      refine ACallK.of h2 ?_
      by_cases c3 : c = 3
      · have hk : (4 : Int) ≤ (t.length : Int) := by omega
        have hk' : ((4 : Int) ≤ (t.length : Int)) = True := eq_true hk
        have hk2 : ((4 : Nat) ≤ t.length) = True := eq_true (by omega)
        have hw : IntKind.i64.wrap 7 = 7 := wrapS _ (by omega)
        simp -implicitDefEqProofs [c3, hk', hk2, hw, rdR]
        try simp [cutAt]
      · have k0 : (((4 + c : Nat) : Int) < 0) = False := eq_false (by omega)
        have k1 : (0 ≤ ((4 + c : Nat) : Int)) = True := eq_true (by omega)
        have k2 : (0 ≤ (4 : Int) + (c : Int)) = True := eq_true (by omega)
        simp -implicitDefEqProofs [c3, k0, k1, k2]
        refine ACallM.of hst ?_
        simp -implicitDefEqProofs [rdR, c3]
    have hl' : (4 < (t.length : Int)) = True := eq_true (by omega)
    have hd := head_drop hl
    by_cases b1 : t[4] = 115
    · have f1 : ((t[4].toNat : Int) = 115) = True := eq_true ((u8_int 115 (by omega)).2 b1)
      have f1b : ((t[4].toNat : Int) == 115) = true := by simpa using f1
      have hn4 : schemeN t = 5 := by unfold schemeN; rw [if_pos (by rw [hd, b1]; simp)]
      rw [hn4] at hS h2 hc hst
      rw [hS]
      simp -implicitDefEqProofs [hl, hl', f1, f1b]
      refine ACallK.of h2 ?_
      by_cases c3 : c = 3
      · have hk : (5 : Int) ≤ (t.length : Int) := by omega
        have hk' : ((5 : Int) ≤ (t.length : Int)) = True := eq_true hk
        have hk2 : ((5 : Nat) ≤ t.length) = True := eq_true (by omega)
        have hw : IntKind.i64.wrap 8 = 8 := wrapS _ (by omega)
        simp -implicitDefEqProofs [c3, hk', hk2, hw, rdR]
        try simp [cutAt]
      · have k0 : (((5 + c : Nat) : Int) < 0) = False := eq_false (by omega)
        have k1 : (0 ≤ ((5 + c : Nat) : Int)) = True := eq_true (by omega)
        have k2 : (0 ≤ (5 : Int) + (c : Int)) = True := eq_true (by omega)
        simp -implicitDefEqProofs [c3, k0, k1, k2]
        refine ACallM.of hst ?_
        simp -implicitDefEqProofs [rdR, c3]
    have f1 : ((t[4].toNat : Int) = 115) = False := eq_false (fun e => b1 ((u8_int 115 (by omega)).1 e))
    have f1b : ((t[4].toNat : Int) == 115) = false := by simpa using f1
    by_cases b2 : t[4] = 83
    · have f2 : ((t[4].toNat : Int) = 83) = True := eq_true ((u8_int 83 (by omega)).2 b2)
      have f2b : ((t[4].toNat : Int) == 83) = true := by simpa using f2
      have hn4 : schemeN t = 5 := by unfold schemeN; rw [if_pos (by rw [hd, b2]; simp)]
      rw [hn4] at hS h2 hc hst
      rw [hS]
      simp -implicitDefEqProofs [hl, hl', f1, f1b, f2, f2b]
      refine ACallK.of h2 ?_
      by_cases c3 : c = 3
      · have hk : (5 : Int) ≤ (t.length : Int) := by omega
        have hk' : ((5 : Int) ≤ (t.length : Int)) = True := eq_true hk
        have hk2 : ((5 : Nat) ≤ t.length) = True := eq_true (by omega)
        have hw : IntKind.i64.wrap 8 = 8 := wrapS _ (by omega)
        simp -implicitDefEqProofs [c3, hk', hk2, hw, rdR]
        try simp [cutAt]
      · have k0 : (((5 + c : Nat) : Int) < 0) = False := eq_false (by omega)
        have k1 : (0 ≤ ((5 + c : Nat) : Int)) = True := eq_true (by omega)
        have k2 : (0 ≤ (5 : Int) + (c : Int)) = True := eq_true (by omega)
        simp -implicitDefEqProofs [c3, k0, k1, k2]
        refine ACallM.of hst ?_
        simp -implicitDefEqProofs [rdR, c3]
    · have f2 : ((t[4].toNat : Int) = 83) = False := eq_false (fun e => b2 ((u8_int 83 (by omega)).1 e))
      have f2b : ((t[4].toNat : Int) == 83) = false := by simpa using f2
      have hn4 : schemeN t = 4 := by unfold schemeN; rw [if_neg (by rw [hd]; simp [b1, b2])]
      rw [hn4] at hS h2 hc hst
      rw [hS]
      simp -implicitDefEqProofs [hl, hl', f1, f1b, f2, f2b]
      refine ACallK.of h2 ?_
      by_cases c3 : c = 3
      · have hk : (4 : Int) ≤ (t.length : Int) := by omega
        have hk' : ((4 : Int) ≤ (t.length : Int)) = True := eq_true hk
        have hk2 : ((4 : Nat) ≤ t.length) = True := eq_true (by omega)
        have hw : IntKind.i64.wrap 7 = 7 := wrapS _ (by omega)
        simp -implicitDefEqProofs [c3, hk', hk2, hw, rdR]
        try simp [cutAt]
      · have k0 : (((4 + c : Nat) : Int) < 0) = False := eq_false (by omega)
        have k1 : (0 ≤ ((4 + c : Nat) : Int)) = True := eq_true (by omega)
        have k2 : (0 ≤ (4 : Int) + (c : Int)) = True := eq_true (by omega)
        simp -implicitDefEqProofs [c3, k0, k1, k2]
        refine ACallM.of hst ?_
        simp -implicitDefEqProofs [rdR, c3]
end Go.Proofs.YtklnopamfncfgaaGreatDoor
namespace Go.Proofs.YtklnopamfncfgaaGreatDoor
open Go Go.Ab
set_option linter.unusedSectionVars false
variable [Amb]
set_option maxRecDepth 100000
set_option maxHeartbeats 4000000

/-! ### What stands behind the place, as the document reads it -/
structure DocR where
  path : List UInt8
  query : List UInt8
  hasQ : Bool
  frag : List UInt8
  hasF : Bool
  bad : Int
def docQ (t : List UInt8) (k : Nat) (b : Int) : List UInt8 × Bool × Nat × Int :=
  if (t.drop k).head? = some 63 then (stopW [35] (t.drop (k + 1)), true, k + 1 + (stopW [35] (t.drop (k + 1))).length, rowBadN [35] (t.drop (k + 1)) (k + 1) b) else ([], false, k, b)
def docF (t : List UInt8) (k : Nat) (b : Int) : List UInt8 × Bool × Int :=
  if k < t.length then (stopW [] (t.drop (k + 1)), true, rowBadN [] (t.drop (k + 1)) (k + 1) b) else ([], false, b)
def docR (t : List UInt8) (k : Nat) : DocR :=
  let u := stopW [63, 35] (t.drop k)
  let q := docQ t (k + u.length) (rowBadN [63, 35] (t.drop k) k (-1))
  let f := docF t q.2.2.1 q.2.2.2
  ⟨u, q.1, q.2.1, f.1, f.2.1, f.2.2⟩
theorem stopW_take {w s : List UInt8} (h : (rowEndL w s).2 = true) : stopW w s = s.take (rowEndL w s).1 := by
  rw [rowEndL_full w s h]
  exact List.prefix_iff_eq_take.1 (List.takeWhile_prefix _)
theorem rowBadN_keep {w s : List UInt8} {k : Nat} {b : Int} (h : 0 ≤ b) : rowBadN w s k b = b := by unfold rowBadN; rw [if_neg (by omega)]
theorem docF_keep {t : List UInt8} {k : Nat} {b : Int} (h : 0 ≤ b) : (docF t k b).2.2 = b := by
  unfold docF
  split
  · exact rowBadN_keep h
  · rfl
theorem docF_ok {t : List UInt8} {k : Nat} (hs : ∀ c, (t.drop k).head? = some c → c = 35) : (docF t k (-1)).2.1 = (tailR 35 [] (t.drop k)).2.2.2 ∧
    (((tailR 35 [] (t.drop k)).1 = true ∧ (docF t k (-1)).2.2 = -1 ∧ (docF t k (-1)).1 = (tailR 35 [] (t.drop k)).2.2.1) ∨ ((tailR 35 [] (t.drop k)).1 = false ∧ (docF t k (-1)).2.2 = ((k + (tailR 35 [] (t.drop k)).2.1 : Nat) : Int))) := by
  by_cases hk : k < t.length
  · have hd := head_drop hk
    have h35 := hs _ hd
    rw [h35] at hd
    rw [tailR_yes hd]
    unfold docF
    rw [if_pos hk]
    refine ⟨rfl, ?_⟩
    simp only
    cases b : (rowEndL [] (t.drop (k + 1))).2
    · right
      refine ⟨rfl, ?_⟩
      unfold rowBadN
      rw [if_pos ⟨b, by omega⟩]
      omega
    · left
      refine ⟨rfl, ?_, stopW_take b⟩
      unfold rowBadN
      rw [if_neg (by rw [b]; simp)]
  · have hd : ¬ (t.drop k).head? = some 35 := by rw [List.drop_eq_nil_of_le (by omega)]; simp
    rw [tailR_no hd]
    unfold docF
    rw [if_neg hk]
    exact ⟨rfl, .inl ⟨rfl, rfl, rfl⟩⟩
theorem docR_eq (t : List UInt8) (k : Nat) (hk : k ≤ t.length) : (0 ≤ (docR t k).bad ∧ (restR (t.drop k)).ok = false ∧ (docR t k).bad = ((k + (restR (t.drop k)).n : Nat) : Int)) ∨
    ((docR t k).bad = -1 ∧ (restR (t.drop k)).ok = true ∧ (restR (t.drop k)).path = (docR t k).path ∧ (restR (t.drop k)).query = (docR t k).query ∧ (restR (t.drop k)).hasQ = (docR t k).hasQ ∧ (restR (t.drop k)).frag = (docR t k).frag ∧ (restR (t.drop k)).hasF = (docR t k).hasF) := by
  have hR := restR_at t k
  rw [hR]
  unfold docR
  simp only
  cases b1 : (rowEndL [63, 35] (t.drop k)).2
  · rw [if_pos rfl]
    left
    have hb : rowBadN [63, 35] (t.drop k) k (-1) = ((k + (rowEndL [63, 35] (t.drop k)).1 : Nat) : Int) := by unfold rowBadN; rw [if_pos ⟨b1, by omega⟩]
    have hq : (docQ t (k + (stopW [63, 35] (t.drop k)).length) (rowBadN [63, 35] (t.drop k) k (-1))).2.2.2 = ((k + (rowEndL [63, 35] (t.drop k)).1 : Nat) : Int) := by
      unfold docQ
      rw [hb]
      split
      · exact rowBadN_keep (by omega)
      · rfl
    rw [hq, docF_keep (by omega)]
    exact ⟨by omega, rfl, rfl⟩
  · rw [if_neg (by decide)]
    have hb : rowBadN [63, 35] (t.drop k) k (-1) = -1 := by unfold rowBadN; rw [if_neg (by rw [b1]; simp)]
    have hu := stopW_take b1
    have hul := (rowEndL_full _ _ b1).symm
    have hst := rowEndL_stop _ b1
    rw [hb, hul]
    have hP := rowEndL_le [63, 35] (t.drop k)
    rw [List.length_drop] at hP
    generalize hk1 : k + (rowEndL [63, 35] (t.drop k)).1 = k1
    rw [List.drop_drop, hk1] at hst
    by_cases hq : (t.drop k1).head? = some 63
    · have hlt := head_lt hq
      rw [tailR_yes hq]
      have hQ : docQ t k1 (-1) = (stopW [35] (t.drop (k1 + 1)), true, k1 + 1 + (stopW [35] (t.drop (k1 + 1))).length, rowBadN [35] (t.drop (k1 + 1)) (k1 + 1) (-1)) := by unfold docQ; rw [if_pos hq]
      rw [hQ]
      simp only
      cases b2 : (rowEndL [35] (t.drop (k1 + 1))).2
      · rw [if_pos rfl]
        left
        have hb2 : rowBadN [35] (t.drop (k1 + 1)) (k1 + 1) (-1) = ((k1 + 1 + (rowEndL [35] (t.drop (k1 + 1))).1 : Nat) : Int) := by unfold rowBadN; rw [if_pos ⟨b2, by omega⟩]
        rw [hb2, docF_keep (by omega)]
        refine ⟨by omega, rfl, ?_⟩
        (try dsimp only); omega
      · rw [if_neg (by decide)]
        have hb2 : rowBadN [35] (t.drop (k1 + 1)) (k1 + 1) (-1) = -1 := by unfold rowBadN; rw [if_neg (by rw [b2]; simp)]
        have hu2 := stopW_take b2
        have hul2 := (rowEndL_full _ _ b2).symm
        have hst2 := rowEndL_stop _ b2
        rw [hb2, hul2]
        have e2 : k1 + ((rowEndL [35] (t.drop (k1 + 1))).1 + 1) = k1 + 1 + (rowEndL [35] (t.drop (k1 + 1))).1 := by omega
        rw [e2]
        generalize hk2 : k1 + 1 + (rowEndL [35] (t.drop (k1 + 1))).1 = k2
        rw [List.drop_drop, hk2] at hst2
        have hF := docF_ok (t := t) (k := k2) (fun c hc => by have := hst2 c hc; simpa using this)
        obtain ⟨f1, ⟨f2, f3, f4⟩ | ⟨f2, f3⟩⟩ := hF
        · right
          exact ⟨f3, f2, hu.symm, hu2.symm, rfl, f4.symm, f1.symm⟩
        · left
          rw [f3]
          refine ⟨by omega, f2, ?_⟩
          (try dsimp only); omega
    · rw [tailR_no hq]
      have hQ : docQ t k1 (-1) = ([], false, k1, -1) := by unfold docQ; rw [if_neg hq]
      rw [hQ]
      simp only [Bool.true_eq_false, if_false, Nat.add_zero]
      have hF := docF_ok (t := t) (k := k1) (fun c hc => by
        have := hst c hc
        simp only [List.contains_cons, List.contains_nil, Bool.or_false, Bool.or_eq_true, beq_iff_eq] at this
        rcases this with e | e
        · rw [e] at hc; exact absurd hc hq
        · exact e)
      obtain ⟨f1, ⟨f2, f3, f4⟩ | ⟨f2, f3⟩⟩ := hF
      · right
        exact ⟨f3, f2, hu.symm, trivial, trivial, f4.symm, f1.symm⟩
      · left
        rw [f3]
        refine ⟨by omega, f2, ?_⟩
        (try dsimp only); omega
end Go.Proofs.YtklnopamfncfgaaGreatDoor
namespace Go.Proofs.YtklnopamfncfgaaGreatDoor
open Go Go.Ab
set_option linter.unusedSectionVars false
variable [Amb]
set_option maxRecDepth 100000
set_option maxHeartbeats 4000000

def readD (t : List UInt8) : Addr × Int := match readA t with
  | .error k => (noAddr, k)
  | .ok a => (a, -1)
theorem readD_err {t : List UInt8} {k : Nat} (h : schemeR t = .error k) : readD t = (noAddr, (k : Int)) := by unfold readD readA; rw [h]
theorem readD_at {t : List UInt8} {n : Nat} (h : schemeR t = .ok n) : readD t = if (placeR (t.drop (n + 3))).1 = false then (noAddr, ((n + 3 + (placeR (t.drop (n + 3))).2.1 : Nat) : Int))
    else if (restR (t.drop (n + 3 + (placeR (t.drop (n + 3))).2.1))).ok = false then (noAddr, ((n + 3 + (placeR (t.drop (n + 3))).2.1 + (restR (t.drop (n + 3 + (placeR (t.drop (n + 3))).2.1))).n : Nat) : Int))
    else (⟨t.take n, (placeR (t.drop (n + 3))).2.2.1, (placeR (t.drop (n + 3))).2.2.2, (restR (t.drop (n + 3 + (placeR (t.drop (n + 3))).2.1))).path, (restR (t.drop (n + 3 + (placeR (t.drop (n + 3))).2.1))).query, (restR (t.drop (n + 3 + (placeR (t.drop (n + 3))).2.1))).hasQ,
      (restR (t.drop (n + 3 + (placeR (t.drop (n + 3))).2.1))).frag, (restR (t.drop (n + 3 + (placeR (t.drop (n + 3))).2.1))).hasF⟩, -1) := by
  unfold readD readA
  rw [h]
  simp only [List.drop_drop]
  cases (placeR (t.drop (n + 3))).1
  · rfl
  · simp only [Bool.true_eq_false, if_false]
    cases (restR (t.drop (n + 3 + (placeR (t.drop (n + 3))).2.1))).ok <;> rfl
theorem rest_doc {t : List UInt8} {e : Nat} {X : Addr × Int} {sc ho po : List UInt8} (he : e ≤ t.length)
    (hX : X = if (restR (t.drop e)).ok = false then (noAddr, ((e + (restR (t.drop e)).n : Nat) : Int)) else (⟨sc, ho, po, (restR (t.drop e)).path, (restR (t.drop e)).query, (restR (t.drop e)).hasQ, (restR (t.drop e)).frag, (restR (t.drop e)).hasF⟩, -1)) :
    (0 ≤ (docR t e).bad → X = (noAddr, (docR t e).bad)) ∧ (¬ 0 ≤ (docR t e).bad → X = (⟨sc, ho, po, (docR t e).path, (docR t e).query, (docR t e).hasQ, (docR t e).frag, (docR t e).hasF⟩, -1)) := by
  rcases docR_eq t e he with ⟨h1, h2, h3⟩ | ⟨h1, h2, h3, h4, h5, h6, h7⟩
  · rw [if_pos h2] at hX
    exact ⟨fun _ => by rw [hX, h3], fun h => absurd h1 h⟩
  · rw [if_neg (by rw [h2]; decide), h3, h4, h5, h6, h7] at hX
    exact ⟨fun h => by omega, fun _ => hX⟩
theorem whole_host (s : List UInt8) : s.takeWhile (wholeC false) = s.takeWhile hostC := by congr 1; funext c; exact wholeC_host c
theorem whole_port (s : List UInt8) : s.takeWhile (wholeC true) = s.takeWhile isDig := by congr 1; funext c; exact wholeC_port c
theorem ref1_read (t : List UInt8) (ht : t.length ≤ 2000) : ACalls Tryz.prog 79 [.one (.str t)] (.tup [.agg (readD t).1.row, .one (.int .i64 (readD t).2)]) := by
  have hsc := ref1_scheme t ht
  have hat := fun n (h : schemeR t = .ok n) => readD_at h
  have herr := fun k (h : schemeR t = .error k) => readD_err h
  obtain ⟨X, eX⟩ : ∃ X, X = readD t := ⟨_, rfl⟩
  rw [← eX]
  refine ACalls.of mixed (fn := Tryz.f79) (by kernel_rfl) (by kernel_rfl) rfl (by kernel_rfl) (by simp [Tryz.f79]) (fun hok => ?_)
  cases hs : schemeR t with
  | error k =>
    rw [hs] at hsc
    have h := herr _ hs
    rw [← eX] at h
    subst h
    simp only [rdR] at hsc
    have k0 : (0 ≤ (k : Int)) = True := eq_true (by omega)
    simp -implicitDefEqProofs
    refine ACallM.of hsc ?_
    simp -implicitDefEqProofs [k0]
    refine AltR.r ⟨[9], by kernel_rfl, ?_⟩
    simp -implicitDefEqProofs [k0]
    rfl
  | ok n =>
    rw [hs] at hsc
    have hX := hat _ hs
    rw [← eX] at hX
    have hn := schemeR_le hs
    clear eX hat herr hs
    obtain ⟨k, ek⟩ : ∃ k, k = n + 3 := ⟨_, rfl⟩
    obtain ⟨sc, esc⟩ : ∃ sc, sc = t.take n := ⟨_, rfl⟩
    simp only [← ek, ← esc] at hX hsc
    have hpl := placeR_eq (t.drop k)
    have hwh := ref1_whole t false k (-1) ht (by omega)
    rw [whole_host] at hwh
    have hxl := takeWhile_len_le hostC (t.drop k)
    rw [List.length_drop] at hxl
    obtain ⟨P, eP⟩ : ∃ P, P = placeR (t.drop k) := ⟨_, rfl⟩
    rw [← eP] at hX hpl
    obtain ⟨x, ex⟩ : ∃ x, x = (t.drop k).takeWhile hostC := ⟨_, rfl⟩
    rw [← ex] at hwh hxl hpl
    simp only [List.drop_drop] at hpl
    obtain ⟨e, ee⟩ : ∃ e, e = k + x.length := ⟨_, rfl⟩
    have ee1 : k + (x.length + 1) = e + 1 := by omega
    rw [ee1, ← ee] at hpl
    rw [← ee] at hwh
    clear eP ex
    simp only [rdR] at hsc hwh
    have hih := ref1_IsHost x
    simp -implicitDefEqProofs
    refine ACallM.of hsc ?_
    simp -implicitDefEqProofs
    refine ACallM.of hwh ?_
    simp -implicitDefEqProofs
    refine ACallK.of hih ?_
    cases bh : hostB x
    · rw [if_pos bh] at hpl
      rw [hpl] at hX
      simp only [if_true, Nat.add_zero] at hX
      subst hX
      simp -implicitDefEqProofs
      rfl
    rw [if_neg (by simp [bh])] at hpl
    by_cases h58 : (t.drop e).head? = some 58
    rotate_left
    · rw [if_neg h58] at hpl
      have hcol : ∀ h : e < t.length, ((t[e].toNat : Int) = 58) = False := fun h => u8_int_ne 58 (by omega) (fun hh => h58 (by rw [head_drop h, hh]; rfl))
      have hcol2 : ∀ h : e < t.length, ((t[e].toNat : Int) == 58) = false := fun h => by have := hcol h; simpa using this
      rw [hpl] at hX
      simp only [← ee] at hX
      by_cases hlt : e < t.length
      rotate_left
      · have hlt' : ((e : Int) < (t.length : Int)) = False := eq_false (by omega)
        rw [endB_end hlt] at hX
        simp only [Bool.true_eq_false, if_false] at hX
        have hD := rest_doc (by omega) hX
        simp -implicitDefEqProofs [hlt, hlt']
        refine ACallGS.of (fun h => by cases h) (r := .x (.one (.int .i64 0))) rfl ?_
        have he : e ≤ t.length := by omega
        clear hX
        have hr1 := ref1_row t [63, 35] e (-1) ht he hex_63_35
        have hu1 := stopW_len [63, 35] (t.drop e)
        rw [List.length_drop] at hu1
        unfold docR at hD
        simp only at hD
        obtain ⟨b1, eb1⟩ : ∃ b, b = rowBadN [63, 35] (t.drop e) e (-1) := ⟨_, rfl⟩
        obtain ⟨u1, eu1⟩ : ∃ u, u = stopW [63, 35] (t.drop e) := ⟨_, rfl⟩
        obtain ⟨k1, ek1⟩ : ∃ k, k = e + u1.length := ⟨_, rfl⟩
        rw [← eb1, ← eu1, ← ek1] at hr1
        rw [← eb1, ← eu1, ← ek1] at hD
        rw [← eu1] at hu1
        clear eb1 eu1
        simp only [rdR] at hr1
        simp -implicitDefEqProofs [hlt, hlt']
        refine ACallM.of hr1 ?_
        by_cases hq : (t.drop k1).head? = some 63
        · have hQ : docQ t k1 b1 = (stopW [35] (t.drop (k1 + 1)), true, k1 + 1 + (stopW [35] (t.drop (k1 + 1))).length, rowBadN [35] (t.drop (k1 + 1)) (k1 + 1) b1) := by unfold docQ; rw [if_pos hq]
          rw [hQ] at hD
          simp only at hD
          have hl1 := head_lt hq
          have hl1' : ((k1 : Int) < (t.length : Int)) = True := eq_true (by omega)
          have hc1 : t[k1] = 63 := by have := head_drop hl1; rw [hq] at this; exact (Option.some.inj this).symm
          have f3 : ((t[k1].toNat : Int) = 63) = True := eq_true ((u8_int 63 (by omega)).2 hc1)
          have f4 : ((t[k1].toNat : Int) == 63) = true := by simpa using f3
          obtain ⟨j1, ej1⟩ : ∃ j, j = k1 + 1 := ⟨_, rfl⟩
          have wj1 : IntKind.i64.wrap ((k1 : Int) + 1) = (j1 : Int) := by rw [wrapS _ (by omega)]; omega
          rw [← ej1] at hD
          have hr2 := ref1_row t [35] j1 b1 ht (by omega) hex_35
          have hu2 := stopW_len [35] (t.drop j1)
          rw [List.length_drop] at hu2
          obtain ⟨b2, eb2⟩ : ∃ b, b = rowBadN [35] (t.drop j1) j1 b1 := ⟨_, rfl⟩
          obtain ⟨u2, eu2⟩ : ∃ u, u = stopW [35] (t.drop j1) := ⟨_, rfl⟩
          obtain ⟨k2, ek2⟩ : ∃ k, k = j1 + u2.length := ⟨_, rfl⟩
          rw [← eb2, ← eu2, ← ek2] at hr2
          rw [← eb2, ← eu2, ← ek2] at hD
          rw [← eu2] at hu2
          clear eb2 eu2
          simp only [rdR] at hr2
          simp -implicitDefEqProofs [hl1, hl1', f3, f4, wj1]
          refine ACallM.of hr2 ?_
          by_cases hl2 : k2 < t.length
          · have hl2' : ((k2 : Int) < (t.length : Int)) = True := eq_true (by omega)
            have hF : docF t k2 b2 = (stopW [] (t.drop (k2 + 1)), true, rowBadN [] (t.drop (k2 + 1)) (k2 + 1) b2) := by unfold docF; rw [if_pos hl2]
            rw [hF] at hD
            simp only at hD
            obtain ⟨j2, ej2⟩ : ∃ j, j = k2 + 1 := ⟨_, rfl⟩
            have wj2 : IntKind.i64.wrap ((k2 : Int) + 1) = (j2 : Int) := by rw [wrapS _ (by omega)]; omega
            rw [← ej2] at hD
            have hr3 := ref1_row t [] j2 b2 ht (by omega) hex_none
            obtain ⟨b3, eb3⟩ : ∃ b, b = rowBadN [] (t.drop j2) j2 b2 := ⟨_, rfl⟩
            obtain ⟨u3, eu3⟩ : ∃ u, u = stopW [] (t.drop j2) := ⟨_, rfl⟩
            rw [← eb3, ← eu3] at hr3 hD
            clear eb3 eu3
            simp only [rdR] at hr3
            simp -implicitDefEqProofs [hl2, hl2', wj2]
            refine ACallM.of hr3 ?_
            by_cases hb : 0 ≤ b3
            · have h := hD.1 hb
              subst h
              simp -implicitDefEqProofs [hb]
              refine AltR.r ⟨[9], by kernel_rfl, ?_⟩
              simp -implicitDefEqProofs
              rfl
            · have h := hD.2 hb
              subst h
              have hb' : (0 ≤ b3) = False := eq_false hb
              simp -implicitDefEqProofs [hb', hb, Addr.row]
          · have hl2' : ((k2 : Int) < (t.length : Int)) = False := eq_false (by omega)
            have hF : docF t k2 b2 = ([], false, b2) := by unfold docF; rw [if_neg hl2]
            rw [hF] at hD
            simp only at hD
            by_cases hb : 0 ≤ b2
            · have h := hD.1 hb
              subst h
              simp -implicitDefEqProofs [hl2, hl2', hb]
              refine AltR.r ⟨[9], by kernel_rfl, ?_⟩
              simp -implicitDefEqProofs
              rfl
            · have h := hD.2 hb
              subst h
              have hb' : (0 ≤ b2) = False := eq_false hb
              simp -implicitDefEqProofs [hl2, hl2', hb', hb, Addr.row]
        · have hQ : docQ t k1 b1 = ([], false, k1, b1) := by unfold docQ; rw [if_neg hq]
          rw [hQ] at hD
          simp only at hD
          by_cases hl1 : k1 < t.length
          · have hl1' : ((k1 : Int) < (t.length : Int)) = True := eq_true (by omega)
            have hc1 : ¬ t[k1] = 63 := fun h => hq (by rw [head_drop hl1, h])
            have f3 : ((t[k1].toNat : Int) = 63) = False := u8_int_ne 63 (by omega) hc1
            have f4 : ((t[k1].toNat : Int) == 63) = false := by simpa using f3
            simp -implicitDefEqProofs [hl1, hl1', f3, f4]
            have hl2' : ((k1 : Int) < (t.length : Int)) = True := eq_true (by omega)
            have hF : docF t k1 b1 = (stopW [] (t.drop (k1 + 1)), true, rowBadN [] (t.drop (k1 + 1)) (k1 + 1) b1) := by unfold docF; rw [if_pos hl1]
            rw [hF] at hD
            simp only at hD
            obtain ⟨j2, ej2⟩ : ∃ j, j = k1 + 1 := ⟨_, rfl⟩
            have wj2 : IntKind.i64.wrap ((k1 : Int) + 1) = (j2 : Int) := by rw [wrapS _ (by omega)]; omega
            rw [← ej2] at hD
            have hr3 := ref1_row t [] j2 b1 ht (by omega) hex_none
            obtain ⟨b3, eb3⟩ : ∃ b, b = rowBadN [] (t.drop j2) j2 b1 := ⟨_, rfl⟩
            obtain ⟨u3, eu3⟩ : ∃ u, u = stopW [] (t.drop j2) := ⟨_, rfl⟩
            rw [← eb3, ← eu3] at hr3 hD
            clear eb3 eu3
            simp only [rdR] at hr3
            simp -implicitDefEqProofs [hl1, hl2', wj2]
            refine ACallM.of hr3 ?_
            by_cases hb : 0 ≤ b3
            · have h := hD.1 hb
              subst h
              simp -implicitDefEqProofs [hb]
              refine AltR.r ⟨[9], by kernel_rfl, ?_⟩
              simp -implicitDefEqProofs
              rfl
            · have h := hD.2 hb
              subst h
              have hb' : (0 ≤ b3) = False := eq_false hb
              simp -implicitDefEqProofs [hb', hb, Addr.row]
          · have hl1' : ((k1 : Int) < (t.length : Int)) = False := eq_false (by omega)
            have hF : docF t k1 b1 = ([], false, b1) := by unfold docF; rw [if_neg hl1]
            rw [hF] at hD
            simp only at hD
            by_cases hb : 0 ≤ b1
            · have h := hD.1 hb
              subst h
              simp -implicitDefEqProofs [hl1, hl1', hb]
              refine AltR.r ⟨[9], by kernel_rfl, ?_⟩
              simp -implicitDefEqProofs
              rfl
            · have h := hD.2 hb
              subst h
              have hb' : (0 ≤ b1) = False := eq_false hb
              simp -implicitDefEqProofs [hl1, hl1', hb', hb, Addr.row]
      have hlt' : ((e : Int) < (t.length : Int)) = True := eq_true (by omega)
      have hbk := atByte_back t[e]
      have hbk2 : decide (atByte [47, 63, 35] t[e] < 0) = !(backC t[e]) := by
        rw [← hbk, Bool.eq_iff_iff]; simp
      rw [endB_drop hlt] at hX
      cases bb : backC t[e]
      · rw [bb] at hX hbk2
        simp only [if_true] at hX
        subst hX
        simp -implicitDefEqProofs [hcol hlt, hcol2 hlt, hlt, hlt']
        refine ACallGS.of (fun _ => strings_IndexByte [47, 63, 35] t[e]) rfl ?_
        simp -implicitDefEqProofs [hbk2]
        refine AltR.r ⟨[9], by kernel_rfl, ?_⟩
        simp -implicitDefEqProofs
        rfl
      rw [bb] at hX hbk2
      simp only [Bool.true_eq_false, if_false] at hX
      have hD := rest_doc (by omega) hX
      simp -implicitDefEqProofs [hcol hlt, hcol2 hlt, hlt, hlt']
      refine ACallGS.of (fun _ => strings_IndexByte [47, 63, 35] t[e]) rfl ?_
      have he : e ≤ t.length := by omega
      clear hX
      have hr1 := ref1_row t [63, 35] e (-1) ht he hex_63_35
      have hu1 := stopW_len [63, 35] (t.drop e)
      rw [List.length_drop] at hu1
      unfold docR at hD
      simp only at hD
      obtain ⟨b1, eb1⟩ : ∃ b, b = rowBadN [63, 35] (t.drop e) e (-1) := ⟨_, rfl⟩
      obtain ⟨u1, eu1⟩ : ∃ u, u = stopW [63, 35] (t.drop e) := ⟨_, rfl⟩
      obtain ⟨k1, ek1⟩ : ∃ k, k = e + u1.length := ⟨_, rfl⟩
      rw [← eb1, ← eu1, ← ek1] at hr1
      rw [← eb1, ← eu1, ← ek1] at hD
      rw [← eu1] at hu1
      clear eb1 eu1
      simp only [rdR] at hr1
      simp -implicitDefEqProofs [hbk2]
      refine ACallM.of hr1 ?_
      by_cases hq : (t.drop k1).head? = some 63
      · have hQ : docQ t k1 b1 = (stopW [35] (t.drop (k1 + 1)), true, k1 + 1 + (stopW [35] (t.drop (k1 + 1))).length, rowBadN [35] (t.drop (k1 + 1)) (k1 + 1) b1) := by unfold docQ; rw [if_pos hq]
        rw [hQ] at hD
        simp only at hD
        have hl1 := head_lt hq
        have hl1' : ((k1 : Int) < (t.length : Int)) = True := eq_true (by omega)
        have hc1 : t[k1] = 63 := by have := head_drop hl1; rw [hq] at this; exact (Option.some.inj this).symm
        have f3 : ((t[k1].toNat : Int) = 63) = True := eq_true ((u8_int 63 (by omega)).2 hc1)
        have f4 : ((t[k1].toNat : Int) == 63) = true := by simpa using f3
        obtain ⟨j1, ej1⟩ : ∃ j, j = k1 + 1 := ⟨_, rfl⟩
        have wj1 : IntKind.i64.wrap ((k1 : Int) + 1) = (j1 : Int) := by rw [wrapS _ (by omega)]; omega
        rw [← ej1] at hD
        have hr2 := ref1_row t [35] j1 b1 ht (by omega) hex_35
        have hu2 := stopW_len [35] (t.drop j1)
        rw [List.length_drop] at hu2
        obtain ⟨b2, eb2⟩ : ∃ b, b = rowBadN [35] (t.drop j1) j1 b1 := ⟨_, rfl⟩
        obtain ⟨u2, eu2⟩ : ∃ u, u = stopW [35] (t.drop j1) := ⟨_, rfl⟩
        obtain ⟨k2, ek2⟩ : ∃ k, k = j1 + u2.length := ⟨_, rfl⟩
        rw [← eb2, ← eu2, ← ek2] at hr2
        rw [← eb2, ← eu2, ← ek2] at hD
        rw [← eu2] at hu2
        clear eb2 eu2
        simp only [rdR] at hr2
        simp -implicitDefEqProofs [hl1, hl1', f3, f4, wj1]
        refine ACallM.of hr2 ?_
        by_cases hl2 : k2 < t.length
        · have hl2' : ((k2 : Int) < (t.length : Int)) = True := eq_true (by omega)
          have hF : docF t k2 b2 = (stopW [] (t.drop (k2 + 1)), true, rowBadN [] (t.drop (k2 + 1)) (k2 + 1) b2) := by unfold docF; rw [if_pos hl2]
          rw [hF] at hD
          simp only at hD
          obtain ⟨j2, ej2⟩ : ∃ j, j = k2 + 1 := ⟨_, rfl⟩
          have wj2 : IntKind.i64.wrap ((k2 : Int) + 1) = (j2 : Int) := by rw [wrapS _ (by omega)]; omega
          rw [← ej2] at hD
          have hr3 := ref1_row t [] j2 b2 ht (by omega) hex_none
          obtain ⟨b3, eb3⟩ : ∃ b, b = rowBadN [] (t.drop j2) j2 b2 := ⟨_, rfl⟩
          obtain ⟨u3, eu3⟩ : ∃ u, u = stopW [] (t.drop j2) := ⟨_, rfl⟩
          rw [← eb3, ← eu3] at hr3 hD
          clear eb3 eu3
          simp only [rdR] at hr3
          simp -implicitDefEqProofs [hl2, hl2', wj2]
          refine ACallM.of hr3 ?_
          by_cases hb : 0 ≤ b3
          · have h := hD.1 hb
            subst h
            simp -implicitDefEqProofs [hb]
            refine AltR.r ⟨[9], by kernel_rfl, ?_⟩
            simp -implicitDefEqProofs
            rfl
          · have h := hD.2 hb
            subst h
            have hb' : (0 ≤ b3) = False := eq_false hb
            simp -implicitDefEqProofs [hb', hb, Addr.row]
        · have hl2' : ((k2 : Int) < (t.length : Int)) = False := eq_false (by omega)
          have hF : docF t k2 b2 = ([], false, b2) := by unfold docF; rw [if_neg hl2]
          rw [hF] at hD
          simp only at hD
          by_cases hb : 0 ≤ b2
          · have h := hD.1 hb
            subst h
            simp -implicitDefEqProofs [hl2, hl2', hb]
            refine AltR.r ⟨[9], by kernel_rfl, ?_⟩
            simp -implicitDefEqProofs
            rfl
          · have h := hD.2 hb
            subst h
            have hb' : (0 ≤ b2) = False := eq_false hb
            simp -implicitDefEqProofs [hl2, hl2', hb', hb, Addr.row]
      · have hQ : docQ t k1 b1 = ([], false, k1, b1) := by unfold docQ; rw [if_neg hq]
        rw [hQ] at hD
        simp only at hD
        by_cases hl1 : k1 < t.length
        · have hl1' : ((k1 : Int) < (t.length : Int)) = True := eq_true (by omega)
          have hc1 : ¬ t[k1] = 63 := fun h => hq (by rw [head_drop hl1, h])
          have f3 : ((t[k1].toNat : Int) = 63) = False := u8_int_ne 63 (by omega) hc1
          have f4 : ((t[k1].toNat : Int) == 63) = false := by simpa using f3
          simp -implicitDefEqProofs [hl1, hl1', f3, f4]
          have hl2' : ((k1 : Int) < (t.length : Int)) = True := eq_true (by omega)
          have hF : docF t k1 b1 = (stopW [] (t.drop (k1 + 1)), true, rowBadN [] (t.drop (k1 + 1)) (k1 + 1) b1) := by unfold docF; rw [if_pos hl1]
          rw [hF] at hD
          simp only at hD
          obtain ⟨j2, ej2⟩ : ∃ j, j = k1 + 1 := ⟨_, rfl⟩
          have wj2 : IntKind.i64.wrap ((k1 : Int) + 1) = (j2 : Int) := by rw [wrapS _ (by omega)]; omega
          rw [← ej2] at hD
          have hr3 := ref1_row t [] j2 b1 ht (by omega) hex_none
          obtain ⟨b3, eb3⟩ : ∃ b, b = rowBadN [] (t.drop j2) j2 b1 := ⟨_, rfl⟩
          obtain ⟨u3, eu3⟩ : ∃ u, u = stopW [] (t.drop j2) := ⟨_, rfl⟩
          rw [← eb3, ← eu3] at hr3 hD
          clear eb3 eu3
          simp only [rdR] at hr3
          simp -implicitDefEqProofs [hl1, hl2', wj2]
          refine ACallM.of hr3 ?_
          by_cases hb : 0 ≤ b3
          · have h := hD.1 hb
            subst h
            simp -implicitDefEqProofs [hb]
            refine AltR.r ⟨[9], by kernel_rfl, ?_⟩
            simp -implicitDefEqProofs
            rfl
          · have h := hD.2 hb
            subst h
            have hb' : (0 ≤ b3) = False := eq_false hb
            simp -implicitDefEqProofs [hb', hb, Addr.row]
        · have hl1' : ((k1 : Int) < (t.length : Int)) = False := eq_false (by omega)
          have hF : docF t k1 b1 = ([], false, b1) := by unfold docF; rw [if_neg hl1]
          rw [hF] at hD
          simp only at hD
          by_cases hb : 0 ≤ b1
          · have h := hD.1 hb
            subst h
            simp -implicitDefEqProofs [hl1, hl1', hb]
            refine AltR.r ⟨[9], by kernel_rfl, ?_⟩
            simp -implicitDefEqProofs
            rfl
          · have h := hD.2 hb
            subst h
            have hb' : (0 ≤ b1) = False := eq_false hb
            simp -implicitDefEqProofs [hl1, hl1', hb', hb, Addr.row]
    · rw [if_pos h58] at hpl
      have hlt := head_lt h58
      have hlt' : ((e : Int) < (t.length : Int)) = True := eq_true (by omega)
      have hc : t[e] = 58 := by have := head_drop hlt; rw [h58] at this; exact (Option.some.inj this).symm
      have f1 : ((t[e].toNat : Int) = 58) = True := eq_true ((u8_int 58 (by omega)).2 hc)
      have f2 : ((t[e].toNat : Int) == 58) = true := by simpa using f1
      obtain ⟨j, ej⟩ : ∃ j, j = e + 1 := ⟨_, rfl⟩
      have wj : IntKind.i64.wrap ((e : Int) + 1) = (j : Int) := by rw [wrapS _ (by omega)]; omega
      rw [← ej] at hpl
      have hwp := ref1_whole t true j (-1) ht (by omega)
      rw [whole_port] at hwp
      have hpl2 := takeWhile_len_le isDig (t.drop j)
      rw [List.length_drop] at hpl2
      obtain ⟨p, ep⟩ : ∃ p, p = (t.drop j).takeWhile isDig := ⟨_, rfl⟩
      rw [← ep] at hwp hpl hpl2
      obtain ⟨m, em⟩ : ∃ m, m = j + p.length := ⟨_, rfl⟩
      have em1 : k + (x.length + 1 + p.length) = m := by omega
      rw [em1] at hpl
      rw [← em] at hwp
      simp only [rdR] at hwp
      have hip := ref1_isPort p
      clear ep
      simp -implicitDefEqProofs [hlt, hlt', f1, f2, wj]
      refine ACallM.of hwp ?_
      simp -implicitDefEqProofs
      refine ACallK.of hip ?_
      by_cases hv : portV p = 0
      · rw [if_pos hv] at hpl
        rw [hpl] at hX
        have hj : k + (x.length + 1) = j := by omega
        simp only [if_true, hj] at hX
        subst hX
        simp -implicitDefEqProofs [hv]
        rfl
      rw [if_neg hv] at hpl
      have hm : k + (x.length + 1 + p.length) = m := by omega
      rw [hpl] at hX
      simp only [hm] at hX
      by_cases hlt : m < t.length
      rotate_left
      · have hlt' : ((m : Int) < (t.length : Int)) = False := eq_false (by omega)
        rw [endB_end hlt] at hX
        simp only [Bool.true_eq_false, if_false] at hX
        have hD := rest_doc (by omega) hX
        simp -implicitDefEqProofs [hv, hlt, hlt']
        refine ACallGS.of (fun h => by cases h) (r := .x (.one (.int .i64 0))) rfl ?_
        have he : m ≤ t.length := by omega
        clear hX
        have hr1 := ref1_row t [63, 35] m (-1) ht he hex_63_35
        have hu1 := stopW_len [63, 35] (t.drop m)
        rw [List.length_drop] at hu1
        unfold docR at hD
        simp only at hD
        obtain ⟨b1, eb1⟩ : ∃ b, b = rowBadN [63, 35] (t.drop m) m (-1) := ⟨_, rfl⟩
        obtain ⟨u1, eu1⟩ : ∃ u, u = stopW [63, 35] (t.drop m) := ⟨_, rfl⟩
        obtain ⟨k1, ek1⟩ : ∃ k, k = m + u1.length := ⟨_, rfl⟩
        rw [← eb1, ← eu1, ← ek1] at hr1
        rw [← eb1, ← eu1, ← ek1] at hD
        rw [← eu1] at hu1
        clear eb1 eu1
        simp only [rdR] at hr1
        simp -implicitDefEqProofs [hlt, hlt']
        refine ACallM.of hr1 ?_
        by_cases hq : (t.drop k1).head? = some 63
        · have hQ : docQ t k1 b1 = (stopW [35] (t.drop (k1 + 1)), true, k1 + 1 + (stopW [35] (t.drop (k1 + 1))).length, rowBadN [35] (t.drop (k1 + 1)) (k1 + 1) b1) := by unfold docQ; rw [if_pos hq]
          rw [hQ] at hD
          simp only at hD
          have hl1 := head_lt hq
          have hl1' : ((k1 : Int) < (t.length : Int)) = True := eq_true (by omega)
          have hc1 : t[k1] = 63 := by have := head_drop hl1; rw [hq] at this; exact (Option.some.inj this).symm
          have f3 : ((t[k1].toNat : Int) = 63) = True := eq_true ((u8_int 63 (by omega)).2 hc1)
          have f4 : ((t[k1].toNat : Int) == 63) = true := by simpa using f3
          obtain ⟨j1, ej1⟩ : ∃ j, j = k1 + 1 := ⟨_, rfl⟩
          have wj1 : IntKind.i64.wrap ((k1 : Int) + 1) = (j1 : Int) := by rw [wrapS _ (by omega)]; omega
          rw [← ej1] at hD
          have hr2 := ref1_row t [35] j1 b1 ht (by omega) hex_35
          have hu2 := stopW_len [35] (t.drop j1)
          rw [List.length_drop] at hu2
          obtain ⟨b2, eb2⟩ : ∃ b, b = rowBadN [35] (t.drop j1) j1 b1 := ⟨_, rfl⟩
          obtain ⟨u2, eu2⟩ : ∃ u, u = stopW [35] (t.drop j1) := ⟨_, rfl⟩
          obtain ⟨k2, ek2⟩ : ∃ k, k = j1 + u2.length := ⟨_, rfl⟩
          rw [← eb2, ← eu2, ← ek2] at hr2
          rw [← eb2, ← eu2, ← ek2] at hD
          rw [← eu2] at hu2
          clear eb2 eu2
          simp only [rdR] at hr2
          simp -implicitDefEqProofs [hl1, hl1', f3, f4, wj1]
          refine ACallM.of hr2 ?_
          by_cases hl2 : k2 < t.length
          · have hl2' : ((k2 : Int) < (t.length : Int)) = True := eq_true (by omega)
            have hF : docF t k2 b2 = (stopW [] (t.drop (k2 + 1)), true, rowBadN [] (t.drop (k2 + 1)) (k2 + 1) b2) := by unfold docF; rw [if_pos hl2]
            rw [hF] at hD
            simp only at hD
            obtain ⟨j2, ej2⟩ : ∃ j, j = k2 + 1 := ⟨_, rfl⟩
            have wj2 : IntKind.i64.wrap ((k2 : Int) + 1) = (j2 : Int) := by rw [wrapS _ (by omega)]; omega
            rw [← ej2] at hD
            have hr3 := ref1_row t [] j2 b2 ht (by omega) hex_none
            obtain ⟨b3, eb3⟩ : ∃ b, b = rowBadN [] (t.drop j2) j2 b2 := ⟨_, rfl⟩
            obtain ⟨u3, eu3⟩ : ∃ u, u = stopW [] (t.drop j2) := ⟨_, rfl⟩
            rw [← eb3, ← eu3] at hr3 hD
            clear eb3 eu3
            simp only [rdR] at hr3
            simp -implicitDefEqProofs [hl2, hl2', wj2]
            refine ACallM.of hr3 ?_
            by_cases hb : 0 ≤ b3
            · have h := hD.1 hb
              subst h
              simp -implicitDefEqProofs [hb]
              refine AltR.r ⟨[9], by kernel_rfl, ?_⟩
              simp -implicitDefEqProofs
              rfl
            · have h := hD.2 hb
              subst h
              have hb' : (0 ≤ b3) = False := eq_false hb
              simp -implicitDefEqProofs [hb', hb, Addr.row]
          · have hl2' : ((k2 : Int) < (t.length : Int)) = False := eq_false (by omega)
            have hF : docF t k2 b2 = ([], false, b2) := by unfold docF; rw [if_neg hl2]
            rw [hF] at hD
            simp only at hD
            by_cases hb : 0 ≤ b2
            · have h := hD.1 hb
              subst h
              simp -implicitDefEqProofs [hl2, hl2', hb]
              refine AltR.r ⟨[9], by kernel_rfl, ?_⟩
              simp -implicitDefEqProofs
              rfl
            · have h := hD.2 hb
              subst h
              have hb' : (0 ≤ b2) = False := eq_false hb
              simp -implicitDefEqProofs [hl2, hl2', hb', hb, Addr.row]
        · have hQ : docQ t k1 b1 = ([], false, k1, b1) := by unfold docQ; rw [if_neg hq]
          rw [hQ] at hD
          simp only at hD
          by_cases hl1 : k1 < t.length
          · have hl1' : ((k1 : Int) < (t.length : Int)) = True := eq_true (by omega)
            have hc1 : ¬ t[k1] = 63 := fun h => hq (by rw [head_drop hl1, h])
            have f3 : ((t[k1].toNat : Int) = 63) = False := u8_int_ne 63 (by omega) hc1
            have f4 : ((t[k1].toNat : Int) == 63) = false := by simpa using f3
            simp -implicitDefEqProofs [hl1, hl1', f3, f4]
            have hl2' : ((k1 : Int) < (t.length : Int)) = True := eq_true (by omega)
            have hF : docF t k1 b1 = (stopW [] (t.drop (k1 + 1)), true, rowBadN [] (t.drop (k1 + 1)) (k1 + 1) b1) := by unfold docF; rw [if_pos hl1]
            rw [hF] at hD
            simp only at hD
            obtain ⟨j2, ej2⟩ : ∃ j, j = k1 + 1 := ⟨_, rfl⟩
            have wj2 : IntKind.i64.wrap ((k1 : Int) + 1) = (j2 : Int) := by rw [wrapS _ (by omega)]; omega
            rw [← ej2] at hD
            have hr3 := ref1_row t [] j2 b1 ht (by omega) hex_none
            obtain ⟨b3, eb3⟩ : ∃ b, b = rowBadN [] (t.drop j2) j2 b1 := ⟨_, rfl⟩
            obtain ⟨u3, eu3⟩ : ∃ u, u = stopW [] (t.drop j2) := ⟨_, rfl⟩
            rw [← eb3, ← eu3] at hr3 hD
            clear eb3 eu3
            simp only [rdR] at hr3
            simp -implicitDefEqProofs [hl1, hl2', wj2]
            refine ACallM.of hr3 ?_
            by_cases hb : 0 ≤ b3
            · have h := hD.1 hb
              subst h
              simp -implicitDefEqProofs [hb]
              refine AltR.r ⟨[9], by kernel_rfl, ?_⟩
              simp -implicitDefEqProofs
              rfl
            · have h := hD.2 hb
              subst h
              have hb' : (0 ≤ b3) = False := eq_false hb
              simp -implicitDefEqProofs [hb', hb, Addr.row]
          · have hl1' : ((k1 : Int) < (t.length : Int)) = False := eq_false (by omega)
            have hF : docF t k1 b1 = ([], false, b1) := by unfold docF; rw [if_neg hl1]
            rw [hF] at hD
            simp only at hD
            by_cases hb : 0 ≤ b1
            · have h := hD.1 hb
              subst h
              simp -implicitDefEqProofs [hl1, hl1', hb]
              refine AltR.r ⟨[9], by kernel_rfl, ?_⟩
              simp -implicitDefEqProofs
              rfl
            · have h := hD.2 hb
              subst h
              have hb' : (0 ≤ b1) = False := eq_false hb
              simp -implicitDefEqProofs [hl1, hl1', hb', hb, Addr.row]
      have hlt' : ((m : Int) < (t.length : Int)) = True := eq_true (by omega)
      have hbk := atByte_back t[m]
      have hbk2 : decide (atByte [47, 63, 35] t[m] < 0) = !(backC t[m]) := by
        rw [← hbk, Bool.eq_iff_iff]; simp
      rw [endB_drop hlt] at hX
      cases bb : backC t[m]
      · rw [bb] at hX hbk2
        simp only [if_true] at hX
        subst hX
        simp -implicitDefEqProofs [hv, hlt, hlt']
        refine ACallGS.of (fun _ => strings_IndexByte [47, 63, 35] t[m]) rfl ?_
        simp -implicitDefEqProofs [hbk2]
        refine AltR.r ⟨[9], by kernel_rfl, ?_⟩
        simp -implicitDefEqProofs
        rfl
      rw [bb] at hX hbk2
      simp only [Bool.true_eq_false, if_false] at hX
      have hD := rest_doc (by omega) hX
      simp -implicitDefEqProofs [hv, hlt, hlt']
      refine ACallGS.of (fun _ => strings_IndexByte [47, 63, 35] t[m]) rfl ?_
      have he : m ≤ t.length := by omega
      clear hX
      have hr1 := ref1_row t [63, 35] m (-1) ht he hex_63_35
      have hu1 := stopW_len [63, 35] (t.drop m)
      rw [List.length_drop] at hu1
      unfold docR at hD
      simp only at hD
      obtain ⟨b1, eb1⟩ : ∃ b, b = rowBadN [63, 35] (t.drop m) m (-1) := ⟨_, rfl⟩
      obtain ⟨u1, eu1⟩ : ∃ u, u = stopW [63, 35] (t.drop m) := ⟨_, rfl⟩
      obtain ⟨k1, ek1⟩ : ∃ k, k = m + u1.length := ⟨_, rfl⟩
      rw [← eb1, ← eu1, ← ek1] at hr1
      rw [← eb1, ← eu1, ← ek1] at hD
      rw [← eu1] at hu1
      clear eb1 eu1
      simp only [rdR] at hr1
      simp -implicitDefEqProofs [hbk2]
      refine ACallM.of hr1 ?_
      by_cases hq : (t.drop k1).head? = some 63
      · have hQ : docQ t k1 b1 = (stopW [35] (t.drop (k1 + 1)), true, k1 + 1 + (stopW [35] (t.drop (k1 + 1))).length, rowBadN [35] (t.drop (k1 + 1)) (k1 + 1) b1) := by unfold docQ; rw [if_pos hq]
        rw [hQ] at hD
        simp only at hD
        have hl1 := head_lt hq
        have hl1' : ((k1 : Int) < (t.length : Int)) = True := eq_true (by omega)
        have hc1 : t[k1] = 63 := by have := head_drop hl1; rw [hq] at this; exact (Option.some.inj this).symm
        have f3 : ((t[k1].toNat : Int) = 63) = True := eq_true ((u8_int 63 (by omega)).2 hc1)
        have f4 : ((t[k1].toNat : Int) == 63) = true := by simpa using f3
        obtain ⟨j1, ej1⟩ : ∃ j, j = k1 + 1 := ⟨_, rfl⟩
        have wj1 : IntKind.i64.wrap ((k1 : Int) + 1) = (j1 : Int) := by rw [wrapS _ (by omega)]; omega
        rw [← ej1] at hD
        have hr2 := ref1_row t [35] j1 b1 ht (by omega) hex_35
        have hu2 := stopW_len [35] (t.drop j1)
        rw [List.length_drop] at hu2
        obtain ⟨b2, eb2⟩ : ∃ b, b = rowBadN [35] (t.drop j1) j1 b1 := ⟨_, rfl⟩
        obtain ⟨u2, eu2⟩ : ∃ u, u = stopW [35] (t.drop j1) := ⟨_, rfl⟩
        obtain ⟨k2, ek2⟩ : ∃ k, k = j1 + u2.length := ⟨_, rfl⟩
        rw [← eb2, ← eu2, ← ek2] at hr2
        rw [← eb2, ← eu2, ← ek2] at hD
        rw [← eu2] at hu2
        clear eb2 eu2
        simp only [rdR] at hr2
        simp -implicitDefEqProofs [hl1, hl1', f3, f4, wj1]
        refine ACallM.of hr2 ?_
        by_cases hl2 : k2 < t.length
        · have hl2' : ((k2 : Int) < (t.length : Int)) = True := eq_true (by omega)
          have hF : docF t k2 b2 = (stopW [] (t.drop (k2 + 1)), true, rowBadN [] (t.drop (k2 + 1)) (k2 + 1) b2) := by unfold docF; rw [if_pos hl2]
          rw [hF] at hD
          simp only at hD
          obtain ⟨j2, ej2⟩ : ∃ j, j = k2 + 1 := ⟨_, rfl⟩
          have wj2 : IntKind.i64.wrap ((k2 : Int) + 1) = (j2 : Int) := by rw [wrapS _ (by omega)]; omega
          rw [← ej2] at hD
          have hr3 := ref1_row t [] j2 b2 ht (by omega) hex_none
          obtain ⟨b3, eb3⟩ : ∃ b, b = rowBadN [] (t.drop j2) j2 b2 := ⟨_, rfl⟩
          obtain ⟨u3, eu3⟩ : ∃ u, u = stopW [] (t.drop j2) := ⟨_, rfl⟩
          rw [← eb3, ← eu3] at hr3 hD
          clear eb3 eu3
          simp only [rdR] at hr3
          simp -implicitDefEqProofs [hl2, hl2', wj2]
          refine ACallM.of hr3 ?_
          by_cases hb : 0 ≤ b3
          · have h := hD.1 hb
            subst h
            simp -implicitDefEqProofs [hb]
            refine AltR.r ⟨[9], by kernel_rfl, ?_⟩
            simp -implicitDefEqProofs
            rfl
          · have h := hD.2 hb
            subst h
            have hb' : (0 ≤ b3) = False := eq_false hb
            simp -implicitDefEqProofs [hb', hb, Addr.row]
        · have hl2' : ((k2 : Int) < (t.length : Int)) = False := eq_false (by omega)
          have hF : docF t k2 b2 = ([], false, b2) := by unfold docF; rw [if_neg hl2]
          rw [hF] at hD
          simp only at hD
          by_cases hb : 0 ≤ b2
          · have h := hD.1 hb
            subst h
            simp -implicitDefEqProofs [hl2, hl2', hb]
            refine AltR.r ⟨[9], by kernel_rfl, ?_⟩
            simp -implicitDefEqProofs
            rfl
          · have h := hD.2 hb
            subst h
            have hb' : (0 ≤ b2) = False := eq_false hb
            simp -implicitDefEqProofs [hl2, hl2', hb', hb, Addr.row]
      · have hQ : docQ t k1 b1 = ([], false, k1, b1) := by unfold docQ; rw [if_neg hq]
        rw [hQ] at hD
        simp only at hD
        by_cases hl1 : k1 < t.length
        · have hl1' : ((k1 : Int) < (t.length : Int)) = True := eq_true (by omega)
          have hc1 : ¬ t[k1] = 63 := fun h => hq (by rw [head_drop hl1, h])
          have f3 : ((t[k1].toNat : Int) = 63) = False := u8_int_ne 63 (by omega) hc1
          have f4 : ((t[k1].toNat : Int) == 63) = false := by simpa using f3
          simp -implicitDefEqProofs [hl1, hl1', f3, f4]
          have hl2' : ((k1 : Int) < (t.length : Int)) = True := eq_true (by omega)
          have hF : docF t k1 b1 = (stopW [] (t.drop (k1 + 1)), true, rowBadN [] (t.drop (k1 + 1)) (k1 + 1) b1) := by unfold docF; rw [if_pos hl1]
          rw [hF] at hD
          simp only at hD
          obtain ⟨j2, ej2⟩ : ∃ j, j = k1 + 1 := ⟨_, rfl⟩
          have wj2 : IntKind.i64.wrap ((k1 : Int) + 1) = (j2 : Int) := by rw [wrapS _ (by omega)]; omega
          rw [← ej2] at hD
          have hr3 := ref1_row t [] j2 b1 ht (by omega) hex_none
          obtain ⟨b3, eb3⟩ : ∃ b, b = rowBadN [] (t.drop j2) j2 b1 := ⟨_, rfl⟩
          obtain ⟨u3, eu3⟩ : ∃ u, u = stopW [] (t.drop j2) := ⟨_, rfl⟩
          rw [← eb3, ← eu3] at hr3 hD
          clear eb3 eu3
          simp only [rdR] at hr3
          simp -implicitDefEqProofs [hl1, hl2', wj2]
          refine ACallM.of hr3 ?_
          by_cases hb : 0 ≤ b3
          · have h := hD.1 hb
            subst h
            simp -implicitDefEqProofs [hb]
            refine AltR.r ⟨[9], by kernel_rfl, ?_⟩
            simp -implicitDefEqProofs
            rfl
          · have h := hD.2 hb
            subst h
            have hb' : (0 ≤ b3) = False := eq_false hb
            simp -implicitDefEqProofs [hb', hb, Addr.row]
        · have hl1' : ((k1 : Int) < (t.length : Int)) = False := eq_false (by omega)
          have hF : docF t k1 b1 = ([], false, b1) := by unfold docF; rw [if_neg hl1]
          rw [hF] at hD
          simp only at hD
          by_cases hb : 0 ≤ b1
          · have h := hD.1 hb
            subst h
            simp -implicitDefEqProofs [hl1, hl1', hb]
            refine AltR.r ⟨[9], by kernel_rfl, ?_⟩
            simp -implicitDefEqProofs
            rfl
          · have h := hD.2 hb
            subst h
            have hb' : (0 ≤ b1) = False := eq_false hb
            simp -implicitDefEqProofs [hl1, hl1', hb', hb, Addr.row]
end Go.Proofs.YtklnopamfncfgaaGreatDoor
namespace Go.Proofs.YtklnopamfncfgaaGreatDoor

/-! ### The calendar, in plain numbers -/
def leapI (y : Int) : Bool := decide (y % 4 = 0) && (decide (y % 100 ≠ 0) || decide (y % 400 = 0))
/-- Days before January 1st of a year, from 1970 on. -/
def dY (y : Int) : Int := 365 * (y - 1) + (y - 1) / 4 - (y - 1) / 100 + (y - 1) / 400 - 719162
def yLen (y : Int) : Int := if leapI y = true then 366 else 365
def mLen (y m : Int) : Int := if m = 4 ∨ m = 6 ∨ m = 9 ∨ m = 11 then 30 else if m = 2 then (if leapI y = true then 29 else 28) else 31
/-- Days before the first one of a month. -/
def dMN (y : Int) : Nat → Int
  | 0 => 0
  | n + 1 => if n = 0 then 0 else dMN y n + mLen y n
def dM (y m : Int) : Int := dMN y m.toNat
theorem dY_step (y : Int) : dY (y + 1) = dY y + yLen y := by
  unfold dY yLen leapI
  simp only [Bool.and_eq_true, Bool.or_eq_true, decide_eq_true_eq]
  split <;> omega
theorem yLen_pos (y : Int) : 365 ≤ yLen y ∧ yLen y ≤ 366 := by unfold yLen; split <;> omega
theorem dM_one (y : Int) : dM y 1 = 0 := rfl
theorem dM_step (y m : Int) (h : 1 ≤ m) : dM y (m + 1) = dM y m + mLen y m := by
  unfold dM
  obtain ⟨n, rfl⟩ : ∃ n : Nat, m = (n : Int) + 1 := ⟨(m - 1).toNat, by omega⟩
  have e1 : ((n : Int) + 1 + 1).toNat = n + 2 := by omega
  have e2 : ((n : Int) + 1).toNat = n + 1 := by omega
  rw [e1, e2]
  show (if n + 1 = 0 then 0 else dMN y (n + 1) + mLen y ((n + 1 : Nat) : Int)) = _
  rw [if_neg (by omega)]
  congr 1
theorem mLen_pos (y m : Int) : 28 ≤ mLen y m ∧ mLen y m ≤ 31 := by unfold mLen; repeat' split <;> omega
theorem dM_year (y : Int) : dM y 13 = yLen y := by
  have h := fun m h => dM_step y m h
  have h1 := h 1 (by omega); have h2 := h 2 (by omega); have h3 := h 3 (by omega); have h4 := h 4 (by omega); have h5 := h 5 (by omega); have h6 := h 6 (by omega)
  have h7 := h 7 (by omega); have h8 := h 8 (by omega); have h9 := h 9 (by omega); have h10 := h 10 (by omega); have h11 := h 11 (by omega); have h12 := h 12 (by omega)
  simp only [mLen, Int.reduceAdd] at h1 h2 h3 h4 h5 h6 h7 h8 h9 h10 h11 h12
  rw [dM_one] at h1
  unfold yLen
  cases hl : leapI y <;> simp [hl] at * <;> omega
theorem dM_mono (y : Int) {a b : Int} (ha : 1 ≤ a) (h : a ≤ b) : dM y a ≤ dM y b := by
  obtain ⟨n, rfl⟩ : ∃ n : Nat, b = a + n := ⟨(b - a).toNat, by omega⟩
  clear h
  induction n with
  | zero => simp
  | succ n ih =>
    have := dM_step y (a + n) (by omega)
    have := mLen_pos y (a + n)
    rw [show a + ((n + 1 : Nat) : Int) = a + n + 1 by omega]
    omega
theorem dY_mono {a b : Int} (h : a ≤ b) : dY a ≤ dY b := by
  obtain ⟨n, rfl⟩ : ∃ n : Nat, b = a + n := ⟨(b - a).toNat, by omega⟩
  clear h
  induction n with
  | zero => simp
  | succ n ih =>
    have := dY_step (a + n)
    have := yLen_pos (a + n)
    rw [show a + ((n + 1 : Nat) : Int) = a + n + 1 by omega]
    omega

/-- A day by the calendar. -/
structure IsCiv (day y m d : Int) : Prop where
  y0 : 1970 ≤ y
  lo : dY y ≤ day
  hi : day < dY (y + 1)
  m0 : 1 ≤ m
  m1 : m ≤ 12
  ml : dY y + dM y m ≤ day
  mh : day < dY y + dM y (m + 1)
  dd : d = day - dY y - dM y m + 1
theorem IsCiv.d {day y m d : Int} (h : IsCiv day y m d) : 1 ≤ d ∧ d ≤ mLen y m := by
  have := dM_step y m h.m0; have := h.ml; have := h.mh; have := h.dd
  omega
theorem IsCiv.year {day y m d : Int} (h : IsCiv day y m d) {z : Int} (h1 : dY z ≤ day) (h2 : day < dY (z + 1)) : z = y := by
  have a1 := h.lo; have a2 := h.hi
  by_cases hz : z = y
  · exact hz
  · rcases Int.lt_or_lt_of_ne hz with hlt | hlt
    · have := dY_mono (a := z + 1) (b := y) (by omega); omega
    · have := dY_mono (a := y + 1) (b := z) (by omega); omega
theorem IsCiv.month {day y m d : Int} (h : IsCiv day y m d) {n : Int} (h0 : 1 ≤ n) (h1 : dY y + dM y n ≤ day) (h2 : day < dY y + dM y (n + 1)) : n = m := by
  have a1 := h.ml; have a2 := h.mh
  have := h.m0
  by_cases hz : n = m
  · exact hz
  · rcases Int.lt_or_lt_of_ne hz with hlt | hlt
    · have := dM_mono y (a := n + 1) (b := m) (by omega) (by omega); omega
    · have := dM_mono y (a := m + 1) (b := n) (by omega) (by omega); omega
theorem IsCiv.unique {day y m d z n e : Int} (h : IsCiv day y m d) (k : IsCiv day z n e) : z = y ∧ n = m ∧ e = d := by
  have h1 := h.year k.lo k.hi
  subst h1
  have h2 := h.month k.m0 k.ml k.mh
  subst h2
  exact ⟨rfl, rfl, k.dd.trans h.dd.symm⟩
def yearN : Nat → Int
  | 0 => 1970
  | n + 1 => if ((n + 1 : Nat) : Int) < dY (yearN n + 1) then yearN n else yearN n + 1
theorem yearN_ok (n : Nat) : 1970 ≤ yearN n ∧ dY (yearN n) ≤ n ∧ (n : Int) < dY (yearN n + 1) := by
  induction n with
  | zero => exact ⟨by decide, by decide, by decide⟩
  | succ n ih =>
    obtain ⟨h0, h1, h2⟩ := ih
    unfold yearN
    split
    · rename_i h
      exact ⟨h0, by omega, h⟩
    · have := dY_step (yearN n + 1)
      have := yLen_pos (yearN n + 1)
      exact ⟨by omega, by omega, by omega⟩
theorem civ_month (y r : Int) (h0 : 0 ≤ r) (h1 : r < yLen y) : ∃ m, 1 ≤ m ∧ m ≤ 12 ∧ dM y m ≤ r ∧ r < dM y (m + 1) := by
  have key : ∀ n : Nat, n ≤ 11 → (∃ m, 1 ≤ m ∧ m ≤ 12 ∧ dM y m ≤ r ∧ r < dM y (m + 1)) ∨ dM y ((n : Int) + 2) ≤ r := by
    intro n
    induction n with
    | zero =>
      intro _
      by_cases h : r < dM y 2
      · exact .inl ⟨1, by omega, by omega, by rw [dM_one]; exact h0, h⟩
      · exact .inr (by simpa using h)
    | succ n ih =>
      intro hn
      rcases ih (by omega) with h | h
      · exact .inl h
      · by_cases h' : r < dM y ((n : Int) + 2 + 1)
        · exact .inl ⟨(n : Int) + 2, by omega, by omega, h, h'⟩
        · refine .inr ?_
          rw [show ((n + 1 : Nat) : Int) + 2 = (n : Int) + 2 + 1 by omega]
          omega
  rcases key 11 (by omega) with h | h
  · exact h
  · have := dM_year y
    have e : dM y (((11 : Nat) : Int) + 2) = dM y 13 := rfl
    omega
def yearOf (day : Int) : Int := yearN day.toNat
def monthOf (day : Int) : Int := ((((List.range 12).find? (fun (k : Nat) => decide (day < dY (yearOf day) + dM (yearOf day) ((k : Int) + 2)))).getD 0 : Nat) : Int) + 1
def dayOf (day : Int) : Int := day - dY (yearOf day) - dM (yearOf day) (monthOf day) + 1
theorem civ_ok (day : Int) (h : 0 ≤ day) : IsCiv day (yearOf day) (monthOf day) (dayOf day) := by
  have hy := yearN_ok day.toNat
  rw [show ((day.toNat : Nat) : Int) = day by omega] at hy
  obtain ⟨h0, h1, h2⟩ := hy
  have hs := dY_step (yearN day.toNat)
  obtain ⟨m, m0, m1, m2, m3⟩ := civ_month (yearN day.toNat) (day - dY (yearN day.toNat)) (by omega) (by omega)
  have hm : monthOf day = m := by
    have hfind : (List.range 12).find? (fun (k : Nat) => decide (day < dY (yearOf day) + dM (yearOf day) ((k : Int) + 2))) = some (m - 1).toNat := by
      rw [List.find?_eq_some_iff_getElem]
      refine ⟨?_, (m - 1).toNat, by simp; omega, by simp, fun j hj => ?_⟩
      · have e2 : (((m - 1).toNat : Nat) : Int) + 2 = m + 1 := by omega
        have : day < dY (yearOf day) + dM (yearOf day) ((((m - 1).toNat : Nat) : Int) + 2) := by rw [e2]; simp only [yearOf]; omega
        simpa using this
      · have hj' : (j : Int) + 2 ≤ m := by omega
        have := dM_mono (yearN day.toNat) (a := (j : Int) + 2) (b := m) (by omega) hj'
        simp only [List.getElem_range, yearOf]
        simp; omega
    unfold monthOf
    rw [hfind]
    simp only [Option.getD_some]
    omega
  unfold dayOf
  rw [hm]
  exact ⟨h0, h1, h2, m0, m1, by unfold yearOf; omega, by unfold yearOf; omega, rfl⟩
theorem IsCiv.top {day y m d : Int} (h : IsCiv day y m d) (hd : day ≤ 2932896) : y ≤ 9999 := by
  refine Classical.byContradiction fun hn => ?_
  have h1 := dY_mono (a := 10000) (b := y) (by omega)
  have h2 : dY 10000 = 2932897 := by decide
  have := h.lo
  omega
theorem IsCiv.back {y m d : Int} (h0 : 1970 ≤ y) (m0 : 1 ≤ m) (m1 : m ≤ 12) (d0 : 1 ≤ d) (d1 : d ≤ mLen y m) : IsCiv (dY y + dM y m + d - 1) y m d := by
  have hs := dM_step y m m0
  have h1 := dM_mono y (a := 1) (b := m) (by omega) m0
  have h2 := dM_mono y (a := m + 1) (b := 13) (by omega) (by omega)
  have hy := dY_step y
  have h13 := dM_year y
  have h11 := dM_one y
  refine ⟨h0, by omega, by omega, m0, m1, by omega, by omega, by omega⟩

/-! ### Stamps -/
def stampL (t : Int) : List UInt8 :=
  padD 4 (yearOf (t / 86400)).toNat ++ padD 2 (monthOf (t / 86400)).toNat ++ padD 2 (dayOf (t / 86400)).toNat ++ padD 2 (t % 86400 / 3600).toNat ++ padD 2 (t % 86400 / 60 % 60).toNat ++ padD 2 (t % 86400 % 60).toNat
@[simp] theorem stampL_len (t : Int) : (stampL t).length = 14 := by simp [stampL]
end Go.Proofs.YtklnopamfncfgaaGreatDoor
namespace Go.Proofs.YtklnopamfncfgaaGreatDoor
open Go

/-! ### The moment of fourteen digits -/
theorem dig_isDig (n : Nat) : isDig (dig n) = true ∧ (dig n).toNat - 48 = n % 10 := by
  have h : n % 10 < 10 := Nat.mod_lt _ (by omega)
  have : (dig n).toNat = 48 + n % 10 := by
    unfold dig
    rw [UInt8.toNat_ofNat_of_lt' (by simp [UInt8.size]; omega)]
  unfold isDig
  rw [this]
  simp; omega
theorem padD_isDig : ∀ (k n : Nat), (padD k n).all isDig = true
  | 0, _ => rfl
  | k + 1, n => by rw [padD, List.all_append, padD_isDig k]; simp [dig_isDig]
theorem decV_padD : ∀ (k n : Nat), n < 10 ^ k → decV (padD k n) = n
  | 0, n, h => by simp at h; subst h; rfl
  | k + 1, n, h => by
    rw [padD, decV_snoc, decV_padD k (n / 10) (by rw [Nat.pow_succ] at h; omega), (dig_isDig n).2]
    omega
theorem padD_decV (s : List UInt8) : s.all isDig = true → padD s.length (decV s) = s := by
  refine snoc_ind (p := fun s => s.all isDig = true → padD s.length (decV s) = s) (fun _ => rfl) ?_ s
  intro t b ih h
  simp only [List.all_append, List.all_cons, List.all_nil, Bool.and_true, Bool.and_eq_true] at h
  obtain ⟨h1, h2⟩ := dig_of h.2
  rw [List.length_append, List.length_singleton, padD, decV_snoc]
  have e1 : (decV t * 10 + (b.toNat - 48)) / 10 = decV t := by omega
  have e2 : dig (decV t * 10 + (b.toNat - 48)) = b := by
    unfold dig
    rw [show (decV t * 10 + (b.toNat - 48)) % 10 = b.toNat - 48 by omega, h1]
  rw [e1, ih h.1, e2]
/-- A number that stands in a string. -/
def numAt (s : List UInt8) (i j : Nat) : Nat := decV ((s.take j).drop i)
def okDate (y m d h i s : Int) : Prop := 1970 ≤ y ∧ (1 ≤ m ∧ m ≤ 12) ∧ (1 ≤ d ∧ d ≤ mLen y m) ∧ (0 ≤ h ∧ h ≤ 23) ∧ (0 ≤ i ∧ i ≤ 59) ∧ (0 ≤ s ∧ s ≤ 59)
instance (y m d h i s : Int) : Decidable (okDate y m d h i s) := by unfold okDate; infer_instance
def dateN (y m d h i s : Int) : Int := (dY y + dM y m + d - 1) * 86400 + h * 3600 + i * 60 + s
def momentL (s : List UInt8) : Option Int :=
  if (s.length = 14 ∧ s.all isDig = true) ∧ okDate (numAt s 0 4) (numAt s 4 6) (numAt s 6 8) (numAt s 8 10) (numAt s 10 12) (numAt s 12 14) then
    some (dateN (numAt s 0 4) (numAt s 4 6) (numAt s 6 8) (numAt s 8 10) (numAt s 10 12) (numAt s 12 14))
  else none
theorem dY_1970 : dY 1970 = 0 := by decide
/-- The calendar of a date's moment. -/
theorem date_parts {y m d h i s : Int} (hk : okDate y m d h i s) (hy : y ≤ 9999) : 0 ≤ dateN y m d h i s ∧ dateN y m d h i s ≤ 253402300799 ∧ yearOf (dateN y m d h i s / 86400) = y ∧ monthOf (dateN y m d h i s / 86400) = m ∧
    dayOf (dateN y m d h i s / 86400) = d ∧ dateN y m d h i s % 86400 / 3600 = h ∧ dateN y m d h i s % 86400 / 60 % 60 = i ∧ dateN y m d h i s % 86400 % 60 = s := by
  obtain ⟨h1, h2, h3, h4, h5, h6⟩ := hk
  have hc := IsCiv.back h1 h2.1 h2.2 h3.1 h3.2
  obtain ⟨D, eD⟩ : ∃ D, D = dY y + dM y m + d - 1 := ⟨_, rfl⟩
  have hD0 : 0 ≤ D := by
    have := hc.lo
    have := dY_mono (a := 1970) (b := y) h1
    rw [dY_1970] at this
    omega
  have hD1 : D ≤ 2932896 := by
    have := hc.hi
    have := dY_mono (a := y + 1) (b := 10000) (by omega)
    have h2 : dY 10000 = 2932897 := by decide
    omega
  have e : dateN y m d h i s = D * 86400 + h * 3600 + i * 60 + s := by rw [eD]; rfl
  have eq : dateN y m d h i s / 86400 = D := by omega
  rw [← eD] at hc
  obtain ⟨u1, u2, u3⟩ := hc.unique (civ_ok D hD0)
  rw [eq]
  exact ⟨by omega, by omega, u1, u2, u3, by omega, by omega, by omega⟩
theorem date_back {t : Int} (h0 : 0 ≤ t) : okDate (yearOf (t / 86400)) (monthOf (t / 86400)) (dayOf (t / 86400)) (t % 86400 / 3600) (t % 86400 / 60 % 60) (t % 86400 % 60) ∧
    dateN (yearOf (t / 86400)) (monthOf (t / 86400)) (dayOf (t / 86400)) (t % 86400 / 3600) (t % 86400 / 60 % 60) (t % 86400 % 60) = t := by
  have hc := civ_ok (t / 86400) (by omega)
  have hd := hc.d
  have hdd := hc.dd
  refine ⟨⟨hc.y0, ⟨hc.m0, hc.m1⟩, hd, by omega, by omega, by omega⟩, ?_⟩
  unfold dateN
  rw [show dY (yearOf (t / 86400)) + dM (yearOf (t / 86400)) (monthOf (t / 86400)) + dayOf (t / 86400) - 1 = t / 86400 by omega]
  omega
theorem numAt_app {a b c : List UInt8} : numAt (a ++ b ++ c) a.length (a.length + b.length) = decV b := by
  unfold numAt
  congr 1
  rw [← List.length_append, List.take_left' rfl, List.drop_left' rfl]
theorem momentL_stamp {t : Int} (h0 : 0 ≤ t) (h1 : t ≤ 253402300799) : momentL (stampL t) = some t := by
  obtain ⟨hk, he⟩ := date_back h0
  have hy : yearOf (t / 86400) ≤ 9999 := (civ_ok (t / 86400) (by omega)).top (by omega)
  obtain ⟨k1, k2, k3, k4, k5, k6⟩ := hk
  have km := mLen_pos (yearOf (t / 86400)) (monthOf (t / 86400))
  obtain ⟨Y, eY⟩ : ∃ Y : Nat, yearOf (t / 86400) = Y := ⟨(yearOf (t / 86400)).toNat, by omega⟩
  obtain ⟨M, eM⟩ : ∃ M : Nat, monthOf (t / 86400) = M := ⟨(monthOf (t / 86400)).toNat, by omega⟩
  obtain ⟨D, eD⟩ : ∃ D : Nat, dayOf (t / 86400) = D := ⟨(dayOf (t / 86400)).toNat, by omega⟩
  obtain ⟨H, eH⟩ : ∃ H : Nat, t % 86400 / 3600 = H := ⟨(t % 86400 / 3600).toNat, by omega⟩
  obtain ⟨I, eI⟩ : ∃ I : Nat, t % 86400 / 60 % 60 = I := ⟨(t % 86400 / 60 % 60).toNat, by omega⟩
  obtain ⟨S, eS⟩ : ∃ S : Nat, t % 86400 % 60 = S := ⟨(t % 86400 % 60).toNat, by omega⟩
  have hst : stampL t = padD 4 Y ++ padD 2 M ++ padD 2 D ++ padD 2 H ++ padD 2 I ++ padD 2 S := by unfold stampL; rw [eY, eM, eD, eH, eI, eS]; rfl
  rw [eY, eM, eD, eH, eI, eS] at he
  rw [eM, eY] at km
  rw [eY] at k1 hy
  rw [eM] at k2
  rw [eD, eY, eM] at k3
  rw [eH] at k4
  rw [eI] at k5
  rw [eS] at k6
  have f0 : numAt (stampL t) 0 4 = Y := by rw [hst]; refine Eq.trans ?_ (decV_padD 4 Y (by omega)); simpa using numAt_app (a := []) (b := padD 4 Y) (c := padD 2 M ++ padD 2 D ++ padD 2 H ++ padD 2 I ++ padD 2 S)
  have f1 : numAt (stampL t) 4 6 = M := by rw [hst]; refine Eq.trans ?_ (decV_padD 2 M (by omega)); simpa using numAt_app (a := padD 4 Y) (b := padD 2 M) (c := padD 2 D ++ padD 2 H ++ padD 2 I ++ padD 2 S)
  have f2 : numAt (stampL t) 6 8 = D := by rw [hst]; refine Eq.trans ?_ (decV_padD 2 D (by omega)); simpa using numAt_app (a := padD 4 Y ++ padD 2 M) (b := padD 2 D) (c := padD 2 H ++ padD 2 I ++ padD 2 S)
  have f3 : numAt (stampL t) 8 10 = H := by rw [hst]; refine Eq.trans ?_ (decV_padD 2 H (by omega)); simpa using numAt_app (a := padD 4 Y ++ padD 2 M ++ padD 2 D) (b := padD 2 H) (c := padD 2 I ++ padD 2 S)
  have f4 : numAt (stampL t) 10 12 = I := by rw [hst]; refine Eq.trans ?_ (decV_padD 2 I (by omega)); simpa using numAt_app (a := padD 4 Y ++ padD 2 M ++ padD 2 D ++ padD 2 H) (b := padD 2 I) (c := padD 2 S)
  have f5 : numAt (stampL t) 12 14 = S := by rw [hst]; refine Eq.trans ?_ (decV_padD 2 S (by omega)); simpa using numAt_app (a := padD 4 Y ++ padD 2 M ++ padD 2 D ++ padD 2 H ++ padD 2 I) (b := padD 2 S) (c := [])
  have hall : (stampL t).all isDig = true := by rw [hst]; simp only [List.all_append, padD_isDig]; rfl
  unfold momentL
  rw [f0, f1, f2, f3, f4, f5, if_pos ⟨⟨stampL_len t, hall⟩, k1, k2, k3, k4, k5, k6⟩, he]
theorem stamp_moment {s : List UInt8} {t : Int} (h : momentL s = some t) : 0 ≤ t ∧ t ≤ 253402300799 ∧ stampL t = s := by
  unfold momentL at h
  split at h
  · rename_i hc
    injection h with h
    obtain ⟨⟨hl, ha⟩, hk⟩ := hc
    have pd : ∀ (i j : Nat), i ≤ j → j ≤ 14 → padD (j - i) (numAt s i j) = (s.take j).drop i := by
      intro i j h1 h2
      have hx : ((s.take j).drop i).all isDig = true := by
        rw [List.all_eq_true] at ha ⊢
        exact fun x hx => ha x (List.mem_of_mem_take (List.mem_of_mem_drop hx))
      have hlen : ((s.take j).drop i).length = j - i := by rw [List.length_drop, List.length_take]; omega
      have := padD_decV _ hx
      rw [hlen] at this
      exact this
    have hy : (numAt s 0 4 : Int) ≤ 9999 := by
      have hx : ((s.take 4).drop 0).all isDig = true := by
        rw [List.all_eq_true] at ha ⊢
        exact fun x hx => ha x (List.mem_of_mem_take (List.mem_of_mem_drop hx))
      have := decV_lt _ hx
      have hlen : ((s.take 4).drop 0).length = 4 := by rw [List.length_drop, List.length_take]; omega
      rw [hlen] at this
      unfold numAt; omega
    obtain ⟨p0, p1, p2, p3, p4, p5, p6, p7⟩ := date_parts hk hy
    rw [h] at p0 p1 p2 p3 p4 p5 p6 p7
    refine ⟨p0, p1, ?_⟩
    unfold stampL
    rw [p2, p3, p4, p5, p6, p7]
    simp only [Int.toNat_natCast]
    have q0 := pd 0 4 (by omega) (by omega)
    have q1 := pd 4 6 (by omega) (by omega)
    have q2 := pd 6 8 (by omega) (by omega)
    have q3 := pd 8 10 (by omega) (by omega)
    have q4 := pd 10 12 (by omega) (by omega)
    have q5 := pd 12 14 (by omega) (by omega)
    simp only [Nat.reduceSub] at q0 q1 q2 q3 q4 q5
    rw [q0, q1, q2, q3, q4, q5]
    have step : ∀ i j, i ≤ j → s.take i ++ (s.take j).drop i = s.take j := by
      intro i j hij
      have := List.take_append_drop i (s.take j)
      rw [List.take_take, Nat.min_eq_left hij] at this
      exact this
    rw [List.drop_zero, step 4 6 (by omega), step 6 8 (by omega), step 8 10 (by omega), step 10 12 (by omega), step 12 14 (by omega), List.take_of_length_le (by omega)]
  · cases h
end Go.Proofs.YtklnopamfncfgaaGreatDoor
namespace Go.Proofs.YtklnopamfncfgaaGreatDoor
open Go Go.Ab

/-! ### The text at which an address is replayed -/
def leadCs : List UInt8 := [34, 35, 39, 40, 41, 44, 60, 62]
def leadC (c : UInt8) : Bool := keyChar c && !leadCs.contains c
def leadB (s : List UInt8) : Bool := s.all leadC && (inB 1 200 s.length && decide (s.getLast? ≠ some 47))
def replayF (lead : List UInt8) (t : Int) (a : Addr) : Int := if leadB lead = false then 3 else if momentB t = false then 1 else addrF a
def replayL (lead : List UInt8) (t : Int) (a : Addr) : List UInt8 := if replayF lead t a = 0 then lead ++ [47] ++ stampL t ++ [47] ++ writeL a else []
/-- What stands behind a lead and its stroke. -/
def restL (lead text : List UInt8) : Option (List UInt8) := if (lead ++ [47]).isPrefixOf text = true then some (text.drop (lead.length + 1)) else none
def goodL (r : List UInt8) : Bool := decide (15 ≤ r.length) && decide (r[14]? = some 47)
def readRp (lead text : List UInt8) : Int × Addr × Int :=
  if leadB lead = false then (0, noAddr, 3) else match restL lead text with
  | none => (0, noAddr, 10)
  | some r => if goodL r = false then (0, noAddr, 10) else match momentL (r.take 14) with
    | none => (0, noAddr, 10)
    | some t => if (readAR (r.drop 15)).2.2 ≠ 0 then (0, noAddr, 10) else (t, (readAR (r.drop 15)).1, 0)
theorem readAR_ok {t : List UInt8} (h : (readAR t).2.2 = 0) : t.length ≤ 2000 ∧ readA t = .ok (readAR t).1 := by
  unfold readAR at h ⊢
  split at h
  · cases h
  · rename_i hl
    rw [if_neg hl]
    split at h
    · cases h
    · rename_i a ha
      exact ⟨by omega, ha⟩
theorem readAR_write {a : Addr} (h : addrF a = 0) : readAR (writeL a) = (a, 0, 0) := by
  have hl := (addrF_ok h).2.2.2.2.2.2.2.2
  unfold readAR
  rw [if_neg (by omega), read_write h]
theorem replayF_ok {lead : List UInt8} {t : Int} {a : Addr} (h : replayF lead t a = 0) : leadB lead = true ∧ momentB t = true ∧ addrF a = 0 := by
  unfold replayF at h
  split at h
  · cases h
  · rename_i h1
    split at h
    · cases h
    · rename_i h2
      exact ⟨by simpa using h1, by simpa using h2, h⟩
theorem replay_back {lead : List UInt8} {t : Int} {a : Addr} (h : replayF lead t a = 0) : readRp lead (replayL lead t a) = (t, a, 0) := by
  obtain ⟨h1, h2, h3⟩ := replayF_ok h
  have hL : replayL lead t a = (lead ++ [47]) ++ (stampL t ++ [47] ++ writeL a) := by unfold replayL; rw [if_pos h]; simp
  have hr : restL lead (replayL lead t a) = some (stampL t ++ [47] ++ writeL a) := by
    unfold restL
    rw [hL, if_pos (by rw [List.isPrefixOf_iff_prefix]; exact List.prefix_append _ _)]
    congr 1
    rw [show lead.length + 1 = (lead ++ [47]).length by simp, List.drop_left]
  have hs := stampL_len t
  have hg : goodL (stampL t ++ [47] ++ writeL a) = true := by
    unfold goodL
    rw [List.append_assoc, List.getElem?_append_right (by omega), hs]
    simp [hs]; omega
  have ht : (stampL t ++ [47] ++ writeL a).take 14 = stampL t := by rw [List.append_assoc, ← hs, List.take_left]
  have hd : (stampL t ++ [47] ++ writeL a).drop 15 = writeL a := by
    rw [show 15 = (stampL t ++ [47]).length by simp, List.drop_left]
  have hm : momentL (stampL t) = some t := by
    simp only [momentB, inB, Bool.and_eq_true, decide_eq_true_eq] at h2
    exact momentL_stamp h2.1 h2.2
  unfold readRp
  rw [if_neg (by simp [h1]), hr]
  simp only [hg, ht, hd, hm, readAR_write h3]
  simp
theorem replay_forth {lead text : List UInt8} (h : (readRp lead text).2.2 = 0) : replayF lead (readRp lead text).1 (readRp lead text).2.1 = 0 ∧ replayL lead (readRp lead text).1 (readRp lead text).2.1 = text := by
  unfold readRp at h ⊢
  by_cases h1 : leadB lead = false
  · rw [if_pos h1] at h; cases h
  rw [if_neg h1] at h ⊢
  cases hr : restL lead text with
  | none => rw [hr] at h; cases h
  | some r =>
    rw [hr] at h
    simp only at h ⊢
    by_cases h2 : goodL r = false
    · rw [if_pos h2] at h; cases h
    rw [if_neg h2] at h ⊢
    cases hm : momentL (r.take 14) with
    | none => rw [hm] at h; cases h
    | some t =>
      rw [hm] at h
      simp only at h ⊢
      by_cases h3 : (readAR (r.drop 15)).2.2 ≠ 0
      · rw [if_pos h3] at h; cases h
      rw [if_neg h3]
      simp only
      obtain ⟨l1, l2⟩ := readAR_ok (Classical.not_not.1 h3)
      obtain ⟨w1, w2⟩ := write_read l2
      obtain ⟨m1, m2, m3⟩ := stamp_moment hm
      have hf : replayF lead t (readAR (r.drop 15)).1 = 0 := by
        unfold replayF
        rw [if_neg h1, if_neg (by simp [momentB, inB, m1, m2])]
        exact w2 l1
      refine ⟨hf, ?_⟩
      unfold replayL
      rw [if_pos hf, m3, w1]
      unfold restL at hr
      split at hr
      · rename_i hp
        injection hr with hr
        obtain ⟨z, hz⟩ := List.isPrefixOf_iff_prefix.1 hp
        have hzr : z = r := by
          rw [← hr, ← hz, show lead.length + 1 = (lead ++ [47]).length by simp, List.drop_left]
        subst hzr
        rw [← hz]
        have h2' : 15 ≤ z.length ∧ z[14]? = some 47 := by
          unfold goodL at h2; simpa using h2
        have h47 : z.take 14 ++ [47] ++ z.drop 15 = z := by
          have hlt : 14 < z.length := by omega
          have e : z.drop 14 = 47 :: z.drop 15 := by
            rw [List.drop_eq_getElem_cons hlt]
            have := h2'.2
            rw [List.getElem?_eq_getElem hlt] at this
            injection this with this
            rw [this]
          rw [List.append_assoc]
          show z.take 14 ++ (47 :: z.drop 15) = z
          rw [← e, List.take_append_drop]
        conv => rhs; rw [← h47]
        simp
      · cases hr
end Go.Proofs.YtklnopamfncfgaaGreatDoor
namespace Go.Proofs.YtklnopamfncfgaaGreatDoor
open Go Go.Ab
set_option linter.unusedSectionVars false
variable [Amb]
set_option maxRecDepth 100000
set_option maxHeartbeats 4000000

theorem ref1_CheckAddress (a : Addr) (h : a.Fit) : ACalls Tryz.prog 66 [.agg a.row] (.x (.one (.int .i64 (addrF a)))) := by
  refine ACalls.of mixed (fn := Tryz.f66) (by kernel_rfl) (by kernel_rfl) rfl (by kernel_rfl) (by simp [Tryz.f66]) (fun hok => ?_)
  have hwr := ref1_written a h
  obtain ⟨l1, l2, l3, l4, l5, l6⟩ := h
  obtain ⟨sc, ho, po, pa, qu, hq, fr, hf⟩ := a
  simp only [Addr.row] at hwr l1 l2 l3 l4 l5 l6 ⊢
  obtain ⟨F, eF⟩ : ∃ F, F = addrF ⟨sc, ho, po, pa, qu, hq, fr, hf⟩ := ⟨_, rfl⟩
  obtain ⟨W, eW⟩ : ∃ W, W = writeL ⟨sc, ho, po, pa, qu, hq, fr, hf⟩ := ⟨_, rfl⟩
  rw [← eF]
  rw [← eW] at hwr
  simp -implicitDefEqProofs
  refine ACallK.of (ref1_isScheme sc) ?_
  cases h1 : schemeB sc
  · rw [addrF_10 (.inl h1)] at eF
    simp -implicitDefEqProofs
    repeat first
      | (refine ACallGS.of (fun _ => ref1_IsHost ho) rfl ?_; simp -implicitDefEqProofs)
      | (refine ACallGS.of (fun _ => ref1_isPort po) rfl ?_; simp -implicitDefEqProofs)
      | (refine ACallGS.of (fun _ => ref1_IsPath pa (by omega)) rfl ?_; simp -implicitDefEqProofs)
      | (refine ACallGS.of (fun _ => ref1_IsRow qu (by omega)) rfl ?_; simp -implicitDefEqProofs)
      | (refine ACallGS.of (fun _ => ref1_IsRow fr (by omega)) rfl ?_; simp -implicitDefEqProofs)
    exact eF
  simp -implicitDefEqProofs
  refine ACallGS.of (fun _ => ref1_IsHost ho) rfl ?_
  cases h2 : hostB ho
  · rw [addrF_10 (.inr (.inl h2))] at eF
    simp -implicitDefEqProofs
    repeat first
      | (refine ACallGS.of (fun _ => ref1_IsHost ho) rfl ?_; simp -implicitDefEqProofs)
      | (refine ACallGS.of (fun _ => ref1_isPort po) rfl ?_; simp -implicitDefEqProofs)
      | (refine ACallGS.of (fun _ => ref1_IsPath pa (by omega)) rfl ?_; simp -implicitDefEqProofs)
      | (refine ACallGS.of (fun _ => ref1_IsRow qu (by omega)) rfl ?_; simp -implicitDefEqProofs)
      | (refine ACallGS.of (fun _ => ref1_IsRow fr (by omega)) rfl ?_; simp -implicitDefEqProofs)
    exact eF
  simp -implicitDefEqProofs
  by_cases h3 : po ≠ [] ∧ portV po = 0
  · rw [addrF_10 (.inr (.inr (.inl h3)))] at eF
    have k1 : (po = []) = False := eq_false h3.1
    have k2 := h3.2
    have k3 : po.isEmpty = false := by simpa using h3.1
    simp -implicitDefEqProofs [k1, k2, k3]
    refine ACallGS.of (fun _ => ref1_isPort po) rfl ?_
    simp -implicitDefEqProofs [k1, k2, k3]
    repeat first
      | (refine ACallGS.of (fun _ => ref1_IsPath pa (by omega)) rfl ?_; simp -implicitDefEqProofs)
      | (refine ACallGS.of (fun _ => ref1_IsRow qu (by omega)) rfl ?_; simp -implicitDefEqProofs)
      | (refine ACallGS.of (fun _ => ref1_IsRow fr (by omega)) rfl ?_; simp -implicitDefEqProofs)
    exact eF
  have K : ((po = []) = True ∧ po.isEmpty = true ∧ (portV po = 0) = True) ∨ ((po = []) = False ∧ po.isEmpty = false ∧ (portV po = 0) = False) := by
    by_cases hp : po = []
    · left; subst hp; exact ⟨by simp, rfl, by simp [portV]⟩
    · right; exact ⟨eq_false hp, by simpa using hp, eq_false (fun e => h3 ⟨hp, e⟩)⟩
  rcases K with ⟨k1, k3, k2⟩ | ⟨k1, k3, k2⟩
  all_goals
    simp -implicitDefEqProofs [k1, k2, k3]
    refine ACallGS.of (fun _ => ref1_isPort po) rfl ?_
    simp -implicitDefEqProofs [k1, k2, k3]
    refine ACallGS.of (fun _ => ref1_IsPath pa (by omega)) rfl ?_
    cases h4 : pathB pa
    · rw [addrF_10 (.inr (.inr (.inr (.inl h4))))] at eF
      simp -implicitDefEqProofs [k1, k2, k3]
      repeat first
        | (refine ACallGS.of (fun _ => ref1_IsPath pa (by omega)) rfl ?_; simp -implicitDefEqProofs)
        | (refine ACallGS.of (fun _ => ref1_IsRow qu (by omega)) rfl ?_; simp -implicitDefEqProofs)
        | (refine ACallGS.of (fun _ => ref1_IsRow fr (by omega)) rfl ?_; simp -implicitDefEqProofs)
      exact eF
    simp -implicitDefEqProofs [k1, k2, k3]
    refine ACallGS.of (fun _ => ref1_IsRow qu (by omega)) rfl ?_
    cases h5 : rowB [] qu
    · rw [addrF_10 (.inr (.inr (.inr (.inr (.inl h5)))))] at eF
      simp -implicitDefEqProofs [k1, k2, k3]
      repeat first
        | (refine ACallGS.of (fun _ => ref1_IsPath pa (by omega)) rfl ?_; simp -implicitDefEqProofs)
        | (refine ACallGS.of (fun _ => ref1_IsRow qu (by omega)) rfl ?_; simp -implicitDefEqProofs)
        | (refine ACallGS.of (fun _ => ref1_IsRow fr (by omega)) rfl ?_; simp -implicitDefEqProofs)
      exact eF
    simp -implicitDefEqProofs [k1, k2, k3]
    refine ACallGS.of (fun _ => ref1_IsRow fr (by omega)) rfl ?_
    cases h6 : rowB [] fr
    · rw [addrF_10 (.inr (.inr (.inr (.inr (.inr h6)))))] at eF
      simp -implicitDefEqProofs [k1, k2, k3]
      exact eF
    rw [addrF_more h1 h2 h3 h4 h5 h6, ← eW] at eF
    cases hq <;> cases hf <;> by_cases q0 : qu = [] <;> by_cases f0 : fr = []
    all_goals
      simp only [q0, f0, ne_eq, not_true_eq_false, not_false_eq_true, false_and, and_false, true_and, and_true, false_or, or_false, true_or, or_true, if_true, if_false, Bool.true_eq_false, Bool.false_eq_true, reduceCtorEq] at eF
      simp -implicitDefEqProofs [k1, k2, k3, q0, f0]
      first
        | exact eF
        | (first
            | exact ACallK.of hwr (by
                by_cases hW : 2000 < W.length
                · rw [if_pos hW] at eF
                  have hW' : (2000 < (W.length : Int)) = True := eq_true (by omega)
                  simp -implicitDefEqProofs [hW, hW']
                  exact eF
                · rw [if_neg hW] at eF
                  have hW' : (2000 < (W.length : Int)) = False := eq_false (by omega)
                  simp -implicitDefEqProofs [hW, hW']
                  exact eF)
            | (simp only [q0, f0] at hwr
               exact ACallK.of hwr (by
                by_cases hW : 2000 < W.length
                · rw [if_pos hW] at eF
                  have hW' : (2000 < (W.length : Int)) = True := eq_true (by omega)
                  simp -implicitDefEqProofs [hW, hW']
                  exact eF
                · rw [if_neg hW] at eF
                  have hW' : (2000 < (W.length : Int)) = False := eq_false (by omega)
                  simp -implicitDefEqProofs [hW, hW']
                  exact eF)))
end Go.Proofs.YtklnopamfncfgaaGreatDoor
namespace Go.Proofs.YtklnopamfncfgaaGreatDoor
open Go Go.Ab
set_option linter.unusedSectionVars false
variable [Amb]
set_option maxRecDepth 100000
set_option maxHeartbeats 4000000

/-! ### Texts of addresses, leads -/
def textL (a : Addr) : List UInt8 := if addrF a = 0 then writeL a else []
theorem address_Text (a : Addr) (h : a.Fit) : ACalls Tryz.prog 24 [.agg a.row] (.tup [.one (.str (textL a)), .one (.int .i64 (addrF a))]) := by
  refine ACalls.of mixed (fn := Tryz.f24) (by kernel_rfl) (by kernel_rfl) rfl (by kernel_rfl) (by simp [Tryz.f24]) (fun hok => ?_)
  have h1 := address_CheckAddress a h
  have h2 := address_write a h
  unfold textL
  obtain ⟨sc, ho, po, pa, qu, hq, fr, hf⟩ := a
  simp only [Addr.row] at h1 h2 ⊢
  generalize writeL ⟨sc, ho, po, pa, qu, hq, fr, hf⟩ = W at h2 ⊢
  generalize addrF ⟨sc, ho, po, pa, qu, hq, fr, hf⟩ = F at h1 ⊢
  simp -implicitDefEqProofs
  refine ACallK.of h1 ?_
  by_cases hF : F = 0
  · simp -implicitDefEqProofs [hF]
    exact ACallK.of h2 (by simp -implicitDefEqProofs [hF])
  · have hb : (F == 0) = false := by simpa using hF
    simp -implicitDefEqProofs [hF, hb]
theorem ref1_Text (a : Addr) (h : a.Fit) : ACalls Tryz.prog 28 [.agg a.row] (.tup [.one (.str (textL a)), .one (.int .i64 (addrF a))]) := by
  refine ACalls.of mixed (fn := Tryz.f28) (by kernel_rfl) (by kernel_rfl) rfl (by kernel_rfl) (by simp [Tryz.f28]) (fun hok => ?_)
  have h1 := ref1_CheckAddress a h
  have h2 := ref1_written a h
  unfold textL
  obtain ⟨sc, ho, po, pa, qu, hq, fr, hf⟩ := a
  simp only [Addr.row] at h1 h2 ⊢
  generalize writeL ⟨sc, ho, po, pa, qu, hq, fr, hf⟩ = W at h2 ⊢
  generalize addrF ⟨sc, ho, po, pa, qu, hq, fr, hf⟩ = F at h1 ⊢
  simp -implicitDefEqProofs
  refine ACallK.of h1 ?_
  by_cases hF : F = 0
  · simp -implicitDefEqProofs [hF]
    exact ACallK.of h2 (by simp -implicitDefEqProofs [hF])
  · have hb : (F == 0) = false := by simpa using hF
    simp -implicitDefEqProofs [hF, hb]
theorem leadB_get {s : List UInt8} (h : 0 < s.length) : leadB s = (s.all leadC && (inB 1 200 s.length && decide (s[s.length - 1] ≠ 47))) := by
  have h2 : s.getLast? = some s[s.length - 1] := by rw [List.getLast?_eq_getElem?, List.getElem?_eq_getElem (by omega)]
  unfold leadB
  rw [h2]
  simp
theorem stringslite_CutPrefix (s p : List UInt8) : ACalls Tryz.prog 70 [.one (.str s), .one (.str p)] (.tup [.one (.str (if hasPre s p = true then s.drop p.length else s)), .one (.bool (hasPre s p))]) := by
  refine ACalls.of mixed (fn := Tryz.f70) (by kernel_rfl) (by kernel_rfl) rfl (by kernel_rfl) (by simp [Tryz.f70]) (fun hok => ?_)
  simp -implicitDefEqProofs
  refine ACallK.of (stringslite_HasPrefix s p) ?_
  cases h : hasPre s p
  · simp -implicitDefEqProofs
  · have hl : p.length ≤ s.length := (List.isPrefixOf_iff_prefix.1 h).length_le
    have g1 : ((p.length : Int) ≤ (s.length : Int)) = True := eq_true (by omega)
    simp -implicitDefEqProofs [g1, hl]
theorem strings_CutPrefix (s p : List UInt8) : ACalls Tryz.prog 30 [.one (.str s), .one (.str p)] (.tup [.one (.str (if hasPre s p = true then s.drop p.length else s)), .one (.bool (hasPre s p))]) := by
  refine ACalls.of mixed (fn := Tryz.f30) (by kernel_rfl) (by kernel_rfl) rfl (by kernel_rfl) (by simp [Tryz.f30]) (fun hok => ?_)
  simp -implicitDefEqProofs
  refine ACallK.of (stringslite_CutPrefix s p) ?_
  simp -implicitDefEqProofs
theorem leadC_no (c : UInt8) : leadC c = (!(decide (c.toNat < 33) || (decide (126 < c.toNat) || leadCs.contains c))) := by
  unfold leadC keyChar
  have h1 : decide (33 ≤ c.toNat) = !decide (c.toNat < 33) := by rw [Bool.eq_iff_iff]; simp
  have h2 : decide (c.toNat ≤ 126) = !decide (126 < c.toNat) := by rw [Bool.eq_iff_iff]; simp
  rw [h1, h2]
  cases leadCs.contains c <;> cases decide (c.toNat < 33) <;> cases decide (126 < c.toNat) <;> rfl
theorem replay_isLead (s : List UInt8) : ACalls Tryz.prog 22 [.one (.str s)] (.x (.one (.bool (leadB s)))) := by
  obtain ⟨B, eB⟩ : ∃ B, B = leadB s := ⟨_, rfl⟩
  rw [← eB]
  have hbad : ∀ i (h : i < s.length), leadC s[i] = false → B = false := fun i h hc => by rw [eB]; unfold leadB; rw [all_bad h hc]; rfl
  refine ACalls.of mixed (fn := Tryz.f22) (by kernel_rfl) (by kernel_rfl) rfl (by kernel_rfl) (by simp [Tryz.f22]) (fun hok => ?_)
  simp -implicitDefEqProofs
  refine ALoopS.of Nat (fun i => [(0, .x (.one (.str s))), (5, .x (.one (.int .i64 s.length))), (6, .x (.one (.int .i64 i)))]) (Upto leadC s) (fun i => s.length - i) 0 Upto.zero ?_ ?_
  · simp
  intro i hi
  have hle := hi.1
  by_cases hlt : i < s.length
  · have hlt' : ((i : Int) < (s.length : Int)) = True := eq_true (by omega)
    have hwr : IntKind.i64.wrap ((i : Int) + 1) = (i : Int) + 1 := wrapS _ (by have := hok; simp [XV.ok, CV.ok, maxLen] at this; omega)
    have hno := leadC_no s[i]
    by_cases c1 : s[i].toNat < 33
    · have c1' : ((s[i].toNat : Int) < 33) = True := eq_true (by omega)
      have hB := hbad i hlt (by rw [hno]; simp [c1])
      simp -implicitDefEqProofs [hlt, hlt', c1', c1]
      refine ACallGS.of (fun h => by cases h) (r := .x (.one (.int .i64 0))) rfl ?_
      simp -implicitDefEqProofs [hB]
    · have c1' : ((s[i].toNat : Int) < 33) = False := eq_false (by omega)
      by_cases c2 : 126 < s[i].toNat
      · have c2' : (126 < (s[i].toNat : Int)) = True := eq_true (by omega)
        have hB := hbad i hlt (by rw [hno]; simp [c2])
        simp -implicitDefEqProofs [hlt, hlt', c1', c1, c2', c2]
        refine ACallGS.of (fun h => by cases h) (r := .x (.one (.int .i64 0))) rfl ?_
        simp -implicitDefEqProofs [hB]
      · have c2' : (126 < (s[i].toNat : Int)) = False := eq_false (by omega)
        simp -implicitDefEqProofs [hlt, hlt', c1', c1, c2', c2]
        refine ACallGS.of (fun _ => strings_IndexByte [34, 35, 39, 40, 41, 44, 60, 62] s[i]) rfl ?_
        cases hc : leadCs.contains s[i]
        · have g : atByte [34, 35, 39, 40, 41, 44, 60, 62] s[i] = -1 := atByte_no hc
          simp -implicitDefEqProofs [g, hwr]
          refine Again.of (i + 1) (hi.step hlt (by rw [hno, hc]; simp [c1, c2])) (by omega) (by simp [hwr])
        · have g : (0 ≤ atByte [34, 35, 39, 40, 41, 44, 60, 62] s[i]) = True := eq_true (atByte_in hc)
          have hB := hbad i hlt (by rw [hno, hc]; simp)
          simp -implicitDefEqProofs [g, hB]
  · have hlt' : ((i : Int) < (s.length : Int)) = False := eq_false (by omega)
    have hall := hi.done hlt
    by_cases hp : 0 < s.length
    · rw [leadB_get hp, hall] at eB
      have hlast : s.length - 1 < s.length := by omega
      have g1 : (1 ≤ (s.length : Int)) = True := eq_true (by omega)
      by_cases h2 : s.length ≤ 200
      · have g2 : ((s.length : Int) ≤ 200) = True := eq_true (by omega)
        have hw : IntKind.i64.wrap ((s.length : Int) - 1) = ((s.length - 1 : Nat) : Int) := by rw [wrapS _ (by omega)]; omega
        have hz : ((s[s.length - 1].toNat : Int) = 47) = (s[s.length - 1] = 47) := propext (u8_int 47 (by omega))
        simp -implicitDefEqProofs [hlt', g1, g2, hw, hlast, hp, h2]
        rw [eB]
        by_cases hz : s[s.length - 1] = 47
        · have e1 : ((s[s.length - 1].toNat : Int) = 47) := (u8_int 47 (by omega)).2 hz
          simp [hz, inB]
        · have e1 : ¬ ((s[s.length - 1].toNat : Int) = 47) := fun h => hz ((u8_int 47 (by omega)).1 h)
          have e2 : ((s[s.length - 1].toNat : Int) != 47) = true := by rw [bne_iff_ne]; exact e1
          have hin : inB 1 200 s.length = true := by simp only [inB, Bool.and_eq_true, decide_eq_true_eq]; omega
          rw [hin, e2]
          simp [hz]
      · have g2 : ((s.length : Int) ≤ 200) = False := eq_false (by omega)
        have hB : B = false := by rw [eB]; simp [inB]; omega
        simp -implicitDefEqProofs [hlt', g1, g2, hp, hB]
    · have g1 : (1 ≤ (s.length : Int)) = False := eq_false (by omega)
      have hB : B = false := by rw [eB]; unfold leadB; simp [inB]; omega
      simp -implicitDefEqProofs [hlt', g1, hB]
theorem ref9_within (n lo hi : Int) : ACalls Tryz.prog 27 [.one (.int .i64 n), .one (.int .i64 lo), .one (.int .i64 hi)] (.x (.one (.bool (inB lo hi n)))) := by
  refine ACalls.of mixed (fn := Tryz.f27) (by kernel_rfl) (by kernel_rfl) rfl (by kernel_rfl) (by simp [Tryz.f27]) (fun hok => ?_)
  simp -implicitDefEqProofs [inB]
theorem ref9_isLead (s : List UInt8) : ACalls Tryz.prog 26 [.one (.str s)] (.x (.one (.bool (leadB s)))) := by
  obtain ⟨B, eB⟩ : ∃ B, B = leadB s := ⟨_, rfl⟩
  rw [← eB]
  have hbad : ∀ i (h : i < s.length), leadC s[i] = false → B = false := fun i h hc => by rw [eB]; unfold leadB; rw [all_bad h hc]; rfl
  refine ACalls.of mixed (fn := Tryz.f26) (by kernel_rfl) (by kernel_rfl) rfl (by kernel_rfl) (by simp [Tryz.f26]) (fun hok => ?_)
  simp -implicitDefEqProofs
  refine ALoopS.of Nat (fun i => [(0, .x (.one (.str s))), (3, .x (.one (.int .i64 i)))]) (Upto leadC s) (fun i => s.length - i) 0 Upto.zero ?_ ?_
  · simp
  intro i hi
  have hle := hi.1
  by_cases hlt : i < s.length
  · have hlt' : ((i : Int) < (s.length : Int)) = True := eq_true (by omega)
    have hwr : IntKind.i64.wrap ((i : Int) + 1) = (i : Int) + 1 := wrapS _ (by have := hok; simp [XV.ok, CV.ok, maxLen] at this; omega)
    have hno := leadC_no s[i]
    by_cases c1 : s[i].toNat < 33
    · have c1' : ((s[i].toNat : Int) < 33) = True := eq_true (by omega)
      have hB := hbad i hlt (by rw [hno]; simp [c1])
      simp -implicitDefEqProofs [hlt, hlt', c1', c1]
      refine ACallGS.of (fun h => by cases h) (r := .x (.one (.int .i64 0))) rfl ?_
      simp -implicitDefEqProofs [hB]
    · have c1' : ((s[i].toNat : Int) < 33) = False := eq_false (by omega)
      by_cases c2 : 126 < s[i].toNat
      · have c2' : (126 < (s[i].toNat : Int)) = True := eq_true (by omega)
        have hB := hbad i hlt (by rw [hno]; simp [c2])
        simp -implicitDefEqProofs [hlt, hlt', c1', c1, c2', c2]
        refine ACallGS.of (fun h => by cases h) (r := .x (.one (.int .i64 0))) rfl ?_
        simp -implicitDefEqProofs [hB]
      · have c2' : (126 < (s[i].toNat : Int)) = False := eq_false (by omega)
        simp -implicitDefEqProofs [hlt, hlt', c1', c1, c2', c2]
        refine ACallGS.of (fun _ => strings_IndexByte [34, 35, 39, 40, 41, 44, 60, 62] s[i]) rfl ?_
        cases hc : leadCs.contains s[i]
        · have g : atByte [34, 35, 39, 40, 41, 44, 60, 62] s[i] = -1 := atByte_no hc
          simp -implicitDefEqProofs [g, hwr]
          refine Again.of (i + 1) (hi.step hlt (by rw [hno, hc]; simp [c1, c2])) (by omega) (by simp [hwr])
        · have g : (0 ≤ atByte [34, 35, 39, 40, 41, 44, 60, 62] s[i]) = True := eq_true (atByte_in hc)
          have hB := hbad i hlt (by rw [hno, hc]; simp)
          simp -implicitDefEqProofs [g, hB]
  · have hlt' : ((i : Int) < (s.length : Int)) = False := eq_false (by omega)
    have hall := hi.done hlt
    simp -implicitDefEqProofs [hlt']
    refine ACallK.of (ref9_within s.length 1 200) ?_
    by_cases hp : 0 < s.length
    · rw [leadB_get hp, hall] at eB
      have hlast : s.length - 1 < s.length := by omega
      cases hin : inB 1 200 s.length
      · have hB : B = false := by rw [eB, hin]; rfl
        simp -implicitDefEqProofs
        exact hB
      · have hw : IntKind.i64.wrap ((s.length : Int) - 1) = ((s.length - 1 : Nat) : Int) := by
          have hin' := hin
          simp only [inB, Bool.and_eq_true, decide_eq_true_eq] at hin'
          rw [wrapS _ (by omega)]; omega
        simp -implicitDefEqProofs [hw, hlast, hp]
        rw [eB, hin]
        by_cases hz : s[s.length - 1] = 47
        · have e1 : ((s[s.length - 1].toNat : Int) != 47) = false := by rw [bne_eq_false_iff_eq]; exact (u8_int 47 (by omega)).2 hz
          rw [e1]
          simp [hz]
        · have e1 : ((s[s.length - 1].toNat : Int) != 47) = true := by rw [bne_iff_ne]; exact fun h => hz ((u8_int 47 (by omega)).1 h)
          rw [e1]
          simp [hz]
    · have hin : inB 1 200 s.length = false := by
        cases hin : inB 1 200 s.length with
        | false => rfl
        | true => simp only [inB, Bool.and_eq_true, decide_eq_true_eq] at hin; omega
      have hB : B = false := by rw [eB]; unfold leadB; rw [hin]; simp
      rw [hin]
      simp -implicitDefEqProofs
      exact hB
end Go.Proofs.YtklnopamfncfgaaGreatDoor
namespace Go.Proofs.YtklnopamfncfgaaGreatDoor
open Go
set_option maxRecDepth 100000
def renn105 : Go.Shelf.Ren := ⟨fun x => if x = 99 then 92 else if x = 105 then 114 else if x = 165 then 179 else if x = 166 then 180 else if x = 169 then 182 else if x = 170 then 181 else if x = 206 then 125 else if x = 212 then 178 else if x = 240 then 224 else if x = 241 then 225 else if x = 263 then 222 else if x = 264 then 223 else if x = 276 then 249 else if x = 277 then 250 else x, fun x => if x = 0 then 0 else if x = 3 then 3 else if x = 4 then 4 else if x = 5 then 5 else if x = 9 then 9 else if x = 20 then 20 else if x = 37 then 46 else if x = 46 then 181 else if x = 51 then 206 else if x = 53 then 209 else if x = 70 then 184 else if x = 72 then 186 else if x = 75 then 113 else if x = 76 then 114 else if x = 80 then 168 else if x = 109 then 182 else if x = 127 then 212 else if x = 146 then 207 else if x = 148 then 210 else if x = 164 then 226 else x, fun x => x⟩
theorem layn105 : Go.Proofs.Lays.n105 Tryz.prog renn105 where
  mixed := by kernel_rfl
  f99 := Tryz.func92.trans (congrArg some (by kernel_rfl))
  f105 := Tryz.func114.trans (congrArg some (by kernel_rfl))
  f165 := Tryz.func179.trans (congrArg some (by kernel_rfl))
  f166 := Tryz.func180.trans (congrArg some (by kernel_rfl))
  f169 := Tryz.func182.trans (congrArg some (by kernel_rfl))
  f170 := Tryz.func181.trans (congrArg some (by kernel_rfl))
  f206 := Tryz.func125.trans (congrArg some (by kernel_rfl))
  f212 := Tryz.func178.trans (congrArg some (by kernel_rfl))
  f240 := Tryz.func224.trans (congrArg some (by kernel_rfl))
  f241 := Tryz.func225.trans (congrArg some (by kernel_rfl))
  f263 := Tryz.func222.trans (congrArg some (by kernel_rfl))
  f264 := Tryz.func223.trans (congrArg some (by kernel_rfl))
  f276 := Tryz.func249.trans (congrArg some (by kernel_rfl))
  f277 := Tryz.func250.trans (congrArg some (by kernel_rfl))
  t0 := Tryz.underlying0
  a0 := Tryz.isAgg0
  z0 := Tryz.sizeOf0
  v0 := Tryz.zeroValue0
  t3 := Tryz.underlying3
  a3 := Tryz.isAgg3
  z3 := Tryz.sizeOf3
  v3 := Tryz.zeroValue3
  t4 := Tryz.underlying4
  a4 := Tryz.isAgg4
  z4 := Tryz.sizeOf4
  v4 := Tryz.zeroValue4
  t5 := Tryz.underlying5
  a5 := Tryz.isAgg5
  z5 := Tryz.sizeOf5
  v5 := Tryz.zeroValue5
  t9 := Tryz.underlying9
  a9 := Tryz.isAgg9
  z9 := Tryz.sizeOf9
  v9 := Tryz.zeroValue9
  t20 := Tryz.underlying20
  a20 := Tryz.isAgg20
  z20 := Tryz.sizeOf20
  v20 := Tryz.zeroValue20
  t37 := Tryz.underlying46
  a37 := Tryz.isAgg46
  z37 := Tryz.sizeOf46
  v37 := Tryz.zeroValue46
  t46 := Tryz.underlying181
  a46 := Tryz.isAgg181
  z46 := Tryz.sizeOf181
  v46 := Tryz.zeroValue181
  t51 := Tryz.underlying206
  a51 := Tryz.isAgg206
  z51 := Tryz.sizeOf206
  v51 := Tryz.zeroValue206
  t53 := Tryz.underlying209
  a53 := Tryz.isAgg209
  z53 := Tryz.sizeOf209
  v53 := Tryz.zeroValue209
  t70 := Tryz.underlying184
  a70 := Tryz.isAgg184
  z70 := Tryz.sizeOf184
  v70 := Tryz.zeroValue184
  t72 := Tryz.underlying186
  a72 := Tryz.isAgg186
  z72 := Tryz.sizeOf186
  v72 := Tryz.zeroValue186
  t75 := Tryz.underlying113
  a75 := Tryz.isAgg113
  z75 := Tryz.sizeOf113
  v75 := Tryz.zeroValue113
  t76 := Tryz.underlying114
  a76 := Tryz.isAgg114
  z76 := Tryz.sizeOf114
  v76 := Tryz.zeroValue114
  t109 := Tryz.underlying182
  a109 := Tryz.isAgg182
  z109 := Tryz.sizeOf182
  v109 := Tryz.zeroValue182
  t127 := Tryz.underlying212
  a127 := Tryz.isAgg212
  z127 := Tryz.sizeOf212
  v127 := Tryz.zeroValue212
  t146 := Tryz.underlying207
  a146 := Tryz.isAgg207
  z146 := Tryz.sizeOf207
  v146 := Tryz.zeroValue207
  t148 := Tryz.underlying210
  a148 := Tryz.isAgg210
  z148 := Tryz.sizeOf210
  v148 := Tryz.zeroValue210
  t164 := Tryz.underlying226
  a164 := Tryz.isAgg226
  z164 := Tryz.sizeOf226
  v164 := Tryz.zeroValue226
theorem layBuilderExtra105 : Go.Proofs.Builder.Extra Tryz.prog renn105 where
  t5 := Tryz.underlying5
  a5 := Tryz.isAgg5
  z5 := Tryz.sizeOf5
  v5 := Tryz.zeroValue5
  infoByte := by kernel_rfl
  cellsByte := by kernel_rfl
  sizeByte := by kernel_rfl
  neB5 := by decide
  sizeBuilder := by kernel_rfl
  liesBuilder := by kernel_rfl
end Go.Proofs.YtklnopamfncfgaaGreatDoor
namespace Go.Proofs.YtklnopamfncfgaaGreatDoor
open Go Go.Ab
set_option linter.unusedSectionVars false
variable [Amb] [HasPow10 Tryz.prog]
set_option maxRecDepth 100000
set_option maxHeartbeats 4000000

theorem repeat_eq (b : UInt8) : ∀ n : Nat, Lib.repeatL [b] n = List.replicate n b
  | 0 => rfl
  | n + 1 => by
    rw [Lib.repeatL, repeat_eq b n]; rfl
theorem strings_Repeat (b : UInt8) (n : Nat) (h : n ≤ 1000000) : ACalls Tryz.prog 114 [.one (.str [b]), .one (.int .i64 n)] (.x (.one (.str (List.replicate n b)))) := by
  refine ACalls.ofKit [.string ⟨#[b]⟩, .int .i64 n] _ (callable_of Tryz.f114 (by kernel_rfl) (by kernel_rfl) rfl) rfl (fun _ _ => repR_str _ (by simp; unfold maxLen; omega)) (fun _ w => ?_)
  refine (Any.strings_Repeat layn105 layBuilderExtra105 ⟨#[b]⟩ n w (by omega) (by show 1 * n ≤ _; omega)).mono ?_
  rintro e w' ⟨rfl, hb⟩
  refine ⟨?_, hb⟩
  rw [show (⟨#[b]⟩ : ByteArray).data.toList = [b] from rfl, repeat_eq]
theorem message_Padded (n k : Nat) (hn : n < 10 ^ k) (hk : 1 ≤ k) (hk2 : k ≤ 18) : ACalls Tryz.prog 65 [.one (.int .i64 n), .one (.int .i64 k)] (.x (.one (.str (padD k n)))) := by
  refine ACalls.of mixed (fn := Tryz.f65) (by kernel_rfl) (by kernel_rfl) rfl (by kernel_rfl) (by simp [Tryz.f65]) (fun hok => ?_)
  obtain ⟨h1, h2⟩ := padD_itoa k n hn hk
  have hp : 10 ^ k ≤ 10 ^ 18 := Nat.pow_le_pow_right (by omega) hk2
  have h64 : I64 (n : Int) := by unfold I64; omega
  rw [← h2]
  simp -implicitDefEqProofs
  refine ACallK.of (strconv_Itoa _ h64) ?_
  obtain ⟨s, es⟩ : ∃ s, s = itoaL (n : Int) := ⟨_, rfl⟩
  rw [show Lib.itoa (n : Int) = s from es.symm] at h1 ⊢
  rw [← es]
  have w1 : IntKind.i64.wrap ((k : Int) - s.length) = ((k - s.length : Nat) : Int) := by rw [wrapS _ (by omega)]; omega
  have w2 : max 0 ((k - s.length : Nat) : Int) = ((k - s.length : Nat) : Int) := by omega
  simp -implicitDefEqProofs [w1, w2]
  refine ACallK.of (strings_Repeat 48 _ (by omega)) ?_
  have m1 : k - s.length + s.length ≤ maxLen := by unfold maxLen; omega
  simp -implicitDefEqProofs [m1]
theorem mLen_leap (y : Int) : (y % 4 = 0 ∧ (y % 100 ≠ 0 ∨ y % 400 = 0)) ↔ leapI y = true := by
  unfold leapI; simp
theorem tmod_pos {a : Int} (b : Int) (h : 0 ≤ a) : a.tmod b = a % b := Int.tmod_eq_emod_of_nonneg h
theorem tdiv_pos {a : Int} (b : Int) (h : 0 ≤ a) : a.tdiv b = a / b := Int.tdiv_eq_ediv_of_nonneg h
theorem message_monthLong (y m : Int) (hy : 0 ≤ y ∧ y ≤ 100000) : ACalls Tryz.prog 73 [.one (.int .i64 y), .one (.int .i64 m)] (.x (.one (.int .i64 (mLen y m)))) := by
  refine ACalls.of mixed (fn := Tryz.f73) (by kernel_rfl) (by kernel_rfl) rfl (by kernel_rfl) (by simp [Tryz.f73]) (fun hok => ?_)
  have t1 : y.tmod 4 = y % 4 := tmod_pos _ hy.1
  have t2 : y.tmod 100 = y % 100 := tmod_pos _ hy.1
  have t3 : y.tmod 400 = y % 400 := tmod_pos _ hy.1
  have w1 : IntKind.i64.wrap (y % 4) = y % 4 := wrapS _ (by omega)
  have w2 : IntKind.i64.wrap (y % 100) = y % 100 := wrapS _ (by omega)
  have w3 : IntKind.i64.wrap (y % 400) = y % 400 := wrapS _ (by omega)
  have e : mLen y m = if m = 4 ∨ m = 6 ∨ m = 9 ∨ m = 11 then 30 else if m = 2 then (if leapI y = true then 29 else 28) else 31 := rfl
  generalize mLen y m = r at e ⊢
  by_cases h4 : m = 4
  · subst h4; rw [if_pos (.inl rfl)] at e; subst e; simp -implicitDefEqProofs
  by_cases h6 : m = 6
  · subst h6; rw [if_pos (.inr (.inl rfl))] at e; subst e; simp -implicitDefEqProofs
  by_cases h9 : m = 9
  · subst h9; rw [if_pos (.inr (.inr (.inl rfl)))] at e; subst e; simp -implicitDefEqProofs
  by_cases h11 : m = 11
  · subst h11; rw [if_pos (.inr (.inr (.inr rfl)))] at e; subst e; simp -implicitDefEqProofs
  rw [if_neg (by simp [h4, h6, h9, h11])] at e
  by_cases h2 : m = 2
  · subst h2
    rw [if_pos rfl] at e
    have hl := mLen_leap y
    cases hb : leapI y with
    | true =>
      obtain ⟨l1, l2⟩ := hl.2 hb
      rw [if_pos hb] at e
      subst e
      by_cases l3 : y % 100 = 0
      · have l4 := l2.resolve_left (fun h => h l3)
        simp -implicitDefEqProofs [t1, t2, t3, w1, w2, w3, l1, l3, l4]
      · simp -implicitDefEqProofs [t1, t2, t3, w1, w2, w3, l1, l3]
    | false =>
      rw [if_neg (by simp [hb])] at e
      subst e
      by_cases l1 : y % 4 = 0
      · have l3 : y % 100 = 0 := Classical.byContradiction fun h => by rw [hl.1 ⟨l1, .inl h⟩] at hb; cases hb
        have l4 : ¬ y % 400 = 0 := fun h => by rw [hl.1 ⟨l1, .inr h⟩] at hb; cases hb
        simp -implicitDefEqProofs [t1, t2, t3, w1, w2, w3, l1, l3, l4]
      · simp -implicitDefEqProofs [t1, t2, t3, w1, w2, w3, l1]
  · rw [if_neg h2] at e
    subst e
    simp -implicitDefEqProofs [h4, h6, h9, h11, h2]
theorem message_days (y m : Int) (hy : 1 ≤ y ∧ y ≤ 100000) (hm : 1 ≤ m ∧ m ≤ 100) : ACalls Tryz.prog 74 [.one (.int .i64 y), .one (.int .i64 m)] (.x (.one (.int .i64 (dY y + dM y m)))) := by
  refine ACalls.of mixed (fn := Tryz.f74) (by kernel_rfl) (by kernel_rfl) rfl (by kernel_rfl) (by simp [Tryz.f74]) (fun hok => ?_)
  have t1 : (y - 1).tdiv 4 = (y - 1) / 4 := tdiv_pos _ (by omega)
  have t2 : (y - 1).tdiv 100 = (y - 1) / 100 := tdiv_pos _ (by omega)
  have t3 : (y - 1).tdiv 400 = (y - 1) / 400 := tdiv_pos _ (by omega)
  have w0 : IntKind.i64.wrap (y - 1) = y - 1 := wrapS _ (by omega)
  have w1 : IntKind.i64.wrap (365 * (y - 1)) = 365 * (y - 1) := wrapS _ (by omega)
  have w2 : IntKind.i64.wrap ((y - 1) / 4) = (y - 1) / 4 := wrapS _ (by omega)
  have w3 : IntKind.i64.wrap ((y - 1) / 100) = (y - 1) / 100 := wrapS _ (by omega)
  have w4 : IntKind.i64.wrap ((y - 1) / 400) = (y - 1) / 400 := wrapS _ (by omega)
  have w5 : IntKind.i64.wrap (365 * (y - 1) + (y - 1) / 4) = 365 * (y - 1) + (y - 1) / 4 := wrapS _ (by omega)
  have w6 : IntKind.i64.wrap (365 * (y - 1) + (y - 1) / 4 - (y - 1) / 100) = 365 * (y - 1) + (y - 1) / 4 - (y - 1) / 100 := wrapS _ (by omega)
  have w7 : IntKind.i64.wrap (365 * (y - 1) + (y - 1) / 4 - (y - 1) / 100 + (y - 1) / 400) = 365 * (y - 1) + (y - 1) / 4 - (y - 1) / 100 + (y - 1) / 400 := wrapS _ (by omega)
  have w8 : IntKind.i64.wrap (365 * (y - 1) + (y - 1) / 4 - (y - 1) / 100 + (y - 1) / 400 - 719162) = dY y := wrapS _ (by omega)
  have hdb : -800000 ≤ dY y ∧ dY y ≤ 40000000 := by unfold dY; omega
  simp -implicitDefEqProofs [t1, t2, t3, w0, w1, w2, w3, w4, w5, w6, w7, w8]
  refine ALoopS.of Nat (fun k => [(0, .x (.one (.int .i64 y))), (1, .x (.one (.int .i64 m))), (6, .x (.one (.int .i64 (dY y + dM y (k + 1))))), (7, .x (.one (.int .i64 ((k : Int) + 1))))]) (fun k => (k : Int) + 1 ≤ m) (fun k => m.toNat - k) 0 (by omega) ?_ ?_
  · simp [dM, dMN]
  intro k hk
  by_cases hlt : (k : Int) + 1 < m
  · have hst := dM_step y (k + 1) (by omega)
    have hb := mLen_pos y (k + 1)
    have hmono := dM_mono y (a := 1) (b := (k : Int) + 1) (by omega) (by omega)
    have hup : dM y ((k : Int) + 1) ≤ 31 * k := by
      clear hlt hst hb hmono hk
      induction k with
      | zero => simp [dM, dMN]
      | succ k ih =>
        have := dM_step y (k + 1) (by omega)
        have := mLen_pos y (k + 1)
        rw [show ((k + 1 : Nat) : Int) + 1 = (k : Int) + 1 + 1 by omega]
        omega
    rw [dM_one] at hmono
    have w9 : IntKind.i64.wrap (dY y + dM y ((k : Int) + 1) + mLen y ((k : Int) + 1)) = dY y + dM y ((k : Int) + 1 + 1) := by rw [wrapS _ (by omega)]; omega
    have w10 : IntKind.i64.wrap ((k : Int) + 1 + 1) = (k : Int) + 1 + 1 := wrapS _ (by omega)
    simp -implicitDefEqProofs [hlt]
    refine ACallK.of (message_monthLong y (k + 1) (by omega)) ?_
    simp -implicitDefEqProofs [w9, w10]
    refine Again.of (k + 1) (by omega) (by omega) ?_
    simp
  · have e : (k : Int) + 1 = m := by omega
    simp -implicitDefEqProofs [hlt, e]
end Go.Proofs.YtklnopamfncfgaaGreatDoor
