/- A part of the proof: lemmas and contracts of functions. -/
import Derived.Test.YtejhjdpafdpjlaaGreatDoorIxDV
namespace Go.Proofs.YtejhjdpafdpjlaaGreatDoor
open Go Go.Ab
set_option linter.unusedSectionVars false
variable [Amb] [HasPow10 Tryz.prog]
set_option maxRecDepth 100000
set_option maxHeartbeats 4000000

theorem weekL_len (w : Nat) (h : w < 7) : (weekL w).length = 3 := by
  have : ∀ w : Fin 7, (weekL w.val).length = 3 := by decide
  exact this ⟨w, h⟩
theorem monthL_len (m : Nat) (h : 1 ≤ m ∧ m ≤ 12) : (monthL m).length = 3 := by
  have : ∀ w : Fin 12, (monthL (w.val + 1)).length = 3 := by decide
  have := this ⟨m - 1, by omega⟩
  simp only [show m - 1 + 1 = m by omega] at this
  exact this
theorem ref2_DateOf (t : Int) (h : momentB t = true) : ACalls Tryz.prog 50 [.one (.int .i64 t)] (.x (.one (.str (dateL t)))) := by
  refine ACalls.of mixed (fn := Tryz.f50) (by kernel_rfl) (by kernel_rfl) rfl (by kernel_rfl) (by simp [Tryz.f50]) (fun hok => ?_)
  have hb := moment_bounds h
  have hok := date_ok h
  have hc := civ_ok (t / 86400) (by omega)
  unfold dateL
  obtain ⟨day, ed⟩ : ∃ day, day = t / 86400 := ⟨_, rfl⟩
  obtain ⟨rest, er⟩ : ∃ rest, rest = t % 86400 := ⟨_, rfl⟩
  obtain ⟨Y, eY⟩ : ∃ Y, Y = yearOf (t / 86400) := ⟨_, rfl⟩
  obtain ⟨M, eM⟩ : ∃ M, M = monthOf (t / 86400) := ⟨_, rfl⟩
  obtain ⟨D, eD⟩ : ∃ D, D = dayOf (t / 86400) := ⟨_, rfl⟩
  obtain ⟨⟨y1, y2⟩, ⟨m1, m2⟩, ⟨d1, d2⟩⟩ := hok
  rw [← ed] at hc eY eM eD y1 y2 m1 m2 d1 d2
  rw [← eY] at hc y1 y2
  rw [← eM] at hc m1 m2
  rw [← eD] at hc d1 d2
  rw [← ed, ← eY, ← eM, ← eD, ← er]
  clear eY eM eD
  have t1 : t.tdiv 86400 = day := by rw [tdiv_pos _ hb.1, ed]
  have t2 : t.tmod 86400 = rest := by rw [tmod_pos _ hb.1, er]
  have r0 : 0 ≤ rest ∧ rest < 86400 := by omega
  have d0 : 0 ≤ day ∧ day ≤ 2932896 := by omega
  clear ed er
  have t3 : (day + 4).tmod 7 = (day + 4) % 7 := tmod_pos _ (by omega)
  have w1 : IntKind.i64.wrap day = day := wrapS _ (by omega)
  have w2 : IntKind.i64.wrap rest = rest := wrapS _ (by omega)
  have w3 : IntKind.i64.wrap (day + 4) = day + 4 := wrapS _ (by omega)
  have w4 : IntKind.i64.wrap ((day + 4) % 7) = (day + 4) % 7 := wrapS _ (by omega)
  obtain ⟨W, eW⟩ : ∃ W : Nat, (day + 4) % 7 = W := ⟨((day + 4) % 7).toNat, by omega⟩
  have hW : W < 7 := by omega
  rw [eW]
  simp -implicitDefEqProofs [t1, t2, t3, w1, w2, w3, w4, eW]
  have hd70 : dY 1970 = 0 := by decide
  refine ALoopS.of Int (fun y => [(3, .x (.one (.int .i64 (day - dY y)))), (4, .x (.one (.int .i64 rest))), (5, .x (.one (.int .i64 (W : Nat)))), (6, .x (.one (.int .i64 y))), (7, .x (.one (.int .i64 1)))]) (fun y => 1970 ≤ y ∧ y ≤ Y) (fun y => (Y - y).toNat) 1970 ⟨by omega, y1⟩ ?_ ?_
  · simp [hd70]
  rintro y ⟨g1, g2⟩
  have v1 : IntKind.i64.wrap (y + 1) = y + 1 := wrapS _ (by omega)
  have hst := dY_step y
  have hyl := yLen_pos y
  have hlo : 0 ≤ dY y := by have := dY_mono (a := 1970) (b := y) g1; omega
  simp -implicitDefEqProofs
  refine ACallK.of (ref2_yearDays y (by omega)) ?_
  by_cases hlt : y < Y
  · have := dY_mono (a := y + 1) (b := Y) (by omega)
    have := hc.lo
    have hle : yLen y ≤ day - dY y := by omega
    have v2 : IntKind.i64.wrap (day - dY y - yLen y) = day - dY (y + 1) := by rw [wrapS _ (by omega)]; omega
    simp -implicitDefEqProofs [hle]
    refine ACallK.of (ref2_yearDays y (by omega)) ?_
    simp -implicitDefEqProofs [v1, v2]
    refine Again.of (y + 1) ⟨by omega, by omega⟩ (by omega) ?_
    simp
  have hyY : y = Y := by omega
  subst hyY
  have hle : ¬ yLen y ≤ day - dY y := by have := hc.hi; omega
  simp -implicitDefEqProofs [hle]
  clear hlt hle g1 g2
  have hM1 : dM y 1 = 0 := dM_one y
  refine ALoopS.of Int (fun m => [(3, .x (.one (.int .i64 (day - dY y - dM y m)))), (4, .x (.one (.int .i64 rest))), (5, .x (.one (.int .i64 (W : Nat)))), (6, .x (.one (.int .i64 y))), (7, .x (.one (.int .i64 m)))]) (fun m => 1 ≤ m ∧ m ≤ M) (fun m => (M - m).toNat) 1 ⟨by omega, m1⟩ ?_ ?_
  · simp [hM1]
  rintro m ⟨g1, g2⟩
  have v2 : IntKind.i64.wrap (m + 1) = m + 1 := wrapS _ (by omega)
  have hms := dM_step y m g1
  have hml := mLen_pos y m
  have hmlo : 0 ≤ dM y m := by have := dM_mono y (a := 1) (b := m) (by omega) g1; omega
  simp -implicitDefEqProofs
  refine ACallK.of (ref2_monthDays y m (by omega) (by omega)) ?_
  by_cases hlt : m < M
  · have := dM_mono y (a := m + 1) (b := M) (by omega) (by omega)
    have := hc.ml
    have hle : mLen y m ≤ day - dY y - dM y m := by omega
    have v3 : IntKind.i64.wrap (day - dY y - dM y m - mLen y m) = day - dY y - dM y (m + 1) := by rw [wrapS _ (by omega)]; omega
    simp -implicitDefEqProofs [hle]
    refine ACallK.of (ref2_monthDays y m (by omega) (by omega)) ?_
    simp -implicitDefEqProofs [v2, v3]
    refine Again.of (m + 1) ⟨by omega, by omega⟩ (by omega) ?_
    simp
  have hmM : m = M := by omega
  subst hmM
  have hle : ¬ mLen y m ≤ day - dY y - dM y m := by have := hc.mh; omega
  obtain ⟨Yn, eYn⟩ : ∃ Yn : Nat, y = Yn := ⟨y.toNat, by omega⟩
  obtain ⟨Mn, eMn⟩ : ∃ Mn : Nat, m = Mn := ⟨m.toNat, by omega⟩
  obtain ⟨Dn, eDn⟩ : ∃ Dn : Nat, D = Dn := ⟨D.toNat, by omega⟩
  have hdd : IntKind.i64.wrap (day - dY y - dM y m + 1) = (Dn : Int) := by
    have := hc.dd
    rw [wrapS _ (by omega)]; omega
  obtain ⟨H, eH⟩ : ∃ H : Nat, rest / 3600 = H := ⟨(rest / 3600).toNat, by omega⟩
  obtain ⟨I, eI⟩ : ∃ I : Nat, rest / 60 % 60 = I := ⟨(rest / 60 % 60).toNat, by omega⟩
  obtain ⟨S, eS⟩ : ∃ S : Nat, rest % 60 = S := ⟨(rest % 60).toNat, by omega⟩
  obtain ⟨Q, eQ⟩ : ∃ Q : Nat, rest / 60 = Q := ⟨(rest / 60).toNat, by omega⟩
  have t4 : rest.tdiv 3600 = (H : Int) := by rw [tdiv_pos _ r0.1, eH]
  have t5 : rest.tdiv 60 = (Q : Int) := by rw [tdiv_pos _ r0.1, eQ]
  have t6 : (Q : Int).tmod 60 = (I : Int) := by rw [tmod_pos _ (by omega), ← eQ, eI]
  have t7 : rest.tmod 60 = (S : Int) := by rw [tmod_pos _ r0.1, eS]
  have w5 : IntKind.i64.wrap (H : Int) = H := wrapS _ (by omega)
  have w6 : IntKind.i64.wrap (Q : Int) = Q := wrapS _ (by omega)
  have w7 : IntKind.i64.wrap (I : Int) = I := wrapS _ (by omega)
  have w8 : IntKind.i64.wrap (S : Int) = S := wrapS _ (by omega)
  obtain ⟨Cn, eC⟩ : ∃ Cn : Nat, Yn / 100 = Cn := ⟨_, rfl⟩
  have t8 : (Yn : Int).tdiv 100 = (Cn : Int) := by rw [tdiv_pos _ (by omega)]; omega
  have w9 : IntKind.i64.wrap (Cn : Int) = Cn := wrapS _ (by omega)
  have hp4 : padD 4 Yn = padD 2 Cn ++ padD 2 Yn := by rw [padD_four, eC]
  have wk : (weeksL.drop (3 * W)).take 3 = weekL W := rfl
  have lw := weekL_len W hW
  have lm := monthL_len Mn (by omega)
  have hY9 : Yn ≤ 9999 := by omega
  have hM12 : 1 ≤ Mn ∧ Mn ≤ 12 := by omega
  have hD31 : Dn ≤ 31 := by omega
  have hH : H ≤ 24 := by omega
  have hI : I ≤ 60 := by omega
  have hS : S ≤ 60 := by omega
  have hC : Cn ≤ 100 := by omega
  have b1 : IntKind.i64.wrap (3 * (W : Int)) = 3 * W := wrapS _ (by omega)
  have b2 : IntKind.i64.wrap (3 * (W : Int) + 3) = 3 * W + 3 := wrapS _ (by omega)
  have b3 : cutAt weeksL (3 * (W : Int)) (3 * (W : Int) + 3) = weekL W := by
    unfold cutAt weekL
    rw [show (3 * (W : Int)).toNat = 3 * W by omega, show (3 * (W : Int) + 3).toNat = 3 * W + 3 by omega, List.drop_take, Nat.add_sub_cancel_left]
  have b4 : (3 * (W : Int) + 3 ≤ 21) = True := eq_true (by omega)
  have b5 : (0 ≤ 3 * (W : Int)) = True := eq_true (by omega)
  have b6 : (3 * (W : Int) ≤ 3 * (W : Int) + 3) = True := eq_true (by omega)
  subst eYn
  subst eMn
  subst eDn
  rw [eH, eI, eS]
  simp only [Int.toNat_natCast]
  rw [hp4]
  clear hc hb y1 y2 m1 m2 d1 d2 t1 t2 t3 hst hyl hlo hms hml hmlo g1 g2 hlt v1 v2 eH eI eS eQ eC hp4 wk eW
  unfold weeksL at b3
  simp -implicitDefEqProofs [hle, b1, b2, b3, b4, b5, b6, lw]
  rw [hdd]
  refine ACallK.of (ref2_two Dn (by omega)) ?_
  simp -implicitDefEqProofs [lw]
  refine ACallK.of (ref2_monthName Mn hM12) ?_
  simp -implicitDefEqProofs [lw, lm, t8, w9]
  refine ACallK.of (ref2_two Cn (by omega)) ?_
  simp -implicitDefEqProofs [lw, lm]
  refine ACallK.of (ref2_two Yn (by omega)) ?_
  simp -implicitDefEqProofs [lw, lm, t4, w5]
  refine ACallK.of (ref2_two H (by omega)) ?_
  simp -implicitDefEqProofs [lw, lm, t5, w6, t6, w7]
  refine ACallK.of (ref2_two I (by omega)) ?_
  simp -implicitDefEqProofs [lw, lm, t7, w8]
  refine ACallK.of (ref2_two S (by omega)) ?_
  simp -implicitDefEqProofs [lw, lm]
end Go.Proofs.YtejhjdpafdpjlaaGreatDoor
