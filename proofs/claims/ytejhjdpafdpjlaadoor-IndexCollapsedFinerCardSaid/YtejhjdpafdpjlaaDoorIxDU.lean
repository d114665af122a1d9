/- A part of the proof: lemmas and contracts of functions. -/
import Derived.Test.YtejhjdpafdpjlaaDoorIxDT
namespace Go.Proofs.YtejhjdpafdpjlaaDoor
open Go Go.Ab
set_option linter.unusedSectionVars false
variable [Amb] [HasPow10 Tryd.prog]
set_option maxRecDepth 100000
set_option maxHeartbeats 4000000

def dateRow (t : Int) : List CV := [.int .i64 (yearOf (t / 86400)), .int .i64 (monthOf (t / 86400)), .int .i64 (dayOf (t / 86400)), .int .i64 (t % 86400 / 3600), .int .i64 (t % 86400 / 60 % 60), .int .i64 (t % 86400 % 60)]
structure DateOk (t : Int) : Prop where
  y : 1970 ≤ yearOf (t / 86400) ∧ yearOf (t / 86400) ≤ 9999
  m : 1 ≤ monthOf (t / 86400) ∧ monthOf (t / 86400) ≤ 12
  d : 1 ≤ dayOf (t / 86400) ∧ dayOf (t / 86400) ≤ 31
theorem moment_bounds {t : Int} (h : momentB t = true) : 0 ≤ t ∧ t ≤ 253402300799 := by simpa [momentB, inB] using h
theorem date_ok {t : Int} (h : momentB t = true) : DateOk t := by
  have hb := moment_bounds h
  have hc := civ_ok (t / 86400) (by omega)
  have := hc.d
  have := mLen_pos (yearOf (t / 86400)) (monthOf (t / 86400))
  exact ⟨⟨hc.y0, hc.top (by omega)⟩, ⟨hc.m0, hc.m1⟩, by omega⟩
theorem dY_start (n : Nat) : dY (1970 + n) ≤ 366 * n := by
  induction n with
  | zero => decide
  | succ n ih =>
    have := dY_step (1970 + n)
    have := yLen_pos (1970 + n)
    rw [show (1970 : Int) + ((n + 1 : Nat) : Int) = 1970 + n + 1 by omega]
    omega
theorem year_start {d : Int} (h : 0 ≤ d) : 1970 + d / 366 ≤ yearOf d := by
  have hc := civ_ok d h
  have h1 := dY_start (d / 366).toNat
  rw [show (((d / 366).toNat : Nat) : Int) = d / 366 by omega] at h1
  refine Classical.byContradiction fun hn => ?_
  have := dY_mono (a := yearOf d + 1) (b := 1970 + d / 366) (by omega)
  have := hc.hi
  omega

theorem message_DateOf (t : Int) (h : momentB t = true) : ACalls Tryd.prog 46 [.one (.int .i64 t)] (.x (.agg (dateRow t))) := by
  refine ACalls.of mixed (fn := Tryd.f46) (by kernel_rfl) (by kernel_rfl) rfl (by kernel_rfl) (by simp [Tryd.f46]) (fun hok => ?_)
  have hb := moment_bounds h
  have hok := date_ok h
  have hc := civ_ok (t / 86400) (by omega)
  have hys := year_start (d := t / 86400) (by omega)
  unfold dateRow
  obtain ⟨day, ed⟩ : ∃ day, day = t / 86400 := ⟨_, rfl⟩
  obtain ⟨rest, er⟩ : ∃ rest, rest = t % 86400 := ⟨_, rfl⟩
  obtain ⟨Y, eY⟩ : ∃ Y, Y = yearOf (t / 86400) := ⟨_, rfl⟩
  obtain ⟨M, eM⟩ : ∃ M, M = monthOf (t / 86400) := ⟨_, rfl⟩
  obtain ⟨D, eD⟩ : ∃ D, D = dayOf (t / 86400) := ⟨_, rfl⟩
  obtain ⟨⟨y1, y2⟩, ⟨m1, m2⟩, ⟨d1, d2⟩⟩ := hok
  rw [← ed] at hys hc eY eM eD y1 y2 m1 m2 d1 d2
  rw [← eY] at hys hc y1 y2
  rw [← eM] at hc m1 m2
  rw [← eD] at hc d1 d2
  rw [← ed, ← eY, ← eM, ← eD, ← er]
  clear eY eM eD
  have t1 : t.tdiv 86400 = day := by rw [tdiv_pos _ hb.1, ed]
  have t2 : t.tmod 86400 = rest := by rw [tmod_pos _ hb.1, er]
  have r0 : 0 ≤ rest ∧ rest < 86400 := by omega
  have d0 : 0 ≤ day ∧ day ≤ 2932896 := by omega
  have t3 : day.tdiv 366 = day / 366 := tdiv_pos _ d0.1
  have t4 : rest.tdiv 3600 = rest / 3600 := tdiv_pos _ r0.1
  have t5 : rest.tdiv 60 = rest / 60 := tdiv_pos _ r0.1
  have t6 : (rest / 60).tmod 60 = rest / 60 % 60 := tmod_pos _ (by omega)
  have t7 : rest.tmod 60 = rest % 60 := tmod_pos _ r0.1
  have w1 : IntKind.i64.wrap day = day := wrapS _ (by omega)
  have w2 : IntKind.i64.wrap rest = rest := wrapS _ (by omega)
  have w3 : IntKind.i64.wrap (day / 366) = day / 366 := wrapS _ (by omega)
  have w4 : IntKind.i64.wrap (1970 + day / 366) = 1970 + day / 366 := wrapS _ (by omega)
  have w5 : IntKind.i64.wrap (rest / 3600) = rest / 3600 := wrapS _ (by omega)
  have w6 : IntKind.i64.wrap (rest / 60) = rest / 60 := wrapS _ (by omega)
  have w7 : IntKind.i64.wrap (rest / 60 % 60) = rest / 60 % 60 := wrapS _ (by omega)
  have w8 : IntKind.i64.wrap (rest % 60) = rest % 60 := wrapS _ (by omega)
  simp -implicitDefEqProofs [t1, t2, t3, t4, t5, t6, t7, w1, w2, w3, w4, w5, w6, w7, w8]
  refine ALoopS.of Int (fun y => [(2, .box [.int .i64 0, .int .i64 0, .int .i64 0, .int .i64 0, .int .i64 0, .int .i64 0]), (3, .x (.one (.int .i64 day))), (5, .box [.int .i64 y, .int .i64 1, .int .i64 0, .int .i64 (rest / 3600), .int .i64 (rest / 60 % 60), .int .i64 (rest % 60)])]) (fun y => 1970 ≤ y ∧ y ≤ Y) (fun y => (Y - y).toNat) (1970 + day / 366) ⟨by omega, hys⟩ ?_ ?_
  · simp
  rintro y ⟨g1, g2⟩
  have v1 : IntKind.i64.wrap (y + 1) = y + 1 := wrapS _ (by omega)
  have hd1 : dY (y + 1) + dM (y + 1) 1 = dY (y + 1) := by rw [dM_one, Int.add_zero]
  simp -implicitDefEqProofs [v1]
  refine ACallK.of (message_days (y + 1) 1 (by omega) (by omega)) ?_
  rw [hd1]
  by_cases hlt : y < Y
  · have := dY_mono (a := y + 1) (b := Y) (by omega)
    have := hc.lo
    have hle : dY (y + 1) ≤ day := by omega
    simp -implicitDefEqProofs [hle, v1]
    refine Again.of (y + 1) ⟨by omega, by omega⟩ (by omega) ?_
    simp
  have hyY : y = Y := by omega
  subst hyY
  have hle : ¬ dY (y + 1) ≤ day := by have := hc.hi; omega
  simp -implicitDefEqProofs [hle]
  clear hlt hle hd1 g1 g2 hys
  refine ALoopS.of Int (fun m => [(2, .box [.int .i64 0, .int .i64 0, .int .i64 0, .int .i64 0, .int .i64 0, .int .i64 0]), (3, .x (.one (.int .i64 day))), (5, .box [.int .i64 y, .int .i64 m, .int .i64 0, .int .i64 (rest / 3600), .int .i64 (rest / 60 % 60), .int .i64 (rest % 60)])]) (fun m => 1 ≤ m ∧ m ≤ M) (fun m => (M - m).toNat) 1 ⟨by omega, m1⟩ ?_ ?_
  · simp
  rintro m ⟨g1, g2⟩
  have v2 : IntKind.i64.wrap (m + 1) = m + 1 := wrapS _ (by omega)
  by_cases hlt : m < M
  · have h12 : m < 12 := by omega
    have := dM_mono y (a := m + 1) (b := M) (by omega) (by omega)
    have := hc.ml
    have hle : dY y + dM y (m + 1) ≤ day := by omega
    simp -implicitDefEqProofs [h12, v2]
    refine ACallGS.of (fun _ => message_days y (m + 1) (by omega) (by omega)) rfl ?_
    simp -implicitDefEqProofs [hle, v2]
    refine Again.of (m + 1) ⟨by omega, by omega⟩ (by omega) ?_
    simp
  have hmM : m = M := by omega
  subst hmM
  have hfin : ∀ x, x = dY y + dM y m → IntKind.i64.wrap (IntKind.i64.wrap (day - x) + 1) = D := by
    rintro x rfl
    have := hc.dd; have := hc.ml; have := hc.mh; have := dM_step y m m1; have := mLen_pos y m
    rw [wrapS (day - _) (by omega), wrapS _ (by omega)]; omega
  have hle : ¬ dY y + dM y (m + 1) ≤ day := by have := hc.mh; omega
  by_cases h12 : m < 12
  · simp -implicitDefEqProofs [h12, v2]
    refine ACallGS.of (fun _ => message_days y (m + 1) (by omega) (by omega)) rfl ?_
    simp -implicitDefEqProofs [hle]
    refine ACallK.of (message_days y m (by omega) (by omega)) ?_
    simp -implicitDefEqProofs [hfin _ rfl]
  · simp -implicitDefEqProofs [h12, v2]
    refine ACallGS.of (fun _ => message_days y (m + 1) (by omega) (by omega)) rfl ?_
    simp -implicitDefEqProofs [hle]
    refine ACallK.of (message_days y m (by omega) (by omega)) ?_
    simp -implicitDefEqProofs [hfin _ rfl]

theorem index_Stamp (t : Int) (h : momentB t = true) : ACalls Tryd.prog 30 [.one (.int .i64 t)] (.x (.one (.str (stampL t)))) := by
  refine ACalls.of mixed (fn := Tryd.f30) (by kernel_rfl) (by kernel_rfl) rfl (by kernel_rfl) (by simp [Tryd.f30]) (fun hok => ?_)
  have hb := moment_bounds h
  have hd := message_DateOf t h
  obtain ⟨⟨y1, y2⟩, ⟨m1, m2⟩, ⟨d1, d2⟩⟩ := date_ok h
  unfold dateRow at hd
  unfold stampL
  obtain ⟨Y, eY⟩ : ∃ Y : Nat, yearOf (t / 86400) = Y := ⟨(yearOf (t / 86400)).toNat, by omega⟩
  obtain ⟨M, eM⟩ : ∃ M : Nat, monthOf (t / 86400) = M := ⟨(monthOf (t / 86400)).toNat, by omega⟩
  obtain ⟨D, eD⟩ : ∃ D : Nat, dayOf (t / 86400) = D := ⟨(dayOf (t / 86400)).toNat, by omega⟩
  obtain ⟨H, eH⟩ : ∃ H : Nat, t % 86400 / 3600 = H := ⟨(t % 86400 / 3600).toNat, by omega⟩
  obtain ⟨I, eI⟩ : ∃ I : Nat, t % 86400 / 60 % 60 = I := ⟨(t % 86400 / 60 % 60).toNat, by omega⟩
  obtain ⟨S, eS⟩ : ∃ S : Nat, t % 86400 % 60 = S := ⟨(t % 86400 % 60).toNat, by omega⟩
  rw [eY, eM, eD, eH, eI, eS] at hd
  rw [eY, eM, eD, eH, eI, eS]
  rw [eY] at y1 y2
  rw [eM] at m1 m2
  rw [eD] at d1 d2
  simp only [Int.toNat_natCast]
  have hH : H < 100 := by omega
  have hI : I < 100 := by omega
  have hS : S < 100 := by omega
  have hM : M < 100 := by omega
  have hD : D < 100 := by omega
  clear eY eM eD eH eI eS
  simp -implicitDefEqProofs
  refine ACallK.of hd ?_
  simp -implicitDefEqProofs
  refine ACallK.of (message_Padded Y 4 (by omega) (by omega) (by omega)) ?_
  simp -implicitDefEqProofs
  obtain ⟨ns, ens⟩ : ∃ ns : List Nat, ns = [M, D, H, I, S] := ⟨_, rfl⟩
  have h5 : ns.length = 5 := by rw [ens]; rfl
  have hsm0 : ∀ x ∈ ns, x < 100 := by
    intro x hx
    rw [ens] at hx
    simp only [List.mem_cons, List.not_mem_nil, or_false] at hx
    omega
  have hsm : ∀ i (h : i < ns.length), ns[i] < 100 := fun i hi => hsm0 _ (List.getElem_mem hi)
  refine ALoopS.of Nat (fun i => [(4, .x (.one (.str (padD 4 Y ++ ((ns.take i).map (padD 2)).flatten)))), (22, .own 3 1 (ns.map fun n => [.int .i64 (n : Nat)])), (23, .x (.one (.int .i64 5))), (24, .x (.one (.int .i64 i)))]) (fun i => i ≤ ns.length) (fun i => ns.length - i) 0 (Nat.zero_le _) ?_ ?_
  · simp [ens]
  intro i hi
  have w1 : IntKind.i64.wrap ((i : Int) + 1) = (i : Int) + 1 := wrapS _ (by omega)
  by_cases hlt : i < ns.length
  · have hlt5 : (i : Int) < 5 := by omega
    have hlt5' : i < 5 := by omega
    have hlen : ((ns.take i).map (padD 2)).flatten.length ≤ 10 := by
      have : ∀ l : List Nat, ((l.map (padD 2)).flatten).length = 2 * l.length := by
        intro l; induction l with
        | nil => rfl
        | cons a r ih => simp only [List.map_cons, List.flatten_cons, List.length_append, padD_len, ih, List.length_cons]; omega
      rw [this, List.length_take]; omega
    obtain ⟨x, ex⟩ : ∃ x, x = ((ns.take i).map (padD 2)).flatten := ⟨_, rfl⟩
    have hst : ((ns.take (i + 1)).map (padD 2)).flatten = x ++ padD 2 ns[i] := by
      rw [List.take_succ_eq_append_getElem hlt, ex]
      simp only [List.map_append, List.map_cons, List.map_nil, List.flatten_append, List.flatten_cons, List.flatten_nil, List.append_nil]
    rw [← ex] at hlen ⊢
    have m1 : 4 + x.length + 2 ≤ maxLen := by unfold maxLen; omega
    have hgi : ns[i]?.getD 0 = ns[i] := by simp [hlt]
    simp -implicitDefEqProofs [hlt, hlt5, hlt5']
    refine ACallK.of (message_Padded ns[i] 2 (by have := hsm i hlt; omega) (by omega) (by omega)) ?_
    simp -implicitDefEqProofs [m1, w1]
    refine Again.of (i + 1) hlt (by omega) ?_
    rw [hst]
    simp
  · have hlt5 : ¬ (i : Int) < 5 := by omega
    have hlt5' : ¬ i < 5 := by omega
    rw [List.take_of_length_le (by omega), ens]
    simp -implicitDefEqProofs [hlt5, hlt5']
end Go.Proofs.YtejhjdpafdpjlaaDoor
