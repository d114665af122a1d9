/- A part of the proof: lemmas and contracts of functions. -/
import Derived.Test.YtklnopamfncfgaaGreatDoorIxG21c
import Derived.Test.YtklnopamfncfgaaGreatDoorIxG21b
import Derived.Test.YtklnopamfncfgaaGreatDoorAbJ5
import Derived.MakeChecks
import Derived.KernelRfl
import Derived.Test.YtklnopamfncfgaaGreatDoorRows
namespace Go.Proofs.YtklnopamfncfgaaGreatDoor
open Go Go.Ab
set_option linter.unusedSectionVars false
variable [Amb] [HasPow10 Tryz.prog]
set_option maxRecDepth 100000
set_option maxHeartbeats 4000000

def dateRow (t : Int) : List CV := [.int .i64 (yearOf (t / 86400)), .int .i64 (monthOf (t / 86400)), .int .i64 (dayOf (t / 86400)), .int .i64 (t % 86400 / 3600), .int .i64 (t % 86400 / 60 % 60), .int .i64 (t % 86400 % 60)]
structure DateOk (t : Int) : Prop where
  y : 1970 ≤ yearOf (t / 86400) ∧ yearOf (t / 86400) ≤ 9999
  m : 1 ≤ monthOf (t / 86400) ∧ monthOf (t / 86400) ≤ 12
  d : 1 ≤ dayOf (t / 86400) ∧ dayOf (t / 86400) ≤ 31
theorem moment_bounds {t : Int} (h : momentB t = true) : 0 ≤ t ∧ t ≤ 253402300799 := by simpa [momentB, inB] using h
theorem date_ok {t : Int} (h : momentB t = true) : DateOk t := by
  have hb := moment_bounds h
  have hc := civ_ok (t / 86400) (by omega)
  have := hc.d
  have := mLen_pos (yearOf (t / 86400)) (monthOf (t / 86400))
  exact ⟨⟨hc.y0, hc.top (by omega)⟩, ⟨hc.m0, hc.m1⟩, by omega⟩
theorem dY_start (n : Nat) : dY (1970 + n) ≤ 366 * n := by
  induction n with
  | zero => decide
  | succ n ih =>
    have := dY_step (1970 + n)
    have := yLen_pos (1970 + n)
    rw [show (1970 : Int) + ((n + 1 : Nat) : Int) = 1970 + n + 1 by omega]
    omega
theorem year_start {d : Int} (h : 0 ≤ d) : 1970 + d / 366 ≤ yearOf d := by
  have hc := civ_ok d h
  have h1 := dY_start (d / 366).toNat
  rw [show (((d / 366).toNat : Nat) : Int) = d / 366 by omega] at h1
  refine Classical.byContradiction fun hn => ?_
  have := dY_mono (a := yearOf d + 1) (b := 1970 + d / 366) (by omega)
  have := hc.hi
  omega

theorem message_DateOf (t : Int) (h : momentB t = true) : ACalls Tryz.prog 64 [.one (.int .i64 t)] (.x (.agg (dateRow t))) := by
  refine ACalls.of mixed (fn := Tryz.f64) (by kernel_rfl) (by kernel_rfl) rfl (by kernel_rfl) (by simp [Tryz.f64]) (fun hok => ?_)
  have hb := moment_bounds h
  have hok := date_ok h
  have hc := civ_ok (t / 86400) (by omega)
  have hys := year_start (d := t / 86400) (by omega)
  unfold dateRow
  obtain ⟨day, ed⟩ : ∃ day, day = t / 86400 := ⟨_, rfl⟩
  obtain ⟨rest, er⟩ : ∃ rest, rest = t % 86400 := ⟨_, rfl⟩
  obtain ⟨Y, eY⟩ : ∃ Y, Y = yearOf (t / 86400) := ⟨_, rfl⟩
  obtain ⟨M, eM⟩ : ∃ M, M = monthOf (t / 86400) := ⟨_, rfl⟩
  obtain ⟨D, eD⟩ : ∃ D, D = dayOf (t / 86400) := ⟨_, rfl⟩
  obtain ⟨⟨y1, y2⟩, ⟨m1, m2⟩, ⟨d1, d2⟩⟩ := hok
  rw [← ed] at hys hc eY eM eD y1 y2 m1 m2 d1 d2
  rw [← eY] at hys hc y1 y2
  rw [← eM] at hc m1 m2
  rw [← eD] at hc d1 d2
  rw [← ed, ← eY, ← eM, ← eD, ← er]
  clear eY eM eD
  have t1 : t.tdiv 86400 = day := by rw [tdiv_pos _ hb.1, ed]
  have t2 : t.tmod 86400 = rest := by rw [tmod_pos _ hb.1, er]
  have r0 : 0 ≤ rest ∧ rest < 86400 := by omega
  have d0 : 0 ≤ day ∧ day ≤ 2932896 := by omega
  have t3 : day.tdiv 366 = day / 366 := tdiv_pos _ d0.1
  have t4 : rest.tdiv 3600 = rest / 3600 := tdiv_pos _ r0.1
  have t5 : rest.tdiv 60 = rest / 60 := tdiv_pos _ r0.1
  have t6 : (rest / 60).tmod 60 = rest / 60 % 60 := tmod_pos _ (by omega)
  have t7 : rest.tmod 60 = rest % 60 := tmod_pos _ r0.1
  have w1 : IntKind.i64.wrap day = day := wrapS _ (by omega)
  have w2 : IntKind.i64.wrap rest = rest := wrapS _ (by omega)
  have w3 : IntKind.i64.wrap (day / 366) = day / 366 := wrapS _ (by omega)
  have w4 : IntKind.i64.wrap (1970 + day / 366) = 1970 + day / 366 := wrapS _ (by omega)
  have w5 : IntKind.i64.wrap (rest / 3600) = rest / 3600 := wrapS _ (by omega)
  have w6 : IntKind.i64.wrap (rest / 60) = rest / 60 := wrapS _ (by omega)
  have w7 : IntKind.i64.wrap (rest / 60 % 60) = rest / 60 % 60 := wrapS _ (by omega)
  have w8 : IntKind.i64.wrap (rest % 60) = rest % 60 := wrapS _ (by omega)
  simp -implicitDefEqProofs [t1, t2, t3, t4, t5, t6, t7, w1, w2, w3, w4, w5, w6, w7, w8]
  refine ALoopS.of Int (fun y => [(2, .box [.int .i64 0, .int .i64 0, .int .i64 0, .int .i64 0, .int .i64 0, .int .i64 0]), (3, .x (.one (.int .i64 day))), (5, .box [.int .i64 y, .int .i64 1, .int .i64 0, .int .i64 (rest / 3600), .int .i64 (rest / 60 % 60), .int .i64 (rest % 60)])]) (fun y => 1970 ≤ y ∧ y ≤ Y) (fun y => (Y - y).toNat) (1970 + day / 366) ⟨by omega, hys⟩ ?_ ?_
  · simp
  rintro y ⟨g1, g2⟩
  have v1 : IntKind.i64.wrap (y + 1) = y + 1 := wrapS _ (by omega)
  have hd1 : dY (y + 1) + dM (y + 1) 1 = dY (y + 1) := by rw [dM_one, Int.add_zero]
  simp -implicitDefEqProofs [v1]
  refine ACallK.of (message_days (y + 1) 1 (by omega) (by omega)) ?_
  rw [hd1]
  by_cases hlt : y < Y
  · have := dY_mono (a := y + 1) (b := Y) (by omega)
    have := hc.lo
    have hle : dY (y + 1) ≤ day := by omega
    simp -implicitDefEqProofs [hle, v1]
    refine Again.of (y + 1) ⟨by omega, by omega⟩ (by omega) ?_
    simp
  have hyY : y = Y := by omega
  subst hyY
  have hle : ¬ dY (y + 1) ≤ day := by have := hc.hi; omega
  simp -implicitDefEqProofs [hle]
  clear hlt hle hd1 g1 g2 hys
  refine ALoopS.of Int (fun m => [(2, .box [.int .i64 0, .int .i64 0, .int .i64 0, .int .i64 0, .int .i64 0, .int .i64 0]), (3, .x (.one (.int .i64 day))), (5, .box [.int .i64 y, .int .i64 m, .int .i64 0, .int .i64 (rest / 3600), .int .i64 (rest / 60 % 60), .int .i64 (rest % 60)])]) (fun m => 1 ≤ m ∧ m ≤ M) (fun m => (M - m).toNat) 1 ⟨by omega, m1⟩ ?_ ?_
  · simp
  rintro m ⟨g1, g2⟩
  have v2 : IntKind.i64.wrap (m + 1) = m + 1 := wrapS _ (by omega)
  by_cases hlt : m < M
  · have h12 : m < 12 := by omega
    have := dM_mono y (a := m + 1) (b := M) (by omega) (by omega)
    have := hc.ml
    have hle : dY y + dM y (m + 1) ≤ day := by omega
    simp -implicitDefEqProofs [h12, v2]
    refine ACallGS.of (fun _ => message_days y (m + 1) (by omega) (by omega)) rfl ?_
    simp -implicitDefEqProofs [hle, v2]
    refine Again.of (m + 1) ⟨by omega, by omega⟩ (by omega) ?_
    simp
  have hmM : m = M := by omega
  subst hmM
  have hfin : ∀ x, x = dY y + dM y m → IntKind.i64.wrap (IntKind.i64.wrap (day - x) + 1) = D := by
    rintro x rfl
    have := hc.dd; have := hc.ml; have := hc.mh; have := dM_step y m m1; have := mLen_pos y m
    rw [wrapS (day - _) (by omega), wrapS _ (by omega)]; omega
  have hle : ¬ dY y + dM y (m + 1) ≤ day := by have := hc.mh; omega
  by_cases h12 : m < 12
  · simp -implicitDefEqProofs [h12, v2]
    refine ACallGS.of (fun _ => message_days y (m + 1) (by omega) (by omega)) rfl ?_
    simp -implicitDefEqProofs [hle]
    refine ACallK.of (message_days y m (by omega) (by omega)) ?_
    simp -implicitDefEqProofs [hfin _ rfl]
  · simp -implicitDefEqProofs [h12, v2]
    refine ACallGS.of (fun _ => message_days y (m + 1) (by omega) (by omega)) rfl ?_
    simp -implicitDefEqProofs [hle]
    refine ACallK.of (message_days y m (by omega) (by omega)) ?_
    simp -implicitDefEqProofs [hfin _ rfl]

theorem index_Stamp (t : Int) (h : momentB t = true) : ACalls Tryz.prog 25 [.one (.int .i64 t)] (.x (.one (.str (stampL t)))) := by
  refine ACalls.of mixed (fn := Tryz.f25) (by kernel_rfl) (by kernel_rfl) rfl (by kernel_rfl) (by simp [Tryz.f25]) (fun hok => ?_)
  have hb := moment_bounds h
  have hd := message_DateOf t h
  obtain ⟨⟨y1, y2⟩, ⟨m1, m2⟩, ⟨d1, d2⟩⟩ := date_ok h
  unfold dateRow at hd
  unfold stampL
  obtain ⟨Y, eY⟩ : ∃ Y : Nat, yearOf (t / 86400) = Y := ⟨(yearOf (t / 86400)).toNat, by omega⟩
  obtain ⟨M, eM⟩ : ∃ M : Nat, monthOf (t / 86400) = M := ⟨(monthOf (t / 86400)).toNat, by omega⟩
  obtain ⟨D, eD⟩ : ∃ D : Nat, dayOf (t / 86400) = D := ⟨(dayOf (t / 86400)).toNat, by omega⟩
  obtain ⟨H, eH⟩ : ∃ H : Nat, t % 86400 / 3600 = H := ⟨(t % 86400 / 3600).toNat, by omega⟩
  obtain ⟨I, eI⟩ : ∃ I : Nat, t % 86400 / 60 % 60 = I := ⟨(t % 86400 / 60 % 60).toNat, by omega⟩
  obtain ⟨S, eS⟩ : ∃ S : Nat, t % 86400 % 60 = S := ⟨(t % 86400 % 60).toNat, by omega⟩
  rw [eY, eM, eD, eH, eI, eS] at hd
  rw [eY, eM, eD, eH, eI, eS]
  rw [eY] at y1 y2
  rw [eM] at m1 m2
  rw [eD] at d1 d2
  simp only [Int.toNat_natCast]
  have hH : H < 100 := by omega
  have hI : I < 100 := by omega
  have hS : S < 100 := by omega
  have hM : M < 100 := by omega
  have hD : D < 100 := by omega
  clear eY eM eD eH eI eS
  simp -implicitDefEqProofs
  refine ACallK.of hd ?_
  simp -implicitDefEqProofs
  refine ACallK.of (message_Padded Y 4 (by omega) (by omega) (by omega)) ?_
  simp -implicitDefEqProofs
  obtain ⟨ns, ens⟩ : ∃ ns : List Nat, ns = [M, D, H, I, S] := ⟨_, rfl⟩
  have h5 : ns.length = 5 := by rw [ens]; rfl
  have hsm0 : ∀ x ∈ ns, x < 100 := by
    intro x hx
    rw [ens] at hx
    simp only [List.mem_cons, List.not_mem_nil, or_false] at hx
    omega
  have hsm : ∀ i (h : i < ns.length), ns[i] < 100 := fun i hi => hsm0 _ (List.getElem_mem hi)
  refine ALoopS.of Nat (fun i => [(4, .x (.one (.str (padD 4 Y ++ ((ns.take i).map (padD 2)).flatten)))), (22, .own 3 1 (ns.map fun n => [.int .i64 (n : Nat)])), (23, .x (.one (.int .i64 5))), (24, .x (.one (.int .i64 i)))]) (fun i => i ≤ ns.length) (fun i => ns.length - i) 0 (Nat.zero_le _) ?_ ?_
  · simp [ens]
  intro i hi
  have w1 : IntKind.i64.wrap ((i : Int) + 1) = (i : Int) + 1 := wrapS _ (by omega)
  by_cases hlt : i < ns.length
  · have hlt5 : (i : Int) < 5 := by omega
    have hlt5' : i < 5 := by omega
    have hlen : ((ns.take i).map (padD 2)).flatten.length ≤ 10 := by
      have : ∀ l : List Nat, ((l.map (padD 2)).flatten).length = 2 * l.length := by
        intro l; induction l with
        | nil => rfl
        | cons a r ih => simp only [List.map_cons, List.flatten_cons, List.length_append, padD_len, ih, List.length_cons]; omega
      rw [this, List.length_take]; omega
    obtain ⟨x, ex⟩ : ∃ x, x = ((ns.take i).map (padD 2)).flatten := ⟨_, rfl⟩
    have hst : ((ns.take (i + 1)).map (padD 2)).flatten = x ++ padD 2 ns[i] := by
      rw [List.take_succ_eq_append_getElem hlt, ex]
      simp only [List.map_append, List.map_cons, List.map_nil, List.flatten_append, List.flatten_cons, List.flatten_nil, List.append_nil]
    rw [← ex] at hlen ⊢
    have m1 : 4 + x.length + 2 ≤ maxLen := by unfold maxLen; omega
    have hgi : ns[i]?.getD 0 = ns[i] := by simp [hlt]
    simp -implicitDefEqProofs [hlt, hlt5, hlt5']
    refine ACallK.of (message_Padded ns[i] 2 (by have := hsm i hlt; omega) (by omega) (by omega)) ?_
    simp -implicitDefEqProofs [m1, w1]
    refine Again.of (i + 1) hlt (by omega) ?_
    rw [hst]
    simp
  · have hlt5 : ¬ (i : Int) < 5 := by omega
    have hlt5' : ¬ i < 5 := by omega
    rw [List.take_of_length_le (by omega), ens]
    simp -implicitDefEqProofs [hlt5, hlt5']
end Go.Proofs.YtklnopamfncfgaaGreatDoor
namespace Go.Proofs.YtklnopamfncfgaaGreatDoor
open Go Go.Ab
set_option linter.unusedSectionVars false
variable [Amb] [HasPow10 Tryz.prog]
set_option maxRecDepth 100000
set_option maxHeartbeats 4000000

/-! ### The date of the reference -/
theorem ref2_leap (y : Int) (hy : 0 ≤ y ∧ y ≤ 100000) : ACalls Tryz.prog 186 [.one (.int .i64 y)] (.x (.one (.bool (leapI y)))) := by
  refine ACalls.of mixed (fn := Tryz.f186) (by kernel_rfl) (by kernel_rfl) rfl (by kernel_rfl) (by simp [Tryz.f186]) (fun hok => ?_)
  have t1 : y.tmod 4 = y % 4 := tmod_pos _ hy.1
  have t2 : y.tmod 100 = y % 100 := tmod_pos _ hy.1
  have t3 : y.tmod 400 = y % 400 := tmod_pos _ hy.1
  have w1 : IntKind.i64.wrap (y % 4) = y % 4 := wrapS _ (by omega)
  have w2 : IntKind.i64.wrap (y % 100) = y % 100 := wrapS _ (by omega)
  have w3 : IntKind.i64.wrap (y % 400) = y % 400 := wrapS _ (by omega)
  have hl := mLen_leap y
  cases hb : leapI y with
  | true =>
    obtain ⟨l1, l2⟩ := hl.2 hb
    by_cases l3 : y % 100 = 0
    · have l4 := l2.resolve_left (fun h => h l3)
      simp -implicitDefEqProofs [t1, t2, t3, w1, w2, w3, l1, l3, l4]
    · simp -implicitDefEqProofs [t1, t2, t3, w1, w2, w3, l1, l3]
  | false =>
    by_cases l1 : y % 4 = 0
    · have l3 : y % 100 = 0 := Classical.byContradiction fun h => by rw [hl.1 ⟨l1, .inl h⟩] at hb; cases hb
      have l4 : ¬ y % 400 = 0 := fun h => by rw [hl.1 ⟨l1, .inr h⟩] at hb; cases hb
      simp -implicitDefEqProofs [t1, t2, t3, w1, w2, w3, l1, l3, l4]
    · have l4 : ¬ y % 400 = 0 := fun h => l1 (by omega)
      simp -implicitDefEqProofs [t1, t2, t3, w1, w2, w3, l1, l4]
theorem ref2_yearDays (y : Int) (hy : 0 ≤ y ∧ y ≤ 100000) : ACalls Tryz.prog 120 [.one (.int .i64 y)] (.x (.one (.int .i64 (yLen y)))) := by
  refine ACalls.of mixed (fn := Tryz.f120) (by kernel_rfl) (by kernel_rfl) rfl (by kernel_rfl) (by simp [Tryz.f120]) (fun hok => ?_)
  have e : yLen y = if leapI y = true then 366 else 365 := rfl
  generalize yLen y = r at e ⊢
  simp -implicitDefEqProofs
  refine ACallK.of (ref2_leap y hy) ?_
  cases hb : leapI y with
  | true => rw [hb, if_pos rfl] at e; subst e; simp -implicitDefEqProofs
  | false => rw [hb, if_neg (by decide)] at e; subst e; simp -implicitDefEqProofs
theorem ref2_monthDays (y m : Int) (hy : 0 ≤ y ∧ y ≤ 100000) (hm : 1 ≤ m ∧ m ≤ 12) : ACalls Tryz.prog 121 [.one (.int .i64 y), .one (.int .i64 m)] (.x (.one (.int .i64 (mLen y m)))) := by
  refine ACalls.of mixed (fn := Tryz.f121) (by kernel_rfl) (by kernel_rfl) rfl (by kernel_rfl) (by simp [Tryz.f121]) (fun hok => ?_)
  have e : mLen y m = if m = 4 ∨ m = 6 ∨ m = 9 ∨ m = 11 then 30 else if m = 2 then (if leapI y = true then 29 else 28) else 31 := rfl
  generalize mLen y m = r at e ⊢
  by_cases h2 : m = 2
  · subst h2
    rw [if_neg (by decide), if_pos rfl] at e
    simp -implicitDefEqProofs
    refine ACallGS.of (fun _ => ref2_leap y hy) rfl ?_
    have w : IntKind.i64.wrap 1 = 1 := by decide
    cases hb : leapI y with
    | true => rw [hb, if_pos rfl] at e; subst e; simp -implicitDefEqProofs
    | false => rw [hb, if_neg (by decide)] at e; subst e; simp -implicitDefEqProofs [w]
  · have hcase : m = 1 ∨ m = 3 ∨ m = 4 ∨ m = 5 ∨ m = 6 ∨ m = 7 ∨ m = 8 ∨ m = 9 ∨ m = 10 ∨ m = 11 ∨ m = 12 := by omega
    have ws : ∀ k : Int, 0 ≤ k ∧ k ≤ 11 → IntKind.i64.wrap k = k := fun k h => wrapS _ (by omega)
    have w0 := ws 0 (by omega); have w2 := ws 2 (by omega); have w3 := ws 3 (by omega); have w4 := ws 4 (by omega); have w5 := ws 5 (by omega); have w6 := ws 6 (by omega); have w7 := ws 7 (by omega); have w8 := ws 8 (by omega); have w9 := ws 9 (by omega); have w10 := ws 10 (by omega); have w11 := ws 11 (by omega)
    rcases hcase with rfl | rfl | rfl | rfl | rfl | rfl | rfl | rfl | rfl | rfl | rfl
    all_goals
      simp only [Int.reduceEq, false_or, or_false, true_or, or_true, or_self, if_true, if_false] at e
      subst e
      simp -implicitDefEqProofs
      refine ACallGS.of (fun h => by cases h) (r := .x (.one (.bool false))) rfl ?_
      simp -implicitDefEqProofs [w0, w2, w3, w4, w5, w6, w7, w8, w9, w10, w11]
theorem ref2_two (n : Nat) (h : n ≤ 100000) : ACalls Tryz.prog 122 [.one (.int .i64 n)] (.x (.one (.str (padD 2 n)))) := by
  refine ACalls.of mixed (fn := Tryz.f122) (by kernel_rfl) (by kernel_rfl) rfl (by kernel_rfl) (by simp [Tryz.f122]) (fun hok => ?_)
  have e : padD 2 n = [UInt8.ofNat (48 + n / 10 % 10), UInt8.ofNat (48 + n % 10)] := padD_two n
  generalize padD 2 n = r at e ⊢
  have t1 : (n : Int).tdiv 10 = ((n / 10 : Nat) : Int) := by rw [tdiv_pos _ (by omega)]; omega
  have t2 : ((n / 10 : Nat) : Int).tmod 10 = ((n / 10 % 10 : Nat) : Int) := by rw [tmod_pos _ (by omega)]; omega
  have t3 : (n : Int).tmod 10 = ((n % 10 : Nat) : Int) := by rw [tmod_pos _ (by omega)]; omega
  obtain ⟨a, ea⟩ : ∃ a, n / 10 % 10 = a := ⟨_, rfl⟩
  obtain ⟨b, eb⟩ : ∃ b, n % 10 = b := ⟨_, rfl⟩
  obtain ⟨c, ec⟩ : ∃ c, n / 10 = c := ⟨_, rfl⟩
  rw [ea, eb] at e
  rw [ec] at t1 t2
  rw [ec] at ea
  rw [ea] at t2
  rw [eb] at t3
  have w0 : IntKind.i64.wrap (c : Int) = c := wrapS _ (by omega)
  have w1 : IntKind.i64.wrap (a : Int) = a := wrapS _ (by omega)
  have w2 : IntKind.i64.wrap (48 + (a : Int)) = 48 + a := wrapS _ (by omega)
  have w3 : IntKind.i64.wrap (b : Int) = b := wrapS _ (by omega)
  have w4 : IntKind.i64.wrap (48 + (b : Int)) = 48 + b := wrapS _ (by omega)
  have u1 : IntKind.u8.wrap (48 + (a : Int)) = ((48 + a : Nat) : Int) := by
    have : ∀ x : Fin 10, IntKind.u8.wrap (48 + ((x.val : Nat) : Int)) = ((48 + x.val : Nat) : Int) := by decide
    exact this ⟨a, by omega⟩
  have u2 : IntKind.u8.wrap (48 + (b : Int)) = ((48 + b : Nat) : Int) := by
    have : ∀ x : Fin 10, IntKind.u8.wrap (48 + ((x.val : Nat) : Int)) = ((48 + x.val : Nat) : Int) := by decide
    exact this ⟨b, by omega⟩
  have v1 : ((48 : Int) + (a : Int)).toNat = 48 + a := by omega
  have v2 : ((48 : Int) + (b : Int)).toNat = 48 + b := by omega
  subst e
  clear ea eb ec h
  simp -implicitDefEqProofs [t1, t2, t3, w0, w1, w2, w3, w4, u1, u2]
  rw [v1, v2]
  simp

def monthsL : List UInt8 := [74, 97, 110, 70, 101, 98, 77, 97, 114, 65, 112, 114, 77, 97, 121, 74, 117, 110, 74, 117, 108, 65, 117, 103, 83, 101, 112, 79, 99, 116, 78, 111, 118, 68, 101, 99]
def weeksL : List UInt8 := [83, 117, 110, 77, 111, 110, 84, 117, 101, 87, 101, 100, 84, 104, 117, 70, 114, 105, 83, 97, 116]
def monthL (m : Nat) : List UInt8 := (monthsL.drop (3 * m - 3)).take 3
def weekL (w : Nat) : List UInt8 := (weeksL.drop (3 * w)).take 3
def dateL (t : Int) : List UInt8 :=
  weekL ((t / 86400 + 4) % 7).toNat ++ [44, 32] ++ padD 2 (dayOf (t / 86400)).toNat ++ [32] ++ monthL (monthOf (t / 86400)).toNat ++ [32] ++ padD 4 (yearOf (t / 86400)).toNat ++ [32] ++ padD 2 (t % 86400 / 3600).toNat ++ [58] ++ padD 2 (t % 86400 / 60 % 60).toNat ++ [58] ++ padD 2 (t % 86400 % 60).toNat ++ [32, 71, 77, 84]
theorem ref2_monthName (m : Nat) (h : 1 ≤ m ∧ m ≤ 12) : ACalls Tryz.prog 123 [.one (.int .i64 m)] (.x (.one (.str (monthL m)))) := by
  refine ACalls.of mixed (fn := Tryz.f123) (by kernel_rfl) (by kernel_rfl) rfl (by kernel_rfl) (by simp [Tryz.f123]) (fun hok => ?_)
  have q0 : IntKind.i64.wrap 0 = 0 := by decide
  have q3 : IntKind.i64.wrap 3 = 3 := by decide
  have q6 : IntKind.i64.wrap 6 = 6 := by decide
  have q9 : IntKind.i64.wrap 9 = 9 := by decide
  have q12 : IntKind.i64.wrap 12 = 12 := by decide
  have q15 : IntKind.i64.wrap 15 = 15 := by decide
  have q18 : IntKind.i64.wrap 18 = 18 := by decide
  have q21 : IntKind.i64.wrap 21 = 21 := by decide
  have q24 : IntKind.i64.wrap 24 = 24 := by decide
  have q27 : IntKind.i64.wrap 27 = 27 := by decide
  have q30 : IntKind.i64.wrap 30 = 30 := by decide
  have q33 : IntKind.i64.wrap 33 = 33 := by decide
  have q36 : IntKind.i64.wrap 36 = 36 := by decide
  have hc : m = 1 ∨ m = 2 ∨ m = 3 ∨ m = 4 ∨ m = 5 ∨ m = 6 ∨ m = 7 ∨ m = 8 ∨ m = 9 ∨ m = 10 ∨ m = 11 ∨ m = 12 := by omega
  clear h
  rcases hc with rfl | rfl | rfl | rfl | rfl | rfl | rfl | rfl | rfl | rfl | rfl | rfl
  all_goals
    simp -implicitDefEqProofs [q0, q3, q6, q9, q12, q15, q18, q21, q24, q27, q30, q33, q36, cutAt]
    try rfl
end Go.Proofs.YtklnopamfncfgaaGreatDoor
namespace Go.Proofs.YtklnopamfncfgaaGreatDoor
open Go Go.Ab
set_option linter.unusedSectionVars false
variable [Amb] [HasPow10 Tryz.prog]
set_option maxRecDepth 100000
set_option maxHeartbeats 4000000

theorem weekL_len (w : Nat) (h : w < 7) : (weekL w).length = 3 := by
  have : ∀ w : Fin 7, (weekL w.val).length = 3 := by decide
  exact this ⟨w, h⟩
theorem monthL_len (m : Nat) (h : 1 ≤ m ∧ m ≤ 12) : (monthL m).length = 3 := by
  have : ∀ w : Fin 12, (monthL (w.val + 1)).length = 3 := by decide
  have := this ⟨m - 1, by omega⟩
  simp only [show m - 1 + 1 = m by omega] at this
  exact this
theorem ref2_DateOf (t : Int) (h : momentB t = true) : ACalls Tryz.prog 68 [.one (.int .i64 t)] (.x (.one (.str (dateL t)))) := by
  refine ACalls.of mixed (fn := Tryz.f68) (by kernel_rfl) (by kernel_rfl) rfl (by kernel_rfl) (by simp [Tryz.f68]) (fun hok => ?_)
  have hb := moment_bounds h
  have hok := date_ok h
  have hc := civ_ok (t / 86400) (by omega)
  unfold dateL
  obtain ⟨day, ed⟩ : ∃ day, day = t / 86400 := ⟨_, rfl⟩
  obtain ⟨rest, er⟩ : ∃ rest, rest = t % 86400 := ⟨_, rfl⟩
  obtain ⟨Y, eY⟩ : ∃ Y, Y = yearOf (t / 86400) := ⟨_, rfl⟩
  obtain ⟨M, eM⟩ : ∃ M, M = monthOf (t / 86400) := ⟨_, rfl⟩
  obtain ⟨D, eD⟩ : ∃ D, D = dayOf (t / 86400) := ⟨_, rfl⟩
  obtain ⟨⟨y1, y2⟩, ⟨m1, m2⟩, ⟨d1, d2⟩⟩ := hok
  rw [← ed] at hc eY eM eD y1 y2 m1 m2 d1 d2
  rw [← eY] at hc y1 y2
  rw [← eM] at hc m1 m2
  rw [← eD] at hc d1 d2
  rw [← ed, ← eY, ← eM, ← eD, ← er]
  clear eY eM eD
  have t1 : t.tdiv 86400 = day := by rw [tdiv_pos _ hb.1, ed]
  have t2 : t.tmod 86400 = rest := by rw [tmod_pos _ hb.1, er]
  have r0 : 0 ≤ rest ∧ rest < 86400 := by omega
  have d0 : 0 ≤ day ∧ day ≤ 2932896 := by omega
  clear ed er
  have t3 : (day + 4).tmod 7 = (day + 4) % 7 := tmod_pos _ (by omega)
  have w1 : IntKind.i64.wrap day = day := wrapS _ (by omega)
  have w2 : IntKind.i64.wrap rest = rest := wrapS _ (by omega)
  have w3 : IntKind.i64.wrap (day + 4) = day + 4 := wrapS _ (by omega)
  have w4 : IntKind.i64.wrap ((day + 4) % 7) = (day + 4) % 7 := wrapS _ (by omega)
  obtain ⟨W, eW⟩ : ∃ W : Nat, (day + 4) % 7 = W := ⟨((day + 4) % 7).toNat, by omega⟩
  have hW : W < 7 := by omega
  rw [eW]
  simp -implicitDefEqProofs [t1, t2, t3, w1, w2, w3, w4, eW]
  have hd70 : dY 1970 = 0 := by decide
  refine ALoopS.of Int (fun y => [(3, .x (.one (.int .i64 (day - dY y)))), (4, .x (.one (.int .i64 rest))), (5, .x (.one (.int .i64 (W : Nat)))), (6, .x (.one (.int .i64 y))), (7, .x (.one (.int .i64 1)))]) (fun y => 1970 ≤ y ∧ y ≤ Y) (fun y => (Y - y).toNat) 1970 ⟨by omega, y1⟩ ?_ ?_
  · simp [hd70]
  rintro y ⟨g1, g2⟩
  have v1 : IntKind.i64.wrap (y + 1) = y + 1 := wrapS _ (by omega)
  have hst := dY_step y
  have hyl := yLen_pos y
  have hlo : 0 ≤ dY y := by have := dY_mono (a := 1970) (b := y) g1; omega
  simp -implicitDefEqProofs
  refine ACallK.of (ref2_yearDays y (by omega)) ?_
  by_cases hlt : y < Y
  · have := dY_mono (a := y + 1) (b := Y) (by omega)
    have := hc.lo
    have hle : yLen y ≤ day - dY y := by omega
    have v2 : IntKind.i64.wrap (day - dY y - yLen y) = day - dY (y + 1) := by rw [wrapS _ (by omega)]; omega
    simp -implicitDefEqProofs [hle]
    refine ACallK.of (ref2_yearDays y (by omega)) ?_
    simp -implicitDefEqProofs [v1, v2]
    refine Again.of (y + 1) ⟨by omega, by omega⟩ (by omega) ?_
    simp
  have hyY : y = Y := by omega
  subst hyY
  have hle : ¬ yLen y ≤ day - dY y := by have := hc.hi; omega
  simp -implicitDefEqProofs [hle]
  clear hlt hle g1 g2
  have hM1 : dM y 1 = 0 := dM_one y
  refine ALoopS.of Int (fun m => [(3, .x (.one (.int .i64 (day - dY y - dM y m)))), (4, .x (.one (.int .i64 rest))), (5, .x (.one (.int .i64 (W : Nat)))), (6, .x (.one (.int .i64 y))), (7, .x (.one (.int .i64 m)))]) (fun m => 1 ≤ m ∧ m ≤ M) (fun m => (M - m).toNat) 1 ⟨by omega, m1⟩ ?_ ?_
  · simp [hM1]
  rintro m ⟨g1, g2⟩
  have v2 : IntKind.i64.wrap (m + 1) = m + 1 := wrapS _ (by omega)
  have hms := dM_step y m g1
  have hml := mLen_pos y m
  have hmlo : 0 ≤ dM y m := by have := dM_mono y (a := 1) (b := m) (by omega) g1; omega
  simp -implicitDefEqProofs
  refine ACallK.of (ref2_monthDays y m (by omega) (by omega)) ?_
  by_cases hlt : m < M
  · have := dM_mono y (a := m + 1) (b := M) (by omega) (by omega)
    have := hc.ml
    have hle : mLen y m ≤ day - dY y - dM y m := by omega
    have v3 : IntKind.i64.wrap (day - dY y - dM y m - mLen y m) = day - dY y - dM y (m + 1) := by rw [wrapS _ (by omega)]; omega
    simp -implicitDefEqProofs [hle]
    refine ACallK.of (ref2_monthDays y m (by omega) (by omega)) ?_
    simp -implicitDefEqProofs [v2, v3]
    refine Again.of (m + 1) ⟨by omega, by omega⟩ (by omega) ?_
    simp
  have hmM : m = M := by omega
  subst hmM
  have hle : ¬ mLen y m ≤ day - dY y - dM y m := by have := hc.mh; omega
  obtain ⟨Yn, eYn⟩ : ∃ Yn : Nat, y = Yn := ⟨y.toNat, by omega⟩
  obtain ⟨Mn, eMn⟩ : ∃ Mn : Nat, m = Mn := ⟨m.toNat, by omega⟩
  obtain ⟨Dn, eDn⟩ : ∃ Dn : Nat, D = Dn := ⟨D.toNat, by omega⟩
  have hdd : IntKind.i64.wrap (day - dY y - dM y m + 1) = (Dn : Int) := by
    have := hc.dd
    rw [wrapS _ (by omega)]; omega
  obtain ⟨H, eH⟩ : ∃ H : Nat, rest / 3600 = H := ⟨(rest / 3600).toNat, by omega⟩
  obtain ⟨I, eI⟩ : ∃ I : Nat, rest / 60 % 60 = I := ⟨(rest / 60 % 60).toNat, by omega⟩
  obtain ⟨S, eS⟩ : ∃ S : Nat, rest % 60 = S := ⟨(rest % 60).toNat, by omega⟩
  obtain ⟨Q, eQ⟩ : ∃ Q : Nat, rest / 60 = Q := ⟨(rest / 60).toNat, by omega⟩
  have t4 : rest.tdiv 3600 = (H : Int) := by rw [tdiv_pos _ r0.1, eH]
  have t5 : rest.tdiv 60 = (Q : Int) := by rw [tdiv_pos _ r0.1, eQ]
  have t6 : (Q : Int).tmod 60 = (I : Int) := by rw [tmod_pos _ (by omega), ← eQ, eI]
  have t7 : rest.tmod 60 = (S : Int) := by rw [tmod_pos _ r0.1, eS]
  have w5 : IntKind.i64.wrap (H : Int) = H := wrapS _ (by omega)
  have w6 : IntKind.i64.wrap (Q : Int) = Q := wrapS _ (by omega)
  have w7 : IntKind.i64.wrap (I : Int) = I := wrapS _ (by omega)
  have w8 : IntKind.i64.wrap (S : Int) = S := wrapS _ (by omega)
  obtain ⟨Cn, eC⟩ : ∃ Cn : Nat, Yn / 100 = Cn := ⟨_, rfl⟩
  have t8 : (Yn : Int).tdiv 100 = (Cn : Int) := by rw [tdiv_pos _ (by omega)]; omega
  have w9 : IntKind.i64.wrap (Cn : Int) = Cn := wrapS _ (by omega)
  have hp4 : padD 4 Yn = padD 2 Cn ++ padD 2 Yn := by rw [padD_four, eC]
  have wk : (weeksL.drop (3 * W)).take 3 = weekL W := rfl
  have lw := weekL_len W hW
  have lm := monthL_len Mn (by omega)
  have hY9 : Yn ≤ 9999 := by omega
  have hM12 : 1 ≤ Mn ∧ Mn ≤ 12 := by omega
  have hD31 : Dn ≤ 31 := by omega
  have hH : H ≤ 24 := by omega
  have hI : I ≤ 60 := by omega
  have hS : S ≤ 60 := by omega
  have hC : Cn ≤ 100 := by omega
  have b1 : IntKind.i64.wrap (3 * (W : Int)) = 3 * W := wrapS _ (by omega)
  have b2 : IntKind.i64.wrap (3 * (W : Int) + 3) = 3 * W + 3 := wrapS _ (by omega)
  have b3 : cutAt weeksL (3 * (W : Int)) (3 * (W : Int) + 3) = weekL W := by
    unfold cutAt weekL
    rw [show (3 * (W : Int)).toNat = 3 * W by omega, show (3 * (W : Int) + 3).toNat = 3 * W + 3 by omega, List.drop_take, Nat.add_sub_cancel_left]
  have b4 : (3 * (W : Int) + 3 ≤ 21) = True := eq_true (by omega)
  have b5 : (0 ≤ 3 * (W : Int)) = True := eq_true (by omega)
  have b6 : (3 * (W : Int) ≤ 3 * (W : Int) + 3) = True := eq_true (by omega)
  subst eYn
  subst eMn
  subst eDn
  rw [eH, eI, eS]
  simp only [Int.toNat_natCast]
  rw [hp4]
  clear hc hb y1 y2 m1 m2 d1 d2 t1 t2 t3 hst hyl hlo hms hml hmlo g1 g2 hlt v1 v2 eH eI eS eQ eC hp4 wk eW
  unfold weeksL at b3
  simp -implicitDefEqProofs [hle, b1, b2, b3, b4, b5, b6, lw]
  rw [hdd]
  refine ACallK.of (ref2_two Dn (by omega)) ?_
  simp -implicitDefEqProofs [lw]
  refine ACallK.of (ref2_monthName Mn hM12) ?_
  simp -implicitDefEqProofs [lw, lm, t8, w9]
  refine ACallK.of (ref2_two Cn (by omega)) ?_
  simp -implicitDefEqProofs [lw, lm]
  refine ACallK.of (ref2_two Yn (by omega)) ?_
  simp -implicitDefEqProofs [lw, lm, t4, w5]
  refine ACallK.of (ref2_two H (by omega)) ?_
  simp -implicitDefEqProofs [lw, lm, t5, w6, t6, w7]
  refine ACallK.of (ref2_two I (by omega)) ?_
  simp -implicitDefEqProofs [lw, lm, t7, w8]
  refine ACallK.of (ref2_two S (by omega)) ?_
  simp -implicitDefEqProofs [lw, lm]
end Go.Proofs.YtklnopamfncfgaaGreatDoor
namespace Go.Proofs.YtklnopamfncfgaaGreatDoor
open Go Go.Ab
set_option linter.unusedSectionVars false
variable [Amb] [HasPow10 Tryz.prog]
set_option maxRecDepth 100000
set_option maxHeartbeats 4000000

theorem monthL_inj {a b : Nat} (ha : 1 ≤ a ∧ a ≤ 12) (hb : 1 ≤ b ∧ b ≤ 12) (h : monthL a = monthL b) : a = b := by
  have : ∀ x y : Fin 12, monthL (x.val + 1) = monthL (y.val + 1) → x = y := by decide
  have := this ⟨a - 1, by omega⟩ ⟨b - 1, by omega⟩ (by simp only [show a - 1 + 1 = a by omega, show b - 1 + 1 = b by omega]; exact h)
  have := congrArg Fin.val this
  simp only at this
  omega
theorem itoa_month (m : Nat) (h : 1 ≤ m ∧ m ≤ 12) : (itoaL (100 + (m : Int))).drop 1 = padD 2 m ∧ (itoaL (100 + (m : Int))).length = 3 := by
  have e : itoaL (100 + (m : Int)) = padD 3 (100 + m) := by
    obtain ⟨h1, h2⟩ := padD_itoa 3 (100 + m) (by omega) (by omega)
    rw [← h2]
    have h3 : (Lib.itoa ((100 + m : Nat) : Int)).length = 3 := by
      have := (padD_eq 3 (100 + m) (by omega) (by omega))
      have e : Lib.itoa ((100 + m : Nat) : Int) = Lib.decDigits (100 + m) := by unfold Lib.itoa; rw [if_neg (by omega)]; rfl
      rw [e, Lib.decDigits, dif_neg (by omega), Lib.decDigits, dif_neg (by omega), Lib.decDigits, dif_pos (by omega)]
      rfl
    rw [h3]
    show Lib.itoa (100 + (m : Int)) = _
    simp
  rw [e]
  refine ⟨?_, padD_len _ _⟩
  have hs := padD_split 1 2 (100 + m)
  rw [show 1 + 2 = 3 from rfl] at hs
  rw [hs, List.drop_left' (padD_len 1 _)]
  have hc : ∀ x : Fin 13, padD 2 (100 + x.val) = padD 2 x.val := by decide
  exact hc ⟨m, by omega⟩
theorem dateL_cut (t : Int) (h : momentB t = true) : (dateL t).length = 29 ∧ cutAt (dateL t) 8 11 = monthL (monthOf (t / 86400)).toNat ∧ cutAt (dateL t) 12 16 = padD 4 (yearOf (t / 86400)).toNat ∧ cutAt (dateL t) 5 7 = padD 2 (dayOf (t / 86400)).toNat ∧
    cutAt (dateL t) 17 19 = padD 2 (t % 86400 / 3600).toNat ∧ cutAt (dateL t) 20 22 = padD 2 (t % 86400 / 60 % 60).toNat ∧ cutAt (dateL t) 23 25 = padD 2 (t % 86400 % 60).toNat := by
  have hb := moment_bounds h
  obtain ⟨_, hm, _⟩ := date_ok h
  have lw := weekL_len ((t / 86400 + 4) % 7).toNat (by omega)
  have lm := monthL_len (monthOf (t / 86400)).toNat (by omega)
  unfold dateL
  generalize weekL ((t / 86400 + 4) % 7).toNat = W at lw ⊢
  generalize monthL (monthOf (t / 86400)).toNat = M at lm ⊢
  have l1 := padD_len 2 (dayOf (t / 86400)).toNat
  have l2 := padD_len 4 (yearOf (t / 86400)).toNat
  have l3 := padD_len 2 (t % 86400 / 3600).toNat
  have l4 := padD_len 2 (t % 86400 / 60 % 60).toNat
  have l5 := padD_len 2 (t % 86400 % 60).toNat
  generalize padD 2 (dayOf (t / 86400)).toNat = D at l1 ⊢
  generalize padD 4 (yearOf (t / 86400)).toNat = Y at l2 ⊢
  generalize padD 2 (t % 86400 / 3600).toNat = H at l3 ⊢
  generalize padD 2 (t % 86400 / 60 % 60).toNat = I at l4 ⊢
  generalize padD 2 (t % 86400 % 60).toNat = S at l5 ⊢
  match W, lw, D, l1, M, lm, Y, l2, H, l3, I, l4, S, l5 with
  | [w1, w2, w3], _, [d1, d2], _, [m1, m2, m3], _, [y1, y2, y3, y4], _, [h1, h2], _, [i1, i2], _, [s1, s2], _ => exact ⟨rfl, rfl, rfl, rfl, rfl, rfl, rfl⟩
end Go.Proofs.YtklnopamfncfgaaGreatDoor
namespace Go.Proofs.YtklnopamfncfgaaGreatDoor
open Go Go.Ab
set_option linter.unusedSectionVars false
variable [Amb] [HasPow10 Tryz.prog]
set_option maxRecDepth 100000
set_option maxHeartbeats 4000000

theorem ref1_Read (t : List UInt8) : ACalls Tryz.prog 34 [.one (.str t)] (.tup [.agg (readAR t).1.row, .one (.int .i64 (readAR t).2.1), .one (.int .i64 (readAR t).2.2)]) := by
  obtain ⟨X, eX⟩ : ∃ X, X = readAR t := ⟨_, rfl⟩
  rw [← eX]
  unfold readAR at eX
  refine ACalls.of mixed (fn := Tryz.f34) (by kernel_rfl) (by kernel_rfl) rfl (by kernel_rfl) (by simp [Tryz.f34]) (fun hok => ?_)
  by_cases hl : 2000 < t.length
  · rw [if_pos hl] at eX
    have hl' : (2000 < (t.length : Int)) = True := eq_true (by omega)
    subst eX
    simp -implicitDefEqProofs [hl, hl', noAddr, Addr.row]
  rw [if_neg hl] at eX
  have hl' : (2000 < (t.length : Int)) = False := eq_false (by omega)
  have hr := ref1_read t (by omega)
  unfold readD at hr
  cases h : readA t with
  | error k =>
    rw [h] at hr eX
    have k0 : (0 ≤ (k : Int)) = True := eq_true (by omega)
    subst eX
    simp only [noAddr, Addr.row] at hr ⊢
    simp -implicitDefEqProofs [hl, hl']
    refine ACallK.of hr ?_
    simp -implicitDefEqProofs [k0]
  | ok a =>
    rw [h] at hr eX
    subst eX
    obtain ⟨sc, ho, po, pa, qu, hq, fr, hf⟩ := a
    simp only [Addr.row] at hr ⊢
    simp -implicitDefEqProofs [hl, hl']
    refine ACallK.of hr ?_
    simp -implicitDefEqProofs
theorem ref2_within (n lo hi : Int) : ACalls Tryz.prog 140 [.one (.int .i64 n), .one (.int .i64 lo), .one (.int .i64 hi)] (.x (.one (.bool (inB lo hi n)))) := by
  refine ACalls.of mixed (fn := Tryz.f140) (by kernel_rfl) (by kernel_rfl) rfl (by kernel_rfl) (by simp [Tryz.f140]) (fun hok => ?_)
  simp -implicitDefEqProofs [inB]
theorem ref2_isDigits (s : List UInt8) : ACalls Tryz.prog 138 [.one (.str s)] (.x (.one (.bool (s.all isDig && decide (s ≠ []))))) := by
  obtain ⟨B, eB⟩ : ∃ B, B = (s.all isDig && decide (s ≠ [])) := ⟨_, rfl⟩
  rw [← eB]
  have hbad : ∀ i (h : i < s.length), isDig s[i] = false → B = false := fun i h hc => by rw [eB, all_bad h hc]; rfl
  refine ACalls.of mixed (fn := Tryz.f138) (by kernel_rfl) (by kernel_rfl) rfl (by kernel_rfl) (by simp [Tryz.f138]) (fun hok => ?_)
  simp -implicitDefEqProofs
  refine ALoopS.of Nat (fun i => [(0, .x (.one (.str s))), (3, .x (.one (.int .i64 i)))]) (Upto isDig s) (fun i => s.length - i) 0 Upto.zero ?_ ?_
  · simp
  intro i hi
  have hle := hi.1
  by_cases hlt : i < s.length
  · have hlt' : ((i : Int) < (s.length : Int)) = True := eq_true (by omega)
    have hwr : IntKind.i64.wrap ((i : Int) + 1) = (i : Int) + 1 := wrapS _ (by have := hok; simp [XV.ok, CV.ok, maxLen] at this; omega)
    by_cases c1 : s[i].toNat < 48
    · have c1' : ((s[i].toNat : Int) < 48) = True := eq_true (by omega)
      have hB := hbad i hlt (by simp [isDig]; omega)
      simp -implicitDefEqProofs [hlt, hlt', c1', c1, hB]
    · have c1' : ((s[i].toNat : Int) < 48) = False := eq_false (by omega)
      by_cases c2 : 57 < s[i].toNat
      · have c2' : (57 < (s[i].toNat : Int)) = True := eq_true (by omega)
        have hB := hbad i hlt (by simp [isDig]; omega)
        simp -implicitDefEqProofs [hlt, hlt', c1', c1, c2', c2, hB]
      · have c2' : (57 < (s[i].toNat : Int)) = False := eq_false (by omega)
        simp -implicitDefEqProofs [hlt, hlt', c1', c1, c2', c2, hwr]
        refine Again.of (i + 1) (hi.step hlt (by simp [isDig]; omega)) (by omega) (by simp [hwr])
  · have hlt' : ((i : Int) < (s.length : Int)) = False := eq_false (by omega)
    rw [hi.done hlt] at eB
    by_cases h0 : s = []
    · have hB : B = false := by rw [eB]; simp [h0]
      simp -implicitDefEqProofs [hlt', h0, hB]
    · have hB : B = true := by rw [eB]; simp [h0]
      simp -implicitDefEqProofs [hlt', h0, hB]
theorem ref2_capped (s : List UInt8) (h : s.all isDig = true) (h0 : 1 ≤ s.length) (h1 : s.length ≤ 4) : ACalls Tryz.prog 139 [.one (.str s), .one (.int .i64 9999)] (.x (.one (.int .i64 (decV s : Nat)))) := by
  refine ACalls.of mixed (fn := Tryz.f139) (by kernel_rfl) (by kernel_rfl) rfl (by kernel_rfl) (by simp [Tryz.f139]) (fun hok => ?_)
  simp -implicitDefEqProofs
  refine ALoopS.of Nat (fun i => [(0, .x (.one (.str (s.drop i)))), (1, .x (.one (.int .i64 9999)))]) (fun i => i + 1 ≤ s.length ∧ decV (s.drop i) = decV s) (fun i => s.length - i) 0 ⟨by omega, by simp⟩ ?_ ?_
  · simp
  rintro i ⟨hi, hv⟩
  obtain ⟨u, eu⟩ : ∃ u, u = s.drop i := ⟨_, rfl⟩
  have hul : u.length = s.length - i := by rw [eu, List.length_drop]
  have hud : u.all isDig = true := by
    rw [eu]
    rw [List.all_eq_true] at h ⊢
    exact fun x hx => h x (List.mem_of_mem_drop hx)
  have hnx : s.drop (i + 1) = u.drop 1 := by rw [eu, List.drop_drop]
  have hp : 0 < u.length := by omega
  have fin : ACalls Tryz.prog 72 [.one (.str u)] (.tup [.one (.int .i64 (decV u : Nat)), .one (.atom .nilIface)]) := strconv_Atoi1 u _ (by omega) (atoi_eq hud (by intro e; rw [e] at hp; simp at hp))
  have hb := decV_lt u hud
  have hb2 : decV u < 10000 := Nat.lt_of_lt_of_le hb (Nat.pow_le_pow_right (n := 10) (by omega) (show u.length ≤ 4 by omega))
  have hmin : min ((decV s : Nat) : Int) 9999 = ((decV s : Nat) : Int) := by rw [← hv, ← eu]; omega
  rw [← eu] at hv ⊢
  rw [hv] at fin
  have g15 : (15 < (u.length : Int)) = False := eq_false (by omega)
  have g15' : (15 < u.length) = False := eq_false (by omega)
  by_cases hc : 1 < u.length ∧ u[0] = 48
  · obtain ⟨c1, c2⟩ := hc
    have c1' : (1 < (u.length : Int)) = True := eq_true (by omega)
    have e2 : ((u[0].toNat : Int) = 48) = True := eq_true ((u8_int 48 (by omega)).2 c2)
    have f2 : ((u[0].toNat : Int) == 48) = true := by simpa using e2
    have c3 : (1 ≤ (u.length : Int)) = True := eq_true (by omega)
    have c4 : (1 ≤ u.length) = True := eq_true (by omega)
    have hdv : decV (u.drop 1) = decV u := by
      obtain ⟨a, r, hu⟩ : ∃ a r, u = a :: r := by
        cases u with
        | nil => simp at hp
        | cons a r => exact ⟨a, r, rfl⟩
      subst hu
      have ha : a = 48 := c2
      subst ha
      simp [decV]
    simp -implicitDefEqProofs [c1', c1, hp, e2, f2, c3, c4]
    refine Again.of (i + 1) ⟨by omega, by rw [hnx, hdv, hv]⟩ (by omega) ?_
    simp [hnx]
  · by_cases c1 : 1 < u.length
    · have c1' : (1 < (u.length : Int)) = True := eq_true (by omega)
      have c2 : ¬ u[0] = 48 := fun e => hc ⟨c1, e⟩
      have e2 : ((u[0].toNat : Int) = 48) = False := u8_int_ne 48 (by omega) c2
      have f2 : ((u[0].toNat : Int) == 48) = false := by simpa using e2
      simp -implicitDefEqProofs [c1', c1, hp, e2, f2, g15, g15']
      refine ACallK.of fin ?_
      simp -implicitDefEqProofs [hmin]
    · have c1' : (1 < (u.length : Int)) = False := eq_false (by omega)
      simp -implicitDefEqProofs [c1', c1, hp, g15, g15']
      refine ACallK.of fin ?_
      simp -implicitDefEqProofs [hmin]
end Go.Proofs.YtklnopamfncfgaaGreatDoor
namespace Go.Proofs.YtklnopamfncfgaaGreatDoor
open Go Go.Ab
set_option linter.unusedSectionVars false
variable [Amb] [HasPow10 Tryz.prog]
set_option maxRecDepth 100000
set_option maxHeartbeats 4000000

def dateS (W D M Y H I S : List UInt8) : List UInt8 := W ++ [44, 32] ++ D ++ [32] ++ M ++ [32] ++ Y ++ [32] ++ H ++ [58] ++ I ++ [58] ++ S ++ [32, 71, 77, 84]
theorem dateS_cut (W D M Y H I S : List UInt8) (l0 : W.length = 3) (l1 : D.length = 2) (l2 : M.length = 3) (l3 : Y.length = 4) (l4 : H.length = 2) (l5 : I.length = 2) (l6 : S.length = 2) :
    (dateS W D M Y H I S).length = 29 ∧ cutAt (dateS W D M Y H I S) 8 11 = M ∧ cutAt (dateS W D M Y H I S) 12 16 = Y ∧ cutAt (dateS W D M Y H I S) 5 7 = D ∧ cutAt (dateS W D M Y H I S) 17 19 = H ∧ cutAt (dateS W D M Y H I S) 20 22 = I ∧ cutAt (dateS W D M Y H I S) 23 25 = S := by
  match W, l0, D, l1, M, l2, Y, l3, H, l4, I, l5, S, l6 with
  | [w1, w2, w3], _, [d1, d2], _, [m1, m2, m3], _, [y1, y2, y3, y4], _, [h1, h2], _, [i1, i2], _, [s1, s2], _ => exact ⟨rfl, rfl, rfl, rfl, rfl, rfl, rfl⟩
theorem dateS_inj {W W' D M Y H I S : List UInt8} (h : W.length = W'.length) : (dateS W D M Y H I S = dateS W' D M Y H I S) ↔ W = W' := by
  constructor
  · intro e
    unfold dateS at e
    simp only [List.append_assoc] at e
    exact (List.append_inj e h).1
  · rintro rfl; rfl
def dN (Y D H I S : List UInt8) (m : Nat) : Int := dateN (decV Y : Nat) m (decV D : Nat) (decV H : Nat) (decV I : Nat) (decV S : Nat)
def dOk (Y D H I S : List UInt8) (m : Nat) : Prop := okDate (decV Y : Nat) m (decV D : Nat) (decV H : Nat) (decV I : Nat) (decV S : Nat)
def wdL (t : Int) : List UInt8 := weekL ((t / 86400 + 4) % 7).toNat
theorem dN_date {Y D H I S : List UInt8} {m : Nat} (hk : dOk Y D H I S m) (hY : Y.all isDig = true) (hD : D.all isDig = true) (hH : H.all isDig = true) (hI : I.all isDig = true) (hS : S.all isDig = true)
    (l1 : D.length = 2) (l3 : Y.length = 4) (l4 : H.length = 2) (l5 : I.length = 2) (l6 : S.length = 2) :
    momentB (dN Y D H I S m) = true ∧ dateL (dN Y D H I S m) = dateS (wdL (dN Y D H I S m)) D (monthL m) Y H I S := by
  have hy : (decV Y : Int) ≤ 9999 := by have := decV_lt Y hY; rw [l3] at this; omega
  obtain ⟨p0, p1, p2, p3, p4, p5, p6, p7⟩ := date_parts hk hy
  have e : dN Y D H I S m = dateN (decV Y : Nat) m (decV D : Nat) (decV H : Nat) (decV I : Nat) (decV S : Nat) := rfl
  refine ⟨by rw [e]; simp [momentB, inB, p0, p1], ?_⟩
  rw [← e] at p2 p3 p4 p5 p6 p7
  unfold dateL
  rw [p2, p3, p4, p5, p6, p7]
  simp only [Int.toNat_natCast]
  have q1 := padD_decV Y hY
  have q2 := padD_decV D hD
  have q3 := padD_decV H hH
  have q4 := padD_decV I hI
  have q5 := padD_decV S hS
  rw [l3] at q1; rw [l1] at q2; rw [l4] at q3; rw [l5] at q4; rw [l6] at q5
  rw [q1, q2, q3, q4, q5]
  rfl
theorem ref2_ReadDate (W D Y H I S : List UInt8) (m : Nat) (hY : Y.all isDig = true) (hD : D.all isDig = true) (hH : H.all isDig = true) (hI : I.all isDig = true) (hS : S.all isDig = true)
    (l0 : W.length = 3) (l1 : D.length = 2) (l3 : Y.length = 4) (l4 : H.length = 2) (l5 : I.length = 2) (l6 : S.length = 2) (hm : 1 ≤ m ∧ m ≤ 12) (B : Prop) [Decidable B] (hB : B ↔ (dOk Y D H I S m ∧ wdL (dN Y D H I S m) = W)) :
    ACalls Tryz.prog 78 [.one (.str (dateS W D (monthL m) Y H I S))] (.tup [.one (.int .i64 (if B then dN Y D H I S m else 0)), .one (.int .i64 (if B then 0 else 10))]) := by
  have lm := monthL_len m hm
  obtain ⟨hl, c1, c2, c3, c4, c5, c6⟩ := dateS_cut W D (monthL m) Y H I S l0 l1 lm l3 l4 l5 l6
  have hdt := fun hk => dN_date (Y := Y) (D := D) (H := H) (I := I) (S := S) (m := m) hk hY hD hH hI hS l1 l3 l4 l5 l6
  have hmon : ∀ j : Nat, 1 ≤ j ∧ j ≤ 12 → monthL j = monthL m → j = m := fun j h e => monthL_inj h hm e
  have hinj : ∀ V : List UInt8, V.length = 3 → ((dateS V D (monthL m) Y H I S = dateS W D (monthL m) Y H I S) ↔ V = W) := fun V h => dateS_inj (by omega)
  have hwl : ∀ t, (wdL t).length = 3 := fun t => weekL_len _ (by omega)
  obtain ⟨s, es⟩ : ∃ s, s = dateS W D (monthL m) Y H I S := ⟨_, rfl⟩
  rw [← es] at hl c1 c2 c3 c4 c5 c6 hinj ⊢
  have kY := decV_lt Y hY
  have kD := decV_lt D hD
  have kH := decV_lt H hH
  have kI := decV_lt I hI
  have kS := decV_lt S hS
  rw [l3] at kY; rw [l1] at kD; rw [l4] at kH; rw [l5] at kI; rw [l6] at kS
  have dgY := ref2_isDigits Y
  have dgD := ref2_isDigits D
  have dgH := ref2_isDigits H
  have dgI := ref2_isDigits I
  have dgS := ref2_isDigits S
  rw [hY, show decide (Y ≠ []) = true by simp; intro e; rw [e] at l3; cases l3] at dgY
  rw [hD, show decide (D ≠ []) = true by simp; intro e; rw [e] at l1; cases l1] at dgD
  rw [hH, show decide (H ≠ []) = true by simp; intro e; rw [e] at l4; cases l4] at dgH
  rw [hI, show decide (I ≠ []) = true by simp; intro e; rw [e] at l5; cases l5] at dgI
  rw [hS, show decide (S ≠ []) = true by simp; intro e; rw [e] at l6; cases l6] at dgS
  have cpY := ref2_capped Y hY (by omega) (by omega)
  have cpD := ref2_capped D hD (by omega) (by omega)
  have cpH := ref2_capped H hH (by omega) (by omega)
  have cpI := ref2_capped I hI (by omega) (by omega)
  have cpS := ref2_capped S hS (by omega) (by omega)
  have hB1 : B ↔ (okDate (decV Y : Nat) m (decV D : Nat) (decV H : Nat) (decV I : Nat) (decV S : Nat) ∧ wdL (dN Y D H I S m) = W) := hB
  have hdt2 : okDate (decV Y : Nat) m (decV D : Nat) (decV H : Nat) (decV I : Nat) (decV S : Nat) → momentB (dN Y D H I S m) = true ∧ (dateL (dN Y D H I S m) = s ↔ wdL (dN Y D H I S m) = W) := fun hk => by
    obtain ⟨h1, h2⟩ := hdt hk
    refine ⟨h1, ?_⟩
    rw [h2]
    exact hinj _ (hwl _)
  have hN : dN Y D H I S m = (dY (decV Y : Nat) + dM (decV Y : Nat) m + (decV D : Nat) - 1) * 86400 + (decV H : Nat) * 3600 + (decV I : Nat) * 60 + (decV S : Nat) := rfl
  clear hB hdt hinj es hwl
  generalize dN Y D H I S m = N at hB1 hdt2 hN ⊢
  generalize decV Y = y at cpY kY hB1 hdt2 hN
  generalize decV D = d at cpD kD hB1 hdt2 hN
  generalize decV H = h at cpH kH hB1 hdt2 hN
  generalize decV I = mi at cpI kI hB1 hdt2 hN
  generalize decV S = se at cpS kS hB1 hdt2 hN
  unfold okDate at hB1 hdt2
  refine ACalls.of mixed (fn := Tryz.f78) (by kernel_rfl) (by kernel_rfl) rfl (by kernel_rfl) (by simp [Tryz.f78]) (fun hok => ?_)
  simp -implicitDefEqProofs [hl]
  refine ALoopS.of Nat (fun i => [(0, .x (.one (.str s))), (4, .box [.int .i64 ((if 0 < i then d else 0 : Nat) : Int), .int .i64 ((if 1 < i then y else 0 : Nat) : Int), .int .i64 ((if 2 < i then h else 0 : Nat) : Int), .int .i64 ((if 3 < i then mi else 0 : Nat) : Int), .int .i64 ((if 4 < i then se else 0 : Nat) : Int)]), (16, .own 3 1 [[.int .i64 5], [.int .i64 12], [.int .i64 17], [.int .i64 20], [.int .i64 23]]), (17, .x (.one (.int .i64 5))), (18, .x (.one (.int .i64 i)))]) (fun i => i = 0 ∨ i = 1 ∨ i = 2 ∨ i = 3 ∨ i = 4 ∨ i = 5) (fun i => 5 - i) 0 (.inl rfl) ?_ ?_
  · simp
  have W1 : IntKind.i64.wrap 1 = 1 := wrapS _ (by omega)
  have W2 : IntKind.i64.wrap 2 = 2 := wrapS _ (by omega)
  have W3 : IntKind.i64.wrap 3 = 3 := wrapS _ (by omega)
  have W4 : IntKind.i64.wrap 4 = 4 := wrapS _ (by omega)
  have W5 : IntKind.i64.wrap 5 = 5 := wrapS _ (by omega)
  have W7 : IntKind.i64.wrap 7 = 7 := wrapS _ (by omega)
  have W16 : IntKind.i64.wrap 16 = 16 := wrapS _ (by omega)
  have W19 : IntKind.i64.wrap 19 = 19 := wrapS _ (by omega)
  have W22 : IntKind.i64.wrap 22 = 22 := wrapS _ (by omega)
  have W25 : IntKind.i64.wrap 25 = 25 := wrapS _ (by omega)
  rintro i (rfl | rfl | rfl | rfl | rfl | rfl)
  · simp -implicitDefEqProofs [hl, W7, c3]
    refine ACallK.of dgD ?_
    simp -implicitDefEqProofs [hl, W7, c3]
    refine ACallK.of cpD ?_
    simp -implicitDefEqProofs [hl, W7, c3]
    refine Again.of 1 (by omega) (by omega) ?_
    simp [W1]
  · simp -implicitDefEqProofs [hl, W16, c2]
    refine ACallK.of dgY ?_
    simp -implicitDefEqProofs [hl, W16, c2]
    refine ACallK.of cpY ?_
    simp -implicitDefEqProofs [hl, W16, c2]
    refine Again.of 2 (by omega) (by omega) ?_
    simp [W2]
  · simp -implicitDefEqProofs [hl, W19, c4]
    refine ACallK.of dgH ?_
    simp -implicitDefEqProofs [hl, W19, c4]
    refine ACallK.of cpH ?_
    simp -implicitDefEqProofs [hl, W19, c4]
    refine Again.of 3 (by omega) (by omega) ?_
    simp [W3]
  · simp -implicitDefEqProofs [hl, W22, c5]
    refine ACallK.of dgI ?_
    simp -implicitDefEqProofs [hl, W22, c5]
    refine ACallK.of cpI ?_
    simp -implicitDefEqProofs [hl, W22, c5]
    refine Again.of 4 (by omega) (by omega) ?_
    simp [W4]
  · simp -implicitDefEqProofs [hl, W25, c6]
    refine ACallK.of dgS ?_
    simp -implicitDefEqProofs [hl, W25, c6]
    refine ACallK.of cpS ?_
    simp -implicitDefEqProofs [hl, W25, c6]
    refine Again.of 5 (by omega) (by omega) ?_
    simp [W5]
  simp -implicitDefEqProofs
  refine ALoopS.of Nat (fun j => [(0, .x (.one (.str s))), (4, .box [.int .i64 (d : Int), .int .i64 (y : Int), .int .i64 (h : Int), .int .i64 (mi : Int), .int .i64 (se : Int)]), (8, .x (.one (.int .i64 j)))]) (fun j => 1 ≤ j ∧ j ≤ m) (fun j => m - j) 1 ⟨by omega, hm.1⟩ ?_ ?_
  · simp
  rintro j ⟨j1, j2⟩
  have j12 : ((j : Int) ≤ 12) = True := eq_true (by omega)
  have wj : IntKind.i64.wrap ((j : Int) + 1) = (j : Int) + 1 := wrapS _ (by omega)
  have hmj := ref2_monthName j ⟨by omega, by omega⟩
  by_cases hjm : j = m
  rotate_left
  · have hne : ¬ monthL j = monthL m := fun e => hjm (hmon j ⟨by omega, by omega⟩ e)
    simp -implicitDefEqProofs [j12, hl, c1]
    refine ACallGS.of (fun _ => hmj) rfl ?_
    simp -implicitDefEqProofs [j12, hl, c1, hne, wj]
    refine Again.of (j + 1) ⟨by omega, by omega⟩ (by omega) (by simp [wj])
  subst hjm
  have g12 : (12 < (j : Int)) = False := eq_false (by omega)
  by_cases k1 : (1970 : Int) ≤ y
  rotate_left
  · have fk1 : ((y : Int) < 1970) = True := eq_true (by omega)
    have hb : ¬ B := fun hb => by have := (hB1.1 hb).1; omega
    rw [if_neg hb, if_neg hb]
    simp -implicitDefEqProofs [j12, hl, c1]
    refine ACallGS.of (fun _ => hmj) rfl ?_
    simp -implicitDefEqProofs [j12, hl, c1, g12, fk1]
    refine ACallGS.of (fun h => by cases h) (r := .x (.one (.int .i64 0))) rfl ?_
    simp -implicitDefEqProofs [g12, fk1]
    refine ACallGS.of (fun h => by cases h) (r := .x (.one (.bool false))) rfl ?_
    simp -implicitDefEqProofs [g12, fk1]
  have fk1 : ((y : Int) < 1970) = False := eq_false (by omega)
  by_cases k2 : (h : Int) ≤ 23
  rotate_left
  · have fk2 : (23 < (h : Int)) = True := eq_true (by omega)
    have hb : ¬ B := fun hb => by have := (hB1.1 hb).1; omega
    rw [if_neg hb, if_neg hb]
    simp -implicitDefEqProofs [j12, hl, c1]
    refine ACallGS.of (fun _ => hmj) rfl ?_
    simp -implicitDefEqProofs [j12, hl, c1, g12, fk1, fk2]
    refine ACallGS.of (fun h => by cases h) (r := .x (.one (.int .i64 0))) rfl ?_
    simp -implicitDefEqProofs [g12, fk1, fk2]
    refine ACallGS.of (fun h => by cases h) (r := .x (.one (.bool false))) rfl ?_
    simp -implicitDefEqProofs [g12, fk1, fk2]
  have fk2 : (23 < (h : Int)) = False := eq_false (by omega)
  by_cases k3 : (mi : Int) ≤ 59
  rotate_left
  · have fk3 : (59 < (mi : Int)) = True := eq_true (by omega)
    have hb : ¬ B := fun hb => by have := (hB1.1 hb).1; omega
    rw [if_neg hb, if_neg hb]
    simp -implicitDefEqProofs [j12, hl, c1]
    refine ACallGS.of (fun _ => hmj) rfl ?_
    simp -implicitDefEqProofs [j12, hl, c1, g12, fk1, fk2, fk3]
    refine ACallGS.of (fun h => by cases h) (r := .x (.one (.int .i64 0))) rfl ?_
    simp -implicitDefEqProofs [g12, fk1, fk2, fk3]
    refine ACallGS.of (fun h => by cases h) (r := .x (.one (.bool false))) rfl ?_
    simp -implicitDefEqProofs [g12, fk1, fk2, fk3]
  have fk3 : (59 < (mi : Int)) = False := eq_false (by omega)
  by_cases k4 : (se : Int) ≤ 59
  rotate_left
  · have fk4 : (59 < (se : Int)) = True := eq_true (by omega)
    have hb : ¬ B := fun hb => by have := (hB1.1 hb).1; omega
    rw [if_neg hb, if_neg hb]
    simp -implicitDefEqProofs [j12, hl, c1]
    refine ACallGS.of (fun _ => hmj) rfl ?_
    simp -implicitDefEqProofs [j12, hl, c1, g12, fk1, fk2, fk3, fk4]
    refine ACallGS.of (fun h => by cases h) (r := .x (.one (.int .i64 0))) rfl ?_
    simp -implicitDefEqProofs [g12, fk1, fk2, fk3, fk4]
    refine ACallGS.of (fun h => by cases h) (r := .x (.one (.bool false))) rfl ?_
    simp -implicitDefEqProofs [g12, fk1, fk2, fk3, fk4]
  have fk4 : (59 < (se : Int)) = False := eq_false (by omega)
  have hmd := ref2_monthDays (y : Int) (j : Int) (by omega) (by omega)
  have hmp := mLen_pos (y : Int) (j : Int)
  simp -implicitDefEqProofs [j12, hl, c1]
  refine ACallGS.of (fun _ => hmj) rfl ?_
  simp -implicitDefEqProofs [j12, hl, c1, g12, fk1, fk2, fk3, fk4]
  refine ACallGS.of (fun _ => hmd) rfl ?_
  simp -implicitDefEqProofs [g12, fk1, fk2, fk3, fk4]
  refine ACallGS.of (fun _ => ref2_within _ _ _) rfl ?_
  cases k5 : inB 1 (mLen (y : Int) (j : Int)) (d : Int)
  · have hb : ¬ B := fun hb => by
      have := (hB1.1 hb).1.2.2.1
      simp [inB] at k5
      omega
    rw [if_neg hb, if_neg hb]
    simp -implicitDefEqProofs [g12, fk1, fk2, fk3, fk4]
  have k5' : 1 ≤ (d : Int) ∧ (d : Int) ≤ mLen (y : Int) (j : Int) := by simpa only [inB, Bool.and_eq_true, decide_eq_true_eq] using k5
  have hk : 1970 ≤ (y : Int) ∧ (1 ≤ (j : Int) ∧ (j : Int) ≤ 12) ∧ (1 ≤ (d : Int) ∧ (d : Int) ≤ mLen (y : Int) (j : Int)) ∧ (0 ≤ (h : Int) ∧ (h : Int) ≤ 23) ∧ (0 ≤ (mi : Int) ∧ (mi : Int) ≤ 59) ∧ (0 ≤ (se : Int) ∧ (se : Int) ≤ 59) := ⟨k1, by omega, k5', by omega, by omega, by omega⟩
  obtain ⟨hM, hDL⟩ := hdt2 hk
  have hBW : B ↔ dateL N = s := by rw [hB1, hDL]; exact ⟨fun x => x.2, fun x => ⟨hk, x⟩⟩
  have wd : IntKind.i64.wrap ((d : Int) - 1) = (d : Int) - 1 := wrapS _ (by omega)
  have hrd := ref2_DateOf N hM
  have b0 : ∀ z : Int, 1970 ≤ z → z ≤ 10000 → 0 ≤ dY z ∧ dY z ≤ 2932897 := fun z h1 h2 => by
    have a1 := dY_mono (a := 1970) (b := z) h1
    have a2 := dY_mono (a := z) (b := 10000) h2
    rw [dY_1970] at a1
    have a3 : dY 10000 = 2932897 := by decide
    omega
  have bm : ∀ z : Int, 1 ≤ z → z ≤ 13 → 0 ≤ dM (y : Int) z ∧ dM (y : Int) z ≤ 366 := fun z h1 h2 => by
    have a1 := dM_mono (y : Int) (a := 1) (b := z) (by omega) h1
    have a2 := dM_mono (y : Int) (a := z) (b := 13) (by omega) h2
    rw [dM_one] at a1
    rw [dM_year] at a2
    have := yLen_pos (y : Int)
    omega
  simp -implicitDefEqProofs [g12, fk1, fk2, fk3, fk4, k5, wd]
  refine ALoopS.of Nat (fun z => [(0, .x (.one (.str s))), (4, .box [.int .i64 (d : Int), .int .i64 (y : Int), .int .i64 (h : Int), .int .i64 (mi : Int), .int .i64 (se : Int)]), (8, .x (.one (.int .i64 j))), (9, .x (.one (.int .i64 ((d : Int) - 1 + dY z)))), (10, .x (.one (.int .i64 z)))]) (fun z => 1970 ≤ z ∧ z ≤ y) (fun z => y - z) 1970 ⟨by omega, by omega⟩ ?_ ?_
  · simp [dY_1970]
  rintro z ⟨z1, z2⟩
  obtain ⟨bz1, bz2⟩ := b0 z (by omega) (by omega)
  by_cases hz : z < y
  · have hz' : ((z : Int) < (y : Int)) = True := eq_true (by omega)
    have hyl := yLen_pos (z : Int)
    have hyd := ref2_yearDays (z : Int) (by omega)
    have w1 : IntKind.i64.wrap ((d : Int) - 1 + dY z + yLen z) = (d : Int) - 1 + dY z + yLen z := wrapS _ (by omega)
    have w2 : IntKind.i64.wrap ((z : Int) + 1) = (z : Int) + 1 := wrapS _ (by omega)
    have hst := dY_step (z : Int)
    simp -implicitDefEqProofs [hz, hz']
    refine ACallK.of hyd ?_
    simp -implicitDefEqProofs [hz, hz', w1, w2]
    refine Again.of (z + 1) ⟨by omega, by omega⟩ (by omega) ?_
    simp [w1, w2]
    omega
  have hz' : ((z : Int) < (y : Int)) = False := eq_false (by omega)
  have hzy : z = y := by omega
  subst hzy
  simp -implicitDefEqProofs [hz']
  refine ALoopS.of Nat (fun n => [(0, .x (.one (.str s))), (4, .box [.int .i64 (d : Int), .int .i64 (z : Int), .int .i64 (h : Int), .int .i64 (mi : Int), .int .i64 (se : Int)]), (8, .x (.one (.int .i64 j))), (9, .x (.one (.int .i64 ((d : Int) - 1 + dY z + dM z n)))), (11, .x (.one (.int .i64 n)))]) (fun n => 1 ≤ n ∧ n ≤ j) (fun n => j - n) 1 ⟨by omega, by omega⟩ ?_ ?_
  · simp [dM_one]
  rintro n ⟨n1, n2⟩
  obtain ⟨bn1, bn2⟩ := bm n (by omega) (by omega)
  by_cases hn : n < j
  · have hn' : ((n : Int) < (j : Int)) = True := eq_true (by omega)
    have hml := mLen_pos (z : Int) (n : Int)
    have hmd2 := ref2_monthDays (z : Int) (n : Int) (by omega) (by omega)
    have w1 : IntKind.i64.wrap ((d : Int) - 1 + dY z + dM z n + mLen z n) = (d : Int) - 1 + dY z + dM z n + mLen z n := wrapS _ (by omega)
    have w2 : IntKind.i64.wrap ((n : Int) + 1) = (n : Int) + 1 := wrapS _ (by omega)
    have hst := dM_step (z : Int) (n : Int) (by omega)
    simp -implicitDefEqProofs [hn, hn']
    refine ACallK.of hmd2 ?_
    simp -implicitDefEqProofs [hn, hn', w1, w2]
    refine Again.of (n + 1) ⟨by omega, by omega⟩ (by omega) ?_
    simp [w1, w2]
    omega
  have hn' : ((n : Int) < (j : Int)) = False := eq_false (by omega)
  have hnj : n = j := by omega
  subst hnj
  obtain ⟨Q, eQ⟩ : ∃ Q, Q = dY (z : Int) := ⟨_, rfl⟩
  obtain ⟨R, eR⟩ : ∃ R, R = dM (z : Int) (n : Int) := ⟨_, rfl⟩
  rw [← eQ] at bz1 bz2 hN ⊢
  rw [← eR] at bn1 bn2 hN ⊢
  have e3 : IntKind.i64.wrap (((d : Int) - 1 + Q + R) * 86400) = ((d : Int) - 1 + Q + R) * 86400 := wrapS _ (by omega)
  have e4 : IntKind.i64.wrap ((h : Int) * 3600) = (h : Int) * 3600 := wrapS _ (by omega)
  have e5 : IntKind.i64.wrap (((d : Int) - 1 + Q + R) * 86400 + (h : Int) * 3600) = ((d : Int) - 1 + Q + R) * 86400 + h * 3600 := wrapS _ (by omega)
  have e6 : IntKind.i64.wrap ((mi : Int) * 60) = (mi : Int) * 60 := wrapS _ (by omega)
  have e7 : IntKind.i64.wrap (((d : Int) - 1 + Q + R) * 86400 + (h : Int) * 3600 + (mi : Int) * 60) = ((d : Int) - 1 + Q + R) * 86400 + h * 3600 + mi * 60 := wrapS _ (by omega)
  have e8 : IntKind.i64.wrap (((d : Int) - 1 + Q + R) * 86400 + (h : Int) * 3600 + (mi : Int) * 60 + (se : Int)) = ((d : Int) - 1 + Q + R) * 86400 + h * 3600 + mi * 60 + se := wrapS _ (by omega)
  have hN2 : ((d : Int) - 1 + Q + R) * 86400 + h * 3600 + mi * 60 + se = N := by rw [hN]; omega
  have e8 := e8.trans hN2
  simp -implicitDefEqProofs [hn', e3, e4, e5, e6, e7, e8]
  refine ACallK.of hrd ?_
  by_cases hb : B
  · have hd := hBW.1 hb
    rw [if_pos hb, if_pos hb]
    simp -implicitDefEqProofs [hd]
  · have hd : ¬ dateL N = s := fun e => hb (hBW.2 e)
    rw [if_neg hb, if_neg hb]
    simp -implicitDefEqProofs [hd]
end Go.Proofs.YtklnopamfncfgaaGreatDoor
namespace Go.Proofs.YtklnopamfncfgaaGreatDoor
open Go Go.Ab
set_option linter.unusedSectionVars false
variable [Amb] [HasPow10 Tryz.prog]
set_option maxRecDepth 100000
set_option maxHeartbeats 4000000

theorem atoi_digits {s : List UInt8} (h : s.all isDig = true) (h0 : 1 ≤ s.length) (h1 : s.length ≤ 4) : ACalls Tryz.prog 72 [.one (.str s)] (.tup [.one (.int .i64 (decV s : Nat)), .one (.atom .nilIface)]) :=
  strconv_Atoi1 s _ (by omega) (atoi_eq h (by intro e; rw [e] at h0; simp at h0))
theorem all_cut {p : UInt8 → Bool} {s : List UInt8} (h : s.all p = true) (i j : Nat) : ((s.take j).drop i).all p = true := by
  rw [List.all_eq_true] at h ⊢
  exact fun x hx => h x (List.mem_of_mem_take (List.mem_of_mem_drop hx))
theorem message_MomentOf (s : List UInt8) : ACalls Tryz.prog 31 [.one (.str s)] (.tup [.one (.int .i64 ((momentL s).getD 0)), .one (.bool (momentL s).isSome)]) := by
  obtain ⟨M, eM⟩ : ∃ M, M = momentL s := ⟨_, rfl⟩
  rw [← eM]
  unfold momentL at eM
  refine ACalls.of mixed (fn := Tryz.f31) (by kernel_rfl) (by kernel_rfl) rfl (by kernel_rfl) (by simp [Tryz.f31]) (fun hok => ?_)
  by_cases hl : s.length = 14
  rotate_left
  · have g1 : ((s.length : Int) = 14) = False := eq_false (by omega)
    have g2 : ((s.length : Int) != 14) = true := by rw [bne_iff_ne]; omega
    rw [if_neg (fun h => hl h.1.1)] at eM
    subst eM
    simp -implicitDefEqProofs [g1, g2, hl]
    refine ACallGS.of (fun h => by cases h) (r := .x (.one (.str []))) rfl ?_
    simp -implicitDefEqProofs
  have ht := strings_Trim s digCt (by decide) (by decide)
  cases hd : s.all isDig
  · rw [if_neg (fun h => by rw [hd] at h; cases h.1.2)] at eM
    have hne : ¬ Lib.trimS s digCt = [] := fun e => by rw [(trim_digt s).1 e] at hd; cases hd
    generalize Lib.trimS s digCt = T at ht hne
    subst eM
    simp -implicitDefEqProofs [hl]
    refine ACallGS.of (fun _ => ht) rfl ?_
    simp -implicitDefEqProofs [hne]
  have hT : Lib.trimS s digCt = [] := (trim_digt s).2 hd
  rw [hT] at ht
  have q1 : cutAt s 0 4 = (s.take 4).drop 0 := by simp [cutAt]
  have q2 : cutAt s 4 6 = (s.take 6).drop 4 := by simp [cutAt]
  have q3 : cutAt s 6 8 = (s.take 8).drop 6 := by simp [cutAt]
  have q4 : cutAt s 8 10 = (s.take 10).drop 8 := by simp [cutAt]
  have q5 : cutAt s 10 12 = (s.take 12).drop 10 := by simp [cutAt]
  have q6 : cutAt s 12 14 = (s.take 14).drop 12 := by simp [cutAt]
  obtain ⟨ps, eps⟩ : ∃ ps, ps = [(s.take 4).drop 0, (s.take 6).drop 4, (s.take 8).drop 6, (s.take 10).drop 8, (s.take 12).drop 10, (s.take 14).drop 12] := ⟨_, rfl⟩
  have hpl : ps.length = 6 := by rw [eps]; rfl
  have hpd : ∀ x ∈ ps, x.all isDig = true ∧ 1 ≤ x.length ∧ x.length ≤ 4 := by
    intro x hx
    rw [eps] at hx
    simp only [List.mem_cons, List.not_mem_nil, or_false] at hx
    rcases hx with rfl | rfl | rfl | rfl | rfl | rfl
    all_goals exact ⟨all_cut hd _ _, by rw [List.length_drop, List.length_take]; omega, by rw [List.length_drop, List.length_take]; omega⟩
  simp -implicitDefEqProofs [hl]
  refine ACallGS.of (fun _ => ht) rfl ?_
  simp -implicitDefEqProofs [hl, q1, q2, q3, q4, q5, q6]
  refine ALoopS.of Nat (fun i => [(4, .own 3 1 ((ps.take i).map fun x => [.int .i64 (decV x : Nat)])), (29, .own 9 1 (ps.map fun x => [.str x])), (30, .x (.one (.int .i64 6))), (31, .x (.one (.int .i64 i)))]) (fun i => i ≤ ps.length) (fun i => ps.length - i) 0 (Nat.zero_le _) ?_ ?_
  · simp [eps, List.take_take, List.drop_take]
  intro i hi
  by_cases hlt : i < ps.length
  · have hlt6 : i < 6 := by omega
    have hlt' : ((i : Int) < 6) = True := eq_true (by omega)
    have hwr : IntKind.i64.wrap ((i : Int) + 1) = (i : Int) + 1 := wrapS _ (by omega)
    obtain ⟨d1, d2, d3⟩ := hpd ps[i] (List.getElem_mem hlt)
    have hst : (ps.take (i + 1)).map (fun x => [CV.int .i64 (decV x : Nat)]) = (ps.take i).map (fun x => [CV.int .i64 (decV x : Nat)]) ++ [[CV.int .i64 (decV ps[i] : Nat)]] := by
      rw [List.take_succ_eq_append_getElem hlt, List.map_append]; rfl
    have hm : (ps.take i).length + 1 ≤ maxLen := by rw [List.length_take]; unfold maxLen; omega
    simp -implicitDefEqProofs [hlt, hlt', hlt6]
    refine ACallK.of (atoi_digits d1 d2 d3) ?_
    have hm2 : min i ps.length + 1 ≤ maxLen := by unfold maxLen; omega
    have hm3 : i + 1 ≤ maxLen := by unfold maxLen; omega
    simp -implicitDefEqProofs [hm, hm2, hm3, hwr]
    refine ⟨by omega, Again.of (i + 1) hlt (by omega) ?_⟩
    simp [hst, hwr]
  have hge : ¬ i < 6 := by omega
  have hlt' : ((i : Int) < 6) = False := eq_false (by omega)
  have hn : ∀ i j, i ≤ j → j ≤ 14 → (numAt s i j : Nat) < 10 ^ (j - i) := by
    intro i j h1 h2
    have := decV_lt _ (all_cut hd i j)
    have hlen : ((s.take j).drop i).length = j - i := by rw [List.length_drop, List.length_take]; omega
    rw [hlen] at this
    exact this
  have n1 := hn 0 4 (by omega) (by omega)
  have n2 := hn 4 6 (by omega) (by omega)
  have n3 := hn 6 8 (by omega) (by omega)
  have n4 := hn 8 10 (by omega) (by omega)
  have n5 := hn 10 12 (by omega) (by omega)
  have n6 := hn 12 14 (by omega) (by omega)
  have hps : (ps.take i).map (fun x => [CV.int .i64 (decV x : Nat)]) = [[.int .i64 (numAt s 0 4 : Nat)], [.int .i64 (numAt s 4 6 : Nat)], [.int .i64 (numAt s 6 8 : Nat)], [.int .i64 (numAt s 8 10 : Nat)], [.int .i64 (numAt s 10 12 : Nat)], [.int .i64 (numAt s 12 14 : Nat)]] := by
    rw [List.take_of_length_le (by omega), eps]; rfl
  rw [hps]
  generalize numAt s 0 4 = y at eM n1 ⊢
  generalize numAt s 4 6 = m at eM n2 ⊢
  generalize numAt s 6 8 = d at eM n3 ⊢
  generalize numAt s 8 10 = h at eM n4 ⊢
  generalize numAt s 10 12 = mi at eM n5 ⊢
  generalize numAt s 12 14 = se at eM n6 ⊢
  clear hps hpd eps
  simp only [hl, hd, and_self, true_and] at eM
  have eM1 : okDate y m d h mi se → M = some (dateN y m d h mi se) := fun hk => by rw [eM, if_pos hk]
  have eM0 : ¬ okDate y m d h mi se → M = none := fun hk => by rw [eM, if_neg hk]
  clear eM
  unfold okDate at eM1 eM0
  have hml := message_monthLong (y : Int) (m : Int) (by omega)
  have hmp := mLen_pos (y : Int) (m : Int)
  obtain ⟨L, eL⟩ : ∃ L, L = mLen (y : Int) (m : Int) := ⟨_, rfl⟩
  rw [← eL] at hml eM0 eM1 hmp
  by_cases c1 : (1970 : Int) ≤ y
  rotate_left
  · have fc1 : ((y : Int) < 1970) = True := eq_true (by omega)
    have eM := eM0 (by intro hh; exact c1 (by omega))
    subst eM
    simp -implicitDefEqProofs [hlt', hge, fc1]
    refine ACallGS.of (fun h => by cases h) (r := .x (.one (.int .i64 0))) rfl ?_
    simp -implicitDefEqProofs [fc1]
  have fc1 : ((y : Int) < 1970) = False := eq_false (by omega)
  by_cases c2 : (1 : Int) ≤ m
  rotate_left
  · have fc2 : ((m : Int) < 1) = True := eq_true (by omega)
    have eM := eM0 (by intro hh; exact c2 (by omega))
    subst eM
    simp -implicitDefEqProofs [hlt', hge, fc1, fc2]
    refine ACallGS.of (fun h => by cases h) (r := .x (.one (.int .i64 0))) rfl ?_
    simp -implicitDefEqProofs [fc1, fc2]
  have fc2 : ((m : Int) < 1) = False := eq_false (by omega)
  by_cases c3 : (m : Int) ≤ 12
  rotate_left
  · have fc3 : (12 < (m : Int)) = True := eq_true (by omega)
    have eM := eM0 (by intro hh; exact c3 (by omega))
    subst eM
    simp -implicitDefEqProofs [hlt', hge, fc1, fc2, fc3]
    refine ACallGS.of (fun h => by cases h) (r := .x (.one (.int .i64 0))) rfl ?_
    simp -implicitDefEqProofs [fc1, fc2, fc3]
  have fc3 : (12 < (m : Int)) = False := eq_false (by omega)
  by_cases c4 : (1 : Int) ≤ d
  rotate_left
  · have fc4 : ((d : Int) < 1) = True := eq_true (by omega)
    have eM := eM0 (by intro hh; exact c4 (by omega))
    subst eM
    simp -implicitDefEqProofs [hlt', hge, fc1, fc2, fc3, fc4]
    refine ACallGS.of (fun h => by cases h) (r := .x (.one (.int .i64 0))) rfl ?_
    simp -implicitDefEqProofs [fc1, fc2, fc3, fc4]
  have fc4 : ((d : Int) < 1) = False := eq_false (by omega)
  by_cases c5 : (d : Int) ≤ L
  rotate_left
  · have fc5 : (L < (d : Int)) = True := eq_true (by omega)
    have eM := eM0 (by intro hh; exact c5 (by omega))
    subst eM
    simp -implicitDefEqProofs [hlt', hge, fc1, fc2, fc3, fc4, fc5]
    refine ACallGS.of (fun _ => hml) rfl ?_
    simp -implicitDefEqProofs [fc1, fc2, fc3, fc4, fc5]
  have fc5 : (L < (d : Int)) = False := eq_false (by omega)
  by_cases c6 : (h : Int) ≤ 23
  rotate_left
  · have fc6 : (23 < (h : Int)) = True := eq_true (by omega)
    have eM := eM0 (by intro hh; exact c6 (by omega))
    subst eM
    simp -implicitDefEqProofs [hlt', hge, fc1, fc2, fc3, fc4, fc5, fc6]
    refine ACallGS.of (fun _ => hml) rfl ?_
    simp -implicitDefEqProofs [fc1, fc2, fc3, fc4, fc5, fc6]
  have fc6 : (23 < (h : Int)) = False := eq_false (by omega)
  by_cases c7 : (mi : Int) ≤ 59
  rotate_left
  · have fc7 : (59 < (mi : Int)) = True := eq_true (by omega)
    have eM := eM0 (by intro hh; exact c7 (by omega))
    subst eM
    simp -implicitDefEqProofs [hlt', hge, fc1, fc2, fc3, fc4, fc5, fc6, fc7]
    refine ACallGS.of (fun _ => hml) rfl ?_
    simp -implicitDefEqProofs [fc1, fc2, fc3, fc4, fc5, fc6, fc7]
  have fc7 : (59 < (mi : Int)) = False := eq_false (by omega)
  by_cases c8 : (se : Int) ≤ 59
  rotate_left
  · have fc8 : (59 < (se : Int)) = True := eq_true (by omega)
    have eM := eM0 (by intro hh; exact c8 (by omega))
    subst eM
    simp -implicitDefEqProofs [hlt', hge, fc1, fc2, fc3, fc4, fc5, fc6, fc7, fc8]
    refine ACallGS.of (fun _ => hml) rfl ?_
    simp -implicitDefEqProofs [fc1, fc2, fc3, fc4, fc5, fc6, fc7, fc8]
  have fc8 : (59 < (se : Int)) = False := eq_false (by omega)
  have eM := eM1 (by omega)
  subst eM
  have hdy := message_days (y : Int) (m : Int) (by omega) (by omega)
  obtain ⟨N, eN⟩ : ∃ N, N = dY (y : Int) + dM (y : Int) (m : Int) := ⟨_, rfl⟩
  rw [← eN] at hdy
  simp -implicitDefEqProofs [hlt', hge, fc1, fc2, fc3, fc4, fc5, fc6, fc7, fc8]
  refine ACallGS.of (fun _ => hml) rfl ?_
  simp -implicitDefEqProofs [fc1, fc2, fc3, fc4, fc5, fc6, fc7, fc8]
  refine ACallK.of hdy ?_
  have hNb : (-719163 : Int) ≤ N ∧ N ≤ 3700000 := by
    have h1 := dY_mono (a := 1970) (b := (y : Int)) c1
    have h2 := dY_mono (a := (y : Int)) (b := 9999) (by omega)
    have h3 := dM_mono (y : Int) (a := 1) (b := (m : Int)) (by omega) c2
    have h4 := dM_mono (y : Int) (a := (m : Int)) (b := 13) (by omega) (by omega)
    rw [dM_one] at h3
    rw [dM_year] at h4
    have h5 := yLen_pos (y : Int)
    rw [dY_1970] at h1
    have h6 : dY 9999 = 2932532 := by decide
    omega
  have e1 : IntKind.i64.wrap (N + (d : Int)) = N + d := wrapS _ (by omega)
  have e2 : IntKind.i64.wrap (N + (d : Int) - 1) = N + d - 1 := wrapS _ (by omega)
  have e3 : IntKind.i64.wrap ((N + (d : Int) - 1) * 86400) = (N + d - 1) * 86400 := wrapS _ (by omega)
  have e4 : IntKind.i64.wrap ((h : Int) * 3600) = (h : Int) * 3600 := wrapS _ (by omega)
  have e5 : IntKind.i64.wrap ((N + (d : Int) - 1) * 86400 + (h : Int) * 3600) = (N + d - 1) * 86400 + h * 3600 := wrapS _ (by omega)
  have e6 : IntKind.i64.wrap ((mi : Int) * 60) = (mi : Int) * 60 := wrapS _ (by omega)
  have e7 : IntKind.i64.wrap ((N + (d : Int) - 1) * 86400 + (h : Int) * 3600 + (mi : Int) * 60) = (N + d - 1) * 86400 + h * 3600 + mi * 60 := wrapS _ (by omega)
  have e8 : IntKind.i64.wrap ((N + (d : Int) - 1) * 86400 + (h : Int) * 3600 + (mi : Int) * 60 + (se : Int)) = (N + d - 1) * 86400 + h * 3600 + mi * 60 + se := wrapS _ (by omega)
  simp -implicitDefEqProofs [e1, e2, e3, e4, e5, e6, e7, e8]
  unfold dateN
  rw [← eN]
end Go.Proofs.YtklnopamfncfgaaGreatDoor
namespace Go.Proofs.YtklnopamfncfgaaGreatDoor
open Go Go.Ab
set_option linter.unusedSectionVars false
variable [Amb] [HasPow10 Tryz.prog]
set_option maxRecDepth 100000
set_option maxHeartbeats 4000000

theorem textL_len (a : Addr) : (textL a).length ≤ 2000 := by
  unfold textL
  split
  · rename_i h; exact (addrF_ok h).2.2.2.2.2.2.2.2
  · simp
theorem textL_ok {a : Addr} (h : addrF a = 0) : textL a = writeL a := by unfold textL; rw [if_pos h]
theorem leadB_len {s : List UInt8} (h : leadB s = true) : 1 ≤ s.length ∧ s.length ≤ 200 := by
  unfold leadB inB at h
  simp only [Bool.and_eq_true, decide_eq_true_eq] at h
  omega
theorem replay_ReplayText (l : List UInt8) (t : Int) (a : Addr) (h : a.Fit) : ACalls Tryz.prog 7 [.one (.str l), .one (.int .i64 t), .agg a.row] (.tup [.one (.str (replayL l t a)), .one (.int .i64 (replayF l t a))]) := by
  have ht := address_Text a h
  have hT := textL_len a
  have hW := fun e => textL_ok (a := a) e
  obtain ⟨F, eF⟩ : ∃ F, F = replayF l t a := ⟨_, rfl⟩
  obtain ⟨L, eL⟩ : ∃ L, L = replayL l t a := ⟨_, rfl⟩
  have eL' := eL
  unfold replayL at eL'
  rw [← eF] at eL' ⊢
  rw [← eL]
  unfold replayF at eF
  clear eL
  generalize textL a = T at ht hT hW
  generalize writeL a = W at hW eL'
  generalize addrF a = G at ht hW eF
  obtain ⟨sc, ho, po, pa, qu, hq, fr, hf⟩ := a
  simp only [Addr.row] at ht ⊢
  refine ACalls.of mixed (fn := Tryz.f7) (by kernel_rfl) (by kernel_rfl) rfl (by kernel_rfl) (by simp [Tryz.f7]) (fun hok => ?_)
  simp -implicitDefEqProofs
  refine ACallK.of (replay_isLead l) ?_
  cases b1 : leadB l
  · rw [if_pos b1] at eF
    rw [eF, if_neg (by omega)] at eL'
    subst eF; subst eL'
    simp -implicitDefEqProofs
  rw [if_neg (by simp [b1])] at eF
  obtain ⟨l1, l2⟩ := leadB_len b1
  simp -implicitDefEqProofs
  refine ACallK.of (isMoment t) ?_
  cases b2 : momentB t
  · rw [if_pos b2] at eF
    rw [eF, if_neg (by omega)] at eL'
    subst eF; subst eL'
    simp -implicitDefEqProofs
  rw [if_neg (by simp [b2])] at eF
  subst eF
  simp -implicitDefEqProofs
  refine ACallK.of ht ?_
  by_cases hF : F = 0
  · rw [hF, if_pos rfl, ← hW hF] at eL'
    have hs := stampL_len t
    have hst := index_Stamp t b2
    generalize stampL t = S at hs hst eL'
    subst hF
    have m1 : l.length + 1 ≤ maxLen := by unfold maxLen; omega
    have m2 : l.length + 1 + S.length ≤ maxLen := by unfold maxLen; omega
    have m3 : l.length + 1 + S.length + 1 ≤ maxLen := by unfold maxLen; omega
    have m4 : l.length + 1 + S.length + 1 + T.length ≤ maxLen := by unfold maxLen; omega
    subst eL'
    simp -implicitDefEqProofs [m1]
    refine ACallK.of hst ?_
    simp -implicitDefEqProofs [m1, m2]
    unfold maxLen; omega
  · have hb : (F == 0) = false := by simpa using hF
    rw [if_neg hF] at eL'
    subst eL'
    simp -implicitDefEqProofs [hF, hb]
theorem replay_ReadReplay (l x : List UInt8) : ACalls Tryz.prog 9 [.one (.str l), .one (.str x)] (.tup [.one (.int .i64 (readRp l x).1), .agg (readRp l x).2.1.row, .one (.int .i64 (readRp l x).2.2)]) := by
  obtain ⟨X, eX⟩ : ∃ X, X = readRp l x := ⟨_, rfl⟩
  rw [← eX]
  unfold readRp restL at eX
  refine ACalls.of mixed (fn := Tryz.f9) (by kernel_rfl) (by kernel_rfl) rfl (by kernel_rfl) (by simp [Tryz.f9]) (fun hok => ?_)
  simp -implicitDefEqProofs
  refine ACallK.of (replay_isLead l) ?_
  cases b1 : leadB l
  · rw [if_pos b1] at eX
    subst eX
    simp -implicitDefEqProofs [noAddr, Addr.row]
  rw [if_neg (by simp [b1])] at eX
  obtain ⟨l1, l2⟩ := leadB_len b1
  have m1 : l.length + 1 ≤ maxLen := by unfold maxLen; omega
  have hcp := strings_CutPrefix x (l ++ [47])
  have hll : (l ++ [47]).length = l.length + 1 := by simp
  rw [hll] at hcp
  unfold hasPre at hcp
  simp -implicitDefEqProofs [m1]
  refine ACallK.of hcp ?_
  cases b2 : (l ++ [47]).isPrefixOf x
  · rw [b2] at eX
    subst eX
    simp -implicitDefEqProofs [noAddr, Addr.row]
  rw [b2] at eX
  simp only [if_true] at eX ⊢
  obtain ⟨r, er⟩ : ∃ r, r = x.drop (l.length + 1) := ⟨_, rfl⟩
  rw [← er] at eX ⊢
  have hg : goodL r = (decide (15 ≤ r.length) && decide (r[14]? = some 47)) := rfl
  by_cases b3 : 15 ≤ r.length
  rotate_left
  · have g1 : ((r.length : Int) < 15) = True := eq_true (by omega)
    rw [if_pos (by rw [hg]; simp; omega)] at eX
    subst eX
    simp -implicitDefEqProofs [g1, noAddr, Addr.row]
  have g1 : ((r.length : Int) < 15) = False := eq_false (by omega)
  have h14 : 14 < r.length := by omega
  have h14' : (14 < (r.length : Int)) = True := eq_true (by omega)
  have e14 : r[14]? = some r[14] := List.getElem?_eq_getElem h14
  by_cases b4 : r[14] = 47
  rotate_left
  · have f1 : ((r[14].toNat : Int) = 47) = False := eq_false (fun e => b4 ((u8_int 47 (by omega)).1 e))
    have f2 : ((r[14].toNat : Int) != 47) = true := by rw [bne_iff_ne]; exact fun e => b4 ((u8_int 47 (by omega)).1 e)
    rw [if_pos (by rw [hg, e14]; simp [b4])] at eX
    subst eX
    simp -implicitDefEqProofs [g1, h14, h14', f1, f2, noAddr, Addr.row]
  have f1 : ((r[14].toNat : Int) = 47) = True := eq_true ((u8_int 47 (by omega)).2 b4)
  have f2 : ((r[14].toNat : Int) != 47) = false := by rw [bne_eq_false_iff_eq]; exact (u8_int 47 (by omega)).2 b4
  rw [if_neg (by rw [hg, e14]; simp [b3, b4])] at eX
  have hm := message_MomentOf (r.take 14)
  have ha := address_Read (r.drop 15)
  have g2 : (14 ≤ (r.length : Int)) = True := eq_true (by omega)
  have g3 : (15 ≤ (r.length : Int)) = True := eq_true (by omega)
  have q1 : cutAt r 0 14 = r.take 14 := by simp [cutAt]
  generalize readAR (r.drop 15) = A at ha eX
  obtain ⟨⟨sc, ho, po, pa, qu, hq, fr, hf⟩, n2, A⟩ := A
  simp only [Addr.row] at ha eX
  generalize momentL (r.take 14) = M at hm eX
  simp -implicitDefEqProofs [g1, h14, h14', f1, f2, g2, g3, q1]
  refine ACallK.of hm ?_
  simp -implicitDefEqProofs [g1, h14, h14', f1, f2, g2, g3, q1]
  refine ACallK.of ha ?_
  cases M with
  | none =>
    subst eX
    simp -implicitDefEqProofs [noAddr, Addr.row]
  | some n =>
    by_cases hA : A = 0
    · have hb : (A == 0) = true := by simpa using hA
      simp only [hA, ne_eq, not_true_eq_false, if_false] at eX
      subst eX
      simp -implicitDefEqProofs [hA, hb, Addr.row]
      refine AltR.r ⟨[10], by kernel_rfl, ?_⟩
      simp -implicitDefEqProofs [hA, hb, Addr.row]
    · have hb : (A == 0) = false := by simpa using hA
      simp only [ne_eq, hA, not_false_eq_true, if_true] at eX
      subst eX
      simp -implicitDefEqProofs [hA, hb, noAddr, Addr.row]
end Go.Proofs.YtklnopamfncfgaaGreatDoor
namespace Go.Proofs.YtklnopamfncfgaaGreatDoor
open Go Go.Ab
set_option linter.unusedSectionVars false
variable [Amb] [HasPow10 Tryz.prog]
set_option maxRecDepth 100000
set_option maxHeartbeats 4000000

theorem ref9_stamp (t : Int) (h : momentB t = true) : ACalls Tryz.prog 29 [.one (.int .i64 t)] (.x (.one (.str (stampL t)))) := by
  refine ACalls.of mixed (fn := Tryz.f29) (by kernel_rfl) (by kernel_rfl) rfl (by kernel_rfl) (by simp [Tryz.f29]) (fun hok => ?_)
  obtain ⟨_, hm, _⟩ := date_ok h
  obtain ⟨hl, c1, c2, c3, c4, c5, c6⟩ := dateL_cut t h
  unfold stampL
  obtain ⟨M, eM⟩ : ∃ M : Nat, (monthOf (t / 86400)).toNat = M := ⟨_, rfl⟩
  have hM : 1 ≤ M ∧ M ≤ 12 := by omega
  rw [eM] at c1 ⊢
  obtain ⟨i1, i2⟩ := itoa_month M hM
  have hmon : ∀ m : Nat, 1 ≤ m ∧ m ≤ 12 → monthL m = monthL M → m = M := fun m h e => monthL_inj h hM e
  have lm := monthL_len M hM
  simp -implicitDefEqProofs
  refine ACallK.of (ref2_DateOf t h) ?_
  obtain ⟨s, es⟩ : ∃ s, s = dateL t := ⟨_, rfl⟩
  rw [← es] at hl c1 c2 c3 c4 c5 c6 ⊢
  clear es
  generalize padD 4 (yearOf (t / 86400)).toNat = Y at c2 ⊢
  generalize padD 2 (dayOf (t / 86400)).toNat = D at c3 ⊢
  generalize padD 2 (t % 86400 / 3600).toNat = H at c4 ⊢
  generalize padD 2 (t % 86400 / 60 % 60).toNat = I at c5 ⊢
  generalize padD 2 (t % 86400 % 60).toNat = S at c6 ⊢
  have cl : ∀ a b : Nat, a ≤ b → b ≤ 29 → (cutAt s a b).length = b - a := by
    intro a b h1 h2
    unfold cutAt
    simp [hl]; omega
  have lY : Y.length = 4 := by rw [← c2]; exact cl 12 16 (by omega) (by omega)
  have lD : D.length = 2 := by rw [← c3]; exact cl 5 7 (by omega) (by omega)
  have lH : H.length = 2 := by rw [← c4]; exact cl 17 19 (by omega) (by omega)
  have lI : I.length = 2 := by rw [← c5]; exact cl 20 22 (by omega) (by omega)
  have lS : S.length = 2 := by rw [← c6]; exact cl 23 25 (by omega) (by omega)
  simp -implicitDefEqProofs
  refine ALoopS.of Nat (fun m => [(3, .x (.one (.str s))), (4, .x (.one (.int .i64 m)))]) (fun m => 1 ≤ m ∧ m ≤ M) (fun m => M - m) 1 ⟨by omega, hM.1⟩ ?_ ?_
  · simp
  rintro m ⟨g1, g2⟩
  have w1 : IntKind.i64.wrap (3 * (m : Int)) = 3 * m := wrapS _ (by omega)
  have w2 : IntKind.i64.wrap (3 * (m : Int) - 3) = 3 * m - 3 := wrapS _ (by omega)
  have w3 : IntKind.i64.wrap ((m : Int) + 1) = (m : Int) + 1 := wrapS _ (by omega)
  have hcm : cutAt [74, 97, 110, 70, 101, 98, 77, 97, 114, 65, 112, 114, 77, 97, 121, 74, 117, 110, 74, 117, 108, 65, 117, 103, 83, 101, 112, 79, 99, 116, 78, 111, 118, 68, 101, 99] (3 * (m : Int) - 3) (3 * (m : Int)) = monthL m := by
    unfold cutAt monthL monthsL
    rw [show (3 * (m : Int) - 3).toNat = 3 * m - 3 by omega, show (3 * (m : Int)).toNat = 3 * m by omega, List.drop_take]
    congr 1
    omega
  have b1 : (0 ≤ 3 * (m : Int) - 3) = True := eq_true (by omega)
  have b2 : (3 * (m : Int) - 3 ≤ 3 * (m : Int)) = True := eq_true (by omega)
  have b3 : (3 * (m : Int) ≤ 36) = True := eq_true (by omega)
  by_cases hmM : m = M
  · subst hmM
    have w4 : IntKind.i64.wrap (100 + (m : Int)) = 100 + m := wrapS _ (by omega)
    simp -implicitDefEqProofs [hl, w1, w2, hcm, c1, b1, b2, b3, w4]
    refine ⟨by omega, ACallK.of (strconv_Itoa (100 + (m : Int)) (by unfold I64; omega)) ?_⟩
    have i3 : cutAt (itoaL (100 + (m : Int))) 1 3 = padD 2 m := by
      unfold cutAt
      rw [show (3 : Int).toNat = 3 from rfl, show (1 : Int).toNat = 1 from rfl, ← i1]
      rw [List.take_of_length_le (by omega)]
    have l3 := padD_len 2 m
    simp -implicitDefEqProofs [hl, c2, c3, c4, c5, c6, lY, lD, lH, lI, lS, i1, i2, i3, l3]
  · have hne : ¬ monthL M = monthL m := fun e => hmM (hmon m ⟨by omega, by omega⟩ e.symm)
    simp -implicitDefEqProofs [hl, w1, w2, hcm, c1, b1, b2, b3, hne, w3]
    refine ⟨by omega, Again.of (m + 1) ⟨by omega, by omega⟩ (by omega) ?_⟩
    simp
theorem weekL_inj {a b : Nat} (ha : a < 7) (hb : b < 7) (h : weekL a = weekL b) : a = b := by
  have : ∀ x y : Fin 7, weekL x.val = weekL y.val → x = y := by decide
  have := congrArg Fin.val (this ⟨a, ha⟩ ⟨b, hb⟩ h)
  simpa using this
theorem ref9_momentOf (s : List UInt8) : ACalls Tryz.prog 33 [.one (.str s)] (.tup [.one (.int .i64 ((momentL s).getD 0)), .one (.bool (momentL s).isSome)]) := by
  obtain ⟨X, eX⟩ : ∃ X, X = momentL s := ⟨_, rfl⟩
  rw [← eX]
  unfold momentL at eX
  refine ACalls.of mixed (fn := Tryz.f33) (by kernel_rfl) (by kernel_rfl) rfl (by kernel_rfl) (by simp [Tryz.f33]) (fun hok => ?_)
  by_cases hl : s.length = 14
  rotate_left
  · have g1 : ((s.length : Int) = 14) = False := eq_false (by omega)
    have g2 : ((s.length : Int) != 14) = true := by rw [bne_iff_ne]; omega
    rw [if_neg (fun h => hl h.1.1)] at eX
    subst eX
    simp -implicitDefEqProofs [g1, g2, hl]
  have hbad : ∀ i (h : i < s.length), isDig s[i] = false → X = none := fun i h hc => by
    rw [eX, if_neg]
    rintro ⟨⟨_, ha⟩, _⟩
    rw [all_bad h hc] at ha; cases ha
  simp -implicitDefEqProofs [hl]
  refine ALoopS.of Nat (fun i => [(0, .x (.one (.str s))), (4, .x (.one (.int .i64 i)))]) (Upto isDig s) (fun i => s.length - i) 0 Upto.zero ?_ ?_
  · simp
  intro i hi
  have hle := hi.1
  by_cases hlt : i < s.length
  · have hlt' : ((i : Int) < (s.length : Int)) = True := eq_true (by omega)
    have hlt14 : i < 14 := by omega
    have hlt14' : ((i : Int) < 14) = True := eq_true (by omega)
    have hwr : IntKind.i64.wrap ((i : Int) + 1) = (i : Int) + 1 := wrapS _ (by omega)
    by_cases c1 : s[i].toNat < 48
    · have c1' : ((s[i].toNat : Int) < 48) = True := eq_true (by omega)
      have hB := hbad i hlt (by simp [isDig]; omega)
      subst hB
      simp -implicitDefEqProofs [hlt, hlt', hlt14, hlt14', c1', c1, hl]
    · have c1' : ((s[i].toNat : Int) < 48) = False := eq_false (by omega)
      by_cases c2 : 57 < s[i].toNat
      · have c2' : (57 < (s[i].toNat : Int)) = True := eq_true (by omega)
        have hB := hbad i hlt (by simp [isDig]; omega)
        subst hB
        simp -implicitDefEqProofs [hlt, hlt', hlt14, hlt14', c1', c1, c2', c2, hl]
      · have c2' : (57 < (s[i].toNat : Int)) = False := eq_false (by omega)
        simp -implicitDefEqProofs [hlt, hlt', hlt14, hlt14', c1', c1, c2', c2, hwr, hl]
        refine Again.of (i + 1) (hi.step hlt (by simp [isDig]; omega)) (by omega) (by simp [hwr])
  have hlt' : ((i : Int) < (s.length : Int)) = False := eq_false (by omega)
  have hlt14 : ¬ i < 14 := by omega
  have hlt14' : ((i : Int) < 14) = False := eq_false (by omega)
  have hd := hi.done hlt
  clear hbad
  have lens : ∀ i j, i ≤ j → j ≤ 14 → ((s.take j).drop i).length = j - i := fun i j h1 h2 => by rw [List.length_drop, List.length_take]; omega
  have q1 : cutAt s 0 4 = (s.take 4).drop 0 := by simp [cutAt]
  have q2 : cutAt s 4 6 = (s.take 6).drop 4 := by simp [cutAt]
  have q3 : cutAt s 6 8 = (s.take 8).drop 6 := by simp [cutAt]
  have q4 : cutAt s 8 10 = (s.take 10).drop 8 := by simp [cutAt]
  have q5 : cutAt s 10 12 = (s.take 12).drop 10 := by simp [cutAt]
  have q6 : cutAt s 12 14 = (s.take 14).drop 12 := by simp [cutAt]
  have a1 := all_cut hd 0 4
  have a2 := all_cut hd 4 6
  have a3 := all_cut hd 6 8
  have a4 := all_cut hd 8 10
  have a5 := all_cut hd 10 12
  have a6 := all_cut hd 12 14
  have b1 := lens 0 4 (by omega) (by omega)
  have b2 := lens 4 6 (by omega) (by omega)
  have b3 := lens 6 8 (by omega) (by omega)
  have b4 := lens 8 10 (by omega) (by omega)
  have b5 := lens 10 12 (by omega) (by omega)
  have b6 := lens 12 14 (by omega) (by omega)
  have eX1 : okDate (numAt s 0 4 : Nat) (numAt s 4 6 : Nat) (numAt s 6 8 : Nat) (numAt s 8 10 : Nat) (numAt s 10 12 : Nat) (numAt s 12 14 : Nat) → X = some (dateN (numAt s 0 4 : Nat) (numAt s 4 6 : Nat) (numAt s 6 8 : Nat) (numAt s 8 10 : Nat) (numAt s 10 12 : Nat) (numAt s 12 14 : Nat)) := fun hk => by rw [eX, if_pos ⟨⟨hl, hd⟩, hk⟩]
  have eX0 : ¬ okDate (numAt s 0 4 : Nat) (numAt s 4 6 : Nat) (numAt s 6 8 : Nat) (numAt s 8 10 : Nat) (numAt s 10 12 : Nat) (numAt s 12 14 : Nat) → X = none := fun hk => by rw [eX, if_neg (fun h => hk h.2)]
  clear eX lens
  simp only [Nat.reduceSub] at b1 b2 b3 b4 b5 b6
  unfold numAt at eX1 eX0
  have hat := atoi_digits a2 (by omega) (by omega)
  generalize (s.take 4).drop 0 = Y at a1 b1 q1 eX1 eX0
  generalize hM : (s.take 6).drop 4 = M2 at a2 b2 q2 eX1 eX0 hat
  generalize (s.take 8).drop 6 = D at a3 b3 q3 eX1 eX0
  generalize (s.take 10).drop 8 = H at a4 b4 q4 eX1 eX0
  generalize (s.take 12).drop 10 = I at a5 b5 q5 eX1 eX0
  generalize (s.take 14).drop 12 = S at a6 b6 q6 eX1 eX0
  obtain ⟨m, em⟩ : ∃ m, m = decV M2 := ⟨_, rfl⟩
  rw [← em] at hat eX1 eX0
  have hm100 : m < 100 := by rw [em]; have := decV_lt M2 a2; rw [b2] at this; omega
  have eX1' : dOk Y D H I S m → X = some (dN Y D H I S m) := eX1
  have eX0' : ¬ dOk Y D H I S m → X = none := eX0
  clear eX1 eX0 em hM
  simp -implicitDefEqProofs [hl, hlt14', hlt14, q2]
  refine ACallK.of hat ?_
  simp -implicitDefEqProofs
  refine ACallK.of (ref9_within _ _ _) ?_
  by_cases hm : 1 ≤ m ∧ m ≤ 12
  rotate_left
  · have hin : inB 1 12 (m : Int) = false := by
      cases hin : inB 1 12 (m : Int) with
      | false => rfl
      | true => simp only [inB, Bool.and_eq_true, decide_eq_true_eq] at hin; omega
    have hB := eX0' (fun hk => by have := hk.2.1; omega)
    subst hB
    rw [hin]
    simp -implicitDefEqProofs
  have hin : inB 1 12 (m : Int) = true := by simp only [inB, Bool.and_eq_true, decide_eq_true_eq]; omega
  rw [hin]
  have w1 : IntKind.i64.wrap (3 * (m : Int)) = 3 * m := wrapS _ (by omega)
  have w2 : IntKind.i64.wrap (3 * (m : Int) - 3) = 3 * m - 3 := wrapS _ (by omega)
  have hcm : cutAt [74, 97, 110, 70, 101, 98, 77, 97, 114, 65, 112, 114, 77, 97, 121, 74, 117, 110, 74, 117, 108, 65, 117, 103, 83, 101, 112, 79, 99, 116, 78, 111, 118, 68, 101, 99] (3 * (m : Int) - 3) (3 * (m : Int)) = monthL m := by
    unfold cutAt monthL monthsL
    rw [show (3 * (m : Int) - 3).toNat = 3 * m - 3 by omega, show (3 * (m : Int)).toNat = 3 * m by omega, List.drop_take]
    congr 1
    omega
  have c1 : (0 ≤ 3 * (m : Int) - 3) = True := eq_true (by omega)
  have c2 : (3 * (m : Int) - 3 ≤ 3 * (m : Int)) = True := eq_true (by omega)
  have c3 : (3 * (m : Int) ≤ 36) = True := eq_true (by omega)
  have lm := monthL_len m hm
  obtain ⟨ws, ews⟩ : ∃ ws, ws = (List.range 7).map weekL := ⟨_, rfl⟩
  have hwl : ws.length = 7 := by rw [ews]; simp
  have hwi : ∀ i (h : i < ws.length), ws[i] = weekL i := fun i h => by subst ews; simp
  have hws : ws = [[83, 117, 110], [77, 111, 110], [84, 117, 101], [87, 101, 100], [84, 104, 117], [70, 114, 105], [83, 97, 116]] := by rw [ews]; decide
  simp -implicitDefEqProofs [w1, w2, hcm, c1, c2, c3]
  refine ⟨by omega, ALoopS.of Nat (fun i => [(0, .x (.one (.str s))), (7, .x (.one (.str (monthL m)))), (46, .own 9 1 (ws.map fun x => [.str x])), (47, .x (.one (.int .i64 7))), (48, .x (.one (.int .i64 i)))]) (fun i => i ≤ 7 ∧ ∀ j, j < i → ¬ (dOk Y D H I S m ∧ wdL (dN Y D H I S m) = weekL j)) (fun i => 7 - i) 0 ⟨by omega, fun j h => by omega⟩ ?_ ?_⟩
  · simp [hws]
  clear hws ews
  rintro i ⟨hi7, hno⟩
  by_cases hl7 : i < 7
  rotate_left
  · have hl7' : ((i : Int) < 7) = False := eq_false (by omega)
    have hB := eX0' (fun hk => hno ((dN Y D H I S m / 86400 + 4) % 7).toNat (by omega) ⟨hk, rfl⟩)
    subst hB
    simp -implicitDefEqProofs [hl7', hl7]
  have hl7' : ((i : Int) < 7) = True := eq_true (by omega)
  have hiw : i < ws.length := by omega
  have hwr : IntKind.i64.wrap ((i : Int) + 1) = (i : Int) + 1 := wrapS _ (by omega)
  have lw : ws[i].length = 3 := by rw [hwi i hiw]; exact weekL_len i hl7
  have hmx : ∀ n, n ≤ 100 → (n ≤ maxLen) = True := fun n h => eq_true (by unfold maxLen; omega)
  by_cases hb : dOk Y D H I S m ∧ wdL (dN Y D H I S m) = ws[i]
  · have hrd := ref2_ReadDate ws[i] D Y H I S m a1 a3 a4 a5 a6 lw b3 b1 b4 b5 b6 hm True ⟨fun _ => hb, fun _ => trivial⟩
    rw [if_pos trivial, if_pos trivial] at hrd
    simp only [dateS, List.append_assoc, List.cons_append, List.nil_append] at hrd
    have hB := eX1' hb.1
    subst hB
    simp -implicitDefEqProofs [hl7', hl7, hiw, hl, q1, q3, q4, q5, q6, lw, lm, b1, b3, b4, b5, b6, hmx]
    refine ACallK.of hrd ?_
    simp -implicitDefEqProofs
  · have hrd := ref2_ReadDate ws[i] D Y H I S m a1 a3 a4 a5 a6 lw b3 b1 b4 b5 b6 hm False ⟨fun h => h.elim, fun h => hb h⟩
    rw [if_neg (fun h => h), if_neg (fun h => h)] at hrd
    simp only [dateS, List.append_assoc, List.cons_append, List.nil_append] at hrd
    simp -implicitDefEqProofs [hl7', hl7, hiw, hl, q1, q3, q4, q5, q6, lw, lm, b1, b3, b4, b5, b6, hmx]
    refine ACallK.of hrd ?_
    simp -implicitDefEqProofs [hwr]
    refine Again.of (i + 1) ⟨by omega, fun j hj => ?_⟩ (by omega) (by simp [hwr])
    by_cases hji : j = i
    · subst hji; rw [← hwi j hiw]; exact hb
    · exact hno j (by omega)
theorem ref9_ReplayText (l : List UInt8) (t : Int) (a : Addr) (h : a.Fit) : ACalls Tryz.prog 8 [.one (.str l), .one (.int .i64 t), .agg a.row] (.tup [.one (.str (replayL l t a)), .one (.int .i64 (replayF l t a))]) := by
  have ht := ref1_Text a h
  have hT := textL_len a
  have hW := fun e => textL_ok (a := a) e
  obtain ⟨F, eF⟩ : ∃ F, F = replayF l t a := ⟨_, rfl⟩
  obtain ⟨L, eL⟩ : ∃ L, L = replayL l t a := ⟨_, rfl⟩
  have eL' := eL
  unfold replayL at eL'
  rw [← eF] at eL' ⊢
  rw [← eL]
  unfold replayF at eF
  clear eL
  generalize textL a = T at ht hT hW
  generalize writeL a = W at hW eL'
  generalize addrF a = G at ht hW eF
  obtain ⟨sc, ho, po, pa, qu, hq, fr, hf⟩ := a
  simp only [Addr.row] at ht ⊢
  refine ACalls.of mixed (fn := Tryz.f8) (by kernel_rfl) (by kernel_rfl) rfl (by kernel_rfl) (by simp [Tryz.f8]) (fun hok => ?_)
  simp -implicitDefEqProofs
  refine ACallK.of (ref9_isLead l) ?_
  cases b1 : leadB l
  · rw [if_pos b1] at eF
    rw [eF, if_neg (by omega)] at eL'
    subst eF; subst eL'
    simp -implicitDefEqProofs
  rw [if_neg (by simp [b1])] at eF
  obtain ⟨l1, l2⟩ := leadB_len b1
  simp -implicitDefEqProofs
  refine ACallK.of (ref9_within t 0 253402300799) ?_
  rw [show inB 0 253402300799 t = momentB t from rfl]
  cases b2 : momentB t
  · rw [if_pos b2] at eF
    rw [eF, if_neg (by omega)] at eL'
    subst eF; subst eL'
    simp -implicitDefEqProofs
  rw [if_neg (by simp [b2])] at eF
  subst eF
  simp -implicitDefEqProofs
  refine ACallK.of ht ?_
  by_cases hF : F = 0
  · rw [hF, if_pos rfl, ← hW hF] at eL'
    have hs := stampL_len t
    have hst := ref9_stamp t b2
    generalize stampL t = S at hs hst eL'
    subst hF
    have m1 : l.length + 1 ≤ maxLen := by unfold maxLen; omega
    have m2 : l.length + 1 + S.length ≤ maxLen := by unfold maxLen; omega
    have m3 : l.length + 1 + S.length + 1 ≤ maxLen := by unfold maxLen; omega
    have m4 : l.length + 1 + S.length + 1 + T.length ≤ maxLen := by unfold maxLen; omega
    subst eL'
    simp -implicitDefEqProofs [m1]
    refine ACallK.of hst ?_
    simp -implicitDefEqProofs [m1, m2]
    unfold maxLen; omega
  · have hb : (F == 0) = false := by simpa using hF
    rw [if_neg hF] at eL'
    subst eL'
    simp -implicitDefEqProofs [hF, hb]
theorem ref9_ReadReplay (l x : List UInt8) : ACalls Tryz.prog 10 [.one (.str l), .one (.str x)] (.tup [.one (.int .i64 (readRp l x).1), .agg (readRp l x).2.1.row, .one (.int .i64 (readRp l x).2.2)]) := by
  obtain ⟨X, eX⟩ : ∃ X, X = readRp l x := ⟨_, rfl⟩
  rw [← eX]
  unfold readRp restL at eX
  refine ACalls.of mixed (fn := Tryz.f10) (by kernel_rfl) (by kernel_rfl) rfl (by kernel_rfl) (by simp [Tryz.f10]) (fun hok => ?_)
  simp -implicitDefEqProofs
  refine ACallK.of (ref9_isLead l) ?_
  cases b1 : leadB l
  · rw [if_pos b1] at eX
    subst eX
    simp -implicitDefEqProofs [noAddr, Addr.row]
  rw [if_neg (by simp [b1])] at eX
  obtain ⟨l1, l2⟩ := leadB_len b1
  have m1 : l.length + 1 ≤ maxLen := by unfold maxLen; omega
  have hcp := strings_CutPrefix x (l ++ [47])
  have hll : (l ++ [47]).length = l.length + 1 := by simp
  rw [hll] at hcp
  unfold hasPre at hcp
  simp -implicitDefEqProofs [m1]
  refine ACallK.of hcp ?_
  cases b2 : (l ++ [47]).isPrefixOf x
  · rw [b2] at eX
    subst eX
    simp -implicitDefEqProofs [noAddr, Addr.row]
  rw [b2] at eX
  simp only [if_true] at eX ⊢
  obtain ⟨r, er⟩ : ∃ r, r = x.drop (l.length + 1) := ⟨_, rfl⟩
  rw [← er] at eX ⊢
  have hg : goodL r = (decide (15 ≤ r.length) && decide (r[14]? = some 47)) := rfl
  by_cases b3 : 15 ≤ r.length
  rotate_left
  · have g1 : ((r.length : Int) < 15) = True := eq_true (by omega)
    rw [if_pos (by rw [hg]; simp; omega)] at eX
    subst eX
    simp -implicitDefEqProofs [g1, noAddr, Addr.row]
  have g1 : ((r.length : Int) < 15) = False := eq_false (by omega)
  have h14 : 14 < r.length := by omega
  have h14' : (14 < (r.length : Int)) = True := eq_true (by omega)
  have e14 : r[14]? = some r[14] := List.getElem?_eq_getElem h14
  by_cases b4 : r[14] = 47
  rotate_left
  · have f1 : ((r[14].toNat : Int) = 47) = False := eq_false (fun e => b4 ((u8_int 47 (by omega)).1 e))
    have f2 : ((r[14].toNat : Int) != 47) = true := by rw [bne_iff_ne]; exact fun e => b4 ((u8_int 47 (by omega)).1 e)
    rw [if_pos (by rw [hg, e14]; simp [b4])] at eX
    subst eX
    simp -implicitDefEqProofs [g1, h14, h14', f1, f2, noAddr, Addr.row]
  have f1 : ((r[14].toNat : Int) = 47) = True := eq_true ((u8_int 47 (by omega)).2 b4)
  have f2 : ((r[14].toNat : Int) != 47) = false := by rw [bne_eq_false_iff_eq]; exact (u8_int 47 (by omega)).2 b4
  rw [if_neg (by rw [hg, e14]; simp [b3, b4])] at eX
  have hm := ref9_momentOf (r.take 14)
  have ha := ref1_Read (r.drop 15)
  have g2 : (14 ≤ (r.length : Int)) = True := eq_true (by omega)
  have g3 : (15 ≤ (r.length : Int)) = True := eq_true (by omega)
  have q1 : cutAt r 0 14 = r.take 14 := by simp [cutAt]
  generalize readAR (r.drop 15) = A at ha eX
  obtain ⟨⟨sc, ho, po, pa, qu, hq, fr, hf⟩, n2, A⟩ := A
  simp only [Addr.row] at ha eX
  generalize momentL (r.take 14) = M at hm eX
  simp -implicitDefEqProofs [g1, h14, h14', f1, f2, g2, g3, q1]
  refine ACallK.of hm ?_
  simp -implicitDefEqProofs [g1, h14, h14', f1, f2, g2, g3, q1]
  refine ACallK.of ha ?_
  cases M with
  | none =>
    subst eX
    simp -implicitDefEqProofs [noAddr, Addr.row]
  | some n =>
    by_cases hA : A = 0
    · have hb : (A == 0) = true := by simpa using hA
      simp only [hA, ne_eq, not_true_eq_false, if_false] at eX
      subst eX
      simp -implicitDefEqProofs [hA, hb, Addr.row]
      refine AltR.r ⟨[10], by kernel_rfl, ?_⟩
      simp -implicitDefEqProofs [hA, hb, Addr.row]
    · have hb : (A == 0) = false := by simpa using hA
      simp only [ne_eq, hA, not_false_eq_true, if_true] at eX
      subst eX
      simp -implicitDefEqProofs [hA, hb, noAddr, Addr.row]
end Go.Proofs.YtklnopamfncfgaaGreatDoor
namespace Go.Proofs.YtklnopamfncfgaaGreatDoor
open Go Go.Ab
set_option linter.unusedSectionVars false
variable [Amb]
set_option maxRecDepth 100000
set_option maxHeartbeats 4000000

theorem replay_checkParts0 : ACalls Tryz.prog 80 [.one .nil] (.x (.one (.int .i64 0))) := by
  refine ACalls.of mixed (fn := Tryz.f80) (by kernel_rfl) (by kernel_rfl) rfl (by kernel_rfl) (by simp [Tryz.f80]) (fun hok => ?_)
  simp -implicitDefEqProofs +contextual [-Bool.and_eq_false_imp, Bool.and_eq_false_iff]
  refine ALoopS.of Unit (fun _ => [(8, .x (.one .nil)), (9, .x (.one (.int .i64 0))), (10, .x (.one (.int .i64 0)))]) (fun _ => True) (fun _ => 0) () trivial ?_ ?_
  · simp
  intro _ _
  simp -implicitDefEqProofs +contextual [-Bool.and_eq_false_imp, Bool.and_eq_false_iff]
abbrev view0 : XV := .agg [.bool false, .nil, .str [], .int .i64 0, .int .i64 0, .str [], .str [], .str [], .int .i64 0, .int .i64 0, .bool false, .nil, .nil, .int .i64 0]
theorem replay_Complete0 : ACalls Tryz.prog 35 [view0] (.tup [.agg [.int .i64 1, .int .i64 1], .one (.int .i64 0)]) := by
  refine ACalls.of mixed (fn := Tryz.f35) (by kernel_rfl) (by kernel_rfl) rfl (by kernel_rfl) (by simp [Tryz.f35]) (fun hok => ?_)
  simp -implicitDefEqProofs +contextual [-Bool.and_eq_false_imp, Bool.and_eq_false_iff]
  refine ACallK.of replay_checkParts0 ?_
  simp -implicitDefEqProofs +contextual [-Bool.and_eq_false_imp, Bool.and_eq_false_iff]
  refine ALoopS.of Unit (fun _ => [(1, .box view0.cells), (2, .box [.int .i64 0, .int .i64 0]), (5, .x (.one (.int .i64 0))), (18, .x (.one .nil)), (19, .x (.one (.int .i64 0))), (20, .x (.one (.int .i64 0)))]) (fun _ => True) (fun _ => 0) () trivial ?_ ?_
  · simp
  intro _ _
  simp -implicitDefEqProofs +contextual [-Bool.and_eq_false_imp, Bool.and_eq_false_iff]
theorem law9_awake : ACalls Tryz.prog 11 [] (.x (.one (.bool true))) := by
  refine ACalls.of mixed (fn := Tryz.f11) (by kernel_rfl) (by kernel_rfl) rfl (by kernel_rfl) (by simp [Tryz.f11]) (fun hok => ?_)
  simp -implicitDefEqProofs +contextual [-Bool.and_eq_false_imp, Bool.and_eq_false_iff]
  refine ACallK.of replay_Complete0 ?_
  simp -implicitDefEqProofs +contextual [-Bool.and_eq_false_imp, Bool.and_eq_false_iff]

end Go.Proofs.YtklnopamfncfgaaGreatDoor
namespace Go.Proofs.YtklnopamfncfgaaGreatDoor
open Go Go.Ab
set_option linter.unusedSectionVars false
variable [Amb] [HasPow10 Tryz.prog]
set_option maxRecDepth 100000
set_option maxHeartbeats 4000000

theorem lawTexts (l : List UInt8) (t : Int) (a : Addr) (x : List UInt8) (h : a.Fit) : ACalls Tryz.prog 3 [.one (.str l), .one (.int .i64 t), .agg a.row, .one (.str x)] (.x (.one (.bool true))) := by
  have c1 := replay_ReplayText l t a h
  have c2 := ref9_ReplayText l t a h
  have c3 := replay_ReadReplay l x
  have c4 := ref9_ReadReplay l x
  generalize readRp l x = R at c3 c4
  obtain ⟨n, ⟨r1, r2, r3, r4, r5, r6, r7, r8⟩, f⟩ := R
  generalize replayL l t a = L at c1 c2
  generalize replayF l t a = F at c1 c2
  obtain ⟨sc, ho, po, pa, qu, hq, fr, hf⟩ := a
  simp only [Addr.row] at c1 c2 c3 c4 ⊢
  refine ACalls.of mixed (fn := Tryz.f3) (by kernel_rfl) (by kernel_rfl) rfl (by kernel_rfl) (by simp [Tryz.f3]) (fun hok => ?_)
  simp -implicitDefEqProofs
  refine ACallK.of c1 ?_
  simp -implicitDefEqProofs
  refine ACallK.of c2 ?_
  simp -implicitDefEqProofs
  refine ACallK.of c3 ?_
  simp -implicitDefEqProofs
  refine ACallK.of c4 ?_
  simp -implicitDefEqProofs
  refine ACallGS.of (fun _ => law9_awake) rfl ?_
  simp -implicitDefEqProofs
end Go.Proofs.YtklnopamfncfgaaGreatDoor
namespace Go.Proofs.YtklnopamfncfgaaGreatDoor
open Go Go.Ab
set_option linter.unusedSectionVars false
variable [Amb]

/-! ### The order of strings and of entries -/
theorem ltB_irrefl : ∀ a : List UInt8, ltB a a = false
  | [] => rfl
  | a :: x => by
    have ih := ltB_irrefl x
    unfold ltB at ih ⊢
    simp [Op.bytesLess, ih]
theorem ltB_trans : ∀ {a b c : List UInt8}, ltB a b = true → ltB b c = true → ltB a c = true
  | a, b, [], _, h2 => by unfold ltB at h2; cases b <;> simp [Op.bytesLess] at h2
  | a, [], c :: z, h1, _ => by unfold ltB at h1; cases a <;> simp [Op.bytesLess] at h1
  | [], b :: y, c :: z, _, _ => by simp [ltB, Op.bytesLess]
  | a :: x, b :: y, c :: z, h1, h2 => by
    have ih := @ltB_trans x y z
    unfold ltB at h1 h2 ih ⊢
    simp only [Op.bytesLess, Bool.or_eq_true, decide_eq_true_eq, Bool.and_eq_true, beq_iff_eq] at h1 h2 ⊢
    rcases h1 with h1 | ⟨rfl, h1⟩
    · rcases h2 with h2 | ⟨rfl, h2⟩
      · exact .inl (UInt8.lt_trans h1 h2)
      · exact .inl h1
    · rcases h2 with h2 | ⟨rfl, h2⟩
      · exact .inl h2
      · exact .inr ⟨rfl, ih h1 h2⟩
theorem ltB_total : ∀ {a b : List UInt8}, ltB a b = false → ltB b a = false → a = b
  | [], [], _, _ => rfl
  | [], b :: y, h, _ => by simp [ltB, Op.bytesLess] at h
  | a :: x, [], _, h => by simp [ltB, Op.bytesLess] at h
  | a :: x, b :: y, h1, h2 => by
    have ih := @ltB_total x y
    unfold ltB at h1 h2 ih
    simp only [Op.bytesLess, Bool.or_eq_false_iff, decide_eq_false_iff_not] at h1 h2
    have hab : a = b := UInt8.le_antisymm (UInt8.not_lt.1 h2.1) (UInt8.not_lt.1 h1.1)
    subst hab
    simp only [BEq.rfl, Bool.true_and] at h1 h2
    rw [ih h1.2 h2.2]
theorem ltB_asymm {a b : List UInt8} (h : ltB a b = true) : ltB b a = false := by
  cases hb : ltB b a with
  | false => rfl
  | true => have := ltB_trans h hb; rw [ltB_irrefl] at this; cases this
theorem cmpB_neg {a b : List UInt8} : Lib.compareBytes a b < 0 ↔ ltB a b = true := by
  rw [cmpB_eq]
  split
  · simp [*]
  · rename_i h
    split <;> simp [h]
theorem cmpB_zero {a b : List UInt8} : Lib.compareBytes a b = 0 ↔ a = b := by
  rw [cmpB_eq]
  split
  · rename_i h
    simp
    rintro rfl
    rw [ltB_irrefl] at h; cases h
  · split <;> simp [*]
theorem cmpB_pos {a b : List UInt8} : 0 < Lib.compareBytes a b ↔ ltB b a = true := by
  rw [cmpB_eq]
  split
  · rename_i h; simp [ltB_asymm h]
  · rename_i h
    split
    · rename_i h2; subst h2; simp [ltB_irrefl]
    · rename_i h2
      simp
      cases hb : ltB b a with
      | true => rfl
      | false => exact absurd (ltB_total (by simpa using h) hb) h2
theorem cmpI_neg {a b : Int} : cmpI a b < 0 ↔ a < b := by unfold cmpI; split <;> (try split) <;> omega
theorem cmpI_zero {a b : Int} : cmpI a b = 0 ↔ a = b := by unfold cmpI; split <;> (try split) <;> omega
theorem cmpI_pos {a b : Int} : 0 < cmpI a b ↔ b < a := by unfold cmpI; split <;> (try split) <;> omega

theorem firstNZ_lt {a b c d : Int} : firstNZ [a, b, c, d] < 0 ↔ a < 0 ∨ (a = 0 ∧ (b < 0 ∨ (b = 0 ∧ (c < 0 ∨ (c = 0 ∧ d < 0))))) := by
  simp only [firstNZ]
  split <;> (try split) <;> (try split) <;> (try split) <;> omega
theorem firstNZ_eq {a b c d : Int} : firstNZ [a, b, c, d] = 0 ↔ a = 0 ∧ b = 0 ∧ c = 0 ∧ d = 0 := by
  simp only [firstNZ]
  split <;> (try split) <;> (try split) <;> (try split) <;> omega
/-- a comes ahead of b. -/
def Before (a b : Entry) : Prop := ltB a.key b.key = true ∨ (a.key = b.key ∧ (a.time < b.time ∨ (a.time = b.time ∧ (ltB a.file b.file = true ∨ (a.file = b.file ∧ a.lo < b.lo)))))
theorem cmpE_neg {a b : Entry} : cmpE a b < 0 ↔ Before a b := by
  unfold cmpE cmpL Before
  rw [firstNZ_lt, cmpB_neg, cmpB_zero, cmpI_neg, cmpI_zero, cmpB_neg, cmpB_zero, cmpI_neg]
theorem Before.trans {a b c : Entry} (h1 : Before a b) (h2 : Before b c) : Before a c := by
  unfold Before at *
  rcases h1 with h1 | ⟨e1, h1⟩
  · rcases h2 with h2 | ⟨e2, _⟩
    · exact .inl (ltB_trans h1 h2)
    · exact .inl (e2 ▸ h1)
  · rcases h2 with h2 | ⟨e2, h2⟩
    · exact .inl (e1 ▸ h2)
    · refine .inr ⟨e1.trans e2, ?_⟩
      rcases h1 with h1 | ⟨t1, h1⟩
      · rcases h2 with h2 | ⟨t2, _⟩ <;> exact .inl (by omega)
      · rcases h2 with h2 | ⟨t2, h2⟩
        · exact .inl (by omega)
        · refine .inr ⟨t1.trans t2, ?_⟩
          rcases h1 with h1 | ⟨f1, h1⟩
          · rcases h2 with h2 | ⟨f2, _⟩
            · exact .inl (ltB_trans h1 h2)
            · exact .inl (f2 ▸ h1)
          · rcases h2 with h2 | ⟨f2, h2⟩
            · exact .inl (f1 ▸ h2)
            · exact .inr ⟨f1.trans f2, by omega⟩

/-- Each ahead of what follows. -/
abbrev Sorted (l : List Entry) : Prop := l.Pairwise Before
theorem pairF_sorted : ∀ {l : List Entry} {p : Option Entry}, pairF p l = 0 → Sorted l ∧ (∀ q, p = some q → ∀ x ∈ l, Before q x) ∧ ∀ x ∈ l, entryF x = 0
  | [], p, _ => ⟨.nil, fun q _ x hx => (by cases hx), fun x hx => (by cases hx)⟩
  | e :: r, none, h => by
    simp only [pairF] at h
    split at h
    · rename_i he
      obtain ⟨h1, h2, h3⟩ := pairF_sorted h
      exact ⟨.cons (h2 e rfl) h1, fun q hq => (by cases hq), fun x hx => by rcases List.mem_cons.1 hx with rfl | hx; exact he; exact h3 x hx⟩
    · exact absurd h (by assumption)
  | e :: r, some q, h => by
    simp only [pairF] at h
    split at h
    · rename_i he
      split at h
      · cases h
      · split at h
        · cases h
        · rename_i h4 h5
          obtain ⟨h1, h2, h3⟩ := pairF_sorted h
          have hqe : Before q e := cmpE_neg.1 (by omega)
          refine ⟨.cons (h2 e rfl) h1, fun q' hq => ?_, fun x hx => by rcases List.mem_cons.1 hx with rfl | hx; exact he; exact h3 x hx⟩
          injection hq with hq
          subst hq
          intro x hx
          rcases List.mem_cons.1 hx with rfl | hx
          · exact hqe
          · exact hqe.trans (h2 e rfl x hx)
    · exact absurd h (by assumption)
theorem entriesF_sorted {l : List Entry} (h : entriesF l = 0) : Sorted l ∧ ∀ x ∈ l, entryF x = 0 := by
  unfold entriesF at h
  split at h
  · cases h
  · obtain ⟨h1, _, h2⟩ := pairF_sorted h; exact ⟨h1, h2⟩
theorem Before.key {a b : Entry} (h : Before a b) : ltB b.key a.key = false := by
  rcases h with h | ⟨e, _⟩
  · exact ltB_asymm h
  · rw [e]; exact ltB_irrefl _
end Go.Proofs.YtklnopamfncfgaaGreatDoor
namespace Go.Proofs.YtklnopamfncfgaaGreatDoor
open Go Go.Ab
set_option linter.unusedSectionVars false
variable [Amb]
set_option maxRecDepth 100000
set_option maxHeartbeats 4000000

abbrev funcV (f : Nat) : XV := .one (.atom (.func (.func f) #[] #[]))

theorem index_of1 (e : Entry) (k : List UInt8) : ACalls Tryz.prog 167 [.agg e.row, .one (.str k)] (.x (.one (.int .i64 (Lib.compareBytes e.key k)))) := by
  refine ACalls.of mixed (fn := Tryz.f167) (by kernel_rfl) (by kernel_rfl) rfl (by kernel_rfl) (by simp [Tryz.f167]) (fun hok => ?_)
  simp -implicitDefEqProofs +contextual [-Bool.and_eq_false_imp, Bool.and_eq_false_iff]
  refine ACallK.of (strings_Compare _ _) ?_
  simp -implicitDefEqProofs +contextual [-Bool.and_eq_false_imp, Bool.and_eq_false_iff]

/-- How many entries come ahead of a key. -/
def lowerB (l : List Entry) (k : List UInt8) : Nat := (l.takeWhile fun e => ltB e.key k).length
theorem lowerB_eq {l : List Entry} {k : List UInt8} {i : Nat} (hi : i ≤ l.length) (h1 : ∀ (j : Nat) (x : Entry), j < i → l[j]? = some x → ltB x.key k = true) (h2 : ∀ x, l[i]? = some x → ltB x.key k = false) : lowerB l k = i := by
  induction l generalizing i with
  | nil => simp at hi; subst hi; rfl
  | cons a r ih =>
    unfold lowerB at ih ⊢
    cases i with
    | zero =>
      have := h2 a rfl
      rw [List.takeWhile_cons_of_neg (by simp [this])]; rfl
    | succ i =>
      have := h1 0 a (by omega) rfl
      rw [List.takeWhile_cons_of_pos (by exact this), List.length_cons, ih (by simpa using hi) (fun j x hj hx => h1 (j + 1) x (by omega) (by simpa using hx)) (fun x hx => h2 x (by simpa using hx))]

theorem BinarySearch (l : List Entry) (k : List UInt8) (hs : Sorted l) (hb : l.length ≤ 3000) : ACalls Tryz.prog 166 [entries l, .one (.str k), funcV 167] (.tup [.one (.int .i64 (lowerB l k)), .one (.bool (match l[lowerB l k]? with | some x => decide (x.key = k) | none => false))]) := by
  refine ACalls.of mixed (fn := Tryz.f166) (by kernel_rfl) (by kernel_rfl) rfl (by kernel_rfl) (by simp [Tryz.f166]) (fun hok => ?_)
  have hmono : ∀ i j (hj : j < l.length) (hij : i ≤ j), ltB l[j].key k = true → ltB l[i].key k = true := by
    intro i j hj hij h
    by_cases he : i = j
    · subst he; exact h
    · have := (List.pairwise_iff_getElem.1 hs) i j (by omega) hj (by omega)
      cases hb : ltB l[i].key k with
      | true => rfl
      | false =>
        have h2 := this.key
        cases hc : ltB l[i].key l[j].key with
        | true => rw [ltB_trans hc h] at hb; cases hb
        | false => rw [ltB_total hc h2] at hb; rw [hb] at h; cases h
  simp -implicitDefEqProofs +contextual [-Bool.and_eq_false_imp, Bool.and_eq_false_iff]
  refine ALoopS.of (Nat × Nat) (fun i => [(0, .x (.one (.list 9 (l.map Entry.row)))), (1, .x (.one (.str k))), (2, .x (funcV 167)), (8, .x (.one (.int .i64 l.length))), (9, .x (.one (.int .i64 i.1))), (10, .x (.one (.int .i64 i.2)))])
    (fun i => i.1 ≤ i.2 ∧ i.2 ≤ l.length ∧ (∀ (j : Nat) (h : j < l.length), j < i.1 → ltB l[j].key k = true) ∧ (∀ (j : Nat) (h : j < l.length), i.2 ≤ j → ltB l[j].key k = false)) (fun i => i.2 - i.1) (0, l.length) ⟨Nat.zero_le _, Nat.le_refl _, by intro j h hj; omega, by intro j h hj; simp only at hj; omega⟩ ?_ ?_
  · simp
  rintro ⟨i, j⟩ ⟨h1, h2, h3, h4⟩
  simp only at h1 h2 h3 h4
  by_cases hlt : i < j
  · have hm : IntKind.i64.wrap ((IntKind.u64.wrap (IntKind.i64.wrap ((i : Int) + j))).fdiv (2 ^ min 1 IntKind.u64.bits)) = (((i + j) / 2 : Nat) : Int) := by
      rw [wrapS ((i : Int) + j) (by omega)]
      have : IntKind.u64.wrap ((i : Int) + j) = (i : Int) + j := by simp [IntKind.wrap, IntKind.signed, IntKind.bits]; omega
      rw [this]
      have : ((i : Int) + j).fdiv (2 ^ min 1 IntKind.u64.bits) = ((i + j) / 2 : Nat) := by
        show ((i : Int) + j).fdiv 2 = _
        rw [Int.fdiv_eq_ediv_of_nonneg _ (by omega)]; omega
      rw [this]
      exact wrapS _ (by omega)
    obtain ⟨m, em⟩ : ∃ m, m = (i + j) / 2 := ⟨_, rfl⟩
    rw [← em] at hm
    have hml : m < l.length := by omega
    simp -implicitDefEqProofs +contextual [-Bool.and_eq_false_imp, Bool.and_eq_false_iff, hlt, hm, hml]
    refine ACallK.of (index_of1 _ _) ?_
    have hc := cmpB_neg (a := l[m].key) (b := k)
    simp -implicitDefEqProofs +contextual [-Bool.and_eq_false_imp, Bool.and_eq_false_iff]
    refine ⟨fun h => ?_, fun h => ?_⟩
    · refine Again.of (m + 1, j) ⟨by simp only; omega, h2, fun x hx hxm => hmono x m hml (by simp only at hxm; omega) (hc.1 h), h4⟩ (by simp only; omega) ?_
      simp
      exact wrapS _ (by omega)
    · refine Again.of (i, m) ⟨by simp only; omega, by simp only; omega, h3, fun x hx hxm => ?_⟩ (by simp only; omega) ?_
      · simp only at hxm
        cases hb : ltB l[x].key k with
        | false => rfl
        | true => have := hmono m x hx hxm hb; rw [← hc] at this; omega
      · simp
  · have hij : i = j := by omega
    subst hij
    have hlo : lowerB l k = i := lowerB_eq h2 (fun x y hx hy => by
      obtain ⟨hlt', rfl⟩ := List.getElem?_eq_some_iff.1 hy
      exact h3 x hlt' hx) (fun y hy => by
      obtain ⟨hlt', rfl⟩ := List.getElem?_eq_some_iff.1 hy
      exact h4 i hlt' (Nat.le_refl _))
    rw [hlo]
    by_cases hil : i < l.length
    · simp -implicitDefEqProofs +contextual [-Bool.and_eq_false_imp, Bool.and_eq_false_iff, hil]
      refine ACallGS.of (fun _ => index_of1 _ _) rfl ?_
      have hc := cmpB_zero (a := l[i].key) (b := k)
      simp -implicitDefEqProofs +contextual [-Bool.and_eq_false_imp, Bool.and_eq_false_iff, hil]
      rw [Bool.eq_iff_iff]
      simp [hc]
    · simp -implicitDefEqProofs [hil]
      refine ACallGS.of (r := .x (.one (.int .i64 0))) (fun h => by cases h) rfl ?_
      simp -implicitDefEqProofs +contextual [-Bool.and_eq_false_imp, Bool.and_eq_false_iff, hil]

/-- The entries with a key. -/
def withKey (l : List Entry) (k : List UInt8) : List Entry := l.filter fun e => decide (e.key = k)

theorem takeWhile_eq {α : Type} (p : α → Bool) : ∀ (l : List α) (i : Nat), i ≤ l.length → (∀ (j : Nat) (x : α), j < i → l[j]? = some x → p x = true) → (∀ x, l[i]? = some x → p x = false) → l.takeWhile p = l.take i
  | [], i, hi, _, _ => by simp
  | a :: r, 0, _, _, h2 => by rw [List.takeWhile_cons_of_neg (by simp [h2 a rfl])]; rfl
  | a :: r, i + 1, hi, h1, h2 => by
    rw [List.takeWhile_cons_of_pos (h1 0 a (by omega) rfl), takeWhile_eq p r i (by simpa using hi) (fun j x hj hx => h1 (j + 1) x (by omega) (by simpa using hx)) (fun x hx => h2 x (by simpa using hx))]
    rfl
/-- In a sorted list the entries with a key lie together. -/
theorem withKey_sorted {k : List UInt8} : ∀ {l : List Entry}, Sorted l → withKey l k = (l.drop (lowerB l k)).takeWhile fun e => decide (e.key = k)
  | [], _ => rfl
  | a :: r, h => by
    have hr := List.pairwise_cons.1 h
    unfold withKey lowerB
    by_cases hlt : ltB a.key k = true
    · have hne : ¬ a.key = k := by rintro rfl; rw [ltB_irrefl] at hlt; cases hlt
      rw [List.takeWhile_cons_of_pos (by exact hlt), List.length_cons, List.drop_succ_cons, List.filter_cons_of_neg (by simp [hne])]
      exact withKey_sorted hr.2
    · rw [List.takeWhile_cons_of_neg (by exact hlt), List.length_nil, List.drop_zero]
      by_cases he : a.key = k
      · rw [List.filter_cons_of_pos (by simp [he]), List.takeWhile_cons_of_pos (by simp [he])]
        congr 1
        have := withKey_sorted (k := k) hr.2
        unfold withKey at this
        rw [this]
        have h0 : lowerB r k = 0 := lowerB_eq (Nat.zero_le _) (fun j x hj => by omega) (fun x hx => by
          have := (hr.1 x (List.mem_of_getElem? hx)).key
          rw [he] at this; exact this)
        rw [h0, List.drop_zero]
      · rw [List.filter_cons_of_neg (by simp [he]), List.takeWhile_cons_of_neg (by simp [he])]
        rw [List.filter_eq_nil_iff]
        intro x hx
        simp only [decide_eq_true_eq]
        rintro rfl
        have h1 := (hr.1 x hx).key
        exact he (ltB_total (by simpa using hlt) h1)

theorem index_of' (l : List Entry) (k : List UInt8) (hs : Sorted l) (hb : l.length ≤ 3000) : ACalls Tryz.prog 96 [entries l, .one (.str k)] (.x (entries (withKey l k))) := by
  refine ACalls.of mixed (fn := Tryz.f96) (by kernel_rfl) (by kernel_rfl) rfl (by kernel_rfl) (by simp [Tryz.f96]) (fun hok => ?_)
  simp -implicitDefEqProofs +contextual [-Bool.and_eq_false_imp, Bool.and_eq_false_iff]
  refine ACallK.of (BinarySearch l k hs hb) ?_
  have hlo : lowerB l k ≤ l.length := by
    unfold lowerB
    exact (List.takeWhile_sublist _).length_le
  rw [withKey_sorted hs]
  generalize lowerB l k = lo at hlo
  simp -implicitDefEqProofs +contextual [-Bool.and_eq_false_imp, Bool.and_eq_false_iff]
  refine ALoopS.of Nat (fun i => [(0, .x (.one (.list 9 (l.map Entry.row)))), (1, .x (.one (.str k))), (5, .x (.one (.int .i64 lo))), (7, .x (.one (.int .i64 i)))]) (fun i => lo ≤ i ∧ i ≤ l.length ∧ ∀ (j : Nat) (x : Entry), lo ≤ j → j < i → l[j]? = some x → x.key = k) (fun i => l.length - i) lo ⟨Nat.le_refl _, hlo, fun j x h1 h2 => by omega⟩ ?_ ?_
  · simp
  rintro i ⟨h1, h2, h3⟩
  have hend : (∀ x, l[i]? = some x → ¬ x.key = k) → (l.drop lo).takeWhile (fun e => decide (e.key = k)) = (l.take i).drop lo := by
    intro hx
    rw [takeWhile_eq _ (l.drop lo) (i - lo) (by simp; omega) (fun j x hj hjx => by
      rw [List.getElem?_drop] at hjx
      simp [h3 (lo + j) x (by omega) (by omega) hjx]) (fun x hjx => by
      rw [List.getElem?_drop, show lo + (i - lo) = i by omega] at hjx
      simp [hx x hjx])]
    rw [List.drop_take]
  by_cases hlt : i < l.length
  · simp -implicitDefEqProofs +contextual [-Bool.and_eq_false_imp, Bool.and_eq_false_iff, hlt]
    refine ⟨fun he => Again.of (i + 1) ⟨by omega, hlt, fun j x hj1 hj2 hjx => ?_⟩ (by omega) ?_, fun hne => ?_⟩
    · by_cases hji : j = i
      · subst hji
        rw [List.getElem?_eq_getElem hlt] at hjx
        injection hjx with hjx
        rw [← hjx]; exact he
      · exact h3 j x hj1 (by omega) hjx
    · simp
      exact wrapS _ (by omega)
    · rw [hend (fun x hx => by rw [List.getElem?_eq_getElem hlt] at hx; injection hx with hx; rw [← hx]; exact hne)]
      refine ⟨by omega, ?_⟩
      simp [cutAt]
  · simp -implicitDefEqProofs [hlt]
    rw [hend (fun x hx => by rw [List.getElem?_eq_none (by omega)] at hx; cases hx)]
    refine ⟨by omega, ?_⟩
    simp [cutAt]
end Go.Proofs.YtklnopamfncfgaaGreatDoor
namespace Go.Proofs.YtklnopamfncfgaaGreatDoor
open Go Go.Ab
set_option linter.unusedSectionVars false
variable [Amb]
set_option maxRecDepth 100000
set_option maxHeartbeats 4000000

structure Life where
  key : List UInt8
  many : Int
  other : Int
  first : Int
  last : Int
  deriving DecidableEq
def Life.row (x : Life) : List CV := [.str x.key, .int .i64 x.many, .int .i64 x.other, .int .i64 x.first, .int .i64 x.last]
abbrev lives (l : List Life) : XV := .one (.list 5 (l.map Life.row))

/-! ### Different strings -/
def nubA (acc : List (List UInt8)) (d : List UInt8) : List (List UInt8) := if d ∈ acc then acc else acc ++ [d]
def nubs (ds : List (List UInt8)) : List (List UInt8) := ds.foldl nubA []
theorem nubs_snoc (ds : List (List UInt8)) (d : List UInt8) : nubs (ds ++ [d]) = nubA (nubs ds) d := by simp [nubs, List.foldl_append]
theorem nubs_le : ∀ (ds : List (List UInt8)) (acc : List (List UInt8)), (ds.foldl nubA acc).length ≤ acc.length + ds.length
  | [], acc => by simp
  | d :: r, acc => by
    have h1 := nubs_le r (nubA acc d)
    have h2 : (nubA acc d).length ≤ acc.length + 1 := by unfold nubA; split <;> simp
    simp only [List.foldl_cons, List.length_cons]; omega
def kvs (ks : List (List UInt8)) : List (XV × XV) := ks.map fun d => (.one (.str d), .one (.bool true))
theorem findK_kvs (d : List UInt8) : ∀ (ks : List (List UInt8)) (i : Nat), (d ∉ ks → findK .s (.one (.str d)) (kvs ks) i = some none) ∧ (d ∈ ks → ∃ j, findK .s (.one (.str d)) (kvs ks) i = some (some (i + j)) ∧ ks[j]? = some d)
  | [], i => ⟨fun _ => rfl, fun h => by cases h⟩
  | k :: r, i => by
    have ih := findK_kvs d r (i + 1)
    simp only [kvs, List.map_cons, findK, keyEq]
    by_cases h : d = k
    · subst h
      simp only [BEq.rfl]
      exact ⟨fun h => absurd (List.mem_cons_self) h, fun _ => ⟨0, rfl, rfl⟩⟩
    · have hb : (d == k) = false := by simpa using h
      rw [hb]
      refine ⟨fun hn => ih.1 (fun hm => hn (List.mem_cons_of_mem _ hm)), fun hm => ?_⟩
      obtain ⟨j, h1, h2⟩ := ih.2 ((List.mem_cons.1 hm).resolve_left h)
      exact ⟨j + 1, by rw [show i + (j + 1) = i + 1 + j by omega]; exact h1, h2⟩

/-! ### The lives -/
def digests (l : List Entry) : List (List UInt8) := l.map Entry.digest
def lifeOf (l : List Entry) (e : Entry) : Life :=
  ⟨e.key, (withKey l e.key).length, (nubs (digests (withKey l e.key))).length, e.time, (((withKey l e.key)[(withKey l e.key).length - 1]?).map Entry.time).getD 0⟩
def livesN : Nat → List Entry → List Life
  | 0, _ => []
  | _ + 1, [] => []
  | n + 1, e :: r => lifeOf (e :: r) e :: livesN n ((e :: r).drop (withKey (e :: r) e.key).length)
theorem withKey_pos (e : Entry) (r : List Entry) : 1 ≤ (withKey (e :: r) e.key).length := by
  unfold withKey
  rw [List.filter_cons_of_pos (by simp)]
  simp
theorem livesN_fuel : ∀ (n m : Nat) (l : List Entry), l.length ≤ n → l.length ≤ m → livesN n l = livesN m l
  | 0, 0, _, _, _ => rfl
  | 0, m + 1, l, h, _ => by have : l = [] := List.eq_nil_of_length_eq_zero (by omega); subst this; rfl
  | n + 1, 0, l, _, h => by have : l = [] := List.eq_nil_of_length_eq_zero (by omega); subst this; rfl
  | n + 1, m + 1, [], _, _ => rfl
  | n + 1, m + 1, e :: r, h1, h2 => by
    have hp := withKey_pos e r
    simp only [livesN]
    rw [livesN_fuel n m _ (by simp only [List.length_drop, List.length_cons] at *; omega) (by simp only [List.length_drop, List.length_cons] at *; omega)]
def livesL (l : List Entry) : List Life := livesN l.length l
theorem livesL_cons (e : Entry) (r : List Entry) : livesL (e :: r) = lifeOf (e :: r) e :: livesL ((e :: r).drop (withKey (e :: r) e.key).length) := by
  have hp := withKey_pos e r
  unfold livesL
  rw [List.length_cons, livesN, livesN_fuel r.length _ _ (by simp only [List.length_drop, List.length_cons]; omega) (Nat.le_refl _)]

theorem index_Lives (l : List Entry) : ACalls Tryz.prog 46 [entries l] (.tup [lives (if entriesF l = 0 then livesL l else []), .one (.int .i64 (entriesF l))]) := by
  refine ACalls.of mixed (fn := Tryz.f46) (by kernel_rfl) (by kernel_rfl) rfl (by kernel_rfl) (by simp [Tryz.f46]) (fun hok => ?_)
  simp -implicitDefEqProofs +contextual [-Bool.and_eq_false_imp, Bool.and_eq_false_iff]
  refine ACallK.of (index_checkEntries l) ?_
  simp -implicitDefEqProofs +contextual [-Bool.and_eq_false_imp, Bool.and_eq_false_iff]
  intro h
  rw [if_pos h, h]
  have hs := entriesF_short h
  obtain ⟨hso, _⟩ := entriesF_sorted h
  refine ALoopS.of (List Entry × List Life) (fun x => [(0, .x (entries x.1)), (5, .own 87 5 (x.2.map Life.row))]) (fun x => Sorted x.1 ∧ livesL l = x.2 ++ livesL x.1 ∧ x.2.length + x.1.length ≤ 3000) (fun x => x.1.length) (l, []) ⟨hso, rfl, by simp; omega⟩ ?_ ?_
  · simp
  rintro ⟨rest, out⟩ ⟨h1, h2, h3⟩
  simp only at h1 h2 h3
  cases rest with
  | nil =>
    simp -implicitDefEqProofs +contextual [-Bool.and_eq_false_imp, Bool.and_eq_false_iff]
    rw [h2, show livesL [] = [] from rfl, List.append_nil]
  | cons e r =>
    simp -implicitDefEqProofs +contextual [-Bool.and_eq_false_imp, Bool.and_eq_false_iff]
    refine ACallK.of (index_of' (e :: r) e.key h1 (by omega)) ?_
    have hp := withKey_pos e r
    have hle : (withKey (e :: r) e.key).length ≤ (e :: r).length := List.length_filter_le _ _
    have hcons := livesL_cons e r
    obtain ⟨m, em⟩ : ∃ m, m = withKey (e :: r) e.key := ⟨_, rfl⟩
    have hlife : lifeOf (e :: r) e = ⟨e.key, m.length, (nubs (digests m)).length, e.time, ((m[m.length - 1]?).map Entry.time).getD 0⟩ := by rw [em]; rfl
    have hm0 : m = e :: withKey r e.key := by
      rw [em]; unfold withKey
      rw [List.filter_cons_of_pos (by simp)]
    rw [← em] at hp hle hcons ⊢
    rw [hlife] at hcons
    simp -implicitDefEqProofs +contextual [-Bool.and_eq_false_imp, Bool.and_eq_false_iff]
    refine ALoopS.of Nat (fun i => [(0, .x (entries (e :: r))), (5, .own 87 5 (out.map Life.row)), (6, .x (entries m)), (7, .mp (nubs ((digests m).take i)).length (List.range (nubs ((digests m).take i)).length) (kvs (nubs ((digests m).take i)))), (25, .x (entries m)), (26, .x (.one (.int .i64 m.length))), (27, .x (.one (.int .i64 i)))]) (fun i => i ≤ m.length) (fun i => m.length - i) 0 (Nat.zero_le _) ?_ ?_
    · simp [nubs, kvs]
    intro i hi
    by_cases hlt : i < m.length
    · obtain ⟨K, eK⟩ : ∃ K, K = nubs ((digests m).take i) := ⟨_, rfl⟩
      have hst : nubs ((digests m).take (i + 1)) = nubA K m[i].digest := by
        rw [eK, ← nubs_snoc]
        congr 1
        rw [List.take_add_one]
        congr 1
        unfold digests
        rw [List.getElem?_map, List.getElem?_eq_getElem hlt]; rfl
      rw [← eK]
      obtain ⟨f1, f2⟩ := findK_kvs m[i].digest K 0
      by_cases hin : m[i].digest ∈ K
      · obtain ⟨j, hf, hj⟩ := f2 hin
        rw [Nat.zero_add] at hf
        have hset : (kvs K).set j (.one (.str m[i].digest), .one (.bool true)) = kvs K := by
          apply List.ext_getElem?
          intro x
          rw [List.getElem?_set]
          split
          · rename_i hx
            subst hx
            have hjl := (List.getElem?_eq_some_iff.1 hj).1
            have := (List.getElem?_eq_some_iff.1 hj).2
            simp [kvs, hj, hjl, this]
          · rfl
        have hn : nubA K m[i].digest = K := by unfold nubA; rw [if_pos hin]
        simp -implicitDefEqProofs [hlt, hf, hset]
        refine Again.of (i + 1) hlt (by omega) ?_
        rw [hst, hn]
        simp
        exact wrapS _ (by omega)
      · have hf := f1 hin
        have hn : nubA K m[i].digest = K ++ [m[i].digest] := by unfold nubA; rw [if_neg hin]
        simp -implicitDefEqProofs +contextual [-Bool.and_eq_false_imp, Bool.and_eq_false_iff, hlt, hf]
        refine Again.of (i + 1) hlt (by omega) ?_
        rw [hst, hn]
        simp [kvs, List.range_succ]
        exact wrapS _ (by omega)
    · rw [show (digests m).take i = digests m from List.take_of_length_le (by simp [digests]; omega)]
      have hw : IntKind.i64.wrap ((m.length : Int) - 1) = ((m.length - 1 : Nat) : Int) := by rw [wrapS _ (by omega)]; omega
      have hl1 : m.length - 1 < m.length := by omega
      have h0 : 0 < m.length := by omega
      simp -implicitDefEqProofs [hlt, hw, hl1, h0]
      have hm00 : m[0] = e := by simp [hm0]
      simp only [List.length_cons] at hle h3
      refine ⟨⟨by omega, by unfold maxLen; omega⟩, by omega, Again.of ((e :: r).drop m.length, out ++ [⟨e.key, m.length, (nubs (digests m)).length, e.time, ((m[m.length - 1]?).map Entry.time).getD 0⟩]) ⟨h1.drop, ?_, ?_⟩ ?_ ?_⟩
      · simp only
        rw [h2, hcons, List.append_assoc]; rfl
      · simp only [List.length_append, List.length_cons, List.length_nil, List.length_drop]; omega
      · simp only [List.length_drop, List.length_cons]; omega
      · simp [hm00, hl1, Life.row, kvs]
        have := cutAt_full (List.map Entry.row (e :: r)) (m.length : Int)
        simpa using this

def simple : Entry := ⟨[107], 7, 0, [], [48, 49, 50, 51, 52, 53, 54, 55, 56, 57, 97, 98, 99, 100, 101, 102], [102], 0, 0, false⟩
theorem simple_ok : entriesF [simple] = 0 := by decide +kernel
theorem simple_life : livesL [simple] = [⟨[107], 1, 1, 7, 7⟩] := by decide +kernel
theorem law8_awake : ACalls Tryz.prog 15 [] (.x (.one (.bool true))) := by
  refine ACalls.of mixed (fn := Tryz.f15) (by kernel_rfl) (by kernel_rfl) rfl (by kernel_rfl) (by simp [Tryz.f15]) (fun hok => ?_)
  simp -implicitDefEqProofs +contextual [-Bool.and_eq_false_imp, Bool.and_eq_false_iff]
  refine ACallK.of (index_Lives [simple]) ?_
  rw [if_pos simple_ok, simple_ok, simple_life]
  simp -implicitDefEqProofs +contextual [-Bool.and_eq_false_imp, Bool.and_eq_false_iff, Life.row]

end Go.Proofs.YtklnopamfncfgaaGreatDoor
namespace Go.Proofs.YtklnopamfncfgaaGreatDoor
open Go Go.Ab
set_option linter.unusedSectionVars false
variable [Amb]
set_option maxRecDepth 100000
theorem own : ownKnob Tryz.prog.godebug = none := by kernel_rfl
theorem laidOut : laidOutB Tryz.prog = true := by kernel_rfl

def entryK : KT := .st [.s, .i .i64, .i .i64, .s, .s, .s, .st [.i .i64, .i .i64], .b]
def entriesK : KT := .sl 9 entryK
theorem spanHas : KT.has Tryz.prog (.st [.i .i64, .i .i64]) 37 :=
  ⟨_, Tryz.underlying37, by kernel_rfl, rfl, by kernel_rfl, Tryz.underlying3, rfl, by kernel_rfl, Tryz.underlying3, trivial⟩
theorem entryHas : entryK.has Tryz.prog 39 :=
  ⟨_, Tryz.underlying39, by kernel_rfl, rfl, by kernel_rfl, Tryz.underlying9, rfl, by kernel_rfl, Tryz.underlying3, rfl, by kernel_rfl, Tryz.underlying3, rfl, by kernel_rfl, Tryz.underlying9, rfl, by kernel_rfl, Tryz.underlying9, rfl, by kernel_rfl, Tryz.underlying9,
    rfl, by kernel_rfl, spanHas, rfl, by kernel_rfl, Tryz.underlying4, trivial⟩
theorem entriesHas : entriesK.has Tryz.prog 31 := ⟨39, Tryz.underlying31, by kernel_rfl, rfl, by decide, entryHas⟩
theorem entryFits {cs : List CV} (h : entryK.fits cs) : ∃ e : Entry, cs = e.row := by
  simp only [entryK, KT.fits, KT.fits.fitsAll] at h
  obtain ⟨_, _, rfl, ⟨e0, rfl, _⟩, _, _, rfl, ⟨e1, rfl, _⟩, _, _, rfl, ⟨e2, rfl, _⟩, _, _, rfl, ⟨e3, rfl, _⟩, _, _, rfl, ⟨e4, rfl, _⟩, _, _, rfl, ⟨e5, rfl, _⟩,
    _, _, rfl, ⟨_, _, rfl, ⟨e6, rfl, _⟩, _, _, rfl, ⟨e7, rfl, _⟩, rfl⟩, _, _, rfl, ⟨e8, rfl⟩, rfl⟩ := h
  exact ⟨⟨e0, e1, e2, e3, e4, e5, e6, e7, e8⟩, rfl⟩
theorem rowsFit {xs : List (List CV)} (h : ∀ x ∈ xs, entryK.fits x) : ∃ l : List Entry, xs = l.map Entry.row := by
  induction xs with
  | nil => exact ⟨[], rfl⟩
  | cons x r ih =>
    obtain ⟨l, rfl⟩ := ih (fun y hy => h y (by simp [hy]))
    obtain ⟨f, rfl⟩ := entryFits (h x (by simp))
    exact ⟨f :: l, rfl⟩
theorem entriesFits {x : XV} (h : entriesK.fitsX x) : ∃ l : List Entry, x = entries l := by
  cases x with
  | agg cs => exact h.elim
  | one c =>
    obtain ⟨xs, hx, hr⟩ := h
    injection hx with hx
    obtain ⟨l, rfl⟩ := rowsFit hr
    exact ⟨l, by rw [hx]⟩
theorem strFits {x : XV} (h : KT.fitsX .s x) : ∃ l, x = .one (.str l) := by
  cases x with
  | agg cs => exact h.elim
  | one c =>
    obtain ⟨l, hx, _⟩ := h
    injection hx with hx
    exact ⟨l, by rw [hx]⟩
theorem intFits {x : XV} (h : KT.fitsX (.i .i64) x) : ∃ n, x = .one (.int .i64 n) := by
  cases x with
  | agg cs => exact h.elim
  | one c =>
    obtain ⟨l, hx, _⟩ := h
    injection hx with hx
    exact ⟨l, by rw [hx]⟩
theorem ambT_laid {W : World} {l : List (String × DataW Unit)} (j : Nat) (h : laidMetH Tryz.prog l W) (hp : (l.all fun x => x.2.handleName?.isNone) = true) (hj : l[j]? = some ("internal/strconv.uint64pow10", Lib.tabData .u64 Lib.pow10Tab)) : (ambT Tryz.prog).holds W := by
  rw [MakeChecks.laidMetH_plain _ _ _ hp] at h
  exact ambT_of (tabIs_at (g := 3) (t := 230) (e := 209) (n := 20) (by kernel_rfl) (by kernel_rfl) Tryz.underlying230 Tryz.underlying209 (by kernel_rfl) (by kernel_rfl) j h hj)
end Go.Proofs.YtklnopamfncfgaaGreatDoor
namespace Go.Proofs.YtklnopamfncfgaaGreatDoor
open Go Go.Ab
set_option linter.unusedSectionVars false
variable [Amb]
set_option maxRecDepth 100000
/-! ### Rows whose strings are bounded -/
theorem weights_front {H : Type} {P : Program} {p : Nat → Bool} : ∀ {ts us : List TypeId} {ds gs : List (DataW H)}, (DataW.weightsEach P (ts ++ us) (ds ++ gs)).all p = true → (DataW.weightsEach P ts ds).all p = true
  | [], _, _, _, _ => by rw [DataW.weightsEach]; rfl; intros; simp_all
  | _ :: _, _, [], _, _ => by rw [DataW.weightsEach]; rfl; intros; simp_all
  | t :: ts, us, d :: ds, gs, h => by
    rw [List.cons_append, List.cons_append, DataW.weightsEach, List.all_append, Bool.and_eq_true] at h
    rw [DataW.weightsEach, List.all_append, Bool.and_eq_true]
    exact ⟨h.1, weights_front h.2⟩
def addrK : KT := .st [.s, .s, .s, .s, .s, .b, .s, .b]
theorem addrHas : KT.has Tryz.prog addrK 23 :=
  ⟨_, Tryz.underlying23, by kernel_rfl, rfl, by kernel_rfl, Tryz.underlying9, rfl, by kernel_rfl, Tryz.underlying9, rfl, by kernel_rfl, Tryz.underlying9, rfl, by kernel_rfl, Tryz.underlying9, rfl, by kernel_rfl, Tryz.underlying9,
    rfl, by kernel_rfl, Tryz.underlying4, rfl, by kernel_rfl, Tryz.underlying9, rfl, by kernel_rfl, Tryz.underlying4, trivial⟩
theorem addrFits' {cs : List CV} (h : addrK.fitsB reachBytes cs) : ∃ a : Addr, cs = a.row ∧ a.Fit := by
  simp only [addrK, KT.fitsB, KT.fitsB.fitsAllB] at h
  obtain ⟨_, _, rfl, ⟨e0, rfl, _, l0⟩, _, _, rfl, ⟨e1, rfl, _, l1⟩, _, _, rfl, ⟨e2, rfl, _, l2⟩, _, _, rfl, ⟨e3, rfl, _, l3⟩, _, _, rfl, ⟨e4, rfl, _, l4⟩, _, _, rfl, ⟨e5, rfl⟩, _, _, rfl, ⟨e6, rfl, _, l6⟩, _, _, rfl, ⟨e7, rfl⟩, rfl⟩ := h
  unfold reachBytes at l0 l1 l2 l3 l4 l6
  exact ⟨⟨e0, e1, e2, e3, e4, e5, e6, e7⟩, rfl, ⟨by simp only; omega, by simp only; omega, by simp only; omega, by simp only; omega, by simp only; omega, by simp only; omega⟩⟩
theorem addrFits {x : XV} (_ : addrK.fitsX x) (h : addrK.fitsXB reachBytes x) : ∃ a : Addr, x = .agg a.row ∧ a.Fit := by
  cases x with
  | one c => exact h.elim
  | agg cs =>
    obtain ⟨a, rfl, f⟩ := addrFits' h
    exact ⟨a, rfl, f⟩
end Go.Proofs.YtklnopamfncfgaaGreatDoor
