/- A part of the proof: lemmas and contracts of functions. -/
import Derived.Test.YtklnopamfncfgaaGreatDoorIxGEd
import Derived.Test.YtklnopamfncfgaaGreatDoorIxGEc
namespace Go.Proofs.YtklnopamfncfgaaGreatDoor
open Go Go.Ab
set_option linter.unusedSectionVars false
variable [Amb] [HasPow10 Tryz.prog] [HasErrSyntax Tryz.prog]
set_option maxRecDepth 100000
set_option maxHeartbeats 4000000
theorem pagesG_ok : ∀ {p : List WPage} {q : Option WPage}, pagesG q p = 0 → ∀ x ∈ p, pageF x = 0
  | [], _, _, x, h => by cases h
  | y :: r, q, h, x, hx => by
    simp only [pagesG] at h
    split at h
    · rename_i h1; exact absurd h h1
    · rename_i h1
      split at h
      · cases h
      · rcases List.mem_cons.1 hx with rfl | hx
        · simpa using h1
        · exact pagesG_ok h x hx
theorem pageF_body {x : WPage} (h : pageF x = 0) : x.body.length ≤ 195000 := by
  unfold pageF at h
  repeat' split at h
  all_goals first | (cases h; done) | omega
theorem webF_ok {p : List WPage} {t : List Took} (h : webF p t = 0) : p.length ≤ 300 ∧ ∀ x ∈ p, x.body.length ≤ 16777216 := by
  unfold webF at h
  split at h
  · cases h
  · rename_i h1
    refine ⟨by omega, fun x hx => ?_⟩
    split at h
    · rename_i h2; exact absurd h h2
    · rename_i h2
      have := pageF_body (pagesG_ok (by simpa using h2) x hx)
      omega
def zeroAns : Answer := ⟨0, [], [], []⟩
def webAskF (p : List WPage) (t : List Took) (a : Addr) (n : Int) : Int :=
  if webF p t ≠ 0 then webF p t else if normalF a ≠ 0 then normalF a else if momentB n = false then 1 else 0
def webAskR (p : List WPage) (t : List Took) (a : Addr) (n : Int) : Answer := if webAskF p t a n = 0 then askedA p (normTextL a) n else zeroAns
theorem zero_le : leL [.int .i64 0, .str [], .nil, .nil] zeroAns.row := ⟨.inl rfl, .inl rfl, .inr ⟨rfl, 2, rfl⟩, .inr ⟨rfl, 1, rfl⟩, trivial⟩
theorem ACalls_leT {P : Program} {f : FuncId} {xs : List XV} {cs cs' : List CV} {y : List XV} (h : leL cs cs') (hc : ACalls P f xs (.tup (.agg cs :: y))) : ACalls P f xs (.tup (.agg cs' :: y)) :=
  ⟨hc.1, fun w S vs hS ha => (hc.2 w S vs hS ha).mono fun _ _ ⟨v, he, hb, ⟨us, hv, hl, hr⟩, hf⟩ => ⟨v, he, hb, ⟨us, hv, by simpa using hl, fun j x hj => by
    cases j with
    | zero =>
      simp at hj; subst hj
      obtain ⟨u, hu, hrep⟩ := hr 0 _ rfl
      exact ⟨u, hu, RepX.le h hrep⟩
    | succ j => exact hr (j + 1) x (by simpa using hj)⟩, fun b hbb => by cases hbb⟩⟩
theorem desk_Asked (p : List WPage) (tk : List Took) (a : Addr) (n : Int) (hT : ∀ x ∈ tk, x.host.length ≤ 300000000000000) (ha : a.Fit) : ACalls Tryz.prog 16 [.agg (webCs p tk), .agg a.row, .one (.int .i64 n)] (.tup [.agg (webAskR p tk a n).row, .one (.int .i64 (webAskF p tk a n))]) := by
  have k1 := desk_CheckWeb p tk hT
  have k2 := address_CheckAddress a ha
  have k3 := desk_normalText a ha
  have k4 := isMoment n
  have hN : addrF a ≠ 0 → normalF a = addrF a := fun h => by unfold normalF; rw [if_pos h]
  have k5 : webF p tk = 0 → ACalls Tryz.prog 49 [.agg (webCs p tk), .one (.str (normTextL a)), .one (.int .i64 n)] (.x (.agg (askedA p (normTextL a) n).row)) := fun h => desk_asked p tk _ n (webF_ok h).1 (webF_ok h).2
  obtain ⟨F, eF⟩ : ∃ F, F = webAskF p tk a n := ⟨_, rfl⟩
  obtain ⟨R, eR⟩ : ∃ R, R = webAskR p tk a n := ⟨_, rfl⟩
  rw [← eF, ← eR]
  unfold webAskR at eR
  rw [← eF] at eR
  unfold webAskF at eF
  unfold webCs at *
  generalize webF p tk = G at k1 eF k5
  generalize normalF a = N at k3 eF hN
  generalize addrF a = A at k2 hN
  generalize momentB n = m at k4 eF
  generalize normTextL a = T at k3 k5 eR
  have bad : F ≠ 0 → ACalls Tryz.prog 16 [.agg [pagesL p, tooksL tk], .agg a.row, .one (.int .i64 n)] (.tup [.agg [.int .i64 0, .str [], .nil, .nil], .one (.int .i64 F)]) → ACalls Tryz.prog 16 [.agg [pagesL p, tooksL tk], .agg a.row, .one (.int .i64 n)] (.tup [.agg R.row, .one (.int .i64 F)]) := fun h hc => by
    rw [eR, if_neg h]
    exact ACalls_leT zero_le hc
  obtain ⟨asc, aho, apo, apa, aqu, ahq, afr, ahfr⟩ := a
  simp only [Addr.row] at k2 k3 bad ⊢
  by_cases h1 : G = 0
  rotate_left
  · rw [if_pos h1] at eF
    subst eF
    refine bad h1 ?_
    have hb : (F == 0) = false := by simpa using h1
    refine ACalls.of mixed (fn := Tryz.f16) (by kernel_rfl) (by kernel_rfl) rfl (by kernel_rfl) (by simp [Tryz.f16]) (fun hok => ?_)
    simp -implicitDefEqProofs
    refine ACallK.of k1 ?_
    simp -implicitDefEqProofs [h1, hb]
  rw [if_neg (fun h => h h1)] at eF
  have k5 := k5 h1
  subst h1
  by_cases h2 : A = 0
  rotate_left
  · rw [if_pos (by rw [hN h2]; exact h2), hN h2] at eF
    subst eF
    refine bad h2 ?_
    have hb : (F == 0) = false := by simpa using h2
    refine ACalls.of mixed (fn := Tryz.f16) (by kernel_rfl) (by kernel_rfl) rfl (by kernel_rfl) (by simp [Tryz.f16]) (fun hok => ?_)
    simp -implicitDefEqProofs
    refine ACallK.of k1 ?_
    simp -implicitDefEqProofs
    refine ACallK.of k2 ?_
    simp -implicitDefEqProofs [h2, hb]
  subst h2
  by_cases h3 : N = 0
  rotate_left
  · rw [if_pos h3] at eF
    subst eF
    refine bad h3 ?_
    have hb : (F == 0) = false := by simpa using h3
    refine ACalls.of mixed (fn := Tryz.f16) (by kernel_rfl) (by kernel_rfl) rfl (by kernel_rfl) (by simp [Tryz.f16]) (fun hok => ?_)
    simp -implicitDefEqProofs
    refine ACallK.of k1 ?_
    simp -implicitDefEqProofs
    refine ACallK.of k2 ?_
    simp -implicitDefEqProofs
    refine ACallK.of k3 ?_
    simp -implicitDefEqProofs [h3, hb]
  rw [if_neg (fun h => h h3)] at eF
  subst h3
  cases m
  · rw [if_pos rfl] at eF
    subst eF
    refine bad (by decide) ?_
    refine ACalls.of mixed (fn := Tryz.f16) (by kernel_rfl) (by kernel_rfl) rfl (by kernel_rfl) (by simp [Tryz.f16]) (fun hok => ?_)
    simp -implicitDefEqProofs
    refine ACallK.of k1 ?_
    simp -implicitDefEqProofs
    refine ACallK.of k2 ?_
    simp -implicitDefEqProofs
    refine ACallK.of k3 ?_
    simp -implicitDefEqProofs
    refine ACallK.of k4 ?_
    simp -implicitDefEqProofs
  · rw [if_neg (by decide)] at eF
    subst eF
    rw [if_pos rfl] at eR
    have hrow : (askedA p T n).row = R.row := by rw [eR]
    rw [hrow] at k5
    obtain ⟨rs, rr, rh, rb⟩ := R
    simp only [Answer.row] at k5 ⊢
    clear bad hrow eR
    refine ACalls.of mixed (fn := Tryz.f16) (by kernel_rfl) (by kernel_rfl) rfl (by kernel_rfl) (by simp [Tryz.f16]) (fun hok => ?_)
    simp -implicitDefEqProofs
    refine ACallK.of k1 ?_
    simp -implicitDefEqProofs
    refine ACallK.of k2 ?_
    simp -implicitDefEqProofs
    refine ACallK.of k3 ?_
    simp -implicitDefEqProofs
    refine ACallK.of k4 ?_
    simp -implicitDefEqProofs
    refine ACallK.of (k5 trivial) ?_
    simp -implicitDefEqProofs
theorem ref12_Asked (p : List WPage) (tk : List Took) (a : Addr) (n : Int) (hT : ∀ x ∈ tk, x.host.length ≤ 300000000000000) (ha : a.Fit) : ACalls Tryz.prog 17 [.agg (webCs p tk), .agg a.row, .one (.int .i64 n)] (.tup [.agg (webAskR p tk a n).row, .one (.int .i64 (webAskF p tk a n))]) := by
  have k1 := ref12_CheckWeb p tk hT
  have k2 := ref1_Normal a ha
  have k3 := ref1_Text (normalR a) (normalR_fit a)
  have hT2 : normalF a = 0 → textL (normalR a) = normTextL a ∧ addrF (normalR a) = 0 := fun h => by
    unfold normTextL normalR textL
    rw [if_pos h, if_pos h, (normalF_ok h).2]
    exact ⟨rfl, rfl⟩
  have em : momentB n = inB 0 253402300799 n := rfl
  have k5 : webF p tk = 0 → ACalls Tryz.prog 51 [.agg (webCs p tk), .one (.str (normTextL a)), .one (.int .i64 n)] (.x (.agg (askedA p (normTextL a) n).row)) := fun h => ref12_asked p tk _ n (webF_ok h).1 (webF_ok h).2
  obtain ⟨F, eF⟩ : ∃ F, F = webAskF p tk a n := ⟨_, rfl⟩
  obtain ⟨R, eR⟩ : ∃ R, R = webAskR p tk a n := ⟨_, rfl⟩
  rw [← eF, ← eR]
  unfold webAskR at eR
  rw [← eF] at eR
  unfold webAskF at eF
  rw [em] at eF
  unfold inB at eF
  unfold webCs at *
  generalize webF p tk = G at k1 eF k5
  generalize normalF a = N at k2 eF hT2
  generalize normTextL a = T at k5 eR hT2
  generalize textL (normalR a) = T2 at k3 hT2
  generalize addrF (normalR a) = A2 at k3 hT2
  generalize normalR a = B at k2 k3
  have bad : F ≠ 0 → ACalls Tryz.prog 17 [.agg [pagesL p, tooksL tk], .agg a.row, .one (.int .i64 n)] (.tup [.agg [.int .i64 0, .str [], .nil, .nil], .one (.int .i64 F)]) → ACalls Tryz.prog 17 [.agg [pagesL p, tooksL tk], .agg a.row, .one (.int .i64 n)] (.tup [.agg R.row, .one (.int .i64 F)]) := fun h hc => by
    rw [eR, if_neg h]
    exact ACalls_leT zero_le hc
  obtain ⟨asc, aho, apo, apa, aqu, ahq, afr, ahfr⟩ := a
  obtain ⟨bsc, bho, bpo, bpa, bqu, bhq, bfr, bhfr⟩ := B
  simp only [Addr.row] at k2 k3 bad ⊢
  by_cases h1 : G = 0
  rotate_left
  · rw [if_pos h1] at eF
    subst eF
    refine bad h1 ?_
    have hb : (F == 0) = false := by simpa using h1
    refine ACalls.of mixed (fn := Tryz.f17) (by kernel_rfl) (by kernel_rfl) rfl (by kernel_rfl) (by simp [Tryz.f17]) (fun hok => ?_)
    simp -implicitDefEqProofs
    refine ACallK.of k1 ?_
    simp -implicitDefEqProofs [h1, hb]
  rw [if_neg (fun h => h h1)] at eF
  have k5 := k5 h1
  subst h1
  by_cases h2 : N = 0
  rotate_left
  · rw [if_pos h2] at eF
    subst eF
    refine bad h2 ?_
    have hb : (F == 0) = false := by simpa using h2
    refine ACalls.of mixed (fn := Tryz.f17) (by kernel_rfl) (by kernel_rfl) rfl (by kernel_rfl) (by simp [Tryz.f17]) (fun hok => ?_)
    simp -implicitDefEqProofs
    refine ACallK.of k1 ?_
    simp -implicitDefEqProofs
    refine ACallK.of k2 ?_
    simp -implicitDefEqProofs [h2, hb]
  rw [if_neg (fun h => h h2)] at eF
  obtain ⟨e1, e2⟩ := hT2 h2
  subst e1 e2 h2
  by_cases c1 : n < 0
  · have c1' : (n < 0) = True := eq_true c1
    rw [decide_eq_false (by omega : ¬ 0 ≤ n), Bool.false_and, if_pos rfl] at eF
    subst eF
    refine bad (by decide) ?_
    refine ACalls.of mixed (fn := Tryz.f17) (by kernel_rfl) (by kernel_rfl) rfl (by kernel_rfl) (by simp [Tryz.f17]) (fun hok => ?_)
    simp -implicitDefEqProofs
    refine ACallK.of k1 ?_
    simp -implicitDefEqProofs
    refine ACallK.of k2 ?_
    simp -implicitDefEqProofs
    refine ACallK.of k3 ?_
    simp -implicitDefEqProofs [c1']
  have c1' : (n < 0) = False := eq_false c1
  by_cases c2 : 253402300799 < n
  · have c2' : (253402300799 < n) = True := eq_true c2
    rw [decide_eq_true (by omega : 0 ≤ n), decide_eq_false (by omega : ¬ n ≤ 253402300799), Bool.and_false, if_pos rfl] at eF
    subst eF
    refine bad (by decide) ?_
    refine ACalls.of mixed (fn := Tryz.f17) (by kernel_rfl) (by kernel_rfl) rfl (by kernel_rfl) (by simp [Tryz.f17]) (fun hok => ?_)
    simp -implicitDefEqProofs
    refine ACallK.of k1 ?_
    simp -implicitDefEqProofs
    refine ACallK.of k2 ?_
    simp -implicitDefEqProofs
    refine ACallK.of k3 ?_
    simp -implicitDefEqProofs [c1', c2']
  have c2' : (253402300799 < n) = False := eq_false c2
  rw [decide_eq_true (by omega : 0 ≤ n), decide_eq_true (by omega : n ≤ 253402300799), Bool.and_true, if_neg (by decide)] at eF
  subst eF
  rw [if_pos rfl] at eR
  have hrow : (askedA p T2 n).row = R.row := by rw [eR]
  rw [hrow] at k5
  obtain ⟨rs, rr, rh, rb⟩ := R
  simp only [Answer.row] at k5 ⊢
  clear bad hrow eR
  refine ACalls.of mixed (fn := Tryz.f17) (by kernel_rfl) (by kernel_rfl) rfl (by kernel_rfl) (by simp [Tryz.f17]) (fun hok => ?_)
  simp -implicitDefEqProofs
  refine ACallK.of k1 ?_
  simp -implicitDefEqProofs
  refine ACallK.of k2 ?_
  simp -implicitDefEqProofs
  refine ACallK.of k3 ?_
  simp -implicitDefEqProofs [c1', c2']
  refine ACallK.of (k5 trivial) ?_
  simp -implicitDefEqProofs
end Go.Proofs.YtklnopamfncfgaaGreatDoor
namespace Go.Proofs.YtklnopamfncfgaaGreatDoor
open Go Go.Ab
set_option linter.unusedSectionVars false
variable [Amb] [HasPow10 Tryz.prog] [HasErrSyntax Tryz.prog]
set_option maxRecDepth 100000
set_option maxHeartbeats 4000000
theorem slices_EqualH_self (l : List Head) : ACalls Tryz.prog 60 [.one (.list 2 (l.map Head.row)), .one (.list 2 (l.map Head.row))] (.x (.one (.bool true))) := by
  refine ACalls.of mixed (fn := Tryz.f60) (by kernel_rfl) (by kernel_rfl) rfl (by kernel_rfl) (by simp [Tryz.f60]) (fun hok => ?_)
  have hl : l.length ≤ maxLen := by have := hok _ List.mem_cons_self; simp [XV.ok, CV.ok] at this; exact this.1
  simp -implicitDefEqProofs
  refine ALoopS.of Nat (fun i => [(0, .x (.one (.list 2 (l.map Head.row)))), (1, .x (.one (.list 2 (l.map Head.row)))), (12, .x (.one (.int .i64 l.length))), (13, .x (.one (.int .i64 i)))]) (fun i => i ≤ l.length) (fun i => l.length - i) 0 (Nat.zero_le _) ?_ ?_
  · simp
  rintro i hi
  by_cases hlt : i < l.length
  · have hlt' : ((i : Int) < (l.length : Int)) = True := eq_true (by omega)
    have hwr : IntKind.i64.wrap ((i : Int) + 1) = (i : Int) + 1 := wrapS _ (by unfold maxLen at hl; omega)
    have hrow : l[i].row = [.str l[i].name, .str l[i].value] := rfl
    simp -implicitDefEqProofs [hlt, hlt', hrow]
    exact Again.of (i + 1) hlt (by omega) (by simp [hwr])
  · have hlt' : ((i : Int) < (l.length : Int)) = False := eq_false (by omega)
    simp -implicitDefEqProofs [hlt']
theorem slices_EqualB_self (l : List UInt8) : ACalls Tryz.prog 61 [.one (bytesL l), .one (bytesL l)] (.x (.one (.bool true))) := by
  refine ACalls.of mixed (fn := Tryz.f61) (by kernel_rfl) (by kernel_rfl) rfl (by kernel_rfl) (by simp [Tryz.f61]) (fun hok => ?_)
  have hl : l.length ≤ maxLen := by have := hok _ List.mem_cons_self; simp [XV.ok, CV.ok] at this; exact this.1
  simp -implicitDefEqProofs
  refine ALoopS.of Nat (fun i => [(0, .x (.one (bytesL l))), (1, .x (.one (bytesL l))), (12, .x (.one (.int .i64 l.length))), (13, .x (.one (.int .i64 i)))]) (fun i => i ≤ l.length) (fun i => l.length - i) 0 (Nat.zero_le _) ?_ ?_
  · simp
  rintro i hi
  by_cases hlt : i < l.length
  · have hlt' : ((i : Int) < (l.length : Int)) = True := eq_true (by omega)
    have hwr : IntKind.i64.wrap ((i : Int) + 1) = (i : Int) + 1 := wrapS _ (by unfold maxLen at hl; omega)
    simp -implicitDefEqProofs [hlt, hlt', byteRow]
    exact Again.of (i + 1) hlt (by omega) (by simp [hwr])
  · have hlt' : ((i : Int) < (l.length : Int)) = False := eq_false (by omega)
    simp -implicitDefEqProofs [hlt']
theorem ref12_SameAnswer_self (a : Answer) : ACalls Tryz.prog 20 [.agg a.row, .agg a.row] (.x (.one (.bool true))) := by
  obtain ⟨rs, rr, rh, rb⟩ := a
  simp only [Answer.row]
  have k1 := slices_EqualH_self rh
  have k2 := slices_EqualB_self rb
  refine ACalls.of mixed (fn := Tryz.f20) (by kernel_rfl) (by kernel_rfl) rfl (by kernel_rfl) (by simp [Tryz.f20]) (fun hok => ?_)
  simp -implicitDefEqProofs
  refine ACallGS.of (fun _ => k1) rfl ?_
  simp -implicitDefEqProofs
  refine ACallGS.of (fun _ => k2) rfl ?_
  simp -implicitDefEqProofs
theorem ACalls_leFirst {P : Program} {f : FuncId} {cs cs' : List CV} {rest : List XV} {r : RV} (h : leL cs cs') (hc : ACalls P f (.agg cs' :: rest) r) : ACalls P f (.agg cs :: rest) r := by
  refine ⟨hc.1, fun w S vs hS ha => hc.2 w S vs hS ⟨by simpa using ha.1, fun j x hj => ?_⟩⟩
  cases j with
  | zero =>
    simp at hj; subst hj
    obtain ⟨u, hu, hr⟩ := ha.2 0 _ rfl
    exact ⟨u, hu, RepX.le h hr⟩
  | succ j => exact ha.2 (j + 1) x (by simpa using hj)
def worksA : Addr := ⟨[104, 116, 116, 112], [101, 46, 99, 111, 109], [], [], [], false, [], false⟩
theorem law12_works : ACalls Tryz.prog 21 [] (.x (.one (.bool true))) := by
  have k := desk_Asked [] [] worksA 5 (fun x hx => by cases hx) (by constructor <;> decide)
  have e1 : webAskF [] [] worksA 5 = 0 := by decide +kernel
  have e2 : webAskR [] [] worksA 5 = ⟨404, [], [], []⟩ := by unfold webAskR; rw [if_pos e1]; rfl
  rw [e1, e2] at k
  have k2 := ACalls_leFirst (cs := [.nil, .nil]) (cs' := [.list 6 [], .list 2 []]) ⟨.inr ⟨rfl, 6, rfl⟩, .inr ⟨rfl, 2, rfl⟩, trivial⟩ k
  simp only [Answer.row, worksA, Addr.row] at k2
  refine ACalls.of mixed (fn := Tryz.f21) (by kernel_rfl) (by kernel_rfl) rfl (by kernel_rfl) (by simp [Tryz.f21]) (fun hok => ?_)
  simp -implicitDefEqProofs
  refine ACallK.of k2 ?_
  simp -implicitDefEqProofs
theorem lawWebs (p : List WPage) (tk : List Took) (a : Addr) (n : Int) (hT : ∀ x ∈ tk, x.host.length ≤ 300000000000000) (ha : a.Fit) : ACalls Tryz.prog 6 [.agg (webCs p tk), .agg a.row, .one (.int .i64 n)] (.x (.one (.bool true))) := by
  have k1 := desk_Asked p tk a n hT ha
  have k2 := ref12_Asked p tk a n hT ha
  have k3 := desk_CheckWeb p tk hT
  have k4 := ref12_CheckWeb p tk hT
  have k5 := ref12_SameAnswer_self (webAskR p tk a n)
  generalize webAskR p tk a n = R at *
  generalize webAskF p tk a n = F at *
  generalize webF p tk = G at *
  obtain ⟨asc, aho, apo, apa, aqu, ahq, afr, ahfr⟩ := a
  obtain ⟨rs, rr, rh, rb⟩ := R
  unfold webCs at *
  simp only [Addr.row, Answer.row] at *
  refine ACalls.of mixed (fn := Tryz.f6) (by kernel_rfl) (by kernel_rfl) rfl (by kernel_rfl) (by simp [Tryz.f6]) (fun hok => ?_)
  simp -implicitDefEqProofs
  refine ACallK.of k1 ?_
  simp -implicitDefEqProofs
  refine ACallK.of k2 ?_
  simp -implicitDefEqProofs
  refine ACallK.of k3 ?_
  simp -implicitDefEqProofs
  refine ACallK.of k4 ?_
  simp -implicitDefEqProofs
  refine ACallGS.of (fun _ => k5) rfl ?_
  simp -implicitDefEqProofs
  refine ACallGS.of (fun _ => law12_works) rfl ?_
  simp -implicitDefEqProofs
end Go.Proofs.YtklnopamfncfgaaGreatDoor
namespace Go.Proofs.YtklnopamfncfgaaGreatDoor
open Go Go.Ab
set_option linter.unusedSectionVars false
set_option maxRecDepth 100000
section
variable [Amb]
def bytesK : KT := .sl 1 (.i .u8)
def pageK : KT := .st [.s, .i .i64, .i .i64, .s, .s, bytesK]
def tookK : KT := .st [.s, .i .i64]
def webK : KT := .st [.sl 6 pageK, .sl 2 tookK]
theorem bytesHas : bytesK.has Tryz.prog 46 := ⟨5, Tryz.underlying46, by kernel_rfl, rfl, by decide, Tryz.underlying5⟩
theorem pageHas : pageK.has Tryz.prog 92 :=
  ⟨_, Tryz.underlying92, by kernel_rfl, rfl, by kernel_rfl, Tryz.underlying9, rfl, by kernel_rfl, Tryz.underlying3, rfl, by kernel_rfl, Tryz.underlying3, rfl, by kernel_rfl, Tryz.underlying9, rfl, by kernel_rfl, Tryz.underlying9, rfl, by kernel_rfl, bytesHas, trivial⟩
theorem tookHas : tookK.has Tryz.prog 98 := ⟨_, Tryz.underlying98, by kernel_rfl, rfl, by kernel_rfl, Tryz.underlying9, rfl, by kernel_rfl, Tryz.underlying3, trivial⟩
theorem webHas : webK.has Tryz.prog 44 :=
  ⟨_, Tryz.underlying44, by kernel_rfl, rfl, by kernel_rfl, ⟨92, Tryz.underlying41, by kernel_rfl, rfl, by decide, pageHas⟩, rfl, by kernel_rfl, ⟨98, Tryz.underlying42, by kernel_rfl, rfl, by decide, tookHas⟩, trivial⟩
theorem bytesFits {cs : List CV} (h : bytesK.fits cs) : ∃ l : List UInt8, cs = [bytesL l] := by
  obtain ⟨xs, rfl, hx⟩ := h
  have key : ∀ xs : List (List CV), (∀ x ∈ xs, KT.fits (.i .u8) x) → ∃ l : List UInt8, xs = l.map byteRow := by
    intro xs
    induction xs with
    | nil => exact fun _ => ⟨[], rfl⟩
    | cons x r ih =>
      intro h
      obtain ⟨l, rfl⟩ := ih (fun y hy => h y (by simp [hy]))
      obtain ⟨n, rfl, hn⟩ := h x (by simp)
      have hb : 0 ≤ n ∧ n < 256 := by
        simp only [Lit.wf, decide_eq_true_eq, Bool.and_eq_true] at hn
        have h1 : IntKind.u8.min = 0 := by decide
        have h2 : IntKind.u8.max = 255 := by decide
        simp only [h1, h2] at hn
        omega
      refine ⟨UInt8.ofNat n.toNat :: l, ?_⟩
      simp only [List.map_cons, List.cons.injEq, and_true]
      simp only [byteRow, List.cons.injEq, and_true, CV.int.injEq, true_and]
      have : (UInt8.ofNat n.toNat).toNat = n.toNat := by
        simp only [UInt8.toNat_ofNat']
        omega
      rw [this]
      omega
  obtain ⟨l, rfl⟩ := key xs hx
  exact ⟨l, rfl⟩
theorem pageFits' {cs : List CV} (h : pageK.fits cs) : ∃ e : WPage, cs = e.row := by
  simp only [pageK, KT.fits, KT.fits.fitsAll] at h
  obtain ⟨_, _, rfl, ⟨e0, rfl, _⟩, _, _, rfl, ⟨e1, rfl, _⟩, _, _, rfl, ⟨e2, rfl, _⟩, _, _, rfl, ⟨e3, rfl, _⟩, _, _, rfl, ⟨e4, rfl, _⟩, _, _, rfl, h5, rfl⟩ := h
  obtain ⟨e5, rfl⟩ := bytesFits h5
  exact ⟨⟨e0, e1, e2, e3, e4, e5⟩, rfl⟩
theorem tookFits {cs : List CV} (h : tookK.fitsB reachBytes cs) : ∃ e : Took, cs = e.row ∧ e.host.length ≤ 300000000000000 := by
  simp only [tookK, KT.fitsB, KT.fitsB.fitsAllB] at h
  obtain ⟨_, _, rfl, ⟨e0, rfl, _, l0⟩, _, _, rfl, ⟨e1, rfl, _⟩, rfl⟩ := h
  unfold reachBytes at l0
  exact ⟨⟨e0, e1⟩, rfl, by simp only; omega⟩
theorem rowsFitP {α : Type} {row : α → List CV} {p : List CV → Prop} {q : α → Prop} (hp : ∀ cs, p cs → ∃ e, cs = row e ∧ q e) {xs : List (List CV)} (h : ∀ x ∈ xs, p x) : ∃ l : List α, xs = l.map row ∧ ∀ e ∈ l, q e := by
  induction xs with
  | nil => exact ⟨[], rfl, fun e he => by cases he⟩
  | cons x r ih =>
    obtain ⟨l, rfl, hl⟩ := ih (fun y hy => h y (by simp [hy]))
    obtain ⟨f, rfl, hf⟩ := hp x (h x (by simp))
    exact ⟨f :: l, rfl, fun e he => by
      rcases List.mem_cons.1 he with rfl | he
      · exact hf
      · exact hl e he⟩
theorem webFits {x : XV} (h : webK.fitsX x) (g : webK.fitsXB reachBytes x) : ∃ w : List WPage × List Took, x = .agg (webCs w.1 w.2) ∧ ∀ y ∈ w.2, y.host.length ≤ 300000000000000 := by
  cases x with
  | one c => exact h.elim
  | agg cs =>
    have h' : webK.fits cs := h
    have g' : webK.fitsB reachBytes cs := g
    simp only [webK, KT.fits, KT.fits.fitsAll] at h'
    simp only [webK, KT.fitsB, KT.fitsB.fitsAllB] at g'
    obtain ⟨_, _, rfl, ⟨xs, rfl, hx⟩, _, _, rfl, ⟨ys, rfl, hy⟩, rfl⟩ := h'
    obtain ⟨a1, b1, e1, ⟨xs', rfl, gx⟩, a2, b2, rfl, ⟨ys', rfl, gy⟩, rfl⟩ := g'
    simp only [List.cons_append, List.nil_append, List.cons.injEq, CV.list.injEq, true_and, and_true] at e1
    obtain ⟨_, rfl⟩ := e1
    obtain ⟨p, rfl, _⟩ := rowsFitP (row := WPage.row) (q := fun _ => True) (fun cs hc => by obtain ⟨e, he⟩ := pageFits' hc; exact ⟨e, he, trivial⟩) hx
    obtain ⟨t, rfl, ht⟩ := rowsFitP (row := Took.row) (fun cs hc => tookFits hc) gy
    exact ⟨(p, t), rfl, ht⟩
variable [HasPow10 Tryz.prog] [HasErrSyntax Tryz.prog]
theorem lawWebs2 (w : List WPage × List Took) (a : Addr) (n : Int) (hT : ∀ x ∈ w.2, x.host.length ≤ 300000000000000) (ha : a.Fit) : ACalls Tryz.prog 6 [.agg (webCs w.1 w.2), .agg a.row, .one (.int .i64 n)] (.x (.one (.bool true))) := lawWebs w.1 w.2 a n hT ha
end
end Go.Proofs.YtklnopamfncfgaaGreatDoor
