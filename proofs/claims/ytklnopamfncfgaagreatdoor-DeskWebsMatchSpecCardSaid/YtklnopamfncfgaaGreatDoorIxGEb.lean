/- A part of the proof: lemmas and contracts of functions. -/
import Derived.Test.YtklnopamfncfgaaGreatDoorIxGEa
import Derived.Shelf.Lays
import Derived.Shelf.LaysC
import Derived.Shelf.LaysM
import Derived.Test.YtklnopamfncfgaaGreatDoorProg
import Derived.KernelRfl
import Derived.Test.YtklnopamfncfgaaGreatDoorAbJ5
import Derived.Lib.AtoiErrMem
import Derived.Shelf.Strconv.AtoiAll
namespace Go.Proofs.YtklnopamfncfgaaGreatDoor
open Go Go.Ab
set_option linter.unusedSectionVars false
variable [Amb]
set_option maxRecDepth 100000
set_option maxHeartbeats 4000000
structure Addr.Fit (a : Addr) : Prop where
  scheme : a.scheme.length ≤ 300000000000000
  host : a.host.length ≤ 300000000000000
  port : a.port.length ≤ 300000000000000
  path : a.path.length ≤ 300000000000000
  query : a.query.length ≤ 300000000000000
  frag : a.frag.length ≤ 300000000000000
theorem address_Behind (a : Addr) (h : a.Fit) : ACalls Tryz.prog 113 [.agg a.row] (.x (.one (.str (behindL a)))) := by
  refine ACalls.of mixed (fn := Tryz.f113) (by kernel_rfl) (by kernel_rfl) rfl (by kernel_rfl) (by simp [Tryz.f113]) (fun hok => ?_)
  obtain ⟨sc, ho, po, pa, qu, hq, fr, hf⟩ := a
  obtain ⟨l1, l2, l3, l4, l5, l6⟩ := h
  simp only at l1 l2 l3 l4 l5 l6
  cases hq <;> cases hf
  all_goals
    simp -implicitDefEqProofs [Addr.row, behindL, queryL, fragL]
    try (unfold maxLen; omega)
theorem address_write (a : Addr) (h : a.Fit) : ACalls Tryz.prog 63 [.agg a.row] (.x (.one (.str (writeL a)))) := by
  refine ACalls.of mixed (fn := Tryz.f63) (by kernel_rfl) (by kernel_rfl) rfl (by kernel_rfl) (by simp [Tryz.f63]) (fun hok => ?_)
  have hb := address_Behind a h
  have hbl : (behindL a).length ≤ 1000000000000000 := by
    have := h.path; have := h.query; have := h.frag
    unfold behindL queryL fragL
    split <;> split <;> simp <;> omega
  obtain ⟨l1, l2, l3, l4, l5, l6⟩ := h
  have hrow : a.row = [.str a.scheme, .str a.host, .str a.port, .str a.path, .str a.query, .bool a.hasQ, .str a.frag, .bool a.hasF] := rfl
  have hW : writeL a = a.scheme ++ [58, 47, 47] ++ a.host ++ portL a ++ behindL a := rfl
  generalize writeL a = W at hW
  generalize behindL a = B at hb hbl hW
  unfold portL at hW
  rw [hrow] at hb ⊢
  by_cases hp : a.port = []
  · rw [if_pos hp, List.append_nil] at hW
    subst hW
    simp -implicitDefEqProofs [hp]
    rw [hp] at hb
    refine ⟨by unfold maxLen; omega, by unfold maxLen; omega, ACallK.of hb ?_⟩
    simp -implicitDefEqProofs
    try (unfold maxLen; omega)
  · rw [if_neg hp] at hW
    subst hW
    simp -implicitDefEqProofs [hp]
    refine ⟨by unfold maxLen; omega, by unfold maxLen; omega, by unfold maxLen; omega, by unfold maxLen; omega, ACallK.of hb ?_⟩
    simp -implicitDefEqProofs
    try (unfold maxLen; omega)
theorem ref1_written (a : Addr) (h : a.Fit) : ACalls Tryz.prog 67 [.agg a.row] (.x (.one (.str (writeL a)))) := by
  refine ACalls.of mixed (fn := Tryz.f67) (by kernel_rfl) (by kernel_rfl) rfl (by kernel_rfl) (by simp [Tryz.f67]) (fun hok => ?_)
  obtain ⟨sc, ho, po, pa, qu, hq, fr, hf⟩ := a
  obtain ⟨l1, l2, l3, l4, l5, l6⟩ := h
  simp only at l1 l2 l3 l4 l5 l6
  by_cases hp : po = []
  · subst hp
    cases hq <;> cases hf
    all_goals
      simp -implicitDefEqProofs [Addr.row, writeL, portL, behindL, queryL, fragL]
      try (unfold maxLen; omega)
  · cases hq <;> cases hf
    all_goals
      simp -implicitDefEqProofs [Addr.row, writeL, portL, behindL, queryL, fragL, hp]
      try (unfold maxLen; omega)
theorem addrF_10 {a : Addr} (h : schemeB a.scheme = false ∨ hostB a.host = false ∨ (a.port ≠ [] ∧ portV a.port = 0) ∨ pathB a.path = false ∨ rowB [] a.query = false ∨ rowB [] a.frag = false) : addrF a = 10 := by
  unfold addrF
  by_cases h1 : schemeB a.scheme = false ∨ hostB a.host = false ∨ (a.port ≠ [] ∧ portV a.port = 0)
  · rw [if_pos h1]
  · rw [if_neg h1]
    simp only [not_or] at h1
    have h2 : pathB a.path = false ∨ rowB [] a.query = false ∨ rowB [] a.frag = false := by
      rcases h with h | h | h | h
      · exact absurd h h1.1
      · exact absurd h h1.2.1
      · exact absurd h h1.2.2
      · exact h
    rw [if_pos h2]
theorem addrF_more {a : Addr} (h1 : schemeB a.scheme = true) (h2 : hostB a.host = true) (h3 : ¬ (a.port ≠ [] ∧ portV a.port = 0)) (h4 : pathB a.path = true) (h5 : rowB [] a.query = true) (h6 : rowB [] a.frag = true) :
    addrF a = if (a.query ≠ [] ∧ a.hasQ = false) ∨ (a.frag ≠ [] ∧ a.hasF = false) then 3 else if 2000 < (writeL a).length then 2 else 0 := by
  unfold addrF
  rw [if_neg (by rintro (h | h | h); rw [h1] at h; cases h; rw [h2] at h; cases h; exact h3 h), if_neg (by simp [h4, h5, h6])]
theorem pathB_get {s : List UInt8} (h : 0 < s.length) : pathB s = (decide (s[0] = 47) && rowB [63] s) := by
  have hd : s.head? = some s[0] := by rw [List.head?_eq_getElem?, List.getElem?_eq_getElem h]
  have hne : ¬ s = [] := by rintro rfl; simp at h
  unfold pathB
  rw [hd]
  simp [hne]
theorem one_hex {d : UInt8} (hd : hexC d = false) : ∀ c, ([d] : List UInt8).contains c = true → hexC c = false := by
  intro c h
  rw [single_contains] at h
  have : c = d := by simpa using h
  rw [this]; exact hd
theorem u8_int_ne {c : UInt8} (n : Nat) (hn : n < 256) (h : c ≠ UInt8.ofNat n) : ((c.toNat : Int) = n) = False := eq_false (fun e => h ((u8_int n hn).1 e))
theorem address_CheckAddress (a : Addr) (h : a.Fit) : ACalls Tryz.prog 47 [.agg a.row] (.x (.one (.int .i64 (addrF a)))) := by
  refine ACalls.of mixed (fn := Tryz.f47) (by kernel_rfl) (by kernel_rfl) rfl (by kernel_rfl) (by simp [Tryz.f47]) (fun hok => ?_)
  have hwr := address_write a h
  obtain ⟨l1, l2, l3, l4, l5, l6⟩ := h
  obtain ⟨sc, ho, po, pa, qu, hq, fr, hf⟩ := a
  simp only [Addr.row] at hwr l1 l2 l3 l4 l5 l6 ⊢
  obtain ⟨F, eF⟩ : ∃ F, F = addrF ⟨sc, ho, po, pa, qu, hq, fr, hf⟩ := ⟨_, rfl⟩
  obtain ⟨W, eW⟩ : ∃ W, W = writeL ⟨sc, ho, po, pa, qu, hq, fr, hf⟩ := ⟨_, rfl⟩
  rw [← eF]
  rw [← eW] at hwr
  simp -implicitDefEqProofs
  refine ACallK.of (address_Small sc) ?_
  cases h1 : schemeB sc
  · rw [addrF_10 (.inl h1)] at eF
    unfold schemeB httpL httpsL at h1
    simp only [Bool.or_eq_false_iff, decide_eq_false_iff_not] at h1
    simp -implicitDefEqProofs [h1.1, h1.2]
    exact eF
  have hs : smallL sc = [104, 116, 116, 112] ∨ smallL sc = [104, 116, 116, 112, 115] := by
    unfold schemeB httpL httpsL at h1
    simpa only [Bool.or_eq_true, decide_eq_true_eq] using h1
  have hs1 : (!(smallL sc == [104, 116, 116, 112]) && !(smallL sc == [104, 116, 116, 112, 115])) = false := by
    rcases hs with hs | hs <;> simp [hs]
  have hs2 : smallL sc = [104, 116, 116, 112] ∨ smallL sc = [104, 116, 116, 112, 115] := hs
  clear hs
  simp -implicitDefEqProofs
  refine ⟨fun a b => absurd (hs2.resolve_left a) b, fun _ => ACallK.of (address_isHost ho) ?_⟩
  cases h2 : hostB ho
  · rw [addrF_10 (.inr (.inl h2))] at eF
    simp -implicitDefEqProofs
    exact eF
  by_cases h3 : po ≠ [] ∧ portV po = 0
  · rw [addrF_10 (.inr (.inr (.inl h3)))] at eF
    have h30 := h3.1
    have h31 := h3.2
    simp -implicitDefEqProofs [h30]
    refine ACallGS.of (fun _ => address_portOf po) rfl ?_
    simp -implicitDefEqProofs [h30, h31]
    exact eF
  simp -implicitDefEqProofs
  refine ACallGS.of (fun _ => address_portOf po) rfl ?_
  simp -implicitDefEqProofs
  refine ⟨fun a b => absurd ⟨a, b⟩ h3, fun _ => ?_⟩
  cases pa with
  | nil =>
    simp -implicitDefEqProofs
    refine ACallGS.of (fun _ => address_IsRow [] [63] (by simp) (one_hex (by decide))) rfl ?_
    have hr0 : rowB [63] [] = true := rfl
    simp -implicitDefEqProofs [hr0]
    refine ACallK.of (address_IsRow qu [] (by omega) (fun c h => by simp at h)) ?_
    cases h5 : rowB [] qu
    · rw [addrF_10 (.inr (.inr (.inr (.inr (.inl h5)))))] at eF
      simp -implicitDefEqProofs
      exact eF
    simp -implicitDefEqProofs
    refine ACallK.of (address_IsRow fr [] (by omega) (fun c h => by simp at h)) ?_
    cases h6 : rowB [] fr
    · rw [addrF_10 (.inr (.inr (.inr (.inr (.inr h6)))))] at eF
      simp -implicitDefEqProofs
      exact eF
    rw [addrF_more h1 h2 h3 rfl h5 h6, ← eW] at eF
    cases hq <;> cases hf <;> by_cases q0 : qu = [] <;> by_cases f0 : fr = []
    all_goals
      simp only [q0, f0, ne_eq, not_true_eq_false, not_false_eq_true, false_and, and_false, true_and, and_true, false_or, or_false, true_or, or_true, if_true, if_false, Bool.true_eq_false, Bool.false_eq_true, reduceCtorEq] at eF
      simp -implicitDefEqProofs [q0, f0]
      first
        | exact eF
        | (first
            | exact ACallK.of hwr (by
                by_cases hW : 2000 < W.length
                · rw [if_pos hW] at eF
                  have hW' : (2000 < (W.length : Int)) = True := eq_true (by omega)
                  simp -implicitDefEqProofs [hW, hW']
                  exact eF
                · rw [if_neg hW] at eF
                  have hW' : (2000 < (W.length : Int)) = False := eq_false (by omega)
                  simp -implicitDefEqProofs [hW, hW']
                  exact eF)
            | (simp only [q0, f0] at hwr
               exact ACallK.of hwr (by
                by_cases hW : 2000 < W.length
                · rw [if_pos hW] at eF
                  have hW' : (2000 < (W.length : Int)) = True := eq_true (by omega)
                  simp -implicitDefEqProofs [hW, hW']
                  exact eF
                · rw [if_neg hW] at eF
                  have hW' : (2000 < (W.length : Int)) = False := eq_false (by omega)
                  simp -implicitDefEqProofs [hW, hW']
                  exact eF)))
  | cons c r =>
    by_cases hc : c = 47
    · have fc : ((c.toNat : Int) = 47) = True := eq_true ((u8_int 47 (by omega)).2 hc)
      have fb : ((c.toNat : Int) != 47) = false := by rw [bne_eq_false_iff_eq]; exact (u8_int 47 (by omega)).2 hc
      simp -implicitDefEqProofs [fc, fb]
      refine ACallGS.of (fun _ => address_IsRow (c :: r) [63] (by omega) (one_hex (by decide))) rfl ?_
      cases h4 : rowB [63] (c :: r)
      · rw [addrF_10 (.inr (.inr (.inr (.inl (by rw [pathB_get (by simp)]; simp [h4])))))] at eF
        simp -implicitDefEqProofs [fc, fb]
        exact eF
      simp -implicitDefEqProofs [fc, fb]
      refine ACallK.of (address_IsRow qu [] (by omega) (fun c h => by simp at h)) ?_
      cases h5 : rowB [] qu
      · rw [addrF_10 (.inr (.inr (.inr (.inr (.inl h5)))))] at eF
        simp -implicitDefEqProofs
        exact eF
      simp -implicitDefEqProofs
      refine ACallK.of (address_IsRow fr [] (by omega) (fun c h => by simp at h)) ?_
      cases h6 : rowB [] fr
      · rw [addrF_10 (.inr (.inr (.inr (.inr (.inr h6)))))] at eF
        simp -implicitDefEqProofs
        exact eF
      rw [addrF_more h1 h2 h3 (by rw [pathB_get (by simp), h4]; simp [hc]) h5 h6, ← eW] at eF
      cases hq <;> cases hf <;> by_cases q0 : qu = [] <;> by_cases f0 : fr = []
      all_goals
        simp only [q0, f0, ne_eq, not_true_eq_false, not_false_eq_true, false_and, and_false, true_and, and_true, false_or, or_false, true_or, or_true, if_true, if_false, Bool.true_eq_false, Bool.false_eq_true, reduceCtorEq] at eF
        simp -implicitDefEqProofs [q0, f0]
        first
          | exact eF
          | (first
              | exact ACallK.of hwr (by
                  by_cases hW : 2000 < W.length
                  · rw [if_pos hW] at eF
                    have hW' : (2000 < (W.length : Int)) = True := eq_true (by omega)
                    simp -implicitDefEqProofs [hW, hW']
                    exact eF
                  · rw [if_neg hW] at eF
                    have hW' : (2000 < (W.length : Int)) = False := eq_false (by omega)
                    simp -implicitDefEqProofs [hW, hW']
                    exact eF)
              | (simp only [q0, f0] at hwr
                 exact ACallK.of hwr (by
                  by_cases hW : 2000 < W.length
                  · rw [if_pos hW] at eF
                    have hW' : (2000 < (W.length : Int)) = True := eq_true (by omega)
                    simp -implicitDefEqProofs [hW, hW']
                    exact eF
                  · rw [if_neg hW] at eF
                    have hW' : (2000 < (W.length : Int)) = False := eq_false (by omega)
                    simp -implicitDefEqProofs [hW, hW']
                    exact eF)))
    · have fc := u8_int_ne 47 (by omega) hc
      have fb : ((c.toNat : Int) != 47) = true := by rw [bne_iff_ne]; exact fun e => hc ((u8_int 47 (by omega)).1 e)
      rw [addrF_10 (.inr (.inr (.inr (.inl (by rw [pathB_get (by simp)]; simp [hc])))))] at eF
      simp -implicitDefEqProofs [fc, fb]
      refine ACallGS.of (fun h => by simp at h) (r := .x (.one (.bool false))) rfl ?_
      simp -implicitDefEqProofs [fc, fb]
      exact eF
end Go.Proofs.YtklnopamfncfgaaGreatDoor
namespace Go.Proofs.YtklnopamfncfgaaGreatDoor
open Go Go.Ab
set_option linter.unusedSectionVars false
variable [Amb]
set_option maxRecDepth 100000
theorem weights_front {H : Type} {P : Program} {p : Nat → Bool} : ∀ {ts us : List TypeId} {ds gs : List (DataW H)}, (DataW.weightsEach P (ts ++ us) (ds ++ gs)).all p = true → (DataW.weightsEach P ts ds).all p = true
  | [], _, _, _, _ => by rw [DataW.weightsEach]; rfl; intros; simp_all
  | _ :: _, _, [], _, _ => by rw [DataW.weightsEach]; rfl; intros; simp_all
  | t :: ts, us, d :: ds, gs, h => by
    rw [List.cons_append, List.cons_append, DataW.weightsEach, List.all_append, Bool.and_eq_true] at h
    rw [DataW.weightsEach, List.all_append, Bool.and_eq_true]
    exact ⟨h.1, weights_front h.2⟩
def addrK : KT := .st [.s, .s, .s, .s, .s, .b, .s, .b]
theorem addrHas : KT.has Tryz.prog addrK 23 :=
  ⟨_, Tryz.underlying23, by kernel_rfl, rfl, by kernel_rfl, Tryz.underlying9, rfl, by kernel_rfl, Tryz.underlying9, rfl, by kernel_rfl, Tryz.underlying9, rfl, by kernel_rfl, Tryz.underlying9, rfl, by kernel_rfl, Tryz.underlying9,
    rfl, by kernel_rfl, Tryz.underlying4, rfl, by kernel_rfl, Tryz.underlying9, rfl, by kernel_rfl, Tryz.underlying4, trivial⟩
theorem addrFits' {cs : List CV} (h : addrK.fitsB reachBytes cs) : ∃ a : Addr, cs = a.row ∧ a.Fit := by
  simp only [addrK, KT.fitsB, KT.fitsB.fitsAllB] at h
  obtain ⟨_, _, rfl, ⟨e0, rfl, _, l0⟩, _, _, rfl, ⟨e1, rfl, _, l1⟩, _, _, rfl, ⟨e2, rfl, _, l2⟩, _, _, rfl, ⟨e3, rfl, _, l3⟩, _, _, rfl, ⟨e4, rfl, _, l4⟩, _, _, rfl, ⟨e5, rfl⟩, _, _, rfl, ⟨e6, rfl, _, l6⟩, _, _, rfl, ⟨e7, rfl⟩, rfl⟩ := h
  unfold reachBytes at l0 l1 l2 l3 l4 l6
  exact ⟨⟨e0, e1, e2, e3, e4, e5, e6, e7⟩, rfl, ⟨by simp only; omega, by simp only; omega, by simp only; omega, by simp only; omega, by simp only; omega, by simp only; omega⟩⟩
theorem addrFits {x : XV} (_ : addrK.fitsX x) (h : addrK.fitsXB reachBytes x) : ∃ a : Addr, x = .agg a.row ∧ a.Fit := by
  cases x with
  | one c => exact h.elim
  | agg cs =>
    obtain ⟨a, rfl, f⟩ := addrFits' h
    exact ⟨a, rfl, f⟩
end Go.Proofs.YtklnopamfncfgaaGreatDoor
namespace Go.Proofs.YtklnopamfncfgaaGreatDoor
open Go Go.Ab
theorem comL_small : ∀ (u t : List UInt8), comL u t = u.length → smallL (t.take u.length) = u
  | [], t, _ => by simp [smallL]
  | w :: ws, [], h => by simp [comL] at h
  | w :: ws, a :: t, h => by
    rw [comL] at h
    split at h
    · rename_i hw
      have := comL_small ws t (by simpa using h)
      rw [List.length_cons, List.take_succ_cons]
      show smallC a :: smallL (t.take ws.length) = _
      rw [this, hw]
    · simp at h
theorem schemeR_back {t : List UInt8} {n : Nat} (h : schemeR t = .ok n) : schemeB (t.take n) = true ∧ t = t.take n ++ [58, 47, 47] ++ t.drop (n + 3) := by
  have key : ∀ (u : List UInt8), comL (u ++ [58, 47, 47]) t = u.length + 3 → smallL (t.take u.length) = u ∧ t = t.take u.length ++ [58, 47, 47] ++ t.drop (u.length + 3) := by
    intro u hu
    have h1 := comL_small (u ++ [58, 47, 47]) t (by simpa using hu)
    have hl : (t.take (u.length + 3)).length = u.length + 3 := by
      have := congrArg List.length h1
      simpa [smallL] using this
    have hs : t.take (u.length + 3) = t.take u.length ++ (t.drop u.length).take 3 := List.take_add
    have hl2 : ((t.drop u.length).take 3).length = 3 := by
      rw [List.length_take] at hl
      rw [List.length_take, List.length_drop]; omega
    have h1' : smallL (t.take u.length) ++ smallL ((t.drop u.length).take 3) = u ++ [58, 47, 47] := by
      rw [List.length_append] at h1
      rw [show u.length + ([58, 47, 47] : List UInt8).length = u.length + 3 from rfl, hs] at h1
      simpa [smallL] using h1
    have hu1 : (smallL (t.take u.length)).length = u.length := by
      rw [List.length_take] at hl
      simp [smallL]; omega
    obtain ⟨g1, g2⟩ := List.append_inj h1' hu1
    refine ⟨g1, ?_⟩
    have g3 : (t.drop u.length).take 3 = [58, 47, 47] := by
      match (t.drop u.length).take 3, hl2, g2 with
      | [a, b, c], _, g2 =>
        simp [smallL] at g2
        rw [small_58 a g2.1, small_47 b g2.2.1, small_47 c g2.2.2]
    rw [← g3, ← hs, List.take_append_drop]
  unfold schemeR at h
  split at h
  · injection h with h; subst h
    rename_i hc
    obtain ⟨g1, g2⟩ := key httpL hc
    exact ⟨by unfold schemeB; rw [show (4 : Nat) = httpL.length from rfl, g1]; rfl, g2⟩
  · split at h
    · injection h with h; subst h
      rename_i hc
      obtain ⟨g1, g2⟩ := key httpsL hc
      exact ⟨by unfold schemeB; rw [show (5 : Nat) = httpsL.length from rfl, g1]; rfl, g2⟩
    · cases h
theorem take_takeWhile (p : UInt8 → Bool) : ∀ s : List UInt8, s = s.takeWhile p ++ s.drop (s.takeWhile p).length
  | [] => rfl
  | a :: r => by
    by_cases h : p a = true
    · rw [List.takeWhile_cons_of_pos h, List.length_cons, List.drop_succ_cons, List.cons_append, ← take_takeWhile p r]
    · rw [List.takeWhile_cons_of_neg h]; rfl
theorem placeR_back {s : List UInt8} (h : (placeR s).1 = true) : hostB (placeR s).2.2.1 = true ∧ ((placeR s).2.2.2 ≠ [] → portV (placeR s).2.2.2 ≠ 0) ∧ endB (s.drop (placeR s).2.1) = true ∧
    s = (placeR s).2.2.1 ++ (if (placeR s).2.2.2 = [] then [] else 58 :: (placeR s).2.2.2) ++ s.drop (placeR s).2.1 := by
  unfold placeR at h ⊢
  obtain ⟨x, ex⟩ : ∃ x, x = s.takeWhile hostC := ⟨_, rfl⟩
  obtain ⟨p, ep⟩ : ∃ p, p = (s.drop (x.length + 1)).takeWhile isDig := ⟨_, rfl⟩
  have hx := take_takeWhile hostC s
  have hp := take_takeWhile isDig (s.drop (x.length + 1))
  rw [← ex] at hx
  rw [← ep] at hp
  simp only [← ex] at h ⊢
  simp only [← ep] at h ⊢
  by_cases h1 : hostB x = false
  · rw [if_pos h1] at h; cases h
  rw [if_neg h1] at h
  simp only [if_neg h1]
  by_cases h2 : (s.drop x.length).head? = some 58
  · rw [if_pos h2] at h
    simp only [if_pos h2]
    by_cases h3 : portV p = 0
    · rw [if_pos h3] at h; cases h
    · rw [if_neg h3] at h
      simp only [if_neg h3]
      have hp0 : p ≠ [] := by
        intro e; obtain ⟨g, _⟩ := portV_pos h3; rw [e] at g; simp at g
      refine ⟨by simpa using h1, fun _ => h3, h, ?_⟩
      rw [if_neg hp0]
      have hd : s.drop x.length = 58 :: s.drop (x.length + 1) := by
        rw [← List.drop_drop]
        cases hq : s.drop x.length with
        | nil => rw [hq] at h2; cases h2
        | cons a r => rw [hq] at h2; simp at h2; subst h2; rfl
      conv => lhs; rw [hx, hd, hp, List.drop_drop]
      simp
  · rw [if_neg h2] at h
    simp only [if_neg h2]
    refine ⟨by simpa using h1, fun e => absurd rfl e, h, ?_⟩
    simpa using hx
theorem rowEndL_stop {w : List UInt8} : ∀ s : List UInt8, (rowEndL w s).2 = true → ∀ c, (s.drop (rowEndL w s).1).head? = some c → w.contains c = true
  | [], _, c, h => by simp [rowEndL] at h
  | d :: r, hk, c, h => by
    rw [rowEndL] at hk h
    split at h
    · rename_i hd; simp at h; subst h; exact hd
    · rename_i hd
      rw [if_neg hd] at hk
      split at h
      · rename_i he; rw [if_pos he] at hk; cases hk
      · rename_i he
        rw [if_neg he] at hk
        exact rowEndL_stop r hk c (by simpa using h)
theorem tailR_back {c : UInt8} {w s : List UInt8} (hw : ∀ d, w.contains d = true → hexC d = false) (h : (tailR c w s).1 = true) (hs : ∀ d, s.head? = some d → d = c ∨ w.contains d = true) :
    rowB [] (tailR c w s).2.2.1 = true ∧ ((tailR c w s).2.2.1 ≠ [] → (tailR c w s).2.2.2 = true) ∧ s = (if (tailR c w s).2.2.2 = true then c :: (tailR c w s).2.2.1 else []) ++ s.drop (tailR c w s).2.1 ∧
    ∀ d, (s.drop (tailR c w s).2.1).head? = some d → w.contains d = true := by
  unfold tailR at h ⊢
  by_cases h1 : s.head? = some c
  · rw [if_pos h1] at h
    simp only [if_pos h1, if_true]
    have hd : s = c :: s.drop 1 := by
      cases s with
      | nil => cases h1
      | cons a r => simp at h1; subst h1; rfl
    have hst := rowEndL_stop _ h
    have hdr : s.drop ((rowEndL w (s.drop 1)).1 + 1) = (s.drop 1).drop (rowEndL w (s.drop 1)).1 := by rw [List.drop_drop]; congr 1; omega
    refine ⟨rowB_take hw [] (fun c hc => by simp at hc) _ h, by simp, ?_, by rw [hdr]; exact hst⟩
    rw [hdr, List.cons_append, List.take_append_drop]
    exact hd
  · rw [if_neg h1] at h
    simp only [if_neg h1]
    refine ⟨rfl, by simp, by simp, fun d hd => ?_⟩
    rcases hs d (by simpa using hd) with rfl | h2
    · exact absurd (by simpa using hd) h1
    · exact h2
theorem restR_back {s : List UInt8} (h : (restR s).ok = true) (he : endB s = true) : pathB (restR s).path = true ∧ rowB [] (restR s).query = true ∧ rowB [] (restR s).frag = true ∧
    ((restR s).query ≠ [] → (restR s).hasQ = true) ∧ ((restR s).frag ≠ [] → (restR s).hasF = true) ∧
    s = (restR s).path ++ (if (restR s).hasQ = true then 63 :: (restR s).query else []) ++ (if (restR s).hasF = true then 35 :: (restR s).frag else []) := by
  unfold restR at h ⊢
  obtain ⟨p, ep⟩ : ∃ p, p = rowEndL [63, 35] s := ⟨_, rfl⟩
  obtain ⟨q, eq⟩ : ∃ q, q = tailR 63 [35] (s.drop p.1) := ⟨_, rfl⟩
  obtain ⟨f, ef⟩ : ∃ f, f = tailR 35 [] (s.drop (p.1 + q.2.1)) := ⟨_, rfl⟩
  simp only [← ep] at h ⊢
  simp only [← eq] at h ⊢
  simp only [← ef] at h ⊢
  by_cases h1 : p.2 = false
  · rw [if_pos h1] at h; cases h
  rw [if_neg h1] at h
  simp only [if_neg h1]
  by_cases h2 : q.1 = false
  · rw [if_pos h2] at h; cases h
  rw [if_neg h2] at h
  simp only [if_neg h2]
  replace h : f.1 = true := h
  have h1' : (rowEndL [63, 35] s).2 = true := by rw [← ep]; simpa using h1
  have h2' : (tailR 63 [35] (s.drop p.1)).1 = true := by rw [← eq]; simpa using h2
  have h3' : (tailR 35 [] (s.drop (p.1 + q.2.1))).1 = true := by rw [← ef]; exact h
  have hst := rowEndL_stop s h1'
  rw [← ep] at hst
  have hw : ∀ d, ([63, 35] : List UInt8).contains d = true → d = 63 ∨ d = 35 := by intro d hd; simpa using hd
  obtain ⟨q1, q2, q3, q4⟩ := tailR_back (fun d hd => by simp at hd; subst hd; decide) h2' (fun d hd => (hw d (hst d hd)).imp id (fun e => by rw [e]; decide))
  rw [← eq, List.drop_drop] at q3
  rw [← eq] at q1 q2
  rw [← eq, List.drop_drop] at q4
  obtain ⟨f1, f2, f3, f4⟩ := tailR_back (fun d hd => by simp at hd) h3' (fun d hd => .inl (by have := q4 d hd; simpa using this))
  rw [← ef] at f1 f2 f3 f4
  have hend : (s.drop (p.1 + q.2.1)).drop f.2.1 = [] := by
    cases hx : (s.drop (p.1 + q.2.1)).drop f.2.1 with
    | nil => rfl
    | cons d r => have := f4 d (by rw [hx]; rfl); simp at this
  rw [hend, List.append_nil] at f3
  have hrow : rowB [63] (s.take p.1) = true := by
    rw [ep]
    exact rowB_take (fun d hd => by rcases hw d hd with rfl | rfl <;> decide) [63] (fun d hd => by simp at hd; subst hd; decide) s h1'
  refine ⟨?_, q1, f1, q2, f2, ?_⟩
  · unfold pathB
    cases hs : s with
    | nil => simp
    | cons c r =>
      rw [hs] at he
      have he' : backC c = true := he
      simp only [backC, Bool.or_eq_true, decide_eq_true_eq] at he'
      rw [← hs]
      rcases he' with rfl | he'
      · have : p.1 ≠ 0 := by
          intro h0
          have := hst 47 (by rw [h0, hs]; rfl)
          revert this; decide
        obtain ⟨k, hk⟩ : ∃ k, p.1 = k + 1 := ⟨p.1 - 1, by omega⟩
        rw [hrow, hk, hs]; simp
      · have : p.1 = 0 := by
          rw [ep, hs, rowEndL, if_pos (by rcases he' with rfl | rfl <;> decide)]
        rw [this]; simp
  · conv => lhs; rw [← List.take_append_drop p.1 s, q3, f3]
    simp
theorem write_read {t : List UInt8} {a : Addr} (h : readA t = .ok a) : writeL a = t ∧ (t.length ≤ 2000 → addrF a = 0) := by
  unfold readA at h
  split at h
  · cases h
  · rename_i n hs
    obtain ⟨s1, s2⟩ := schemeR_back hs
    obtain ⟨s, es⟩ : ∃ s, s = t.drop (n + 3) := ⟨_, rfl⟩
    obtain ⟨p, ep⟩ : ∃ p, p = placeR s := ⟨_, rfl⟩
    obtain ⟨r, er⟩ : ∃ r, r = restR (s.drop p.2.1) := ⟨_, rfl⟩
    simp only [← es] at h
    simp only [← ep] at h
    simp only [← er] at h
    split at h
    · cases h
    rename_i h1
    split at h
    · cases h
    rename_i h2
    injection h with h
    have h1' : (placeR s).1 = true := by rw [← ep]; simpa using h1
    have h2' : (restR (s.drop p.2.1)).ok = true := by rw [← er]; simpa using h2
    obtain ⟨p1, p2, p3, p4⟩ := placeR_back h1'
    rw [← ep] at p1 p2 p3 p4
    obtain ⟨r1, r2, r3, r4, r5, r6⟩ := restR_back h2' p3
    rw [← er] at r1 r2 r3 r4 r5 r6
    have hw : writeL a = t := by
      subst h
      unfold writeL portL behindL queryL fragL
      simp only
      rw [← r6]
      conv => rhs; rw [s2, ← es, p4]
      simp
    refine ⟨hw, fun hl => ?_⟩
    rw [← hw] at hl
    subst h
    unfold addrF
    rw [if_neg, if_neg, if_neg, if_neg (by omega)]
    · rintro (⟨a, b⟩ | ⟨a, b⟩)
      · rw [r4 a] at b; cases b
      · rw [r5 a] at b; cases b
    · simp only [r1, r2, r3]; simp
    · simp only [s1, p1]
      rintro (a | a | ⟨a, b⟩)
      · cases a
      · cases a
      · exact p2 a b
end Go.Proofs.YtklnopamfncfgaaGreatDoor
namespace Go.Proofs.YtklnopamfncfgaaGreatDoor
open Go Go.Ab
def unhexV (c : UInt8) : Nat := if isDig c = true then c.toNat - 48 else if 97 ≤ c.toNat then c.toNat - 87 else c.toNat - 55
def plainC (c : UInt8) : Bool := letB c || (isDig c || ([45, 46, 95, 126] : List UInt8).contains c)
def hexU (n : Nat) : UInt8 := if n < 10 then UInt8.ofNat (48 + n) else UInt8.ofNat (55 + n)
def codeC (a b : UInt8) : List UInt8 := if plainC (UInt8.ofNat (16 * unhexV a + unhexV b)) = true then [UInt8.ofNat (16 * unhexV a + unhexV b)] else [37, hexU (unhexV a), hexU (unhexV b)]
def codedL : List UInt8 → List UInt8
  | c :: a :: b :: r => if c = 37 then codeC a b ++ codedL r else c :: codedL (a :: b :: r)
  | l => l
def dotL : List UInt8 := [46]
def dotsL : List UInt8 := [46, 46]
def undotS (out : List (List UInt8)) (p : List UInt8) : List (List UInt8) := if p = dotsL then out.dropLast else if p = dotL then out else out ++ [p]
def undotP (parts : List (List UInt8)) : List (List UInt8) := parts.foldl undotS [] ++ (if parts.getLast? = some dotsL ∨ parts.getLast? = some dotL then [[]] else [])
def undotL (path : List UInt8) : List UInt8 := if path = [] then [] else 47 :: joinC 47 (undotP (splitC 47 (path.drop 1)))
def trim0 (p : List UInt8) : List UInt8 := p.dropWhile (· == 48)
def portN (scheme p : List UInt8) : List UInt8 := if (scheme = httpL ∧ trim0 p = [56, 48]) ∨ (scheme = httpsL ∧ trim0 p = [52, 52, 51]) then [] else trim0 p
def pathN (p : List UInt8) : List UInt8 := if undotL (codedL p) = [] then [47] else undotL (codedL p)
def normalA (a : Addr) : Addr := ⟨smallL a.scheme, smallL a.host, portN (smallL a.scheme) a.port, pathN a.path, codedL a.query, a.hasQ, [], false⟩
def normalF (a : Addr) : Int := if addrF a ≠ 0 then addrF a else addrF (normalA a)
def turnedL (c d : UInt8) (s : List UInt8) : List UInt8 := joinC d (splitC c s).reverse
def keyN (n : Addr) : List UInt8 := turnedL 46 44 n.host ++ portL n ++ [41] ++ (if n.scheme = httpsL then [115] else []) ++ n.path ++ queryL n
def keyA (a : Addr) : List UInt8 := keyN (normalA a)
def aftD (c : UInt8) (s : List UInt8) : List UInt8 := if c ∈ s then aftC c s else []
def tailS (r : List UInt8) : List UInt8 := if r.head? = some 115 then r.drop 1 else r
def ofKeyA (s : List UInt8) : Addr :=
  ⟨if (aftD 41 s).head? = some 115 then httpsL else httpL, turnedL 44 46 (befC 58 (befC 41 s)), aftD 58 (befC 41 s), befC 63 (tailS (aftD 41 s)), aftD 63 (tailS (aftD 41 s)), decide (63 ∈ tailS (aftD 41 s)), [], false⟩
def keyOk (s : List UInt8) : Bool := decide (addrF (ofKeyA s) = 0) && (decide (keyA (ofKeyA s) = s) && !(decide (58 ∈ befC 41 s) && decide (aftD 58 (befC 41 s) = [])))
def ofKeyF (s : List UInt8) : Int := if 2000 < s.length then 2 else if keyOk s = true then 0 else 10
def ofKeyR (s : List UInt8) : Addr := if ofKeyF s = 0 then ofKeyA s else noAddr
def hostK (s : List UInt8) : List UInt8 := befC 41 s
theorem dropWhile_mem {α : Type} (p : α → Bool) : ∀ (l : List α), ∀ x ∈ l.dropWhile p, x ∈ l
  | [], x, h => h
  | a :: r, x, h => by
    rw [List.dropWhile_cons] at h
    split at h
    · exact List.mem_cons_of_mem _ (dropWhile_mem p r x h)
    · exact h
theorem decV_cons48 (r : List UInt8) : decV (48 :: r) = decV r := by unfold decV; rfl
theorem trim0_dec : ∀ p : List UInt8, decV (trim0 p) = decV p
  | [] => rfl
  | a :: r => by
    unfold trim0
    rw [List.dropWhile_cons]
    split
    · rename_i h
      have : a = 48 := by simpa using h
      subst this
      rw [decV_cons48]
      exact trim0_dec r
    · rfl
theorem trim0_head (p : List UInt8) : (trim0 p).head? ≠ some 48 := by
  induction p with
  | nil => simp [trim0]
  | cons a r ih =>
    unfold trim0 at ih ⊢
    rw [List.dropWhile_cons]
    split
    · exact ih
    · rename_i h
      simpa using h
theorem trim0_itoa {p : List UInt8} (h : portV p ≠ 0) : trim0 p = Lib.itoa (portV p : Int) := by
  obtain ⟨_, _, hd, _, hv⟩ := portV_pos h
  have ha : (trim0 p).all isDig = true := by
    rw [List.all_eq_true] at hd ⊢
    exact fun x hx => hd x (dropWhile_mem _ _ x hx)
  have hn : trim0 p ≠ [] := by
    intro e
    have := trim0_dec p
    rw [e] at this
    rw [hv, ← this] at h
    exact h rfl
  have hl : lead0 (trim0 p) = false := by unfold lead0; simp [trim0_head]
  have := decDigits_decV _ ha hn hl
  rw [trim0_dec, ← hv] at this
  rw [← this]
  unfold Lib.itoa
  rw [if_neg (by omega)]
  simp
theorem portN_eq {s p : List UInt8} (h : p ≠ [] → portV p ≠ 0) : portN s p = if (portV p ≠ 0 ∧ ¬ (portV p = 80 ∧ s = httpL)) ∧ ¬ (portV p = 443 ∧ s = httpsL) then Lib.itoa (portV p : Int) else [] := by
  by_cases h0 : p = []
  · subst h0
    have : portV [] = 0 := rfl
    rw [this]
    unfold portN trim0
    simp
  · have hv := h h0
    have e := trim0_itoa hv
    have i80 : Lib.itoa (portV p : Int) = [56, 48] ↔ portV p = 80 := by
      constructor
      · intro h
        rw [← e] at h
        have := trim0_dec p
        rw [h] at this
        obtain ⟨_, _, _, _, hp⟩ := portV_pos hv
        rw [hp, ← this]; rfl
      · intro h
        rw [h]
        have := decDigits_decV [56, 48] (by decide) (by simp) (by decide)
        unfold Lib.itoa
        rw [if_neg (by omega)]
        exact this
    have i443 : Lib.itoa (portV p : Int) = [52, 52, 51] ↔ portV p = 443 := by
      constructor
      · intro h
        rw [← e] at h
        have := trim0_dec p
        rw [h] at this
        obtain ⟨_, _, _, _, hp⟩ := portV_pos hv
        rw [hp, ← this]; rfl
      · intro h
        rw [h]
        have := decDigits_decV [52, 52, 51] (by decide) (by simp) (by decide)
        unfold Lib.itoa
        rw [if_neg (by omega)]
        exact this
    unfold portN
    simp only [e, i80, i443]
    by_cases a : portV p = 80 ∧ s = httpL
    · rw [if_pos (.inl ⟨a.2, a.1⟩), if_neg (fun c => c.1.2 a)]
    · by_cases b : portV p = 443 ∧ s = httpsL
      · rw [if_pos (.inr ⟨b.2, b.1⟩), if_neg (fun c => c.2 b)]
      · rw [if_neg (by rintro (c | c); exact a ⟨c.2, c.1⟩; exact b ⟨c.2, c.1⟩), if_pos ⟨⟨hv, a⟩, b⟩]
theorem joinC_flat (c : UInt8) : ∀ (w : List (List UInt8)), w ≠ [] → c :: joinC c w = (w.map (c :: ·)).flatten
  | [], h => absurd rfl h
  | [a], _ => by simp [joinC]
  | a :: b :: r, _ => by
    have := joinC_flat c (b :: r) (by simp)
    rw [joinC, List.map_cons, List.flatten_cons, ← this]; simp
theorem joinC_snoc (c : UInt8) : ∀ (w : List (List UInt8)) (x : List UInt8), w ≠ [] → joinC c (w ++ [x]) = joinC c w ++ c :: x
  | [], _, h => absurd rfl h
  | [a], x, _ => by simp [joinC]
  | a :: b :: r, x, _ => by
    have := joinC_snoc c (b :: r) x (by simp)
    simp only [List.cons_append, joinC] at this ⊢
    rw [this]; simp
theorem undotP_ne (parts : List (List UInt8)) (h : parts ≠ []) : undotP parts ≠ [] := by
  obtain ⟨t, b, rfl⟩ := snoc_ex parts h
  unfold undotP
  rw [List.foldl_append, List.getLast?_concat]
  show undotS (t.foldl undotS []) b ++ _ ≠ []
  unfold undotS
  by_cases h1 : b = dotsL
  · simp [h1]
  · by_cases h2 : b = dotL
    · simp [h2]
    · simp [h1, h2]
theorem smallC_host : ∀ c : UInt8, hostC c = true → hostC (smallC c) = true := u8_all (by decide +kernel)
theorem hostC_more : ∀ c : UInt8, hostC c = true → c ≠ 41 ∧ c ≠ 44 ∧ c ≠ 58 := u8_all (by decide +kernel)
theorem splitC_mem {c : UInt8} : ∀ {s : List UInt8}, ∀ x ∈ splitC c s, ∀ d ∈ x, d ∈ s
  | [], x, hx, d, hd => by simp [splitC] at hx; subst hx; cases hd
  | b :: r, x, hx, d, hd => by
    have ih := splitC_mem (c := c) (s := r)
    rw [splitC] at hx
    split at hx
    · rcases List.mem_cons.1 hx with rfl | hx
      · cases hd
      · exact List.mem_cons_of_mem _ (ih x hx d hd)
    · split at hx
      · rename_i h t e
        rw [e] at ih
        rcases List.mem_cons.1 hx with rfl | hx
        · rcases List.mem_cons.1 hd with rfl | hd
          · exact List.mem_cons_self
          · exact List.mem_cons_of_mem _ (ih h (by simp) d hd)
        · exact List.mem_cons_of_mem _ (ih x (by simp [hx]) d hd)
      · simp at hx; subst hx; simp at hd; simp [hd]
theorem joinC_mem {c : UInt8} : ∀ (w : List (List UInt8)), ∀ d ∈ joinC c w, d = c ∨ ∃ x ∈ w, d ∈ x
  | [], d, h => by cases h
  | [a], d, h => .inr ⟨a, by simp, h⟩
  | a :: b :: r, d, h => by
    rw [joinC] at h
    rcases List.mem_append.1 h with h | h
    · exact .inr ⟨a, by simp, h⟩
    · rcases List.mem_cons.1 h with h | h
      · exact .inl h
      · rcases joinC_mem (b :: r) d h with h | ⟨x, hx, hd⟩
        · exact .inl h
        · exact .inr ⟨x, List.mem_cons_of_mem _ hx, hd⟩
theorem turnedL_mem {c d : UInt8} {s : List UInt8} : ∀ x ∈ turnedL c d s, x = d ∨ (x ∈ s ∧ x ≠ c) := by
  intro x hx
  rcases joinC_mem _ x hx with h | ⟨y, hy, hd⟩
  · exact .inl h
  · have hy' := List.mem_reverse.1 hy
    exact .inr ⟨splitC_mem y hy' x hd, fun e => splitC_parts y hy' (e ▸ hd)⟩
theorem trim0_port {p : List UInt8} (h : p ≠ [] → portV p ≠ 0) : ∀ x ∈ trim0 p, isDig x = true := by
  intro x hx
  have hm := dropWhile_mem _ _ x hx
  have h0 : p ≠ [] := by rintro rfl; cases hm
  exact List.all_eq_true.1 (portV_pos (h h0)).2.2.1 x hm
theorem hostK_key {a : Addr} (h : addrF a = 0) : 41 ∉ (turnedL 46 44 (normalA a).host ++ portL (normalA a)) ∧ hostK (keyA a) = turnedL 46 44 (normalA a).host ++ portL (normalA a) ∧ 58 ∉ turnedL 46 44 (normalA a).host := by
  obtain ⟨_, hh, hp, _⟩ := addrF_ok h
  have hall := List.all_eq_true.1 (host_all hh)
  have h1 : ∀ x ∈ turnedL 46 44 (normalA a).host, x ≠ 41 ∧ x ≠ 58 := by
    intro x hx
    rcases turnedL_mem x hx with rfl | ⟨hm, _⟩
    · decide
    · obtain ⟨y, hy, rfl⟩ := List.mem_map.1 hm
      have := hostC_more _ (smallC_host y (hall y hy))
      exact ⟨this.1, this.2.2⟩
  have h2 : ∀ x ∈ portL (normalA a), x ≠ 41 := by
    intro x hx
    unfold portL at hx
    split at hx
    · cases hx
    · rcases List.mem_cons.1 hx with rfl | hx
      · decide
      · have hx' : x ∈ trim0 a.port := by
          have : x ∈ portN (smallL a.scheme) a.port := hx
          unfold portN at this
          split at this
          · cases this
          · exact this
        have := trim0_port hp x hx'
        rintro rfl
        revert this; decide
  have hn : 41 ∉ (turnedL 46 44 (normalA a).host ++ portL (normalA a)) := by
    intro hm
    rcases List.mem_append.1 hm with hm | hm
    · exact (h1 41 hm).1 rfl
    · exact h2 41 hm rfl
  refine ⟨hn, ?_, fun hm => (h1 58 hm).2 rfl⟩
  unfold hostK keyA keyN
  rw [show turnedL 46 44 (normalA a).host ++ portL (normalA a) ++ [41] ++ (if (normalA a).scheme = httpsL then [115] else []) ++ (normalA a).path ++ queryL (normalA a) =
    (turnedL 46 44 (normalA a).host ++ portL (normalA a)) ++ 41 :: ((if (normalA a).scheme = httpsL then [115] else []) ++ (normalA a).path ++ queryL (normalA a)) by simp]
  exact befC_append hn
theorem key_41 (a : Addr) : 41 ∈ keyA a := by unfold keyA keyN; simp
theorem keyOk_ref (s : List UInt8) : keyOk s = (decide (41 ∈ s) && (decide (addrF (ofKeyA s) = 0) && decide (keyA (ofKeyA s) = s))) := by
  unfold keyOk
  by_cases h1 : addrF (ofKeyA s) = 0
  · by_cases h2 : keyA (ofKeyA s) = s
    · have h41 : 41 ∈ s := by rw [← h2]; exact key_41 _
      have h3 : ¬ (58 ∈ befC 41 s ∧ aftD 58 (befC 41 s) = []) := by
        rintro ⟨h4, h5⟩
        obtain ⟨_, k2, k3⟩ := hostK_key h1
        rw [h2] at k2
        have hp : portL (normalA (ofKeyA s)) = [] := by
          have : (ofKeyA s).port = [] := h5
          unfold portL normalA portN
          rw [this]
          simp [trim0]
        rw [hp, List.append_nil] at k2
        unfold hostK at k2
        rw [k2] at h4
        exact k3 h4
      simp only [h1, h2, h41, decide_true, Bool.true_and]
      by_cases h4 : 58 ∈ befC 41 s
      · have h5 : ¬ aftD 58 (befC 41 s) = [] := fun h5 => h3 ⟨h4, h5⟩
        simp [h5]
      · simp [h4]
    · simp [h1, h2]
  · simp [h1]
end Go.Proofs.YtklnopamfncfgaaGreatDoor
namespace Go.Proofs.YtklnopamfncfgaaGreatDoor
open Go Go.Ab
set_option linter.unusedSectionVars false
variable [Amb]
set_option maxRecDepth 100000
set_option maxHeartbeats 4000000
theorem codedL_plain {c : UInt8} (h : c ≠ 37) (r : List UInt8) : codedL (c :: r) = c :: codedL r := by
  match r with
  | [] => rfl
  | [a] => rfl
  | a :: b :: r => rw [codedL, if_neg h]
theorem codedL_pct (a b : UInt8) (r : List UInt8) : codedL (37 :: a :: b :: r) = codeC a b ++ codedL r := by rw [codedL, if_pos rfl]
theorem row_pct {w : List UInt8} : ∀ {s : List UInt8}, rowB w s = true → ∀ (i : Nat) (h : i < s.length), s[i] = 37 → hex2 (s.drop (i + 1)) = true
  | [], _, i, h, _ => by simp at h
  | c :: r, hr, 0, _, e => (rowB_cons hr).2.2.1 e
  | c :: r, hr, i + 1, h, e => by
    rw [List.drop_succ_cons]
    exact row_pct (rowB_cons hr).2.2.2 i (by simpa using h) e
theorem rowB_none {w : List UInt8} : ∀ {s : List UInt8}, rowB w s = true → rowB [] s = true
  | [], _ => rfl
  | c :: r, h => by
    obtain ⟨_, h2, h3, h4⟩ := rowB_cons h
    have ih := rowB_none h4
    unfold rowB at ih ⊢
    rw [rowEndL_cons (by simp) h2 h3]
    simpa using ih
structure CodeAt (s : List UInt8) (i : Nat) (out : List UInt8) : Prop where
  le : i ≤ s.length
  len : out.length ≤ i
  eq : codedL s = out ++ codedL (s.drop i)
theorem CodeAt.zero (s : List UInt8) : CodeAt s 0 [] := ⟨Nat.zero_le _, Nat.zero_le _, by simp⟩
theorem CodeAt.one {s out : List UInt8} {i : Nat} (h : CodeAt s i out) (hlt : i < s.length) (hn : s[i] ≠ 37) : CodeAt s (i + 1) (out ++ [s[i]]) :=
  ⟨hlt, by have := h.len; simp; omega, by rw [h.eq, List.drop_eq_getElem_cons hlt, codedL_plain hn]; simp⟩
theorem codeC_len (a b : UInt8) : (codeC a b).length ≤ 3 := by unfold codeC; split <;> simp
theorem CodeAt.three {s out : List UInt8} {i : Nat} (h : CodeAt s i out) (hlt : i + 2 < s.length) (hn : s[i]'(by omega) = 37) : CodeAt s (i + 3) (out ++ codeC (s[i + 1]'(by omega)) s[i + 2]) :=
  ⟨hlt, by have := h.len; have := codeC_len (s[i + 1]'(by omega)) s[i + 2]; simp; omega, by
    rw [h.eq, List.drop_eq_getElem_cons (by omega), List.drop_eq_getElem_cons (by omega), List.drop_eq_getElem_cons hlt, hn, codedL_pct]; simp⟩
theorem CodeAt.done {s out : List UInt8} {i : Nat} (h : CodeAt s i out) (hge : ¬ i < s.length) : codedL s = out := by
  rw [h.eq, List.drop_eq_nil_of_le (by omega)]; simp [codedL]
theorem unhexV_lt' : ∀ c : UInt8, hexC c = true → unhexV c < 16 := u8_all (by decide +kernel)
theorem unhexV_lt {c : UInt8} (h : hexC c = true) : unhexV c < 16 := unhexV_lt' c h
theorem hex_two (s : List UInt8) (i : Nat) (h : hex2 (s.drop (i + 1)) = true) : ∃ h2 : i + 2 < s.length, hexC s[i + 1] = true ∧ hexC s[i + 2] = true := by
  rw [hex2_at] at h
  by_cases h2 : i + 2 < s.length
  · rw [dif_pos h2, Bool.and_eq_true] at h
    exact ⟨h2, h.1, h.2⟩
  · rw [dif_neg h2] at h; cases h
theorem address_value (c : UInt8) (h : hexC c = true) : ACalls Tryz.prog 247 [byteX c] (.x (.one (.int .u8 (unhexV c)))) := by
  have hf : ∀ c : UInt8, hexC c = true → isDig c = false → (97 ≤ c.toNat → IntKind.u8.wrap (IntKind.u8.wrap ((c.toNat : Int) - 97) + 10) = (unhexV c : Int)) ∧ (¬ 97 ≤ c.toNat → IntKind.u8.wrap (IntKind.u8.wrap ((c.toNat : Int) - 65) + 10) = (unhexV c : Int)) := u8_all (by decide +kernel)
  have hg : ∀ c : UInt8, isDig c = true → IntKind.u8.wrap ((c.toNat : Int) - 48) = (unhexV c : Int) := u8_all (by decide +kernel)
  refine ACalls.of mixed (fn := Tryz.f247) (by kernel_rfl) (by kernel_rfl) rfl (by kernel_rfl) (by simp [Tryz.f247]) (fun hok => ?_)
  simp -implicitDefEqProofs
  refine ACallK.of (address_isDigit c) ?_
  cases b : isDig c
  · obtain ⟨f1, f2⟩ := hf c h b
    by_cases h97 : 97 ≤ c.toNat
    · have g : (97 ≤ (c.toNat : Int)) = True := eq_true (by omega)
      have f := f1 h97
      simp -implicitDefEqProofs [g, f]
    · have g : (97 ≤ (c.toNat : Int)) = False := eq_false (by omega)
      have f := f2 h97
      simp -implicitDefEqProofs [g, f]
  · have f := hg c b
    simp -implicitDefEqProofs [f]
theorem ref1_unhex (c : UInt8) (h : hexC c = true) : ACalls Tryz.prog 217 [byteX c] (.x (.one (.int .i64 (unhexV c)))) := by
  have hx : ∀ c : UInt8, hexC c = true → ((c.toNat : Int) < 128) ∧ atByte [48, 49, 50, 51, 52, 53, 54, 55, 56, 57, 97, 98, 99, 100, 101, 102] (smallC c) = (unhexV c : Int) := u8_all (by decide +kernel)
  obtain ⟨h1, h2⟩ := hx c h
  have hsm := ref1_Small [c]
  rw [show smallL [c] = [smallC c] from rfl] at hsm
  refine ACalls.of mixed (fn := Tryz.f217) (by kernel_rfl) (by kernel_rfl) rfl (by kernel_rfl) (by simp [Tryz.f217]) (fun hok => ?_)
  have hw : ∀ c : UInt8, IntKind.i32.wrap (c.toNat : Int) = c.toNat := u8_all (by decide +kernel)
  have hw1 := hw c
  have h0 : (0 ≤ (c.toNat : Int)) = True := eq_true (by omega)
  have h1' : ((c.toNat : Int) < 128) = True := eq_true h1
  have hsx := strings_IndexByte [48, 49, 50, 51, 52, 53, 54, 55, 56, 57, 97, 98, 99, 100, 101, 102] (smallC c)
  rw [h2] at hsx
  simp -implicitDefEqProofs [hw1, h0, h1']
  refine ACallK.of hsm ?_
  simp -implicitDefEqProofs
  refine ACallK.of hsx ?_
  simp -implicitDefEqProofs
def digU : List UInt8 := [48, 49, 50, 51, 52, 53, 54, 55, 56, 57, 65, 66, 67, 68, 69, 70]
theorem digU_at {n : Nat} (h : n < 16) : ∀ hn, digU[n]'hn = hexU n := by
  have : ∀ k : Fin 16, ∀ hn, digU[k.val]'hn = hexU k.val := by decide
  exact this ⟨n, h⟩
structure HexPair (A B : Nat) (v : UInt8) : Prop where
  eq : v.toNat = 16 * A + B
  or : bitsOf .or .u8 (IntKind.u8.wrap ((A : Int) * 16)) B = (v.toNat : Int)
  and : bitsOf .and .u8 (v.toNat : Int) 15 = (B : Int)
  shr : (v.toNat : Int).fdiv 16 = (A : Int)
  cv : IntKind.u8.wrap (16 * (A : Int) + B) = (v.toNat : Int)
  quo : IntKind.u8.wrap ((v.toNat : Int) / 16) = (A : Int)
  rem : (v.toNat : Int).tmod 16 = (B : Int)
theorem hexPair {A B : Nat} (hA : A < 16) (hB : B < 16) : HexPair A B (UInt8.ofNat (16 * A + B)) := by
  have key : ∀ A B : Fin 16, bitsOf .or .u8 (IntKind.u8.wrap ((A.val : Int) * 16)) B.val = ((UInt8.ofNat (16 * A.val + B.val)).toNat : Int) ∧ bitsOf .and .u8 ((UInt8.ofNat (16 * A.val + B.val)).toNat : Int) 15 = (B.val : Int) := by decide +kernel
  have e : (UInt8.ofNat (16 * A + B)).toNat = 16 * A + B := UInt8.toNat_ofNat_of_lt' (by simp [UInt8.size]; omega)
  have k := key ⟨A, hA⟩ ⟨B, hB⟩
  have wr : ∀ z : Int, 0 ≤ z → z < 256 → IntKind.u8.wrap z = z := fun z h1 h2 => by simp [IntKind.wrap, IntKind.signed, IntKind.bits]; omega
  refine ⟨e, k.1, k.2, ?_, ?_, ?_, ?_⟩
  · rw [e, Int.fdiv_eq_ediv_of_nonneg _ (by omega)]; omega
  · rw [wr _ (by omega) (by omega), e]; omega
  · rw [e, wr _ (by omega) (by omega)]; omega
  · rw [e, Int.tmod_eq_emod_of_nonneg (by omega)]; omega
theorem plainC_split (v : UInt8) : plainC v = (letB v || (isDig v || (decide (v = 45) || (decide (v = 46) || (decide (v = 95) || decide (v = 126)))))) := by
  unfold plainC
  have : ([45, 46, 95, 126] : List UInt8).contains v = (decide (v = 45) || (decide (v = 46) || (decide (v = 95) || decide (v = 126)))) := by
    rw [Bool.eq_iff_iff]; simp
  rw [this]
theorem address_normalRow (s : List UInt8) (w : List UInt8) (hr : rowB w s = true) (hs : s.length ≤ 4000000000000) : ACalls Tryz.prog 215 [.one (.str s)] (.x (.one (.str (codedL s)))) := by
  have hp := row_pct hr
  refine ACalls.of mixed (fn := Tryz.f215) (by kernel_rfl) (by kernel_rfl) rfl (by kernel_rfl) (by simp [Tryz.f215]) (fun hok => ?_)
  simp -implicitDefEqProofs
  refine ALoopS.of (Nat × List UInt8) (fun x => [(0, .x (.one (.str s))), (3, .own 5 1 (byteRows x.2)), (4, .x (.one (.int .i64 x.1)))]) (fun x => CodeAt s x.1 x.2) (fun x => s.length - x.1) (0, []) (CodeAt.zero s) ?_ ?_
  · simp [byteRows]
  rintro ⟨i, out⟩ hi
  have hle := hi.le
  have hol := hi.len
  simp only at hle hol
  have hbl : (byteRows out).length = out.length := rows_len out
  by_cases hlt : i < s.length
  rotate_left
  · have hlt' : ((i : Int) < (s.length : Int)) = False := eq_false (by omega)
    have hd := hi.done hlt
    have ho := okB_rows out
    have hb := strB_rows out
    have hm : out.length ≤ maxLen := by unfold maxLen; omega
    simp -implicitDefEqProofs [hlt', hlt, ho, hb, hbl, hm]
    exact hd
  have hlt' : ((i : Int) < (s.length : Int)) = True := eq_true (by omega)
  by_cases h37 : s[i] = 37
  rotate_left
  · have f1 : ((s[i].toNat : Int) = 37) = False := u8_int_ne 37 (by omega) h37
    have f2 : ((s[i].toNat : Int) != 37) = true := by rw [bne_iff_ne]; exact fun e => h37 ((u8_int 37 (by omega)).1 e)
    have hm : out.length + 1 ≤ maxLen := by unfold maxLen; omega
    have wi : IntKind.i64.wrap ((i : Int) + 1) = (i : Int) + 1 := wrapS _ (by omega)
    have hst : byteRows (out ++ [s[i]]) = byteRows out ++ [byteRow s[i]] := by simp [byteRows]
    simp -implicitDefEqProofs [hlt', hlt, f1, f2, hbl, hm, wi]
    refine ⟨by omega, Again.of (i + 1, out ++ [s[i]]) (hi.one hlt h37) (by simp only; omega) ?_⟩
    simp [hst, wi]
  have f1 : ((s[i].toNat : Int) = 37) = True := eq_true ((u8_int 37 (by omega)).2 h37)
  have f2 : ((s[i].toNat : Int) != 37) = false := by rw [bne_eq_false_iff_eq]; exact (u8_int 37 (by omega)).2 h37
  obtain ⟨h2, x1, x2⟩ := hex_two s i (hp i hlt h37)
  have n1 : i + 1 < s.length := by omega
  have n1' : ((i : Int) + 1 < (s.length : Int)) = True := eq_true (by omega)
  have n2' : ((i : Int) + 2 < (s.length : Int)) = True := eq_true (by omega)
  have p1 : (0 ≤ (i : Int) + 1) = True := eq_true (by omega)
  have p2 : (0 ≤ (i : Int) + 2) = True := eq_true (by omega)
  have m1 : ((i : Int) + 1).toNat = i + 1 := by omega
  have m2 : ((i : Int) + 2).toNat = i + 2 := by omega
  have w1 : IntKind.i64.wrap ((i : Int) + 1) = (i : Int) + 1 := wrapS _ (by omega)
  have w2 : IntKind.i64.wrap ((i : Int) + 2) = (i : Int) + 2 := wrapS _ (by omega)
  have w3 : IntKind.i64.wrap ((i : Int) + 2 + 1) = (i : Int) + 3 := by rw [wrapS _ (by omega)]; omega
  have v1 := address_value s[i + 1] x1
  have v2 := address_value s[i + 2] x2
  have lA := unhexV_lt x1
  have lB := unhexV_lt x2
  have hcc : codeC s[i + 1] s[i + 2] = if plainC (UInt8.ofNat (16 * unhexV s[i + 1] + unhexV s[i + 2])) = true then [UInt8.ofNat (16 * unhexV s[i + 1] + unhexV s[i + 2])] else [37, hexU (unhexV s[i + 1]), hexU (unhexV s[i + 2])] := rfl
  have hthree := hi.three h2 h37
  obtain ⟨A, eA⟩ : ∃ A, A = unhexV s[i + 1] := ⟨_, rfl⟩
  obtain ⟨B, eB⟩ : ∃ B, B = unhexV s[i + 2] := ⟨_, rfl⟩
  rw [← eA] at v1 lA hcc
  rw [← eB] at v2 lB hcc
  have hv := hexPair lA lB
  obtain ⟨v, ev⟩ : ∃ v, v = UInt8.ofNat (16 * A + B) := ⟨_, rfl⟩
  rw [← ev] at hv hcc
  have hps := plainC_split v
  have hcl := codeC_len s[i + 1] s[i + 2]
  obtain ⟨cc, ecc⟩ : ∃ cc, cc = codeC s[i + 1] s[i + 2] := ⟨_, rfl⟩
  rw [← ecc] at hcc hthree hcl
  obtain ⟨z1, z2, z3, z4, z5, z6, z7⟩ := hv
  clear eA eB ev ecc
  have dA := digU_at lA
  have dB := digU_at lB
  unfold digU at dA dB
  have hb8 : IntKind.u8.bits = 8 := rfl
  have wA : IntKind.i64.wrap (16 * (A : Int)) = 16 * (A : Int) := wrapS _ (by omega)
  have wAB : IntKind.i64.wrap (16 * (A : Int) + (B : Int)) = 16 * (A : Int) + (B : Int) := wrapS _ (by omega)
  have lA' : ((A : Int) < 16) = True := eq_true (by omega)
  have lB' : ((B : Int) < 16) = True := eq_true (by omega)
  simp -implicitDefEqProofs [hlt', hlt, f1, f2, n1, n1', n2', h2, p1, p2, m1, m2, w1, w2]
  refine ACallK.of v1 ?_
  simp -implicitDefEqProofs [n1, n1', n2', h2, p1, p2, m1, m2, w1, w2]
  refine ACallK.of v2 ?_
  simp -implicitDefEqProofs [z2, hb8]
  refine ACallK.of (address_isLetter v) ?_
  have E1 : plainC v = true → cc = [v] := fun h => by rw [hcc, if_pos h]
  have E0 : plainC v = false → cc = [37, hexU A, hexU B] := fun h => by rw [hcc, if_neg (by rw [h]; decide)]
  have S1 : plainC v = true → byteRows (out ++ cc) = byteRows out ++ [byteRow v] := fun h => by rw [E1 h]; simp [byteRows]
  have S0 : plainC v = false → byteRows (out ++ cc) = byteRows out ++ [byteRow 37, byteRow (hexU A), byteRow (hexU B)] := fun h => by rw [E0 h]; simp [byteRows]
  have hm1 : out.length + 1 ≤ maxLen := by unfold maxLen; omega
  have hm3 : out.length + 3 ≤ maxLen := by unfold maxLen; omega
  cases b1 : letB v
  · simp -implicitDefEqProofs
    refine ACallGS.of (fun _ => address_isDigit v) rfl ?_
    cases b2 : isDig v
    · by_cases b3 : v = 45
      · have e3 : ((v.toNat : Int) = 45) = True := eq_true ((u8_int 45 (by omega)).2 b3)
        have g3 : ((v.toNat : Int) == 45) = true := by simpa using e3
        simp -implicitDefEqProofs [e3, g3, hbl, hm1, w2]
        have hpl : plainC v = true := by rw [hps]; simp [*]
        refine ⟨by omega, Again.of (i + 3, out ++ cc) hthree (by simp only; omega) ?_⟩
        simp [S1 hpl, w3]
      have e3 : ((v.toNat : Int) = 45) = False := u8_int_ne 45 (by omega) b3
      have g3 : ((v.toNat : Int) == 45) = false := by simpa using e3
      by_cases b4 : v = 46
      · have e4 : ((v.toNat : Int) = 46) = True := eq_true ((u8_int 46 (by omega)).2 b4)
        have g4 : ((v.toNat : Int) == 46) = true := by simpa using e4
        simp -implicitDefEqProofs [e3, g3, e4, g4, hbl, hm1, w2]
        have hpl : plainC v = true := by rw [hps]; simp [*]
        refine ⟨by omega, Again.of (i + 3, out ++ cc) hthree (by simp only; omega) ?_⟩
        simp [S1 hpl, w3]
      have e4 : ((v.toNat : Int) = 46) = False := u8_int_ne 46 (by omega) b4
      have g4 : ((v.toNat : Int) == 46) = false := by simpa using e4
      by_cases b5 : v = 95
      · have e5 : ((v.toNat : Int) = 95) = True := eq_true ((u8_int 95 (by omega)).2 b5)
        have g5 : ((v.toNat : Int) == 95) = true := by simpa using e5
        simp -implicitDefEqProofs [e3, g3, e4, g4, e5, g5, hbl, hm1, w2]
        have hpl : plainC v = true := by rw [hps]; simp [*]
        refine ⟨by omega, Again.of (i + 3, out ++ cc) hthree (by simp only; omega) ?_⟩
        simp [S1 hpl, w3]
      have e5 : ((v.toNat : Int) = 95) = False := u8_int_ne 95 (by omega) b5
      have g5 : ((v.toNat : Int) == 95) = false := by simpa using e5
      by_cases b6 : v = 126
      · have e6 : ((v.toNat : Int) = 126) = True := eq_true ((u8_int 126 (by omega)).2 b6)
        have g6 : ((v.toNat : Int) == 126) = true := by simpa using e6
        simp -implicitDefEqProofs [e3, g3, e4, g4, e5, g5, e6, g6, hbl, hm1, w2]
        have hpl : plainC v = true := by rw [hps]; simp [*]
        refine ⟨by omega, Again.of (i + 3, out ++ cc) hthree (by simp only; omega) ?_⟩
        simp [S1 hpl, w3]
      have e6 : ((v.toNat : Int) = 126) = False := u8_int_ne 126 (by omega) b6
      have g6 : ((v.toNat : Int) == 126) = false := by simpa using e6
      simp -implicitDefEqProofs [e3, g3, e4, g4, e5, g5, e6, g6, hbl, hm3, w2, z3, z4, hb8, lA, lB, lA', lB', dA, dB]
      have hnp : plainC v = false := by rw [hps]; simp [*]
      refine ⟨by omega, Again.of (i + 3, out ++ cc) hthree (by simp only; omega) ?_⟩
      simp [S0 hnp, w3]
    · simp -implicitDefEqProofs [hbl, hm1, w2]
      have hpl : plainC v = true := by rw [hps]; simp [*]
      refine ⟨by omega, Again.of (i + 3, out ++ cc) hthree (by simp only; omega) ?_⟩
      simp [S1 hpl, w3]
  · simp -implicitDefEqProofs
    refine ACallGS.of (fun h => by cases h) (r := .x (.one (.bool false))) rfl ?_
    simp -implicitDefEqProofs [hbl, hm1, w2]
    have hpl : plainC v = true := by rw [hps]; simp [*]
    refine ⟨by omega, Again.of (i + 3, out ++ cc) hthree (by simp only; omega) ?_⟩
    simp [S1 hpl, w3]
theorem ref1_coded (s : List UInt8) (w : List UInt8) (hr : rowB w s = true) (hs : s.length ≤ 4000000000000) : ACalls Tryz.prog 173 [.one (.str s)] (.x (.one (.str (codedL s)))) := by
  have hp := row_pct hr
  refine ACalls.of mixed (fn := Tryz.f173) (by kernel_rfl) (by kernel_rfl) rfl (by kernel_rfl) (by simp [Tryz.f173]) (fun hok => ?_)
  simp -implicitDefEqProofs
  refine ALoopS.of (Nat × List UInt8) (fun x => [(0, .x (.one (.str s))), (3, .own 5 1 (byteRows x.2)), (4, .x (.one (.int .i64 x.1)))]) (fun x => CodeAt s x.1 x.2) (fun x => s.length - x.1) (0, []) (CodeAt.zero s) ?_ ?_
  · simp [byteRows]
  rintro ⟨i, out⟩ hi
  have hle := hi.le
  have hol := hi.len
  simp only at hle hol
  have hbl : (byteRows out).length = out.length := rows_len out
  by_cases hlt : i < s.length
  rotate_left
  · have hlt' : ((i : Int) < (s.length : Int)) = False := eq_false (by omega)
    have hd := hi.done hlt
    have ho := okB_rows out
    have hb := strB_rows out
    have hm : out.length ≤ maxLen := by unfold maxLen; omega
    simp -implicitDefEqProofs [hlt', hlt, ho, hb, hbl, hm]
    exact hd
  have hlt' : ((i : Int) < (s.length : Int)) = True := eq_true (by omega)
  by_cases h37 : s[i] = 37
  rotate_left
  · have f1 : ((s[i].toNat : Int) = 37) = False := u8_int_ne 37 (by omega) h37
    have f2 : ((s[i].toNat : Int) != 37) = true := by rw [bne_iff_ne]; exact fun e => h37 ((u8_int 37 (by omega)).1 e)
    have hm : out.length + 1 ≤ maxLen := by unfold maxLen; omega
    have wi : IntKind.i64.wrap ((i : Int) + 1) = (i : Int) + 1 := wrapS _ (by omega)
    have hst : byteRows (out ++ [s[i]]) = byteRows out ++ [byteRow s[i]] := by simp [byteRows]
    simp -implicitDefEqProofs [hlt', hlt, f1, f2, hbl, hm, wi]
    refine ⟨by omega, Again.of (i + 1, out ++ [s[i]]) (hi.one hlt h37) (by simp only; omega) ?_⟩
    simp [hst, wi]
  have f1 : ((s[i].toNat : Int) = 37) = True := eq_true ((u8_int 37 (by omega)).2 h37)
  have f2 : ((s[i].toNat : Int) != 37) = false := by rw [bne_eq_false_iff_eq]; exact (u8_int 37 (by omega)).2 h37
  obtain ⟨h2, x1, x2⟩ := hex_two s i (hp i hlt h37)
  have n1 : i + 1 < s.length := by omega
  have n1' : ((i : Int) + 1 < (s.length : Int)) = True := eq_true (by omega)
  have n2' : ((i : Int) + 2 < (s.length : Int)) = True := eq_true (by omega)
  have p1 : (0 ≤ (i : Int) + 1) = True := eq_true (by omega)
  have p2 : (0 ≤ (i : Int) + 2) = True := eq_true (by omega)
  have m1 : ((i : Int) + 1).toNat = i + 1 := by omega
  have m2 : ((i : Int) + 2).toNat = i + 2 := by omega
  have w1 : IntKind.i64.wrap ((i : Int) + 1) = (i : Int) + 1 := wrapS _ (by omega)
  have w2 : IntKind.i64.wrap ((i : Int) + 2) = (i : Int) + 2 := wrapS _ (by omega)
  have w3 : IntKind.i64.wrap ((i : Int) + 2 + 1) = (i : Int) + 3 := by rw [wrapS _ (by omega)]; omega
  have v1 := ref1_unhex s[i + 1] x1
  have v2 := ref1_unhex s[i + 2] x2
  have lA := unhexV_lt x1
  have lB := unhexV_lt x2
  have hcc : codeC s[i + 1] s[i + 2] = if plainC (UInt8.ofNat (16 * unhexV s[i + 1] + unhexV s[i + 2])) = true then [UInt8.ofNat (16 * unhexV s[i + 1] + unhexV s[i + 2])] else [37, hexU (unhexV s[i + 1]), hexU (unhexV s[i + 2])] := rfl
  have hthree := hi.three h2 h37
  obtain ⟨A, eA⟩ : ∃ A, A = unhexV s[i + 1] := ⟨_, rfl⟩
  obtain ⟨B, eB⟩ : ∃ B, B = unhexV s[i + 2] := ⟨_, rfl⟩
  rw [← eA] at v1 lA hcc
  rw [← eB] at v2 lB hcc
  have hv := hexPair lA lB
  obtain ⟨v, ev⟩ : ∃ v, v = UInt8.ofNat (16 * A + B) := ⟨_, rfl⟩
  rw [← ev] at hv hcc
  have hps := plainC_split v
  have hcl := codeC_len s[i + 1] s[i + 2]
  obtain ⟨cc, ecc⟩ : ∃ cc, cc = codeC s[i + 1] s[i + 2] := ⟨_, rfl⟩
  rw [← ecc] at hcc hthree hcl
  obtain ⟨z1, z2, z3, z4, z5, z6, z7⟩ := hv
  clear eA eB ev ecc
  have dA := digU_at lA
  have dB := digU_at lB
  unfold digU at dA dB
  have hb8 : IntKind.u8.bits = 8 := rfl
  have wA : IntKind.i64.wrap (16 * (A : Int)) = 16 * (A : Int) := wrapS _ (by omega)
  have wAB : IntKind.i64.wrap (16 * (A : Int) + (B : Int)) = 16 * (A : Int) + (B : Int) := wrapS _ (by omega)
  have lA' : ((A : Int) < 16) = True := eq_true (by omega)
  have lB' : ((B : Int) < 16) = True := eq_true (by omega)
  simp -implicitDefEqProofs [hlt', hlt, f1, f2, n1, n1', n2', h2, p1, p2, m1, m2, w1, w2]
  refine ACallK.of v1 ?_
  simp -implicitDefEqProofs [n1, n1', n2', h2, p1, p2, m1, m2, w1, w2]
  refine ACallK.of v2 ?_
  simp -implicitDefEqProofs [wA, wAB, z5]
  refine ACallK.of (ref1_letter v) ?_
  have E1 : plainC v = true → cc = [v] := fun h => by rw [hcc, if_pos h]
  have E0 : plainC v = false → cc = [37, hexU A, hexU B] := fun h => by rw [hcc, if_neg (by rw [h]; decide)]
  have S1 : plainC v = true → byteRows (out ++ cc) = byteRows out ++ [byteRow v] := fun h => by rw [E1 h]; simp [byteRows]
  have S0 : plainC v = false → byteRows (out ++ cc) = byteRows out ++ [byteRow 37, byteRow (hexU A), byteRow (hexU B)] := fun h => by rw [E0 h]; simp [byteRows]
  have hm1 : out.length + 1 ≤ maxLen := by unfold maxLen; omega
  have hm3 : out.length + 3 ≤ maxLen := by unfold maxLen; omega
  cases b1 : letB v
  · simp -implicitDefEqProofs
    refine ACallGS.of (fun _ => ref1_digit v) rfl ?_
    cases b2 : isDig v
    · by_cases b3 : v = 45
      · have e3 : ((v.toNat : Int) = 45) = True := eq_true ((u8_int 45 (by omega)).2 b3)
        have g3 : ((v.toNat : Int) == 45) = true := by simpa using e3
        simp -implicitDefEqProofs [e3, g3, hbl, hm1, w2]
        have hpl : plainC v = true := by rw [hps]; simp [*]
        refine ⟨by omega, Again.of (i + 3, out ++ cc) hthree (by simp only; omega) ?_⟩
        simp [S1 hpl, w3]
      have e3 : ((v.toNat : Int) = 45) = False := u8_int_ne 45 (by omega) b3
      have g3 : ((v.toNat : Int) == 45) = false := by simpa using e3
      by_cases b4 : v = 46
      · have e4 : ((v.toNat : Int) = 46) = True := eq_true ((u8_int 46 (by omega)).2 b4)
        have g4 : ((v.toNat : Int) == 46) = true := by simpa using e4
        simp -implicitDefEqProofs [e3, g3, e4, g4, hbl, hm1, w2]
        have hpl : plainC v = true := by rw [hps]; simp [*]
        refine ⟨by omega, Again.of (i + 3, out ++ cc) hthree (by simp only; omega) ?_⟩
        simp [S1 hpl, w3]
      have e4 : ((v.toNat : Int) = 46) = False := u8_int_ne 46 (by omega) b4
      have g4 : ((v.toNat : Int) == 46) = false := by simpa using e4
      by_cases b5 : v = 95
      · have e5 : ((v.toNat : Int) = 95) = True := eq_true ((u8_int 95 (by omega)).2 b5)
        have g5 : ((v.toNat : Int) == 95) = true := by simpa using e5
        simp -implicitDefEqProofs [e3, g3, e4, g4, e5, g5, hbl, hm1, w2]
        have hpl : plainC v = true := by rw [hps]; simp [*]
        refine ⟨by omega, Again.of (i + 3, out ++ cc) hthree (by simp only; omega) ?_⟩
        simp [S1 hpl, w3]
      have e5 : ((v.toNat : Int) = 95) = False := u8_int_ne 95 (by omega) b5
      have g5 : ((v.toNat : Int) == 95) = false := by simpa using e5
      by_cases b6 : v = 126
      · have e6 : ((v.toNat : Int) = 126) = True := eq_true ((u8_int 126 (by omega)).2 b6)
        have g6 : ((v.toNat : Int) == 126) = true := by simpa using e6
        simp -implicitDefEqProofs [e3, g3, e4, g4, e5, g5, e6, g6, hbl, hm1, w2]
        have hpl : plainC v = true := by rw [hps]; simp [*]
        refine ⟨by omega, Again.of (i + 3, out ++ cc) hthree (by simp only; omega) ?_⟩
        simp [S1 hpl, w3]
      have e6 : ((v.toNat : Int) = 126) = False := u8_int_ne 126 (by omega) b6
      have g6 : ((v.toNat : Int) == 126) = false := by simpa using e6
      simp -implicitDefEqProofs [e3, g3, e4, g4, e5, g5, e6, g6, hbl, hm3, w2, z6, z7, lA, lB, lA', lB', dA, dB]
      have hnp : plainC v = false := by rw [hps]; simp [*]
      refine ⟨by omega, Again.of (i + 3, out ++ cc) hthree (by simp only; omega) ?_⟩
      simp [S0 hnp, w3]
    · simp -implicitDefEqProofs [hbl, hm1, w2]
      have hpl : plainC v = true := by rw [hps]; simp [*]
      refine ⟨by omega, Again.of (i + 3, out ++ cc) hthree (by simp only; omega) ?_⟩
      simp [S1 hpl, w3]
  · simp -implicitDefEqProofs
    refine ACallGS.of (fun h => by cases h) (r := .x (.one (.bool false))) rfl ?_
    simp -implicitDefEqProofs [hbl, hm1, w2]
    have hpl : plainC v = true := by rw [hps]; simp [*]
    refine ⟨by omega, Again.of (i + 3, out ++ cc) hthree (by simp only; omega) ?_⟩
    simp [S1 hpl, w3]
end Go.Proofs.YtklnopamfncfgaaGreatDoor
namespace Go.Proofs.YtklnopamfncfgaaGreatDoor
open Go Go.Ab
set_option linter.unusedSectionVars false
variable [Amb] [HasPow10 Tryz.prog]
set_option maxRecDepth 100000
set_option maxHeartbeats 4000000
def strRows (l : List (List UInt8)) : List (List CV) := l.map fun x => [CV.str x]
theorem strRows_len (l : List (List UInt8)) : (strRows l).length = l.length := by simp [strRows]
theorem strRows_snoc (l : List (List UInt8)) (x : List UInt8) : strRows (l ++ [x]) = strRows l ++ [[CV.str x]] := by simp [strRows]
theorem strRows_init (l : List (List UInt8)) : (strRows l).take (l.length - 1) = strRows l.dropLast := by
  unfold strRows
  rw [← List.map_take, List.dropLast_eq_take]
def undotF (parts : List (List UInt8)) (i : Nat) : List (List UInt8) := (parts.take i).foldl undotS []
theorem undotF_step {parts : List (List UInt8)} {i : Nat} (h : i < parts.length) : undotF parts (i + 1) = undotS (undotF parts i) parts[i] := by
  unfold undotF
  rw [List.take_succ_eq_append_getElem h, List.foldl_append]; rfl
theorem undotS_len (out : List (List UInt8)) (p : List UInt8) : (undotS out p).length ≤ out.length + 1 := by
  unfold undotS
  split
  · simp; omega
  · split <;> simp
theorem undotF_len (parts : List (List UInt8)) : ∀ i, (undotF parts i).length ≤ i
  | 0 => by simp [undotF]
  | i + 1 => by
    by_cases h : i < parts.length
    · rw [undotF_step h]
      have := undotS_len (undotF parts i) parts[i]
      have := undotF_len parts i
      omega
    · have : undotF parts (i + 1) = undotF parts i := by unfold undotF; rw [List.take_of_length_le (by omega), List.take_of_length_le (by omega)]
      rw [this]
      have := undotF_len parts i
      omega
theorem undotP_at {parts : List (List UInt8)} {i : Nat} (h : i < parts.length) (hl : i = parts.length - 1) : undotP parts = undotF parts (i + 1) ++ (if parts[i] = dotsL ∨ parts[i] = dotL then [[]] else []) := by
  have h2 : parts.getLast? = some parts[i] := by subst hl; rw [List.getLast?_eq_getElem?, List.getElem?_eq_getElem h]
  have h3 : undotF parts (i + 1) = parts.foldl undotS [] := by unfold undotF; rw [List.take_of_length_le (by omega)]
  unfold undotP
  rw [h2, h3]
  simp only [Option.some.injEq]
theorem join_oneC (c : UInt8) : ∀ w : List (List UInt8), Lib.join w [c] = joinC c w
  | [] => rfl
  | [a] => Lib.join_one a [c]
  | a :: b :: r => by
    have ih := join_oneC c (b :: r)
    rw [Lib.join_cons] at ih
    rw [Lib.join_cons, joinC, ← ih]
    simp [Lib.joinTail]
def totL (w : List (List UInt8)) : Nat := (w.map fun x => x.length + 1).sum
theorem totL_app (a b : List (List UInt8)) : totL (a ++ b) = totL a + totL b := by simp [totL]
theorem totL_join (c : UInt8) : ∀ w : List (List UInt8), w ≠ [] → (joinC c w).length + 1 = totL w
  | [], h => absurd rfl h
  | [a], _ => by simp [joinC, totL]
  | a :: b :: r, _ => by
    have ih := totL_join c (b :: r) (by simp)
    have e : totL (a :: b :: r) = (a.length + 1) + totL (b :: r) := by simp [totL]
    rw [e, ← ih, joinC]
    simp only [List.length_append, List.length_cons]; omega
theorem totL_init (w : List (List UInt8)) : totL w.dropLast ≤ totL w := by
  by_cases h : w = []
  · subst h; simp
  · have e := List.dropLast_concat_getLast h
    have : totL w = totL w.dropLast + totL [w.getLast h] := by rw [← totL_app, e]
    omega
theorem totL_undotF (parts : List (List UInt8)) : ∀ i, totL (undotF parts i) ≤ totL (parts.take i)
  | 0 => by simp [undotF, totL]
  | i + 1 => by
    have ih := totL_undotF parts i
    by_cases h : i < parts.length
    · rw [undotF_step h, List.take_succ_eq_append_getElem h, totL_app]
      unfold undotS
      split
      · have := totL_init (undotF parts i); omega
      · split
        · omega
        · rw [totL_app]; omega
    · have e1 : undotF parts (i + 1) = undotF parts i := by unfold undotF; rw [List.take_of_length_le (by omega), List.take_of_length_le (by omega)]
      have e2 : parts.take (i + 1) = parts.take i := by rw [List.take_of_length_le (by omega), List.take_of_length_le (by omega)]
      rw [e1, e2]; exact ih
theorem undotP_len (parts : List (List UInt8)) (h : parts ≠ []) (c : UInt8) : (joinC c (undotP parts)).length ≤ totL parts := by
  have h1 := totL_join c _ (undotP_ne parts h)
  have h2 := totL_undotF parts parts.length
  rw [List.take_length] at h2
  have h3 : totL (undotP parts) ≤ totL (undotF parts parts.length) + 1 := by
    unfold undotP
    rw [show parts.foldl undotS [] = undotF parts parts.length by unfold undotF; rw [List.take_length], totL_app]
    split <;> simp [totL]
  omega
structure DotAt (parts : List (List UInt8)) (i : Nat) (out : List (List UInt8)) : Prop where
  le : i ≤ parts.length
  len : out.length ≤ i + 1
  before : i < parts.length → out = undotF parts i
  fin : i = parts.length → out = undotP parts
theorem address_undot (p : List UInt8) (hp : p.length ≤ 600000) : ACalls Tryz.prog 216 [.one (.str p)] (.x (.one (.str (undotL p)))) := by
  refine ACalls.of mixed (fn := Tryz.f216) (by kernel_rfl) (by kernel_rfl) rfl (by kernel_rfl) (by simp [Tryz.f216]) (fun hok => ?_)
  by_cases h0 : p = []
  · subst h0
    simp -implicitDefEqProofs
    rfl
  have hpl : 0 < p.length := by cases p with | nil => exact absurd rfl h0 | cons a r => simp
  have hU : undotL p = 47 :: joinC 47 (undotP (splitC 47 (p.drop 1))) := by unfold undotL; rw [if_neg h0]
  have hsp := strings_Split1 (p.drop 1) 47 (by simp; omega)
  have hcnt := splitC_count 47 (p.drop 1)
  rw [List.length_drop] at hcnt
  have hne := splitC_ne 47 (p.drop 1)
  obtain ⟨parts, eparts⟩ : ∃ parts, parts = splitC 47 (p.drop 1) := ⟨_, rfl⟩
  rw [← eparts] at hU hsp hcnt hne
  rw [List.drop_one] at hsp
  have hn0 : 0 < parts.length := by cases parts with | nil => exact absurd rfl hne | cons a r => simp
  have htot := totL_join 47 parts hne
  rw [eparts, join_split, ← eparts, List.length_drop] at htot
  have hUl := undotP_len parts hne 47
  have g1 : (1 ≤ (p.length : Int)) = True := eq_true (by omega)
  have g1' : (1 ≤ p.length) = True := eq_true (by omega)
  simp -implicitDefEqProofs [h0, g1, g1']
  refine ACallK.of hsp ?_
  simp -implicitDefEqProofs
  refine ALoopS.of (Nat × List (List UInt8)) (fun x => [(3, .x (strs parts)), (4, .own 9 1 (strRows x.2)), (12, .x (strs parts)), (13, .x (.one (.int .i64 parts.length))), (14, .x (.one (.int .i64 x.1)))]) (fun x => DotAt parts x.1 x.2) (fun x => parts.length - x.1) (0, []) ⟨Nat.zero_le _, by simp, fun _ => by simp [undotF], fun h => by omega⟩ ?_ ?_
  · simp [strRows]
  rintro ⟨i, out⟩ ⟨hle, hol, hbf, hfin⟩
  simp only at hle hol hbf hfin
  by_cases hlt : i < parts.length
  rotate_left
  · have hlt' : ((i : Int) < (parts.length : Int)) = False := eq_false (by omega)
    have ho := hfin (by omega)
    subst ho
    have hj := strings_Join (undotP parts) [47] (by rw [join_oneC]; omega) (by omega)
    rw [join_oneC] at hj
    have hjl : 1 + (joinC 47 (undotP parts)).length ≤ maxLen := by unfold maxLen; omega
    have hjl2 : (joinC 47 (undotP parts)).length + 1 ≤ maxLen := by unfold maxLen; omega
    generalize joinC 47 (undotP parts) = J at hj hU hjl hjl2
    rw [hU]
    simp -implicitDefEqProofs [hlt', hlt]
    refine ACallK.of hj ?_
    simp -implicitDefEqProofs [hjl, hjl2]
  have hlt' : ((i : Int) < (parts.length : Int)) = True := eq_true (by omega)
  have hb := hbf hlt
  have hfl := undotF_len parts i
  rw [← hb] at hfl
  have wi : IntKind.i64.wrap ((i : Int) + 1) = (i : Int) + 1 := wrapS _ (by omega)
  have wn : IntKind.i64.wrap ((parts.length : Int) - 1) = ((parts.length - 1 : Nat) : Int) := by rw [wrapS _ (by omega)]; omega
  have hstep := undotF_step hlt
  rw [← hb] at hstep
  unfold undotS at hstep
  have hrl := strRows_len out
  have hmx : max 0 (IntKind.i64.wrap ((out.length : Int) - 1)) = ((out.length - 1 : Nat) : Int) := by rw [wrapS _ (by omega)]; omega
  have hm1 : out.length + 1 ≤ maxLen := by unfold maxLen; omega
  have hti : (out.length - 1 ≤ out.length) = True := eq_true (by omega)
  have hti2 : (((out.length - 1 : Nat) : Int) ≤ (out.length : Int)) = True := eq_true (by omega)
  have hini := strRows_init out
  have hul : (strRows out.dropLast).length = out.length - 1 := by simp [strRows]
  have hPat := undotP_at hlt
  rw [hstep] at hPat
  by_cases hlast : i = parts.length - 1
  · have l1 : ((i : Int) = ((parts.length - 1 : Nat) : Int)) = True := eq_true (by omega)
    have l2 : ((i : Int) == ((parts.length - 1 : Nat) : Int)) = true := by rw [beq_iff_eq]; omega
    have hPat := hPat hlast
    by_cases hdd : parts[i] = dotsL
    · have d1 : parts[i] = [46, 46] := hdd
      rw [if_pos hdd, if_pos (.inl hdd)] at hPat
      simp -implicitDefEqProofs [hlt', hlt, d1, hrl, hmx, hti, hti2, hini, wi, wn, l1, l2]
      refine ⟨⟨by rw [hul]; omega, by rw [hul]; unfold maxLen; omega⟩, Again.of (i + 1, undotP parts) ⟨by simp only; omega, by rw [hPat]; simp; omega, fun h => by simp only at h; omega, fun _ => rfl⟩ (by simp only; omega) ?_⟩
      simp [hPat, strRows_snoc, wi]
    · have d1 : ¬ parts[i] = [46, 46] := hdd
      by_cases hd : parts[i] = dotL
      · have d2 : parts[i] = [46] := hd
        rw [if_neg hdd, if_pos hd, if_pos (.inr hd)] at hPat
        simp -implicitDefEqProofs [hlt', hlt, d1, d2, hrl, hmx, hti, hti2, hini, wi, wn, l1, l2, hm1]
        refine ⟨by omega, Again.of (i + 1, undotP parts) ⟨by simp only; omega, by rw [hPat]; simp; omega, fun h => by simp only at h; omega, fun _ => rfl⟩ (by simp only; omega) ?_⟩
        simp [hPat, strRows_snoc, wi]
      · have d2 : ¬ parts[i] = [46] := hd
        rw [if_neg hdd, if_neg hd, if_neg (by rintro (h | h); exact hdd h; exact hd h), List.append_nil] at hPat
        simp -implicitDefEqProofs [hlt', hlt, d1, d2, hrl, hmx, hti, hti2, hini, wi, wn, l1, l2, hm1]
        refine ⟨by omega, Again.of (i + 1, undotP parts) ⟨by simp only; omega, by rw [hPat]; simp; omega, fun h => by simp only at h; omega, fun _ => rfl⟩ (by simp only; omega) ?_⟩
        simp [hPat, strRows_snoc, wi]
  · have l1 : ((i : Int) = ((parts.length - 1 : Nat) : Int)) = False := eq_false (by omega)
    have l2 : ((i : Int) == ((parts.length - 1 : Nat) : Int)) = false := by rw [beq_eq_false_iff_ne]; omega
    have hnx := undotF_len parts (i + 1)
    by_cases hdd : parts[i] = dotsL
    · have d1 : parts[i] = [46, 46] := hdd
      rw [if_pos hdd] at hstep
      simp -implicitDefEqProofs [hlt', hlt, d1, hrl, hmx, hti, hti2, hini, wi, wn, l1, l2]
      refine Again.of (i + 1, undotF parts (i + 1)) ⟨by simp only; omega, by simp only; omega, fun _ => rfl, fun h => by simp only at h; omega⟩ (by simp only; omega) ?_
      simp [hstep, wi]
    · have d1 : ¬ parts[i] = [46, 46] := hdd
      by_cases hd : parts[i] = dotL
      · have d2 : parts[i] = [46] := hd
        rw [if_neg hdd, if_pos hd] at hstep
        simp -implicitDefEqProofs [hlt', hlt, d1, d2, hrl, hmx, hti, hti2, hini, wi, wn, l1, l2]
        refine Again.of (i + 1, undotF parts (i + 1)) ⟨by simp only; omega, by simp only; omega, fun _ => rfl, fun h => by simp only at h; omega⟩ (by simp only; omega) ?_
        simp [hstep, wi]
      · have d2 : ¬ parts[i] = [46] := hd
        rw [if_neg hdd, if_neg hd] at hstep
        simp -implicitDefEqProofs [hlt', hlt, d1, d2, hrl, hmx, hti, hti2, hini, wi, wn, l1, l2, hm1]
        refine ⟨by omega, Again.of (i + 1, undotF parts (i + 1)) ⟨by simp only; omega, by simp only; omega, fun _ => rfl, fun h => by simp only at h; omega⟩ (by simp only; omega) ?_⟩
        simp [hstep, strRows_snoc, wi]
end Go.Proofs.YtklnopamfncfgaaGreatDoor
namespace Go.Proofs.YtklnopamfncfgaaGreatDoor
open Go Go.Ab
set_option linter.unusedSectionVars false
variable [Amb] [HasPow10 Tryz.prog]
set_option maxRecDepth 100000
set_option maxHeartbeats 4000000
theorem splitC_slash (r : List UInt8) (c : UInt8) : splitC c (c :: r) = [] :: splitC c r := splitC_cons (a := []) (by simp)
def flatS (w : List (List UInt8)) : List UInt8 := (w.map (47 :: ·)).flatten
theorem flatS_snoc (w : List (List UInt8)) (x : List UInt8) : flatS (w ++ [x]) = flatS w ++ 47 :: x := by simp [flatS]
theorem flatS_take_len (w : List (List UInt8)) : ∀ i, (flatS (w.take i)).length ≤ totL w
  | 0 => by simp [flatS]
  | i + 1 => by
    have e : flatS (w.take (i + 1)) = ((w.take (i + 1)).map (47 :: ·)).flatten := rfl
    have h : ∀ v : List (List UInt8), (flatS v).length = totL v := fun v => by
      induction v with
      | nil => rfl
      | cons a r ih =>
        have : flatS (a :: r) = (47 :: a) ++ flatS r := by simp [flatS]
        rw [this, List.length_append, ih]
        simp [totL]
    rw [h]
    have e2 : totL w = totL (w.take (i + 1)) + totL (w.drop (i + 1)) := by rw [← totL_app, List.take_append_drop]
    omega
theorem ref1_dots (p : List UInt8) (hp : p.length ≤ 600000) (h47 : p ≠ [] → p.head? = some 47) : ACalls Tryz.prog 172 [.one (.str p)] (.x (.one (.str (undotL p)))) := by
  refine ACalls.of mixed (fn := Tryz.f172) (by kernel_rfl) (by kernel_rfl) rfl (by kernel_rfl) (by simp [Tryz.f172]) (fun hok => ?_)
  by_cases h0 : p = []
  · subst h0
    simp -implicitDefEqProofs
    rfl
  obtain ⟨r, er⟩ : ∃ r, p = 47 :: r := by
    have := h47 h0
    cases p with
    | nil => exact absurd rfl h0
    | cons a r => simp at this; exact ⟨r, by rw [this]⟩
  have hU : undotL p = 47 :: joinC 47 (undotP (splitC 47 r)) := by unfold undotL; rw [if_neg h0, er]; rfl
  have hsp := strings_Split1 p 47 hp
  rw [er, splitC_slash, ← er] at hsp
  have hcnt := splitC_count 47 r
  have hrl : r.length + 1 = p.length := by rw [er]; simp
  have hne := splitC_ne 47 r
  obtain ⟨parts, eparts⟩ : ∃ parts, parts = splitC 47 r := ⟨_, rfl⟩
  rw [← eparts] at hU hsp hcnt hne
  have hn0 : 0 < parts.length := by cases parts with | nil => exact absurd rfl hne | cons a r => simp
  have htot := totL_join 47 parts hne
  rw [eparts, join_split, ← eparts] at htot
  clear eparts
  have hPn := undotP_ne parts hne
  have hfl := joinC_flat 47 (undotP parts) hPn
  have hUl := undotP_len parts hne 47
  have hPt := totL_join 47 _ hPn
  rw [← hU] at hfl
  obtain ⟨P, eP⟩ : ∃ P, P = undotP parts := ⟨_, rfl⟩
  rw [← eP] at hfl hUl hPt
  have hPl : P.length ≤ totL P := by
    clear hfl hUl hPt eP
    induction P with
    | nil => simp
    | cons a w ih => simp only [totL, List.map_cons, List.sum_cons, List.length_cons] at ih ⊢; omega
  have hN : parts.length + 1 ≤ 600002 := by omega
  simp -implicitDefEqProofs [h0]
  refine ACallK.of hsp ?_
  simp -implicitDefEqProofs
  refine ⟨by omega, ALoopS.of Nat (fun i => [(3, .x (strs parts)), (4, .own 9 1 (strRows (undotF parts i))), (5, .x (.one (.int .i64 i)))]) (fun i => i ≤ parts.length) (fun i => parts.length - i) 0 (Nat.zero_le _) ?_ ?_⟩
  · simp [strRows, undotF]
    rw [show ((parts.length : Int) + 1) = ((parts.length + 1 : Nat) : Int) from by omega]
    unfold cutAt
    rw [Int.toNat_natCast]
    simp
    rw [List.take_of_length_le (by simp)]
  intro i hi
  obtain ⟨out, eout⟩ : ∃ out, out = undotF parts i := ⟨_, rfl⟩
  have hfl2 := undotF_len parts i
  rw [← eout] at hfl2 ⊢
  have hrl2 := strRows_len out
  have hm1 : out.length + 1 ≤ maxLen := by unfold maxLen; omega
  by_cases hlt : i < parts.length
  · have hlt' : ((i : Int) < (parts.length : Int)) = True := eq_true (by omega)
    have wi : IntKind.i64.wrap ((i : Int) + 1) = (i : Int) + 1 := wrapS _ (by omega)
    have hstep := undotF_step hlt
    rw [← eout] at hstep
    unfold undotS at hstep
    have hmx : max 0 (IntKind.i64.wrap ((out.length : Int) - 1)) = ((out.length - 1 : Nat) : Int) := by rw [wrapS _ (by omega)]; omega
    have hti : (out.length - 1 ≤ out.length) = True := eq_true (by omega)
    have hti2 : (((out.length - 1 : Nat) : Int) ≤ (out.length : Int)) = True := eq_true (by omega)
    have hini := strRows_init out
    by_cases hdd : parts[i] = dotsL
    · have d1 : parts[i] = [46, 46] := hdd
      rw [if_pos hdd] at hstep
      simp -implicitDefEqProofs [hlt', hlt, d1, hrl2, hmx, hti, hti2, hini, wi]
      refine Again.of (i + 1) hlt (by omega) ?_
      simp [hstep, wi]
    · have d1 : ¬ parts[i] = [46, 46] := hdd
      by_cases hd : parts[i] = dotL
      · have d2 : parts[i] = [46] := hd
        rw [if_neg hdd, if_pos hd] at hstep
        simp -implicitDefEqProofs [hlt', hlt, d1, d2, hrl2, hmx, hti, hti2, hini, wi]
        refine Again.of (i + 1) hlt (by omega) ?_
        simp [hstep, wi]
      · have d2 : ¬ parts[i] = [46] := hd
        rw [if_neg hdd, if_neg hd] at hstep
        simp -implicitDefEqProofs [hlt', hlt, d1, d2, hrl2, hmx, hti, hti2, hini, wi, hm1]
        refine ⟨by omega, Again.of (i + 1) hlt (by omega) ?_⟩
        simp [hstep, strRows_snoc, wi]
  have hlt' : ((i : Int) < (parts.length : Int)) = False := eq_false (by omega)
  have hlast : parts.length - 1 < parts.length := by omega
  have wn : IntKind.i64.wrap ((parts.length : Int) - 1) = ((parts.length - 1 : Nat) : Int) := by rw [wrapS _ (by omega)]; omega
  have hPat := undotP_at hlast rfl
  have hen : parts.length - 1 + 1 = i := by omega
  rw [hen, ← eout, ← eP] at hPat
  obtain ⟨z, ez⟩ : ∃ z, z = parts[parts.length - 1] := ⟨_, rfl⟩
  have ez' := ez.symm
  rw [ez'] at hPat
  have fin : ∀ i, i ≤ P.length → (flatS (P.take i)).length ≤ 700000 := fun i _ => by have := flatS_take_len P i; omega
  by_cases hz : z = dotsL ∨ z = dotL
  · rw [if_pos hz] at hPat
    have hPr : strRows P = strRows out ++ [[CV.str []]] := by rw [hPat, strRows_snoc]
    have hm2 : (out.length + 1) * 16 ≤ 140737488355328 := by omega
    rcases hz with hz | hz
    · have d1 : ¬ z = [46] := by rw [hz]; decide
      have d2 : z = [46, 46] := hz
      simp -implicitDefEqProofs [hlt', hlt, hlast, wn, ez', d1, d2, hrl2, hm1, hm2]
      refine ALoopS.of Nat (fun j => [(4, .own 9 1 (strRows P)), (7, .x (.one (.str (flatS (P.take j))))), (8, .x (.one (.int .i64 j)))]) (fun j => j ≤ P.length) (fun j => P.length - j) 0 (Nat.zero_le _) ?_ ?_
      · simp [flatS, hPr]
      intro j hj
      have hfj := fin j hj
      have hpr := strRows_len P
      by_cases hjl : j < P.length
      · have hjl' : ((j : Int) < (P.length : Int)) = True := eq_true (by omega)
        have wj : IntKind.i64.wrap ((j : Int) + 1) = (j : Int) + 1 := wrapS _ (by omega)
        have hst : flatS (P.take (j + 1)) = flatS (P.take j) ++ 47 :: P[j] := by rw [List.take_succ_eq_append_getElem hjl, flatS_snoc]
        have hfj1 := fin (j + 1) hjl
        rw [hst] at hfj1
        simp only [List.length_append, List.length_cons] at hfj1
        have m1 : 1 + P[j].length ≤ maxLen := by unfold maxLen; omega
        have m2 : (flatS (P.take j)).length + (1 + P[j].length) ≤ maxLen := by unfold maxLen; omega
        have m3 : P[j].length + 1 ≤ maxLen := by unfold maxLen; omega
        have m4 : (flatS (P.take j)).length + (P[j].length + 1) ≤ maxLen := by unfold maxLen; omega
        have hat : ∀ h, (strRows P)[j]'h = [CV.str P[j]] := fun h => by simp [strRows]
        generalize flatS (P.take j) = q at hst hfj hfj1 m1 m2 m3 m4 ⊢
        simp -implicitDefEqProofs [hjl, hjl', hpr, hat, m1, m2, m3, m4, wj]
        refine Again.of (j + 1) hjl (by omega) ?_
        simp [hst, wj]
      · have hjl' : ((j : Int) < (P.length : Int)) = False := eq_false (by omega)
        have hdone : flatS (P.take j) = undotL p := by rw [List.take_of_length_le (by omega)]; exact hfl.symm
        rw [hdone]
        simp -implicitDefEqProofs [hjl, hjl', hpr]
    · have d1 : z = [46] := hz
      simp -implicitDefEqProofs [hlt', hlt, hlast, wn, ez', d1, hrl2, hm1, hm2]
      refine ALoopS.of Nat (fun j => [(4, .own 9 1 (strRows P)), (7, .x (.one (.str (flatS (P.take j))))), (8, .x (.one (.int .i64 j)))]) (fun j => j ≤ P.length) (fun j => P.length - j) 0 (Nat.zero_le _) ?_ ?_
      · simp [flatS, hPr]
      intro j hj
      have hfj := fin j hj
      have hpr := strRows_len P
      by_cases hjl : j < P.length
      · have hjl' : ((j : Int) < (P.length : Int)) = True := eq_true (by omega)
        have wj : IntKind.i64.wrap ((j : Int) + 1) = (j : Int) + 1 := wrapS _ (by omega)
        have hst : flatS (P.take (j + 1)) = flatS (P.take j) ++ 47 :: P[j] := by rw [List.take_succ_eq_append_getElem hjl, flatS_snoc]
        have hfj1 := fin (j + 1) hjl
        rw [hst] at hfj1
        simp only [List.length_append, List.length_cons] at hfj1
        have m1 : 1 + P[j].length ≤ maxLen := by unfold maxLen; omega
        have m2 : (flatS (P.take j)).length + (1 + P[j].length) ≤ maxLen := by unfold maxLen; omega
        have m3 : P[j].length + 1 ≤ maxLen := by unfold maxLen; omega
        have m4 : (flatS (P.take j)).length + (P[j].length + 1) ≤ maxLen := by unfold maxLen; omega
        have hat : ∀ h, (strRows P)[j]'h = [CV.str P[j]] := fun h => by simp [strRows]
        generalize flatS (P.take j) = q at hst hfj hfj1 m1 m2 m3 m4 ⊢
        simp -implicitDefEqProofs [hjl, hjl', hpr, hat, m1, m2, m3, m4, wj]
        refine Again.of (j + 1) hjl (by omega) ?_
        simp [hst, wj]
      · have hjl' : ((j : Int) < (P.length : Int)) = False := eq_false (by omega)
        have hdone : flatS (P.take j) = undotL p := by rw [List.take_of_length_le (by omega)]; exact hfl.symm
        rw [hdone]
        simp -implicitDefEqProofs [hjl, hjl', hpr]
  · rw [if_neg hz, List.append_nil] at hPat
    have hPr : strRows P = strRows out := by rw [hPat]
    have d1 : ¬ z = [46] := fun e => hz (.inr e)
    have d2 : ¬ z = [46, 46] := fun e => hz (.inl e)
    simp -implicitDefEqProofs [hlt', hlt, hlast, wn, ez', d1, d2]
    refine ALoopS.of Nat (fun j => [(4, .own 9 1 (strRows P)), (7, .x (.one (.str (flatS (P.take j))))), (8, .x (.one (.int .i64 j)))]) (fun j => j ≤ P.length) (fun j => P.length - j) 0 (Nat.zero_le _) ?_ ?_
    · simp [flatS, hPr]
    intro j hj
    have hfj := fin j hj
    have hpr := strRows_len P
    by_cases hjl : j < P.length
    · have hjl' : ((j : Int) < (P.length : Int)) = True := eq_true (by omega)
      have wj : IntKind.i64.wrap ((j : Int) + 1) = (j : Int) + 1 := wrapS _ (by omega)
      have hst : flatS (P.take (j + 1)) = flatS (P.take j) ++ 47 :: P[j] := by rw [List.take_succ_eq_append_getElem hjl, flatS_snoc]
      have hfj1 := fin (j + 1) hjl
      rw [hst] at hfj1
      simp only [List.length_append, List.length_cons] at hfj1
      have m1 : 1 + P[j].length ≤ maxLen := by unfold maxLen; omega
      have m2 : (flatS (P.take j)).length + (1 + P[j].length) ≤ maxLen := by unfold maxLen; omega
      have m3 : P[j].length + 1 ≤ maxLen := by unfold maxLen; omega
      have m4 : (flatS (P.take j)).length + (P[j].length + 1) ≤ maxLen := by unfold maxLen; omega
      have hat : ∀ h, (strRows P)[j]'h = [CV.str P[j]] := fun h => by simp [strRows]
      generalize flatS (P.take j) = q at hst hfj hfj1 m1 m2 m3 m4 ⊢
      simp -implicitDefEqProofs [hjl, hjl', hpr, hat, m1, m2, m3, m4, wj]
      refine Again.of (j + 1) hjl (by omega) ?_
      simp [hst, wj]
    · have hjl' : ((j : Int) < (P.length : Int)) = False := eq_false (by omega)
      have hdone : flatS (P.take j) = undotL p := by rw [List.take_of_length_le (by omega)]; exact hfl.symm
      rw [hdone]
      simp -implicitDefEqProofs [hjl, hjl', hpr]
end Go.Proofs.YtklnopamfncfgaaGreatDoor
namespace Go.Proofs.YtklnopamfncfgaaGreatDoor
open Go
set_option maxRecDepth 100000
def renCn172 : Go.Shelf.Ren := ⟨fun x => if x = 129 then 252 else if x = 171 then 69 else if x = 172 then 72 else if x = 205 then 237 else if x = 243 then 124 else if x = 244 then 133 else if x = 245 then 134 else if x = 246 then 187 else if x = 247 then 192 else if x = 279 then 193 else if x = 280 then 194 else if x = 281 then 195 else if x = 282 then 196 else if x = 283 then 228 else if x = 284 then 229 else if x = 285 then 230 else if x = 286 then 231 else if x = 287 then 235 else if x = 316 then 236 else if x = 317 then 251 else if x = 318 then 253 else if x = 319 then 254 else if x = 320 then 255 else if x = 321 then 257 else if x = 322 then 258 else if x = 337 then 263 else if x = 338 then 264 else x, fun x => if x = 0 then 0 else if x = 2 then 2 else if x = 3 then 3 else if x = 4 then 4 else if x = 5 then 5 else if x = 9 then 9 else if x = 20 then 20 else if x = 21 then 21 else if x = 37 then 46 else if x = 46 then 181 else if x = 51 then 206 else if x = 53 then 209 else if x = 75 then 113 else if x = 76 then 114 else if x = 80 then 168 else if x = 85 then 194 else if x = 127 then 212 else if x = 143 then 238 else if x = 145 then 240 else if x = 167 then 193 else if x = 168 then 196 else if x = 171 then 213 else if x = 173 then 216 else if x = 175 then 219 else if x = 210 then 222 else if x = 212 then 230 else if x = 213 then 231 else if x = 232 then 252 else if x = 233 then 253 else x, fun x => if x = 15 then 1 else if x = 16 then 2 else if x = 17 then 3 else if x = 18 then 6 else if x = 19 then 7 else x⟩
theorem layCn172 : Go.Proofs.LaysC.n172 Tryz.prog renCn172 where
  c0 := by kernel_rfl
  c2 := by kernel_rfl
  c3 := by kernel_rfl
  c4 := by kernel_rfl
  c5 := by kernel_rfl
  c9 := by kernel_rfl
  c20 := by kernel_rfl
  c21 := by kernel_rfl
  c37 := by kernel_rfl
  c46 := by kernel_rfl
  c51 := by kernel_rfl
  c53 := by kernel_rfl
  c75 := by kernel_rfl
  c76 := by kernel_rfl
  c80 := by kernel_rfl
  c85 := by kernel_rfl
  c127 := by kernel_rfl
  c143 := by kernel_rfl
  c145 := by kernel_rfl
  c167 := by kernel_rfl
  c168 := by kernel_rfl
  c171 := by kernel_rfl
  c173 := by kernel_rfl
  c175 := by kernel_rfl
  c210 := by kernel_rfl
  c212 := by kernel_rfl
  c213 := by kernel_rfl
  c232 := by kernel_rfl
  c233 := by kernel_rfl
  t80 := Tryz.underlying168
  a80 := Tryz.isAgg168
  z80 := Tryz.sizeOf168
  v80 := Tryz.zeroValue168
  i0 := by kernel_rfl
  i2 := by kernel_rfl
  i3 := by kernel_rfl
  i4 := by kernel_rfl
  i5 := by kernel_rfl
  i9 := by kernel_rfl
  i20 := by kernel_rfl
  i21 := by kernel_rfl
  i37 := by kernel_rfl
  i46 := by kernel_rfl
  i51 := by kernel_rfl
  i53 := by kernel_rfl
  i75 := by kernel_rfl
  i76 := by kernel_rfl
  i80 := by kernel_rfl
  i85 := by kernel_rfl
  i127 := by kernel_rfl
  i143 := by kernel_rfl
  i145 := by kernel_rfl
  i167 := by kernel_rfl
  i168 := by kernel_rfl
  i171 := by kernel_rfl
  i173 := by kernel_rfl
  i175 := by kernel_rfl
  i210 := by kernel_rfl
  i212 := by kernel_rfl
  i232 := by kernel_rfl
  i233 := by kernel_rfl
  m15 := by kernel_rfl
  m16 := by kernel_rfl
  m17 := by kernel_rfl
  m18 := by kernel_rfl
  m19 := by kernel_rfl
  mixed := by kernel_rfl
  f129 := Tryz.func252.trans (congrArg some (by kernel_rfl))
  f171 := Tryz.func69.trans (congrArg some (by kernel_rfl))
  f172 := Tryz.func72.trans (congrArg some (by kernel_rfl))
  f205 := Tryz.func237.trans (congrArg some (by kernel_rfl))
  f243 := Tryz.func124.trans (congrArg some (by kernel_rfl))
  f244 := Tryz.func133.trans (congrArg some (by kernel_rfl))
  f245 := Tryz.func134.trans (congrArg some (by kernel_rfl))
  f246 := Tryz.func187.trans (congrArg some (by kernel_rfl))
  f247 := Tryz.func192.trans (congrArg some (by kernel_rfl))
  f279 := Tryz.func193.trans (congrArg some (by kernel_rfl))
  f280 := Tryz.func194.trans (congrArg some (by kernel_rfl))
  f281 := Tryz.func195.trans (congrArg some (by kernel_rfl))
  f282 := Tryz.func196.trans (congrArg some (by kernel_rfl))
  f283 := Tryz.func228.trans (congrArg some (by kernel_rfl))
  f284 := Tryz.func229.trans (congrArg some (by kernel_rfl))
  f285 := Tryz.func230.trans (congrArg some (by kernel_rfl))
  f286 := Tryz.func231.trans (congrArg some (by kernel_rfl))
  f287 := Tryz.func235.trans (congrArg some (by kernel_rfl))
  f316 := Tryz.func236.trans (congrArg some (by kernel_rfl))
  f317 := Tryz.func251.trans (congrArg some (by kernel_rfl))
  f318 := Tryz.func253.trans (congrArg some (by kernel_rfl))
  f319 := Tryz.func254.trans (congrArg some (by kernel_rfl))
  f320 := Tryz.func255.trans (congrArg some (by kernel_rfl))
  f321 := Tryz.func257.trans (congrArg some (by kernel_rfl))
  f322 := Tryz.func258.trans (congrArg some (by kernel_rfl))
  f337 := Tryz.func263.trans (congrArg some (by kernel_rfl))
  f338 := Tryz.func264.trans (congrArg some (by kernel_rfl))
  t0 := Tryz.underlying0
  a0 := Tryz.isAgg0
  z0 := Tryz.sizeOf0
  v0 := Tryz.zeroValue0
  t2 := Tryz.underlying2
  a2 := Tryz.isAgg2
  z2 := Tryz.sizeOf2
  v2 := Tryz.zeroValue2
  t3 := Tryz.underlying3
  a3 := Tryz.isAgg3
  z3 := Tryz.sizeOf3
  v3 := Tryz.zeroValue3
  t4 := Tryz.underlying4
  a4 := Tryz.isAgg4
  z4 := Tryz.sizeOf4
  v4 := Tryz.zeroValue4
  t5 := Tryz.underlying5
  a5 := Tryz.isAgg5
  z5 := Tryz.sizeOf5
  v5 := Tryz.zeroValue5
  t9 := Tryz.underlying9
  a9 := Tryz.isAgg9
  z9 := Tryz.sizeOf9
  v9 := Tryz.zeroValue9
  t20 := Tryz.underlying20
  a20 := Tryz.isAgg20
  z20 := Tryz.sizeOf20
  v20 := Tryz.zeroValue20
  t21 := Tryz.underlying21
  a21 := Tryz.isAgg21
  z21 := Tryz.sizeOf21
  v21 := Tryz.zeroValue21
  t37 := Tryz.underlying46
  a37 := Tryz.isAgg46
  z37 := Tryz.sizeOf46
  v37 := Tryz.zeroValue46
  t46 := Tryz.underlying181
  a46 := Tryz.isAgg181
  z46 := Tryz.sizeOf181
  v46 := Tryz.zeroValue181
  t51 := Tryz.underlying206
  a51 := Tryz.isAgg206
  z51 := Tryz.sizeOf206
  v51 := Tryz.zeroValue206
  t53 := Tryz.underlying209
  a53 := Tryz.isAgg209
  z53 := Tryz.sizeOf209
  v53 := Tryz.zeroValue209
  t75 := Tryz.underlying113
  a75 := Tryz.isAgg113
  z75 := Tryz.sizeOf113
  v75 := Tryz.zeroValue113
  t76 := Tryz.underlying114
  a76 := Tryz.isAgg114
  z76 := Tryz.sizeOf114
  v76 := Tryz.zeroValue114
  t85 := Tryz.underlying194
  a85 := Tryz.isAgg194
  z85 := Tryz.sizeOf194
  v85 := Tryz.zeroValue194
  t127 := Tryz.underlying212
  a127 := Tryz.isAgg212
  z127 := Tryz.sizeOf212
  v127 := Tryz.zeroValue212
  t143 := Tryz.underlying238
  a143 := Tryz.isAgg238
  z143 := Tryz.sizeOf238
  v143 := Tryz.zeroValue238
  t145 := Tryz.underlying240
  a145 := Tryz.isAgg240
  z145 := Tryz.sizeOf240
  v145 := Tryz.zeroValue240
  t167 := Tryz.underlying193
  a167 := Tryz.isAgg193
  z167 := Tryz.sizeOf193
  v167 := Tryz.zeroValue193
  t168 := Tryz.underlying196
  a168 := Tryz.isAgg196
  z168 := Tryz.sizeOf196
  v168 := Tryz.zeroValue196
  t171 := Tryz.underlying213
  a171 := Tryz.isAgg213
  z171 := Tryz.sizeOf213
  v171 := Tryz.zeroValue213
  t173 := Tryz.underlying216
  a173 := Tryz.isAgg216
  z173 := Tryz.sizeOf216
  v173 := Tryz.zeroValue216
  t175 := Tryz.underlying219
  a175 := Tryz.isAgg219
  z175 := Tryz.sizeOf219
  v175 := Tryz.zeroValue219
  t210 := Tryz.underlying222
  a210 := Tryz.isAgg222
  z210 := Tryz.sizeOf222
  v210 := Tryz.zeroValue222
  t212 := Tryz.underlying230
  a212 := Tryz.isAgg230
  z212 := Tryz.sizeOf230
  v212 := Tryz.zeroValue230
  t213 := Tryz.underlying231
  a213 := Tryz.isAgg231
  z213 := Tryz.sizeOf231
  t232 := Tryz.underlying252
  a232 := Tryz.isAgg252
  z232 := Tryz.sizeOf252
  v232 := Tryz.zeroValue252
  t233 := Tryz.underlying253
  a233 := Tryz.isAgg253
  z233 := Tryz.sizeOf253
  v233 := Tryz.zeroValue253
  g15 := by kernel_rfl
  g16 := by kernel_rfl
  g17 := by kernel_rfl
  g18 := by kernel_rfl
  g19 := by kernel_rfl
end Go.Proofs.YtklnopamfncfgaaGreatDoor
namespace Go.Proofs.YtklnopamfncfgaaGreatDoor
open Go Go.Ab
set_option linter.unusedSectionVars false
variable [Amb] [HasErrSyntax Tryz.prog]
set_option maxRecDepth 100000
set_option maxHeartbeats 4000000
theorem ofKitE {f : FuncId} {args : List XV} {r : RV} (vs : List Value) (hc : Callable Tryz.prog f) (ha : concs args = some vs) (hb : ∀ v, r.blk v = none)
    (h : ∀ w, Amb.holds w → Calls Tryz.prog f vs.toArray w fun e w' => ∃ v, e = .returned v ∧ RowKit.Below w.heap.size w w' ∧ ∀ S, RepR w' S r v) : ACalls Tryz.prog f args r := by
  refine ⟨hc, fun w S us hS hargs => ?_⟩
  have e : us = vs.toArray := by
    have := concs_eq (us := us.toList) (by rw [Array.length_toList]; exact hargs.1) (fun j x hj => by simpa using hargs.2 j x hj) ha
    rw [← this]
  subst e
  refine (h w hS.amb).mono ?_
  rintro e w' ⟨v, rfl, hb2, hr⟩
  exact ⟨v, rfl, hb2, hr _, fun b hbb => by rw [hb] at hbb; cases hbb⟩
theorem strconv_Atoi_none : ACalls Tryz.prog 72 [.one (.str [])] (.tup [.one (.int .i64 0), .one .any]) := by
  refine ofKitE [.string ⟨#[]⟩] (callable_of Tryz.f72 (by kernel_rfl) (by kernel_rfl) rfl) rfl (fun _ => rfl) (fun w hw => ?_)
  obtain ⟨cs, hv, te, pe, he⟩ := HasErrSyntax.err (P := Tryz.prog) w hw
  have hg : Tryz.prog.globalNamed "strconv.ErrSyntax" = some 1 := by kernel_rfl
  have hcell : w.cell? ⟨1, 0, none⟩ = some (.iface te pe) := by rw [World.var?_cell hg hv]; exact he
  refine (Any.strconv_Atoi_syntax layCn172 ⟨#[]⟩ (by decide) (by decide) (.iface te pe) w hcell (.inr ⟨te, pe, rfl⟩)).mono ?_
  rintro e w' ⟨N, rfl, _, _, hb⟩
  refine ⟨_, rfl, hb, fun S => ⟨_, rfl, rfl, fun j x hj => ?_⟩⟩
  match j, hj with
  | 0, hj => cases hj; exact ⟨_, rfl, RepC.int _ _⟩
  | 1, hj => cases hj; exact ⟨_, rfl, RepC.any _ rfl⟩
  | j + 2, hj => simp at hj
end Go.Proofs.YtklnopamfncfgaaGreatDoor
namespace Go.Proofs.YtklnopamfncfgaaGreatDoor
open Go Go.Ab
set_option linter.unusedSectionVars false
variable [Amb] [HasPow10 Tryz.prog]
set_option maxRecDepth 100000
set_option maxHeartbeats 4000000
theorem strings_trimLeftByte (s : List UInt8) (c : UInt8) : ACalls Tryz.prog 126 [.one (.str s), byteX c] (.x (.one (.str (s.dropWhile (· == c))))) := by
  obtain ⟨R, eR⟩ : ∃ R, R = s.dropWhile (· == c) := ⟨_, rfl⟩
  rw [← eR]
  refine ACalls.of mixed (fn := Tryz.f126) (by kernel_rfl) (by kernel_rfl) rfl (by kernel_rfl) (by simp [Tryz.f126]) (fun hok => ?_)
  simp -implicitDefEqProofs
  refine ALoopS.of (List UInt8) (fun u => [(0, .x (.one (.str u))), (1, .x (byteX c))]) (fun u => R = u.dropWhile (· == c)) (fun u => u.length) s eR ?_ ?_
  · simp
  intro u hu
  cases u with
  | nil =>
    simp at hu
    subst hu
    simp -implicitDefEqProofs
  | cons a r =>
    have h1 : (0 < ((a :: r).length : Int)) = True := eq_true (by simp only [List.length_cons]; omega)
    have h2 : (0 < (a :: r).length) = True := eq_true (by simp)
    have g1 : (1 ≤ ((a :: r).length : Int)) = True := eq_true (by simp only [List.length_cons]; omega)
    have hp : (0 < (r.length : Int) + 1) = True := eq_true (by omega)
    have hp2 : (1 ≤ (r.length : Int) + 1) = True := eq_true (by omega)
    by_cases hc : a = c
    · subst hc
      rw [List.dropWhile_cons_of_pos (by simp)] at hu
      simp -implicitDefEqProofs [h1, h2, g1, hp, hp2]
      refine Again.of r hu (by simp) ?_
      simp
      rw [show ((r.length : Int) + 1) = ((r.length + 1 : Nat) : Int) from by omega]
      unfold cutAt
      rw [Int.toNat_natCast]
      simp
    · have f1 : ((a.toNat : Int) = (c.toNat : Int)) = False := eq_false (fun e => hc (UInt8.toNat_inj.1 (by omega)))
      have f2 : ((a.toNat : Int) == (c.toNat : Int)) = false := by simpa using f1
      rw [List.dropWhile_cons_of_neg (by simpa using hc)] at hu
      subst hu
      simp -implicitDefEqProofs [h1, h2, g1, hp, hp2, f1, f2]
theorem strings_TrimLeft0 (s : List UInt8) : ACalls Tryz.prog 214 [.one (.str s), .one (.str [48])] (.x (.one (.str (trim0 s)))) := by
  have ht := strings_trimLeftByte s 48
  refine ACalls.of mixed (fn := Tryz.f214) (by kernel_rfl) (by kernel_rfl) rfl (by kernel_rfl) (by simp [Tryz.f214]) (fun hok => ?_)
  by_cases h0 : s = []
  · subst h0
    simp -implicitDefEqProofs
    rfl
  · simp -implicitDefEqProofs [h0]
    exact ACallK.of ht (by simp -implicitDefEqProofs; rfl)
end Go.Proofs.YtklnopamfncfgaaGreatDoor
namespace Go.Proofs.YtklnopamfncfgaaGreatDoor
open Go Go.Ab
set_option linter.unusedSectionVars false
variable [Amb] [HasPow10 Tryz.prog] [HasErrSyntax Tryz.prog]
set_option maxRecDepth 100000
set_option maxHeartbeats 4000000
theorem writeL_len2 (a : Addr) : a.scheme.length + a.host.length + a.port.length + a.path.length + (queryL a).length + (fragL a).length ≤ (writeL a).length := by
  unfold writeL behindL portL
  simp only [List.length_append]
  split
  · rename_i h; rw [h]; simp; omega
  · simp; omega
theorem codedL_len : ∀ s : List UInt8, (codedL s).length ≤ s.length
  | [] => by simp [codedL]
  | [c] => by simp [codedL]
  | [c, a] => by simp [codedL]
  | c :: a :: b :: r => by
    rw [codedL]
    split
    · have := codedL_len r
      have := codeC_len a b
      simp only [List.length_append, List.length_cons]; omega
    · have := codedL_len (a :: b :: r)
      simp only [List.length_cons] at this ⊢; omega
theorem codedL_head {p : List UInt8} (h : p.head? = some 47) : (codedL p).head? = some 47 := by
  cases p with
  | nil => cases h
  | cons a r => simp at h; subst h; rw [codedL_plain (by decide)]; rfl
structure RightA (a : Addr) : Prop where
  port : a.port ≠ [] → portV a.port ≠ 0
  path : rowB [] a.path = true
  head : a.path ≠ [] → a.path.head? = some 47
  query : rowB [] a.query = true
  lpath : a.path.length ≤ 2000
  lquery : a.query.length ≤ 2000
theorem RightA.of {a : Addr} (h : addrF a = 0) : RightA a := by
  obtain ⟨_, _, h3, h4, h5, _, h7, _, hl⟩ := addrF_ok h
  have hw := writeL_len2 a
  have hq : a.query.length ≤ (queryL a).length := by
    unfold queryL
    by_cases e : a.query = []
    · rw [e]; simp
    · rw [h7 e]; simp
  unfold pathB at h4
  simp only [Bool.or_eq_true, decide_eq_true_eq, Bool.and_eq_true] at h4
  refine ⟨h3, ?_, fun hn => ?_, h5, by omega, by omega⟩
  · rcases h4 with e | ⟨_, e⟩
    · rw [e]; rfl
    · exact rowB_none e
  · rcases h4 with e | ⟨e, _⟩
    · exact absurd e hn
    · exact e
theorem address_normal (a : Addr) (h : addrF a = 0) : ACalls Tryz.prog 170 [.agg a.row] (.x (.agg (normalA a).row)) := by
  obtain ⟨_, hpa, hhd, hqu, lp, lq⟩ := RightA.of h
  obtain ⟨sc, ho, po, pa, qu, hq, fr, hf⟩ := a
  simp only at hpa hhd hqu lp lq
  have c1 := address_Small sc
  have c2 := address_Small ho
  have c3 := strings_TrimLeft0 po
  have c4 := address_normalRow pa [] hpa (by omega)
  have c5 := address_normalRow qu [] hqu (by omega)
  have hcl := codedL_len pa
  have c6 := address_undot (codedL pa) (by omega)
  have hX : normalA ⟨sc, ho, po, pa, qu, hq, fr, hf⟩ = ⟨smallL sc, smallL ho, if (smallL sc = httpL ∧ trim0 po = [56, 48]) ∨ (smallL sc = httpsL ∧ trim0 po = [52, 52, 51]) then [] else trim0 po, if undotL (codedL pa) = [] then [47] else undotL (codedL pa), codedL qu, hq, [], false⟩ := rfl
  rw [hX]
  generalize smallL sc = SC at c1
  generalize smallL ho = HO at c2
  generalize trim0 po = PO at c3
  generalize undotL (codedL pa) = UP at c6
  generalize codedL pa = CP at c4 c6 hcl
  generalize codedL qu = CQ at c5
  unfold httpL httpsL
  simp only [Addr.row]
  refine ACalls.of mixed (fn := Tryz.f170) (by kernel_rfl) (by kernel_rfl) rfl (by kernel_rfl) (by simp [Tryz.f170]) (fun hok => ?_)
  simp -implicitDefEqProofs
  refine AltR.l ⟨by kernel_rfl, ?_⟩
  simp -implicitDefEqProofs
  refine ACallK.of c1 ?_
  simp -implicitDefEqProofs
  refine ACallK.of c2 ?_
  simp -implicitDefEqProofs
  refine ACallK.of c3 ?_
  simp -implicitDefEqProofs
  refine ACallK.of c4 ?_
  simp -implicitDefEqProofs
  refine ACallK.of c5 ?_
  by_cases s1 : SC = [104, 116, 116, 112]
  · have s2 : ¬ SC = [104, 116, 116, 112, 115] := by rw [s1]; decide
    by_cases p1 : PO = [56, 48]
    · simp -implicitDefEqProofs [s1, s2, p1]
      refine ACallK.of c6 ?_
      by_cases hU : UP = []
      · simp -implicitDefEqProofs [hU, s1, s2, p1]
      · have hU1 : (UP = []) = False := eq_false hU
        have hU2 : UP.isEmpty = false := by simpa using hU
        simp -implicitDefEqProofs [hU, hU1, hU2, s1, s2, p1]
    · simp -implicitDefEqProofs [s1, s2, p1]
      refine ACallK.of c6 ?_
      by_cases hU : UP = []
      · simp -implicitDefEqProofs [hU, s1, s2, p1]
      · have hU1 : (UP = []) = False := eq_false hU
        have hU2 : UP.isEmpty = false := by simpa using hU
        simp -implicitDefEqProofs [hU, hU1, hU2, s1, s2, p1]
  · by_cases s2 : SC = [104, 116, 116, 112, 115]
    · by_cases p2 : PO = [52, 52, 51]
      · simp -implicitDefEqProofs [s1, s2, p2]
        refine ACallK.of c6 ?_
        by_cases hU : UP = []
        · simp -implicitDefEqProofs [hU, s1, s2, p2]
        · have hU1 : (UP = []) = False := eq_false hU
          have hU2 : UP.isEmpty = false := by simpa using hU
          simp -implicitDefEqProofs [hU, hU1, hU2, s1, s2, p2]
      · simp -implicitDefEqProofs [s1, s2, p2]
        refine ACallK.of c6 ?_
        by_cases hU : UP = []
        · simp -implicitDefEqProofs [hU, s1, s2, p2]
        · have hU1 : (UP = []) = False := eq_false hU
          have hU2 : UP.isEmpty = false := by simpa using hU
          simp -implicitDefEqProofs [hU, hU1, hU2, s1, s2, p2]
    · simp -implicitDefEqProofs [s1, s2]
      refine ACallK.of c6 ?_
      by_cases hU : UP = []
      · simp -implicitDefEqProofs [hU, s1, s2]
      · have hU1 : (UP = []) = False := eq_false hU
        have hU2 : UP.isEmpty = false := by simpa using hU
        simp -implicitDefEqProofs [hU, hU1, hU2, s1, s2]
end Go.Proofs.YtklnopamfncfgaaGreatDoor
namespace Go.Proofs.YtklnopamfncfgaaGreatDoor
open Go Go.Ab
set_option linter.unusedSectionVars false
variable [Amb]
set_option maxRecDepth 100000
set_option maxHeartbeats 4000000
theorem ref1_CheckAddress (a : Addr) (h : a.Fit) : ACalls Tryz.prog 66 [.agg a.row] (.x (.one (.int .i64 (addrF a)))) := by
  refine ACalls.of mixed (fn := Tryz.f66) (by kernel_rfl) (by kernel_rfl) rfl (by kernel_rfl) (by simp [Tryz.f66]) (fun hok => ?_)
  have hwr := ref1_written a h
  obtain ⟨l1, l2, l3, l4, l5, l6⟩ := h
  obtain ⟨sc, ho, po, pa, qu, hq, fr, hf⟩ := a
  simp only [Addr.row] at hwr l1 l2 l3 l4 l5 l6 ⊢
  obtain ⟨F, eF⟩ : ∃ F, F = addrF ⟨sc, ho, po, pa, qu, hq, fr, hf⟩ := ⟨_, rfl⟩
  obtain ⟨W, eW⟩ : ∃ W, W = writeL ⟨sc, ho, po, pa, qu, hq, fr, hf⟩ := ⟨_, rfl⟩
  rw [← eF]
  rw [← eW] at hwr
  simp -implicitDefEqProofs
  refine ACallK.of (ref1_isScheme sc) ?_
  cases h1 : schemeB sc
  · rw [addrF_10 (.inl h1)] at eF
    simp -implicitDefEqProofs
    repeat first
      | (refine ACallGS.of (fun _ => ref1_IsHost ho) rfl ?_; simp -implicitDefEqProofs)
      | (refine ACallGS.of (fun _ => ref1_isPort po) rfl ?_; simp -implicitDefEqProofs)
      | (refine ACallGS.of (fun _ => ref1_IsPath pa (by omega)) rfl ?_; simp -implicitDefEqProofs)
      | (refine ACallGS.of (fun _ => ref1_IsRow qu (by omega)) rfl ?_; simp -implicitDefEqProofs)
      | (refine ACallGS.of (fun _ => ref1_IsRow fr (by omega)) rfl ?_; simp -implicitDefEqProofs)
    exact eF
  simp -implicitDefEqProofs
  refine ACallGS.of (fun _ => ref1_IsHost ho) rfl ?_
  cases h2 : hostB ho
  · rw [addrF_10 (.inr (.inl h2))] at eF
    simp -implicitDefEqProofs
    repeat first
      | (refine ACallGS.of (fun _ => ref1_IsHost ho) rfl ?_; simp -implicitDefEqProofs)
      | (refine ACallGS.of (fun _ => ref1_isPort po) rfl ?_; simp -implicitDefEqProofs)
      | (refine ACallGS.of (fun _ => ref1_IsPath pa (by omega)) rfl ?_; simp -implicitDefEqProofs)
      | (refine ACallGS.of (fun _ => ref1_IsRow qu (by omega)) rfl ?_; simp -implicitDefEqProofs)
      | (refine ACallGS.of (fun _ => ref1_IsRow fr (by omega)) rfl ?_; simp -implicitDefEqProofs)
    exact eF
  simp -implicitDefEqProofs
  by_cases h3 : po ≠ [] ∧ portV po = 0
  · rw [addrF_10 (.inr (.inr (.inl h3)))] at eF
    have k1 : (po = []) = False := eq_false h3.1
    have k2 := h3.2
    have k3 : po.isEmpty = false := by simpa using h3.1
    simp -implicitDefEqProofs [k1, k2, k3]
    refine ACallGS.of (fun _ => ref1_isPort po) rfl ?_
    simp -implicitDefEqProofs [k1, k2, k3]
    repeat first
      | (refine ACallGS.of (fun _ => ref1_IsPath pa (by omega)) rfl ?_; simp -implicitDefEqProofs)
      | (refine ACallGS.of (fun _ => ref1_IsRow qu (by omega)) rfl ?_; simp -implicitDefEqProofs)
      | (refine ACallGS.of (fun _ => ref1_IsRow fr (by omega)) rfl ?_; simp -implicitDefEqProofs)
    exact eF
  have K : ((po = []) = True ∧ po.isEmpty = true ∧ (portV po = 0) = True) ∨ ((po = []) = False ∧ po.isEmpty = false ∧ (portV po = 0) = False) := by
    by_cases hp : po = []
    · left; subst hp; exact ⟨by simp, rfl, by simp [portV]⟩
    · right; exact ⟨eq_false hp, by simpa using hp, eq_false (fun e => h3 ⟨hp, e⟩)⟩
  rcases K with ⟨k1, k3, k2⟩ | ⟨k1, k3, k2⟩
  all_goals
    simp -implicitDefEqProofs [k1, k2, k3]
    refine ACallGS.of (fun _ => ref1_isPort po) rfl ?_
    simp -implicitDefEqProofs [k1, k2, k3]
    refine ACallGS.of (fun _ => ref1_IsPath pa (by omega)) rfl ?_
    cases h4 : pathB pa
    · rw [addrF_10 (.inr (.inr (.inr (.inl h4))))] at eF
      simp -implicitDefEqProofs [k1, k2, k3]
      repeat first
        | (refine ACallGS.of (fun _ => ref1_IsPath pa (by omega)) rfl ?_; simp -implicitDefEqProofs)
        | (refine ACallGS.of (fun _ => ref1_IsRow qu (by omega)) rfl ?_; simp -implicitDefEqProofs)
        | (refine ACallGS.of (fun _ => ref1_IsRow fr (by omega)) rfl ?_; simp -implicitDefEqProofs)
      exact eF
    simp -implicitDefEqProofs [k1, k2, k3]
    refine ACallGS.of (fun _ => ref1_IsRow qu (by omega)) rfl ?_
    cases h5 : rowB [] qu
    · rw [addrF_10 (.inr (.inr (.inr (.inr (.inl h5)))))] at eF
      simp -implicitDefEqProofs [k1, k2, k3]
      repeat first
        | (refine ACallGS.of (fun _ => ref1_IsPath pa (by omega)) rfl ?_; simp -implicitDefEqProofs)
        | (refine ACallGS.of (fun _ => ref1_IsRow qu (by omega)) rfl ?_; simp -implicitDefEqProofs)
        | (refine ACallGS.of (fun _ => ref1_IsRow fr (by omega)) rfl ?_; simp -implicitDefEqProofs)
      exact eF
    simp -implicitDefEqProofs [k1, k2, k3]
    refine ACallGS.of (fun _ => ref1_IsRow fr (by omega)) rfl ?_
    cases h6 : rowB [] fr
    · rw [addrF_10 (.inr (.inr (.inr (.inr (.inr h6)))))] at eF
      simp -implicitDefEqProofs [k1, k2, k3]
      exact eF
    rw [addrF_more h1 h2 h3 h4 h5 h6, ← eW] at eF
    cases hq <;> cases hf <;> by_cases q0 : qu = [] <;> by_cases f0 : fr = []
    all_goals
      simp only [q0, f0, ne_eq, not_true_eq_false, not_false_eq_true, false_and, and_false, true_and, and_true, false_or, or_false, true_or, or_true, if_true, if_false, Bool.true_eq_false, Bool.false_eq_true, reduceCtorEq] at eF
      simp -implicitDefEqProofs [k1, k2, k3, q0, f0]
      first
        | exact eF
        | (first
            | exact ACallK.of hwr (by
                by_cases hW : 2000 < W.length
                · rw [if_pos hW] at eF
                  have hW' : (2000 < (W.length : Int)) = True := eq_true (by omega)
                  simp -implicitDefEqProofs [hW, hW']
                  exact eF
                · rw [if_neg hW] at eF
                  have hW' : (2000 < (W.length : Int)) = False := eq_false (by omega)
                  simp -implicitDefEqProofs [hW, hW']
                  exact eF)
            | (simp only [q0, f0] at hwr
               exact ACallK.of hwr (by
                by_cases hW : 2000 < W.length
                · rw [if_pos hW] at eF
                  have hW' : (2000 < (W.length : Int)) = True := eq_true (by omega)
                  simp -implicitDefEqProofs [hW, hW']
                  exact eF
                · rw [if_neg hW] at eF
                  have hW' : (2000 < (W.length : Int)) = False := eq_false (by omega)
                  simp -implicitDefEqProofs [hW, hW']
                  exact eF)))
end Go.Proofs.YtklnopamfncfgaaGreatDoor
namespace Go.Proofs.YtklnopamfncfgaaGreatDoor
open Go Go.Ab
set_option linter.unusedSectionVars false
variable [Amb] [HasPow10 Tryz.prog] [HasErrSyntax Tryz.prog]
set_option maxRecDepth 100000
set_option maxHeartbeats 4000000
theorem atoi_port {p : List UInt8} (h : p ≠ [] → portV p ≠ 0) : (portV p = 0 ∧ ACalls Tryz.prog 72 [.one (.str p)] (.tup [.one (.int .i64 0), .one .any])) ∨ (portV p ≠ 0 ∧ ACalls Tryz.prog 72 [.one (.str p)] (.tup [.one (.int .i64 (portV p : Nat)), .one (.atom .nilIface)])) := by
  by_cases hp : p = []
  · subst hp
    exact .inl ⟨by decide, strconv_Atoi_none⟩
  · obtain ⟨h1, h2, h3, _, h5⟩ := portV_pos (h hp)
    refine .inr ⟨h hp, ?_⟩
    rw [h5]
    exact strconv_Atoi1 p _ (by omega) (atoi_eq h3 hp)
theorem ref1_NormalOf (a : Addr) (h : addrF a = 0) : ACalls Tryz.prog 103 [.agg a.row] (.x (.agg (normalA a).row)) := by
  obtain ⟨hpo, hpa, hhd, hqu, lp, lq⟩ := RightA.of h
  obtain ⟨sc, ho, po, pa, qu, hq, fr, hf⟩ := a
  simp only at hpo hpa hhd hqu lp lq
  have c1 := ref1_Small sc
  have c2 := ref1_Small ho
  have c4 := ref1_coded pa [] hpa (by omega)
  have c5 := ref1_coded qu [] hqu (by omega)
  have hcl := codedL_len pa
  have c6 := ref1_dots (codedL pa) (by omega) (fun hn => codedL_head (hhd (fun e => hn (by rw [e]; rfl))))
  have c3 := atoi_port hpo
  have hpn := portN_eq (s := smallL sc) hpo
  have hX : normalA ⟨sc, ho, po, pa, qu, hq, fr, hf⟩ = ⟨smallL sc, smallL ho, portN (smallL sc) po, if undotL (codedL pa) = [] then [47] else undotL (codedL pa), codedL qu, hq, [], false⟩ := rfl
  rw [hX, hpn]
  have hnb : portV po ≤ 65535 := by
    by_cases e : portV po = 0
    · omega
    · have := portV_pos e; omega
  have cI := strconv_Itoa (portV po : Int) (by unfold I64; omega)
  rw [show itoaL (portV po : Int) = Lib.itoa (portV po : Int) from rfl] at cI
  clear hX hpn
  generalize smallL sc = SC at c1
  generalize smallL ho = HO at c2
  generalize undotL (codedL pa) = UP at c6
  generalize codedL pa = CP at c4 c6 hcl
  generalize codedL qu = CQ at c5
  generalize Lib.itoa (portV po : Int) = IT at cI
  generalize portV po = n at c3 cI hnb hpo
  unfold httpL httpsL
  simp only [Addr.row]
  refine ACalls.of mixed (fn := Tryz.f103) (by kernel_rfl) (by kernel_rfl) rfl (by kernel_rfl) (by simp [Tryz.f103]) (fun hok => ?_)
  simp -implicitDefEqProofs
  refine AltR.l ⟨by kernel_rfl, ?_⟩
  simp -implicitDefEqProofs
  refine ACallK.of c1 ?_
  simp -implicitDefEqProofs
  refine ACallK.of c2 ?_
  simp -implicitDefEqProofs
  refine ACallK.of c4 ?_
  simp -implicitDefEqProofs
  refine ACallK.of c6 ?_
  simp -implicitDefEqProofs
  refine ACallK.of c5 ?_
  simp -implicitDefEqProofs
  rcases c3 with ⟨n0, c3⟩ | ⟨n0, c3⟩
  · refine ACallK.of c3 ?_
    simp -implicitDefEqProofs [n0]
    by_cases hU : UP = []
    · simp -implicitDefEqProofs [hU, n0]
    · have hU1 : (UP = []) = False := eq_false hU
      have hU2 : UP.isEmpty = false := by simpa using hU
      simp -implicitDefEqProofs [hU, hU1, hU2, n0]
  refine ACallK.of c3 ?_
  have g0 : ((n : Int) = 0) = False := eq_false (by omega)
  have g0' : ((n : Int) != 0) = true := by rw [bne_iff_ne]; omega
  by_cases n80 : n = 80
  · have n80t : (n = 80) = True := eq_true n80
    have g1 : ((n : Int) = 80) = True := eq_true (by omega)
    have g1' : ((n : Int) == 80) = true := by rw [beq_iff_eq]; omega
    have g2 : ((n : Int) = 443) = False := eq_false (by omega)
    have g2' : ((n : Int) == 443) = false := by rw [beq_eq_false_iff_ne]; omega
    have n443 : ¬ n = 443 := by omega
    by_cases s1 : SC = [104, 116, 116, 112]
    · simp -implicitDefEqProofs [n0, g0, g0', n80t, g1, g1', g2, g2', n443, s1]
      by_cases hU : UP = []
      · simp -implicitDefEqProofs [hU, n0, g0, g0', n80t, g1, g1', g2, g2', n443, s1]
      · have hU1 : (UP = []) = False := eq_false hU
        have hU2 : UP.isEmpty = false := by simpa using hU
        simp -implicitDefEqProofs [hU, hU1, hU2, n0, g0, g0', n80t, g1, g1', g2, g2', n443, s1]
    · simp -implicitDefEqProofs [n0, g0, g0', n80t, g1, g1', g2, g2', n443, s1]
      refine ACallK.of cI ?_
      by_cases hU : UP = []
      · simp -implicitDefEqProofs [hU, n0, g0, g0', n80t, g1, g1', g2, g2', n443, s1]
      · have hU1 : (UP = []) = False := eq_false hU
        have hU2 : UP.isEmpty = false := by simpa using hU
        simp -implicitDefEqProofs [hU, hU1, hU2, n0, g0, g0', n80t, g1, g1', g2, g2', n443, s1]
  have g1 : ((n : Int) = 80) = False := eq_false (by omega)
  have g1' : ((n : Int) == 80) = false := by rw [beq_eq_false_iff_ne]; omega
  by_cases n443 : n = 443
  · have n443t : (n = 443) = True := eq_true n443
    have g2 : ((n : Int) = 443) = True := eq_true (by omega)
    have g2' : ((n : Int) == 443) = true := by rw [beq_iff_eq]; omega
    by_cases s1 : SC = [104, 116, 116, 112, 115]
    · simp -implicitDefEqProofs [n0, g0, g0', n80, g1, g1', g2, g2', n443t, s1]
      by_cases hU : UP = []
      · simp -implicitDefEqProofs [hU, n0, g0, g0', n80, g1, g1', g2, g2', n443t, s1]
      · have hU1 : (UP = []) = False := eq_false hU
        have hU2 : UP.isEmpty = false := by simpa using hU
        simp -implicitDefEqProofs [hU, hU1, hU2, n0, g0, g0', n80, g1, g1', g2, g2', n443t, s1]
    · simp -implicitDefEqProofs [n0, g0, g0', n80, g1, g1', g2, g2', n443t, s1]
      refine ACallK.of cI ?_
      by_cases hU : UP = []
      · simp -implicitDefEqProofs [hU, n0, g0, g0', n80, g1, g1', g2, g2', n443t, s1]
      · have hU1 : (UP = []) = False := eq_false hU
        have hU2 : UP.isEmpty = false := by simpa using hU
        simp -implicitDefEqProofs [hU, hU1, hU2, n0, g0, g0', n80, g1, g1', g2, g2', n443t, s1]
  have g2 : ((n : Int) = 443) = False := eq_false (by omega)
  have g2' : ((n : Int) == 443) = false := by rw [beq_eq_false_iff_ne]; omega
  simp -implicitDefEqProofs [n0, g0, g0', n80, g1, g1', g2, g2', n443]
  refine ACallK.of cI ?_
  by_cases hU : UP = []
  · simp -implicitDefEqProofs [hU, n0, g0, g0', n80, g1, g1', g2, g2', n443]
  · have hU1 : (UP = []) = False := eq_false hU
    have hU2 : UP.isEmpty = false := by simpa using hU
    simp -implicitDefEqProofs [hU, hU1, hU2, n0, g0, g0', n80, g1, g1', g2, g2', n443]
theorem normalA_Fit {a : Addr} (h : addrF a = 0) : (normalA a).Fit := by
  obtain ⟨hpo, hpa, hhd, hqu, lp, lq⟩ := RightA.of h
  have hl := (addrF_ok h).2.2.2.2.2.2.2.2
  have hw := writeL_len2 a
  have h1 : (normalA a).scheme.length = a.scheme.length := by show (smallL a.scheme).length = _; simp [smallL]
  have h2 : (normalA a).host.length = a.host.length := by show (smallL a.host).length = _; simp [smallL]
  have h3 : (normalA a).port.length ≤ a.port.length := by
    show (portN (smallL a.scheme) a.port).length ≤ _
    unfold portN
    split
    · simp
    · unfold trim0; exact (List.dropWhile_suffix _).length_le
  have h4 : (normalA a).path.length ≤ 2100 := by
    show (pathN a.path).length ≤ _
    unfold pathN
    have hc := codedL_len a.path
    split
    · simp
    · unfold undotL
      split
      · simp
      · have hne := splitC_ne 47 ((codedL a.path).drop 1)
        have e := undotP_len _ hne 47
        have e2 := totL_join 47 _ hne
        rw [join_split, List.length_drop] at e2
        simp only [List.length_cons]; omega
  have h5 : (normalA a).query.length ≤ a.query.length := by show (codedL a.query).length ≤ _; exact codedL_len _
  exact ⟨by omega, by omega, by omega, by omega, by omega, by show (0 : Nat) ≤ _; omega⟩
def normalR (a : Addr) : Addr := if normalF a = 0 then normalA a else noAddr
theorem address_Normal (a : Addr) (hF : a.Fit) : ACalls Tryz.prog 101 [.agg a.row] (.tup [.agg (normalR a).row, .one (.int .i64 (normalF a))]) := by
  have k1 := address_CheckAddress a hF
  obtain ⟨F, eF⟩ : ∃ F, F = normalF a := ⟨_, rfl⟩
  obtain ⟨X, eX⟩ : ∃ X, X = normalR a := ⟨_, rfl⟩
  have eX' := eX
  unfold normalR at eX'
  rw [← eF] at eX' ⊢
  rw [← eX]
  unfold normalF at eF
  by_cases h0 : addrF a = 0
  rotate_left
  · rw [if_pos h0] at eF
    rw [← eF] at k1
    have f1 : (F == 0) = false := by rw [beq_eq_false_iff_ne, eF]; exact h0
    have f2 : ¬ F = 0 := by rw [eF]; exact h0
    rw [if_neg f2] at eX'
    subst eX'
    clear eX hF h0 eF
    obtain ⟨sc, ho, po, pa, qu, hq, fr, hf⟩ := a
    simp only [Addr.row] at k1 ⊢
    refine ACalls.of mixed (fn := Tryz.f101) (by kernel_rfl) (by kernel_rfl) rfl (by kernel_rfl) (by simp [Tryz.f101]) (fun hok => ?_)
    simp -implicitDefEqProofs
    refine ACallK.of k1 ?_
    simp -implicitDefEqProofs [f1, f2, noAddr]
  rw [if_neg (fun e => e h0)] at eF
  rw [h0] at k1
  have k2 := address_normal a h0
  have k3 := address_CheckAddress (normalA a) (normalA_Fit h0)
  rw [← eF] at k3
  generalize normalA a = N at k2 k3 eX'
  clear eX hF h0 eF
  obtain ⟨sc, ho, po, pa, qu, hq, fr, hf⟩ := a
  obtain ⟨nc, no, np, na, nu, nq, nr, nf⟩ := N
  simp only [Addr.row] at k1 k2 k3 ⊢
  refine ACalls.of mixed (fn := Tryz.f101) (by kernel_rfl) (by kernel_rfl) rfl (by kernel_rfl) (by simp [Tryz.f101]) (fun hok => ?_)
  simp -implicitDefEqProofs
  refine ACallK.of k1 ?_
  simp -implicitDefEqProofs
  refine ACallK.of k2 ?_
  simp -implicitDefEqProofs
  refine ACallK.of k3 ?_
  by_cases f2 : F = 0
  · have f1 : (F == 0) = true := by simpa using f2
    rw [if_pos f2] at eX'
    subst eX'
    simp -implicitDefEqProofs [f1, f2]
  · have f1 : (F == 0) = false := by simpa using f2
    rw [if_neg f2] at eX'
    subst eX'
    simp -implicitDefEqProofs [f1, f2, noAddr]
theorem ref1_Normal (a : Addr) (hF : a.Fit) : ACalls Tryz.prog 50 [.agg a.row] (.tup [.agg (normalR a).row, .one (.int .i64 (normalF a))]) := by
  have k1 := ref1_CheckAddress a hF
  obtain ⟨F, eF⟩ : ∃ F, F = normalF a := ⟨_, rfl⟩
  obtain ⟨X, eX⟩ : ∃ X, X = normalR a := ⟨_, rfl⟩
  have eX' := eX
  unfold normalR at eX'
  rw [← eF] at eX' ⊢
  rw [← eX]
  unfold normalF at eF
  by_cases h0 : addrF a = 0
  rotate_left
  · rw [if_pos h0] at eF
    rw [← eF] at k1
    have f1 : (F == 0) = false := by rw [beq_eq_false_iff_ne, eF]; exact h0
    have f2 : ¬ F = 0 := by rw [eF]; exact h0
    rw [if_neg f2] at eX'
    subst eX'
    clear eX hF h0 eF
    obtain ⟨sc, ho, po, pa, qu, hq, fr, hf⟩ := a
    simp only [Addr.row] at k1 ⊢
    refine ACalls.of mixed (fn := Tryz.f50) (by kernel_rfl) (by kernel_rfl) rfl (by kernel_rfl) (by simp [Tryz.f50]) (fun hok => ?_)
    simp -implicitDefEqProofs
    refine ACallK.of k1 ?_
    simp -implicitDefEqProofs [f1, f2, noAddr]
  rw [if_neg (fun e => e h0)] at eF
  rw [h0] at k1
  have k2 := ref1_NormalOf a h0
  have k3 := ref1_CheckAddress (normalA a) (normalA_Fit h0)
  rw [← eF] at k3
  generalize normalA a = N at k2 k3 eX'
  clear eX hF h0 eF
  obtain ⟨sc, ho, po, pa, qu, hq, fr, hf⟩ := a
  obtain ⟨nc, no, np, na, nu, nq, nr, nf⟩ := N
  simp only [Addr.row] at k1 k2 k3 ⊢
  refine ACalls.of mixed (fn := Tryz.f50) (by kernel_rfl) (by kernel_rfl) rfl (by kernel_rfl) (by simp [Tryz.f50]) (fun hok => ?_)
  simp -implicitDefEqProofs
  refine ACallK.of k1 ?_
  simp -implicitDefEqProofs
  refine ACallK.of k2 ?_
  simp -implicitDefEqProofs
  refine ACallK.of k3 ?_
  by_cases f2 : F = 0
  · have f1 : (F == 0) = true := by simpa using f2
    rw [if_pos f2] at eX'
    subst eX'
    simp -implicitDefEqProofs [f1, f2]
  · have f1 : (F == 0) = false := by simpa using f2
    rw [if_neg f2] at eX'
    subst eX'
    simp -implicitDefEqProofs [f1, f2, noAddr]
end Go.Proofs.YtklnopamfncfgaaGreatDoor
namespace Go.Proofs.YtklnopamfncfgaaGreatDoor
open Go Go.Ab
set_option linter.unusedSectionVars false
variable [Amb] [HasPow10 Tryz.prog] [HasErrSyntax Tryz.prog]
set_option maxRecDepth 100000
set_option maxHeartbeats 4000000
theorem index_same_nil (k : Int) (s : List UInt8) : ACalls Tryz.prog 259 [.one .nil, .agg [.int .i64 k, .str s]] (.x (.one (.int .i64 (-1)))) := by
  refine ACalls.of mixed (fn := Tryz.f259) (by kernel_rfl) (by kernel_rfl) rfl (by kernel_rfl) (by simp [Tryz.f259]) (fun hok => ?_)
  simp -implicitDefEqProofs
  refine ALoopS.of Unit (fun _ => [(0, .x (.one .nil)), (3, .box [.int .i64 k, .str s]), (7, .x (.one (.int .i64 0))), (8, .x (.one (.int .i64 0)))]) (fun _ => True) (fun _ => 0) () trivial ?_ ?_
  · simp
  intro _ _
  simp -implicitDefEqProofs
theorem contains_same_nil (k : Int) (s : List UInt8) : ACalls Tryz.prog 238 [.one .nil, .agg [.int .i64 k, .str s]] (.x (.one (.bool false))) := by
  refine ACalls.of mixed (fn := Tryz.f238) (by kernel_rfl) (by kernel_rfl) rfl (by kernel_rfl) (by simp [Tryz.f238]) (fun hok => ?_)
  simp -implicitDefEqProofs
  refine ACallK.of (index_same_nil k s) ?_
  simp -implicitDefEqProofs
theorem address_has_nil (k : Int) (s : List UInt8) : ACalls Tryz.prog 204 [.one .nil, .one (.int .i64 k), .one (.str s)] (.x (.one (.bool false))) := by
  refine ACalls.of mixed (fn := Tryz.f204) (by kernel_rfl) (by kernel_rfl) rfl (by kernel_rfl) (by simp [Tryz.f204]) (fun hok => ?_)
  simp -implicitDefEqProofs
  refine ACallK.of (contains_same_nil k s) ?_
  simp -implicitDefEqProofs
theorem ref1_says_nil (k : Int) (s : List UInt8) : ACalls Tryz.prog 162 [.one .nil, .one (.int .i64 k), .one (.str s)] (.x (.one (.bool false))) := by
  refine ACalls.of mixed (fn := Tryz.f162) (by kernel_rfl) (by kernel_rfl) rfl (by kernel_rfl) (by simp [Tryz.f162]) (fun hok => ?_)
  simp -implicitDefEqProofs
  refine ALoopS.of Unit (fun _ => [(0, .x (.one .nil)), (1, .x (.one (.int .i64 k))), (2, .x (.one (.str s))), (7, .x (.one (.int .i64 0)))]) (fun _ => True) (fun _ => 0) () trivial ?_ ?_
  · simp
  intro _ _
  simp -implicitDefEqProofs
def lastN (s : List UInt8) (c : UInt8) : Nat → Int
  | 0 => -1
  | n + 1 => if s[n]? = some c then n else lastN s c n
theorem lastN_bound (s : List UInt8) (c : UInt8) : ∀ n, -1 ≤ lastN s c n ∧ lastN s c n < n
  | 0 => by simp [lastN]
  | n + 1 => by
    have := lastN_bound s c n
    unfold lastN
    split <;> omega
theorem lastIndexByteString (s : List UInt8) (c : UInt8) (hs : s.length ≤ 4000000000000) : ACalls Tryz.prog 246 [.one (.str s), byteX c] (.x (.one (.int .i64 (lastN s c s.length)))) := by
  obtain ⟨R, eR⟩ : ∃ R, R = lastN s c s.length := ⟨_, rfl⟩
  rw [← eR]
  refine ACalls.of mixed (fn := Tryz.f246) (by kernel_rfl) (by kernel_rfl) rfl (by kernel_rfl) (by simp [Tryz.f246]) (fun hok => ?_)
  have w0 : IntKind.i64.wrap ((s.length : Int) - 1) = (s.length : Int) - 1 := wrapS _ (by omega)
  simp -implicitDefEqProofs [w0]
  refine ALoopS.of Nat (fun n => [(0, .x (.one (.str s))), (1, .x (byteX c)), (5, .x (.one (.int .i64 ((n : Int) - 1))))]) (fun n => n ≤ s.length ∧ R = lastN s c n) (fun n => n) s.length ⟨Nat.le_refl _, eR⟩ ?_ ?_
  · simp [w0]
  rintro n ⟨hn, hR⟩
  cases n with
  | zero =>
    have h : R = -1 := hR
    subst h
    simp -implicitDefEqProofs
  | succ m =>
    have hm : m < s.length := by omega
    have e1 : ((m + 1 : Nat) : Int) - 1 = (m : Int) := by omega
    rw [e1]
    have hm' : ((m : Int) < (s.length : Int)) = True := eq_true (by omega)
    have h0 : (0 ≤ (m : Int)) = True := eq_true (by omega)
    have w1 : IntKind.i64.wrap ((m : Int) - 1) = (m : Int) - 1 := wrapS _ (by omega)
    have hR' : R = if s[m]? = some c then (m : Int) else lastN s c m := hR
    rw [List.getElem?_eq_getElem hm] at hR'
    by_cases hc : s[m] = c
    · rw [if_pos (by rw [hc])] at hR'
      subst hR'
      have f1 : ((s[m].toNat : Int) = (c.toNat : Int)) = True := eq_true (by rw [hc])
      have f2 : ((s[m].toNat : Int) == (c.toNat : Int)) = true := by simpa using f1
      simp -implicitDefEqProofs [hm, hm', h0, f1, f2]
    · rw [if_neg (by simpa using hc)] at hR'
      have f1 : ((s[m].toNat : Int) = (c.toNat : Int)) = False := eq_false (fun e => hc (UInt8.toNat_inj.1 (by omega)))
      have f2 : ((s[m].toNat : Int) == (c.toNat : Int)) = false := by simpa using f1
      simp -implicitDefEqProofs [hm, hm', h0, f1, f2, w1]
      refine Again.of m ⟨by omega, hR'⟩ (by omega) (by simp [w1])
theorem strings_LastIndexByte (s : List UInt8) (c : UInt8) (hs : s.length ≤ 4000000000000) : ACalls Tryz.prog 212 [.one (.str s), byteX c] (.x (.one (.int .i64 (lastN s c s.length)))) := by
  refine ACalls.of mixed (fn := Tryz.f212) (by kernel_rfl) (by kernel_rfl) rfl (by kernel_rfl) (by simp [Tryz.f212]) (fun hok => ?_)
  simp -implicitDefEqProofs
  refine ACallK.of (lastIndexByteString s c hs) ?_
  simp -implicitDefEqProofs
theorem address_pathOf_nil (s : List UInt8) (hs : s.length ≤ 4000000000000) : ACalls Tryz.prog 205 [.one (.str s), .one .nil] (.x (.one (.str s))) := by
  have hl := strings_LastIndexByte s 47 hs
  have hb := lastN_bound s 47 s.length
  generalize lastN s 47 s.length = k at hl hb
  obtain ⟨j, ej⟩ : ∃ j : Nat, k + 1 = j := ⟨(k + 1).toNat, by omega⟩
  have wj : IntKind.i64.wrap (k + 1) = (j : Int) := by rw [wrapS _ (by omega)]; exact ej
  have g1 : ((j : Int) ≤ (s.length : Int)) = True := eq_true (by omega)
  have g2 : (j ≤ s.length) = True := eq_true (by omega)
  refine ACalls.of mixed (fn := Tryz.f205) (by kernel_rfl) (by kernel_rfl) rfl (by kernel_rfl) (by simp [Tryz.f205]) (fun hok => ?_)
  simp -implicitDefEqProofs
  refine ACallK.of (address_has_nil 3 []) ?_
  simp -implicitDefEqProofs
  refine ACallK.of hl ?_
  by_cases he : s.drop j = []
  · have he2 : s.length ≤ j := by simpa using he
    have he3 : ((s.length : Int) ≤ (j : Int)) = True := eq_true (by omega)
    have he4 : (s.length ≤ j) = True := eq_true he2
    simp -implicitDefEqProofs [wj, g1, g2, he, he3, he4]
    refine ACallGS.of (fun h => by simp at h) (r := .x (.one (.bool false))) rfl ?_
    simp -implicitDefEqProofs [wj, g1, g2, he, he3, he4]
    refine ACallK.of (address_has_nil 4 []) ?_
    simp -implicitDefEqProofs
  · have he2 : ¬ s.length ≤ j := by simpa using he
    have he3 : ((s.length : Int) ≤ (j : Int)) = False := eq_false (by omega)
    have he4 : (s.length ≤ j) = False := eq_false he2
    simp -implicitDefEqProofs [wj, g1, g2, he, he3, he4]
    refine ACallGS.of (fun _ => address_has_nil 5 _) rfl ?_
    simp -implicitDefEqProofs [wj, g1, g2, he, he3, he4]
    refine ACallK.of (address_has_nil 4 []) ?_
    simp -implicitDefEqProofs
theorem ref1_pathOf_nil (s : List UInt8) (hs : s.length ≤ 4000000000000) : ACalls Tryz.prog 164 [.one (.str s), .one .nil] (.x (.one (.str s))) := by
  have hl := strings_LastIndexByte s 47 hs
  have hb := lastN_bound s 47 s.length
  generalize lastN s 47 s.length = k at hl hb
  obtain ⟨j, ej⟩ : ∃ j : Nat, k + 1 = j := ⟨(k + 1).toNat, by omega⟩
  have wj : IntKind.i64.wrap (k + 1) = (j : Int) := by rw [wrapS _ (by omega)]; exact ej
  have g1 : ((j : Int) ≤ (s.length : Int)) = True := eq_true (by omega)
  have g2 : (j ≤ s.length) = True := eq_true (by omega)
  refine ACalls.of mixed (fn := Tryz.f164) (by kernel_rfl) (by kernel_rfl) rfl (by kernel_rfl) (by simp [Tryz.f164]) (fun hok => ?_)
  simp -implicitDefEqProofs
  refine ACallK.of (ref1_says_nil 3 []) ?_
  simp -implicitDefEqProofs
  refine ACallK.of hl ?_
  simp -implicitDefEqProofs [wj, g1, g2]
  refine ACallK.of (ref1_says_nil 5 _) ?_
  simp -implicitDefEqProofs
  refine ALoopS.of Unit (fun _ => [(0, .x (.one (.str s))), (1, .x (.one .nil))]) (fun _ => True) (fun _ => 0) () trivial ?_ ?_
  · simp
  intro _ _
  simp -implicitDefEqProofs
  refine ACallK.of (ref1_says_nil 4 []) ?_
  simp -implicitDefEqProofs
end Go.Proofs.YtklnopamfncfgaaGreatDoor
namespace Go.Proofs.YtklnopamfncfgaaGreatDoor
open Go Go.Ab
set_option linter.unusedSectionVars false
variable [Amb] [HasPow10 Tryz.prog] [HasErrSyntax Tryz.prog]
set_option maxRecDepth 100000
set_option maxHeartbeats 4000000
theorem split_join_len (c : UInt8) (s : List UInt8) : totL (splitC c s) = s.length + 1 := by
  have := totL_join c _ (splitC_ne c s)
  rw [join_split] at this; omega
theorem address_queryOf_nil (q : List UInt8) (hq : q.length ≤ 600000) : ACalls Tryz.prog 206 [.one (.str q), .one .nil] (.x (.one (.str (63 :: q)))) := by
  have hsp := strings_Split1 q 38 hq
  have hcnt := splitC_count 38 q
  have hne := splitC_ne 38 q
  have hjs := join_split 38 q
  have hlen := splitC_len 38 q
  obtain ⟨parts, eparts⟩ : ∃ parts, parts = splitC 38 q := ⟨_, rfl⟩
  rw [← eparts] at hsp hcnt hne hjs hlen
  clear eparts
  have hn0 : 0 < parts.length := by cases parts with | nil => exact absurd rfl hne | cons a r => simp
  have hj := strings_Join parts [38] (by rw [join_oneC, hjs]; omega) (by omega)
  rw [join_oneC, hjs] at hj
  refine ACalls.of mixed (fn := Tryz.f206) (by kernel_rfl) (by kernel_rfl) rfl (by kernel_rfl) (by simp [Tryz.f206]) (fun hok => ?_)
  simp -implicitDefEqProofs
  refine ACallK.of hsp ?_
  simp -implicitDefEqProofs
  refine ALoopS.of Nat (fun i => [(1, .x (.one .nil)), (6, .own 9 1 (strRows (parts.take i))), (14, .x (strs parts)), (15, .x (.one (.int .i64 parts.length))), (16, .x (.one (.int .i64 i)))]) (fun i => i ≤ parts.length) (fun i => parts.length - i) 0 (Nat.zero_le _) ?_ ?_
  · simp [strRows]
  intro i hi
  have hrl : (strRows (parts.take i)).length = i := by rw [strRows_len, List.length_take]; omega
  by_cases hlt : i < parts.length
  · have hlt' : ((i : Int) < (parts.length : Int)) = True := eq_true (by omega)
    have wi : IntKind.i64.wrap ((i : Int) + 1) = (i : Int) + 1 := wrapS _ (by omega)
    have hm1 : i + 1 ≤ maxLen := by unfold maxLen; omega
    have hst : strRows (parts.take (i + 1)) = strRows (parts.take i) ++ [[CV.str parts[i]]] := by rw [List.take_succ_eq_append_getElem hlt, strRows_snoc]
    generalize strRows (parts.take i) = rows at hrl hst ⊢
    simp -implicitDefEqProofs [hlt', hlt]
    refine ACallK.of (strings_Cut1 parts[i] 61) ?_
    by_cases hb : befC 61 parts[i] = []
    · simp -implicitDefEqProofs [hb]
      refine ACallGS.of (fun h => by simp at h) (r := .x (.one (.bool false))) rfl ?_
      simp -implicitDefEqProofs [hrl, hm1, wi]
      refine ⟨by omega, Again.of (i + 1) hlt (by omega) ?_⟩
      simp [hst, wi]
    · simp -implicitDefEqProofs [hb]
      refine ACallGS.of (fun _ => address_has_nil 7 _) rfl ?_
      simp -implicitDefEqProofs [hrl, hm1, wi]
      refine ⟨by omega, Again.of (i + 1) hlt (by omega) ?_⟩
      simp [hst, wi]
  · have hlt' : ((i : Int) < (parts.length : Int)) = False := eq_false (by omega)
    have hall : strRows (parts.take i) = strRows parts := by rw [List.take_of_length_le (by omega)]
    rw [hall] at hrl ⊢
    have hi0 : ¬ i = 0 := by omega
    have hi1 : ((i : Int) = 0) = False := eq_false (by omega)
    have hi2 : ((i : Int) == 0) = false := by rw [beq_eq_false_iff_ne]; omega
    have hql : 1 + q.length ≤ maxLen := by unfold maxLen; omega
    have hql2 : q.length + 1 ≤ maxLen := by unfold maxLen; omega
    simp -implicitDefEqProofs [hlt', hlt, hrl, hi0, hi1, hi2]
    refine ACallK.of (address_has_nil 6 []) ?_
    simp -implicitDefEqProofs
    refine ACallK.of hj ?_
    simp -implicitDefEqProofs [hql, hql2]
theorem ref1_queryOf_nil (q : List UInt8) (hq : q.length ≤ 600000) : ACalls Tryz.prog 165 [.one (.str q), .one .nil] (.x (.one (.str (63 :: q)))) := by
  have hsp := strings_Split1 q 38 hq
  have hcnt := splitC_count 38 q
  have hne := splitC_ne 38 q
  have hjs := join_split 38 q
  obtain ⟨parts, eparts⟩ : ∃ parts, parts = splitC 38 q := ⟨_, rfl⟩
  rw [← eparts] at hsp hcnt hne hjs
  clear eparts
  have hn0 : 0 < parts.length := by cases parts with | nil => exact absurd rfl hne | cons a r => simp
  have hj := strings_Join parts [38] (by rw [join_oneC, hjs]; omega) (by omega)
  rw [join_oneC, hjs] at hj
  refine ACalls.of mixed (fn := Tryz.f165) (by kernel_rfl) (by kernel_rfl) rfl (by kernel_rfl) (by simp [Tryz.f165]) (fun hok => ?_)
  simp -implicitDefEqProofs
  refine ACallK.of hsp ?_
  simp -implicitDefEqProofs
  refine ALoopS.of Nat (fun i => [(1, .x (.one .nil)), (5, .x (strs parts)), (6, .own 9 1 (strRows (parts.take i))), (7, .x (.one (.int .i64 i)))]) (fun i => i ≤ parts.length) (fun i => parts.length - i) 0 (Nat.zero_le _) ?_ ?_
  · simp [strRows]
  intro i hi
  have hrl : (strRows (parts.take i)).length = i := by rw [strRows_len, List.length_take]; omega
  by_cases hlt : i < parts.length
  · have hlt' : ((i : Int) < (parts.length : Int)) = True := eq_true (by omega)
    have wi : IntKind.i64.wrap ((i : Int) + 1) = (i : Int) + 1 := wrapS _ (by omega)
    have hm0 : i ≤ maxLen := by unfold maxLen; omega
    have hm1 : i + 1 ≤ maxLen := by unfold maxLen; omega
    have hst : strRows (parts.take (i + 1)) = strRows (parts.take i) ++ [[CV.str parts[i]]] := by rw [List.take_succ_eq_append_getElem hlt, strRows_snoc]
    have hg : (strRows (parts.take i))[(IntKind.i64.wrap ((i : Int) - 1)).toNat]?.getD [] = [] ∨ ∃ x, (strRows (parts.take i))[(IntKind.i64.wrap ((i : Int) - 1)).toNat]?.getD [] = [CV.str x] := by
      generalize (IntKind.i64.wrap ((i : Int) - 1)).toNat = k
      by_cases hk : k < (parts.take i).length
      · exact .inr ⟨(parts.take i)[k], by unfold strRows; rw [List.getElem?_map, List.getElem?_eq_getElem hk]; rfl⟩
      · exact .inl (by simp only [strRows]; rw [List.getElem?_eq_none (by rw [List.length_map]; omega)]; rfl)
    generalize strRows (parts.take i) = rows at hrl hst hg ⊢
    simp -implicitDefEqProofs [hlt', hlt]
    refine ACallK.of (strings_Cut1 parts[i] 61) ?_
    by_cases hb : befC 61 parts[i] = []
    · simp -implicitDefEqProofs [hb]
      refine ACallGS.of (fun h => by simp at h) (r := .x (.one (.bool false))) rfl ?_
      simp -implicitDefEqProofs [hrl]
      refine ALoopS.of Unit (fun _ => [(1, .x (.one .nil)), (5, .x (strs parts)), (6, .own 9 1 rows), (7, .x (.one (.int .i64 i))), (11, .x (.one (.int .i64 i)))]) (fun _ => True) (fun _ => 0) () trivial ?_ ?_
      · simp [hrl]
      intro _ _
      simp -implicitDefEqProofs [hrl]
      refine ACallK.of (ref1_says_nil 6 []) ?_
      have htk : rows.take i = rows := List.take_of_length_le (by omega)
      have hdr : rows.drop i = [] := List.drop_eq_nil_of_le (by omega)
      have hii : ((i : Int) ≤ (i : Int)) = True := eq_true (by omega)
      rcases hg with hg | ⟨x, hg⟩
      · simp -implicitDefEqProofs [hrl, hlt, hlt', hm0, hm1, wi, htk, hdr, hg]
        refine ⟨by omega, by omega, Again.of (i + 1) hlt (by omega) ?_⟩
        simp [hst, wi]
      · simp -implicitDefEqProofs [hrl, hlt, hlt', hm0, hm1, wi, htk, hdr, hg]
        refine ⟨by omega, by omega, Again.of (i + 1) hlt (by omega) ?_⟩
        simp [hst, wi]
    · simp -implicitDefEqProofs [hb]
      refine ACallGS.of (fun _ => ref1_says_nil 7 _) rfl ?_
      simp -implicitDefEqProofs [hrl]
      refine ALoopS.of Unit (fun _ => [(1, .x (.one .nil)), (5, .x (strs parts)), (6, .own 9 1 rows), (7, .x (.one (.int .i64 i))), (11, .x (.one (.int .i64 i)))]) (fun _ => True) (fun _ => 0) () trivial ?_ ?_
      · simp [hrl]
      intro _ _
      simp -implicitDefEqProofs [hrl]
      refine ACallK.of (ref1_says_nil 6 []) ?_
      have htk : rows.take i = rows := List.take_of_length_le (by omega)
      have hdr : rows.drop i = [] := List.drop_eq_nil_of_le (by omega)
      have hii : ((i : Int) ≤ (i : Int)) = True := eq_true (by omega)
      rcases hg with hg | ⟨x, hg⟩
      · simp -implicitDefEqProofs [hrl, hlt, hlt', hm0, hm1, wi, htk, hdr, hg]
        refine ⟨by omega, by omega, Again.of (i + 1) hlt (by omega) ?_⟩
        simp [hst, wi]
      · simp -implicitDefEqProofs [hrl, hlt, hlt', hm0, hm1, wi, htk, hdr, hg]
        refine ⟨by omega, by omega, Again.of (i + 1) hlt (by omega) ?_⟩
        simp [hst, wi]
  · have hlt' : ((i : Int) < (parts.length : Int)) = False := eq_false (by omega)
    have hall : strRows (parts.take i) = strRows parts := by rw [List.take_of_length_le (by omega)]
    rw [hall] at hrl ⊢
    have hi0 : ¬ i = 0 := by omega
    have hi1 : ((i : Int) = 0) = False := eq_false (by omega)
    have hi2 : ((i : Int) == 0) = false := by rw [beq_eq_false_iff_ne]; omega
    have hql : 1 + q.length ≤ maxLen := by unfold maxLen; omega
    have hql2 : q.length + 1 ≤ maxLen := by unfold maxLen; omega
    simp -implicitDefEqProofs [hlt', hlt, hrl, hi0, hi1, hi2]
    refine ACallK.of hj ?_
    simp -implicitDefEqProofs [hql, hql2]
end Go.Proofs.YtklnopamfncfgaaGreatDoor
namespace Go.Proofs.YtklnopamfncfgaaGreatDoor
open Go Go.Ab
set_option linter.unusedSectionVars false
variable [Amb] [HasPow10 Tryz.prog] [HasErrSyntax Tryz.prog]
set_option maxRecDepth 100000
set_option maxHeartbeats 4000000
theorem rav_own (e z : Nat) (xs : List (List CV)) : RV.av (.own e z xs) = .own e z xs := rfl
theorem ofKitStrsO {f : FuncId} {args : List XV} (vs : List Value) (xs : List ByteArray) (t : TypeId) (hc : Callable Tryz.prog f) (ha : concs args = some vs)
    (hl : ∀ x ∈ xs, x.data.toList.length ≤ maxLen) (hn : xs.length ≤ maxLen)
    (h : ∀ w, Calls Tryz.prog f vs.toArray w fun e w' => e = .returned (.slice (some ⟨w.heap.size, 0, none⟩) xs.length xs.length) ∧ w' = w.alloc (.cells (xs.map Value.string).toArray t)) :
    ACalls Tryz.prog f args (.own t 1 (strRows (xs.map (·.data.toList)))) := by
  refine ⟨hc, fun w S us hS hargs => ?_⟩
  have e : us = vs.toArray := by
    have := concs_eq (us := us.toList) (by rw [Array.length_toList]; exact hargs.1) (fun j x hj => by simpa using hargs.2 j x hj) ha
    rw [← this]
  subst e
  refine (h w).mono ?_
  rintro e w' ⟨rfl, rfl⟩
  have hlen : (strRows (xs.map (·.data.toList))).length = xs.length := by simp [strRows]
  have hfl := flat_strs xs
  refine ⟨_, rfl, (RowKit.Below.refl _ _).alloc (Nat.le_refl _) _, ⟨xs.map Value.string, ⟨by rw [hlen]; simp, .inr ⟨w.heap.size, xs.length, (xs.map Value.string).toArray, by rw [hlen], Nat.zero_le _, ⟨(0, 0), ?_, .inl rfl⟩, by rw [hlen]; exact Nat.le_refl _, hn, by simp, by rw [hlen]; simp; exact List.take_of_length_le (by simp)⟩⟩, ⟨?_, fun j c hj => ?_⟩, fun x hx => ?_, by rw [hlen]; exact hn, fun b hb => ?_⟩, fun b hb => ?_⟩
  · show (w.heap.push _)[w.heap.size]? = _
    rw [Array.getElem?_push_size]
  · show (xs.map Value.string).length = ((xs.map (·.data.toList)).map fun x => [CV.str x]).flatten.length
    rw [hfl]; simp
  · have hj' : (xs.map fun x => CV.str x.data.toList)[j]? = some c := by rw [← hfl]; exact hj
    rw [List.getElem?_map] at hj'
    obtain ⟨x, hx, rfl⟩ := Option.map_eq_some_iff.1 hj'
    exact ⟨.string x, by rw [List.getElem?_map, hx]; rfl, RepC.str _ (hl x (List.mem_of_getElem? hx))⟩
  · obtain ⟨y, _, rfl⟩ := List.mem_map.1 hx; rfl
  · have e : w.heap.size = b := Option.some.inj hb
    subst e
    exact .inr ⟨Nat.le_refl _, by show _ < (w.heap.push _).size; rw [Array.size_push]; exact Nat.lt_succ_self _⟩
  · have e : w.heap.size = b := Option.some.inj hb
    omega
theorem strings_genSplitO (s : List UInt8) (c : UInt8) (hs : s.length ≤ 600000) : ACalls Tryz.prog 161 [.one (.str s), .one (.str [c]), .one (.int .i64 0), .one (.int .i64 (-1))] (.own 9 1 (strRows (splitC c s))) := by
  have hcount : s.count c ≤ s.length := List.count_le_length
  have hcb : Lib.countB ⟨s.toArray⟩ ⟨[c].toArray⟩ = s.count c := Lib.count_one c s
  have hsp : (Lib.splitB ⟨[c].toArray⟩ 0 (s.count c) ⟨s.toArray⟩).map (·.data.toList) = splitC c s := by
    rw [Lib.splitB_data]
    exact splitK_eq c _ _ (Nat.le_refl _)
  have hle := Lib.splitB_length_le ⟨[c].toArray⟩ 0 (s.count c) ⟨s.toArray⟩
  have hall := Lib.splitB_all ⟨[c].toArray⟩ (Nat.le_refl 1) 0 _ ⟨s.toArray⟩ hcb
  rw [← hsp]
  have hsub := splitC_len c s
  have hcall : ∀ w, Calls Tryz.prog 161 [Value.string ⟨s.toArray⟩, .string ⟨[c].toArray⟩, .int .i64 0, .int .i64 (-1)].toArray w fun e w' =>
      e = .returned (.slice (some ⟨w.heap.size, 0, none⟩) (s.count c + 1) (s.count c + 1)) ∧ w' = w.alloc (.cells ((Lib.splitB ⟨[c].toArray⟩ 0 (s.count c) ⟨s.toArray⟩).map Value.string).toArray 9) := by
    intro w
    have g := Any.strings_genSplit_core layn221 (by kernel_rfl) ⟨s.toArray⟩ ⟨[c].toArray⟩ 0 (-1) (s.count c + 1) w (by show s.toArray.size < _; simp; omega) (Nat.le_refl 1) (Nat.zero_le _)
      (fun x cs hx => (Any.strings_Index_one { layn221 with } x c _).mono fun e w' ⟨h1, h2⟩ => ⟨by rw [h1]; show _ = Ending.returned (.int .i64 (Lib.index x.data.toList [c])); rw [Lib.index_one], h2⟩)
      ((Any.strings_Count_one { layn221 with } ⟨s.toArray⟩ c w).mono fun e w' ⟨h1, h2⟩ => ⟨by rw [h1, hcb]; rfl, h2⟩)
      (by decide) (by decide) (by rw [if_pos (by decide), hcb]; show _ = min _ ((s.toArray.size : Int) + 1); simp; omega)
    rw [Nat.add_sub_cancel, hall] at g
    have e2 : Lib.cellsOf (Lib.splitB ⟨[c].toArray⟩ 0 (s.count c) ⟨s.toArray⟩) (s.count c + 1) = ((Lib.splitB ⟨[c].toArray⟩ 0 (s.count c) ⟨s.toArray⟩).map Value.string).toArray := by rw [← hall]; exact Lib.cellsOf_full _
    rw [e2] at g
    exact g
  obtain ⟨xs, ex⟩ : ∃ xs, xs = Lib.splitB ⟨[c].toArray⟩ 0 (s.count c) ⟨s.toArray⟩ := ⟨_, rfl⟩
  rw [← ex] at hsp hall hcall ⊢
  refine ofKitStrsO [.string ⟨s.toArray⟩, .string ⟨[c].toArray⟩, .int .i64 0, .int .i64 (-1)] xs 9 (callable_of Tryz.f161 (by kernel_rfl) (by kernel_rfl) rfl) rfl (fun x hx => ?_) (by rw [hall]; unfold maxLen; omega) (fun w => by rw [hall]; exact hcall w)
  have := hsub x.data.toList (by rw [← hsp]; exact List.mem_map_of_mem hx)
  unfold maxLen; omega
theorem strings_SplitO (s : List UInt8) (c : UInt8) (hs : s.length ≤ 600000) : ACalls Tryz.prog 93 [.one (.str s), .one (.str [c])] (.own 9 1 (strRows (splitC c s))) := by
  refine ACalls.of mixed (fn := Tryz.f93) (by kernel_rfl) (by kernel_rfl) rfl (by kernel_rfl) (by simp [Tryz.f93]) (fun hok => ?_)
  simp -implicitDefEqProofs
  refine ACallK.of (strings_genSplitO s c hs) ?_
  simp -implicitDefEqProofs [rav_own]
def revAt (l : List (List UInt8)) (k : Nat) : List (List UInt8) := (List.range l.length).map fun x => if x < k ∨ l.length - k ≤ x then l.getD (l.length - 1 - x) [] else l.getD x []
@[simp] theorem revAt_len (l : List (List UInt8)) (k : Nat) : (revAt l k).length = l.length := by simp [revAt]
theorem revAt_zero (l : List (List UInt8)) : revAt l 0 = l := by
  apply List.ext_getElem (by simp)
  intro i h1 h2
  simp only [revAt, List.getElem_map, List.getElem_range]
  rw [if_neg (by omega), List.getD_eq_getElem?_getD, List.getElem?_eq_getElem h2]; rfl
theorem revAt_done {l : List (List UInt8)} {k : Nat} (h : l.length ≤ 2 * k + 1) : revAt l k = l.reverse := by
  apply List.ext_getElem (by simp)
  intro i h1 h2
  have hi : i < l.length := by simpa using h2
  simp only [revAt, List.getElem_map, List.getElem_range, List.getElem_reverse]
  by_cases hk : i < k ∨ l.length - k ≤ i
  · rw [if_pos hk, List.getD_eq_getElem?_getD, List.getElem?_eq_getElem (by omega)]; rfl
  · rw [if_neg hk, List.getD_eq_getElem?_getD, List.getElem?_eq_getElem hi]
    simp only [Option.getD_some]
    congr 1; omega
theorem revAt_get {l : List (List UInt8)} {k i : Nat} (h : i < l.length) : (revAt l k)[i]'(by simpa using h) = if i < k ∨ l.length - k ≤ i then l.getD (l.length - 1 - i) [] else l.getD i [] := by simp [revAt]
theorem revAt_step {l : List (List UInt8)} {k : Nat} (h : 2 * k + 1 < l.length) : revAt l (k + 1) = ((revAt l k).set k ((revAt l k)[l.length - 1 - k]'(by simp; omega))).set (l.length - 1 - k) ((revAt l k)[k]'(by simp; omega)) := by
  have hb := revAt_get (l := l) (k := k) (i := k) (by omega)
  have ha := revAt_get (l := l) (k := k) (i := l.length - 1 - k) (by omega)
  generalize (revAt l k)[l.length - 1 - k]'(by simp; omega) = a at ha ⊢
  generalize (revAt l k)[k]'(by simp; omega) = b at hb ⊢
  rw [if_neg (by omega)] at ha hb
  apply List.ext_getElem (by simp)
  intro i h1 h2
  have hi : i < l.length := by simpa using h1
  rw [revAt_get hi, List.getElem_set, List.getElem_set, revAt_get hi]
  by_cases e1 : l.length - 1 - k = i
  · subst e1
    rw [if_pos rfl, if_pos (by omega), hb]
    congr 1; omega
  · rw [if_neg e1]
    by_cases e2 : k = i
    · subst e2
      rw [if_pos rfl, if_pos (by omega), ha]
    · rw [if_neg e2]
      by_cases hk : i < k ∨ l.length - k ≤ i
      · rw [if_pos hk, if_pos (by omega)]
      · rw [if_neg hk, if_neg (by omega)]
abbrev ownS (l : List (List UInt8)) : AV := .own 9 1 (strRows l)
theorem strRows_set (l : List (List UInt8)) (i : Nat) (x : List UInt8) : (strRows l).set i [CV.str x] = strRows (l.set i x) := by unfold strRows; rw [List.map_set]
theorem slices_Reverse (l : List (List UInt8)) (hl : l.length ≤ 16777216) : ACallsM Tryz.prog 202 [ownS l] (.tup []) [ownS l.reverse] := by
  refine ACallsM.of mixed (fn := Tryz.f202) (by kernel_rfl) (by kernel_rfl) rfl (by kernel_rfl) (by kernel_rfl) rfl (by simp [Tryz.f202]) (fun hok => ?_)
  have hrl := strRows_len l
  have w0 : IntKind.i64.wrap ((l.length : Int) - 1) = (l.length : Int) - 1 := wrapS _ (by omega)
  simp -implicitDefEqProofs [hrl, w0]
  refine ALoopS.of Nat (fun k => [(0, ownS (revAt l k)), (2, .x (.one (.int .i64 k))), (3, .x (.one (.int .i64 ((l.length : Int) - 1 - k))))]) (fun k => 2 * k ≤ l.length + 1) (fun k => l.length - k) 0 (by omega) ?_ ?_
  · simp [revAt_zero, hrl, w0]
  intro k hk
  by_cases hlt : 2 * k + 1 < l.length
  · obtain ⟨j, ej⟩ : ∃ j, j = l.length - 1 - k := ⟨_, rfl⟩
    have e1 : (l.length : Int) - 1 - (k : Int) = (j : Int) := by omega
    rw [e1]
    have hlt' : ((k : Int) < (j : Int)) = True := eq_true (by omega)
    have hkj : (k < j) = True := eq_true (by omega)
    have hkl : k < (strRows (revAt l k)).length := by rw [strRows_len]; simp; omega
    have hjl : j < (strRows (revAt l k)).length := by rw [strRows_len]; simp; omega
    have hk2 : k < l.length := by omega
    have hj2 : j < l.length := by omega
    have hat : ∀ i (h : i < l.length) h', (strRows (revAt l k))[i]'h' = [CV.str ((revAt l k)[i]'(by simpa using h))] := fun i h h' => by simp [strRows]
    have hak := hat k hk2
    have haj := hat j hj2
    have hrl2 := strRows_len (revAt l k)
    rw [revAt_len] at hrl2
    have wk : IntKind.i64.wrap ((k : Int) + 1) = (k : Int) + 1 := wrapS _ (by omega)
    have wj : IntKind.i64.wrap ((j : Int) - 1) = (j : Int) - 1 := wrapS _ (by omega)
    have hst := revAt_step hlt
    have hst2 : strRows (revAt l (k + 1)) = ((strRows (revAt l k)).set k [CV.str ((revAt l k)[j]'(by simp; omega))]).set j [CV.str ((revAt l k)[k]'(by simp; omega))] := by
      rw [hst, strRows_set, strRows_set]; subst ej; rfl
    simp -implicitDefEqProofs [hlt', hkj]
    refine AltR.l ⟨by kernel_rfl, ?_⟩
    simp -implicitDefEqProofs [hlt', hkj, hrl2, hk2, hj2, hak, haj, wk, wj]
    refine Again.of (k + 1) (by omega) (by omega) ?_
    simp [hst2, wk, wj]
    refine ⟨?_, by omega⟩
    congr 1
    rw [List.getElem_set_ne (by omega), haj]
    rfl
  · have hdone := revAt_done (l := l) (k := k) (by omega)
    rw [hdone]
    have hlt' : ((k : Int) < (l.length : Int) - 1 - (k : Int)) = False := eq_false (by omega)
    simp -implicitDefEqProofs [hlt']
end Go.Proofs.YtklnopamfncfgaaGreatDoor
