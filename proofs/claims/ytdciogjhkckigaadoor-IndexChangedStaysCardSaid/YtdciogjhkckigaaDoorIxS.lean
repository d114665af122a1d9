/- A part of the proof: lemmas and contracts of functions. -/
import Derived.Test.YtdciogjhkckigaaDoorIxJ
namespace Go.Proofs.YtdciogjhkckigaaDoor
open Go Go.Ab
set_option maxRecDepth 100000
set_option maxHeartbeats 4000000

theorem withKey_head {e : Entry} {r : List Entry} (hs : Sorted (e :: r)) : withKey (e :: r) e.key = (e :: r).take (withKey (e :: r) e.key).length := by
  have h := withKey_sorted (k := e.key) hs
  have h0 : lowerB (e :: r) e.key = 0 := by
    unfold lowerB
    rw [List.takeWhile_cons_of_neg (by simp [ltB_irrefl])]
    rfl
  rw [h0, List.drop_zero] at h
  have hp : withKey (e :: r) e.key <+: (e :: r) := by rw [h]; exact List.takeWhile_prefix _
  exact List.prefix_iff_eq_take.1 hp
theorem nubs_pos {d : List UInt8} {ds : List (List UInt8)} : 1 ≤ (nubs (d :: ds)).length := by
  have grow : ∀ (ds acc : List (List UInt8)), acc.length ≤ (ds.foldl nubA acc).length := by
    intro ds
    induction ds with
    | nil => intro acc; exact Nat.le_refl _
    | cons x r ih =>
      intro acc
      refine Nat.le_trans ?_ (ih (nubA acc x))
      unfold nubA; split <;> simp
  have := grow ds (nubA [] d)
  unfold nubs
  rw [List.foldl_cons]
  have h1 : (nubA [] d).length = 1 := by simp [nubA]
  omega
/-- What is true at the head of the loop over the lives. -/
structure LivesAt (l front rest : List Entry) (out : List Life) : Prop where
  all : l = front ++ rest
  lives : livesL l = out ++ livesL rest
  sorted : Sorted rest
  few : out.length ≤ front.length
  under : ∀ (j : Nat) (v : Life), j + 1 = out.length → out[j]? = some v → ∀ x ∈ rest, ltB v.key x.key = true
theorem LivesAt.step {l front : List Entry} {out : List Life} {e : Entry} {r : List Entry} (h : LivesAt l front (e :: r) out) :
    LivesAt l (front ++ withKey (e :: r) e.key) ((e :: r).drop (withKey (e :: r) e.key).length) (out ++ [lifeOf (e :: r) e]) := by
  have hw := withKey_head h.sorted
  refine ⟨?_, ?_, h.sorted.drop, ?_, ?_⟩
  · rw [h.all, List.append_assoc]
    congr 1
    conv => lhs; rw [← List.take_append_drop (withKey (e :: r) e.key).length (e :: r)]
    rw [← hw]
  · rw [h.lives, livesL_cons, List.append_assoc]; rfl
  · have hp := withKey_pos e r
    have := h.few
    simp only [List.length_append, List.length_cons, List.length_nil]; omega
  · intro j v hj hv x hx
    have hj' : j = out.length := by simpa using hj
    subst hj'
    simp at hv
    subst hv
    have hne : x.key ≠ e.key := by
      intro he
      have hin : x ∈ withKey ((e :: r).drop (withKey (e :: r) e.key).length) e.key := List.mem_filter.2 ⟨hx, by simp [he]⟩
      have hsum : withKey (e :: r) e.key = withKey ((e :: r).take (withKey (e :: r) e.key).length) e.key ++ withKey ((e :: r).drop (withKey (e :: r) e.key).length) e.key := by
        unfold withKey
        rw [← List.filter_append, List.take_append_drop]
      have hself : withKey ((e :: r).take (withKey (e :: r) e.key).length) e.key = withKey (e :: r) e.key := by
        rw [← hw]
        unfold withKey
        rw [List.filter_filter]
        congr 1
        funext a; simp
      rw [hself] at hsum
      have := congrArg List.length hsum
      rw [List.length_append] at this
      have : (withKey ((e :: r).drop (withKey (e :: r) e.key).length) e.key).length = 0 := by omega
      rw [List.eq_nil_of_length_eq_zero this] at hin
      cases hin
    have hmem : x ∈ r := by
      have hp := withKey_pos e r
      obtain ⟨n, hn⟩ : ∃ n, (withKey (e :: r) e.key).length = n + 1 := ⟨_, (Nat.succ_pred_eq_of_pos hp).symm⟩
      rw [hn, List.drop_succ_cons] at hx
      exact List.mem_of_mem_drop hx
    have hb := (List.pairwise_cons.1 h.sorted).1 x hmem
    rcases hb with hb | ⟨hb, _⟩
    · exact hb
    · exact absurd hb.symm hne
/-- A life, and its entries. -/
theorem life_times {e : Entry} {r : List Entry} (hs : Sorted (e :: r)) {k : Nat} (hk : k < (withKey (e :: r) e.key).length) :
    ∃ x, (e :: r)[k]? = some x ∧ x.key = e.key ∧ e.time ≤ x.time ∧ x.time ≤ (((withKey (e :: r) e.key)[(withKey (e :: r) e.key).length - 1]?).map Entry.time).getD 0 := by
  have hw := withKey_head hs
  generalize hm : withKey (e :: r) e.key = m at hw hk ⊢
  have hsub : m.Sublist (e :: r) := by rw [← hm]; exact List.filter_sublist
  have hkey : ∀ x ∈ m, x.key = e.key := by
    intro x hx
    rw [← hm] at hx
    simpa using (List.mem_filter.1 hx).2
  have hst : m.Pairwise (fun a b => a.time ≤ b.time) := by
    refine List.Pairwise.imp_of_mem ?_ (hs.sublist hsub)
    intro a b ha hb hab
    rcases hab with hab | ⟨_, hab⟩
    · rw [hkey a ha, hkey b hb, ltB_irrefl] at hab; cases hab
    · omega
  have hp : 0 < m.length := by omega
  have h0 : m[0] = e := by
    have : m[0]? = some e := by rw [hw, List.getElem?_take_of_lt hp]; rfl
    rw [List.getElem?_eq_getElem hp] at this
    exact Option.some.inj this
  have hget : (e :: r)[k]? = some m[k] := by
    rw [← List.getElem?_eq_getElem hk]
    conv => rhs; rw [hw]
    rw [List.getElem?_take_of_lt hk]
  have hmono : ∀ (i j : Nat) (hi : i < m.length) (hj : j < m.length), i ≤ j → m[i].time ≤ m[j].time := by
    intro i j hi hj hij
    by_cases h : i = j
    · subst h; exact Int.le_refl _
    · exact (List.pairwise_iff_getElem.1 hst) i j hi hj (by omega)
  refine ⟨m[k], hget, hkey _ (List.getElem_mem hk), ?_, ?_⟩
  · rw [← h0]; exact hmono 0 k hp hk (Nat.zero_le _)
  · rw [List.getElem?_eq_getElem (by omega : m.length - 1 < m.length)]
    exact hmono k (m.length - 1) hk (by omega) (by omega)

theorem lawLives (l : List Entry) : ACalls Tryd.prog 3 [entries l] (.x (.one (.bool true))) := by
  refine ACalls.of mixed (fn := Tryd.f3) (by kernel_rfl) (by kernel_rfl) rfl (by kernel_rfl) (by simp [Tryd.f3]) (fun hok => ?_)
  simp -implicitDefEqProofs +contextual [-Bool.and_eq_false_imp, Bool.and_eq_false_iff]
  refine ACallK.of (index_Lives l) ?_
  by_cases h : entriesF l = 0
  · rw [if_pos h, h]
    have hs := entriesF_short h
    obtain ⟨hso, _⟩ := entriesF_sorted h
    obtain ⟨L, eL⟩ : ∃ L, L = livesL l := ⟨_, rfl⟩
    rw [← eL]
    simp -implicitDefEqProofs +contextual [-Bool.and_eq_false_imp, Bool.and_eq_false_iff]
    refine ALoopS.of (List Entry × List Entry × List Life) (fun x => [(0, .x (entries l)), (3, .x (lives L)), (5, .x (.one (.int .i64 x.1.length))), (6, .x (.one (.int .i64 x.2.2.length)))]) (fun x => LivesAt l x.1 x.2.1 x.2.2) (fun x => x.2.1.length) ([], l, []) ⟨rfl, rfl, hso, Nat.le_refl _, fun j v h => by simp at h⟩ ?_ ?_
    · simp
    rintro ⟨front, rest, out⟩ hat
    simp only at hat ⊢
    have hlen := congrArg List.length hat.all
    rw [List.length_append] at hlen
    have hL := hat.lives
    rw [← eL] at hL
    cases rest with
    | nil =>
      rw [show livesL [] = [] from rfl, List.append_nil] at hL
      rw [hL]
      rw [List.length_nil, Nat.add_zero] at hlen
      simp -implicitDefEqProofs +contextual [-Bool.and_eq_false_imp, Bool.and_eq_false_iff, hlen]
      refine ACallGS.of (fun _ => law8_awake) rfl ?_
      simp -implicitDefEqProofs +contextual [-Bool.and_eq_false_imp, Bool.and_eq_false_iff]
    | cons e r =>
      obtain ⟨m, em⟩ : ∃ m, m = withKey (e :: r) e.key := ⟨_, rfl⟩
      have hlife : lifeOf (e :: r) e = ⟨e.key, m.length, (nubs (digests m)).length, e.time, ((m[m.length - 1]?).map Entry.time).getD 0⟩ := by rw [em]; rfl
      have hstep := hat.step
      have htimes := @life_times e r hat.sorted
      rw [livesL_cons] at hL
      have hv : L[out.length]? = some (lifeOf (e :: r) e) := by rw [hL]; simp
      have hlt : out.length < L.length := (List.getElem?_eq_some_iff.1 hv).1
      have hv' : L[out.length] = lifeOf (e :: r) e := (List.getElem?_eq_some_iff.1 hv).2
      have hfew := hat.few
      rw [← em] at hstep htimes
      rw [hlife] at hstep hv hv'
      have hmle : m.length ≤ (e :: r).length := by rw [em]; exact List.length_filter_le _ _
      have hmp : 1 ≤ m.length := by rw [em]; exact withKey_pos e r
      obtain ⟨lt, elt⟩ : ∃ lt, lt = ((m[m.length - 1]?).map Entry.time).getD 0 := ⟨_, rfl⟩
      obtain ⟨nb, enb⟩ : ∃ nb, nb = (nubs (digests m)).length := ⟨_, rfl⟩
      rw [← elt] at htimes hstep hv hv'
      rw [← enb] at hstep hv hv'
      simp -implicitDefEqProofs +contextual [-Bool.and_eq_false_imp, Bool.and_eq_false_iff, hlt]
      refine ALoopS.of Nat (fun k => [(0, .x (entries l)), (3, .x (lives L)), (5, .x (.one (.int .i64 (front.length + k : Nat)))), (6, .x (.one (.int .i64 out.length))), (7, .x (.one (.int .i64 k)))]) (fun k => k ≤ m.length) (fun k => m.length - k) 0 (Nat.zero_le _) ?_ ?_
      · simp
      intro k hk
      by_cases hkm : k < m.length
      · obtain ⟨x, hx, hx1, hx2, hx3⟩ := htimes hkm
        obtain ⟨j, ej⟩ : ∃ j, j = front.length + k := ⟨_, rfl⟩
        have hlj : l[j]? = some x := by rw [hat.all, ej, List.getElem?_append_right (by omega), Nat.add_sub_cancel_left]; exact hx
        have hjl : j < l.length := (List.getElem?_eq_some_iff.1 hlj).1
        have hlj' : l[j] = x := (List.getElem?_eq_some_iff.1 hlj).2
        have hne : ((j : Int) == (l.length : Int)) = false := by simp; omega
        have hne' : ¬ j = l.length := by omega
        have w1 : IntKind.i64.wrap ((j : Int) + 1) = (j : Int) + 1 := wrapS _ (by omega)
        have w2 : IntKind.i64.wrap ((k : Int) + 1) = (k : Int) + 1 := wrapS _ (by omega)
        rw [← ej]
        have hne2 : (j == l.length) = false := by simp; omega
        have g1 : (x.time < e.time) = False := eq_false (by omega)
        have g2 : (lt < x.time) = False := eq_false (by omega)
        simp -implicitDefEqProofs [Life.row, hlt, hv', hkm, hjl, hlj', hne, hne', hne2, hx1, g1, g2]
        have hjj : j ≤ 3000 := by omega
        have w3 : IntKind.i64.wrap ((front.length : Int) + (k : Int) + 1) = (front.length : Int) + (k : Int) + 1 := wrapS _ (by omega)
        exact Again.of (k + 1) hkm (by omega) (by simp [ej, w3, w2]; omega)
      · have hnb1 : 1 ≤ nb := by
          rw [enb]
          cases m with
          | nil => simp at hmp
          | cons a b => exact nubs_pos
        have hnb2 : nb ≤ m.length := by
          have := nubs_le (digests m) []
          simp [digests] at this
          rw [enb]; exact this
        have g1 : (nb = 0) = False := eq_false (by omega)
        have g2 : (m.length < nb) = False := eq_false (by omega)
        have g3 : (m = []) = False := eq_false (by rintro rfl; simp at hmp)
        have g4 : ((m.length : Int) < 1) = False := eq_false (by omega)
        have g5 : ((nb : Int) < 1) = False := eq_false (by omega)
        obtain ⟨v0, i, ei⟩ : ∃ (v0 : Nat) (i : Nat), i = out.length := ⟨0, _, rfl⟩
        have hout := hat.under
        clear hv' hlt
        rw [← ei] at hv hfew hout ⊢
        have hlt := (List.getElem?_eq_some_iff.1 hv).1
        have hv' := (List.getElem?_eq_some_iff.1 hv).2
        have hwi : IntKind.i64.wrap ((i : Int) + 1) = (i : Int) + 1 := wrapS _ (by omega)
        by_cases h0 : i = 0
        · have g6 : (0 < i) = False := eq_false (by omega)
          have hw0 : (IntKind.i64.wrap ((i : Int) - 1)).toNat = i := by rw [wrapS _ (by omega)]; omega
          simp -implicitDefEqProofs [Life.row, hlt, hv', hkm, g1, g2, g3, g4, g5, g6, hw0]
          exact Again.of (front ++ m, (e :: r).drop m.length, out ++ [⟨e.key, m.length, nb, e.time, lt⟩]) hstep (by simp only [List.length_drop, List.length_cons]; omega) (by simp [hwi, ← ei, show k = m.length by omega])
        · have g6 : (0 < i) = True := eq_true (by omega)
          have hw : IntKind.i64.wrap ((i : Int) - 1) = ((i - 1 : Nat) : Int) := by rw [wrapS _ (by omega)]; omega
          have hi1 : i - 1 < L.length := by omega
          simp -implicitDefEqProofs [Life.row, hlt, hv', hkm, g1, g2, g3, g4, g5, g6, hw, hi1]
          have hLi : L[i - 1]? = out[i - 1]? := by rw [hL, List.getElem?_append_left (by omega)]
          rw [List.getElem?_eq_getElem hi1] at hLi
          have hu := hout (i - 1) L[i - 1] (by omega) hLi.symm e List.mem_cons_self
          refine ⟨⟨ltB_asymm hu, fun he => ?_⟩, fun _ _ => Again.of (front ++ m, (e :: r).drop m.length, out ++ [⟨e.key, m.length, nb, e.time, lt⟩]) hstep (by simp only [List.length_drop, List.length_cons]; omega) (by simp [hwi, ← ei, show k = m.length by omega])⟩
          rw [he, ltB_irrefl] at hu
          cases hu
  · rw [if_neg h]
    simp -implicitDefEqProofs +contextual [-Bool.and_eq_false_imp, Bool.and_eq_false_iff, h]
    refine ACallGS.of (fun _ => law8_awake) rfl ?_
    simp -implicitDefEqProofs +contextual [-Bool.and_eq_false_imp, Bool.and_eq_false_iff]
end Go.Proofs.YtdciogjhkckigaaDoor
