/- A part of the proof: lemmas and contracts of functions. -/
import Derived.Test.YtejhjdpafdpjlaaGreatDoorIxJ
namespace Go.Proofs.YtejhjdpafdpjlaaGreatDoor
open Go Go.Ab
set_option linter.unusedSectionVars false
variable [Amb]
set_option maxRecDepth 100000
set_option maxHeartbeats 4000000

theorem withKey_head {e : Entry} {r : List Entry} (hs : Sorted (e :: r)) : withKey (e :: r) e.key = (e :: r).take (withKey (e :: r) e.key).length := by
  have h := withKey_sorted (k := e.key) hs
  have h0 : lowerB (e :: r) e.key = 0 := by
    unfold lowerB
    rw [List.takeWhile_cons_of_neg (by simp [ltB_irrefl])]
    rfl
  rw [h0, List.drop_zero] at h
  have hp : withKey (e :: r) e.key <+: (e :: r) := by rw [h]; exact List.takeWhile_prefix _
  exact List.prefix_iff_eq_take.1 hp
theorem nubs_pos {d : List UInt8} {ds : List (List UInt8)} : 1 ≤ (nubs (d :: ds)).length := by
  have grow : ∀ (ds acc : List (List UInt8)), acc.length ≤ (ds.foldl nubA acc).length := by
    intro ds
    induction ds with
    | nil => intro acc; exact Nat.le_refl _
    | cons x r ih =>
      intro acc
      refine Nat.le_trans ?_ (ih (nubA acc x))
      unfold nubA; split <;> simp
  have := grow ds (nubA [] d)
  unfold nubs
  rw [List.foldl_cons]
  have h1 : (nubA [] d).length = 1 := by simp [nubA]
  omega
/-- What is true at the head of the loop over the lives. -/
structure LivesAt (l front rest : List Entry) (out : List Life) : Prop where
  all : l = front ++ rest
  lives : livesL l = out ++ livesL rest
  sorted : Sorted rest
  few : out.length ≤ front.length
  under : ∀ (j : Nat) (v : Life), j + 1 = out.length → out[j]? = some v → ∀ x ∈ rest, ltB v.key x.key = true
theorem LivesAt.step {l front : List Entry} {out : List Life} {e : Entry} {r : List Entry} (h : LivesAt l front (e :: r) out) :
    LivesAt l (front ++ withKey (e :: r) e.key) ((e :: r).drop (withKey (e :: r) e.key).length) (out ++ [lifeOf (e :: r) e]) := by
  have hw := withKey_head h.sorted
  refine ⟨?_, ?_, h.sorted.drop, ?_, ?_⟩
  · rw [h.all, List.append_assoc]
    congr 1
    conv => lhs; rw [← List.take_append_drop (withKey (e :: r) e.key).length (e :: r)]
    rw [← hw]
  · rw [h.lives, livesL_cons, List.append_assoc]; rfl
  · have hp := withKey_pos e r
    have := h.few
    simp only [List.length_append, List.length_cons, List.length_nil]; omega
  · intro j v hj hv x hx
    have hj' : j = out.length := by simpa using hj
    subst hj'
    simp at hv
    subst hv
    have hne : x.key ≠ e.key := by
      intro he
      have hin : x ∈ withKey ((e :: r).drop (withKey (e :: r) e.key).length) e.key := List.mem_filter.2 ⟨hx, by simp [he]⟩
      have hsum : withKey (e :: r) e.key = withKey ((e :: r).take (withKey (e :: r) e.key).length) e.key ++ withKey ((e :: r).drop (withKey (e :: r) e.key).length) e.key := by
        unfold withKey
        rw [← List.filter_append, List.take_append_drop]
      have hself : withKey ((e :: r).take (withKey (e :: r) e.key).length) e.key = withKey (e :: r) e.key := by
        rw [← hw]
        unfold withKey
        rw [List.filter_filter]
        congr 1
        funext a; simp
      rw [hself] at hsum
      have := congrArg List.length hsum
      rw [List.length_append] at this
      have : (withKey ((e :: r).drop (withKey (e :: r) e.key).length) e.key).length = 0 := by omega
      rw [List.eq_nil_of_length_eq_zero this] at hin
      cases hin
    have hmem : x ∈ r := by
      have hp := withKey_pos e r
      obtain ⟨n, hn⟩ : ∃ n, (withKey (e :: r) e.key).length = n + 1 := ⟨_, (Nat.succ_pred_eq_of_pos hp).symm⟩
      rw [hn, List.drop_succ_cons] at hx
      exact List.mem_of_mem_drop hx
    have hb := (List.pairwise_cons.1 h.sorted).1 x hmem
    rcases hb with hb | ⟨hb, _⟩
    · exact hb
    · exact absurd hb.symm hne
/-- A life, and its entries. -/
theorem life_times {e : Entry} {r : List Entry} (hs : Sorted (e :: r)) {k : Nat} (hk : k < (withKey (e :: r) e.key).length) :
    ∃ x, (e :: r)[k]? = some x ∧ x.key = e.key ∧ e.time ≤ x.time ∧ x.time ≤ (((withKey (e :: r) e.key)[(withKey (e :: r) e.key).length - 1]?).map Entry.time).getD 0 := by
  have hw := withKey_head hs
  generalize hm : withKey (e :: r) e.key = m at hw hk ⊢
  have hsub : m.Sublist (e :: r) := by rw [← hm]; exact List.filter_sublist
  have hkey : ∀ x ∈ m, x.key = e.key := by
    intro x hx
    rw [← hm] at hx
    simpa using (List.mem_filter.1 hx).2
  have hst : m.Pairwise (fun a b => a.time ≤ b.time) := by
    refine List.Pairwise.imp_of_mem ?_ (hs.sublist hsub)
    intro a b ha hb hab
    rcases hab with hab | ⟨_, hab⟩
    · rw [hkey a ha, hkey b hb, ltB_irrefl] at hab; cases hab
    · omega
  have hp : 0 < m.length := by omega
  have h0 : m[0] = e := by
    have : m[0]? = some e := by rw [hw, List.getElem?_take_of_lt hp]; rfl
    rw [List.getElem?_eq_getElem hp] at this
    exact Option.some.inj this
  have hget : (e :: r)[k]? = some m[k] := by
    rw [← List.getElem?_eq_getElem hk]
    conv => rhs; rw [hw]
    rw [List.getElem?_take_of_lt hk]
  have hmono : ∀ (i j : Nat) (hi : i < m.length) (hj : j < m.length), i ≤ j → m[i].time ≤ m[j].time := by
    intro i j hi hj hij
    by_cases h : i = j
    · subst h; exact Int.le_refl _
    · exact (List.pairwise_iff_getElem.1 hst) i j hi hj (by omega)
  refine ⟨m[k], hget, hkey _ (List.getElem_mem hk), ?_, ?_⟩
  · rw [← h0]; exact hmono 0 k hp hk (Nat.zero_le _)
  · rw [List.getElem?_eq_getElem (by omega : m.length - 1 < m.length)]
    exact hmono k (m.length - 1) hk (by omega) (by omega)

end Go.Proofs.YtejhjdpafdpjlaaGreatDoor
