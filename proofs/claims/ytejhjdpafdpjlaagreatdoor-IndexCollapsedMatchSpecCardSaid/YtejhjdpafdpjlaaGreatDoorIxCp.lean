/- A part of the proof: lemmas and contracts of functions. -/
import Derived.Test.YtejhjdpafdpjlaaGreatDoorIxJ
import Derived.Test.YtejhjdpafdpjlaaGreatDoorIxS
namespace Go.Proofs.YtejhjdpafdpjlaaGreatDoor
open Go Go.Ab
set_option linter.unusedSectionVars false
variable [Amb]
set_option maxRecDepth 100000
set_option maxHeartbeats 4000000

theorem nubA_mem {K : List (List UInt8)} {d x : List UInt8} : x ∈ nubA K d ↔ x ∈ K ∨ x = d := by
  unfold nubA
  split
  · rename_i h
    exact ⟨Or.inl, fun o => o.elim id fun e => e ▸ h⟩
  · simp
theorem nubs_mem' : ∀ (ds K : List (List UInt8)) (x : List UInt8), x ∈ ds.foldl nubA K ↔ x ∈ K ∨ x ∈ ds
  | [], K, x => by simp
  | d :: r, K, x => by
    rw [List.foldl_cons, nubs_mem' r, nubA_mem]
    simp [or_assoc]
theorem nubs_mem {ds : List (List UInt8)} {x : List UInt8} : x ∈ nubs ds ↔ x ∈ ds := by
  unfold nubs
  rw [nubs_mem']; simp
theorem digests_step {l : List Entry} {i : Nat} (hlt : i < l.length) : digests (l.take (i + 1)) = digests (l.take i) ++ [l[i].digest] := by
  unfold digests
  rw [List.take_succ_eq_append_getElem hlt, List.map_append]; rfl
theorem nubs_len {l : List Entry} {i : Nat} (hlt : i < l.length) : (nubs (digests (l.take (i + 1)))).length = (nubs (digests (l.take i))).length + (if l[i].digest ∈ digests (l.take i) then 0 else 1) := by
  rw [digests_step hlt, nubs_snoc]
  unfold nubA
  by_cases h : l[i].digest ∈ digests (l.take i)
  · rw [if_pos h, if_pos (nubs_mem.2 h)]; rfl
  · rw [if_neg h, if_neg fun k => h (nubs_mem.1 k)]; simp
theorem dig_mem {l : List Entry} {k : Nat} (hlt : k < l.length) {d : List UInt8} : d ∈ digests (l.take (k + 1)) ↔ d ∈ digests (l.take k) ∨ l[k].digest = d := by
  rw [digests_step hlt]; simp [eq_comm]
/-- How many entries of the first key there are. -/
theorem withKey_count {e : Entry} {r : List Entry} (hs : Sorted (e :: r)) {j : Nat} (hj : j ≤ (e :: r).length) (h1 : ∀ x, (h : x < j) → ((e :: r)[x]'(by omega)).key = e.key)
    (h2 : ∀ h : j < (e :: r).length, (e :: r)[j].key ≠ e.key) : (withKey (e :: r) e.key).length = j := by
  have h := withKey_head hs
  obtain ⟨n, en⟩ : ∃ n, n = (withKey (e :: r) e.key).length := ⟨_, rfl⟩
  rw [← en] at h ⊢
  have hn : n ≤ (e :: r).length := by rw [en]; exact List.length_filter_le _ _
  have hin : ∀ x, (hx : x < n) → ((e :: r)[x]'(by omega)).key = e.key := by
    intro x hx
    have hm : (e :: r)[x]'(by omega) ∈ withKey (e :: r) e.key := by
      rw [h, List.mem_iff_getElem]
      exact ⟨x, by rw [List.length_take]; omega, by rw [List.getElem_take]⟩
    simpa [withKey] using (List.mem_filter.1 hm).2
  rcases Nat.lt_trichotomy n j with hlt | heq | hgt
  · exfalso
    have hsplit : withKey ((e :: r).take j) e.key = (e :: r).take j := by
      unfold withKey
      rw [List.filter_eq_self]
      intro x hx
      obtain ⟨i, hi, rfl⟩ := List.mem_iff_getElem.1 hx
      rw [List.length_take] at hi
      rw [List.getElem_take]
      simpa using h1 i (by omega)
    have hle : ((e :: r).take j).length ≤ (withKey (e :: r) e.key).length := by
      conv => lhs; rw [← hsplit]
      unfold withKey
      exact (List.Sublist.filter _ (List.take_sublist j (e :: r))).length_le
    rw [List.length_take, ← en] at hle
    omega
  · exact heq
  · exact absurd (hin j hgt) (h2 (by omega))

theorem ref8_different (l : List Entry) (hb : l.length ≤ 3000) : ACalls Tryz.prog 32 [entries l] (.x (.one (.int .i64 (nubs (digests l)).length))) := by
  refine ACalls.of mixed (fn := Tryz.f32) (by kernel_rfl) (by kernel_rfl) rfl (by kernel_rfl) (by simp [Tryz.f32]) (fun hok => ?_)
  simp -implicitDefEqProofs +contextual [-Bool.and_eq_false_imp, Bool.and_eq_false_iff]
  refine ALoopS.of Nat (fun i => [(0, .x (entries l)), (3, .x (.one (.int .i64 (nubs (digests (l.take i))).length))), (4, .x (.one (.int .i64 i)))]) (fun i => i ≤ l.length) (fun i => l.length - i) 0 (Nat.zero_le _) ?_ ?_
  · simp [digests, nubs]
  intro i hi
  by_cases hlt : i < l.length
  · have hwr : IntKind.i64.wrap ((i : Int) + 1) = (i : Int) + 1 := wrapS _ (by omega)
    have hst := nubs_len hlt
    obtain ⟨n, en⟩ : ∃ n, n = (nubs (digests (l.take i))).length := ⟨_, rfl⟩
    have hn : n ≤ i := by
      have := nubs_le (digests (l.take i)) []
      have hl : (digests (l.take i)).length ≤ i := by unfold digests; rw [List.length_map, List.length_take]; omega
      rw [List.length_nil, Nat.zero_add] at this
      rw [en]
      unfold nubs
      omega
    have hwn : IntKind.i64.wrap ((n : Int) + 1) = (n : Int) + 1 := wrapS _ (by omega)
    rw [← en] at hst ⊢
    simp -implicitDefEqProofs [hlt]
    refine ALoopS.of Nat (fun k => [(0, .x (entries l)), (3, .x (.one (.int .i64 n))), (4, .x (.one (.int .i64 i))), (5, .x (.one (.bool (decide (l[i].digest ∈ digests (l.take k)))))), (6, .x (.one (.int .i64 k)))]) (fun k => k ≤ i) (fun k => i - k) 0 (Nat.zero_le _) ?_ ?_
    · simp [digests]
    intro k hk
    by_cases hki : k < i
    · have hkl : k < l.length := by omega
      have hwk : IntKind.i64.wrap ((k : Int) + 1) = (k : Int) + 1 := wrapS _ (by omega)
      have hdm := dig_mem hkl (d := l[i].digest)
      have hki' : ((k : Int) < i) = True := eq_true (by omega)
      by_cases hin : l[i].digest ∈ digests (l.take k)
      · have hin' : l[i].digest ∈ digests (l.take (k + 1)) := hdm.2 (Or.inl hin)
        simp -implicitDefEqProofs [hlt, hki, hki', hkl, hin, hwk]
        exact Again.of (k + 1) hki (by omega) (by simp [hin'])
      · simp -implicitDefEqProofs [hlt, hki, hki', hkl, hin, hwk]
        refine Again.of (k + 1) hki (by omega) ?_
        by_cases he : l[k].digest = l[i].digest
        · have hin' : l[i].digest ∈ digests (l.take (k + 1)) := hdm.2 (Or.inr he)
          simp [hin', he]
        · have hin' : ¬ l[i].digest ∈ digests (l.take (k + 1)) := fun h => (hdm.1 h).elim hin he
          simp [hin', he]
    · have hkk : k = i := by omega
      subst hkk
      by_cases hin : l[k].digest ∈ digests (l.take k)
      · rw [if_pos hin, Nat.add_zero] at hst
        simp -implicitDefEqProofs [hlt, hin, hwr]
        exact Again.of (k + 1) hlt (by omega) (by simp [hst])
      · rw [if_neg hin] at hst
        simp -implicitDefEqProofs [hlt, hin, hwr, hwn]
        exact Again.of (k + 1) hlt (by omega) (by simp [hst])
  · rw [List.take_of_length_le (by omega)]
    simp -implicitDefEqProofs [hlt]
end Go.Proofs.YtejhjdpafdpjlaaGreatDoor
