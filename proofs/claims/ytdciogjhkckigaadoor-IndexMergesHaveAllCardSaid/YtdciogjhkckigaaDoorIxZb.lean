/- A part of the proof: lemmas and contracts of functions. -/
import Derived.Test.YtdciogjhkckigaaDoorIxZF
import Derived.Test.YtdciogjhkckigaaDoorIxJ
namespace Go.Proofs.YtdciogjhkckigaaDoor
open Go Go.Ab
set_option linter.unusedSectionVars false
set_option linter.unusedVariables false
variable [Amb]
set_option maxRecDepth 100000
set_option maxHeartbeats 8000000

/-- Blocks of bs, each sorted, up to lim. -/
def BlkP (m : List Entry) (bs lim : Nat) : Prop := ∀ k, SortedG m (k * bs) (min ((k + 1) * bs) lim)
def BlkF (m : List Entry) (bs a n : Nat) : Prop := ∀ k, a ≤ k * bs → SortedG m (k * bs) (min ((k + 1) * bs) n)
theorem SortAt.before {l m : List Entry} {a b c d : Nat} (h : SortAt l a b m) (hd : d ≤ a) (hs : SortedG l c d) : SortedG m c d := fun i j h1 h2 h3 => by
  rw [gE_same (h.out i (.inl (by omega))), gE_same (h.out j (.inl (by omega)))]; exact hs i j h1 h2 h3
theorem BlkP.zero (l : List Entry) (bs : Nat) : BlkP l bs 0 := fun k i j h1 h2 h3 => by omega
theorem BlkP.step {l m : List Entry} {bs q b n : Nat} (hb : b ≤ l.length) (h : BlkP l bs (q * bs)) (hs : SortAt l (q * bs) b m) (hqb : q * bs ≤ b) (hbq : b ≤ (q + 1) * bs) : BlkP m bs b := by
  intro k
  rcases Nat.lt_trichotomy k q with hk | rfl | hk
  · have h1 : (k + 1) * bs ≤ q * bs := Nat.mul_le_mul_right _ hk
    rw [show min ((k + 1) * bs) b = min ((k + 1) * bs) (q * bs) by omega]
    exact hs.before (by omega) (h k)
  · rw [show min ((k + 1) * bs) b = b by omega]
    exact hs.g hb
  · have h1 : (q + 1) * bs ≤ k * bs := Nat.mul_le_mul_right _ hk
    intro i j h2 h3 h4; omega
theorem BlkF.step {l m : List Entry} {bs a b n : Nat} (h : BlkF l bs a n) (hs : SortAt l a b m) (hab : a ≤ b) : BlkF m bs b n := fun k hk => hs.keep hk (h k (by omega))
theorem BlkP.from {l : List Entry} {bs n : Nat} (h : BlkP l bs n) : BlkF l bs 0 n := fun k _ => h k
theorem BlkF.two {l : List Entry} {bs q n : Nat} (h : BlkF l bs (q * (2 * bs)) n) : SortedG l (q * (2 * bs)) (min (q * (2 * bs) + bs) n) ∧ SortedG l (q * (2 * bs) + bs) (min (q * (2 * bs) + 2 * bs) n) := by
  have e1 : 2 * q * bs = q * (2 * bs) := by rw [Nat.mul_comm 2 q, Nat.mul_assoc]
  have e2 : (2 * q + 1) * bs = q * (2 * bs) + bs := by rw [Nat.add_mul, e1, Nat.one_mul]
  have e3 : (2 * q + 1 + 1) * bs = q * (2 * bs) + 2 * bs := by rw [Nat.add_mul, e2, Nat.one_mul]; omega
  have h1 := h (2 * q) (by omega)
  have h2 := h (2 * q + 1) (by omega)
  rw [e1, e2] at h1
  rw [e2, e3] at h2
  exact ⟨h1, h2⟩

structure StabAt (l m : List Entry) : Prop where
  perm : m.Perm l
  len : m.length = l.length
  srt : SortedG m 0 l.length
theorem slices_stable (l : List Entry) (hl : l.length ≤ 16777216) :
    ∃ l', StabAt l l' ∧ ACallsM Tryd.prog 78 [ownE l, .x (.one (.int .i64 l.length)), .x (.one cmpV)] (.tup []) [ownE l', .dead, .dead] := by
  refine ACallsM.ofE (StabAt l) (fun _ => .tup []) (fun l' => [ownE l', .dead, .dead]) mixed (fn := Tryd.f78) (by kernel_rfl) (by kernel_rfl) rfl (by kernel_rfl) 1 (fun _ => rfl) (by kernel_rfl) (fun _ => rfl) (by simp [Tryd.f78]) ?_
  obtain ⟨n, en⟩ : ∃ n, n = l.length := ⟨_, rfl⟩
  rw [← en]
  simp -implicitDefEqProofs
  refine ALoopS.of (Nat × List Entry) (fun x => [(0, ownE x.2), (1, .x (.one (.int .i64 n))), (2, .x (.one cmpV)), (6, .x (.one (.int .i64 20))), (7, .x (.one (.int .i64 (x.1 * 20 : Nat)))), (8, .x (.one (.int .i64 (x.1 * 20 + 20 : Nat))))]) (fun x => x.1 * 20 ≤ n ∧ x.2.Perm l ∧ x.2.length = n ∧ BlkP x.2 20 (x.1 * 20)) (fun x => n + 1 - x.1 * 20) (0, l) ⟨by dsimp only; omega, .refl _, en.symm, by dsimp only; rw [Nat.zero_mul]; exact .zero _ _⟩ ?_ ?_
  · simp
  rintro ⟨q, m⟩ ⟨h1, h2, h3, h4⟩
  dsimp only at h1 h2 h3 h4 ⊢
  obtain ⟨a, ea⟩ : ∃ a, a = q * 20 := ⟨_, rfl⟩
  obtain ⟨b, eb⟩ : ∃ b, b = a + 20 := ⟨_, rfl⟩
  rw [← ea] at h1 h4 ⊢
  rw [← eb]
  by_cases hbn : b ≤ n
  · have w1 : IntKind.i64.wrap ((b : Int) + 20) = (b + 20 : Nat) := by rw [wrap_id (by omega)]; omega
    simp -implicitDefEqProofs [hbn]
    refine ACallK.lend ?_
    obtain ⟨m', hm', hc⟩ := slices_insertionSort m a b (by omega) (by omega) (by omega)
    simp -implicitDefEqProofs
    refine ACallM.of hc ?_
    simp -implicitDefEqProofs [w1]
    refine Again.of (q + 1, m') ⟨by dsimp only; omega, hm'.perm.trans h2, by dsimp only; rw [hm'.len]; exact h3, ?_⟩ (by dsimp only; omega) ?_
    · dsimp only
      rw [show (q + 1) * 20 = b by omega]
      exact BlkP.step (q := q) (n := n) (by omega) (ea ▸ h4) (ea ▸ hm') (by omega) (by omega)
    · simp
      omega
  · simp -implicitDefEqProofs [hbn]
    refine ACallK.lend ?_
    obtain ⟨m', hm', hc⟩ := slices_insertionSort m a n (by omega) (by omega) (by omega)
    simp -implicitDefEqProofs
    refine ACallM.of hc ?_
    simp -implicitDefEqProofs
    have hP : BlkP m' 20 n := BlkP.step (q := q) (n := n) (by omega) (ea ▸ h4) (ea ▸ hm') (by omega) (by omega)
    have hp := hm'.perm.trans h2
    have hlen := hm'.len
    clear hm' hc
    refine ALoopS.of (Nat × List Entry) (fun x => [(0, ownE x.2), (1, .x (.one (.int .i64 n))), (2, .x (.one cmpV)), (6, .x (.one (.int .i64 x.1)))]) (fun x => 0 < x.1 ∧ x.1 ≤ 33554432 ∧ x.2.Perm l ∧ x.2.length = n ∧ BlkP x.2 x.1 n) (fun x => n - x.1) (20, m') ⟨by dsimp only; omega, by dsimp only; omega, hp, by dsimp only; omega, hP⟩ ?_ ?_
    · simp
    clear hP hp hlen h1 h2 h3 h4 ea eb hbn a b q m m'
    rintro ⟨bs, m⟩ ⟨h1, h1', h2, h3, h4⟩
    dsimp only at h1 h1' h2 h3 h4 ⊢
    by_cases hbs : bs < n
    · obtain ⟨b2, eb2⟩ : ∃ x, x = 2 * bs := ⟨_, rfl⟩
      have w2 : IntKind.i64.wrap (2 * (bs : Int)) = (b2 : Nat) := by rw [wrap_id (by omega)]; omega
      have w3 : IntKind.i64.wrap ((bs : Int) * 2) = (b2 : Nat) := by rw [wrap_id (by omega)]; omega
      simp -implicitDefEqProofs [hbs, w2]
      refine ALoopS.of (Nat × Nat × List Entry) (fun x => [(0, ownE x.2.2), (1, .x (.one (.int .i64 n))), (2, .x (.one cmpV)), (6, .x (.one (.int .i64 bs))), (7, .x (.one (.int .i64 x.2.1))), (8, .x (.one (.int .i64 (x.2.1 + b2 : Nat))))]) (fun x => x.2.1 = x.1 * b2 ∧ x.2.1 ≤ n ∧ x.2.2.Perm l ∧ x.2.2.length = n ∧ BlkP x.2.2 b2 x.2.1 ∧ BlkF x.2.2 bs x.2.1 n) (fun x => n - x.2.1) (0, 0, m) ⟨by dsimp only; omega, by dsimp only; omega, h2, h3, .zero _ _, h4.from⟩ ?_ ?_
      · simp
      rintro ⟨q, a, c⟩ ⟨k0, k1, k2, k3, k4, k5⟩
      dsimp only at k0 k1 k2 k3 k4 k5 ⊢
      have k5' : BlkF c bs (q * (2 * bs)) n := by rw [← eb2, ← k0]; exact k5
      have htwo := k5'.two
      rw [← eb2, ← k0] at htwo
      have hstep : (q + 1) * b2 = a + b2 := by rw [Nat.add_mul, Nat.one_mul, k0]
      obtain ⟨d, ed⟩ : ∃ x, x = a + bs := ⟨_, rfl⟩
      obtain ⟨b, eb⟩ : ∃ x, x = a + b2 := ⟨_, rfl⟩
      rw [← eb]
      rw [← ed, ← eb] at htwo
      have w4 : IntKind.i64.wrap ((a : Int) + bs) = (d : Nat) := by rw [wrap_id (by omega)]; omega
      by_cases hbn : b ≤ n
      · obtain ⟨c', hc', hcall⟩ := sym_all c.length c a d b (by omega) (by omega) (by omega) (by omega) (by omega) (by rw [show min d n = d by omega] at htwo; exact htwo.1) (by rw [show min b n = b by omega] at htwo; exact htwo.2)
        have w5 : IntKind.i64.wrap ((b : Int) + b2) = (b + b2 : Nat) := by rw [wrap_id (by omega)]; omega
        simp -implicitDefEqProofs [hbn, w4]
        refine ACallK.lend ?_
        simp -implicitDefEqProofs
        refine ACallM.of hcall ?_
        simp -implicitDefEqProofs [w2, w5]
        refine Again.of (q + 1, b, c') ⟨by dsimp only; omega, hbn, hc'.perm.trans k2, by dsimp only; rw [hc'.len]; exact k3, ?_, by dsimp only; exact k5.step hc' (by omega)⟩ (by dsimp only; omega) ?_
        · dsimp only
          exact BlkP.step (q := q) (n := n) (by omega) (k0 ▸ k4) (k0 ▸ hc') (by omega) (by omega)
        · simp
          try omega
      · by_cases hdn : d < n
        · obtain ⟨c', hc', hcall⟩ := sym_all c.length c a d n (by omega) (by omega) (by omega) (by omega) (by omega) (by rw [show min d n = d by omega] at htwo; exact htwo.1) (by rw [show min b n = n by omega] at htwo; exact htwo.2)
          simp -implicitDefEqProofs [hbn, w4, hdn]
          refine ACallK.lend ?_
          simp -implicitDefEqProofs
          refine ACallM.of hcall ?_
          simp -implicitDefEqProofs [w3]
          refine Again.of (b2, c') ⟨by dsimp only; omega, by dsimp only; omega, hc'.perm.trans k2, by dsimp only; rw [hc'.len]; exact k3, by dsimp only; exact BlkP.step (q := q) (n := n) (by omega) (k0 ▸ k4) (k0 ▸ hc') (by omega) (by omega)⟩ (by dsimp only; omega) ?_
          simp
        · simp -implicitDefEqProofs [hbn, w4, hdn, w3]
          refine Again.of (b2, c) ⟨by dsimp only; omega, by dsimp only; omega, k2, k3, by dsimp only; exact BlkP.step (q := q) (n := n) (by omega) (k0 ▸ k4) (k0 ▸ SortAt.same (b := n) (by rw [show min d n = n by omega] at htwo; exact htwo.1)) (by omega) (by omega)⟩ (by dsimp only; omega) ?_
          simp
    · simp -implicitDefEqProofs [hbs]
      refine EndE.of m ⟨h2, by omega, ?_⟩ (by simp)
      have := h4 0
      rw [Nat.zero_mul, show min ((0 + 1) * bs) n = n by omega, en] at this
      exact this

theorem slices_SortStableFunc (l : List Entry) (hl : l.length ≤ 16777216) :
    ∃ l', StabAt l l' ∧ ACallsM Tryd.prog 59 [ownE l, .x (.one cmpV)] (.tup []) [ownE l', .dead] := by
  refine ACallsM.ofE (StabAt l) (fun _ => .tup []) (fun l' => [ownE l', .dead]) mixed (fn := Tryd.f59) (by kernel_rfl) (by kernel_rfl) rfl (by kernel_rfl) 1 (fun _ => rfl) (by kernel_rfl) (fun _ => rfl) (by simp [Tryd.f59]) ?_
  obtain ⟨l', h1, hc⟩ := slices_stable l hl
  simp -implicitDefEqProofs
  refine ACallK.lend ?_
  simp -implicitDefEqProofs
  refine ACallM.of hc ?_
  simp -implicitDefEqProofs
  exact EndE.of l' h1 (by simp)
end Go.Proofs.YtdciogjhkckigaaDoor

namespace Go.Proofs.YtdciogjhkckigaaDoor
open Go Go.Ab
set_option linter.unusedSectionVars false
set_option linter.unusedVariables false
variable [Amb]
set_option maxRecDepth 100000
set_option maxHeartbeats 8000000

@[simp] theorem rav_own (e z : Nat) (xs : List (List CV)) : RV.av (.own e z xs) = .own e z xs := rfl
theorem slices_Grow (k : Nat) (hk : k ≤ 16777216) : ACalls Tryd.prog 77 [.one .nil, .one (.int .i64 k)] (.own 33 9 []) := by
  refine ACalls.of mixed (fn := Tryd.f77) (by kernel_rfl) (by kernel_rfl) rfl (by kernel_rfl) (by simp [Tryd.f77]) (fun hok => ?_)
  have w0 : IntKind.i64.wrap 0 = 0 := by decide
  have w1 : IntKind.i64.wrap (k : Int) = k := wrap_id (by omega)
  have hn : ((k : Int) < 0) = False := eq_false (by omega)
  by_cases h : 0 < k
  · simp -implicitDefEqProofs [w0, w1, h, hn]
    exact ⟨by omega, by unfold maxLen; omega⟩
  · have : k = 0 := by omega
    subst this
    simp -implicitDefEqProofs [w0, w1]

def listC (l : List Entry) : List CV := [.list 9 (rowsL l)]
abbrev listsV (ls : List (List Entry)) : XV := .one (.list 1 (ls.map listC))
def sumL (ls : List (List Entry)) : Nat := (ls.map List.length).sum
theorem sumL_take_succ {ls : List (List Entry)} {i : Nat} (h : i < ls.length) : sumL (ls.take (i + 1)) = sumL (ls.take i) + ls[i].length := by
  unfold sumL
  rw [List.take_succ_eq_append_getElem h, List.map_append, List.sum_append]
  simp only [List.map_cons, List.map_nil, List.sum_cons, List.sum_nil, Nat.add_zero]
theorem sumL_take_le (ls : List (List Entry)) (i : Nat) : sumL (ls.take i) ≤ sumL ls := by
  have : sumL ls = sumL (ls.take i) + sumL (ls.drop i) := by
    unfold sumL
    conv => lhs; rw [← List.take_append_drop i ls]
    rw [List.map_append, List.sum_append]
  omega
theorem sumL_flatten (ls : List (List Entry)) : ls.flatten.length = sumL ls := by simp [sumL, List.length_flatten]

theorem slices_Concat (ls : List (List Entry)) (hs : sumL ls ≤ 16777216) (hl : ls.length ≤ 16777216) : ACalls Tryd.prog 58 [listsV ls] (.own 33 9 (rowsL ls.flatten)) := by
  refine ACalls.of mixed (fn := Tryd.f58) (by kernel_rfl) (by kernel_rfl) rfl (by kernel_rfl) (by simp [Tryd.f58]) (fun hok => ?_)
  have w0 : IntKind.i64.wrap 0 = 0 := by decide
  simp -implicitDefEqProofs
  refine ALoopS.of Nat (fun i => [(0, .x (listsV ls)), (3, .x (.one (.int .i64 (sumL (ls.take i) : Nat)))), (9, .x (listsV ls)), (10, .x (.one (.int .i64 ls.length))), (11, .x (.one (.int .i64 i)))]) (fun i => i ≤ ls.length) (fun i => ls.length - i) 0 (Nat.zero_le _) ?_ ?_
  · simp [sumL]
  intro i hi
  by_cases hlt : i < ls.length
  · have hsum := sumL_take_succ hlt
    have hle := sumL_take_le ls (i + 1)
    obtain ⟨z, ez⟩ : ∃ z, z = sumL (ls.take (i + 1)) := ⟨_, rfl⟩
    have w1 : IntKind.i64.wrap ((sumL (ls.take i) : Nat) + (ls[i].length : Int)) = (z : Nat) := by rw [wrap_id (by omega)]; omega
    have w2 : IntKind.i64.wrap ((i : Int) + 1) = (i + 1 : Nat) := by rw [wrap_id (by omega)]; omega
    have hn : ((z : Int) < 0) = False := eq_false (by omega)
    simp -implicitDefEqProofs [hlt, listC, w1, w2, hn]
    refine Again.of (i + 1) (by omega) (by omega) ?_
    simp [ez]
  · simp -implicitDefEqProofs [hlt]
    have hi' : i = ls.length := by omega
    subst hi'
    rw [List.take_length]
    refine ACallK.of (slices_Grow _ hs) ?_
    simp -implicitDefEqProofs
    refine ALoopS.of Nat (fun i => [(6, .own 33 9 (rowsL (ls.take i).flatten)), (25, .x (listsV ls)), (26, .x (.one (.int .i64 ls.length))), (27, .x (.one (.int .i64 i)))]) (fun i => i ≤ ls.length) (fun i => ls.length - i) 0 (Nat.zero_le _) ?_ ?_
    · simp
    intro i hi
    by_cases hlt : i < ls.length
    · have hsum := sumL_take_succ hlt
      have hle := sumL_take_le ls (i + 1)
      have hf := sumL_flatten (ls.take i)
      have w2 : IntKind.i64.wrap ((i : Int) + 1) = (i + 1 : Nat) := by rw [wrap_id (by omega)]; omega
      have h1 : ((ls.take i).flatten.length + ls[i].length) * 104 ≤ 140737488355328 := by omega
      have h2 : (ls.take i).flatten.length + ls[i].length ≤ maxLen := by unfold maxLen; omega
      simp -implicitDefEqProofs [hlt, listC, w2]
      have e : (List.take i (List.map (List.length ∘ List.map Entry.row) ls)).sum = sumL (ls.take i) := by
        unfold sumL
        rw [List.map_take]
        congr 2
        exact List.map_congr_left (fun x _ => by simp)
      rw [e]
      refine ⟨⟨by omega, by omega⟩, Again.of (i + 1) (by omega) (by omega) ?_⟩
      simp
      rw [List.take_succ_eq_append_getElem (by simpa using hlt)]
      simp
    · have hi' : i = ls.length := by omega
      subst hi'
      simp -implicitDefEqProofs [hlt]
end Go.Proofs.YtdciogjhkckigaaDoor

namespace Go.Proofs.YtdciogjhkckigaaDoor
open Go Go.Ab
set_option linter.unusedSectionVars false
set_option linter.unusedVariables false
variable [Amb]
set_option maxRecDepth 100000
set_option maxHeartbeats 8000000

/-- Of those alike beside each other: one. -/
def addC (w : List Entry) (x : Entry) : List Entry := if w.getLast? = some x then w else w ++ [x]
def compL (l : List Entry) : List Entry := l.foldl addC []
theorem compL_snoc (w : List Entry) (x : Entry) : compL (w ++ [x]) = addC (compL w) x := by simp [compL]
theorem compL_last : ∀ (w : List Entry) (x : Entry), (compL (w ++ [x])).getLast? = some x := by
  intro w x
  rw [compL_snoc]
  unfold addC
  split
  · assumption
  · simp
theorem compL_add (w : List Entry) (x y : Entry) : compL (w ++ [y] ++ [x]) = if x = y then compL (w ++ [y]) else compL (w ++ [y]) ++ [x] := by
  rw [compL_snoc (w ++ [y]) x]
  unfold addC
  rw [compL_last]
  by_cases h : x = y
  · subst h; simp
  · rw [if_neg (by intro h'; injection h' with h'; exact h h'.symm), if_neg h]
theorem compL_at {l : List Entry} {i : Nat} (h0 : 0 < i) (h : i < l.length) : compL (l.take (i + 1)) = if gE l i = gE l (i - 1) then compL (l.take i) else compL (l.take i) ++ [gE l i] := by
  have e1 : l.take (i + 1) = l.take (i - 1) ++ [gE l (i - 1)] ++ [gE l i] := by
    rw [List.take_succ_eq_append_getElem h, gE_get h]
    congr 1
    have : i - 1 < l.length := by omega
    conv => lhs; rw [show i = i - 1 + 1 by omega]
    rw [List.take_succ_eq_append_getElem this, gE_get this]
  have e2 : l.take i = l.take (i - 1) ++ [gE l (i - 1)] := by
    have : i - 1 < l.length := by omega
    conv => lhs; rw [show i = i - 1 + 1 by omega]
    rw [List.take_succ_eq_append_getElem this, gE_get this]
  rw [e1, compL_add, ← e2]
theorem compL_le (l : List Entry) : (compL l).length ≤ l.length := by
  have : ∀ (l acc : List Entry), (l.foldl addC acc).length ≤ acc.length + l.length := by
    intro l
    induction l with
    | nil => intro acc; simp
    | cons x l ih =>
      intro acc
      refine Nat.le_trans (ih _) ?_
      unfold addC
      split <;> simp <;> omega
  have := this l []
  simpa [compL] using this

/-- Where Compact's inner loop has come to. -/
structure CompAt (l : List Entry) (i0 k i : Nat) (m : List Entry) : Prop where
  len : m.length = l.length
  k1 : 1 ≤ k
  ki : i + 1 ≤ i0 + k
  kl : i0 + k ≤ l.length
  i0i : i0 ≤ i
  comp : compL (l.take (i0 + k)) = m.take i
  rest : ∀ p, i0 + k ≤ p + 1 → m[p]? = l[p]?
theorem CompAt.zero {l : List Entry} {i : Nat} (h0 : 0 < i) (h : i < l.length) (hc : compL (l.take i) = l.take i) (he : gE l i = gE l (i - 1)) : CompAt l i 1 i l :=
  ⟨rfl, Nat.le_refl _, Nat.le_refl _, h, Nat.le_refl _, by rw [compL_at h0 h, if_pos he, hc], fun _ _ => rfl⟩
theorem CompAt.skip {l m : List Entry} {i0 k i : Nat} (h : CompAt l i0 k i m) (hk : i0 + k < l.length) (he : gE m (i0 + k) = gE m (i0 + k - 1)) : CompAt l i0 (k + 1) i m := by
  have h1 := h.k1; have h2 := h.ki
  refine ⟨h.len, by omega, by omega, by omega, h.i0i, ?_, fun p hp => h.rest p (by omega)⟩
  rw [show i0 + (k + 1) = i0 + k + 1 by omega, compL_at (by omega) hk, if_pos (by rw [← gE_of (h.rest (i0 + k) (by omega)), ← gE_of (h.rest (i0 + k - 1) (by omega))]; exact he), h.comp]
theorem CompAt.keep {l m : List Entry} {i0 k i : Nat} (h : CompAt l i0 k i m) (hk : i0 + k < l.length) (he : ¬ gE m (i0 + k) = gE m (i0 + k - 1)) : CompAt l i0 (k + 1) (i + 1) (m.set i (gE m (i0 + k))) := by
  have h1 := h.k1; have h2 := h.ki; have h3 := h.len
  refine ⟨by simp [h3], by omega, by omega, by omega, by have := h.i0i; omega, ?_, fun p hp => ?_⟩
  · rw [show i0 + (k + 1) = i0 + k + 1 by omega, compL_at (by omega) hk, if_neg (by rw [← gE_of (h.rest (i0 + k) (by omega)), ← gE_of (h.rest (i0 + k - 1) (by omega))]; exact he), h.comp, ← gE_of (h.rest (i0 + k) (by omega))]
    rw [List.take_succ_eq_append_getElem (by simp; omega), List.take_set_of_le (Nat.le_refl _)]
    simp
  · rw [List.getElem?_set, if_neg (by omega)]
    exact h.rest p (by omega)

theorem slices_Compact (l : List Entry) (hl : l.length ≤ 16777216) : ACallsM Tryd.prog 60 [ownE l] (.own 33 9 (rowsL (compL l))) [.dead] := by
  refine ACallsM.of mixed (fn := Tryd.f60) (by kernel_rfl) (by kernel_rfl) rfl (by kernel_rfl) (by kernel_rfl) rfl (by simp [Tryd.f60]) (fun _ => ?_)
  by_cases hs : l.length < 2
  · have : compL l = l := by
      match l, hs with
      | [], _ => rfl
      | [x], _ => simp [compL, addC]
      | x :: y :: r, h => simp at h; omega
    have hs' : (l.length : Int) < 2 := by omega
    simp -implicitDefEqProofs [hs', this]
  · have hs' : ¬ (l.length : Int) < 2 := by omega
    simp -implicitDefEqProofs [hs']
    refine ALoopS.of Nat (fun i => [(0, ownE l), (3, .x (.one (.int .i64 i)))]) (fun i => 1 ≤ i ∧ i ≤ l.length ∧ compL (l.take i) = l.take i) (fun i => l.length - i) 1 ⟨Nat.le_refl _, by omega, ?_⟩ ?_ ?_
    · have : 0 < l.length := by omega
      rw [List.take_succ_eq_append_getElem this]
      simp [compL, addC]
    · simp
    rintro i ⟨h1, h2, h3⟩
    have w1 : IntKind.i64.wrap ((i : Int) + 1) = (i + 1 : Nat) := by rw [wrap_id (by omega)]; omega
    by_cases hlt : i < l.length
    · obtain ⟨j, ej⟩ : ∃ j, j = i - 1 := ⟨_, rfl⟩
      have w2 : IntKind.i64.wrap ((i : Int) - 1) = (j : Nat) := by rw [wrap_id (by omega)]; omega
      have hj : j < l.length := by omega
      by_cases he : l[i] = l[j]
      · simp -implicitDefEqProofs [hlt, w2, hj, he]
        refine ⟨h2, ?_⟩
        obtain ⟨d, ed⟩ : ∃ d, d = l.length - i := ⟨_, rfl⟩
        refine ALoopS.of (Nat × Nat × List Entry) (fun x => [(0, ownE x.2.2), (3, .x (.one (.int .i64 x.2.1))), (4, .view 0 i d false), (5, .x (.one (.int .i64 x.1)))]) (fun x => CompAt l i x.1 x.2.1 x.2.2) (fun x => l.length - x.1) (1, i, l) (.zero (by omega) hlt h3 (by rw [← ej, ← gE_get hlt, ← gE_get hj]; exact he)) ?_ ?_
        · simp
          exact ed.symm
        rintro ⟨k, c, m⟩ hc
        dsimp only at hc ⊢
        have hlen := hc.len; have k1 := hc.k1; have k2 := hc.ki; have k3 := hc.kl; have k4 := hc.i0i
        by_cases hk : k < d
        · obtain ⟨k', ek⟩ : ∃ j, j = k - 1 := ⟨_, rfl⟩
          have w3 : IntKind.i64.wrap ((k : Int) - 1) = (k' : Nat) := by rw [wrap_id (by omega)]; omega
          have w4 : IntKind.i64.wrap ((k : Int) + 1) = (k + 1 : Nat) := by rw [wrap_id (by omega)]; omega
          have w5 : IntKind.i64.wrap ((c : Int) + 1) = (c + 1 : Nat) := by rw [wrap_id (by omega)]; omega
          have hik : i + k < m.length := by omega
          have hik' : i + k' < m.length := by omega
          have hk' : k' < d := by omega
          have hcm : c < m.length := by omega
          by_cases hm : m[i + k] = m[i + k']
          · simp -implicitDefEqProofs [hk, w3, w4, hik, hik', hk', hm]
            refine Again.of (k + 1, c, m) (hc.skip (by omega) (by rw [← gE_get hik, hm, gE_get hik']; congr 1; omega)) (by dsimp only; omega) ?_
            simp
          · simp -implicitDefEqProofs [hk, w3, w4, w5, hik, hik', hk', hm, hcm]
            refine Again.of (k + 1, c + 1, m.set c (gE m (i + k))) (hc.keep (by omega) (by rw [← gE_get hik, show i + k - 1 = i + k' by omega, ← gE_get hik']; exact hm)) (by dsimp only; omega) ?_
            simp
            rw [← gE_get hik]
            exact ⟨rfl, rfl⟩
        · have hkd : k = d := by omega
          simp -implicitDefEqProofs [hk]
          refine ⟨by omega, by omega, ?_⟩
          have hcomp := hc.comp
          rw [show i + k = l.length by omega, List.take_length] at hcomp
          rw [hcomp, List.take_append_of_le_length (by simp; omega), List.take_take, Nat.min_self]
          simp [rowsL]
      · simp -implicitDefEqProofs [hlt, w2, hj, he, w1]
        refine Again.of (i + 1) ⟨by omega, by omega, ?_⟩ (by omega) ?_
        · rw [compL_at (by omega) hlt, if_neg (by rw [← ej, ← gE_get hlt, ← gE_get hj]; exact he), h3, List.take_succ_eq_append_getElem hlt, gE_get hlt]
        · simp
    · have : i = l.length := by omega
      subst this
      rw [List.take_length] at h3
      simp -implicitDefEqProofs [hlt, h3]
end Go.Proofs.YtdciogjhkckigaaDoor

namespace Go.Proofs.YtdciogjhkckigaaDoor
open Go Go.Ab
set_option linter.unusedSectionVars false
set_option linter.unusedVariables false
variable [Amb]

theorem firstNZ_gt {a b c d : Int} : 0 < firstNZ [a, b, c, d] ↔ 0 < a ∨ (a = 0 ∧ (0 < b ∨ (b = 0 ∧ (0 < c ∨ (c = 0 ∧ 0 < d))))) := by
  simp only [firstNZ]
  split <;> (try split) <;> (try split) <;> (try split) <;> omega
theorem cmpE_pos {a b : Entry} : 0 < cmpE a b ↔ Before b a := by
  unfold cmpE cmpL Before
  rw [firstNZ_gt, cmpB_pos, cmpB_zero, cmpI_pos, cmpI_zero, cmpB_pos, cmpB_zero, cmpI_pos]
  constructor
  · rintro (h | ⟨e, h | ⟨t, h | ⟨f, h⟩⟩⟩)
    · exact .inl h
    · exact .inr ⟨e.symm, .inl h⟩
    · exact .inr ⟨e.symm, .inr ⟨t.symm, .inl h⟩⟩
    · exact .inr ⟨e.symm, .inr ⟨t.symm, .inr ⟨f.symm, h⟩⟩⟩
  · rintro (h | ⟨e, h | ⟨t, h | ⟨f, h⟩⟩⟩)
    · exact .inl h
    · exact .inr ⟨e.symm, .inl h⟩
    · exact .inr ⟨e.symm, .inr ⟨t.symm, .inl h⟩⟩
    · exact .inr ⟨e.symm, .inr ⟨t.symm, .inr ⟨f.symm, h⟩⟩⟩
theorem cmpE_zero {a b : Entry} : cmpE a b = 0 ↔ ¬ Before a b ∧ ¬ Before b a := by
  rw [← cmpE_neg, ← cmpE_pos]; omega
/-- Alike before the order, and not the same. -/
def Clash (l : List Entry) : Prop := ∃ x ∈ l, ∃ y ∈ l, cmpE x y = 0 ∧ x ≠ y
theorem Clash.of {l m : List Entry} (h : ∀ x, x ∈ l → x ∈ m) : Clash l → Clash m := fun ⟨x, hx, y, hy, e⟩ => ⟨x, h x hx, y, h y hy, e⟩

theorem adj_all {s : List Entry} (hs : SortedG s 0 s.length) (ha : ∀ i, 0 < i → i < s.length → cmpE (gE s (i - 1)) (gE s i) = 0 → gE s (i - 1) = gE s i) :
    ∀ (d i : Nat), i + d < s.length → cmpE (gE s i) (gE s (i + d)) = 0 → gE s i = gE s (i + d) := by
  intro d
  induction d with
  | zero => intro i _ _; rfl
  | succ d ih =>
    intro i h hz
    have h1 := hs.le (Nat.zero_le _) (by omega : i ≤ i + d) (by omega)
    have h2 := hs.le (Nat.zero_le _) (by omega : i + d ≤ i + (d + 1)) h
    rw [cmpE_zero] at hz
    have h3 : ¬ Before (gE s i) (gE s (i + d)) := fun hb => (hb.or (gE s (i + (d + 1)))).elim hz.1 h2
    have h4 : ¬ Before (gE s (i + d)) (gE s (i + (d + 1))) := fun hb => (hb.or (gE s i)).elim h1 hz.1
    have e1 := ih i (by omega) (cmpE_zero.2 ⟨h3, h1⟩)
    have e2 := ha (i + (d + 1)) (by omega) h (by rw [show i + (d + 1) - 1 = i + d by omega]; exact cmpE_zero.2 ⟨h4, h2⟩)
    rw [show i + (d + 1) - 1 = i + d by omega] at e2
    rw [e1, e2]
theorem no_clash {s : List Entry} (hs : SortedG s 0 s.length) (ha : ∀ i, 0 < i → i < s.length → cmpE (gE s (i - 1)) (gE s i) = 0 → gE s (i - 1) = gE s i) : ¬ Clash s := by
  rintro ⟨x, hx, y, hy, hz, hne⟩
  obtain ⟨i, hi, rfl⟩ := List.getElem_of_mem hx
  obtain ⟨j, hj, rfl⟩ := List.getElem_of_mem hy
  rw [gE_get hi, gE_get hj] at hz hne
  rcases Nat.le_total i j with h | h
  · have := adj_all hs ha (j - i) i (by omega)
    rw [show i + (j - i) = j by omega] at this
    exact hne (this hz)
  · have := adj_all hs ha (i - j) j (by omega)
    rw [show j + (i - j) = i by omega] at this
    exact hne (this (cmpE_zero.2 (cmpE_zero.1 hz).symm)).symm

theorem compL_mem (l : List Entry) (x : Entry) : x ∈ compL l ↔ x ∈ l := by
  have : ∀ (l acc : List Entry), x ∈ l.foldl addC acc ↔ x ∈ acc ∨ x ∈ l := by
    intro l
    induction l with
    | nil => intro acc; simp
    | cons y l ih =>
      intro acc
      rw [List.foldl_cons, ih]
      unfold addC
      split
      · rename_i h
        have := List.mem_of_getLast? h
        constructor
        · rintro (h | h)
          · exact .inl h
          · exact .inr (by simp [h])
        · rintro (h | h)
          · exact .inl h
          · rcases List.mem_cons.1 h with rfl | h
            · exact .inl this
            · exact .inr h
      · simp [or_assoc]
  simpa [compL] using this l []
theorem compL_sorted {s : List Entry} (hs : SortedG s 0 s.length) (hn : ¬ Clash s) : Sorted (compL s) := by
  have key : ∀ i, 0 < i → i ≤ s.length → Sorted (compL (s.take i)) ∧ ∀ x ∈ compL (s.take i), x = gE s (i - 1) ∨ Before x (gE s (i - 1)) := by
    intro i
    induction i with
    | zero => intro h; omega
    | succ i ih =>
      intro _ hi
      by_cases h0 : i = 0
      · subst h0
        rw [List.take_succ_eq_append_getElem (by omega), gE_get (by omega)]
        simp [compL, addC]
      · obtain ⟨h1, h2⟩ := ih (by omega) (by omega)
        rw [compL_at (by omega) (by omega), show i + 1 - 1 = i by omega]
        split
        · rename_i he
          rw [he]; exact ⟨h1, h2⟩
        · rename_i he
          have hle := hs.le (Nat.zero_le _) (by omega : i - 1 ≤ i) (by omega)
          have hb : Before (gE s (i - 1)) (gE s i) := by
            refine Classical.byContradiction fun hb => hn ⟨_, ?_, _, ?_, cmpE_zero.2 ⟨hb, hle⟩, fun e => he e.symm⟩
            · rw [← gE_get (show i - 1 < s.length by omega)]; exact List.getElem_mem _
            · rw [← gE_get (show i < s.length by omega)]; exact List.getElem_mem _
          have hall : ∀ x ∈ compL (s.take i), Before x (gE s i) := fun x hx => (h2 x hx).elim (fun e => e ▸ hb) (fun h => h.trans hb)
          refine ⟨List.pairwise_append.2 ⟨h1, List.pairwise_singleton _ _, fun x hx y hy => by simp at hy; subst hy; exact hall x hx⟩, fun x hx => ?_⟩
          rcases List.mem_append.1 hx with h | h
          · exact .inr (hall x h)
          · simp at h; exact .inl h
  by_cases h0 : s.length = 0
  · have : s = [] := List.eq_nil_of_length_eq_zero h0
    subst this
    exact List.Pairwise.nil
  · have := (key s.length (by omega) (Nat.le_refl _)).1
    rwa [List.take_length] at this

theorem sorted_unique : ∀ {l m : List Entry}, Sorted l → Sorted m → (∀ x, x ∈ l ↔ x ∈ m) → l = m
  | [], [], _, _, _ => rfl
  | [], y :: m, _, _, h => by have := (h y).2 (by simp); cases this
  | x :: l, [], _, _, h => by have := (h x).1 (by simp); cases this
  | x :: l, y :: m, hl, hm, h => by
    have hl' := List.pairwise_cons.1 hl
    have hm' := List.pairwise_cons.1 hm
    have hxy : x = y := by
      rcases List.mem_cons.1 ((h x).1 (by simp)) with e | hx
      · exact e
      · rcases List.mem_cons.1 ((h y).2 (by simp)) with e | hy
        · exact e.symm
        · exact absurd (hm'.1 x hx) (hl'.1 y hy).asymm
    subst hxy
    congr 1
    refine sorted_unique hl'.2 hm'.2 (fun z => ⟨fun hz => ?_, fun hz => ?_⟩)
    · rcases List.mem_cons.1 ((h z).1 (List.mem_cons_of_mem _ hz)) with e | h'
      · subst e; exact absurd (hl'.1 _ hz) (Before.irrefl _)
      · exact h'
    · rcases List.mem_cons.1 ((h z).2 (List.mem_cons_of_mem _ hz)) with e | h'
      · subst e; exact absurd (hm'.1 _ hz) (Before.irrefl _)
      · exact h'

/-- The strictly sorted list of the members. -/
structure Canon (l out : List Entry) : Prop where
  sorted : Sorted out
  mem : ∀ x, x ∈ out ↔ x ∈ l
theorem Canon.unique {l a b : List Entry} (ha : Canon l a) (hb : Canon l b) : a = b := sorted_unique ha.sorted hb.sorted (fun x => (ha.mem x).trans (hb.mem x).symm)

/-- What merging comes to. -/
structure Merged (ls : List (List Entry)) (out : List Entry) (err : Int) : Prop where
  many : 20 < ls.length → out = [] ∧ err = 2
  bad : ls.length ≤ 20 → firstNZ (ls.map entriesF) ≠ 0 → out = [] ∧ err = firstNZ (ls.map entriesF)
  clash : ls.length ≤ 20 → firstNZ (ls.map entriesF) = 0 → Clash ls.flatten → out = [] ∧ err = 7
  good : ls.length ≤ 20 → firstNZ (ls.map entriesF) = 0 → ¬ Clash ls.flatten → ∃ m, Canon ls.flatten m ∧ err = entriesF m ∧ out = if entriesF m = 0 then m else []
theorem Merged.unique {ls : List (List Entry)} {a b : List Entry} {x y : Int} (h : Merged ls a x) (k : Merged ls b y) : a = b ∧ x = y := by
  by_cases h1 : 20 < ls.length
  · obtain ⟨rfl, rfl⟩ := h.many h1; obtain ⟨rfl, rfl⟩ := k.many h1; exact ⟨rfl, rfl⟩
  · by_cases h2 : firstNZ (ls.map entriesF) = 0
    · by_cases h3 : Clash ls.flatten
      · obtain ⟨rfl, rfl⟩ := h.clash (by omega) h2 h3; obtain ⟨rfl, rfl⟩ := k.clash (by omega) h2 h3; exact ⟨rfl, rfl⟩
      · obtain ⟨m, c1, e1, e2⟩ := h.good (by omega) h2 h3
        obtain ⟨m', c2, e3, e4⟩ := k.good (by omega) h2 h3
        obtain rfl := c1.unique c2
        exact ⟨by rw [e2, e4], by rw [e1, e3]⟩
    · obtain ⟨rfl, rfl⟩ := h.bad (by omega) h2; obtain ⟨rfl, e⟩ := k.bad (by omega) h2; exact ⟨rfl, e.symm⟩
end Go.Proofs.YtdciogjhkckigaaDoor

namespace Go.Proofs.YtdciogjhkckigaaDoor
open Go Go.Ab
set_option linter.unusedSectionVars false
set_option linter.unusedVariables false
variable [Amb]
set_option maxRecDepth 100000
set_option maxHeartbeats 8000000

theorem lists_short {ls : List (List Entry)} (h : ls.length ≤ 20) (hz : firstNZ (ls.map entriesF) = 0) : sumL ls ≤ 60000 := by
  have hall : ∀ l ∈ ls, entriesF l = 0 := by
    have : ∀ es : List Int, firstNZ es = 0 → ∀ e ∈ es, e = 0 := by
      intro es
      induction es with
      | nil => intro _ e he; cases he
      | cons a r ih =>
        intro h e he
        simp only [firstNZ] at h
        split at h
        · rename_i h0
          rcases List.mem_cons.1 he with rfl | he
          · exact h0
          · exact ih h e he
        · rename_i h0; exact absurd h h0
    exact fun l hl => this _ hz _ (List.mem_map.2 ⟨l, hl, rfl⟩)
  have : ∀ ls : List (List Entry), (∀ l ∈ ls, entriesF l = 0) → sumL ls ≤ ls.length * 3000 := by
    intro ls
    induction ls with
    | nil => intro _; simp [sumL]
    | cons l r ih =>
      intro h
      have h1 := ih (fun x hx => h x (by simp [hx]))
      have h2 := entriesF_short (h l (by simp))
      simp only [sumL, List.map_cons, List.sum_cons, List.length_cons] at h1 ⊢
      omega
  have := this ls hall
  have : ls.length * 3000 ≤ 20 * 3000 := Nat.mul_le_mul_right _ h
  omega

theorem index_Merge (ls : List (List Entry)) : ∃ x : List Entry × Int, Merged ls x.1 x.2 ∧ ACalls Tryd.prog 33 [listsV ls] (.tup [entries x.1, .one (.int .i64 x.2)]) := by
  refine ACalls.ofE (fun x : List Entry × Int => Merged ls x.1 x.2) (fun x => .tup [entries x.1, .one (.int .i64 x.2)]) mixed (fn := Tryd.f33) (by kernel_rfl) (by kernel_rfl) rfl (by kernel_rfl) (by simp [Tryd.f33]) ?_
  by_cases hm : 20 < ls.length
  · have hm' : (20 : Int) < ls.length := by omega
    simp -implicitDefEqProofs [hm']
    exact EndE.of ([], 2) ⟨fun _ => ⟨rfl, rfl⟩, fun h => by omega, fun h => by omega, fun h => by omega⟩ (by simp)
  have hm' : ¬ (20 : Int) < ls.length := by omega
  simp -implicitDefEqProofs [hm']
  refine ALoopS.of Nat (fun i => [(0, .x (listsV ls)), (13, .x (listsV ls)), (14, .x (.one (.int .i64 ls.length))), (15, .x (.one (.int .i64 i)))]) (Upto (· == 0) (ls.map entriesF)) (fun i => ls.length - i) 0 Upto.zero ?_ ?_
  · simp
  intro i hi
  have hil : i ≤ ls.length := by have := hi.1; simpa using this
  by_cases hlt : i < ls.length
  · have w1 : IntKind.i64.wrap ((i : Int) + 1) = (i + 1 : Nat) := by rw [wrap_id (by omega)]; omega
    have hlt' : i < (ls.map entriesF).length := by simpa using hlt
    simp -implicitDefEqProofs [hlt, listC]
    refine ACallK.of (index_checkEntries ls[i]) ?_
    by_cases he : entriesF ls[i] = 0
    · simp -implicitDefEqProofs [he, w1]
      refine Again.of (i + 1) (hi.step hlt' (by simp [he])) (by omega) ?_
      simp
    · simp -implicitDefEqProofs [he]
      have hf := firstNZ_at hi.2 hlt' (by simpa using he)
      rw [List.getElem_map] at hf
      exact EndE.of ([], entriesF ls[i]) ⟨fun h => by omega, fun _ _ => ⟨rfl, hf.symm⟩, fun _ h => by omega, fun _ h => by omega⟩ (by simp)
  · have hz := firstNZ_all (hi.done (by simpa using hlt))
    have hshort := lists_short (by omega) hz
    have hcc := slices_Concat ls (by omega) (by omega)
    obtain ⟨w, ew⟩ : ∃ w, w = ls.flatten := ⟨_, rfl⟩
    rw [← ew] at hcc
    simp -implicitDefEqProofs [hlt]
    refine ACallK.of hcc ?_
    simp -implicitDefEqProofs
    refine ACallK.lend ?_
    obtain ⟨s, hs, hc⟩ := slices_SortStableFunc w (by rw [ew, sumL_flatten]; omega)
    have hsl : s.length ≤ 60000 := by rw [hs.len, ew, sumL_flatten]; exact hshort
    have hsrt : SortedG s 0 s.length := by rw [hs.len]; exact hs.srt
    simp -implicitDefEqProofs
    refine ACallM.of hc ?_
    simp -implicitDefEqProofs
    refine ALoopS.of Nat (fun i => [(7, ownE s), (8, .x (.one (.int .i64 i)))]) (fun i => 1 ≤ i ∧ (i ≤ s.length ∨ i = 1) ∧ ∀ j, 0 < j → j < i → j < s.length → cmpE (gE s (j - 1)) (gE s j) = 0 → gE s (j - 1) = gE s j) (fun i => s.length - i) 1 ⟨Nat.le_refl _, .inr rfl, fun j h1 h2 => by omega⟩ ?_ ?_
    · simp
    rintro i ⟨h1, h2, h3⟩
    by_cases hlt : i < s.length
    · obtain ⟨j, ej⟩ : ∃ j, j = i - 1 := ⟨_, rfl⟩
      have w1 : IntKind.i64.wrap ((i : Int) + 1) = (i + 1 : Nat) := by rw [wrap_id (by omega)]; omega
      have w2 : IntKind.i64.wrap ((i : Int) - 1) = (j : Nat) := by rw [wrap_id (by omega)]; omega
      have hj : j < s.length := by omega
      simp -implicitDefEqProofs [hlt, w2, hj]
      refine ACallK.of (index_compare _ _) ?_
      by_cases hz0 : cmpE s[j] s[i] = 0
      · by_cases hne : s[j] = s[i]
        · simp -implicitDefEqProofs [hz0, hlt, w2, hj, hne, w1]
          refine Again.of (i + 1) ⟨by omega, .inl (by omega), fun k k1 k2 k3 k4 => ?_⟩ (by omega) ?_
          · by_cases hk : k = i
            · subst hk
              rw [← ej, ← gE_get hj, ← gE_get hlt]; exact hne
            · exact h3 k k1 (by omega) k3 k4
          · simp
        · simp -implicitDefEqProofs [hz0, hlt, w2, hj, hne]
          refine EndE.of ([], 7) ⟨fun h => by omega, fun _ h => absurd hz h, fun _ _ _ => ⟨rfl, rfl⟩, fun _ _ h => absurd ?_ h⟩ (by simp)
          rw [← ew]
          exact ⟨s[j], (hs.perm.mem_iff).1 (List.getElem_mem _), s[i], (hs.perm.mem_iff).1 (List.getElem_mem _), hz0, hne⟩
      · simp -implicitDefEqProofs [hz0, w1]
        refine Again.of (i + 1) ⟨by omega, .inl (by omega), fun k k1 k2 k3 k4 => ?_⟩ (by omega) ?_
        · by_cases hk : k = i
          · subst hk
            rw [← ej, ← gE_get hj, ← gE_get hlt] at k4; exact absurd k4 hz0
          · exact h3 k k1 (by omega) k3 k4
        · simp
    · have hadj : ∀ j, 0 < j → j < s.length → cmpE (gE s (j - 1)) (gE s j) = 0 → gE s (j - 1) = gE s j := fun j k1 k2 k3 => h3 j k1 (by omega) k2 k3
      have hnc := no_clash hsrt hadj
      have hcan : Canon ls.flatten (compL s) := ⟨compL_sorted hsrt hnc, fun x => by rw [compL_mem, hs.perm.mem_iff, ew]⟩
      have hncw : ¬ Clash ls.flatten := fun h => hnc (Clash.of (fun x hx => (hs.perm.mem_iff).2 (by rw [ew]; exact hx)) h)
      obtain ⟨m, em⟩ : ∃ m, m = compL s := ⟨_, rfl⟩
      have hcomp := slices_Compact s (by omega)
      rw [← em] at hcan hcomp
      simp -implicitDefEqProofs [hlt]
      refine ACallK.lend ?_
      simp -implicitDefEqProofs
      refine ACallM.of hcomp ?_
      simp -implicitDefEqProofs
      refine ACallK.of (index_checkEntries m) ?_
      by_cases he : entriesF m = 0
      · simp -implicitDefEqProofs [he]
        exact EndE.of (m, 0) ⟨fun h => by omega, fun _ h => absurd hz h, fun _ _ h => absurd h hncw, fun _ _ _ => ⟨m, hcan, he.symm, (if_pos he).symm⟩⟩ (by simp)
      · simp -implicitDefEqProofs [he]
        exact EndE.of ([], entriesF m) ⟨fun h => by omega, fun _ h => absurd hz h, fun _ _ h => absurd h hncw, fun _ _ _ => ⟨m, hcan, rfl, (if_neg he).symm⟩⟩ (by simp)
end Go.Proofs.YtdciogjhkckigaaDoor

namespace Go.Proofs.YtdciogjhkckigaaDoor
open Go Go.Ab
set_option linter.unusedSectionVars false
set_option linter.unusedVariables false
variable [Amb]
set_option maxRecDepth 100000
set_option maxHeartbeats 8000000

def PutAt (l : List Entry) (e : Entry) (l' : List Entry) : Prop := ∃ i, i ≤ l.length ∧ l' = l.take i ++ e :: l.drop i ∧ (∀ k, i ≤ k → k < l.length → Before e (gE l k)) ∧ (0 < i → ¬ Before e (gE l (i - 1)))
theorem ref8_put (l : List Entry) (e : Entry) (hl : l.length ≤ 16777216) : ∃ l', PutAt l e l' ∧ ACalls Tryd.prog 62 [entries l, .agg e.row] (.own 33 9 (rowsL l')) := by
  refine ACalls.ofE (PutAt l e) (fun l' => .own 33 9 (rowsL l')) mixed (fn := Tryd.f62) (by kernel_rfl) (by kernel_rfl) rfl (by kernel_rfl) (by simp [Tryd.f62]) ?_
  simp -implicitDefEqProofs
  refine ALoopS.of Nat (fun i => [(0, .x (entries l)), (3, .box e.row), (5, .x (.one (.int .i64 i)))]) (fun i => i ≤ l.length ∧ ∀ k, i ≤ k → k < l.length → Before e (gE l k)) (fun i => i) l.length ⟨Nat.le_refl _, fun k h1 h2 => by omega⟩ ?_ ?_
  · simp
  rintro i ⟨hi, hi2⟩
  have fin : 0 < i → ¬ Before e (gE l (i - 1)) → PutAt l e (l.take i ++ e :: l.drop i) := fun h h' => ⟨i, hi, rfl, hi2, fun _ => h'⟩
  by_cases h0 : 0 < i
  · obtain ⟨j, ej⟩ : ∃ j, j = i - 1 := ⟨_, rfl⟩
    have w2 : IntKind.i64.wrap ((i : Int) - 1) = (j : Nat) := by rw [wrap_id (by omega)]; omega
    have hj : j < l.length := by omega
    simp -implicitDefEqProofs [h0, w2, hj]
    refine ACallGS.of (fun _ => ref8_Compare _ _) rfl ?_
    by_cases hc : 0 < cmpE l[j] e
    · simp -implicitDefEqProofs [hc, w2]
      refine Again.of j ⟨by omega, fun k k1 k2 => ?_⟩ (by omega) ?_
      · by_cases hk : k = j
        · subst hk; rw [← gE_get hj]; exact cmpE_pos.1 hc
        · exact hi2 k (by omega) k2
      · simp
    · simp -implicitDefEqProofs [hc]
      unfold maxLen
      refine ⟨by omega, by omega, by omega, by omega, by omega, EndE.of (l.take i ++ e :: l.drop i) (fin h0 (by rw [← ej, ← gE_get hj]; exact fun h => hc (cmpE_pos.2 h))) ?_⟩
      simp
  · simp -implicitDefEqProofs [h0]
    refine ACallGS.of (fun h => by cases h) (r := .x (.one (.int .i64 0))) rfl ?_
    simp -implicitDefEqProofs
    unfold maxLen
    refine ⟨by omega, by omega, by omega, by omega, by omega, EndE.of (l.take i ++ e :: l.drop i) ⟨i, hi, rfl, hi2, fun h => absurd h h0⟩ ?_⟩
    simp

theorem PutAt.mem {l l' : List Entry} {e : Entry} (h : PutAt l e l') (x : Entry) : x ∈ l' ↔ x ∈ l ∨ x = e := by
  obtain ⟨i, hi, rfl, _⟩ := h
  have : x ∈ l ↔ x ∈ l.take i ∨ x ∈ l.drop i := by rw [← List.mem_append, List.take_append_drop]
  rw [List.mem_append, List.mem_cons, this]
  constructor
  · rintro (h | h | h)
    · exact .inl (.inl h)
    · exact .inr h
    · exact .inl (.inr h)
  · rintro ((h | h) | h)
    · exact .inl h
    · exact .inr (.inr h)
    · exact .inr (.inl h)
theorem PutAt.len {l l' : List Entry} {e : Entry} (h : PutAt l e l') : l'.length = l.length + 1 := by
  obtain ⟨i, hi, rfl, _⟩ := h
  simp; omega
theorem PutAt.sorted {l l' : List Entry} {e : Entry} (h : PutAt l e l') (hs : Sorted l) (hn : ∀ x ∈ l, cmpE x e ≠ 0) : Sorted l' := by
  obtain ⟨i, hi, rfl, h1, h2⟩ := h
  have hsd : Sorted (l.drop i) := hs.sublist (List.drop_sublist _ _)
  have hst : Sorted (l.take i) := hs.sublist (List.take_sublist _ _)
  have hcross : ∀ x ∈ l.take i, ∀ y ∈ l.drop i, Before x y := by
    have := hs
    rw [← List.take_append_drop i l] at this
    exact (List.pairwise_append.1 this).2.2
  have hxe : ∀ x ∈ l.take i, Before x e := by
    intro x hx
    have hi0 : 0 < i := by
      rcases Nat.eq_zero_or_pos i with h | h
      · subst h; simp at hx
      · exact h
    have hlast : gE l (i - 1) ∈ l := by rw [← gE_get (show i - 1 < l.length by omega)]; exact List.getElem_mem _
    have hbl : Before (gE l (i - 1)) e := by
      have h3 := hn _ hlast
      refine Classical.byContradiction fun hb => h3 (cmpE_zero.2 ⟨hb, h2 hi0⟩)
    obtain ⟨k, hk, rfl⟩ := List.getElem_of_mem hx
    rw [List.getElem_take]
    have hk' : k < i := by simp at hk; omega
    by_cases he : k = i - 1
    · subst he; rw [gE_get (by omega)]; exact hbl
    · have := List.pairwise_iff_getElem.1 hs k (i - 1) (by omega) (by omega) (by omega)
      rw [gE_get (show i - 1 < l.length by omega)] at this
      exact this.trans hbl
  have hey : ∀ y ∈ l.drop i, Before e y := by
    intro y hy
    obtain ⟨k, hk, rfl⟩ := List.getElem_of_mem hy
    rw [List.getElem_drop, gE_get (by simp at hk; omega)]
    exact h1 _ (by omega) (by simp at hk; omega)
  refine List.pairwise_append.2 ⟨hst, List.pairwise_cons.2 ⟨hey, hsd⟩, fun x hx y hy => ?_⟩
  rcases List.mem_cons.1 hy with rfl | hy
  · exact hxe x hx
  · exact hcross x hx y hy

/-- What ref8.Merge has put together. -/
structure RefAt (done m : List Entry) : Prop where
  can : Canon done m
  nc : ¬ Clash done
  few : m.length ≤ done.length
theorem RefAt.nil : RefAt [] [] := ⟨⟨List.Pairwise.nil, fun x => Iff.rfl⟩, fun ⟨x, hx, _⟩ => (by cases hx), Nat.le_refl _⟩
theorem cmpE_self (e : Entry) : cmpE e e = 0 := cmpE_zero.2 ⟨Before.irrefl e, Before.irrefl e⟩
theorem RefAt.clash {done m : List Entry} {e : Entry} (h : RefAt done m) (hall : ∀ x ∈ m, cmpE x e = 0 → x = e) : ¬ Clash (done ++ [e]) := by
  rintro ⟨x, hx, y, hy, hz, hne⟩
  have hz' : cmpE y x = 0 := cmpE_zero.2 (cmpE_zero.1 hz).symm
  rcases List.mem_append.1 hx with h1 | h1
  · rcases List.mem_append.1 hy with h2 | h2
    · exact h.nc ⟨x, h1, y, h2, hz, hne⟩
    · have h3 : y = e := by simpa using h2
      rw [h3] at hz hne
      exact hne (hall x ((h.can.mem x).2 h1) hz)
  · have h3 : x = e := by simpa using h1
    rw [h3] at hz' hne
    rcases List.mem_append.1 hy with h2 | h2
    · exact hne (hall y ((h.can.mem y).2 h2) hz').symm
    · exact hne (by simpa using h2 : y = e).symm
theorem RefAt.has {done m : List Entry} {e : Entry} (h : RefAt done m) (hall : ∀ x ∈ m, cmpE x e = 0 → x = e) (he : e ∈ m) : RefAt (done ++ [e]) m :=
  ⟨⟨h.can.sorted, fun x => by rw [h.can.mem, List.mem_append]; constructor; exact .inl; rintro (h' | h'); exact h'; simp at h'; subst h'; exact (h.can.mem _).1 he⟩, h.clash hall, by have := h.few; simp; omega⟩
theorem RefAt.put {done m m' : List Entry} {e : Entry} (h : RefAt done m) (hall : ∀ x ∈ m, cmpE x e = 0 → x = e) (he : ¬ e ∈ m) (hp : PutAt m e m') : RefAt (done ++ [e]) m' :=
  ⟨⟨hp.sorted h.can.sorted (fun x hx hz => he (hall x hx hz ▸ hx)), fun x => by rw [hp.mem, h.can.mem, List.mem_append]; simp⟩, h.clash hall, by have := h.few; rw [hp.len]; simp; omega⟩
end Go.Proofs.YtdciogjhkckigaaDoor

namespace Go.Proofs.YtdciogjhkckigaaDoor
open Go Go.Ab
set_option linter.unusedSectionVars false
set_option linter.unusedVariables false
variable [Amb]
set_option maxRecDepth 100000
set_option maxHeartbeats 8000000

theorem done_le {ls : List (List Entry)} {i j : Nat} (hs : sumL ls ≤ 60000) (hi : i < ls.length) : ((ls.take i).flatten ++ ls[i].take j).length ≤ 60000 := by
  have h1 := sumL_take_succ hi
  have h2 := sumL_take_le ls (i + 1)
  rw [List.length_append, sumL_flatten, List.length_take]; omega

theorem ref8_Merge (ls : List (List Entry)) : ∃ x : List Entry × Int, Merged ls x.1 x.2 ∧ ACalls Tryd.prog 34 [listsV ls] (.tup [entries x.1, .one (.int .i64 x.2)]) := by
  refine ACalls.ofE (fun x : List Entry × Int => Merged ls x.1 x.2) (fun x => .tup [entries x.1, .one (.int .i64 x.2)]) mixed (fn := Tryd.f34) (by kernel_rfl) (by kernel_rfl) rfl (by kernel_rfl) (by simp [Tryd.f34]) ?_
  by_cases hm : 20 < ls.length
  · have hm' : (20 : Int) < ls.length := by omega
    simp -implicitDefEqProofs [hm']
    exact EndE.of ([], 2) ⟨fun _ => ⟨rfl, rfl⟩, fun h => by omega, fun h => by omega, fun h => by omega⟩ (by simp)
  have hm' : ¬ (20 : Int) < ls.length := by omega
  simp -implicitDefEqProofs [hm']
  refine ALoopS.of Nat (fun i => [(0, .x (listsV ls)), (4, .x (.one .nil)), (5, .x (.one (.int .i64 i)))]) (Upto (· == 0) (ls.map entriesF)) (fun i => ls.length - i) 0 Upto.zero ?_ ?_
  · simp
  intro i hi
  have hil : i ≤ ls.length := by have := hi.1; simpa using this
  by_cases hlt : i < ls.length
  · have w1 : IntKind.i64.wrap ((i : Int) + 1) = (i + 1 : Nat) := by rw [wrap_id (by omega)]; omega
    have hlt' : i < (ls.map entriesF).length := by simpa using hlt
    simp -implicitDefEqProofs [hlt, listC]
    refine ACallK.of (ref8_checkEntries ls[i]) ?_
    by_cases he : entriesF ls[i] = 0
    · simp -implicitDefEqProofs [he, w1]
      refine Again.of (i + 1) (hi.step hlt' (by simp [he])) (by omega) ?_
      simp
    · simp -implicitDefEqProofs [he]
      have hf := firstNZ_at hi.2 hlt' (by simpa using he)
      rw [List.getElem_map] at hf
      exact EndE.of ([], entriesF ls[i]) ⟨fun h => by omega, fun _ _ => ⟨rfl, hf.symm⟩, fun _ h => by omega, fun _ h => by omega⟩ (by simp)
  have hz := firstNZ_all (hi.done (by simpa using hlt))
  have hshort := lists_short (by omega) hz
  simp -implicitDefEqProofs [hlt]
  clear hi hil hlt
  refine ALoopS.of (Nat × List Entry) (fun x => [(0, .x (listsV ls)), (4, ownE x.2), (7, .x (.one (.int .i64 x.1)))]) (fun x => x.1 ≤ ls.length ∧ RefAt (ls.take x.1).flatten x.2) (fun x => ls.length - x.1) (0, []) ⟨Nat.zero_le _, by simpa using RefAt.nil⟩ ?_ ?_
  · simp
  rintro ⟨i, m⟩ ⟨hi, hR⟩
  dsimp only at hi hR ⊢
  by_cases hlt : i < ls.length
  · have w1 : IntKind.i64.wrap ((i : Int) + 1) = (i + 1 : Nat) := by rw [wrap_id (by omega)]; omega
    simp -implicitDefEqProofs [hlt]
    refine ALoopS.of (Nat × List Entry) (fun x => [(0, .x (listsV ls)), (4, ownE x.2), (7, .x (.one (.int .i64 i))), (8, .x (.one (.int .i64 x.1)))]) (fun x => x.1 ≤ ls[i].length ∧ RefAt ((ls.take i).flatten ++ ls[i].take x.1) x.2) (fun x => ls[i].length - x.1) (0, m) ⟨Nat.zero_le _, by simpa using hR⟩ ?_ ?_
    · simp
    clear hR
    rintro ⟨j, m⟩ ⟨hj, hR⟩
    dsimp only at hj hR ⊢
    have hfew := hR.few
    have hdl := done_le (j := j) hshort hlt
    by_cases hjt : j < ls[i].length
    · simp -implicitDefEqProofs [hlt, listC, hjt]
      obtain ⟨e, ee⟩ : ∃ e, e = ls[i][j] := ⟨_, rfl⟩
      have hin : e ∈ ls.flatten := List.mem_flatten.2 ⟨ls[i], List.getElem_mem _, by rw [ee]; exact List.getElem_mem _⟩
      have hnext : (ls.take i).flatten ++ ls[i].take (j + 1) = (ls.take i).flatten ++ ls[i].take j ++ [e] := by rw [List.take_succ_eq_append_getElem hjt, ee, List.append_assoc]
      have hlen2 : ls[i].length ≤ 60000 := by have := sumL_take_succ hlt; have := sumL_take_le ls (i + 1); omega
      have w2 : IntKind.i64.wrap ((j : Int) + 1) = (j + 1 : Nat) := by rw [wrap_id (by omega)]; omega
      refine ALoopS.of (Nat × Bool) (fun x => [(0, .x (listsV ls)), (4, ownE m), (7, .x (.one (.int .i64 i))), (8, .x (.one (.int .i64 j))), (9, .x (.one (.bool x.2))), (10, .x (.one (.int .i64 x.1)))]) (fun x => x.1 ≤ m.length ∧ x.2 = decide (e ∈ m.take x.1) ∧ ∀ y ∈ m.take x.1, cmpE y e = 0 → y = e) (fun x => m.length - x.1) (0, false) ⟨Nat.zero_le _, by simp, by simp⟩ ?_ ?_
      · simp
      rintro ⟨k, f⟩ ⟨hk, hf, hall⟩
      dsimp only at hk hf hall ⊢
      by_cases hkt : k < m.length
      · have w3 : IntKind.i64.wrap ((k : Int) + 1) = (k + 1 : Nat) := by rw [wrap_id (by omega)]; omega
        have htk : m.take (k + 1) = m.take k ++ [m[k]] := List.take_succ_eq_append_getElem hkt
        simp -implicitDefEqProofs [hlt, listC, hjt, hkt]
        refine ACallK.of (ref8_Compare _ _) ?_
        by_cases hz0 : cmpE m[k] ls[i][j] = 0
        · by_cases hne : m[k] = ls[i][j]
          · simp -implicitDefEqProofs [hz0, hlt, listC, hjt, hkt, hne, w3, cmpE_self]
            refine Again.of (k + 1, true) ⟨by dsimp only; omega, ?_, ?_⟩ (by dsimp only; omega) ?_
            · dsimp only; rw [htk]; simp [hne, ee]
            · dsimp only; rw [htk]; intro y hy hyz
              rcases List.mem_append.1 hy with h | h
              · exact hall y h hyz
              · simp at h; rw [h, hne, ee]
            · simp
          · simp -implicitDefEqProofs [hz0, hlt, listC, hjt, hkt, hne]
            refine EndE.of ([], 7) ⟨fun h => by omega, fun _ h => absurd hz h, fun _ _ _ => ⟨rfl, rfl⟩, fun _ _ h => absurd ?_ h⟩ (by simp)
            refine ⟨m[k], ?_, e, hin, by rw [ee]; exact hz0, by rw [ee]; exact hne⟩
            have := (hR.can.mem _).1 (List.getElem_mem hkt)
            rcases List.mem_append.1 this with h | h
            · obtain ⟨x, hx, hy⟩ := List.mem_flatten.1 h
              exact List.mem_flatten.2 ⟨x, List.mem_of_mem_take hx, hy⟩
            · exact List.mem_flatten.2 ⟨ls[i], List.getElem_mem _, List.mem_of_mem_take h⟩
        · simp -implicitDefEqProofs [hz0, w3]
          have hne : m[k] ≠ e := fun h => hz0 (by rw [h, ← ee]; exact cmpE_self e)
          refine Again.of (k + 1, f) ⟨by dsimp only; omega, ?_, ?_⟩ (by dsimp only; omega) ?_
          · dsimp only
            have : (e ∈ m.take (k + 1)) ↔ e ∈ m.take k := by rw [htk, List.mem_append, List.mem_singleton]; exact ⟨fun h => h.resolve_right (Ne.symm hne), .inl⟩
            rw [hf]; simp only [this]
          · dsimp only; rw [htk]; intro y hy hyz
            rcases List.mem_append.1 hy with h | h
            · exact hall y h hyz
            · simp at h; rw [h, ee] at hyz; exact absurd hyz hz0
          · simp
      · have hkm : k = m.length := by omega
        rw [hkm, List.take_length] at hf hall
        by_cases he : e ∈ m
        · have hf' : f = true := by rw [hf]; simp [he]
          simp -implicitDefEqProofs [hkt, hf', w2]
          refine Again.of (j + 1, m) ⟨by dsimp only; omega, by dsimp only; rw [hnext]; exact hR.has hall he⟩ (by dsimp only; omega) ?_
          simp
        · have hf' : f = false := by rw [hf]; simp [he]
          simp -implicitDefEqProofs [hkt, hf', hlt, listC, hjt]
          obtain ⟨m', hp, hc⟩ := ref8_put m e (by omega)
          rw [ee] at hc
          refine ACallK.of hc ?_
          simp -implicitDefEqProofs [w2]
          refine Again.of (j + 1, m') ⟨by dsimp only; omega, by dsimp only; rw [hnext]; exact hR.put hall he hp⟩ (by dsimp only; omega) ?_
          simp
    · simp -implicitDefEqProofs [hlt, listC, hjt, w1]
      refine Again.of (i + 1, m) ⟨by dsimp only; omega, ?_⟩ (by dsimp only; omega) ?_
      · dsimp only
        rw [List.take_succ_eq_append_getElem hlt, List.flatten_append]
        have hta : ls[i].take j = ls[i] := List.take_of_length_le (by omega)
        rw [hta] at hR
        simpa using hR
      · simp
  · have hil : i = ls.length := by omega
    rw [hil, List.take_length] at hR
    simp -implicitDefEqProofs [hlt]
    refine ACallK.of (ref8_checkEntries m) ?_
    by_cases he : entriesF m = 0
    · simp -implicitDefEqProofs [he]
      exact EndE.of (m, 0) ⟨fun h => by omega, fun _ h => absurd hz h, fun _ _ h => absurd h hR.nc, fun _ _ _ => ⟨m, hR.can, he.symm, (if_pos he).symm⟩⟩ (by simp)
    · simp -implicitDefEqProofs [he]
      exact EndE.of ([], entriesF m) ⟨fun h => by omega, fun _ h => absurd hz h, fun _ _ h => absurd h hR.nc, fun _ _ _ => ⟨m, hR.can, rfl, (if_neg he).symm⟩⟩ (by simp)
end Go.Proofs.YtdciogjhkckigaaDoor

namespace Go.Proofs.YtdciogjhkckigaaDoor
open Go Go.Ab
set_option linter.unusedSectionVars false
set_option linter.unusedVariables false
variable [Amb]
set_option maxRecDepth 100000
set_option maxHeartbeats 8000000

theorem lawMerges (ls : List (List Entry)) : ACalls Tryd.prog 11 [listsV ls] (.x (.one (.bool true))) := by
  obtain ⟨⟨x, xe⟩, hx, hcx⟩ := index_Merge ls
  obtain ⟨⟨y, ye⟩, hy, hcy⟩ := ref8_Merge ls
  obtain ⟨e1, e2⟩ := hx.unique hy
  dsimp only at e1 e2 hcx hcy
  subst e1; subst e2
  refine ACalls.of mixed (fn := Tryd.f11) (by kernel_rfl) (by kernel_rfl) rfl (by kernel_rfl) (by simp [Tryd.f11]) (fun hok => ?_)
  simp -implicitDefEqProofs
  refine ACallK.of hcx ?_
  simp -implicitDefEqProofs
  refine ACallK.of hcy ?_
  simp -implicitDefEqProofs
  refine ACallK.of (slices_Equal x x) ?_
  simp -implicitDefEqProofs
  refine ACallGS.of (fun _ => law8_awake) rfl ?_
  simp -implicitDefEqProofs
end Go.Proofs.YtdciogjhkckigaaDoor

