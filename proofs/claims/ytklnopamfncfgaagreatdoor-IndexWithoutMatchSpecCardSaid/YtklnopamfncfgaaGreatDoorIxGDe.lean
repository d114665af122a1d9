/- A part of the proof: lemmas and contracts of functions. -/
import Derived.Test.YtklnopamfncfgaaGreatDoorIxGDd
import Derived.RangeFuncNested
import Derived.RangeFuncBound
import Derived.RangeFuncCalls
import Derived.RangeFuncLeaves
import Derived.RangeFuncBox
import Derived.Shelf.Abstract
import Derived.Shelf.RegionOpen
import Derived.WalkKit
import Derived.OwnWalkIn
import Derived.TacticsInMore
import Derived.LoopNIn
import Derived.LoopIn
import Derived.Test.YtklnopamfncfgaaGreatDoorIxGDb
import Derived.Test.YtklnopamfncfgaaGreatDoorAbJ5
import Derived.MakeChecks
import Derived.KernelRfl
import Derived.Test.YtklnopamfncfgaaGreatDoorRows
namespace Go.Proofs.YtklnopamfncfgaaGreatDoor
open Go Go.Ab Go.RowKit Go.Shelf
set_option linter.unusedSectionVars false
attribute [local go_sem] Oper.semAt_some

/-! ### The scopes, the last one first -/
def valS (s : Scope) : Value := .agg #[.int .i64 s.kind, .string ⟨s.key.toArray⟩, .bool s.not]
def backL (n : Nat) : List (Fin n) := (List.finRange n).reverse
theorem backL_length (n : Nat) : (backL n).length = n := by simp [backL]
theorem backL_get {n k : Nat} (h : k < n) (h' : k < (backL n).length) : (backL n)[k] = ⟨n - 1 - k, by omega⟩ := by
  simp only [backL, List.getElem_reverse, List.getElem_finRange, List.length_finRange]
  rfl
theorem backL_take {n k : Nat} (h : k < n) : (backL n).take (k + 1) = (backL n).take k ++ [⟨n - 1 - k, by omega⟩] := by
  rw [List.take_succ_eq_append_getElem (by rw [backL_length]; exact h), backL_get h]

set_option maxRecDepth 100000 in
set_option maxHeartbeats 4000000 in
/-- The iterator's closure, at every loop body that keeps what lay below n₀. -/
theorem back1_in (F : Fence) (n : Nat) (hf : F.fn 151) (hro : F.round = none) (hn : 1 ≤ n) (l Bs n₀ b off cap : Nat) (ls : List Scope) (hreach : ls.length ≤ 1000) (hb : b < n₀) (hBs0 : Bs < n₀) (J Jx : List (Fin ls.length) → World → Prop)
    (hY : ∀ pre (x : Fin ls.length) W, J pre W → pre.length < ls.length → YieldAt F (n - 1) Tryz.prog l #[.int .i64 (x.1 : Int), valS ls[x.1]] W fun e W' =>
      (e = .returned (.bool true) ∧ J (pre ++ [x]) W' ∧ Below n₀ W W') ∨ (e = .returned (.bool false) ∧ Jx (pre ++ [x]) W'))
    (W : World) (hBs : W.cell? ⟨Bs, 0, none⟩ = some (.slice (some ⟨b, off, none⟩) ls.length cap))
    (hc : ∀ (j : Nat) (h : j < ls.length), W.cell? ⟨b, off + j * 3, none⟩ = some (.int .i64 ls[j].kind) ∧ W.cell? ⟨b, off + j * 3 + 1, none⟩ = some (.string ⟨ls[j].key.toArray⟩) ∧ W.cell? ⟨b, off + j * 3 + 2, none⟩ = some (.bool ls[j].not)) (h0 : J [] W) :
    CallsIn F n Tryz.prog 151 #[.func (.yield l) #[] #[], .pointer (some ⟨Bs, 0, none⟩)] W fun e W' => (∃ v, e = .returned v) ∧
      ((∃ ys, ys = backL ls.length ∧ J ys W') ∨ (∃ pre, (∃ k, k ≤ ls.length ∧ pre = (backL ls.length).take k) ∧ Jx pre W')) := by
  refine callsIn_of_wp Tryz.func151 rfl hf ?_ hro
  simp only [Tryz.ntmps151, List.size_toArray, List.length_cons, List.length_nil, Nat.reduceAdd, Nat.reduceSub, Array.replicate_succ, Array.replicate_zero, List.push_toArray, List.append_toArray, List.nil_append, List.cons_append]
  gi_wp2
  gi_loopw [3] (fun i wr => ∃ m : Nat, m ≤ ls.length ∧ i = .int .i64 ((m : Int) - 1) ∧ J ((backL ls.length).take (ls.length - m)) wr ∧ Below n₀ W wr)
    (fun i _ => (intOf i + 1).toNat)
  case atStart => exact ⟨ls.length, Nat.le_refl _, by simp, by simpa using h0, Below.refl _ _⟩
  case round =>
    obtain ⟨m, hm, rfl, hJs, hnx⟩ := hrel
    cases m with
    | succ m =>
      have e0 : ((m + 1 : Nat) : Int) - 1 = (m : Int) := by omega
      obtain ⟨fn, tmps, assign, body, hy, hR⟩ := hY _ ⟨m, hm⟩ wr hJs (by rw [List.length_take, backL_length]; omega)
      have hk : ls.length - m = ls.length - (m + 1) + 1 := by omega
      have hkl : (backL ls.length).take (ls.length - m) = (backL ls.length).take (ls.length - (m + 1)) ++ [⟨m, hm⟩] := by
        rw [hk, backL_take (by omega)]
        congr 2
        apply Fin.ext
        show ls.length - 1 - (ls.length - (m + 1)) = m
        omega
      rw [← hkl] at hR
      obtain ⟨c0, c1, c2⟩ := hc m (by omega)
      have d0 := (hnx.cell (p := ⟨b, off + m * 3, none⟩) hb).trans c0
      have d1 := (hnx.cell (p := ⟨b, off + m * 3 + 1, none⟩) hb).trans c1
      have d2 := (hnx.cell (p := ⟨b, off + m * 3 + 2, none⟩) hb).trans c2
      have hBs' := (hnx.cell (p := ⟨Bs, 0, none⟩) hBs0).trans hBs
      simp only [valS, e0] at hy ⊢
      have hml : (m : Int) < (ls.length : Int) := by omega
      gi_wp2
      refine hR.mono ?_
      rintro e W3 (⟨rfl, hJ3, hk3⟩ | ⟨rfl, hJx3⟩)
      · gi_wp2
        go_roundw
        case rel => exact ⟨m, by omega, rfl, hJ3, hnx.trans hk3⟩
        case measure => simp [intOf]
      · gi_wp2
        refine bodyPost_ret (results_none rfl _ _ _) rfl ?_
        exact ⟨⟨_, rfl⟩, .inr ⟨_, ⟨ls.length - m, by omega, rfl⟩, hJx3⟩⟩
    | zero =>
      gi_wp2
      go_end0
      exact ⟨⟨_, rfl⟩, .inl ⟨_, rfl, by rw [List.take_of_length_le (by rw [backL_length]; omega)] at hJs; exact hJs⟩⟩

set_option maxRecDepth 100000 in
set_option maxHeartbeats 4000000 in
/-- .. at a slice without elements: no round. -/
theorem back1_none (F : Fence) (n : Nat) (hf : F.fn 151) (hro : F.round = none) (l Bs : Nat) (ad : Option Go.Addr) (cap : Nat) (Jn : World → Prop) (W : World) (hBs : W.cell? ⟨Bs, 0, none⟩ = some (.slice ad 0 cap)) (h0 : Jn W) :
    CallsIn F n Tryz.prog 151 #[.func (.yield l) #[] #[], .pointer (some ⟨Bs, 0, none⟩)] W fun e W' => (∃ v, e = .returned v) ∧ Jn W' := by
  refine callsIn_of_wp Tryz.func151 rfl hf ?_ hro
  simp only [Tryz.ntmps151, List.size_toArray, List.length_cons, List.length_nil, Nat.reduceAdd, Nat.reduceSub, Array.replicate_succ, Array.replicate_zero, List.push_toArray, List.append_toArray, List.nil_append, List.cons_append]
  gi_wp2
  gi_loopw [3] (fun i wr => i = .int .i64 (-1) ∧ Jn wr) (fun _ _ => 0)
  case atStart => exact ⟨by simp, h0⟩
  case round =>
    obtain ⟨rfl, hJs⟩ := hrel
    gi_wp2
    go_end0
    exact ⟨⟨_, rfl⟩, hJs⟩

set_option maxHeartbeats 4000000 in
theorem backward_in (F : Fence) (n : Nat) (hf : F.fn 86) (hro : F.round = none) (sv : Value) (hsv : ∃ a len cap, sv = .slice a len cap) (w : World) :
    CallsIn F n Tryz.prog 86 #[sv] w fun e w' => e = .returned (.func (.func 151) #[] #[.pointer (some ⟨w.heap.size, 0, none⟩)]) ∧ w' = w.alloc (.cells #[sv] 32) := by
  obtain ⟨a, len, cap, rfl⟩ := hsv
  refine callsIn_of_wp Tryz.func86 rfl hf ?_ hro
  simp only [Tryz.ntmps86, List.size_toArray, List.length_cons, List.length_nil, Nat.reduceAdd, Nat.reduceSub, Array.replicate_succ, Array.replicate_zero, List.push_toArray, List.append_toArray, List.nil_append, List.cons_append]
  gi_wp2
  go_ret
  exact ⟨rfl, rfl⟩

/-- The slice value sv holds the scopes, in a block below n₀; or there are none. -/
def ScopesAt (n₀ : Nat) (W : World) (sv : Value) (ls : List Scope) : Prop :=
  (ls = [] ∧ ∃ a cap, sv = .slice a 0 cap) ∨ ∃ b off cap, sv = .slice (some ⟨b, off, none⟩) ls.length cap ∧ b < n₀ ∧
    ∀ (j : Nat) (h : j < ls.length), W.cell? ⟨b, off + j * 3, none⟩ = some (.int .i64 ls[j].kind) ∧ W.cell? ⟨b, off + j * 3 + 1, none⟩ = some (.string ⟨ls[j].key.toArray⟩) ∧ W.cell? ⟨b, off + j * 3 + 2, none⟩ = some (.bool ls[j].not)
theorem ScopesAt.below {n₀ : Nat} {A B : World} (h : Below n₀ A B) {sv : Value} {ls : List Scope} : ScopesAt n₀ A sv ls → ScopesAt n₀ B sv ls
  | .inl e => .inl e
  | .inr ⟨b, off, cap, e, hb, hc⟩ => .inr ⟨b, off, cap, e, hb, fun j hj => ⟨(h.cell (p := ⟨b, off + j * 3, none⟩) hb).trans (hc j hj).1, (h.cell (p := ⟨b, off + j * 3 + 1, none⟩) hb).trans (hc j hj).2.1, (h.cell (p := ⟨b, off + j * 3 + 2, none⟩) hb).trans (hc j hj).2.2⟩⟩
theorem ScopesAt.up {n₀ n₁ : Nat} (hn : n₀ ≤ n₁) {A : World} {sv : Value} {ls : List Scope} : ScopesAt n₀ A sv ls → ScopesAt n₁ A sv ls
  | .inl e => .inl e
  | .inr ⟨b, off, cap, e, hb, hc⟩ => .inr ⟨b, off, cap, e, by omega, hc⟩
theorem ScopesAt.isSlice {n₀ : Nat} {A : World} {sv : Value} {ls : List Scope} (h : ScopesAt n₀ A sv ls) : ∃ a len cap, sv = .slice a len cap := by
  rcases h with ⟨_, a, cap, rfl⟩ | ⟨b, off, cap, rfl, _⟩
  · exact ⟨_, _, _, rfl⟩
  · exact ⟨_, _, _, rfl⟩

theorem back_stops (F : Fence) (n : Nat) (hf : F.fn 151) (hro : F.round = none) (hn : 1 ≤ n) (Bs n₀ : Nat) (sv : Value) (ls : List Scope) (hreach : ls.length ≤ 1000) (w : World) (hBs : Bs < n₀) (hn₀ : n₀ ≤ w.heap.size)
    (hc : w.cell? ⟨Bs, 0, none⟩ = some sv) (hI : ScopesAt n₀ w sv ls) :
    SeqStopsK F n Tryz.prog 151 #[.pointer (some ⟨Bs, 0, none⟩)] (fun x : Fin ls.length => #[Value.int .i64 (x.1 : Int), valS ls[x.1]]) (Below n₀) (fun ys => ys = backL ls.length)
      (fun pre => ∃ k, k ≤ ls.length ∧ pre = (backL ls.length).take k) ls.length w := fun l J Jx W hW _ _ hY h0 => by
  have hc' := ((hW.mono hn₀).cell (p := ⟨Bs, 0, none⟩) hBs).trans hc
  rcases hI.below (hW.mono hn₀) with ⟨h, a, cap, rfl⟩ | ⟨b, off, cap, rfl, hb, hcs⟩
  · subst h
    exact (back1_none F n hf hro l Bs a cap (J []) W hc' h0).mono fun e W' ⟨he, hj⟩ => ⟨he, .inl ⟨_, rfl, hj⟩⟩
  · exact back1_in F n hf hro hn l Bs n₀ b off cap ls hreach hb hBs J Jx hY W hc' hcs h0
end Go.Proofs.YtklnopamfncfgaaGreatDoor
namespace Go.Proofs.YtklnopamfncfgaaGreatDoor
open Go Go.Ab Go.RowKit Go.Shelf
set_option linter.unusedSectionVars false
attribute [local go_sem] Oper.semAt_some
variable [Amb] [HasPow10 Tryz.prog] [HasErrSyntax Tryz.prog]

theorem base_below {S : Nat → Prop} {w w' : World} {B : Nat} (h : Base ⟨S, fun _ => False, 0, fun _ => undef⟩ w) (hB : w.heap.size ≤ B) (hb : Below B w w') : Base ⟨S, fun _ => False, 0, fun _ => undef⟩ w' :=
  ⟨fun b hs => Nat.lt_of_lt_of_le (h.rd b hs) hb.size, fun b hs => hs.elim, fun _ _ hs => hs.elim, Amb.keep h.amb hb.size (fun b hs => hb.block b (Nat.lt_of_lt_of_le (Amb.lt h.amb hs) hB)), fun _ _ hs => hs.elim⟩
theorem base_none {S : Nat → Prop} {w : World} (h : Base ⟨S, fun _ => False, 0, fun _ => undef⟩ w) : Base ⟨fun _ => False, fun _ => False, 0, fun _ => undef⟩ w :=
  ⟨fun _ hs => hs.elim, fun _ hs => hs.elim, fun _ hs => hs.elim, h.amb, fun _ _ hs => hs.elim⟩
theorem flatten_get {α : Type} {size : Nat} (row : α → List CV) (hx : ∀ a, (row a).length = size) (ls : List α) (j m : Nat) (hj : j < ls.length) (hm : m < size) : (ls.map row).flatten[j * size + m]? = (row ls[j])[m]? := by
  have h1 : ∀ x ∈ ls.map row, x.length = size := by
    intro x h
    obtain ⟨a, _, rfl⟩ := List.mem_map.1 h
    exact hx a
  have h2 := flatten_drop h1 j
  rw [← List.getElem?_drop, ← h2, List.drop_eq_getElem_cons (by rw [List.length_map]; exact hj), List.flatten_cons, List.getElem?_append_left (by rw [List.getElem_map, hx]; exact hm), List.getElem_map]
theorem scopes_at {w : World} {S : Nat → Prop} {ls : List Scope} {v : Value} (hS : ∀ b, S b → b < w.heap.size) (h : RepC w S (.list 3 (ls.map Scope.row)) v) : ScopesAt w.heap.size w v ls := by
  generalize he : CV.list 3 (ls.map Scope.row) = c at h
  cases h with
  | list0 a cap size hm hn =>
    injection he with e1 e2
    exact .inl ⟨List.map_eq_nil_iff.1 e2, a, cap, rfl⟩
  | list ad cap size xs U hs hsp hc hm hx hU hr =>
    injection he with e1 e2
    subst e1
    subst e2
    obtain ⟨b, off, spot⟩ := ad
    simp only at hsp
    subst hsp
    refine .inr ⟨b, off, cap, by rw [List.length_map], hS _ hs, fun j hj => ?_⟩
    have hfl : ∀ (m : Nat) (h : m < 3), (ls.map Scope.row).flatten[j * 3 + m]? = (ls[j].row)[m]? := by
      intro m hm
      exact flatten_get Scope.row (fun _ => rfl) ls j m hj hm
    have g0 := hfl 0 (by omega)
    have g1 := hfl 1 (by omega)
    have g2 := hfl 2 (by omega)
    have u0 := hU _ _ (g0.trans rfl)
    have u1 := hU _ _ (g1.trans rfl)
    have u2 := hU _ _ (g2.trans rfl)
    have r0 := hr _ _ (g0.trans rfl)
    have r1 := hr _ _ (g1.trans rfl)
    have r2 := hr _ _ (g2.trans rfl)
    have a0 : (Go.Addr.add ⟨b, off, none⟩ (j * 3 + 0)) = ⟨b, off + j * 3, none⟩ := by simp [Go.Addr.add, Nat.add_assoc]
    have a1 : (Go.Addr.add ⟨b, off, none⟩ (j * 3 + 1)) = ⟨b, off + j * 3 + 1, none⟩ := by simp [Go.Addr.add, Nat.add_assoc]
    have a2 : (Go.Addr.add ⟨b, off, none⟩ (j * 3 + 2)) = ⟨b, off + j * 3 + 2, none⟩ := by simp [Go.Addr.add, Nat.add_assoc]
    rw [a0] at u0
    rw [a1] at u1
    rw [a2] at u2
    generalize U (j * 3 + 0) = v0 at u0 r0
    generalize U (j * 3 + 1) = v1 at u1 r1
    generalize U (j * 3 + 2) = v2 at u2 r2
    refine ⟨?_, ?_, ?_⟩
    · cases r0; exact u0
    · cases r1; exact u1
    · cases r2; exact u2
  | _ => cases he
end Go.Proofs.YtklnopamfncfgaaGreatDoor
namespace Go.Proofs.YtklnopamfncfgaaGreatDoor
open Go Go.Ab Go.RowKit Go.Shelf
set_option linter.unusedSectionVars false
attribute [local go_sem] Oper.semAt_some
variable [Amb] [HasPow10 Tryz.prog] [HasErrSyntax Tryz.prog]

theorem boxed_below {W W' : World} {B n : Nat} {t : TypeId} {v : Value} (h : Boxed W B t v) (hb : Below n W W') (hn : B < n) : Boxed W' B t v := (hb.block B hn).trans h

/-- What is asked of the calls that the function makes, in the kit's words. -/
theorem checkKey_calls (sc : List Scope) (k : List UInt8) {w : World} {S : Nat → Prop} {u0 : Value} (hS : Base ⟨S, fun _ => False, 0, fun _ => undef⟩ w) (h0 : RepC w S (.list 3 (sc.map Scope.row)) u0) (hk : k.length ≤ maxLen) (W : World) (hb : Below w.heap.size w W) :
    Calls Tryz.prog 85 #[u0, .string ⟨k.toArray⟩] W fun e w' => e = .returned (.int .i64 (isF sc k)) ∧ Below W.heap.size W w' := by
  have h1 : RepC W S (.list 3 (sc.map Scope.row)) u0 := h0.mono (fun _ h => h) (fun b h => hb.block b (hS.rd b h))
  refine ((address_checkKey sc k).2 W S #[u0, .string ⟨k.toArray⟩] (base_below hS (Nat.le_refl _) hb) ⟨rfl, fun j x hj => ?_⟩).mono ?_
  · match j, hj with
    | 0, hj => cases hj; exact ⟨_, rfl, h1⟩
    | 1, hj => cases hj; exact ⟨_, rfl, RepC.str k hk⟩
    | j + 2, hj => cases hj
  · rintro e w' ⟨v, rfl, hb', hr, _⟩
    refine ⟨?_, hb'⟩
    have hr' : RepC w' _ (.int .i64 (isF sc k)) v := hr
    cases hr'
    rfl
theorem covers_calls (s : Scope) (k : List UInt8) (h1 : 41 ∈ s.key) (h2 : 41 ∈ k) (hl : s.key.length ≤ 2000) {w : World} {S : Nat → Prop} (hS : Base ⟨S, fun _ => False, 0, fun _ => undef⟩ w) (hk : k.length ≤ maxLen) (W : World) (hb : Below w.heap.size w W) :
    Calls Tryz.prog 87 #[valS s, .string ⟨k.toArray⟩] W fun e w' => e = .returned (.bool (coverB s k)) ∧ Below W.heap.size W w' := by
  refine ((address_covers s k h1 h2 hl).2 W S #[valS s, .string ⟨k.toArray⟩] (base_below hS (Nat.le_refl _) hb) ⟨rfl, fun j x hj => ?_⟩).mono ?_
  · match j, hj with
    | 0, hj =>
      cases hj
      refine ⟨_, rfl, _, rfl, rfl, fun i c hc => ?_⟩
      match i, hc with
      | 0, hc => cases hc; exact ⟨_, rfl, RepC.int _ _⟩
      | 1, hc => cases hc; exact ⟨_, rfl, RepC.str _ (by unfold maxLen; omega)⟩
      | 2, hc => cases hc; exact ⟨_, rfl, RepC.bool _⟩
      | i + 3, hc => cases hc
    | 1, hj => cases hj; exact ⟨_, rfl, RepC.str k hk⟩
    | j + 2, hj => cases hj
  · rintro e w' ⟨v, rfl, hb', hr, _⟩
    refine ⟨?_, hb'⟩
    have hr' : RepC w' _ (.bool (coverB s k)) v := hr
    cases hr'
    rfl
theorem inScope_none {l : List Scope} {k : List UInt8} (h : ∀ x ∈ l, coverB x k = false) : inScopeR k l = false := by
  induction l with
  | nil => rfl
  | cons a r ih =>
    rw [inScopeR, h a (by simp), if_neg (by decide)]
    exact ih fun x hx => h x (by simp [hx])
theorem inScope_hit {a : List Scope} {s : Scope} {r : List Scope} {k : List UInt8} (h : ∀ x ∈ a, coverB x k = false) (hs : coverB s k = true) : inScopeR k (a ++ s :: r) = !s.not := by
  induction a with
  | nil => rw [List.nil_append, inScopeR, if_pos hs]
  | cons b a ih =>
    rw [List.cons_append, inScopeR, h b (by simp), if_neg (by decide)]
    exact ih fun x hx => h x (by simp [hx])
theorem back_map (l : List Scope) : (backL l.length).map (fun i => l[i.1]) = l.reverse := by
  unfold backL
  rw [List.map_reverse]
  congr 1
  apply List.ext_getElem
  · simp
  · intro i h1 h2
    simp
theorem inScope_all {l : List Scope} {k : List UInt8} (h : ∀ x ∈ backL l.length, coverB l[x.1] k = false) : inScopeB l k = false := by
  unfold inScopeB
  rw [← back_map]
  refine inScope_none fun x hx => ?_
  obtain ⟨i, hi, rfl⟩ := List.mem_map.1 hx
  exact h i hi
theorem inScope_at {l : List Scope} {k : List UInt8} {m : Nat} {ini : List (Fin l.length)} {last : Fin l.length} (e : (backL l.length).take m = ini ++ [last]) (h : ∀ x ∈ ini, coverB l[x.1] k = false) (hs : coverB l[last.1] k = true) : inScopeB l k = !l[last.1].not := by
  unfold inScopeB
  rw [← back_map, ← List.take_append_drop m (backL l.length), e, List.map_append, List.map_append, List.append_assoc]
  refine inScope_hit (fun x hx => ?_) hs
  obtain ⟨i, hi, rfl⟩ := List.mem_map.1 hx
  exact h i hi
end Go.Proofs.YtklnopamfncfgaaGreatDoor
namespace Go.Proofs.YtklnopamfncfgaaGreatDoor
open Go Go.Ab Go.RowKit Go.Shelf
set_option linter.unusedSectionVars false
attribute [local go_sem] Oper.semAt_some
variable [Amb] [HasPow10 Tryz.prog] [HasErrSyntax Tryz.prog]

set_option maxRecDepth 100000 in
set_option maxHeartbeats 1000000 in
theorem address_InScope : InScopeDoes := fun sc k => by
  refine ⟨(callable_of Tryz.f41 (by kernel_rfl) (by kernel_rfl) rfl), fun w S vs hS hargs => ?_⟩
  obtain ⟨u0, hu0, hr0⟩ := hargs.2 0 _ rfl
  obtain ⟨u1, hu1, hr1⟩ := hargs.2 1 _ rfl
  have hr1' : RepC w S (.str k) u1 := hr1
  have hk : k.length ≤ maxLen ∧ u1 = .string ⟨k.toArray⟩ := by cases hr1'; exact ⟨by assumption, rfl⟩
  obtain ⟨hk, rfl⟩ := hk
  have hvs : vs = #[u0, .string ⟨k.toArray⟩] := by
    obtain ⟨l⟩ := vs
    have hl := hargs.1
    match l, hl with
    | [a, b], _ =>
      simp only [List.getElem?_toArray, List.getElem?_cons_zero, Option.some.injEq, List.getElem?_cons_succ] at hu0 hu1
      rw [hu0, hu1]
  subst hvs
  have hsc := scopes_at (S := S) hS.rd hr0
  obtain ⟨ad, len, cap, rfl⟩ := hsc.isSlice
  have hck := fun W hb => checkKey_calls sc k hS hr0 hk W hb
  refine (callsIn_wide (n := 4)).1 ?_
  refine callsIn_of_wp_marks Tryz.func41 rfl trivial ?_ rfl
  simp only [Tryz.ntmps41, List.size_toArray, List.length_cons, List.length_nil, Nat.reduceAdd, Nat.reduceSub, Array.replicate_succ, Array.replicate_zero, List.push_toArray, List.append_toArray, List.nil_append, List.cons_append]
  have pre3 : Below w.heap.size w (((w.alloc (.cells #[.string ⟨k.toArray⟩] 9)).alloc (.cells #[.bool false] 4)).alloc (.cells #[.int .i64 0] 24)) :=
    (((Below.refl _ w).alloc (Nat.le_refl _) _).alloc (by simp only [World.size_alloc]; omega) _).alloc (by simp only [World.size_alloc]; omega) _
  have post3 : ∀ w', Below (((w.alloc (.cells #[.string ⟨k.toArray⟩] 9)).alloc (.cells #[.bool false] 4)).alloc (.cells #[.int .i64 0] 24)).heap.size (((w.alloc (.cells #[.string ⟨k.toArray⟩] 9)).alloc (.cells #[.bool false] 4)).alloc (.cells #[.int .i64 0] 24)) w' →
      Boxed w' w.heap.size 9 (.string ⟨k.toArray⟩) ∧ Boxed w' (w.heap.size + 1) 4 (.bool false) ∧ Boxed w' (w.heap.size + 1 + 1) 24 (.int .i64 0) ∧ Below w.heap.size w w' ∧ w.heap.size + 3 ≤ w'.heap.size := by
    intro w' hb
    have b0 := ((Boxed.new w 9 (.string ⟨k.toArray⟩)).alloc (.cells #[.bool false] 4)).alloc (.cells #[.int .i64 0] 24)
    have b1 := (Boxed.new (w.alloc (.cells #[.string ⟨k.toArray⟩] 9)) 4 (.bool false)).alloc (.cells #[.int .i64 0] 24)
    have b2 := Boxed.new ((w.alloc (.cells #[.string ⟨k.toArray⟩] 9)).alloc (.cells #[.bool false] 4)) 24 (.int .i64 0)
    have hs := hb.size
    simp only [World.size_alloc] at b1 b2 hb hs
    exact ⟨boxed_below b0 hb (by omega), boxed_below b1 hb (by omega), boxed_below b2 hb (by omega), pre3.trans (hb.mono (by omega)), hs⟩
  by_cases hF : isF sc k = 0
  rotate_left
  · have hB : isB sc k = false := by unfold isB; rw [if_neg hF]
    rw [hB]
    generalize isF sc k = G at hF hck ⊢
    have hG : (G == 0) = false := by simpa using hF
    gi_wp2_with (refine ⟨trivial, ?_⟩; gi_at_call 85; refine (callsIn_wide.2 (hck _ pre3)).mono ?_; rintro e w' ⟨rfl, hb1⟩; obtain ⟨bK, b4, b5, hb2, hs2⟩ := post3 w' hb1; have c4 := b4.cell; have f4 := b4.frozen; have c5 := b5.cell; have f5 := b5.frozen)
    refine ⟨.tuple #[.bool false, .int .i64 G], ?_, _, rfl, ?_, ?_, ?_⟩
    · have c4' := (b4.set (.bool false)).cell
      have h5 : Boxed (w'.setCell ⟨w.heap.size + 1, 0, none⟩ (.bool false)) (w.heap.size + 1 + 1) 24 (.int .i64 0) := b5.other (B' := w.heap.size + 1) (by omega) (.bool false)
      have c5' := (h5.set (.int .i64 G)).cell
      have c4'' := ((b4.set (.bool false)).other (B' := w.heap.size + 1 + 1) (by omega) (.int .i64 G)).cell
      simp [results, Tryz.f41, go_sem, c4'', c5']
    · exact (hb2.setCell (p := ⟨w.heap.size + 1, 0, none⟩) (by simp) _).setCell (p := ⟨w.heap.size + 1 + 1, 0, none⟩) (by simp; omega) _
    · refine ⟨_, rfl, rfl, fun j x hj => ?_⟩
      match j, hj with
      | 0, hj => cases hj; exact ⟨_, rfl, RepC.bool _⟩
      | 1, hj => cases hj; exact ⟨_, rfl, RepC.int _ _⟩
      | j + 2, hj => cases hj
    · intro b hb; cases hb
  · have hsF : scopesF sc = 0 := by
      unfold isF at hF
      by_cases h : scopesF sc = 0
      · exact h
      · rw [if_pos h] at hF; exact hF
    have hoF : ofKeyF k = 0 := by unfold isF at hF; rw [if_neg (fun h => h hsF)] at hF; exact hF
    have hB : isB sc k = inScopeB sc k := by unfold isB; rw [if_pos hF]
    rw [hB, hF]
    simp only [hF] at hck
    obtain ⟨hlen, hkeys⟩ := scopesF_ok hsF
    have hk41 : 41 ∈ k := keyOk_41 (ofKeyF_ok hoF).2
    have hcv := fun (x : Fin sc.length) W hb => covers_calls sc[x.1] k (keyOk_41 (ofKeyF_ok (hkeys _ (List.getElem_mem x.2))).2) hk41 (ofKeyF_ok (hkeys _ (List.getElem_mem x.2))).1 hS hk W hb
    gi_wp2_with (first | (refine ⟨trivial, ?_⟩; gi_at_call 85; refine (callsIn_wide.2 (hck _ pre3)).mono ?_; rintro e w' ⟨rfl, hb1⟩) | (refine ⟨trivial, ?_⟩; gi_at_call 86; refine (backward_in Fence.wide _ trivial rfl _ ⟨_, _, _, rfl⟩ _).mono ?_; rintro e w'' ⟨rfl, rfl⟩))
    obtain ⟨bK, b4, b5, hb2, hs2⟩ := post3 _ hb1
    obtain ⟨W0, hW0⟩ : ∃ W0, w'.alloc (.cells #[.slice ad len cap] 32) = W0 := ⟨_, rfl⟩
    have bN := Boxed.new w' 32 (.slice ad len cap)
    replace bK := bK.alloc (.cells #[.slice ad len cap] 32)
    replace b4 := b4.alloc (.cells #[.slice ad len cap] 32)
    replace b5 := b5.alloc (.cells #[.slice ad len cap] 32)
    have hB0 : Below w.heap.size w (w'.alloc (.cells #[.slice ad len cap] 32)) := hb2.alloc (by omega) _
    have hsz : (w'.alloc (.cells #[.slice ad len cap] 32)).heap.size = w'.heap.size + 1 := by simp
    rw [hW0] at bN bK b4 b5 hB0 hsz ⊢
    clear hW0
    have hscW : ScopesAt W0.heap.size W0 (.slice ad len cap) sc := (hsc.below hB0).up (by omega)
    refine wpIn_rangeFunc_ownH (F := Fence.wide) (n := 4) rfl (by omega) (gf := 151) (lb := #[.pointer (some ⟨w'.heap.size, 0, none⟩)]) rfl trivial (enters_of Tryz.func151 (by kernel_rfl) rfl)
      (back_stops Fence.wide 3 trivial rfl (by omega) w'.heap.size W0.heap.size (.slice ad len cap) sc (by omega) W0 (by omega) (Nat.le_refl _) bN.cell hscW) belowK_t (belowK_b (Nat.le_refl _)) (Below.refl _ _) (fun _ => rfl)
      (fun pre W => (((((∀ x ∈ pre, coverB sc[x.1] k = false) ∧ Boxed W w.heap.size 9 (.string ⟨k.toArray⟩)) ∧ Boxed W (w.heap.size + 1) 4 (.bool false)) ∧ Boxed W (w.heap.size + 1 + 1) 24 (.int .i64 0)) ∧ Below w.heap.size w W) ∧ W0.heap.size ≤ W.heap.size)
      (fun c pre W => (((c = .ret ∧ ∃ ini last, pre = ini ++ [last] ∧ (∀ x ∈ ini, coverB sc[x.1] k = false) ∧ coverB sc[last.1] k = true ∧ Boxed W (w.heap.size + 1) 4 (.bool (!sc[last.1].not)))) ∧ Boxed W (w.heap.size + 1 + 1) 24 (.int .i64 0)) ∧ Below w.heap.size w W)
      (OwnFrom.and (OwnFrom.and (OwnFrom.and (OwnFrom.and (OwnFrom.and (ownFrom_pure _ _) (Own.from (boxed_own _ _ _) _)) (Own.from (boxed_own _ _ _) _)) (Own.from (boxed_own _ _ _) _)) (ownFrom_below (Nat.le_refl _) (by omega))) (fun s A B row hs hg hr => Nat.le_trans hs hg.size))
      (fun c => OwnFrom.and (OwnFrom.and (by intro s A B row hs hg hr; obtain ⟨hc, ini, last, e1, e2, e3, e4⟩ := hs; exact ⟨hc, ini, last, e1, e2, e3, boxed_own _ _ (fun (_ : Unit) => Value.bool (!sc[last.1].not)) () A B row e4 hg (fun r e => (hr r e).2)⟩) (Own.from (boxed_own _ _ _) _)) (ownFrom_below (Nat.le_refl _) (by omega)))
      ⟨⟨⟨⟨⟨by simp, bK⟩, b4⟩, b5⟩, hB0⟩, Nat.le_refl _⟩
      (fun x a' W => ∃ Bx, W0.heap.size ≤ Bx ∧ W.heap[Bx]? = some (.cells #[.int .i64 sc[x.1].kind, .string ⟨sc[x.1].key.toArray⟩, .bool sc[x.1].not] 131 (0, 0)) ∧ a' = { tmps := #[.slice ad len cap, .string ⟨k.toArray⟩, undef, .pointer (some ⟨w.heap.size, 0, none⟩), .pointer (some ⟨w.heap.size + 1, 0, none⟩), .pointer (some ⟨w.heap.size + 1 + 1, 0, none⟩), .int .i64 0, undef, .pointer (some ⟨Bx, 0, none⟩), .slice ad len cap, .string ⟨k.toArray⟩, .int .i64 0, .int .i64 0, .bool false, undef, .slice ad len cap, .func (.func 151) #[] #[.pointer (some ⟨w'.heap.size, 0, none⟩)], .int .i64 (x.1 : Int), valS sc[x.1], undef, undef, undef, undef, undef, undef], defers := [] })
      (fun x a' _ X Y row hs hg hr => by
        obtain ⟨Bx, e1, e2, e3⟩ := hs
        refine ⟨Bx, e1, (hg.block Bx (Array.getElem?_eq_some_iff.1 e2).1 (fun e => ?_)).trans e2, e3⟩
        obtain ⟨_, o, ho, hc⟩ := hr Bx e.symm
        rw [e2] at ho; cases ho; cases hc)
      ?assign ?body ?done ?stop
    case assign =>
      rintro l pre x W K ⟨⟨⟨⟨⟨hp, bK1⟩, b41⟩, b51⟩, hB1⟩, hW1⟩ hK
      simp only [valS]
      gi_wp2
      exact hK _ _ ((KeepsOthers.alloc _ _).from _) ((Below.refl _ W).alloc hW1 _) ⟨⟨⟨⟨⟨hp, bK1.alloc _⟩, b41.alloc _⟩, b51.alloc _⟩, hB1.alloc (by omega) _⟩, by simp; omega⟩ ⟨W.heap.size, hW1, World.alloc_heap_new W _, rfl⟩
    case body =>
      rintro l pre x a' W hl ⟨r, hr⟩ ⟨⟨⟨⟨⟨hp, bK1⟩, b41⟩, b51⟩, hB1⟩, hW1⟩ ⟨Bx, hBx, bX, rfl⟩ hlt
      have cK := bK1.cell
      have c4 := b41.cell
      have f4 := b41.frozen
      have c5 := b51.cell
      have f5 := b51.frozen
      have x0 : W.cell? ⟨Bx, 0, none⟩ = some (.int .i64 sc[x.1].kind) := by simp [World.cell?, bX]
      have x1 : W.cell? ⟨Bx, 1, none⟩ = some (.string ⟨sc[x.1].key.toArray⟩) := by simp [World.cell?, bX]
      have x2 : W.cell? ⟨Bx, 2, none⟩ = some (.bool sc[x.1].not) := by simp [World.cell?, bX]
      have hcx := hcv x W hB1
      simp only [valS] at hcx
      gi_wp2_with (refine ⟨trivial, ?_⟩; gi_at_call 87; refine (CallsIn.inRound l (callsIn_wide.2 hcx)).mono ?_; rintro e W2 ⟨rfl, hb3⟩; have bK2 := boxed_below bK1 hb3 bK1.lt; have b42 := boxed_below b41 hb3 b41.lt; have b52 := boxed_below b51 hb3 b51.lt; have d4 := b42.cell; have g4 := b42.frozen; have d5 := b52.cell; have g5 := b52.frozen; have y2 := (hb3.cell (p := ⟨Bx, 2, none⟩) (Array.getElem?_eq_some_iff.1 bX).1).trans x2)
      · have hkf : KeepsFrom W0.heap.size W W2 := ⟨hb3.size, fun k o _ hk _ => (hb3.block k (Array.getElem?_eq_some_iff.1 hk).1).trans hk⟩
        have hcov : coverB sc[x.1] k = true := by assumption
        refine ⟨(hkf.trans ((KeepsOthers.setCell _ _ _).from _)).trans ((KeepsOthers.setCell _ _ _).from _), ⟨⟨rfl, pre, x, rfl, hp, hcov, ?_⟩, ?_⟩, ?_⟩
        · exact (b42.set _).other (by omega) _
        · exact (b52.other (by omega) _).set _
        · exact ((hB1.trans (hb3.mono hB1.size)).setCell (p := ⟨w.heap.size + 1, 0, none⟩) (by simp) _).setCell (p := ⟨w.heap.size + 1 + 1, 0, none⟩) (by simp; omega) _
      · have hkf : KeepsFrom W0.heap.size W W2 := ⟨hb3.size, fun k o _ hk _ => (hb3.block k (Array.getElem?_eq_some_iff.1 hk).1).trans hk⟩
        have hcov : coverB sc[x.1] k = false := by simp_all
        exact ⟨hkf, hb3.mono hW1, ⟨⟨⟨⟨fun y hy => (List.mem_append.1 hy).elim (hp y) (fun e => by simp at e; subst e; exact hcov), bK2⟩, b42⟩, b52⟩, hB1.trans (hb3.mono hB1.size)⟩, Nat.le_trans hW1 hb3.size⟩
    case done =>
      rintro D ys W hD rfl ⟨⟨⟨⟨⟨hp, bK1⟩, b41⟩, b51⟩, hB1⟩, hW1⟩ hK
      have c4 := b41.cell
      have f4 := b41.frozen
      have c5 := b51.cell
      have f5 := b51.frozen
      gi_wp2
      have hK' := (KeepsOthers.setCell (W.setCell ⟨w.heap.size + 1, 0, none⟩ (.bool false)) ⟨w.heap.size + 1 + 1, 0, none⟩ (.int .i64 0)).same D _ ((KeepsOthers.setCell W ⟨w.heap.size + 1, 0, none⟩ (.bool false)).same D _ hK rfl) rfl
      refine ⟨by simp, .inl ⟨_, _, rfl, run_takeDeferred hK', ?_⟩⟩
      have h4 := cell_kept (((b41.set (.bool false)).other (B' := w.heap.size + 1 + 1) (by omega) (.int .i64 0)).cell) (grownBy_putObj' _ D (.deferred none)) (fun r e => by cases e; exact ⟨_, hK', rfl⟩)
      have h5 := cell_kept (((b51.other (B' := w.heap.size + 1) (by omega) (.bool false)).set (.int .i64 0)).cell) (grownBy_putObj' _ D (.deferred none)) (fun r e => by cases e; exact ⟨_, hK', rfl⟩)
      refine ⟨.tuple #[.bool false, .int .i64 0], ?_, _, rfl, ?_, ?_, ?_⟩
      · simp [results, Tryz.f41, go_sem, h4, h5]
      · exact ((hB1.setCell (p := ⟨w.heap.size + 1, 0, none⟩) (by simp) _).setCell (p := ⟨w.heap.size + 1 + 1, 0, none⟩) (by simp; omega) _).trans (belowK_b (w := w) (Nat.le_refl _) _ D _ _ (by omega) hK' rfl rfl)
      · rw [inScope_all hp]
        refine ⟨_, rfl, rfl, fun j x hj => ?_⟩
        match j, hj with
        | 0, hj => cases hj; exact ⟨_, rfl, RepC.bool _⟩
        | 1, hj => cases hj; exact ⟨_, rfl, RepC.int _ _⟩
        | j + 2, hj => cases hj
      · intro b hb; cases hb
    case stop =>
      rintro D c pre W hD ⟨m, hm, rfl⟩ ⟨⟨⟨rfl, ini, last, e1, e2, e3, b41⟩, b51⟩, hB1⟩ hK
      gi_wp2
      refine ⟨by simp, .inl ⟨_, _, rfl, run_takeDeferred hK, ?_⟩⟩
      have h4 := cell_kept b41.cell (grownBy_putObj' _ D (.deferred none)) (fun r e => by cases e; exact ⟨_, hK, rfl⟩)
      have h5 := cell_kept b51.cell (grownBy_putObj' _ D (.deferred none)) (fun r e => by cases e; exact ⟨_, hK, rfl⟩)
      refine ⟨.tuple #[.bool (!sc[last.1].not), .int .i64 0], ?_, _, rfl, ?_, ?_, ?_⟩
      · simp [results, Tryz.f41, go_sem, h4, h5]
      · exact hB1.trans (belowK_b (w := w) (Nat.le_refl _) _ D _ _ (by omega) hK rfl rfl)
      · rw [inScope_at e1 e2 e3]
        refine ⟨_, rfl, rfl, fun j x hj => ?_⟩
        match j, hj with
        | 0, hj => cases hj; exact ⟨_, rfl, RepC.bool _⟩
        | 1, hj => cases hj; exact ⟨_, rfl, RepC.int _ _⟩
        | j + 2, hj => cases hj
      · intro b hb; cases hb
end Go.Proofs.YtklnopamfncfgaaGreatDoor
namespace Go.Proofs.YtklnopamfncfgaaGreatDoor
open Go Go.Ab
set_option linter.unusedSectionVars false
variable [Amb]

/-! ### The order of strings and of entries -/
theorem ltB_irrefl : ∀ a : List UInt8, ltB a a = false
  | [] => rfl
  | a :: x => by
    have ih := ltB_irrefl x
    unfold ltB at ih ⊢
    simp [Op.bytesLess, ih]
theorem ltB_trans : ∀ {a b c : List UInt8}, ltB a b = true → ltB b c = true → ltB a c = true
  | a, b, [], _, h2 => by unfold ltB at h2; cases b <;> simp [Op.bytesLess] at h2
  | a, [], c :: z, h1, _ => by unfold ltB at h1; cases a <;> simp [Op.bytesLess] at h1
  | [], b :: y, c :: z, _, _ => by simp [ltB, Op.bytesLess]
  | a :: x, b :: y, c :: z, h1, h2 => by
    have ih := @ltB_trans x y z
    unfold ltB at h1 h2 ih ⊢
    simp only [Op.bytesLess, Bool.or_eq_true, decide_eq_true_eq, Bool.and_eq_true, beq_iff_eq] at h1 h2 ⊢
    rcases h1 with h1 | ⟨rfl, h1⟩
    · rcases h2 with h2 | ⟨rfl, h2⟩
      · exact .inl (UInt8.lt_trans h1 h2)
      · exact .inl h1
    · rcases h2 with h2 | ⟨rfl, h2⟩
      · exact .inl h2
      · exact .inr ⟨rfl, ih h1 h2⟩
theorem ltB_total : ∀ {a b : List UInt8}, ltB a b = false → ltB b a = false → a = b
  | [], [], _, _ => rfl
  | [], b :: y, h, _ => by simp [ltB, Op.bytesLess] at h
  | a :: x, [], _, h => by simp [ltB, Op.bytesLess] at h
  | a :: x, b :: y, h1, h2 => by
    have ih := @ltB_total x y
    unfold ltB at h1 h2 ih
    simp only [Op.bytesLess, Bool.or_eq_false_iff, decide_eq_false_iff_not] at h1 h2
    have hab : a = b := UInt8.le_antisymm (UInt8.not_lt.1 h2.1) (UInt8.not_lt.1 h1.1)
    subst hab
    simp only [BEq.rfl, Bool.true_and] at h1 h2
    rw [ih h1.2 h2.2]
theorem ltB_asymm {a b : List UInt8} (h : ltB a b = true) : ltB b a = false := by
  cases hb : ltB b a with
  | false => rfl
  | true => have := ltB_trans h hb; rw [ltB_irrefl] at this; cases this
theorem cmpB_neg {a b : List UInt8} : Lib.compareBytes a b < 0 ↔ ltB a b = true := by
  rw [cmpB_eq]
  split
  · simp [*]
  · rename_i h
    split <;> simp [h]
theorem cmpB_zero {a b : List UInt8} : Lib.compareBytes a b = 0 ↔ a = b := by
  rw [cmpB_eq]
  split
  · rename_i h
    simp
    rintro rfl
    rw [ltB_irrefl] at h; cases h
  · split <;> simp [*]
theorem cmpB_pos {a b : List UInt8} : 0 < Lib.compareBytes a b ↔ ltB b a = true := by
  rw [cmpB_eq]
  split
  · rename_i h; simp [ltB_asymm h]
  · rename_i h
    split
    · rename_i h2; subst h2; simp [ltB_irrefl]
    · rename_i h2
      simp
      cases hb : ltB b a with
      | true => rfl
      | false => exact absurd (ltB_total (by simpa using h) hb) h2
theorem cmpI_neg {a b : Int} : cmpI a b < 0 ↔ a < b := by unfold cmpI; split <;> (try split) <;> omega
theorem cmpI_zero {a b : Int} : cmpI a b = 0 ↔ a = b := by unfold cmpI; split <;> (try split) <;> omega
theorem cmpI_pos {a b : Int} : 0 < cmpI a b ↔ b < a := by unfold cmpI; split <;> (try split) <;> omega

theorem firstNZ_lt {a b c d : Int} : firstNZ [a, b, c, d] < 0 ↔ a < 0 ∨ (a = 0 ∧ (b < 0 ∨ (b = 0 ∧ (c < 0 ∨ (c = 0 ∧ d < 0))))) := by
  simp only [firstNZ]
  split <;> (try split) <;> (try split) <;> (try split) <;> omega
theorem firstNZ_eq {a b c d : Int} : firstNZ [a, b, c, d] = 0 ↔ a = 0 ∧ b = 0 ∧ c = 0 ∧ d = 0 := by
  simp only [firstNZ]
  split <;> (try split) <;> (try split) <;> (try split) <;> omega
/-- a comes ahead of b. -/
def Before (a b : Entry) : Prop := ltB a.key b.key = true ∨ (a.key = b.key ∧ (a.time < b.time ∨ (a.time = b.time ∧ (ltB a.file b.file = true ∨ (a.file = b.file ∧ a.lo < b.lo)))))
theorem cmpE_neg {a b : Entry} : cmpE a b < 0 ↔ Before a b := by
  unfold cmpE cmpL Before
  rw [firstNZ_lt, cmpB_neg, cmpB_zero, cmpI_neg, cmpI_zero, cmpB_neg, cmpB_zero, cmpI_neg]
theorem Before.trans {a b c : Entry} (h1 : Before a b) (h2 : Before b c) : Before a c := by
  unfold Before at *
  rcases h1 with h1 | ⟨e1, h1⟩
  · rcases h2 with h2 | ⟨e2, _⟩
    · exact .inl (ltB_trans h1 h2)
    · exact .inl (e2 ▸ h1)
  · rcases h2 with h2 | ⟨e2, h2⟩
    · exact .inl (e1 ▸ h2)
    · refine .inr ⟨e1.trans e2, ?_⟩
      rcases h1 with h1 | ⟨t1, h1⟩
      · rcases h2 with h2 | ⟨t2, _⟩ <;> exact .inl (by omega)
      · rcases h2 with h2 | ⟨t2, h2⟩
        · exact .inl (by omega)
        · refine .inr ⟨t1.trans t2, ?_⟩
          rcases h1 with h1 | ⟨f1, h1⟩
          · rcases h2 with h2 | ⟨f2, _⟩
            · exact .inl (ltB_trans h1 h2)
            · exact .inl (f2 ▸ h1)
          · rcases h2 with h2 | ⟨f2, h2⟩
            · exact .inl (f1 ▸ h2)
            · exact .inr ⟨f1.trans f2, by omega⟩

/-- Each ahead of what follows. -/
abbrev Sorted (l : List Entry) : Prop := l.Pairwise Before
theorem pairF_sorted : ∀ {l : List Entry} {p : Option Entry}, pairF p l = 0 → Sorted l ∧ (∀ q, p = some q → ∀ x ∈ l, Before q x) ∧ ∀ x ∈ l, entryF x = 0
  | [], p, _ => ⟨.nil, fun q _ x hx => (by cases hx), fun x hx => (by cases hx)⟩
  | e :: r, none, h => by
    simp only [pairF] at h
    split at h
    · rename_i he
      obtain ⟨h1, h2, h3⟩ := pairF_sorted h
      exact ⟨.cons (h2 e rfl) h1, fun q hq => (by cases hq), fun x hx => by rcases List.mem_cons.1 hx with rfl | hx; exact he; exact h3 x hx⟩
    · exact absurd h (by assumption)
  | e :: r, some q, h => by
    simp only [pairF] at h
    split at h
    · rename_i he
      split at h
      · cases h
      · split at h
        · cases h
        · rename_i h4 h5
          obtain ⟨h1, h2, h3⟩ := pairF_sorted h
          have hqe : Before q e := cmpE_neg.1 (by omega)
          refine ⟨.cons (h2 e rfl) h1, fun q' hq => ?_, fun x hx => by rcases List.mem_cons.1 hx with rfl | hx; exact he; exact h3 x hx⟩
          injection hq with hq
          subst hq
          intro x hx
          rcases List.mem_cons.1 hx with rfl | hx
          · exact hqe
          · exact hqe.trans (h2 e rfl x hx)
    · exact absurd h (by assumption)
theorem entriesF_sorted {l : List Entry} (h : entriesF l = 0) : Sorted l ∧ ∀ x ∈ l, entryF x = 0 := by
  unfold entriesF at h
  split at h
  · cases h
  · obtain ⟨h1, _, h2⟩ := pairF_sorted h; exact ⟨h1, h2⟩
theorem Before.key {a b : Entry} (h : Before a b) : ltB b.key a.key = false := by
  rcases h with h | ⟨e, _⟩
  · exact ltB_asymm h
  · rw [e]; exact ltB_irrefl _
end Go.Proofs.YtklnopamfncfgaaGreatDoor
namespace Go.Proofs.YtklnopamfncfgaaGreatDoor
open Go Go.Ab
set_option linter.unusedSectionVars false
variable [Amb]
set_option maxRecDepth 100000
set_option maxHeartbeats 4000000

abbrev funcV (f : Nat) : XV := .one (.atom (.func (.func f) #[] #[]))

theorem index_of1 (e : Entry) (k : List UInt8) : ACalls Tryz.prog 167 [.agg e.row, .one (.str k)] (.x (.one (.int .i64 (Lib.compareBytes e.key k)))) := by
  refine ACalls.of mixed (fn := Tryz.f167) (by kernel_rfl) (by kernel_rfl) rfl (by kernel_rfl) (by simp [Tryz.f167]) (fun hok => ?_)
  simp -implicitDefEqProofs +contextual [-Bool.and_eq_false_imp, Bool.and_eq_false_iff]
  refine ACallK.of (strings_Compare _ _) ?_
  simp -implicitDefEqProofs +contextual [-Bool.and_eq_false_imp, Bool.and_eq_false_iff]

/-- How many entries come ahead of a key. -/
def lowerB (l : List Entry) (k : List UInt8) : Nat := (l.takeWhile fun e => ltB e.key k).length
theorem lowerB_eq {l : List Entry} {k : List UInt8} {i : Nat} (hi : i ≤ l.length) (h1 : ∀ (j : Nat) (x : Entry), j < i → l[j]? = some x → ltB x.key k = true) (h2 : ∀ x, l[i]? = some x → ltB x.key k = false) : lowerB l k = i := by
  induction l generalizing i with
  | nil => simp at hi; subst hi; rfl
  | cons a r ih =>
    unfold lowerB at ih ⊢
    cases i with
    | zero =>
      have := h2 a rfl
      rw [List.takeWhile_cons_of_neg (by simp [this])]; rfl
    | succ i =>
      have := h1 0 a (by omega) rfl
      rw [List.takeWhile_cons_of_pos (by exact this), List.length_cons, ih (by simpa using hi) (fun j x hj hx => h1 (j + 1) x (by omega) (by simpa using hx)) (fun x hx => h2 x (by simpa using hx))]

theorem BinarySearch (l : List Entry) (k : List UInt8) (hs : Sorted l) (hb : l.length ≤ 3000) : ACalls Tryz.prog 166 [entries l, .one (.str k), funcV 167] (.tup [.one (.int .i64 (lowerB l k)), .one (.bool (match l[lowerB l k]? with | some x => decide (x.key = k) | none => false))]) := by
  refine ACalls.of mixed (fn := Tryz.f166) (by kernel_rfl) (by kernel_rfl) rfl (by kernel_rfl) (by simp [Tryz.f166]) (fun hok => ?_)
  have hmono : ∀ i j (hj : j < l.length) (hij : i ≤ j), ltB l[j].key k = true → ltB l[i].key k = true := by
    intro i j hj hij h
    by_cases he : i = j
    · subst he; exact h
    · have := (List.pairwise_iff_getElem.1 hs) i j (by omega) hj (by omega)
      cases hb : ltB l[i].key k with
      | true => rfl
      | false =>
        have h2 := this.key
        cases hc : ltB l[i].key l[j].key with
        | true => rw [ltB_trans hc h] at hb; cases hb
        | false => rw [ltB_total hc h2] at hb; rw [hb] at h; cases h
  simp -implicitDefEqProofs +contextual [-Bool.and_eq_false_imp, Bool.and_eq_false_iff]
  refine ALoopS.of (Nat × Nat) (fun i => [(0, .x (.one (.list 9 (l.map Entry.row)))), (1, .x (.one (.str k))), (2, .x (funcV 167)), (8, .x (.one (.int .i64 l.length))), (9, .x (.one (.int .i64 i.1))), (10, .x (.one (.int .i64 i.2)))])
    (fun i => i.1 ≤ i.2 ∧ i.2 ≤ l.length ∧ (∀ (j : Nat) (h : j < l.length), j < i.1 → ltB l[j].key k = true) ∧ (∀ (j : Nat) (h : j < l.length), i.2 ≤ j → ltB l[j].key k = false)) (fun i => i.2 - i.1) (0, l.length) ⟨Nat.zero_le _, Nat.le_refl _, by intro j h hj; omega, by intro j h hj; simp only at hj; omega⟩ ?_ ?_
  · simp
  rintro ⟨i, j⟩ ⟨h1, h2, h3, h4⟩
  simp only at h1 h2 h3 h4
  by_cases hlt : i < j
  · have hm : IntKind.i64.wrap ((IntKind.u64.wrap (IntKind.i64.wrap ((i : Int) + j))).fdiv (2 ^ min 1 IntKind.u64.bits)) = (((i + j) / 2 : Nat) : Int) := by
      rw [wrapS ((i : Int) + j) (by omega)]
      have : IntKind.u64.wrap ((i : Int) + j) = (i : Int) + j := by simp [IntKind.wrap, IntKind.signed, IntKind.bits]; omega
      rw [this]
      have : ((i : Int) + j).fdiv (2 ^ min 1 IntKind.u64.bits) = ((i + j) / 2 : Nat) := by
        show ((i : Int) + j).fdiv 2 = _
        rw [Int.fdiv_eq_ediv_of_nonneg _ (by omega)]; omega
      rw [this]
      exact wrapS _ (by omega)
    obtain ⟨m, em⟩ : ∃ m, m = (i + j) / 2 := ⟨_, rfl⟩
    rw [← em] at hm
    have hml : m < l.length := by omega
    simp -implicitDefEqProofs +contextual [-Bool.and_eq_false_imp, Bool.and_eq_false_iff, hlt, hm, hml]
    refine ACallK.of (index_of1 _ _) ?_
    have hc := cmpB_neg (a := l[m].key) (b := k)
    simp -implicitDefEqProofs +contextual [-Bool.and_eq_false_imp, Bool.and_eq_false_iff]
    refine ⟨fun h => ?_, fun h => ?_⟩
    · refine Again.of (m + 1, j) ⟨by simp only; omega, h2, fun x hx hxm => hmono x m hml (by simp only at hxm; omega) (hc.1 h), h4⟩ (by simp only; omega) ?_
      simp
      exact wrapS _ (by omega)
    · refine Again.of (i, m) ⟨by simp only; omega, by simp only; omega, h3, fun x hx hxm => ?_⟩ (by simp only; omega) ?_
      · simp only at hxm
        cases hb : ltB l[x].key k with
        | false => rfl
        | true => have := hmono m x hx hxm hb; rw [← hc] at this; omega
      · simp
  · have hij : i = j := by omega
    subst hij
    have hlo : lowerB l k = i := lowerB_eq h2 (fun x y hx hy => by
      obtain ⟨hlt', rfl⟩ := List.getElem?_eq_some_iff.1 hy
      exact h3 x hlt' hx) (fun y hy => by
      obtain ⟨hlt', rfl⟩ := List.getElem?_eq_some_iff.1 hy
      exact h4 i hlt' (Nat.le_refl _))
    rw [hlo]
    by_cases hil : i < l.length
    · simp -implicitDefEqProofs +contextual [-Bool.and_eq_false_imp, Bool.and_eq_false_iff, hil]
      refine ACallGS.of (fun _ => index_of1 _ _) rfl ?_
      have hc := cmpB_zero (a := l[i].key) (b := k)
      simp -implicitDefEqProofs +contextual [-Bool.and_eq_false_imp, Bool.and_eq_false_iff, hil]
      rw [Bool.eq_iff_iff]
      simp [hc]
    · simp -implicitDefEqProofs [hil]
      refine ACallGS.of (r := .x (.one (.int .i64 0))) (fun h => by cases h) rfl ?_
      simp -implicitDefEqProofs +contextual [-Bool.and_eq_false_imp, Bool.and_eq_false_iff, hil]

/-- The entries with a key. -/
def withKey (l : List Entry) (k : List UInt8) : List Entry := l.filter fun e => decide (e.key = k)

theorem takeWhile_eq {α : Type} (p : α → Bool) : ∀ (l : List α) (i : Nat), i ≤ l.length → (∀ (j : Nat) (x : α), j < i → l[j]? = some x → p x = true) → (∀ x, l[i]? = some x → p x = false) → l.takeWhile p = l.take i
  | [], i, hi, _, _ => by simp
  | a :: r, 0, _, _, h2 => by rw [List.takeWhile_cons_of_neg (by simp [h2 a rfl])]; rfl
  | a :: r, i + 1, hi, h1, h2 => by
    rw [List.takeWhile_cons_of_pos (h1 0 a (by omega) rfl), takeWhile_eq p r i (by simpa using hi) (fun j x hj hx => h1 (j + 1) x (by omega) (by simpa using hx)) (fun x hx => h2 x (by simpa using hx))]
    rfl
/-- In a sorted list the entries with a key lie together. -/
theorem withKey_sorted {k : List UInt8} : ∀ {l : List Entry}, Sorted l → withKey l k = (l.drop (lowerB l k)).takeWhile fun e => decide (e.key = k)
  | [], _ => rfl
  | a :: r, h => by
    have hr := List.pairwise_cons.1 h
    unfold withKey lowerB
    by_cases hlt : ltB a.key k = true
    · have hne : ¬ a.key = k := by rintro rfl; rw [ltB_irrefl] at hlt; cases hlt
      rw [List.takeWhile_cons_of_pos (by exact hlt), List.length_cons, List.drop_succ_cons, List.filter_cons_of_neg (by simp [hne])]
      exact withKey_sorted hr.2
    · rw [List.takeWhile_cons_of_neg (by exact hlt), List.length_nil, List.drop_zero]
      by_cases he : a.key = k
      · rw [List.filter_cons_of_pos (by simp [he]), List.takeWhile_cons_of_pos (by simp [he])]
        congr 1
        have := withKey_sorted (k := k) hr.2
        unfold withKey at this
        rw [this]
        have h0 : lowerB r k = 0 := lowerB_eq (Nat.zero_le _) (fun j x hj => by omega) (fun x hx => by
          have := (hr.1 x (List.mem_of_getElem? hx)).key
          rw [he] at this; exact this)
        rw [h0, List.drop_zero]
      · rw [List.filter_cons_of_neg (by simp [he]), List.takeWhile_cons_of_neg (by simp [he])]
        rw [List.filter_eq_nil_iff]
        intro x hx
        simp only [decide_eq_true_eq]
        rintro rfl
        have h1 := (hr.1 x hx).key
        exact he (ltB_total (by simpa using hlt) h1)

theorem index_of' (l : List Entry) (k : List UInt8) (hs : Sorted l) (hb : l.length ≤ 3000) : ACalls Tryz.prog 96 [entries l, .one (.str k)] (.x (entries (withKey l k))) := by
  refine ACalls.of mixed (fn := Tryz.f96) (by kernel_rfl) (by kernel_rfl) rfl (by kernel_rfl) (by simp [Tryz.f96]) (fun hok => ?_)
  simp -implicitDefEqProofs +contextual [-Bool.and_eq_false_imp, Bool.and_eq_false_iff]
  refine ACallK.of (BinarySearch l k hs hb) ?_
  have hlo : lowerB l k ≤ l.length := by
    unfold lowerB
    exact (List.takeWhile_sublist _).length_le
  rw [withKey_sorted hs]
  generalize lowerB l k = lo at hlo
  simp -implicitDefEqProofs +contextual [-Bool.and_eq_false_imp, Bool.and_eq_false_iff]
  refine ALoopS.of Nat (fun i => [(0, .x (.one (.list 9 (l.map Entry.row)))), (1, .x (.one (.str k))), (5, .x (.one (.int .i64 lo))), (7, .x (.one (.int .i64 i)))]) (fun i => lo ≤ i ∧ i ≤ l.length ∧ ∀ (j : Nat) (x : Entry), lo ≤ j → j < i → l[j]? = some x → x.key = k) (fun i => l.length - i) lo ⟨Nat.le_refl _, hlo, fun j x h1 h2 => by omega⟩ ?_ ?_
  · simp
  rintro i ⟨h1, h2, h3⟩
  have hend : (∀ x, l[i]? = some x → ¬ x.key = k) → (l.drop lo).takeWhile (fun e => decide (e.key = k)) = (l.take i).drop lo := by
    intro hx
    rw [takeWhile_eq _ (l.drop lo) (i - lo) (by simp; omega) (fun j x hj hjx => by
      rw [List.getElem?_drop] at hjx
      simp [h3 (lo + j) x (by omega) (by omega) hjx]) (fun x hjx => by
      rw [List.getElem?_drop, show lo + (i - lo) = i by omega] at hjx
      simp [hx x hjx])]
    rw [List.drop_take]
  by_cases hlt : i < l.length
  · simp -implicitDefEqProofs +contextual [-Bool.and_eq_false_imp, Bool.and_eq_false_iff, hlt]
    refine ⟨fun he => Again.of (i + 1) ⟨by omega, hlt, fun j x hj1 hj2 hjx => ?_⟩ (by omega) ?_, fun hne => ?_⟩
    · by_cases hji : j = i
      · subst hji
        rw [List.getElem?_eq_getElem hlt] at hjx
        injection hjx with hjx
        rw [← hjx]; exact he
      · exact h3 j x hj1 (by omega) hjx
    · simp
      exact wrapS _ (by omega)
    · rw [hend (fun x hx => by rw [List.getElem?_eq_getElem hlt] at hx; injection hx with hx; rw [← hx]; exact hne)]
      refine ⟨by omega, ?_⟩
      simp [cutAt]
  · simp -implicitDefEqProofs [hlt]
    rw [hend (fun x hx => by rw [List.getElem?_eq_none (by omega)] at hx; cases hx)]
    refine ⟨by omega, ?_⟩
    simp [cutAt]
end Go.Proofs.YtklnopamfncfgaaGreatDoor
namespace Go.Proofs.YtklnopamfncfgaaGreatDoor
open Go Go.Ab
set_option linter.unusedSectionVars false
variable [Amb]
set_option maxRecDepth 100000
set_option maxHeartbeats 4000000

structure Life where
  key : List UInt8
  many : Int
  other : Int
  first : Int
  last : Int
  deriving DecidableEq
def Life.row (x : Life) : List CV := [.str x.key, .int .i64 x.many, .int .i64 x.other, .int .i64 x.first, .int .i64 x.last]
abbrev lives (l : List Life) : XV := .one (.list 5 (l.map Life.row))

/-! ### Different strings -/
def nubA (acc : List (List UInt8)) (d : List UInt8) : List (List UInt8) := if d ∈ acc then acc else acc ++ [d]
def nubs (ds : List (List UInt8)) : List (List UInt8) := ds.foldl nubA []
theorem nubs_snoc (ds : List (List UInt8)) (d : List UInt8) : nubs (ds ++ [d]) = nubA (nubs ds) d := by simp [nubs, List.foldl_append]
theorem nubs_le : ∀ (ds : List (List UInt8)) (acc : List (List UInt8)), (ds.foldl nubA acc).length ≤ acc.length + ds.length
  | [], acc => by simp
  | d :: r, acc => by
    have h1 := nubs_le r (nubA acc d)
    have h2 : (nubA acc d).length ≤ acc.length + 1 := by unfold nubA; split <;> simp
    simp only [List.foldl_cons, List.length_cons]; omega
def kvs (ks : List (List UInt8)) : List (XV × XV) := ks.map fun d => (.one (.str d), .one (.bool true))
theorem findK_kvs (d : List UInt8) : ∀ (ks : List (List UInt8)) (i : Nat), (d ∉ ks → findK .s (.one (.str d)) (kvs ks) i = some none) ∧ (d ∈ ks → ∃ j, findK .s (.one (.str d)) (kvs ks) i = some (some (i + j)) ∧ ks[j]? = some d)
  | [], i => ⟨fun _ => rfl, fun h => by cases h⟩
  | k :: r, i => by
    have ih := findK_kvs d r (i + 1)
    simp only [kvs, List.map_cons, findK, keyEq]
    by_cases h : d = k
    · subst h
      simp only [BEq.rfl]
      exact ⟨fun h => absurd (List.mem_cons_self) h, fun _ => ⟨0, rfl, rfl⟩⟩
    · have hb : (d == k) = false := by simpa using h
      rw [hb]
      refine ⟨fun hn => ih.1 (fun hm => hn (List.mem_cons_of_mem _ hm)), fun hm => ?_⟩
      obtain ⟨j, h1, h2⟩ := ih.2 ((List.mem_cons.1 hm).resolve_left h)
      exact ⟨j + 1, by rw [show i + (j + 1) = i + 1 + j by omega]; exact h1, h2⟩

/-! ### The lives -/
def digests (l : List Entry) : List (List UInt8) := l.map Entry.digest
def lifeOf (l : List Entry) (e : Entry) : Life :=
  ⟨e.key, (withKey l e.key).length, (nubs (digests (withKey l e.key))).length, e.time, (((withKey l e.key)[(withKey l e.key).length - 1]?).map Entry.time).getD 0⟩
def livesN : Nat → List Entry → List Life
  | 0, _ => []
  | _ + 1, [] => []
  | n + 1, e :: r => lifeOf (e :: r) e :: livesN n ((e :: r).drop (withKey (e :: r) e.key).length)
theorem withKey_pos (e : Entry) (r : List Entry) : 1 ≤ (withKey (e :: r) e.key).length := by
  unfold withKey
  rw [List.filter_cons_of_pos (by simp)]
  simp
theorem livesN_fuel : ∀ (n m : Nat) (l : List Entry), l.length ≤ n → l.length ≤ m → livesN n l = livesN m l
  | 0, 0, _, _, _ => rfl
  | 0, m + 1, l, h, _ => by have : l = [] := List.eq_nil_of_length_eq_zero (by omega); subst this; rfl
  | n + 1, 0, l, _, h => by have : l = [] := List.eq_nil_of_length_eq_zero (by omega); subst this; rfl
  | n + 1, m + 1, [], _, _ => rfl
  | n + 1, m + 1, e :: r, h1, h2 => by
    have hp := withKey_pos e r
    simp only [livesN]
    rw [livesN_fuel n m _ (by simp only [List.length_drop, List.length_cons] at *; omega) (by simp only [List.length_drop, List.length_cons] at *; omega)]
def livesL (l : List Entry) : List Life := livesN l.length l
theorem livesL_cons (e : Entry) (r : List Entry) : livesL (e :: r) = lifeOf (e :: r) e :: livesL ((e :: r).drop (withKey (e :: r) e.key).length) := by
  have hp := withKey_pos e r
  unfold livesL
  rw [List.length_cons, livesN, livesN_fuel r.length _ _ (by simp only [List.length_drop, List.length_cons]; omega) (Nat.le_refl _)]

theorem index_Lives (l : List Entry) : ACalls Tryz.prog 46 [entries l] (.tup [lives (if entriesF l = 0 then livesL l else []), .one (.int .i64 (entriesF l))]) := by
  refine ACalls.of mixed (fn := Tryz.f46) (by kernel_rfl) (by kernel_rfl) rfl (by kernel_rfl) (by simp [Tryz.f46]) (fun hok => ?_)
  simp -implicitDefEqProofs +contextual [-Bool.and_eq_false_imp, Bool.and_eq_false_iff]
  refine ACallK.of (index_checkEntries l) ?_
  simp -implicitDefEqProofs +contextual [-Bool.and_eq_false_imp, Bool.and_eq_false_iff]
  intro h
  rw [if_pos h, h]
  have hs := entriesF_short h
  obtain ⟨hso, _⟩ := entriesF_sorted h
  refine ALoopS.of (List Entry × List Life) (fun x => [(0, .x (entries x.1)), (5, .own 87 5 (x.2.map Life.row))]) (fun x => Sorted x.1 ∧ livesL l = x.2 ++ livesL x.1 ∧ x.2.length + x.1.length ≤ 3000) (fun x => x.1.length) (l, []) ⟨hso, rfl, by simp; omega⟩ ?_ ?_
  · simp
  rintro ⟨rest, out⟩ ⟨h1, h2, h3⟩
  simp only at h1 h2 h3
  cases rest with
  | nil =>
    simp -implicitDefEqProofs +contextual [-Bool.and_eq_false_imp, Bool.and_eq_false_iff]
    rw [h2, show livesL [] = [] from rfl, List.append_nil]
  | cons e r =>
    simp -implicitDefEqProofs +contextual [-Bool.and_eq_false_imp, Bool.and_eq_false_iff]
    refine ACallK.of (index_of' (e :: r) e.key h1 (by omega)) ?_
    have hp := withKey_pos e r
    have hle : (withKey (e :: r) e.key).length ≤ (e :: r).length := List.length_filter_le _ _
    have hcons := livesL_cons e r
    obtain ⟨m, em⟩ : ∃ m, m = withKey (e :: r) e.key := ⟨_, rfl⟩
    have hlife : lifeOf (e :: r) e = ⟨e.key, m.length, (nubs (digests m)).length, e.time, ((m[m.length - 1]?).map Entry.time).getD 0⟩ := by rw [em]; rfl
    have hm0 : m = e :: withKey r e.key := by
      rw [em]; unfold withKey
      rw [List.filter_cons_of_pos (by simp)]
    rw [← em] at hp hle hcons ⊢
    rw [hlife] at hcons
    simp -implicitDefEqProofs +contextual [-Bool.and_eq_false_imp, Bool.and_eq_false_iff]
    refine ALoopS.of Nat (fun i => [(0, .x (entries (e :: r))), (5, .own 87 5 (out.map Life.row)), (6, .x (entries m)), (7, .mp (nubs ((digests m).take i)).length (List.range (nubs ((digests m).take i)).length) (kvs (nubs ((digests m).take i)))), (25, .x (entries m)), (26, .x (.one (.int .i64 m.length))), (27, .x (.one (.int .i64 i)))]) (fun i => i ≤ m.length) (fun i => m.length - i) 0 (Nat.zero_le _) ?_ ?_
    · simp [nubs, kvs]
    intro i hi
    by_cases hlt : i < m.length
    · obtain ⟨K, eK⟩ : ∃ K, K = nubs ((digests m).take i) := ⟨_, rfl⟩
      have hst : nubs ((digests m).take (i + 1)) = nubA K m[i].digest := by
        rw [eK, ← nubs_snoc]
        congr 1
        rw [List.take_add_one]
        congr 1
        unfold digests
        rw [List.getElem?_map, List.getElem?_eq_getElem hlt]; rfl
      rw [← eK]
      obtain ⟨f1, f2⟩ := findK_kvs m[i].digest K 0
      by_cases hin : m[i].digest ∈ K
      · obtain ⟨j, hf, hj⟩ := f2 hin
        rw [Nat.zero_add] at hf
        have hset : (kvs K).set j (.one (.str m[i].digest), .one (.bool true)) = kvs K := by
          apply List.ext_getElem?
          intro x
          rw [List.getElem?_set]
          split
          · rename_i hx
            subst hx
            have hjl := (List.getElem?_eq_some_iff.1 hj).1
            have := (List.getElem?_eq_some_iff.1 hj).2
            simp [kvs, hj, hjl, this]
          · rfl
        have hn : nubA K m[i].digest = K := by unfold nubA; rw [if_pos hin]
        simp -implicitDefEqProofs [hlt, hf, hset]
        refine Again.of (i + 1) hlt (by omega) ?_
        rw [hst, hn]
        simp
        exact wrapS _ (by omega)
      · have hf := f1 hin
        have hn : nubA K m[i].digest = K ++ [m[i].digest] := by unfold nubA; rw [if_neg hin]
        simp -implicitDefEqProofs +contextual [-Bool.and_eq_false_imp, Bool.and_eq_false_iff, hlt, hf]
        refine Again.of (i + 1) hlt (by omega) ?_
        rw [hst, hn]
        simp [kvs, List.range_succ]
        exact wrapS _ (by omega)
    · rw [show (digests m).take i = digests m from List.take_of_length_le (by simp [digests]; omega)]
      have hw : IntKind.i64.wrap ((m.length : Int) - 1) = ((m.length - 1 : Nat) : Int) := by rw [wrapS _ (by omega)]; omega
      have hl1 : m.length - 1 < m.length := by omega
      have h0 : 0 < m.length := by omega
      simp -implicitDefEqProofs [hlt, hw, hl1, h0]
      have hm00 : m[0] = e := by simp [hm0]
      simp only [List.length_cons] at hle h3
      refine ⟨⟨by omega, by unfold maxLen; omega⟩, by omega, Again.of ((e :: r).drop m.length, out ++ [⟨e.key, m.length, (nubs (digests m)).length, e.time, ((m[m.length - 1]?).map Entry.time).getD 0⟩]) ⟨h1.drop, ?_, ?_⟩ ?_ ?_⟩
      · simp only
        rw [h2, hcons, List.append_assoc]; rfl
      · simp only [List.length_append, List.length_cons, List.length_nil, List.length_drop]; omega
      · simp only [List.length_drop, List.length_cons]; omega
      · simp [hm00, hl1, Life.row, kvs]
        have := cutAt_full (List.map Entry.row (e :: r)) (m.length : Int)
        simpa using this

def simple : Entry := ⟨[107], 7, 0, [], [48, 49, 50, 51, 52, 53, 54, 55, 56, 57, 97, 98, 99, 100, 101, 102], [102], 0, 0, false⟩
theorem simple_ok : entriesF [simple] = 0 := by decide +kernel
theorem simple_life : livesL [simple] = [⟨[107], 1, 1, 7, 7⟩] := by decide +kernel
theorem law8_awake : ACalls Tryz.prog 15 [] (.x (.one (.bool true))) := by
  refine ACalls.of mixed (fn := Tryz.f15) (by kernel_rfl) (by kernel_rfl) rfl (by kernel_rfl) (by simp [Tryz.f15]) (fun hok => ?_)
  simp -implicitDefEqProofs +contextual [-Bool.and_eq_false_imp, Bool.and_eq_false_iff]
  refine ACallK.of (index_Lives [simple]) ?_
  rw [if_pos simple_ok, simple_ok, simple_life]
  simp -implicitDefEqProofs +contextual [-Bool.and_eq_false_imp, Bool.and_eq_false_iff, Life.row]

end Go.Proofs.YtklnopamfncfgaaGreatDoor
namespace Go.Proofs.YtklnopamfncfgaaGreatDoor
open Go Go.Ab
set_option linter.unusedSectionVars false
variable [Amb] [HasPow10 Tryz.prog] [HasErrSyntax Tryz.prog]
set_option maxRecDepth 100000
set_option maxHeartbeats 4000000

theorem index_WithoutN (l : List Entry) : ACalls Tryz.prog 12 [entries l, .one .nil] (.tup [entries (withoutL l []), .one (.int .i64 (withoutF l []))]) := by
  have hc := index_Without address_InScope l []
  refine ⟨hc.1, fun w S vs hS ha => hc.2 w S vs hS ⟨ha.1, fun j x hj => ?_⟩⟩
  match j, hj with
  | 0, hj => exact ha.2 0 _ hj
  | 1, hj =>
    cases hj
    obtain ⟨u, hu, hr⟩ := ha.2 1 _ rfl
    exact ⟨u, hu, RepX.nil_list 3 hr⟩
  | j + 2, hj => cases hj
theorem without_none (l : List Entry) (h : withoutF l [] = 0) : withoutL l [] = l := by
  unfold withoutL
  rw [if_pos h]
  unfold outL
  refine List.filter_eq_self.2 fun e _ => ?_
  have : inA [] e = false := by
    unfold inA
    have : inScopeB [] e.key = false := rfl
    rw [this, Bool.and_false]
  rw [this]; rfl
theorem lawWithout (l : List Entry) (sc : List Scope) : ACalls Tryz.prog 5 [entries l, scopesV sc] (.x (.one (.bool true))) := by
  have c1 := index_Without address_InScope l sc
  have c2 := ref8_Without l sc
  have c3 := index_WithoutN l
  have hN := without_none l
  generalize withoutL l sc = X at c1 c2
  generalize withoutF l sc = F at c1 c2
  generalize withoutL l [] = Y at c3 hN
  generalize withoutF l [] = G at c3 hN
  have c4 := slices_Equal X X
  have c5 := slices_Equal Y l
  rw [decide_eq_true rfl] at c4
  refine ACalls.of mixed (fn := Tryz.f5) (by kernel_rfl) (by kernel_rfl) rfl (by kernel_rfl) (by simp [Tryz.f5]) (fun hok => ?_)
  simp -implicitDefEqProofs
  refine ACallK.of c1 ?_
  simp -implicitDefEqProofs
  refine ACallK.of c2 ?_
  simp -implicitDefEqProofs
  refine ACallK.of c4 ?_
  simp -implicitDefEqProofs
  refine ACallK.of c3 ?_
  by_cases hG : G = 0
  · have hY := hN hG
    subst hG
    rw [decide_eq_true hY] at c5
    simp -implicitDefEqProofs
    refine ACallGS.of (fun _ => c5) rfl ?_
    simp -implicitDefEqProofs
    refine ACallGS.of (fun _ => law8_awake) rfl ?_
    simp -implicitDefEqProofs
  · have b1 : (G == 0) = false := by simpa using hG
    simp -implicitDefEqProofs [hG, b1]
    refine ACallGS.of (fun h => by simp_all) (r := .x (.one (.bool false))) rfl ?_
    simp -implicitDefEqProofs [hG, b1]
    refine ACallGS.of (fun _ => law8_awake) rfl ?_
    simp -implicitDefEqProofs [hG, b1]
end Go.Proofs.YtklnopamfncfgaaGreatDoor
namespace Go.Proofs.YtklnopamfncfgaaGreatDoor
open Go Go.Ab
set_option linter.unusedSectionVars false
variable [Amb]
set_option maxRecDepth 100000
theorem own : ownKnob Tryz.prog.godebug = none := by kernel_rfl
theorem laidOut : laidOutB Tryz.prog = true := by kernel_rfl

def entryK : KT := .st [.s, .i .i64, .i .i64, .s, .s, .s, .st [.i .i64, .i .i64], .b]
def entriesK : KT := .sl 9 entryK
theorem spanHas : KT.has Tryz.prog (.st [.i .i64, .i .i64]) 37 :=
  ⟨_, Tryz.underlying37, by kernel_rfl, rfl, by kernel_rfl, Tryz.underlying3, rfl, by kernel_rfl, Tryz.underlying3, trivial⟩
theorem entryHas : entryK.has Tryz.prog 39 :=
  ⟨_, Tryz.underlying39, by kernel_rfl, rfl, by kernel_rfl, Tryz.underlying9, rfl, by kernel_rfl, Tryz.underlying3, rfl, by kernel_rfl, Tryz.underlying3, rfl, by kernel_rfl, Tryz.underlying9, rfl, by kernel_rfl, Tryz.underlying9, rfl, by kernel_rfl, Tryz.underlying9,
    rfl, by kernel_rfl, spanHas, rfl, by kernel_rfl, Tryz.underlying4, trivial⟩
theorem entriesHas : entriesK.has Tryz.prog 31 := ⟨39, Tryz.underlying31, by kernel_rfl, rfl, by decide, entryHas⟩
theorem entryFits {cs : List CV} (h : entryK.fits cs) : ∃ e : Entry, cs = e.row := by
  simp only [entryK, KT.fits, KT.fits.fitsAll] at h
  obtain ⟨_, _, rfl, ⟨e0, rfl, _⟩, _, _, rfl, ⟨e1, rfl, _⟩, _, _, rfl, ⟨e2, rfl, _⟩, _, _, rfl, ⟨e3, rfl, _⟩, _, _, rfl, ⟨e4, rfl, _⟩, _, _, rfl, ⟨e5, rfl, _⟩,
    _, _, rfl, ⟨_, _, rfl, ⟨e6, rfl, _⟩, _, _, rfl, ⟨e7, rfl, _⟩, rfl⟩, _, _, rfl, ⟨e8, rfl⟩, rfl⟩ := h
  exact ⟨⟨e0, e1, e2, e3, e4, e5, e6, e7, e8⟩, rfl⟩
theorem rowsFit {xs : List (List CV)} (h : ∀ x ∈ xs, entryK.fits x) : ∃ l : List Entry, xs = l.map Entry.row := by
  induction xs with
  | nil => exact ⟨[], rfl⟩
  | cons x r ih =>
    obtain ⟨l, rfl⟩ := ih (fun y hy => h y (by simp [hy]))
    obtain ⟨f, rfl⟩ := entryFits (h x (by simp))
    exact ⟨f :: l, rfl⟩
theorem entriesFits {x : XV} (h : entriesK.fitsX x) : ∃ l : List Entry, x = entries l := by
  cases x with
  | agg cs => exact h.elim
  | one c =>
    obtain ⟨xs, hx, hr⟩ := h
    injection hx with hx
    obtain ⟨l, rfl⟩ := rowsFit hr
    exact ⟨l, by rw [hx]⟩
theorem strFits {x : XV} (h : KT.fitsX .s x) : ∃ l, x = .one (.str l) := by
  cases x with
  | agg cs => exact h.elim
  | one c =>
    obtain ⟨l, hx, _⟩ := h
    injection hx with hx
    exact ⟨l, by rw [hx]⟩
theorem intFits {x : XV} (h : KT.fitsX (.i .i64) x) : ∃ n, x = .one (.int .i64 n) := by
  cases x with
  | agg cs => exact h.elim
  | one c =>
    obtain ⟨l, hx, _⟩ := h
    injection hx with hx
    exact ⟨l, by rw [hx]⟩
theorem ambT_laid {W : World} {l : List (String × DataW Unit)} (j : Nat) (h : laidMetH Tryz.prog l W) (hp : (l.all fun x => x.2.handleName?.isNone) = true) (hj : l[j]? = some ("internal/strconv.uint64pow10", Lib.tabData .u64 Lib.pow10Tab)) : (ambT Tryz.prog).holds W := by
  rw [MakeChecks.laidMetH_plain _ _ _ hp] at h
  exact ambT_of (tabIs_at (g := 3) (t := 230) (e := 209) (n := 20) (by kernel_rfl) (by kernel_rfl) Tryz.underlying230 Tryz.underlying209 (by kernel_rfl) (by kernel_rfl) j h hj)
end Go.Proofs.YtklnopamfncfgaaGreatDoor
namespace Go.Proofs.YtklnopamfncfgaaGreatDoor
open Go Go.Ab
set_option linter.unusedSectionVars false
variable [Amb]
set_option maxRecDepth 100000
/-! ### Rows whose strings are bounded -/
theorem weights_front {H : Type} {P : Program} {p : Nat → Bool} : ∀ {ts us : List TypeId} {ds gs : List (DataW H)}, (DataW.weightsEach P (ts ++ us) (ds ++ gs)).all p = true → (DataW.weightsEach P ts ds).all p = true
  | [], _, _, _, _ => by rw [DataW.weightsEach]; rfl; intros; simp_all
  | _ :: _, _, [], _, _ => by rw [DataW.weightsEach]; rfl; intros; simp_all
  | t :: ts, us, d :: ds, gs, h => by
    rw [List.cons_append, List.cons_append, DataW.weightsEach, List.all_append, Bool.and_eq_true] at h
    rw [DataW.weightsEach, List.all_append, Bool.and_eq_true]
    exact ⟨h.1, weights_front h.2⟩
def addrK : KT := .st [.s, .s, .s, .s, .s, .b, .s, .b]
theorem addrHas : KT.has Tryz.prog addrK 23 :=
  ⟨_, Tryz.underlying23, by kernel_rfl, rfl, by kernel_rfl, Tryz.underlying9, rfl, by kernel_rfl, Tryz.underlying9, rfl, by kernel_rfl, Tryz.underlying9, rfl, by kernel_rfl, Tryz.underlying9, rfl, by kernel_rfl, Tryz.underlying9,
    rfl, by kernel_rfl, Tryz.underlying4, rfl, by kernel_rfl, Tryz.underlying9, rfl, by kernel_rfl, Tryz.underlying4, trivial⟩
theorem addrFits' {cs : List CV} (h : addrK.fitsB reachBytes cs) : ∃ a : Addr, cs = a.row ∧ a.Fit := by
  simp only [addrK, KT.fitsB, KT.fitsB.fitsAllB] at h
  obtain ⟨_, _, rfl, ⟨e0, rfl, _, l0⟩, _, _, rfl, ⟨e1, rfl, _, l1⟩, _, _, rfl, ⟨e2, rfl, _, l2⟩, _, _, rfl, ⟨e3, rfl, _, l3⟩, _, _, rfl, ⟨e4, rfl, _, l4⟩, _, _, rfl, ⟨e5, rfl⟩, _, _, rfl, ⟨e6, rfl, _, l6⟩, _, _, rfl, ⟨e7, rfl⟩, rfl⟩ := h
  unfold reachBytes at l0 l1 l2 l3 l4 l6
  exact ⟨⟨e0, e1, e2, e3, e4, e5, e6, e7⟩, rfl, ⟨by simp only; omega, by simp only; omega, by simp only; omega, by simp only; omega, by simp only; omega, by simp only; omega⟩⟩
theorem addrFits {x : XV} (_ : addrK.fitsX x) (h : addrK.fitsXB reachBytes x) : ∃ a : Addr, x = .agg a.row ∧ a.Fit := by
  cases x with
  | one c => exact h.elim
  | agg cs =>
    obtain ⟨a, rfl, f⟩ := addrFits' h
    exact ⟨a, rfl, f⟩
end Go.Proofs.YtklnopamfncfgaaGreatDoor
namespace Go.Proofs.YtklnopamfncfgaaGreatDoor
open Go Go.Ab
set_option linter.unusedSectionVars false
set_option maxRecDepth 100000
/-! ### Rows with an error laid; lists of scopes -/
section
variable [Amb]
def scopeK : KT := .st [.i .i64, .s, .b]
def scopesK : KT := .sl 3 scopeK
theorem scopeHas : scopeK.has Tryz.prog 131 :=
  ⟨_, Tryz.underlying131, by kernel_rfl, rfl, by kernel_rfl, Tryz.underlying3, rfl, by kernel_rfl, Tryz.underlying9, rfl, by kernel_rfl, Tryz.underlying4, trivial⟩
theorem scopesHas : scopesK.has Tryz.prog 32 := ⟨131, Tryz.underlying32, by kernel_rfl, rfl, by decide, scopeHas⟩
theorem scopeFits {cs : List CV} (h : scopeK.fits cs) : ∃ e : Scope, cs = e.row := by
  simp only [scopeK, KT.fits, KT.fits.fitsAll] at h
  obtain ⟨_, _, rfl, ⟨e0, rfl, _⟩, _, _, rfl, ⟨e1, rfl, _⟩, _, _, rfl, ⟨e2, rfl⟩, rfl⟩ := h
  exact ⟨⟨e0, e1, e2⟩, rfl⟩
theorem scopeRowsFit {xs : List (List CV)} (h : ∀ x ∈ xs, scopeK.fits x) : ∃ l : List Scope, xs = l.map Scope.row := by
  induction xs with
  | nil => exact ⟨[], rfl⟩
  | cons x r ih =>
    obtain ⟨l, rfl⟩ := ih (fun y hy => h y (by simp [hy]))
    obtain ⟨f, rfl⟩ := scopeFits (h x (by simp))
    exact ⟨f :: l, rfl⟩
theorem scopesFits {x : XV} (h : scopesK.fitsX x) : ∃ l : List Scope, x = scopesV l := by
  cases x with
  | agg cs => exact h.elim
  | one c =>
    obtain ⟨xs, hx, hr⟩ := h
    injection hx with hx
    obtain ⟨l, rfl⟩ := scopeRowsFit hr
    exact ⟨l, by rw [hx]⟩
end
theorem ambE_laid {W : World} {l : List (String × DataW Unit)} (j k : Nat) {n : String} {d : DataW Unit} (h : laidMetH Tryz.prog l W) (hp : (l.all fun x => x.2.handleName?.isNone) = true) (hj : l[j]? = some ("internal/strconv.uint64pow10", Lib.tabData .u64 Lib.pow10Tab)) (hk : l[k]? = some ("strconv.ErrSyntax", .iface n d)) : (ambE Tryz.prog).holds W := by
  rw [MakeChecks.laidMetH_plain _ _ _ hp] at h
  exact ambE_of (tabIs_at (g := 3) (t := 230) (e := 209) (n := 20) (by kernel_rfl) (by kernel_rfl) Tryz.underlying230 Tryz.underlying209 (by kernel_rfl) (by kernel_rfl) j h hj)
    (ifaceIs_at (g := 1) (t := 113) (by kernel_rfl) (by kernel_rfl) Tryz.underlying113 k h hk)
end Go.Proofs.YtklnopamfncfgaaGreatDoor
