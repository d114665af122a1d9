/- A part of the proof: lemmas and contracts of functions. -/
import Derived.Test.YtdciogjhkckigaaT1a
namespace Go.Proofs.Ytdciogjhkckigaa
open Go Go.Ab
set_option maxRecDepth 100000
set_option maxHeartbeats 4000000

theorem keyB_bad {l : List UInt8} {i : Nat} (hlt : i < l.length) (h : ((l[i].toNat : Nat) : Int) < 33 ∨ 126 < ((l[i].toNat : Nat) : Int)) : keyB l = false := by
  have : keyChar l[i] = false := by
    unfold keyChar
    rcases h with h | h
    · simp; omega
    · simp; omega
  unfold keyB
  simp only [Bool.and_eq_false_iff]
  left
  rw [List.all_eq_false]
  exact ⟨l[i], List.getElem_mem hlt, by simp [this]⟩
theorem keyB_all {l : List UInt8} {i : Nat} (hge : l.length ≤ i) (h : ∀ b ∈ l.take i, keyChar b = true) : keyB l = (decide (1 ≤ (l.length : Int)) && decide ((l.length : Int) ≤ 2000)) := by
  have : l.all keyChar = true := by
    rw [List.all_eq_true]
    intro b hb
    refine h b ?_
    rw [List.take_of_length_le hge]; exact hb
  unfold keyB
  rw [this, Bool.eq_iff_iff]
  simp
  omega

def inB (a b x : Int) : Bool := decide (a ≤ x) && decide (x ≤ b)
def askedF (l : List UInt8) (t d : Int) : Int := if keyB l = true then (if 0 ≤ t ∧ t ≤ 253402300799 ∧ 0 ≤ d ∧ d ≤ 1000000000000 then 0 else 1) else 3

theorem checkAsked (l : List UInt8) (t d : Int) : ACalls Try.prog 15 [.one (.str l), .one (.int .i64 t), .one (.int .i64 d)] (.x (.one (.int .i64 (askedF l t d)))) := by
  refine ACalls.of mixed (fn := Try.f15) (by kernel_rfl) (by kernel_rfl) rfl (by kernel_rfl) (by simp [Try.f15]) (fun hok => ?_)
  have hl : l.length ≤ maxLen := by simpa [XV.ok, CV.ok] using hok _ (List.mem_cons_self)
  simp
  refine ALoopS.of Nat (fun i => [(0, .x (.one (.str l))), (1, .x (.one (.int .i64 t))), (2, .x (.one (.int .i64 d))), (7, .x (.one (.int .i64 i)))]) (fun i => i ≤ l.length ∧ ∀ b ∈ l.take i, keyChar b = true) (fun i => l.length - i) 0 ?_ ?_ ?_
  · simp
  · simp
  intro i hi
  simp
  refine ⟨fun hlt => ?_, fun hge => ?_⟩
  · have hx : l[i]? = some l[i] := List.getElem?_eq_getElem hlt
    rw [hx]
    simp only [Option.getD_some]
    refine ⟨hlt, fun h => ⟨h, hlt⟩, fun h => ?_, fun h1 h2 => ?_⟩
    · simp [askedF, keyB_bad hlt h]
    · refine Again.of (i + 1) ⟨hlt, take_step hi.2 hx ?_⟩ (by omega) ?_
      · unfold keyChar; simp; omega
      · simp
        exact wrapS _ (by unfold maxLen at hl; omega)
  · have hk := keyB_all hge hi.2
    refine ACallK.of (within _ _ _) ?_
    simp
    refine ⟨fun h => ?_, fun h1 h2 => ACallK.of (within _ _ _) ?_⟩
    · have : keyB l = false := by
        rw [hk]; simp; omega
      simp [askedF, this]
    have hkt : keyB l = true := by
      rw [hk]; simp; omega
    simp
    refine ⟨_, fun _ => within _ _ _, rfl, ?_⟩
    simp [askedF, hkt]
    constructor
    · intro h; omega
    · intro a b c e; omega

structure Frag where
  key : List UInt8
  kind : Int
  state : Int
  time : Int
  drift : Int
def Frag.row (f : Frag) : List CV := [.str f.key, .int .i64 f.kind, .int .i64 f.state, .int .i64 f.time, .int .i64 f.drift]
def Frag.fault (f : Frag) : Int :=
  if keyB f.key = true then
    if f.kind < 1 ∨ 9 < f.kind ∨ f.state < 1 ∨ 6 < f.state then 4
    else if f.time < 0 ∨ 253402300799 < f.time ∨ f.drift < 0 ∨ 1000000000000 < f.drift then 1
    else if (f.state = 6 ∧ (f.time ≠ 0 ∨ f.drift ≠ 0)) ∨ (f.state = 1 ∧ f.drift ≠ 0) then 3 else 0
  else 3
def firstF : List Frag → Int
  | [] => 0
  | f :: r => if f.fault = 0 then firstF r else f.fault
def viewF (l : List Frag) : Int := if 500 < l.length then 2 else firstF l
theorem firstF_at : ∀ {l : List Frag} {i : Nat} {f : Frag}, (∀ b ∈ l.take i, b.fault = 0) → l[i]? = some f → f.fault ≠ 0 → firstF l = f.fault
  | [], i, f, _, h, _ => by simp at h
  | g :: r, 0, f, _, h, hn => by
    simp at h; subst h
    simp [firstF, hn]
  | g :: r, i + 1, f, hp, h, hn => by
    have hg : g.fault = 0 := hp g (by simp)
    simp only [firstF, if_pos hg]
    exact firstF_at (i := i) (fun b hb => hp b (by simp only [List.take_succ_cons, List.mem_cons]; exact .inr hb)) (by simpa using h) hn
theorem firstF_all : ∀ {l : List Frag}, (∀ b ∈ l, b.fault = 0) → firstF l = 0
  | [], _ => rfl
  | g :: r, hp => by
    simp only [firstF, if_pos (hp g (by simp))]
    exact firstF_all (fun b hb => hp b (by simp [hb]))
theorem take_all {α : Type} {p : α → Prop} {l : List α} {i : Nat} (hge : l.length ≤ i) (h : ∀ b ∈ l.take i, p b) : ∀ b ∈ l, p b := by
  intro b hb
  exact h b (by rw [List.take_of_length_le hge]; exact hb)

theorem checkParts (l : List Frag) : ACalls Try.prog 9 [.one (.list 5 (l.map Frag.row))] (.x (.one (.int .i64 (viewF l)))) := by
  refine ACalls.of mixed (fn := Try.f9) (by kernel_rfl) (by kernel_rfl) rfl (by kernel_rfl) (by simp [Try.f9]) (fun hok => ?_)
  simp -implicitDefEqProofs
  refine ⟨fun h => ?_, fun h => ?_⟩
  · simp [viewF]; omega
  have hv : viewF l = firstF l := by unfold viewF; rw [if_neg (by omega)]
  refine ALoopS.of Nat (fun i => [(8, .x (.one (.list 5 (l.map Frag.row)))), (9, .x (.one (.int .i64 l.length))), (10, .x (.one (.int .i64 i)))]) (fun i => i ≤ l.length ∧ ∀ b ∈ l.take i, b.fault = 0) (fun i => l.length - i) 0 ?_ ?_ ?_
  · simp
  · simp
  intro i hi
  by_cases hlt : i < l.length
  · have hx : l[i]? = some l[i] := List.getElem?_eq_getElem hlt
    have hbad : l[i].fault ≠ 0 → viewF l = l[i].fault := fun hn => by rw [hv]; exact firstF_at hi.2 hx hn
    have hgood : l[i].fault = 0 → ∀ b ∈ l.take (i + 1), b.fault = 0 := fun h => take_step hi.2 hx h
    simp -implicitDefEqProofs [hlt, Frag.row]
    generalize l[i] = f at hbad hgood
    refine ACallK.of (isKey _) ?_
    simp -implicitDefEqProofs
    refine ⟨fun hk => ?_, fun hk => ⟨fun h => ?_, fun h1 h2 h3 h4 => ACallK.of (isMoment _) ?_⟩⟩
    · have e : f.fault = 3 := by unfold Frag.fault; rw [if_neg (by simp [hk])]
      rw [hbad (by rw [e]; decide), e]
    · have e : f.fault = 4 := by unfold Frag.fault; rw [if_pos hk, if_pos (by omega)]
      rw [hbad (by rw [e]; decide), e]
    simp -implicitDefEqProofs
    refine ACallGS.of (fun _ => isDrift _) rfl ?_
    simp -implicitDefEqProofs
    refine ⟨fun h => ?_, fun a1 a2 a3 a4 => ⟨fun h => ⟨h, fun h' => ⟨h, h'⟩⟩, fun h6 hh => ⟨fun _ _ => ?_, fun hz => ?_⟩, fun hz => ⟨fun b1 b2 => ?_, fun b1 => ?_⟩⟩⟩
    · have e : f.fault = 1 := by unfold Frag.fault; rw [if_pos hk, if_neg (by omega), if_pos (by omega)]
      rw [hbad (by rw [e]; decide), e]
    · have e : f.fault = 3 := by unfold Frag.fault; rw [if_pos hk, if_neg (by omega), if_neg (by omega), if_pos (by omega)]
      rw [hbad (by rw [e]; decide), e]
    · have := hz h6
      omega
    · have e : f.fault = 3 := by unfold Frag.fault; rw [if_pos hk, if_neg (by omega), if_neg (by omega), if_pos (by omega)]
      rw [hbad (by rw [e]; decide), e]
    · have e : f.fault = 0 := by
        unfold Frag.fault; rw [if_pos hk, if_neg (by omega), if_neg (by omega), if_neg (by intro h; rcases h with h | h; (have := hz h.1; omega); exact h.2 (b1 h.1))]
      refine Again.of (i + 1) ⟨hlt, hgood e⟩ (by omega) ?_
      simp
      exact wrapS _ (by omega)
  · have e : viewF l = 0 := by rw [hv]; exact firstF_all (take_all (by omega) hi.2)
    simp -implicitDefEqProofs [hlt, e]
end Go.Proofs.Ytdciogjhkckigaa
