/- A part of the proof: lemmas and contracts of functions. -/
import Derived.Test.YtdciogjhkckigaaT1Facts
import Derived.Test.YtdciogjhkckigaaAbLoop
namespace Go.Proofs.Ytdciogjhkckigaa
open Go Go.Ab
theorem mixed : Try.prog.follows .mixedOrders = true := by kernel_rfl
theorem within (x a b : Int) : ACalls Try.prog 16 [.one (.int .i64 x), .one (.int .i64 a), .one (.int .i64 b)] (.x (.one (.bool (decide (a ≤ x) && decide (x ≤ b))))) := by
  refine ACalls.of mixed (fn := Try.f16) (by kernel_rfl) (by kernel_rfl) rfl (by kernel_rfl) (by simp [Try.f16]) (fun hok => ?_)
  simp

theorem isMoment (x : Int) : ACalls Try.prog 13 [.one (.int .i64 x)] (.x (.one (.bool (decide (0 ≤ x) && decide (x ≤ 253402300799))))) := by
  refine ACalls.of mixed (fn := Try.f13) (by kernel_rfl) (by kernel_rfl) rfl (by kernel_rfl) (by simp [Try.f13]) (fun hok => ?_)
  simp

theorem isDrift (x : Int) : ACalls Try.prog 14 [.one (.int .i64 x)] (.x (.one (.bool (decide (0 ≤ x) && decide (x ≤ 1000000000000))))) := by
  refine ACalls.of mixed (fn := Try.f14) (by kernel_rfl) (by kernel_rfl) rfl (by kernel_rfl) (by simp [Try.f14]) (fun hok => ?_)
  simp

def keyChar (b : UInt8) : Bool := decide (33 ≤ b.toNat) && decide (b.toNat ≤ 126)
def keyB (l : List UInt8) : Bool := l.all keyChar && (decide (1 ≤ l.length) && decide (l.length ≤ 2000))

theorem wrapS (n : Int) (h : -9223372036854775808 ≤ n ∧ n ≤ 9223372036854775807) : IntKind.i64.wrap n = n := IntWalk.i64_in n h

theorem take_step {α : Type} {p : α → Prop} {l : List α} {i : Nat} {x : α} (h : ∀ b ∈ l.take i, p b) (hx : l[i]? = some x) (hp : p x) : ∀ b ∈ l.take (i + 1), p b := by
  intro b hb
  rw [List.take_add_one, hx] at hb
  simp only [Option.toList, List.mem_append, List.mem_singleton] at hb
  rcases hb with hb | hb
  · exact h b hb
  · rw [hb]; exact hp

theorem isKey (l : List UInt8) : ACalls Try.prog 12 [.one (.str l)] (.x (.one (.bool (keyB l)))) := by
  refine ACalls.of mixed (fn := Try.f12) (by kernel_rfl) (by kernel_rfl) rfl (by kernel_rfl) (by simp [Try.f12]) (fun hok => ?_)
  have hl : l.length ≤ maxLen := by simpa [XV.ok, CV.ok] using hok
  simp
  refine ALoopS.of Nat (fun i => [(0, .x (.one (.str l))), (5, .x (.one (.int .i64 l.length))), (6, .x (.one (.int .i64 i)))]) (fun i => i ≤ l.length ∧ ∀ b ∈ l.take i, keyChar b = true) (fun i => l.length - i) 0 ?_ ?_ ?_
  · simp
  · simp
  intro i hi
  simp
  refine ⟨fun hlt => ?_, fun hge => ?_⟩
  · have hx : l[i]? = some l[i] := List.getElem?_eq_getElem hlt
    rw [hx]
    simp only [Option.getD_some]
    refine ⟨hlt, fun h => ⟨h, hlt⟩, fun h => ?_, fun h1 h2 => ?_⟩
    · have : keyChar l[i] = false := by
        unfold keyChar
        rcases h with h | h
        · simp; omega
        · simp; omega
      unfold keyB
      simp only [Bool.and_eq_false_iff]
      left
      rw [List.all_eq_false]
      exact ⟨l[i], List.getElem_mem hlt, by simp [this]⟩
    · refine Again.of (i + 1) ⟨hlt, take_step hi.2 hx ?_⟩ (by omega) ?_
      · unfold keyChar; simp; omega
      · simp
        exact wrapS _ (by unfold maxLen at hl; omega)
  · have : l.all keyChar = true := by
      rw [List.all_eq_true]
      intro b hb
      refine hi.2 b ?_
      rw [List.take_of_length_le hge]; exact hb
    unfold keyB
    rw [this, Bool.eq_iff_iff]
    simp
    omega

end Go.Proofs.Ytdciogjhkckigaa
