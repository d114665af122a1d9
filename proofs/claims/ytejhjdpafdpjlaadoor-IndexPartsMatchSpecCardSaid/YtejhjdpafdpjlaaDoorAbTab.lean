/-
  What is known of variables besides: an ambient fact.
-/
import Derived.Test.YtejhjdpafdpjlaaDoorAbRow
import Derived.Lib.LaidTab
import Derived.Lib.ItoaNum
namespace Go.Ab
open Go Go.RowKit
set_option linter.unusedSectionVars false

/-- Variables, and what is known of their cells. -/
def Tabs (P : Program) (l : List (String × (Array Value → Prop))) (w : World) : Prop := ∀ x ∈ l, ∃ cs, w.var? P x.1 = some cs ∧ x.2 cs

theorem var_lt {P : Program} {w : World} {n : String} {cs : Array Value} {b : Nat} (h : w.var? P n = some cs) (hg : P.globalNamed n = some b) : b < w.heap.size := by
  unfold World.var? at h
  rw [hg] at h
  simp only [Option.bind_some] at h
  rcases Nat.lt_or_ge b w.heap.size with h' | h'
  · exact h'
  · rw [Array.getElem?_eq_none h'] at h; simp at h
theorem var_keep {P : Program} {w w' : World} {n : String} {cs : Array Value} (h : w.var? P n = some cs) (hk : ∀ b, P.globalNamed n = some b → w'.heap[b]? = w.heap[b]?) : w'.var? P n = some cs := by
  unfold World.var? at h ⊢
  cases hg : P.globalNamed n with
  | none => rw [hg] at h; cases h
  | some b =>
    rw [hg] at h
    simp only [Option.bind_some] at h ⊢
    rw [hk b hg]
    exact h

@[reducible] def Amb.tabs (P : Program) (l : List (String × (Array Value → Prop))) : Amb where
  holds := Tabs P l
  at_ := fun b => ∃ x ∈ l, P.globalNamed x.1 = some b
  lt := fun h ⟨x, hx, hg⟩ => let ⟨_, hc, _⟩ := h x hx; var_lt hc hg
  keep := fun h _ hk x hx => let ⟨cs, hc, hp⟩ := h x hx; ⟨cs, var_keep hc (fun b hb => hk b ⟨x, hx, hb⟩), hp⟩

/-- The tail of what is laid. -/
theorem laidMet_tail {P : Program} {W : World} {x : String × DataW Unit} {rest : List (String × DataW Unit)} (h : laidMet P (x :: rest) W) : laidMet P rest W := by
  obtain ⟨ps, ⟨g, t, cs, fuel, p, q, h1, h2, h3, h4, h5, rfl⟩, hn, hb⟩ := h
  refine ⟨q, h5, (List.nodup_append.1 hn).2.1, fun b off hm => hb b off (List.mem_append_right _ hm)⟩

/-- A table on the list. -/
theorem tabIs_at {P : Program} {W : World} {name : String} {k : IntKind} {zs : List Int} {g : Nat} {t e : TypeId} {n : Nat}
    (hg : P.globalNamed name = some g) (hty : (P.globals[g]?).map (·.type) = some t) (ht : P.underlying t = some (.array n e)) (he : P.underlying e = some (.int k)) (hce : P.cellsOf e = 1) (hct : P.cellsOf t = n) :
    ∀ (j : Nat) {l : List (String × DataW Unit)}, laidMet P l W → l[j]? = some (name, Lib.tabData k zs) → Lib.TabIs P W name k zs
  | 0, [], _, hj => by simp at hj
  | 0, x :: r, h, hj => by
    simp at hj
    subst hj
    exact Lib.tabIs_of_head hg hty ht he hce hct h
  | j + 1, [], _, hj => by simp at hj
  | j + 1, x :: r, h, hj => tabIs_at hg hty ht he hce hct j (laidMet_tail h) (by simpa using hj)

def pow10Cells : Array Value := (Lib.pow10Tab.map fun z => Value.int .u64 z).toArray
@[reducible] def ambT (P : Program) : Amb := Amb.tabs P [("internal/strconv.uint64pow10", (· = pow10Cells))]

/-- The powers of ten are laid. -/
class HasPow10 [Amb] (P : Program) : Prop where
  tab : ∀ w, Amb.holds w → Lib.TabIs P w "internal/strconv.uint64pow10" .u64 Lib.pow10Tab
theorem ambT_pow (P : Program) : @HasPow10 (ambT P) P := @HasPow10.mk (ambT P) P (fun w h => by
  obtain ⟨cs, hc, rfl⟩ := h _ List.mem_cons_self
  exact hc)
theorem ambT_of {P : Program} {W : World} (h : Lib.TabIs P W "internal/strconv.uint64pow10" .u64 Lib.pow10Tab) : (ambT P).holds W := by
  intro x hx
  simp only [List.mem_singleton] at hx
  subst hx
  exact ⟨_, h, rfl⟩
end Go.Ab
