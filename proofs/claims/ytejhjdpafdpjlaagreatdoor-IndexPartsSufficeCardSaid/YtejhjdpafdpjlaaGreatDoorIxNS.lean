/- A part of the proof: lemmas and contracts of functions. -/
import Derived.Test.YtejhjdpafdpjlaaGreatDoorIxPT
import Derived.Test.YtejhjdpafdpjlaaGreatDoorIxT
import Derived.Test.YtejhjdpafdpjlaaGreatDoorIxK
namespace Go.Proofs.YtejhjdpafdpjlaaGreatDoor
open Go Go.Ab
set_option linter.unusedSectionVars false
variable [Amb] [HasPow10 Tryz.prog]

/-! ### What is near to a time is found in the parts that are told alone -/
theorem lastLe_append (p q : List Entry) (t : Int) : lastLe (p ++ q) t = (lastLe q t).or (lastLe p t) := by
  refine snocInd (P := fun q => lastLe (p ++ q) t = (lastLe q t).or (lastLe p t)) ?_ ?_ q
  · simp [lastLe]
  · intro r e ih
    rw [← List.append_assoc, lastLe_snoc, lastLe_snoc, ih]
    split <;> simp
theorem aft_append (p q : List Entry) (t : Int) : aft (p ++ q) t = q.foldl (aftS t) (aft p t) := by simp [aft, List.foldl_append]
theorem aft_stays {t : Int} {z : Entry} : ∀ q : List Entry, (∀ x ∈ q, x.time ≠ z.time) → q.foldl (aftS t) (some z) = some z
  | [], _ => rfl
  | x :: r, h => by
    have hx := h x (by simp)
    have : aftS t (some z) x = some z := by
      simp only [aftS]; rw [if_neg (fun c => hx c.2)]
    rw [List.foldl_cons, this]
    exact aft_stays r (fun y hy => h y (by simp [hy]))
theorem aft_none {t : Int} {p : List Entry} (h : ∀ x ∈ p, x.time < t) : aft p t = none := by
  cases e : aft p t with
  | none => rfl
  | some x => obtain ⟨h1, h2⟩ := aft_mem p e; have := h x h1; omega
theorem lastLe_none {t : Int} {p : List Entry} (h : ∀ x ∈ p, t < x.time) : lastLe p t = none := by
  cases e : lastLe p t with
  | none => rfl
  | some x => obtain ⟨h1, h2⟩ := lastLe_mem p e; have := h x h1; omega
theorem lastLe_some {t : Int} (p : List Entry) {e : Entry} : e ∈ p → e.time ≤ t → ∃ x, lastLe p t = some x := by
  refine snocInd (P := fun p => e ∈ p → e.time ≤ t → ∃ x, lastLe p t = some x) ?_ ?_ p
  · intro h; cases h
  · intro r y ih h ht
    rw [lastLe_snoc]
    by_cases hy : y.time ≤ t
    · exact ⟨y, if_pos hy⟩
    · rw [if_neg hy]
      refine ih ?_ ht
      rcases List.mem_append.1 h with h | h
      · exact h
      · simp at h; subst h; exact absurd ht hy
theorem aft_some {t : Int} (p : List Entry) {e : Entry} : p.Pairwise (fun a b => a.time ≤ b.time) → e ∈ p → t ≤ e.time → ∃ z, aft p t = some z ∧ z.time ≤ e.time := by
  refine snocInd (P := fun p => p.Pairwise (fun a b => a.time ≤ b.time) → e ∈ p → t ≤ e.time → ∃ z, aft p t = some z ∧ z.time ≤ e.time) ?_ ?_ p
  · intro _ h; cases h
  · intro r y ih hp h ht
    obtain ⟨hp1, _, hp2⟩ := List.pairwise_append.1 hp
    rw [aft_snoc]
    have key : ∀ z, aft r t = some z → z.time ≤ e.time → ∃ z', aftS t (some z) y = some z' ∧ z'.time ≤ e.time := by
      intro z _ hz
      simp only [aftS]
      by_cases hc : t ≤ y.time ∧ y.time = z.time
      · exact ⟨y, if_pos hc, by omega⟩
      · exact ⟨z, if_neg hc, hz⟩
    rcases List.mem_append.1 h with h | h
    · obtain ⟨z, hz, hl⟩ := ih hp1 h ht
      rw [hz]; exact key z hz hl
    · simp at h; subst h
      cases hr : aft r t with
      | none => exact ⟨e, by simp only [aftS]; rw [if_pos ht], Int.le_refl _⟩
      | some z =>
        exact key z hr (hp2 z (aft_mem r hr).1 e (by simp))
theorem withKey_mono {l : List Entry} (k : List UInt8) (h : Sorted l) : (withKey l k).Pairwise (fun a b => a.time ≤ b.time) := by
  have hp : (withKey l k).Pairwise Before := h.filter _
  refine List.Pairwise.imp_of_mem ?_ hp
  intro a b ha hb hab
  have ea : a.key = k := by simpa using (List.mem_filter.1 ha).2
  have eb : b.key = k := by simpa using (List.mem_filter.1 hb).2
  rcases hab with h | ⟨_, h | ⟨h, _⟩⟩
  · rw [ea, eb, ltB_irrefl] at h; cases h
  · omega
  · omega
theorem withKey_mem {l : List Entry} {k : List UInt8} {x : Entry} : x ∈ withKey l k ↔ x ∈ l ∧ x.key = k := by simp [withKey]
def AheadP (x : List UInt8) (s : Int) (k : List UInt8) (t : Int) : Prop := ltB x k = true ∨ (x = k ∧ s < t)
theorem near_mid {A m B : List Entry} {k : List UInt8} {t way : Int} (hs : Sorted m)
    (hA : A = [] ∨ ∃ e ∈ m, AheadP e.key e.time k t ∧ ∀ x ∈ A, Before x e) (hB : B = [] ∨ ∃ e ∈ m, AheadP k t e.key e.time ∧ ∀ x ∈ B, AheadP e.key e.time x.key x.time) :
    nearL (withKey (A ++ m ++ B) k) t way = nearL (withKey m k) t way := by
  have hw : withKey (A ++ m ++ B) k = withKey A k ++ withKey m k ++ withKey B k := by simp [withKey]
  have hAx : ∀ x ∈ withKey A k, ∃ e ∈ withKey m k, x.time ≤ e.time ∧ e.time < t := by
    intro x hx
    obtain ⟨hx1, hx2⟩ := withKey_mem.1 hx
    rcases hA with rfl | ⟨e, he, h1, h2⟩
    · cases hx1
    have hb := h2 x hx1
    rcases h1 with h1 | ⟨h1, h3⟩
    · rcases hb with hb | ⟨hb, _⟩
      · rw [hx2] at hb; have := ltB_trans hb h1; rw [ltB_irrefl] at this; cases this
      · rw [← hb, hx2, ltB_irrefl] at h1; cases h1
    · refine ⟨e, withKey_mem.2 ⟨he, h1⟩, ?_, h3⟩
      rcases hb with hb | ⟨_, hb⟩
      · rw [hx2, h1, ltB_irrefl] at hb; cases hb
      · omega
  have hBx : ∀ x ∈ withKey B k, ∃ e ∈ withKey m k, t < e.time ∧ e.time < x.time ∧ ∀ y ∈ withKey B k, e.time < y.time := by
    rcases hB with rfl | ⟨e, he, h1, h2⟩
    · intro x hx; cases hx
    have hy : ∀ y ∈ withKey B k, e.key = k ∧ t < e.time ∧ e.time < y.time := by
      intro x hx
      obtain ⟨hx1, hx2⟩ := withKey_mem.1 hx
      have hb := h2 x hx1
      rw [hx2] at hb
      rcases h1 with h1 | ⟨h1, h3⟩
      · rcases hb with hb | ⟨hb, _⟩
        · have := ltB_trans hb h1; rw [ltB_irrefl] at this; cases this
        · rw [hb, ltB_irrefl] at h1; cases h1
      · rcases hb with hb | ⟨_, hb⟩
        · rw [← h1, ltB_irrefl] at hb; cases hb
        · exact ⟨h1.symm, h3, hb⟩
    intro x hx
    obtain ⟨a, b, c⟩ := hy x hx
    exact ⟨e, withKey_mem.2 ⟨he, a⟩, b, c, fun y h => (hy y h).2.2⟩
  have e1 : lastLe (withKey (A ++ m ++ B) k) t = lastLe (withKey m k) t := by
    rw [hw, lastLe_append, lastLe_append, lastLe_none (p := withKey B k) (fun x hx => by obtain ⟨e, _, h1, h2, _⟩ := hBx x hx; omega), Option.none_or]
    cases hc : withKey A k with
    | nil => simp [lastLe]
    | cons x r =>
      obtain ⟨e, he, _, h2⟩ := hAx x (by rw [hc]; simp)
      obtain ⟨z, hz⟩ := lastLe_some (t := t) _ he (by omega)
      rw [hz]; rfl
  have e2 : aft (withKey (A ++ m ++ B) k) t = aft (withKey m k) t := by
    rw [hw, List.append_assoc, aft_append, aft_none (p := withKey A k) (fun x hx => by obtain ⟨e, _, h1, h2⟩ := hAx x hx; omega), List.foldl_append]
    show (withKey B k).foldl (aftS t) (aft (withKey m k) t) = _
    cases hc : withKey B k with
    | nil => rfl
    | cons x r =>
      obtain ⟨e, he, h1, _, h3⟩ := hBx x (by rw [hc]; simp)
      obtain ⟨z, hz, hl⟩ := aft_some (t := t) _ (withKey_mono k hs) he (by omega)
      rw [hz]
      refine aft_stays _ (fun y hy => ?_)
      have := h3 y (by rw [hc]; exact hy)
      omega
  unfold nearL
  rw [e1, e2]

theorem cmpP_neg {x : Part} {k : List UInt8} {t : Int} : cmpP x k t < 0 ↔ AheadP x.key x.time k t := by
  unfold cmpP AheadP
  simp only [firstNZ]
  rw [← cmpB_neg, ← cmpB_zero, ← cmpI_neg (a := x.time)]
  split
  · split <;> omega
  · omega
theorem cmpP_pos {x : Part} {k : List UInt8} {t : Int} : 0 < cmpP x k t ↔ AheadP k t x.key x.time := by
  unfold cmpP AheadP
  simp only [firstNZ]
  rw [← cmpB_pos, eq_comm (a := k), ← cmpB_zero, ← cmpI_pos (a := x.time)]
  split
  · split <;> omega
  · omega
theorem cmpP_zero {x : Part} {k : List UInt8} {t : Int} : cmpP x k t = 0 ↔ x.key = k ∧ x.time = t := by
  unfold cmpP
  simp only [firstNZ]
  rw [← cmpB_zero, ← cmpI_zero (a := x.time)]
  split
  · split <;> omega
  · omega
theorem firstP_spec (l : List Part) (k : List UInt8) (t : Int) : ∀ i, firstP l k t i = 0 ∨ ∃ x, l[firstP l k t i]? = some x ∧ cmpP x k t < 0
  | 0 => .inl rfl
  | i + 1 => by
    have ih := firstP_spec l k t i
    unfold firstP
    split
    · rename_i x hx
      split
      · exact .inr ⟨x, hx, by assumption⟩
      · exact ih
    · exact ih
theorem goP_spec (l : List Part) (k : List UInt8) (t : Int) : ∀ (n j : Nat), l.length - j ≤ n → j ≤ goP l k t j ∧ ∀ (h : goP l k t j < l.length), ¬ cmpP (l[goP l k t j]) k t ≤ 0
  | n, j, hn => by
    by_cases h : j < l.length
    · by_cases hc : cmpP l[j] k t ≤ 0
      · obtain ⟨m, rfl⟩ : ∃ m, n = m + 1 := ⟨n - 1, by omega⟩
        have ih := goP_spec l k t m (j + 1) (by omega)
        rw [← goP_on h hc] at ih
        exact ⟨by omega, ih.2⟩
      · have e := goP_at h hc
        refine ⟨by omega, fun h' => ?_⟩
        have : l[goP l k t j] = l[j] := by congr 1
        rw [this]; exact hc
    · have e := goP_end (k := k) (t := t) h
      exact ⟨by omega, fun h' => by omega⟩
theorem extP_spec (l : List Part) : ∀ (n j : Nat), l.length - j ≤ n → (hj : j < l.length) → ∃ h : extP l j < l.length, j ≤ extP l j ∧ l[extP l j].key = l[j].key ∧ l[extP l j].time = l[j].time ∧ ∀ h2 : extP l j + 1 < l.length, ¬ (l[extP l j + 1].key = l[j].key ∧ l[extP l j + 1].time = l[j].time)
  | n, j, hn, hj => by
    by_cases h : j + 1 < l.length
    · by_cases hc : cmpP l[j + 1] l[j].key l[j].time = 0
      · obtain ⟨m, rfl⟩ : ∃ m, n = m + 1 := ⟨n - 1, by omega⟩
        obtain ⟨i1, i2, i3, i4, i5⟩ := extP_spec l m (j + 1) (by omega) h
        obtain ⟨c1, c2⟩ := cmpP_zero.1 hc
        rw [c1] at i3 i5
        rw [c2] at i4 i5
        have e := extP_on h hc
        refine ⟨by omega, by omega, ?_, ?_, ?_⟩
        · have : l[extP l j]'(by omega) = l[extP l (j + 1)] := by congr 1
          rw [this]; exact i3
        · have : l[extP l j]'(by omega) = l[extP l (j + 1)] := by congr 1
          rw [this]; exact i4
        · intro h2
          have : l[extP l j + 1] = l[extP l (j + 1) + 1]'(by omega) := by congr 1; omega
          rw [this]; exact i5 (by omega)
      · have e := extP_at h hc
        rw [cmpP_zero] at hc
        have e1 : l[extP l j]'(by omega) = l[j] := by congr 1
        refine ⟨by omega, by omega, by rw [e1], by rw [e1], fun h2 => ?_⟩
        have : l[extP l j + 1] = l[j + 1] := by congr 1; omega
        rw [this]; exact hc
    · have e := extP_end h
      have e1 : l[extP l j]'(by omega) = l[j] := by congr 1
      exact ⟨by omega, by omega, by rw [e1], by rw [e1], fun h2 => by omega⟩
theorem Before.le {a b : Entry} (h : Before a b) : AheadP a.key a.time b.key b.time ∨ (a.key = b.key ∧ a.time = b.time) := by
  unfold AheadP
  rcases h with h | ⟨h, h2 | ⟨h2, _⟩⟩
  · exact .inl (.inl h)
  · exact .inl (.inr ⟨h, h2⟩)
  · exact .inr ⟨h, h2⟩
theorem AheadP.trans {a b c : List UInt8} {r s t : Int} (h1 : AheadP a r b s) (h2 : AheadP b s c t) : AheadP a r c t := by
  rcases h1 with h1 | ⟨rfl, h1⟩
  · rcases h2 with h2 | ⟨rfl, h2⟩
    · exact .inl (ltB_trans h1 h2)
    · exact .inl h1
  · rcases h2 with h2 | ⟨rfl, h2⟩
    · exact .inl h2
    · exact .inr ⟨rfl, by omega⟩
/-- The entries from one part to another one. -/
def midE (l : List Entry) (m f g : Nat) : List Entry := (l.drop (f * m)).take (g * m + m - f * m)
theorem parts_suffice {l : List Entry} {m : Nat} {k : List UInt8} {t way : Int} (hs : Sorted l) (hm : 0 < m) (hne : l ≠ []) :
    ∃ f g, f ≤ g ∧ g < partsM l.length m ∧ f = firstP (partsN l m (partsM l.length m)) k t (partsM l.length m) ∧ g = lastP (partsN l m (partsM l.length m)) k t ∧
      nearL (withKey l k) t way = nearL (withKey (midE l m f g) k) t way := by
  obtain ⟨n, en⟩ : ∃ n, n = partsM l.length m := ⟨_, rfl⟩
  have hn : ∀ i, i < n ↔ i * m < l.length := fun i => by rw [en]; exact partsM_lt hm
  have hl0 : 0 < l.length := by cases l with | nil => exact absurd rfl hne | cons a r => simp
  have hn0 : 0 < n := (hn 0).2 (by omega)
  rw [← en]
  obtain ⟨P, eP⟩ : ∃ P, P = partsN l m n := ⟨_, rfl⟩
  have hPl : P.length = n := by rw [eP]; simp
  have hPa : ∀ i (h : i < n), P[i]'(by omega) = partK l m i := by intro i h; subst eP; exact partsN_at h
  have hpk : ∀ i (h : i < n), (partK l m i).key = (l[i * m]'((hn i).1 h)).key ∧ (partK l m i).time = (l[i * m]'((hn i).1 h)).time := by
    intro i h
    have := atE_eq ((hn i).1 h)
    exact ⟨by show (atE l (i * m)).key = _; rw [this], by show (atE l (i * m)).time = _; rw [this]⟩
  have hsp := List.pairwise_iff_getElem.1 hs
  obtain ⟨f, ef⟩ : ∃ f, f = firstP P k t n := ⟨_, rfl⟩
  have hf1 : f < n := by have := firstP_le P k t n; omega
  have hf2 := firstP_spec P k t n
  rw [← ef] at hf2
  have hg : ∃ g, g = lastP P k t ∧ f ≤ g ∧ g < n ∧ (g = n - 1 ∨ ∃ j, ∃ hj : j < n, f < j ∧ j ≤ g ∧ ∃ h1 : g < n, ∃ h2 : g + 1 < n, AheadP k t (partK l m j).key (partK l m j).time ∧ ¬ ((partK l m (g + 1)).key = (partK l m j).key ∧ (partK l m (g + 1)).time = (partK l m j).time)) := by
    obtain ⟨j, ej⟩ : ∃ j, j = goP P k t (f + 1) := ⟨_, rfl⟩
    obtain ⟨g1, g2⟩ := goP_spec P k t _ (f + 1) (Nat.le_refl _)
    rw [← ej] at g1
    have eL : lastP P k t = if j < P.length then extP P j else P.length - 1 := by
      unfold lastP
      simp only [hPl, ← ef, ← ej]
    by_cases hj : j < P.length
    · have hj' : j < n := by omega
      obtain ⟨x1, x2, x3, x4, x5⟩ := extP_spec P _ j (Nat.le_refl _) hj
      rw [if_pos hj] at eL
      refine ⟨_, rfl, by omega, by omega, ?_⟩
      rw [eL]
      by_cases hx : extP P j + 1 < n
      · refine .inr ⟨j, hj', by omega, x2, by omega, hx, ?_, ?_⟩
        · have hq : ¬ cmpP (P[j]) k t ≤ 0 := by
            have h0 := g2 (by omega)
            have : P[goP P k t (f + 1)]'(by omega) = P[j] := by congr 1; omega
            rw [this] at h0; exact h0
          rw [hPa j hj'] at hq
          exact cmpP_pos.1 (by omega)
        · have := x5 (by omega)
          rw [hPa j hj', hPa _ hx] at this
          exact this
      · exact .inl (by omega)
    · rw [if_neg hj] at eL
      exact ⟨_, rfl, by omega, by omega, .inl (by omega)⟩
  obtain ⟨g, eg, hfg, hgn, hgs⟩ := hg
  refine ⟨f, g, hfg, hgn, by rw [ef, eP], by rw [eg, eP], ?_⟩
  have hmul : ∀ a b : Nat, a ≤ b → a * m ≤ b * m := fun a b h => Nat.mul_le_mul_right m h
  have hfm := hmul f g hfg
  have hsplit : l = l.take (f * m) ++ midE l m f g ++ l.drop (g * m + m) := by
    unfold midE
    rw [List.append_assoc]
    have : (l.drop (f * m)).take (g * m + m - f * m) ++ l.drop (g * m + m) = l.drop (f * m) := by
      have h1 := List.take_append_drop (g * m + m - f * m) (l.drop (f * m))
      rw [List.drop_drop] at h1
      rw [show f * m + (g * m + m - f * m) = g * m + m by omega] at h1
      exact h1
    rw [this, List.take_append_drop]
  have hmem : ∀ i (h : i < l.length), f * m ≤ i → i < g * m + m → l[i] ∈ midE l m f g := by
    intro i h h1 h2
    unfold midE
    rw [List.mem_iff_getElem]
    refine ⟨i - f * m, by rw [List.length_take, List.length_drop]; omega, ?_⟩
    rw [List.getElem_take, List.getElem_drop]
    congr 1; omega
  conv => lhs; rw [hsplit]
  refine near_mid ?_ ?_ ?_
  · unfold midE
    exact hs.sublist ((List.take_sublist _ _).trans (List.drop_sublist _ _))
  · rcases hf2 with hf2 | ⟨x, hx, hc⟩
    · left; rw [hf2]; simp
    · right
      have hfl := (hn f).1 hf1
      have hxe : x = partK l m f := by
        rw [List.getElem?_eq_getElem (by omega), hPa f hf1] at hx
        injection hx with hx; exact hx.symm
      obtain ⟨k1, k2⟩ := hpk f hf1
      rw [hxe, cmpP_neg, k1, k2] at hc
      refine ⟨l[f * m], hmem _ hfl (Nat.le_refl _) (by omega), hc, fun y hy => ?_⟩
      obtain ⟨i, hi, rfl⟩ := List.mem_iff_getElem.1 hy
      rw [List.length_take] at hi
      rw [List.getElem_take]
      exact hsp i (f * m) (by omega) hfl (by omega)
  · rcases hgs with hgs | ⟨j, hj, h1, h2, h3, h4, h5, h6⟩
    · left
      apply List.drop_eq_nil_of_le
      have : ¬ n * m < l.length := fun h => Nat.lt_irrefl n ((hn n).2 h)
      rw [hgs, ← Nat.succ_mul, show (n - 1).succ = n by omega]; omega
    · right
      obtain ⟨k1, k2⟩ := hpk j hj
      obtain ⟨k3, k4⟩ := hpk (g + 1) h4
      have hjl := (hn j).1 hj
      have hgl := (hn (g + 1)).1 h4
      have hjm := hmul f j (by omega)
      have hjm2 := hmul j g h2
      have hsm : (g + 1) * m = g * m + m := Nat.succ_mul g m
      rw [k1, k2] at h5 h6
      rw [k3, k4] at h6
      refine ⟨l[j * m], hmem _ hjl hjm (by omega), h5, fun y hy => ?_⟩
      have hb := hsp (j * m) ((g + 1) * m) hjl hgl (by omega)
      have ha : AheadP l[j * m].key l[j * m].time l[(g + 1) * m].key l[(g + 1) * m].time := by
        rcases hb.le with h | ⟨h, h'⟩
        · exact h
        · exact absurd ⟨h.symm, h'.symm⟩ h6
      obtain ⟨i, hi, rfl⟩ := List.mem_iff_getElem.1 hy
      rw [List.length_drop] at hi
      rw [List.getElem_drop]
      by_cases hi0 : i = 0
      · have : l[g * m + m + i]'(by omega) = l[(g + 1) * m] := by congr 1; omega
        rw [this]; exact ha
      · have hb2 := hsp ((g + 1) * m) (g * m + m + i) hgl (by omega) (by omega)
        rcases hb2.le with h | ⟨h, h'⟩
        · exact ha.trans h
        · rw [← h, ← h']; exact ha
theorem cut_mid (l : List Entry) (m f g : Nat) (h : f ≤ g) : cutAt (textAll l) (tl l (f * m) : Nat) (tl l (g * m + m) : Nat) = textAll (midE l m f g) := by
  have hm : f * m ≤ g * m + m := Nat.le_trans (Nat.mul_le_mul_right m h) (Nat.le_add_right _ _)
  have h1 : textAll l = textAll (l.take (g * m + m)) ++ textAll (l.drop (g * m + m)) := by rw [← textAll_append, List.take_append_drop]
  have h2 : textAll (l.take (g * m + m)) = textAll (l.take (f * m)) ++ textAll (midE l m f g) := by
    rw [← textAll_append]
    congr 1
    have := List.take_append_drop (f * m) (l.take (g * m + m))
    rw [List.take_take, Nat.min_eq_left hm, List.drop_take] at this
    exact this.symm
  unfold cutAt tl
  simp only [Int.toNat_natCast]
  rw [h1, List.take_left' rfl, h2, List.drop_left' rfl]
theorem midE_sub (l : List Entry) (m f g : Nat) : (midE l m f g).Sublist l := (List.take_sublist _ _).trans (List.drop_sublist _ _)
end Go.Proofs.YtejhjdpafdpjlaaGreatDoor
