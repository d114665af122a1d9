/- A part of the proof: lemmas and contracts of functions. -/
import Derived.Test.YtejhjdpafdpjlaaDoorAbLend
namespace Go.Ab
open Go Go.RowKit
set_option linter.unusedSectionVars false
variable [Amb]

section
variable {P : Program} {S0 : Env} {w0 w : World} {n : Nat} {s : St} {a : Act}

theorem getElem?_setRange {α : Type} (cs vs : List α) (o j : Nat) (h : o + vs.length ≤ cs.length) :
    (setRange cs o vs)[j]? = if j < o then cs[j]? else if j < o + vs.length then vs[j - o]? else cs[j]? := by
  simp only [setRange, List.append_assoc]
  rw [List.getElem?_append]
  simp only [List.length_take]
  by_cases h1 : j < o
  · rw [if_pos (by omega), if_pos h1, List.getElem?_take, if_pos h1]
  · rw [if_neg (by omega), if_neg h1, List.getElem?_append]
    by_cases h2 : j < o + vs.length
    · rw [if_pos (by omega), if_pos h2]; congr 1; omega
    · rw [if_neg (by omega), if_neg h2, List.getElem?_drop]; congr 1; omega

theorem setRange_nested {α : Type} (f c : List α) (o size off : Nat) (h : o + size ≤ f.length) (hc : off + c.length ≤ size) :
    setRange f o (setRange ((f.drop o).take size) off c) = setRange f (o + off) c := by
  have hl : ((f.drop o).take size).length = size := by rw [List.length_take, List.length_drop]; omega
  apply List.ext_getElem?
  intro j
  have hsl : (setRange ((f.drop o).take size) off c).length = size := by rw [setRange_len _ _ _ (by omega), hl]
  rw [getElem?_setRange f _ o j (by omega), getElem?_setRange ((f.drop o).take size) c off (j - o) (by omega), getElem?_setRange f c (o + off) j (by omega), hsl]
  have hA : ((f.drop o).take size)[j - o]? = if j - o < size then f[o + (j - o)]? else none := by
    rw [List.getElem?_take]; split <;> simp
  rw [hA]
  repeat' split
  all_goals first | rfl | (exfalso; omega) | (congr 1; omega)

theorem setRange_take {α : Type} (f c : List α) (o m : Nat) (h : o + c.length ≤ m) (hm : m ≤ f.length) : (setRange f o c).take m = setRange (f.take m) o c := by
  apply List.ext_getElem?
  intro j
  have hl : (f.take m).length = m := by rw [List.length_take]; omega
  rw [List.getElem?_take, getElem?_setRange _ _ _ _ (by omega), getElem?_setRange _ _ _ _ (by omega)]
  by_cases h1 : j < m
  · rw [if_pos h1]
    simp only [List.getElem?_take, if_pos h1]
  · rw [if_neg h1, if_neg (by omega), if_neg (by omega), List.getElem?_take, if_neg h1]

/-- How many cells a variable of the type has. -/
def TK.cells : TK → Option Nat
  | .one => some 1
  | .agg n => some n
  | .bad => none

/-- A store: what must hold, and what is known behind it. -/
def astore (P : Program) (s : St) (t : TypeId) (addr x : Prop × AV) : Prop × St :=
  match addr, x, (tk P t).cells with
  | (p, .ptr i off), (q, .x xv), some m => match s i with
    | .box cs => (p ∧ q ∧ xv.cells.length = m ∧ off + m ≤ cs.length, fun j => if j = i then .box (setRange cs off xv.cells) else s j)
    | _ => (False, s)
  | (p, .eptr i k off), (q, .x xv), some m => match s i with
    | .own e size xs => (p ∧ q ∧ xv.cells.length = m ∧ k < xs.length ∧ off + m ≤ size, fun j => if j = i then .own e size (xs.set k (setRange (xs.getD k []) off xv.cells)) else s j)
    | _ => (False, s)
  | _, _, _ => (False, s)

theorem tk_cells {t : TypeId} {m : Nat} (h : (tk P t).cells = some m) (hs : ∀ i, P.info? t = some i → tk P t = .one → i.size = 1) : (sizeOf t).run P w = .ok m w := by
  cases hk : tk P t with
  | bad => rw [hk] at h; cases h
  | agg k =>
    rw [hk] at h
    injection h with h
    subst h
    obtain ⟨i, hi, hsz, _⟩ := tk_agg (w := w) hk
    rw [run_sizeOf hi, hsz]
  | one =>
    rw [hk] at h
    injection h with h
    subst h
    have : ∃ ty, P.underlying t = some ty := by
      unfold tk at hk
      split at hk <;> first | cases hk | skip
      rename_i ty hu _ _ _ _
      exact ⟨ty, hu⟩
    obtain ⟨ty, hu⟩ := this
    obtain ⟨i, hi⟩ := info_of_underlying hu
    rw [run_sizeOf hi, hs i hi hk]

/-- The size of a type of one cell: a closed fact of the program. -/
def OneOk (P : Program) (t : TypeId) : Bool :=
  match P.info? t, tk P t with
  | some i, .one => i.size == 1
  | _, _ => true

theorem oneOk_spec {t : TypeId} (h : OneOk P t = true) : ∀ i, P.info? t = some i → tk P t = .one → i.size = 1 := by
  intro i hi hk
  unfold OneOk at h
  rw [hi, hk] at h
  simpa using h

theorem run_storeAt (t : TypeId) (g o : Nat) (ty : TypeId) (cur : Array Value) (v : Value) {m : Nat} (hsz : (sizeOf t).run P w = .ok m w) (hm : v.cells.size = m)
    (hg : w.heap[g]? = some (.cells cur ty (0, 0))) (hl : o + m ≤ cur.size) (h1 : ∀ u ∈ v.cells.toList, u.oneCell' = true) :
    (Instr.storeAt t (.pointer (some ⟨g, o, none⟩)) v).run P w = .ok () (w.setRow g (setRange cur.toList o v.cells.toList).toArray) := by
  have hst := run_storeCells_at P g o ty v.cells.toList 0 cur w hg (by simp; omega) h1
  simp only [Nat.add_zero] at hst
  simp only [Instr.storeAt, Instr.sureAddr, storeVar, Sem.run_bind, Sem.run_pure, Result.andThen_ok, hsz, hm, ne_eq, not_true_eq_false, if_false, hst, setRange]

theorem setRow_grown (g : Nat) (cs : Array Value) : w.grownBy (w.setRow g cs) (some g) ∧ (w.setRow g cs).heap.size = w.heap.size := by
  refine ⟨⟨rfl, rfl, rfl, by simp [World.setRow], fun k _ hk => setRow_other w g k cs (fun e => hk (by rw [e]))⟩, by simp [World.setRow]⟩

theorem astore_ok (hR : Rel S0 w0 n s a w) {t : TypeId} {x y : Prop × AV} {u v : Value} (hx : Knows S0 w0 s a w x u) (hy : Knows S0 w0 s a w y v) (ht : OneOk P t = true) (hp : (astore P s t x y).1) :
    ∃ w', (Instr.storeAt t u v).run P w = .ok () w' ∧ Rel S0 w0 n (astore P s t x y).2 a w' := by
  obtain ⟨p, x⟩ := x
  obtain ⟨q, y⟩ := y
  unfold astore at hp ⊢
  split at hp
  · rename_i p' i off q' xv m e1 e2 e3
    injection e1 with e1 e1'; subst e1; subst e1'
    injection e2 with e2 e2'; subst e2; subst e2'
    split at hp
    · rename_i cs hs
      obtain ⟨h1, h2, h3, h4⟩ := hp
      have hsz := tk_cells (P := P) (w := w) e3 (oneOk_spec ht)
      obtain ⟨b, rfl, hb⟩ := hx h1
      have hrep := RepX.cells (hy h2)
      have hi := hR.rep i
      rw [hs] at hi hb
      obtain ⟨b', arr, ty, hv, hh, hl, hB⟩ := hi
      rw [hv] at hb
      obtain rfl : b' = b := by simpa [blkOf] using hb
      have hvs : v.cells.size = m := by have := hrep.1; rw [h3] at this; simpa using this
      have harr : arr.size = cs.length := by have := hl.1; simpa using this
      refine ⟨_, run_storeAt t b' off ty arr v hsz hvs hh (by omega) hrep.oneCells, ?_⟩
      obtain ⟨hg, hgs⟩ := setRow_grown (w := w) b' (setRange arr.toList off v.cells.toList).toArray
      refine hR.write (r := .box (setRange cs off xv.cells)) (b := b') (by rw [hs, hv]; rfl) hg hgs (by rw [hv]; rfl) rfl (by rw [hs]; rfl) (by rw [hs]; rfl) (fun s' => ?_)
      have hsame : ∀ c, Shared S0 w0.heap.size w s (tmOf a) c → (w.setRow b' (setRange arr.toList off v.cells.toList).toArray).heap[c]? = w.heap[c]? := by
        intro c hc
        refine hg.block c hc.2.1 (fun e => ?_)
        injection e with e
        subst e
        exact hc.2.2 i (by rw [hs, hv]; rfl)
      refine ⟨b', _, ty, hv, setRow_heap w b' arr _ ty _ hh, ?_, hB⟩
      exact (hl.setRange hrep off).mono (fun _ h => h) hsame
    · exact hp.elim
  · rename_i p' i k off q' xv m e1 e2 e3
    injection e1 with e1 e1'; subst e1; subst e1'
    injection e2 with e2 e2'; subst e2; subst e2'
    split at hp
    · rename_i e size xs hs
      obtain ⟨h1, h2, h3, h4, h5⟩ := hp
      have hsz := tk_cells (P := P) (w := w) e3 (oneOk_spec ht)
      obtain ⟨b, rfl, hb⟩ := hx h1
      have hrep := RepX.cells (hy h2)
      have hi := hR.rep i
      rw [hs] at hi hb
      obtain ⟨us, hown, hl, hxs, hm, hO⟩ := hi
      have hvs : v.cells.size = m := by have := hrep.1; rw [h3] at this; simpa using this
      rcases hown.2 with ⟨hnil, _⟩ | ⟨g, cap, cur, hv, hbg, hh, hnc, hcm, hcs, htake⟩
      · rw [hnil] at hb; simp [blkOf, Value.ownBlock] at hb
      · have hbb : blkOf (AV.own e size xs) (tmOf a i) = some g := by rw [hv]; rfl
        rw [hbb] at hb
        injection hb with hb
        subst hb
        have hsi : (s i).size = size := by rw [hs]; rfl
        have hkl : (xs.getD k []).length = size := getD_len hxs h4
        have hin : k * size + size ≤ xs.length * size := by
          have : (k + 1) * size ≤ xs.length * size := Nat.mul_le_mul_right _ h4
          rw [Nat.add_mul] at this; omega
        have hcap : xs.length * size ≤ cap * size := Nat.mul_le_mul_right _ hnc
        refine ⟨_, run_storeAt t g _ e cur v hsz hvs hh (by rw [hsi]; omega) hrep.oneCells, ?_⟩
        obtain ⟨hg, hgs⟩ := setRow_grown (w := w) g (setRange cur.toList (k * (s i).size + off) v.cells.toList).toArray
        refine hR.write (r := .own e size (xs.set k (setRange (xs.getD k []) off xv.cells))) (b := g) (by rw [hs]; exact hbb) hg hgs (by rw [hv]; rfl) rfl (by rw [hs]; rfl) (by rw [hs]; simp [AV.len]) (fun s' => ?_)
        have hsame : ∀ c, Shared S0 w0.heap.size w s (tmOf a) c → (w.setRow g (setRange cur.toList (k * (s i).size + off) v.cells.toList).toArray).heap[c]? = w.heap[c]? := by
          intro c hc
          refine hg.block c hc.2.1 (fun e => ?_)
          injection e with e
          subst e
          exact hc.2.2 i (by rw [hs]; exact hbb)
        have hxs' : ∀ x ∈ xs.set k (setRange (xs.getD k []) off xv.cells), x.length = size := by
          intro x hx
          rcases List.mem_or_eq_of_mem_set hx with hx | hx
          · exact hxs x hx
          · rw [hx, setRange_len _ _ _ (by rw [hkl, h3]; exact h5), hkl]
        -- the flat cells
        have hflat : (xs.set k (setRange (xs.getD k []) off xv.cells)).flatten = setRange xs.flatten (k * size + off) xv.cells := by
          rw [flatten_set hxs h4 (by rw [setRange_len _ _ _ (by rw [hkl, h3]; exact h5), hkl])]
          have hfl := flatten_length hxs
          have hdrop : (xs.flatten.drop (k * size)).take size = xs.getD k [] := by
            apply List.ext_getElem?
            intro j
            by_cases hj : j < size
            · rw [List.getElem?_take, if_pos hj, List.getElem?_drop]
              exact flatten_at hxs (c := (xs.getD k [])[j]'(by omega)) (List.getElem?_eq_getElem (by omega)) |>.trans (List.getElem?_eq_getElem (by omega)).symm
            · rw [List.getElem?_eq_none (by simp; omega), List.getElem?_eq_none (by omega)]
          rw [← hdrop]
          exact setRange_nested _ _ _ _ _ (by omega) (by omega)
        refine ⟨setRange us (k * size + off) v.cells.toList, ⟨?_, .inr ⟨g, cap, _, by rw [List.length_set]; exact hv, hbg, setRow_heap w g cur _ e _ hh, by simpa using hnc, hcm, ?_, ?_⟩⟩, ?_, hxs', by simpa using hm, hO⟩
        · have hul : us.length = xs.length * size := by have := hown.1; exact this
          rw [setRange_len _ _ _ (by simp [hvs, hul]; omega)]
          simpa using hown.1
        · simp only [List.size_toArray]
          rw [setRange_len _ _ _ (by simp [hvs]; rw [hsi]; omega)]
          simpa using hcs
        · rw [hsi]
          simp only [List.length_set]
          rw [← htake]
          exact setRange_take _ _ _ _ (by simp [hvs]; omega) (by simp [hcs]; omega)
        · rw [hflat]
          exact (hl.setRange hrep _).mono (fun _ h => h) hsame
    · exact hp.elim
  · exact hp.elim

end
end Go.Ab
