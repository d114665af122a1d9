/-
  Maps of the call's own.
-/
import Derived.Test.YtejhjdpafdpjlaaDoorAbValOk
namespace Go.Ab
open Go Go.RowKit Go.MapKept
set_option linter.unusedSectionVars false
variable [Amb]

theorem mapT_ok {P : Program} {t : TypeId} {kk : KK} {e : TypeId} (h : mapT P t = some (kk, e)) : ∃ k d, P.underlying t = some (.map k e) ∧ P.underlying k = some d ∧ kk.fits d := by
  unfold mapT at h
  split at h
  · rename_i k e' hu
    split at h
    · rename_i hk; simp at h; obtain ⟨rfl, rfl⟩ := h; exact ⟨_, _, hu, hk, rfl⟩
    · rename_i q hk; simp at h; obtain ⟨rfl, rfl⟩ := h; exact ⟨_, _, hu, hk, rfl⟩
    · rename_i hk; simp at h; obtain ⟨rfl, rfl⟩ := h; exact ⟨_, _, hu, hk, rfl⟩
    · cases h
  · cases h

section
variable {P : Program} {w : World} {S : Nat → Prop}

theorem keyOk_is {kk : KK} {d : TypeDesc} {k : XV} {v : Value} (hd : kk.fits d) (hk : keyOk kk k = true) (hr : RepX w S k v) : IsKey d v := by
  cases kk <;> cases k <;> (try (rename_i c; cases c)) <;> simp [keyOk] at hk
  · obtain rfl := hd; obtain ⟨rfl, _⟩ := rep_str hr; trivial
  · obtain rfl := hd; obtain rfl := rep_int hr; exact hk
  · obtain rfl := hd; obtain rfl := rep_bool hr; trivial

theorem keyEq_ok {kk : KK} {d : TypeDesc} {k k' : XV} {v v' : Value} {r : Bool} (hd : kk.fits d) (h1 : RepX w S k v) (h2 : RepX w S k' v') (h : keyEq kk k k' = some r) :
    Instr.sameNow d v v' = some r ∧ (r = true → v = v') := by
  unfold keyEq at h
  split at h
  · rename_i a b
    obtain rfl := hd
    obtain ⟨rfl, _⟩ := rep_str h1
    obtain ⟨rfl, _⟩ := rep_str h2
    injection h with h
    subst h
    have : ((⟨a.toArray⟩ : ByteArray) == ⟨b.toArray⟩) = (a == b) := by
      show (a.toArray == b.toArray) = (a == b)
      simp
    refine ⟨by simp only [Instr.sameNow, this], fun e => by rw [beq_iff_eq.1 e]⟩
  · obtain rfl := hd
    obtain rfl := rep_int h1
    obtain rfl := rep_int h2
    split at h
    · rename_i hk
      subst hk
      injection h with h
      subst h
      exact ⟨by simp [Instr.sameNow], fun e => by rw [beq_iff_eq.1 e]⟩
    · cases h
  · obtain rfl := hd
    obtain rfl := rep_bool h1
    obtain rfl := rep_bool h2
    injection h with h
    subst h
    exact ⟨rfl, fun e => by rw [beq_iff_eq.1 e]⟩
  · cases h

theorem findNow_ok {kk : KK} {d : TypeDesc} {k : XV} {v : Value} (hd : kk.fits d) (hk : RepX w S k v) : ∀ (es : List (XV × XV)) (ents : List MapEntry) (i : Nat) (r : Option Nat),
    (ents.length = es.length) → (∀ (j : Nat) (x : XV × XV), es[j]? = some x → ∃ e, ents[j]? = some e ∧ RepX w S x.1 e.key) → findK kk k es i = some r →
    match r with
    | none => Instr.findNow d v ents i = some none
    | some j => ∃ e, i ≤ j ∧ ents[j - i]? = some e ∧ e.key = v ∧ Instr.findNow d v ents i = some (some (j, e.val))
  | [], ents, i, r, hl, _, h => by
    have : ents = [] := List.eq_nil_of_length_eq_zero hl
    subst this
    simp [findK] at h
    subst h
    rfl
  | x :: es, ents, i, r, hl, hx, h => by
    cases ents with
    | nil => simp at hl
    | cons e0 ents =>
      obtain ⟨e, he, hr⟩ := hx 0 x rfl
      simp at he
      subst he
      simp only [findK] at h
      split at h
      · rename_i heq
        injection h with h
        subst h
        obtain ⟨h1, h2⟩ := keyEq_ok hd hk hr heq
        exact ⟨e0, Nat.le_refl _, by simp, (h2 rfl).symm, by simp [Instr.findNow, h1]⟩
      · rename_i heq
        obtain ⟨h1, _⟩ := keyEq_ok hd hk hr heq
        have ih := findNow_ok hd hk es ents (i + 1) r (by simpa using hl) (fun j y hj => by simpa using hx (j + 1) y (by simpa using hj)) h
        cases r with
        | none => simp only [Instr.findNow, h1]; exact ih
        | some j =>
          obtain ⟨e, hle, hat, hkey, hf⟩ := ih
          refine ⟨e, by omega, ?_, hkey, by simp only [Instr.findNow, h1]; exact hf⟩
          rw [show j - i = (j - (i + 1)) + 1 by omega]
          simpa using hat
      · cases h

theorem zeroX_ok {t : TypeId} {x : XV} (h : zeroX P t = some x) : ∃ z, (zeroValue t).run P w = .ok z w ∧ RepX w S x z := by
  unfold zeroX at h
  split at h
  · rename_i i hi
    split at h
    · rename_i us hz
      split at h
      · rename_i hall
        injection h with h
        subst h
        refine ⟨.agg us, by simp [zeroValue, typeInfo, hi, hz], us, rfl, by simp, fun j c hj => ?_⟩
        rw [List.getElem?_map] at hj
        cases hu : us.toList[j]? with
        | none => rw [hu] at hj; cases hj
        | some u =>
          rw [hu] at hj
          injection hj with hj
          subst hj
          exact ⟨u, rfl, ofCell_rep (List.all_eq_true.1 hall u (List.mem_of_getElem? hu))⟩
      · cases h
    · rename_i v _ hz
      split at h
      · rename_i hs
        injection h with h
        subst h
        exact ⟨v, by simp [zeroValue, typeInfo, hi, hz], ofCell_rep hs⟩
      · cases h
    · cases h
  · cases h

theorem run_mapUpdate {t kt et : TypeId} {d : TypeDesc} {kk : KK} {b c : Nat} {ents : Array MapEntry} {bs : List Nat} {es : List (XV × XV)} {k x : XV} {kv xv : Value} {r : Option Nat}
    (ht : P.underlying t = some (.map kt et)) (hu : P.underlying kt = some d) (hd : kk.fits d) (hb : w.heap[b]? = some (.map ents c)) (he : RepE w S bs es ents.toList)
    (hk : RepX w S k kv) (hok : keyOk kk k = true) (hx : RepX w S x xv) (hf : findK kk k es 0 = some r) :
    ∃ ents' c', (Instr.mapUpdate t (.map (some b)) kv xv).run P w = .ok () { w with heap := w.heap.setIfInBounds b (.map ents' c') } ∧
      c' = (mput c bs es k x r).1 ∧ RepE w S (mput c bs es k x r).2.1 (mput c bs es k x r).2.2 ents'.toList := by
  have hik := keyOk_is hd hok hk
  have hn := findNow_ok hd hk es ents.toList 0 r he.1 (fun j y hj => by obtain ⟨e, h1, _, h2, _⟩ := he.2.2 j y hj; exact ⟨e, h1, h2⟩) hf
  cases r with
  | none =>
    refine ⟨ents.push { key := kv, val := xv, born := c }, c + 1, ?_, rfl, ?_⟩
    · simp [Instr.mapUpdate, run_underlying ht, Go.MapKept.run_getObj_map hb, Go.MapKept.run_checkKey hu hik, Go.MapKept.run_findKey hu hn, Go.MapKept.run_setObj_map _ hb, Result.andThen]
    · simp only [mput, Array.toList_push]
      refine ⟨by simp [he.1], by simp [he.2.1], fun j y hj => ?_⟩
      by_cases hlt : j < es.length
      · rw [List.getElem?_append_left hlt] at hj
        rw [List.getElem?_append_left (by rw [he.1]; exact hlt), List.getElem?_append_left (by rw [he.2.1]; exact hlt)]
        exact he.2.2 j y hj
      · rw [List.getElem?_append_right (by omega)] at hj
        have hj0 : j - es.length = 0 := by
          cases h : j - es.length with
          | zero => rfl
          | succ m => rw [h] at hj; simp at hj
        rw [hj0] at hj
        simp at hj
        subst hj
        refine ⟨{ key := kv, val := xv, born := c }, ?_, ?_, hk, hx⟩
        · rw [List.getElem?_append_right (by rw [he.1]; omega), he.1, hj0]; rfl
        · rw [List.getElem?_append_right (by rw [he.2.1]; omega), he.2.1, hj0]; rfl
  | some i =>
    obtain ⟨e, _, hat, hkey, hfn⟩ := hn
    simp only [Nat.sub_zero] at hat
    have hat' : ents[i]? = some e := by simpa using hat
    refine ⟨ents.modify i fun e => { e with key := kv, val := xv }, c, ?_, rfl, ?_⟩
    · have hst : (Instr.keyThatStays e.key kv).run P w = .ok kv w := by rw [hkey]; exact Go.MapKept.run_keyThatStays hik
      simp [Instr.mapUpdate, run_underlying ht, Go.MapKept.run_getObj_map hb, Go.MapKept.run_checkKey hu hik, Go.MapKept.run_findKey hu hfn, hat', hst, Go.MapKept.run_setObj_map _ hb, Result.andThen]
    · simp only [mput]
      refine ⟨by simp [he.1], by simp [he.2.1], fun j y hj => ?_⟩
      rw [List.getElem?_set] at hj
      split at hj
      · rename_i hij
        subst hij
        split at hj
        · injection hj with hj
          subst hj
          have hlt : i < es.length := by assumption
          obtain ⟨e', h1, h2, _⟩ := he.2.2 i es[i] (List.getElem?_eq_getElem hlt)
          rw [hat] at h1
          injection h1 with h1
          subst h1
          refine ⟨{ e with key := kv, val := xv }, ?_, h2, hk, hx⟩
          simp [Array.getElem?_modify, hat']
        · cases hj
      · rename_i hij
        obtain ⟨e', h1, h2⟩ := he.2.2 j y hj
        refine ⟨e', ?_, h2⟩
        have : (ents.modify i fun e => { e with key := kv, val := xv })[j]? = ents[j]? := by
          rw [Array.getElem?_modify, if_neg hij]
        rw [Array.getElem?_toList] at h1 ⊢
        rw [this]; exact h1

theorem run_lookup {t kt et : TypeId} {d : TypeDesc} {kk : KK} {b c : Nat} {ents : Array MapEntry} {bs : List Nat} {es : List (XV × XV)} {k : XV} {kv z : Value} {r : Option Nat} (ok : Bool)
    (ht : P.underlying t = some (.map kt et)) (hu : P.underlying kt = some d) (hd : kk.fits d) (hb : w.heap[b]? = some (.map ents c)) (he : RepE w S bs es ents.toList)
    (hk : RepX w S k kv) (hok : keyOk kk k = true) (hf : findK kk k es 0 = some r) (hz : (zeroValue et).run P w = .ok z w) :
    ∃ v, (Instr.lookup t (.map (some b)) kv ok).run P w = .ok (if ok then .tuple #[v, .bool r.isSome] else v) w ∧
      match r with
      | none => v = z
      | some i => ∃ x, es[i]? = some x ∧ RepX w S x.2 v := by
  have hik := keyOk_is hd hok hk
  have hn := findNow_ok hd hk es ents.toList 0 r he.1 (fun j y hj => by obtain ⟨e, h1, _, h2, _⟩ := he.2.2 j y hj; exact ⟨e, h1, h2⟩) hf
  cases r with
  | none =>
    refine ⟨z, ?_, rfl⟩
    cases ok <;> simp [Instr.lookup, run_underlying ht, Go.MapKept.run_getObj_map hb, Go.MapKept.run_checkKey hu hik, Go.MapKept.run_findKey hu hn, hz, Result.andThen]
  | some i =>
    obtain ⟨e, _, hat, hkey, hfn⟩ := hn
    simp only [Nat.sub_zero] at hat
    have hlt : i < es.length := by have := (List.getElem?_eq_some_iff.1 hat).1; have := he.1; omega
    obtain ⟨e', h1, _, _, h2⟩ := he.2.2 i es[i] (List.getElem?_eq_getElem hlt)
    rw [hat] at h1
    injection h1 with h1
    subst h1
    refine ⟨e.val, ?_, es[i], List.getElem?_eq_getElem hlt, h2⟩
    cases ok <;> simp [Instr.lookup, run_underlying ht, Go.MapKept.run_getObj_map hb, Go.MapKept.run_checkKey hu hik, Go.MapKept.run_findKey hu hfn, Result.andThen]
end
end Go.Ab
