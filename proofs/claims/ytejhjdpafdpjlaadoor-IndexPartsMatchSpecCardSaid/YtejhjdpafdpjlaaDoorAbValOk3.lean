/- A part of the proof: lemmas and contracts of functions. -/
import Derived.Test.YtejhjdpafdpjlaaDoorAbValOk2
import Derived.Test.YtejhjdpafdpjlaaDoorAbMap
namespace Go.Ab
open Go Go.RowKit
set_option linter.unusedSectionVars false
variable [Amb]

section
variable {P : Program} {S0 : Env} {w0 w : World} {n : Nat} {s : St} {a : Act}

theorem fieldAt_ok {t : TypeId} {f o : Nat} {k : TK} (h : fieldAt P t f = some (o, k)) :
    ∃ fs fd i, P.underlying t = some (.struct fs) ∧ fs[f]? = some fd ∧ P.info? fd.type = some i ∧ 0 < i.size ∧ fd.offset = o ∧ tk P fd.type = k := by
  unfold fieldAt at h
  split at h
  · rename_i fs hu
    split at h
    · rename_i fd hfd
      split at h
      · rename_i i hi
        split at h
        · cases h
        · rename_i hz
          injection h with h
          injection h with h1 h2
          exact ⟨fs, fd, i, hu, hfd, hi, by omega, h1, h2⟩
      · cases h
    · cases h
  · cases h

theorem run_fieldAt {t : TypeId} {f o : Nat} {k : TK} (h : fieldAt P t f = some (o, k)) (ad : Addr) :
    (Instr.fieldAt t (.pointer (some ad)) f).run P w = .ok (.pointer (some (ad.add o))) w := by
  obtain ⟨fs, fd, i, hu, hfd, hi, hpos, ho, _⟩ := fieldAt_ok h
  have hne : i.size ≠ 0 := by omega
  simp [Instr.fieldAt, Instr.sureAddr, run_underlying hu, hfd, fieldPlace, run_sizeOf hi, hne, ho]

theorem afieldAddr_ok {t : TypeId} {f : Nat} {x : Prop × AV} {v : Value} (hx : Knows S0 w0 s a w x v) (hp : (afieldAddr P t f x).1) :
    Yields P S0 w0 s a w (Instr.fieldAt t v f) (afieldAddr P t f x).2 := by
  obtain ⟨p, x⟩ := x
  cases hf : fieldAt P t f with
  | none => simp only [afieldAddr, hf] at hp
  | some ok =>
    obtain ⟨o, k⟩ := ok
    cases x with
    | ptr i off =>
      simp only [afieldAddr, hf] at hp ⊢
      obtain ⟨b, rfl, hb⟩ := hx hp
      exact ⟨_, run_fieldAt hf _, ⟨b, by rw [addr_add_lit], hb⟩, rfl⟩
    | eptr i k' off =>
      simp only [afieldAddr, hf] at hp ⊢
      obtain ⟨b, rfl, hb⟩ := hx hp
      exact ⟨_, run_fieldAt hf _, ⟨b, by rw [addr_add_lit, Nat.add_assoc], hb⟩, rfl⟩
    | elem cs =>
      simp only [afieldAddr, hf] at hp ⊢
      obtain ⟨ad, rfl, hsp, hS, hc⟩ := hx hp
      refine ⟨_, run_fieldAt hf _, ⟨_, rfl, ?_, by rw [block_add]; exact hS, fun j c hj => ?_⟩, rfl⟩
      · unfold Addr.add; split <;> simp [hsp]
      · rw [addr_add_add]
        rw [List.getElem?_drop] at hj
        exact hc _ _ hj
    | _ => simp only [afieldAddr, hf] at hp

theorem afield_ok {t : TypeId} {f : Nat} {x : Prop × AV} {v : Value} (hx : Knows S0 w0 s a w x v) (hp : (afield P t f x).1) :
    Yields P S0 w0 s a w (Instr.field t v f) (afield P t f x).2 := by
  obtain ⟨p, x⟩ := x
  cases hf : fieldAt P t f with
  | none => cases x <;> simp only [afield, hf] at hp
  | some ok =>
    obtain ⟨o, k⟩ := ok
    cases x with
    | x xv => cases xv with
     | one c => simp only [afield, hf] at hp
     | agg cs =>
      simp only [afield, hf] at hp ⊢
      obtain ⟨fs, fd, i, hu, hfd, hi, hpos, ho, hk⟩ := fieldAt_ok hf
      subst ho
      subst hk
      cases hkt : tk P fd.type with
      | bad => rw [hkt] at hp; exact hp.elim
      | one =>
        rw [hkt] at hp
        simp only [acut] at hp ⊢
        cases hd : cs.drop fd.offset with
        | nil => rw [hd] at hp; exact hp.elim
        | cons c r =>
          rw [hd] at hp
          obtain ⟨us, rfl, hl⟩ := hx hp
          obtain ⟨u, hu', hr⟩ := (hl.drop fd.offset).2 0 c (by rw [hd]; rfl)
          rw [List.getElem?_drop] at hu'
          refine ⟨u, ?_, hr, rfl⟩
          have : us[fd.offset]? = some u := by simpa using hu'
          simp [Instr.field, run_underlying hu, hfd, asAgg, part, tk_one (w := w) hkt, this]
      | agg m =>
        rw [hkt] at hp
        obtain ⟨hp, hl'⟩ := hp
        obtain ⟨us, rfl, hl⟩ := hx hp
        obtain ⟨i', hi', hsz, hag⟩ := tk_agg (w := w) hkt
        refine ⟨.agg (us.extract fd.offset (fd.offset + m)), ?_, ⟨_, rfl, ?_⟩, rfl⟩
        · simp [Instr.field, run_underlying hu, hfd, asAgg, part, hag, run_sizeOf hi', hsz]
        · have := hl.sub fd.offset m
          simp only [Array.toList_extract, List.extract_eq_take_drop]
          simpa using this
    | _ => simp only [afield, hf] at hp

theorem sliceT_ok {t e : TypeId} {size : Nat} (h : sliceT P t = some (e, size)) :
    ∃ i, P.underlying t = some (.slice e) ∧ P.info? e = some i ∧ i.size = size ∧ 0 < size := by
  unfold sliceT at h
  split at h
  · rename_i e' hu
    split at h
    · rename_i i hi
      split at h
      · cases h
      · injection h with h
        injection h with h1 h2
        subst h1
        exact ⟨i, hu, hi, h2, by omega⟩
    · cases h
  · cases h

theorem isStringT_ok {t : TypeId} (h : isStringT P t = true) : P.underlying t = some .string := by
  unfold isStringT at h
  split at h
  · assumption
  · cases h

theorem run_indexAt_in {t e : TypeId} {size : Nat} (h : sliceT P t = some (e, size)) (ad : Addr) (len cap : Nat) (k : IntKind) (m : Int) (h0 : 0 ≤ m) (h1 : m < len) :
    (Instr.indexAt t (.slice (some ad) len cap) (.int k m)).run P w = .ok (.pointer (some (ad.add (m.toNat * size)))) w := by
  obtain ⟨i, hu, hi, hs, _⟩ := sliceT_ok h
  simp [Instr.indexAt, asIntOf, run_underlying hu, h0, h1, run_sizeOf hi, hs]

theorem getD_len {xs : List (List CV)} {size k : Nat} (hx : ∀ x ∈ xs, x.length = size) (hk : k < xs.length) : (xs.getD k []).length = size := by
  rw [List.getD_eq_getElem?_getD, List.getElem?_eq_getElem hk]
  exact hx _ (List.getElem_mem hk)

theorem aindexAddr_shape {t : TypeId} {x i : Prop × AV} (hp : (aindexAddr P s t x i).1) :
    ∃ e size k m, sliceT P t = some (e, size) ∧ i.2 = .x (.one (.int k m)) ∧ ((∃ z xs, x.2 = .x (.one (.list z xs))) ∨ (∃ j, x.2 = .alias j) ∨ ∃ j lo len wh, x.2 = .view j lo len wh) := by
  unfold aindexAddr at hp
  split at hp
  · rename_i hT; exact ⟨_, _, _, _, hT, rfl, .inl ⟨_, _, rfl⟩⟩
  · rename_i hT; exact ⟨_, _, _, _, hT, rfl, .inr (.inl ⟨_, rfl⟩)⟩
  · rename_i hT; exact ⟨_, _, _, _, hT, rfl, .inr (.inr ⟨_, _, _, _, rfl⟩)⟩
  · exact hp.elim

theorem aindexAddr_ok {t : TypeId} {x i : Prop × AV} {v iv : Value} (hR : Rel S0 w0 n s a w) (hx : Knows S0 w0 s a w x v) (hi : Knows S0 w0 s a w i iv) (hp : (aindexAddr P s t x i).1) :
    Yields P S0 w0 s a w (Instr.indexAt t v iv) (aindexAddr P s t x i).2 := by
  obtain ⟨e, size, k, m, hT, hie, hxe⟩ := aindexAddr_shape hp
  obtain ⟨p, x⟩ := x
  obtain ⟨q, i⟩ := i
  dsimp only at hie hxe
  subst hie
  rcases hxe with ⟨z, xs, rfl⟩ | ⟨j, rfl⟩ | ⟨j, lo, len, wh, rfl⟩
  · simp only [aindexAddr, hT] at hp ⊢
    obtain ⟨h1, h2, rfl, h4, h5⟩ := hp
    obtain rfl := rep_int (hi h2)
    have hr := hx h1
    cases hr with
    | list0 => simp at h5; omega
    | list ad cap size xs U hs hsp hc hm hxl hU hrep =>
      refine ⟨_, run_indexAt_in hT ad _ cap k m h4 h5, ⟨_, rfl, ?_, by rw [block_add]; exact hs, fun j c hj => ?_⟩, rfl⟩
      · unfold Addr.add; split <;> simp [hsp]
      · rw [addr_add_add]
        have := flatten_at hxl hj
        exact ⟨_, hU _ _ this, hrep _ _ this⟩
  · simp only [aindexAddr, hT] at hp ⊢
    cases hsj : s j with
    | own e' z xs =>
      rw [hsj] at hp
      simp only at hp ⊢
      obtain ⟨h1, h2, rfl, h4, h5⟩ := hp
      obtain rfl := rep_int (hi h2)
      obtain ⟨rfl, _⟩ := hx h1
      have hj := hR.rep j
      rw [hsj] at hj
      obtain ⟨us, hown, hl, hxl, _⟩ := hj
      rcases hown.2 with ⟨_, h0⟩ | ⟨g, cap, cur, hv, _⟩
      · omega
      · rw [hv]
        refine ⟨_, run_indexAt_in hT _ _ cap k m h4 h5, ⟨g, ?_, ?_⟩, rfl⟩
        · rw [addr_add_lit, hsj]; simp [AV.size]
        · rw [hsj]; show Value.ownBlock _ = _; rw [hv]; rfl
    | _ => rw [hsj] at hp; exact hp.elim
  · simp only [aindexAddr, hT] at hp ⊢
    obtain ⟨h1, h2, h3, h4, h5⟩ := hp
    obtain rfl := rep_int (hi h2)
    obtain ⟨_, hle, hv⟩ := hx h1
    rcases hv with ⟨_, h0⟩ | ⟨b, off, cap, rfl, hc, hm, hk, hz, _⟩
    · omega
    · obtain rfl := hz (by omega)
      refine ⟨_, run_indexAt_in hT _ _ cap k m h4 h5, ⟨b, ?_, hk⟩, rfl⟩
      rw [addr_add_lit, h3, Nat.add_mul]; simp

theorem aindex_ok {t : TypeId} {x i : Prop × AV} {v iv : Value} (hx : Knows S0 w0 s a w x v) (hi : Knows S0 w0 s a w i iv) (hp : (aindex P t x i).1) :
    Yields P S0 w0 s a w (Instr.index t v iv) (aindex P t x i).2 := by
  obtain ⟨p, x⟩ := x
  obtain ⟨q, i⟩ := i
  match x, i, hp with
  | .x (.one (.str l)), .x (.one (.int k m)), hp =>
    obtain ⟨h1, h2, h3, h4, h5⟩ := hp
    obtain rfl := rep_int (hi h2)
    obtain ⟨rfl, _⟩ := rep_str (hx h1)
    have hu := isStringT_ok h3
    have hlt : m.toNat < l.length := by omega
    refine ⟨_, ?_, RepC.int _ _, rfl⟩
    have hat : (⟨l.toArray⟩ : ByteArray)[m.toNat]? = some (l.getD m.toNat 0) := by
      rw [ByteArray.getElem?_lt' _ _ (by rw [bytesSize]; exact hlt)]
      congr 1
      show l.toArray[m.toNat] = _
      simp [List.getD, hlt]
    simp [Instr.index, asIntOf, run_underlying hu, h4, hat]

theorem aextract_ok {x : Prop × AV} {i : Nat} {v : Value} (hx : Knows S0 w0 s a w x v) (hp : (aextract x i).1) :
    Yields P S0 w0 s a w (Instr.extract v i) (aextract x i).2 := by
  obtain ⟨p, x⟩ := x
  match x, hp with
  | .tup vs, hp =>
    simp only [aextract] at hp ⊢
    cases hv : vs[i]? with
    | none => rw [hv] at hp; exact hp.elim
    | some xv =>
      rw [hv] at hp
      obtain ⟨us, rfl, _, h⟩ := hx hp
      obtain ⟨u, hu, hr⟩ := h i xv hv
      exact ⟨u, by simp [Instr.extract, hu], hr, rfl⟩

theorem alen_ok {t ty : TypeId} {x : Prop × AV} {v : Value} (hR : Rel S0 w0 n s a w) (hx : Knows S0 w0 s a w x v) (hp : (alen P s t x).1) :
    Yields P S0 w0 s a w (Builtin.len_ #[t] ty #[v]) (alen P s t x).2 := by
  obtain ⟨p, x⟩ := x
  match x, hp with
  | .x (.one (.str l)), hp =>
    obtain ⟨h1, h2⟩ := hp
    obtain ⟨rfl, _⟩ := rep_str (hx h1)
    exact ⟨_, by simp [Builtin.len_, run_underlying (isStringT_ok h2), goInt, bytesSize], RepC.int _ _, rfl⟩
  | .x (.one .nil), hp =>
    obtain ⟨h1, h2⟩ := hp
    obtain rfl := rep_nil (hx h1)
    obtain ⟨⟨e, z⟩, hT⟩ := Option.isSome_iff_exists.1 h2
    obtain ⟨i, hu, _⟩ := sliceT_ok hT
    exact ⟨_, by simp [Builtin.len_, run_underlying hu, goInt], RepC.int _ _, rfl⟩
  | .x (.one (.empty z)), hp =>
    obtain ⟨h1, h2⟩ := hp
    have hr := hx h1
    obtain ⟨⟨e, z⟩, hT⟩ := Option.isSome_iff_exists.1 h2
    obtain ⟨i, hu, _⟩ := sliceT_ok hT
    cases hr
    exact ⟨_, by simp [Builtin.len_, run_underlying hu, goInt], RepC.int _ _, rfl⟩
  | .x (.one (.list z xs)), hp =>
    obtain ⟨h1, h2⟩ := hp
    obtain ⟨⟨e, z'⟩, hT⟩ := Option.isSome_iff_exists.1 h2
    obtain ⟨i, hu, _⟩ := sliceT_ok hT
    have hr := hx h1
    have : ∃ b c, v = .slice b xs.length c := by
      cases hr with
      | list0 b c _ _ _ => exact ⟨b, c, rfl⟩
      | list ad cap => exact ⟨_, cap, rfl⟩
    obtain ⟨b, c, rfl⟩ := this
    exact ⟨_, by simp [Builtin.len_, run_underlying hu, goInt], RepC.int _ _, rfl⟩
  | .alias j, hp =>
    simp only [alen] at hp ⊢
    cases hsj : s j with
    | own e' z xs =>
      rw [hsj] at hp
      obtain ⟨h1, h2⟩ := hp
      obtain ⟨⟨e, z'⟩, hT⟩ := Option.isSome_iff_exists.1 h2
      obtain ⟨i, hu, _⟩ := sliceT_ok hT
      obtain ⟨rfl, _⟩ := hx h1
      have hj := hR.rep j
      rw [hsj] at hj
      obtain ⟨us, hown, _⟩ := hj
      have : ∃ b c, tmOf a j = .slice b xs.length c := by
        rcases hown.2 with ⟨h, h0⟩ | ⟨g, cap, cur, hv, _⟩
        · exact ⟨none, 0, by rw [h, h0]⟩
        · exact ⟨_, cap, hv⟩
      obtain ⟨b, c, hv⟩ := this
      rw [hv]
      exact ⟨_, by simp [Builtin.len_, run_underlying hu, goInt], RepC.int _ _, rfl⟩
    | mp c bs es =>
      rw [hsj] at hp
      obtain ⟨h1, h2⟩ := hp
      obtain ⟨⟨kk, e⟩, hT⟩ := Option.isSome_iff_exists.1 h2
      obtain ⟨kt, d, hu, _⟩ := mapT_ok hT
      obtain ⟨rfl, _⟩ := hx h1
      have hj := hR.rep j
      rw [hsj] at hj
      obtain ⟨b, ents, hv, hh, _, he⟩ := hj
      rw [hv]
      have hl : ents.size = es.length := by have := he.1; simpa using this
      exact ⟨_, by simp [Builtin.len_, run_underlying hu, goInt, Go.MapKept.run_getObj_map hh, Result.andThen, hl], RepC.int _ _, rfl⟩
    | _ => rw [hsj] at hp; exact hp.elim
  | .view i lo len wh, hp =>
    obtain ⟨h1, h2⟩ := hp
    obtain ⟨⟨e, z'⟩, hT⟩ := Option.isSome_iff_exists.1 h2
    obtain ⟨j, hu, _⟩ := sliceT_ok hT
    obtain ⟨_, hle, hv⟩ := hx h1
    have : ∃ b c, v = .slice b len c := by
      rcases hv with ⟨h, h0⟩ | ⟨b, off, cap, rfl, _⟩
      · exact ⟨none, 0, by rw [h, h0]⟩
      · exact ⟨_, cap, rfl⟩
    obtain ⟨b, c, hv⟩ := this
    rw [hv]
    exact ⟨_, by simp [Builtin.len_, run_underlying hu, goInt], RepC.int _ _, rfl⟩

theorem acap_ok {t ty : TypeId} {x : Prop × AV} {v : Value} (hx : Knows S0 w0 s a w x v) (hp : (acap P t x).1) :
    Yields P S0 w0 s a w (Builtin.cap_ #[t] ty #[v]) (acap P t x).2 := by
  unfold acap at hp ⊢
  split at hp
  · obtain ⟨h1, h2⟩ := hp
    obtain rfl := rep_nil (hx h1)
    obtain ⟨⟨e, z⟩, hT⟩ := Option.isSome_iff_exists.1 h2
    obtain ⟨i, hu, _⟩ := sliceT_ok hT
    exact ⟨_, by simp [Builtin.cap_, run_underlying hu, goInt], RepC.int _ _, rfl⟩
  · exact hp.elim

theorem alookup_ok {t : TypeId} {x k : Prop × AV} {v kv : Value} {ok : Bool} (hR : Rel S0 w0 n s a w) (hx : Knows S0 w0 s a w x v) (hk : Knows S0 w0 s a w k kv) (hp : (alookup P s t x k ok).1) :
    Yields P S0 w0 s a w (Instr.lookup t v kv ok) (alookup P s t x k ok).2 := by
  obtain ⟨p, x⟩ := x
  obtain ⟨q, k⟩ := k
  unfold alookup at hp ⊢
  split at hp
  · rename_i kk e p' i q' kx hT e1 e2
    injection e1 with e1a e1b; subst e1a; subst e1b
    injection e2 with e2a e2b; subst e2a; subst e2b
    split at hp
    · rename_i c bs es hs
      split at hp
      · rename_i r z hf hz
        obtain ⟨h1, h2, h3⟩ := hp
        obtain ⟨kt, d, hu, hku, hd⟩ := mapT_ok hT
        obtain ⟨rfl, _⟩ := hx h1
        have hj := hR.rep i
        rw [hs] at hj
        obtain ⟨b, ents, hv, hh, _, he⟩ := hj
        obtain ⟨zv, hzr, hzx⟩ := zeroX_ok (P := P) (w := w) (S := Shared S0 w0.heap.size w s (tmOf a)) hz
        rw [hv]
        obtain ⟨u, hrun, hu'⟩ := run_lookup (P := P) ok hu hku hd hh he (hk h2) h3 hf hzr
        have hrep : RepX w (Shared S0 w0.heap.size w s (tmOf a)) (match r with | some j => ((es[j]?).getD (z, z)).2 | none => z) u := by
          cases r with
          | none => simp only at hu'; subst hu'; exact hzx
          | some j => obtain ⟨x, hx1, hx2⟩ := hu'; simp only [hx1, Option.getD_some]; exact hx2
        refine ⟨_, hrun, ?_, ?_⟩
        · cases ok with
          | false => cases r <;> exact hrep
          | true =>
            cases r with
            | none => exact ⟨#[u, .bool false], rfl, rfl, fun j y hj => by
                match j, hj with
                | 0, hj => simp at hj; subst hj; exact ⟨u, rfl, hrep⟩
                | 1, hj => simp at hj; subst hj; exact ⟨_, rfl, RepC.bool _⟩
                | j + 2, hj => simp at hj⟩
            | some m => exact ⟨#[u, .bool true], rfl, rfl, fun j y hj => by
                match j, hj with
                | 0, hj => simp at hj; subst hj; exact ⟨u, rfl, hrep⟩
                | 1, hj => simp at hj; subst hj; exact ⟨_, rfl, RepC.bool _⟩
                | j + 2, hj => simp at hj⟩
        · cases ok <;> cases r <;> rfl
      · exact hp.elim
    · exact hp.elim
  · exact hp.elim

theorem amax_ok {ts : Array TypeId} {ty : TypeId} {x y : Prop × AV} {u v : Value} (hx : Knows S0 w0 s a w x u) (hy : Knows S0 w0 s a w y v) (hp : (amax x y).1) :
    Yields P S0 w0 s a w (Builtin.max_ ts ty #[u, v]) (amax x y).2 := by
  obtain ⟨p, x⟩ := x
  obtain ⟨q, y⟩ := y
  match x, y, hp with
  | .x (.one (.int k m)), .x (.one (.int k' m')), hp =>
    obtain rfl := rep_int (hx hp.1)
    obtain rfl := rep_int (hy hp.2)
    refine ⟨.int k (max m m'), ?_, RepC.int _ _, rfl⟩
    have : (if m' > m then m' else m) = max m m' := by split <;> omega
    simp [Builtin.max_, Builtin.max2]
    simpa using this

theorem amin_ok {ts : Array TypeId} {ty : TypeId} {x y : Prop × AV} {u v : Value} (hx : Knows S0 w0 s a w x u) (hy : Knows S0 w0 s a w y v) (hp : (amin x y).1) :
    Yields P S0 w0 s a w (Builtin.min_ ts ty #[u, v]) (amin x y).2 := by
  obtain ⟨p, x⟩ := x
  obtain ⟨q, y⟩ := y
  match x, y, hp with
  | .x (.one (.int k m)), .x (.one (.int k' m')), hp =>
    obtain rfl := rep_int (hx hp.1)
    obtain rfl := rep_int (hy hp.2)
    refine ⟨.int k (min m m'), ?_, RepC.int _ _, rfl⟩
    have : (if m' < m then m' else m) = min m m' := by split <;> omega
    simp [Builtin.min_, Builtin.min2]
    simpa using this

theorem aunop_ok {op : UnOp} {x : Prop × AV} {v : Value} (hx : Knows S0 w0 s a w x v) (hp : (aunop op x).1) : Yields P S0 w0 s a w (Op.unary op v) (aunop op x).2 := by
  obtain ⟨p, x⟩ := x
  match op, x, hp with
  | .not, .x (.one (.bool b)), hp =>
    obtain rfl := rep_bool (hx hp)
    exact ⟨_, rfl, RepC.bool _, rfl⟩
  | .neg, .x (.one (.int k m)), hp =>
    obtain rfl := rep_int (hx hp)
    exact ⟨_, rfl, RepC.int _ _, rfl⟩

theorem aconvert_ok {src dst : TypeId} {x : Prop × AV} {v : Value} (hx : Knows S0 w0 s a w x v) (hp : (aconvert P src dst x).1) : Yields P S0 w0 s a w (convert src dst v) (aconvert P src dst x).2 := by
  obtain ⟨p, x⟩ := x
  match x, hp with
  | .x (.one (.int k m)), hp =>
    simp only [aconvert] at hp ⊢
    cases hd : intT P dst with
    | none => rw [hd] at hp; exact hp.elim
    | some k' =>
      rw [hd] at hp
      obtain ⟨h1, h2⟩ := hp
      obtain rfl := rep_int (hx h1)
      obtain ⟨ty, hty⟩ := Option.isSome_iff_exists.1 h2
      have hu : P.underlying dst = some (.int k') := by
        unfold intT at hd
        split at hd
        · injection hd with hd; subst hd; assumption
        · cases hd
      refine ⟨_, ?_, RepC.int _ _, rfl⟩
      simp [convert, run_underlying hty, run_underlying hu, Conv.intToInt]
  | .x (.one (.str l)), hp =>
    obtain ⟨h1, h2, h3⟩ := hp
    have hr := hx h1
    obtain ⟨rfl, _⟩ := rep_str hr
    exact ⟨_, by simp [convert, run_underlying (isStringT_ok h2), run_underlying (isStringT_ok h3)], hr, rfl⟩

end
end Go.Ab
