/- A part of the proof: lemmas and contracts of functions. -/
import Derived.Test.YtejhjdpafdpjlaaDoorAbSimp
namespace Go.Ab
open Go Go.RowKit
set_option linter.unusedSectionVars false
variable [Amb]

def plainOp : Op → Bool
  | .move _ => true
  | .pick _ _ _ => true
  | .load _ _ => true
  | .nilCheck _ => true
  | .binOp _ _ _ _ _ => true
  | .unOp _ _ _ => true
  | .convert _ _ _ => true
  | .fieldAddr _ _ _ => true
  | .field _ _ _ => true
  | .indexAddr _ _ _ => true
  | .index _ _ _ => true
  | .extract _ _ => true
  | .lookup _ _ _ _ => true
  | .makeFunc _ _ _ => true
  | .slice _ _ _ _ _ => true
  | _ => false

def optK {α : Type} (o : Option α) (k : α → Prop) : Prop := match o with
  | some x => k x
  | none => False
@[congr] theorem optK_congr {α : Type} {o o' : Option α} {k : α → Prop} (h : o = o') : optK o k = optK o' k := by rw [h]
@[simp] theorem optK_some {α : Type} (x : α) (k : α → Prop) : optK (some x) k = k x := rfl
def boxK (r : Prop × AV) (k : List CV → Prop) : Prop := match r with
  | (p, .x xv) => p ∧ k xv.cells
  | _ => False
@[congr] theorem boxK_congr {r r' : Prop × AV} {k : List CV → Prop} (h : r = r') : boxK r k = boxK r' k := by rw [h]
@[simp] theorem boxK_one (p : Prop) (c : CV) (k : List CV → Prop) : boxK (p, .x (.one c)) k = (p ∧ k [c]) := rfl
@[simp] theorem boxK_agg (p : Prop) (c : List CV) (k : List CV → Prop) : boxK (p, .x (.agg c)) k = (p ∧ k c) := rfl
def andS (r : Prop × St) (k : St → Prop) : Prop := r.1 ∧ k r.2
@[congr] theorem andS_congr {r r' : Prop × St} {k : St → Prop} (h : r = r') : andS r k = andS r' k := by rw [h]
@[simp] theorem andS_mk (p : Prop) (s : St) (k : St → Prop) : andS (p, s) k = (p ∧ k s) := rfl
def andA (r : Prop × St × AV) (k : St → AV → Prop) : Prop := r.1 ∧ k r.2.1 r.2.2
@[congr] theorem andA_congr {r r' : Prop × St × AV} {k : St → AV → Prop} (h : r = r') : andA r k = andA r' k := by rw [h]
@[simp] theorem andA_mk (p : Prop) (s : St) (v : AV) (k : St → AV → Prop) : andA (p, s, v) k = (p ∧ k s v) := rfl
def boolK (b : Bool) (x y : Prop) : Prop := match b with
  | true => x
  | false => y
@[congr] theorem boolK_congr {b b' : Bool} {x y : Prop} (h : b = b') : boolK b x y = boolK b' x y := by rw [h]
@[simp ↓] theorem boolK_true (x y : Prop) : boolK true x y = x := rfl
@[simp ↓] theorem boolK_false (x y : Prop) : boolK false x y = y := rfl
def assignK (v : AV) (k1 k2 : AV → Prop) (k3 : Nat → Nat → Nat → Bool → Prop) : Prop := match v with
  | .own e z xs => k1 (.own e z xs)
  | .mp c bs es => k1 (.mp c bs es)
  | .view i lo len wh => k3 i lo len wh
  | v => k2 v
@[congr] theorem assignK_congr {v v' : AV} {k1 k2 : AV → Prop} {k3 : Nat → Nat → Nat → Bool → Prop} (h : v = v') : assignK v k1 k2 k3 = assignK v' k1 k2 k3 := by rw [h]
section
variable (k1 k2 : AV → Prop) (k3 : Nat → Nat → Nat → Bool → Prop)
@[simp] theorem assignK_own (e z : Nat) (xs : List (List CV)) : assignK (.own e z xs) k1 k2 k3 = k1 (.own e z xs) := rfl
@[simp] theorem assignK_mp (c : Nat) (bs : List Nat) (es : List (XV × XV)) : assignK (.mp c bs es) k1 k2 k3 = k1 (.mp c bs es) := rfl
@[simp] theorem assignK_view (i lo len : Nat) (wh : Bool) : assignK (.view i lo len wh) k1 k2 k3 = k3 i lo len wh := rfl
@[simp] theorem assignK_dead : assignK .dead k1 k2 k3 = k2 .dead := rfl
@[simp] theorem assignK_x (v : XV) : assignK (.x v) k1 k2 k3 = k2 (.x v) := rfl
@[simp] theorem assignK_tup (v : List XV) : assignK (.tup v) k1 k2 k3 = k2 (.tup v) := rfl
@[simp] theorem assignK_box (v : List CV) : assignK (.box v) k1 k2 k3 = k2 (.box v) := rfl
@[simp] theorem assignK_ptr (s o : Nat) : assignK (.ptr s o) k1 k2 k3 = k2 (.ptr s o) := rfl
@[simp] theorem assignK_eptr (s i o : Nat) : assignK (.eptr s i o) k1 k2 k3 = k2 (.eptr s i o) := rfl
@[simp] theorem assignK_elem (v : List CV) : assignK (.elem v) k1 k2 k3 = k2 (.elem v) := rfl
@[simp] theorem assignK_alias (s : Nat) : assignK (.alias s) k1 k2 k3 = k2 (.alias s) := rfl
@[simp] theorem assignK_cloR (f : FuncId) (caps : List (CV ⊕ (Nat × Nat))) : assignK (.cloR f caps) k1 k2 k3 = k2 (.cloR f caps) := rfl
@[simp] theorem assignK_cond (e : Bool) (v : AV) : assignK (.cond e v) k1 k2 k3 = k2 (.cond e v) := rfl
end
def selfO (s : St) (d lo len : Nat) (wh : Bool) (K : St → Prop) : AV → Prop
  | .own e size xs => boolK wh (K (put (put s d .dead) d (.own e size (xs.take len)))) (K (put (freeze s d) d (.x (.one (.list size ((xs.drop lo).take len))))))
  | _ => False
@[congr] theorem selfO_congr {s : St} {d lo len : Nat} {wh : Bool} {K : St → Prop} {v v' : AV} (h : v = v') : selfO s d lo len wh K v = selfO s d lo len wh K v' := by rw [h]
@[simp] theorem selfO_own (s : St) (d lo len : Nat) (wh : Bool) (K : St → Prop) (e size : Nat) (xs : List (List CV)) : selfO s d lo len wh K (.own e size xs) = boolK wh (K (put (put s d .dead) d (.own e size (xs.take len)))) (K (put (freeze s d) d (.x (.one (.list size ((xs.drop lo).take len)))))) := rfl
@[simp ↓] theorem aselfView_eq (s : St) (d lo len : Nat) (wh : Bool) (K : St → Prop) : aselfView s d lo len wh K = selfO s d lo len wh K (s d) := by
  unfold aselfView selfO boolK
  cases s d <;> first | rfl | (cases wh <;> rfl)

section
variable (P : Program) (n : Nat) (ops : Array Oper) (s : St) (K : St → Prop) (d : Nat) (ty : TypeId) (pos : String) (after : Array Edge) (r : List Oper)

@[simp] theorem aops_nil : aops P n ops [] s K = K s := rfl
theorem aops_plain (op : Op) (h : plainOp op = true) : aops P n ops (⟨some d, op, ty, pos, after, none⟩ :: r) s K = andP (aval2 P s op) (fun v => d < n ∧ aops P n ops r (put s d v) K) := by
  cases op <;> first | rfl | (simp [plainOp] at h)
@[simp] theorem aops_move (x : Operand) : aops P n ops (⟨some d, .move x, ty, pos, after, none⟩ :: r) s K = andP (aval2 P s (.move x)) (fun v => d < n ∧ aops P n ops r (put s d v) K) := aops_plain P n ops s K d ty pos after r _ (by rfl)
@[simp] theorem aops_pick (c x y : Operand) : aops P n ops (⟨some d, .pick c x y, ty, pos, after, none⟩ :: r) s K = andP (aval2 P s (.pick c x y)) (fun v => d < n ∧ aops P n ops r (put s d v) K) := aops_plain P n ops s K d ty pos after r _ (by rfl)
@[simp] theorem aops_load (t : TypeId) (x : Operand) : aops P n ops (⟨some d, .load t x, ty, pos, after, none⟩ :: r) s K = andP (aval2 P s (.load t x)) (fun v => d < n ∧ aops P n ops r (put s d v) K) := aops_plain P n ops s K d ty pos after r _ (by rfl)
@[simp] theorem aops_nilCheck (x : Operand) : aops P n ops (⟨some d, .nilCheck x, ty, pos, after, none⟩ :: r) s K = andP (aval2 P s (.nilCheck x)) (fun v => d < n ∧ aops P n ops r (put s d v) K) := aops_plain P n ops s K d ty pos after r _ (by rfl)
@[simp] theorem aops_binOp (o : BinOp) (t t' : TypeId) (x y : Operand) : aops P n ops (⟨some d, .binOp o t x y t', ty, pos, after, none⟩ :: r) s K = andP (aval2 P s (.binOp o t x y t')) (fun v => d < n ∧ aops P n ops r (put s d v) K) := aops_plain P n ops s K d ty pos after r _ (by rfl)
@[simp] theorem aops_unOp (o : UnOp) (t : TypeId) (x : Operand) : aops P n ops (⟨some d, .unOp o t x, ty, pos, after, none⟩ :: r) s K = andP (aval2 P s (.unOp o t x)) (fun v => d < n ∧ aops P n ops r (put s d v) K) := aops_plain P n ops s K d ty pos after r _ (by rfl)
@[simp] theorem aops_convert (t t' : TypeId) (x : Operand) : aops P n ops (⟨some d, .convert t t' x, ty, pos, after, none⟩ :: r) s K = andP (aval2 P s (.convert t t' x)) (fun v => d < n ∧ aops P n ops r (put s d v) K) := aops_plain P n ops s K d ty pos after r _ (by rfl)
@[simp] theorem aops_fieldAddr (t : TypeId) (x : Operand) (f : Nat) : aops P n ops (⟨some d, .fieldAddr t x f, ty, pos, after, none⟩ :: r) s K = andP (aval2 P s (.fieldAddr t x f)) (fun v => d < n ∧ aops P n ops r (put s d v) K) := aops_plain P n ops s K d ty pos after r _ (by rfl)
@[simp] theorem aops_field (t : TypeId) (x : Operand) (f : Nat) : aops P n ops (⟨some d, .field t x f, ty, pos, after, none⟩ :: r) s K = andP (aval2 P s (.field t x f)) (fun v => d < n ∧ aops P n ops r (put s d v) K) := aops_plain P n ops s K d ty pos after r _ (by rfl)
@[simp] theorem aops_indexAddr (t : TypeId) (x i : Operand) : aops P n ops (⟨some d, .indexAddr t x i, ty, pos, after, none⟩ :: r) s K = andP (aval2 P s (.indexAddr t x i)) (fun v => d < n ∧ aops P n ops r (put s d v) K) := aops_plain P n ops s K d ty pos after r _ (by rfl)
@[simp] theorem aops_index (t : TypeId) (x i : Operand) : aops P n ops (⟨some d, .index t x i, ty, pos, after, none⟩ :: r) s K = andP (aval2 P s (.index t x i)) (fun v => d < n ∧ aops P n ops r (put s d v) K) := aops_plain P n ops s K d ty pos after r _ (by rfl)
@[simp] theorem aops_extract (x : Operand) (f : Nat) : aops P n ops (⟨some d, .extract x f, ty, pos, after, none⟩ :: r) s K = andP (aval2 P s (.extract x f)) (fun v => d < n ∧ aops P n ops r (put s d v) K) := aops_plain P n ops s K d ty pos after r _ (by rfl)
@[simp] theorem aops_makeFunc (fn : Fn) (fst cap : Array Operand) : aops P n ops (⟨some d, .makeFunc fn fst cap, ty, pos, after, none⟩ :: r) s K = andP (aval2 P s (.makeFunc fn fst cap)) (fun v => d < n ∧ aops P n ops r (put s d v) K) := aops_plain P n ops s K d ty pos after r _ (by rfl)
@[simp] theorem aops_lookup (t : TypeId) (x k : Operand) (ok : Bool) : aops P n ops (⟨some d, .lookup t x k ok, ty, pos, after, none⟩ :: r) s K = andP (aval2 P s (.lookup t x k ok)) (fun v => d < n ∧ aops P n ops r (put s d v) K) := aops_plain P n ops s K d ty pos after r _ (by rfl)
@[simp] theorem aops_build (t : TypeId) (parts : Array (Nat × Operand)) : aops P n ops (⟨some d, .build t parts, ty, pos, after, none⟩ :: r) s K = andP (abuild P (uv s) t parts.toList) (fun v => d < n ∧ aops P n ops r (put (freezeL s (lends s (parts.toList.map (·.2)))) d v) K) := rfl
@[simp] theorem aops_alloc (t : TypeId) : aops P n ops (⟨some d, .alloc t, ty, pos, after, none⟩ :: r) s K = optK (zeroOf P t) (fun cs => d < n ∧ aops P n ops r (put s d (.box cs)) K) := by
  show (match zeroOf P t with | some cs => _ | none => False) = _
  cases zeroOf P t <;> rfl
@[simp] theorem aops_box (t : TypeId) (x : Operand) : aops P n ops (⟨some d, .box t x, ty, pos, after, none⟩ :: r) s K = boxK (uv s x) (fun cs => d < n ∧ aops P n ops r (put (freezeL s (lends s [x])) d (.box cs)) K) := by
  simp only [aops, aop, astep, boxK]
  generalize uv s x = q
  obtain ⟨p, q⟩ := q
  cases q <;> rfl
@[simp] theorem aops_buildSlice (t : TypeId) (len : Nat) (parts : Array (Nat × Operand)) : aops P n ops (⟨some d, .buildSlice t len parts, ty, pos, after, none⟩ :: r) s K = andP (abuildSlice P (uv s) t len parts.toList) (fun v => d < n ∧ aops P n ops r (put (freezeL s (lends s (parts.toList.map (·.2)))) d v) K) := rfl
def storeX (P : Program) (t : TypeId) (addr : Operand) (x : Prop × AV) (k : St → Prop) (s : St) : Prop := andS (astore P s t (sv s addr) x) k
@[congr] theorem storeX_congr {P : Program} {t : TypeId} {addr : Operand} {x x' : Prop × AV} {k : St → Prop} {s s' : St} (h : s = s') (hx : x = x') : storeX P t addr x k s = storeX P t addr x' k s' := by rw [h, hx]
@[simp] theorem storeX_eq (P : Program) (t : TypeId) (addr : Operand) (p : Prop) (v : AV) (k : St → Prop) (s : St) : storeX P t addr (p, v) k s = andS (astore P s t (sv s addr) (p, v)) k := rfl
@[simp] theorem aops_store (t : TypeId) (addr x : Operand) : aops P n ops (⟨none, .store t addr x, ty, pos, after, none⟩ :: r) s K = (OneOk P t = true ∧ storeX P t addr (uv s x) (fun s' => aops P n ops r s' K) (freezeL s (lends s [x]))) := rfl
@[simp] theorem aops_assign (t : Nat) : aops P n ops (⟨some d, .assign (.tmp t), ty, pos, after, none⟩ :: r) s K = assignK (s t) (fun v => d < n ∧ aops P n ops r (put (put s t .dead) d v) K) (fun v => d < n ∧ aops P n ops r (put s d (lookK t v)) K)
    (fun i lo len wh => boolK (decide (i = d)) (d < n ∧ aselfView s d lo len wh (fun s' => aops P n ops r s' K)) (d < n ∧ aops P n ops r (put s d (.view i lo len wh)) K)) := by
  simp only [aops, aop, astep, assignK, boolK]
  split <;> rename_i h <;> simp [h, look_tmp_eq]
  · split <;> split <;> simp_all
def mupF (s : St) (p q r : Prop) (i : Nat) (kk : KK) (kx xx : XV) (c : Nat) (bs : List Nat) (es : List (XV × XV)) : Option (Option Nat) → Prop × St
  | some f => (p ∧ q ∧ r ∧ keyOk kk kx = true, upd s i (.mp (mput c bs es kx xx f).1 (mput c bs es kx xx f).2.1 (mput c bs es kx xx f).2.2))
  | none => (False, s)
@[congr] theorem mupF_congr {s : St} {p q r : Prop} {i : Nat} {kk : KK} {kx xx : XV} {c : Nat} {bs : List Nat} {es : List (XV × XV)} {f f' : Option (Option Nat)} (h : f = f') : mupF s p q r i kk kx xx c bs es f = mupF s p q r i kk kx xx c bs es f' := by rw [h]
@[simp] theorem mupF_none (s : St) (p q r : Prop) (i : Nat) (kk : KK) (kx xx : XV) (c : Nat) (bs : List Nat) (es : List (XV × XV)) : mupF s p q r i kk kx xx c bs es (some none) = (p ∧ q ∧ r ∧ keyOk kk kx = true, upd s i (.mp (c + 1) (bs ++ [c]) (es ++ [(kx, xx)]))) := rfl
@[simp] theorem mupF_some (s : St) (p q r : Prop) (i : Nat) (kk : KK) (kx xx : XV) (c : Nat) (bs : List Nat) (es : List (XV × XV)) (j : Nat) : mupF s p q r i kk kx xx c bs es (some (some j)) = (p ∧ q ∧ r ∧ keyOk kk kx = true, upd s i (.mp c bs (es.set j (kx, xx)))) := rfl
def mupO (s : St) (p q r : Prop) (i : Nat) (kk : KK) (kx xx : XV) : AV → Prop × St
  | .mp c bs es => mupF s p q r i kk kx xx c bs es (findK kk kx es 0)
  | _ => (False, s)
@[congr] theorem mupO_congr {s : St} {p q r : Prop} {i : Nat} {kk : KK} {kx xx : XV} {v v' : AV} (h : v = v') : mupO s p q r i kk kx xx v = mupO s p q r i kk kx xx v' := by rw [h]
@[simp] theorem mupO_mp (s : St) (p q r : Prop) (i : Nat) (kk : KK) (kx xx : XV) (c : Nat) (bs : List Nat) (es : List (XV × XV)) : mupO s p q r i kk kx xx (.mp c bs es) = mupF s p q r i kk kx xx c bs es (findK kk kx es 0) := rfl
def mupK (s : St) (kt : Option (KK × TypeId)) (m k x : Prop × AV) : Prop × St :=
  match kt, m, k, x with
  | some (kk, _), (p, .alias i), (q, .x kx), (r, .x xx) => mupO s p q r i kk kx xx (s i)
  | _, _, _, _ => (False, s)
@[congr] theorem mupK_congr {s : St} {kt kt' : Option (KK × TypeId)} {m m' k k' x x' : Prop × AV} (h1 : kt = kt') (h2 : m = m') (h3 : k = k') (h4 : x = x') : mupK s kt m k x = mupK s kt' m' k' x' := by rw [h1, h2, h3, h4]
@[simp] theorem mupK_mk (s : St) (kk : KK) (e : TypeId) (p q r : Prop) (i : Nat) (kx xx : XV) : mupK s (some (kk, e)) (p, .alias i) (q, .x kx) (r, .x xx) = mupO s p q r i kk kx xx (s i) := rfl
theorem amapUpdate_eq (P : Program) (s : St) (t : TypeId) (m k x : Prop × AV) : amapUpdate P s t m k x = mupK s (mapT P t) m k x := by
  unfold amapUpdate mupK mupO mupF
  rfl
@[simp] theorem keyOk_s (l : List UInt8) : keyOk .s (.one (.str l)) = true := rfl
@[simp] theorem keyOk_i (k q : IntKind) (m : Int) : keyOk (.i q) (.one (.int k m)) = decide (k = q) := rfl
@[simp] theorem keyOk_b (b : Bool) : keyOk .b (.one (.bool b)) = true := rfl
@[simp] theorem findK_nil (kk : KK) (k : XV) (i : Nat) : findK kk k [] i = some none := rfl
@[simp] theorem aops_makeMap (t : TypeId) : aops P n ops (⟨some d, .makeMap t none, ty, pos, after, none⟩ :: r) s K = (d < n ∧ aops P n ops r (put s d (.mp 0 [] [])) K) := rfl
@[simp] theorem aops_mapUpdate (t : TypeId) (m k x : Operand) : aops P n ops (⟨none, .mapUpdate t m k x, ty, pos, after, none⟩ :: r) s K = andS (mupK s (mapT P t) (sv s m) (sv s k) (sv s x)) (fun s' => aops P n ops r s' K) := by
  rw [← amapUpdate_eq]; rfl
@[simp] theorem aops_assignc (v : Value) : aops P n ops (⟨some d, .assign (.const v), ty, pos, after, none⟩ :: r) s K = (d < n ∧ aops P n ops r (put s d (look s (.const v))) K) := by
  show (True ∧ _) = _
  rw [true_and]; rfl
@[simp] theorem aops_assignf (f : FuncId) : aops P n ops (⟨some d, .assign (.func f), ty, pos, after, none⟩ :: r) s K = (d < n ∧ aops P n ops r (put s d (look s (.func f))) K) := by
  show (True ∧ _) = _
  rw [true_and]; rfl
@[simp] theorem aops_slice (t : TypeId) (x : Operand) (lo hi mx : Option Operand) : aops P n ops (⟨some d, .slice t x lo hi mx, ty, pos, after, none⟩ :: r) s K = andP (aval2 P s (.slice t x lo hi mx)) (fun v => d < n ∧ aops P n ops r (put s d v) K) := aops_plain P n ops s K d ty pos after r _ (by rfl)
@[simp] theorem aops_call (f : Operand) (args : List Operand) (ts : Array TypeId) : aops P n ops (⟨some d, .call ⟨.value f, ⟨args⟩, ts⟩, ty, pos, after, none⟩ :: r) s K = callS P (callee s f args) (fun rv => d < n ∧ aops P n ops r (put (afterCall s args rv) d rv.av) K) (callM P (calleeM s f args) (fun xs rv outs => d < n ∧ aops P n ops r (put (setOuts s xs outs) d rv.av) K)) := rfl
@[simp] theorem aops_append (x y : Operand) (t t' : TypeId) : aops P n ops (⟨some d, .call ⟨.builtin .append, ⟨[x, y]⟩, ⟨[t, t']⟩⟩, ty, pos, after, none⟩ :: r) s K = andA (aappend P s t t' (sv s x) (sv s y)) (fun s1 v => d < n ∧ aops P n ops r (put s1 d v) K) := rfl
@[simp] theorem aops_len (args : List Operand) (ts : Array TypeId) : aops P n ops (⟨some d, .call ⟨.builtin .len, ⟨args⟩, ts⟩, ty, pos, after, none⟩ :: r) s K = andP (abuiltin P s (.builtin .len) args ts.toList) (fun v => d < n ∧ aops P n ops r (put s d v) K) := rfl
@[simp] theorem aops_cap (args : List Operand) (ts : Array TypeId) : aops P n ops (⟨some d, .call ⟨.builtin .cap, ⟨args⟩, ts⟩, ty, pos, after, none⟩ :: r) s K = andP (abuiltin P s (.builtin .cap) args ts.toList) (fun v => d < n ∧ aops P n ops r (put s d v) K) := rfl
@[simp] theorem aops_max (args : List Operand) (ts : Array TypeId) : aops P n ops (⟨some d, .call ⟨.builtin .max, ⟨args⟩, ts⟩, ty, pos, after, none⟩ :: r) s K = andP (abuiltin P s (.builtin .max) args ts.toList) (fun v => d < n ∧ aops P n ops r (put s d v) K) := rfl
@[simp] theorem aops_min (args : List Operand) (ts : Array TypeId) : aops P n ops (⟨some d, .call ⟨.builtin .min, ⟨args⟩, ts⟩, ty, pos, after, none⟩ :: r) s K = andP (abuiltin P s (.builtin .min) args ts.toList) (fun v => d < n ∧ aops P n ops r (put s d v) K) := rfl

/-! under a guard -/
def andG (e : Bool) (r : Prop × AV) (k : AV → Prop) : Prop := (e = true → r.1) ∧ r.2.isOwner = false ∧ k r.2
end
@[congr] theorem andG_congr {e e' : Bool} {r r' : Prop × AV} {k : AV → Prop} (he : e = e') (h : r = r') : andG e r k = andG e' r' k := by rw [he, h]
@[simp] theorem andG_mk (e : Bool) (p : Prop) (v : AV) (k : AV → Prop) : andG e (p, v) k = ((e = true → p) ∧ v.isOwner = false ∧ k v) := rfl

def plainG : Op → Bool
  | .assign _ => true
  | .build _ _ => true
  | .call c => match c.callee with
    | .builtin .append => false
    | .builtin _ => true
    | _ => false
  | op => plainOp op

section
variable (P : Program) (n : Nat) (ops : Array Oper) (s : St) (K : St → Prop) (d : Nat) (ty : TypeId) (pos : String) (after : Array Edge) (r : List Oper) (g : Nat × Bool)
theorem aops_guard (op : Op) (h : plainG op = true) : aops P n ops (⟨some d, op, ty, pos, after, some g⟩ :: r) s K = optK (gval ops s g) (fun e => andG e (aval2 P s op) (fun v => d < n ∧ aops P n ops r (put s d (.cond e v)) K)) := by
  simp only [aops, aop, optK]
  cases gval ops s g with
  | none => rfl
  | some e =>
    cases op <;> first | rfl | (simp [plainG] at h) | skip
    rename_i c
    obtain ⟨callee, args, ts⟩ := c
    cases callee with
    | builtin b => cases b <;> first | rfl | (simp [plainG] at h)
    | _ => cases h
@[simp] theorem aopsG_move (x : Operand) : aops P n ops (⟨some d, .move x, ty, pos, after, some g⟩ :: r) s K = optK (gval ops s g) (fun e => andG e (aval2 P s (.move x)) (fun v => d < n ∧ aops P n ops r (put s d (.cond e v)) K)) := aops_guard P n ops s K d ty pos after r g _ (by rfl)
@[simp] theorem aopsG_pick (c x y : Operand) : aops P n ops (⟨some d, .pick c x y, ty, pos, after, some g⟩ :: r) s K = optK (gval ops s g) (fun e => andG e (aval2 P s (.pick c x y)) (fun v => d < n ∧ aops P n ops r (put s d (.cond e v)) K)) := aops_guard P n ops s K d ty pos after r g _ (by rfl)
@[simp] theorem aopsG_load (t : TypeId) (x : Operand) : aops P n ops (⟨some d, .load t x, ty, pos, after, some g⟩ :: r) s K = optK (gval ops s g) (fun e => andG e (aval2 P s (.load t x)) (fun v => d < n ∧ aops P n ops r (put s d (.cond e v)) K)) := aops_guard P n ops s K d ty pos after r g _ (by rfl)
@[simp] theorem aopsG_nilCheck (x : Operand) : aops P n ops (⟨some d, .nilCheck x, ty, pos, after, some g⟩ :: r) s K = optK (gval ops s g) (fun e => andG e (aval2 P s (.nilCheck x)) (fun v => d < n ∧ aops P n ops r (put s d (.cond e v)) K)) := aops_guard P n ops s K d ty pos after r g _ (by rfl)
@[simp] theorem aopsG_binOp (o : BinOp) (t t' : TypeId) (x y : Operand) : aops P n ops (⟨some d, .binOp o t x y t', ty, pos, after, some g⟩ :: r) s K = optK (gval ops s g) (fun e => andG e (aval2 P s (.binOp o t x y t')) (fun v => d < n ∧ aops P n ops r (put s d (.cond e v)) K)) := aops_guard P n ops s K d ty pos after r g _ (by rfl)
@[simp] theorem aopsG_unOp (o : UnOp) (t : TypeId) (x : Operand) : aops P n ops (⟨some d, .unOp o t x, ty, pos, after, some g⟩ :: r) s K = optK (gval ops s g) (fun e => andG e (aval2 P s (.unOp o t x)) (fun v => d < n ∧ aops P n ops r (put s d (.cond e v)) K)) := aops_guard P n ops s K d ty pos after r g _ (by rfl)
@[simp] theorem aopsG_convert (t t' : TypeId) (x : Operand) : aops P n ops (⟨some d, .convert t t' x, ty, pos, after, some g⟩ :: r) s K = optK (gval ops s g) (fun e => andG e (aval2 P s (.convert t t' x)) (fun v => d < n ∧ aops P n ops r (put s d (.cond e v)) K)) := aops_guard P n ops s K d ty pos after r g _ (by rfl)
@[simp] theorem aopsG_fieldAddr (t : TypeId) (x : Operand) (f : Nat) : aops P n ops (⟨some d, .fieldAddr t x f, ty, pos, after, some g⟩ :: r) s K = optK (gval ops s g) (fun e => andG e (aval2 P s (.fieldAddr t x f)) (fun v => d < n ∧ aops P n ops r (put s d (.cond e v)) K)) := aops_guard P n ops s K d ty pos after r g _ (by rfl)
@[simp] theorem aopsG_field (t : TypeId) (x : Operand) (f : Nat) : aops P n ops (⟨some d, .field t x f, ty, pos, after, some g⟩ :: r) s K = optK (gval ops s g) (fun e => andG e (aval2 P s (.field t x f)) (fun v => d < n ∧ aops P n ops r (put s d (.cond e v)) K)) := aops_guard P n ops s K d ty pos after r g _ (by rfl)
@[simp] theorem aopsG_indexAddr (t : TypeId) (x i : Operand) : aops P n ops (⟨some d, .indexAddr t x i, ty, pos, after, some g⟩ :: r) s K = optK (gval ops s g) (fun e => andG e (aval2 P s (.indexAddr t x i)) (fun v => d < n ∧ aops P n ops r (put s d (.cond e v)) K)) := aops_guard P n ops s K d ty pos after r g _ (by rfl)
@[simp] theorem aopsG_index (t : TypeId) (x i : Operand) : aops P n ops (⟨some d, .index t x i, ty, pos, after, some g⟩ :: r) s K = optK (gval ops s g) (fun e => andG e (aval2 P s (.index t x i)) (fun v => d < n ∧ aops P n ops r (put s d (.cond e v)) K)) := aops_guard P n ops s K d ty pos after r g _ (by rfl)
@[simp] theorem aopsG_extract (x : Operand) (f : Nat) : aops P n ops (⟨some d, .extract x f, ty, pos, after, some g⟩ :: r) s K = optK (gval ops s g) (fun e => andG e (aval2 P s (.extract x f)) (fun v => d < n ∧ aops P n ops r (put s d (.cond e v)) K)) := aops_guard P n ops s K d ty pos after r g _ (by rfl)
@[simp] theorem aopsG_makeFunc (fn : Fn) (fst cap : Array Operand) : aops P n ops (⟨some d, .makeFunc fn fst cap, ty, pos, after, some g⟩ :: r) s K = optK (gval ops s g) (fun e => andG e (aval2 P s (.makeFunc fn fst cap)) (fun v => d < n ∧ aops P n ops r (put s d (.cond e v)) K)) := aops_guard P n ops s K d ty pos after r g _ (by rfl)
@[simp] theorem aopsG_lookup (t : TypeId) (x k : Operand) (ok : Bool) : aops P n ops (⟨some d, .lookup t x k ok, ty, pos, after, some g⟩ :: r) s K = optK (gval ops s g) (fun e => andG e (aval2 P s (.lookup t x k ok)) (fun v => d < n ∧ aops P n ops r (put s d (.cond e v)) K)) := aops_guard P n ops s K d ty pos after r g _ (by rfl)
@[simp] theorem aopsG_build (t : TypeId) (parts : Array (Nat × Operand)) : aops P n ops (⟨some d, .build t parts, ty, pos, after, some g⟩ :: r) s K = optK (gval ops s g) (fun e => andG e (aval2 P s (.build t parts)) (fun v => d < n ∧ aops P n ops r (put s d (.cond e v)) K)) := aops_guard P n ops s K d ty pos after r g _ (by rfl)
@[simp] theorem aopsG_assign (x : Operand) : aops P n ops (⟨some d, .assign x, ty, pos, after, some g⟩ :: r) s K = optK (gval ops s g) (fun e => andG e (aval2 P s (.assign x)) (fun v => d < n ∧ aops P n ops r (put s d (.cond e v)) K)) := aops_guard P n ops s K d ty pos after r g _ (by rfl)
@[simp] theorem aopsG_slice (t : TypeId) (x : Operand) (lo hi mx : Option Operand) : aops P n ops (⟨some d, .slice t x lo hi mx, ty, pos, after, some g⟩ :: r) s K = optK (gval ops s g) (fun e => andG e (aval2 P s (.slice t x lo hi mx)) (fun v => d < n ∧ aops P n ops r (put s d (.cond e v)) K)) := aops_guard P n ops s K d ty pos after r g _ (by rfl)
@[simp] theorem aopsG_call_len (args : Array Operand) (ts : Array TypeId) : aops P n ops (⟨some d, .call ⟨.builtin .len, args, ts⟩, ty, pos, after, some g⟩ :: r) s K = optK (gval ops s g) (fun e => andG e (aval2 P s (.call ⟨.builtin .len, args, ts⟩)) (fun v => d < n ∧ aops P n ops r (put s d (.cond e v)) K)) := aops_guard P n ops s K d ty pos after r g _ (by rfl)
@[simp] theorem aopsG_call_max (args : Array Operand) (ts : Array TypeId) : aops P n ops (⟨some d, .call ⟨.builtin .max, args, ts⟩, ty, pos, after, some g⟩ :: r) s K = optK (gval ops s g) (fun e => andG e (aval2 P s (.call ⟨.builtin .max, args, ts⟩)) (fun v => d < n ∧ aops P n ops r (put s d (.cond e v)) K)) := aops_guard P n ops s K d ty pos after r g _ (by rfl)
@[simp] theorem aopsG_call_min (args : Array Operand) (ts : Array TypeId) : aops P n ops (⟨some d, .call ⟨.builtin .min, args, ts⟩, ty, pos, after, some g⟩ :: r) s K = optK (gval ops s g) (fun e => andG e (aval2 P s (.call ⟨.builtin .min, args, ts⟩)) (fun v => d < n ∧ aops P n ops r (put s d (.cond e v)) K)) := aops_guard P n ops s K d ty pos after r g _ (by rfl)
@[simp] theorem aops_callG (f : Operand) (args : List Operand) (ts : Array TypeId) : aops P n ops (⟨some d, .call ⟨.value f, ⟨args⟩, ts⟩, ty, pos, after, some g⟩ :: r) s K = optK (gval ops s g) (fun e => callG P e (callee s f args) (fun rv => d < n ∧ aops P n ops r (put s d (.cond e rv.av)) K)) := by
  simp only [aops, aop, optK]
  cases gval ops s g <;> rfl

/-! in a region that draws -/
def calmK (b : Bool) (x y : Prop) : Prop := match b with
  | true => x
  | false => y
end
@[congr] theorem calmK_congr {b b' : Bool} {x y : Prop} (h : b = b') : calmK b x y = calmK b' x y := by rw [h]
@[simp] theorem calmK_true (x y : Prop) : calmK true x y = x := rfl
@[simp] theorem calmK_false (x y : Prop) : calmK false x y = y := rfl
section
variable (P : Program) (n : Nat) (ops : Array Oper) (s : St) (K : St → Prop) (d : Nat) (ty : TypeId) (pos : String) (after : Array Edge) (r : List Oper) (g : Nat × Bool)
@[simp] theorem aopsD_nil (m : Bool) : aopsD P n m ops [] s K = K s := rfl
@[simp] theorem aopsD_cons (o : Oper) : aopsD P n false ops (o :: r) s K = calmK (calmB ops o.op) (aopD P n ops o (touch s) (fun s' => aopsD P n false ops r (touch s') K)) (calmK (storeU o) (storeSide s o.op ∧ aops P n ops [o] (touch s) (fun s' => aopsD P n false ops r (touch s') K)) (aops P n ops [o] (touch s) (fun s' => aopsD P n false ops r (touch s') K))) := by
  show (match calmB ops o.op with | true => _ | false => _) = _
  unfold calmK
  cases calmB ops o.op with
  | true => apply propext; exact ⟨fun h => h.2, fun h => ⟨fun h => (by cases h), h⟩⟩
  | false => dsimp only; cases storeU o <;> rfl
@[simp] theorem aopsD_consM (o : Oper) : aopsD P n true ops (o :: r) s K = calmK (calmB ops o.op) (calmK (callB o) (aopC P n o (touch s) (fun s' => aopsD P n true ops r (touch s') K)) (lightAt s o.op ∧ aopD P n ops o (touch s) (fun s' => aopsD P n true ops r (touch s') K)))
    (calmK (storeU o) (storeSide s o.op ∧ aops P n ops [o] (touch s) (fun s' => aopsD P n true ops r (touch s') K)) (aops P n ops [o] (touch s) (fun s' => aopsD P n true ops r (touch s') K))) := by
  show (match calmB ops o.op with | true => _ | false => _) = _
  unfold calmK
  cases calmB ops o.op with
  | true =>
    dsimp only
    cases hc : callB o with
    | true => rfl
    | false => apply propext; exact ⟨fun h => ⟨h.1 rfl, h.2⟩, fun h => ⟨fun _ => h.1, h.2⟩⟩
  | false => dsimp only; cases storeU o <;> rfl
@[simp] theorem aopC_mk (f : Operand) (args : List Operand) (ts : Array TypeId) : aopC P n ⟨some d, .call ⟨.value f, ⟨args⟩, ts⟩, ty, pos, after, none⟩ s K = (d < n ∧ (s d).isOwner = false ∧ callS P (callee s f args) (fun rv => (rv.flat || (lends s args).isEmpty) = true ∧ K (put s d rv.av)) (callM P (calleeM s f args) (fun ys rv outs => boxOuts ys outs = true ∧ rv.av.isOwner = false ∧ K (put (setOuts s ys outs) d rv.av)))) := rfl
@[simp] theorem storeSide_store (t : TypeId) (a x : Operand) : storeSide s (.store t a x) = (lends s [x] = []) := rfl
def elemK (q : Prop × AV) : Prop := match q with
  | (_, .elem _) => True
  | _ => False
theorem elemK_iff (q : Prop × AV) : (∃ cs, q.2 = .elem cs) = elemK q := by
  obtain ⟨p, q⟩ := q
  apply propext
  cases q <;> simp [elemK]
@[simp] theorem lightAt_load (t : TypeId) (x : Operand) : lightAt s (.load t x) = elemK (sv s x) := elemK_iff _
theorem lightAt_B (op : Op) (h : lightB op = true) : lightAt s op = True := by
  simp only [eq_iff_iff, iff_true]; exact lightB_at h
@[simp] theorem lightAt_move (x : Operand) : lightAt s (.move x) = True := lightAt_B s _ rfl
@[simp] theorem lightAt_assign (x : Operand) : lightAt s (.assign x) = True := lightAt_B s _ rfl
@[simp] theorem lightAt_pick (c x y : Operand) : lightAt s (.pick c x y) = True := lightAt_B s _ rfl
@[simp] theorem lightAt_nilCheck (x : Operand) : lightAt s (.nilCheck x) = True := lightAt_B s _ rfl
@[simp] theorem lightAt_binOp (o : BinOp) (t t' : TypeId) (x y : Operand) : lightAt s (.binOp o t x y t') = True := lightAt_B s _ rfl
@[simp] theorem lightAt_unOp (o : UnOp) (t : TypeId) (x : Operand) : lightAt s (.unOp o t x) = True := lightAt_B s _ rfl
@[simp] theorem lightAt_convert (t t' : TypeId) (x : Operand) : lightAt s (.convert t t' x) = True := lightAt_B s _ rfl
@[simp] theorem lightAt_slice (t : TypeId) (x : Operand) (lo hi mx : Option Operand) : lightAt s (.slice t x lo hi mx) = True := lightAt_B s _ rfl
@[simp] theorem lightAt_fieldAddr (t : TypeId) (x : Operand) (f : Nat) : lightAt s (.fieldAddr t x f) = True := lightAt_B s _ rfl
@[simp] theorem lightAt_field (t : TypeId) (x : Operand) (f : Nat) : lightAt s (.field t x f) = True := lightAt_B s _ rfl
@[simp] theorem lightAt_indexAddr (t : TypeId) (x i : Operand) : lightAt s (.indexAddr t x i) = True := lightAt_B s _ rfl
@[simp] theorem lightAt_index (t : TypeId) (x i : Operand) : lightAt s (.index t x i) = True := lightAt_B s _ rfl
@[simp] theorem lightAt_makeFunc (fn : Fn) (fst cap : Array Operand) : lightAt s (.makeFunc fn fst cap) = True := lightAt_B s _ rfl
@[simp] theorem lightAt_extract (x : Operand) (f : Nat) : lightAt s (.extract x f) = True := lightAt_B s _ rfl
@[simp] theorem lightAt_build (t : TypeId) (parts : Array (Nat × Operand)) : lightAt s (.build t parts) = True := lightAt_B s _ rfl
@[simp] theorem lightAt_len (args : Array Operand) (ts : Array TypeId) : lightAt s (.call ⟨.builtin .len, args, ts⟩) = True := lightAt_B s _ rfl
@[simp] theorem lightAt_max (args : Array Operand) (ts : Array TypeId) : lightAt s (.call ⟨.builtin .max, args, ts⟩) = True := lightAt_B s _ rfl
@[simp] theorem lightAt_min (args : Array Operand) (ts : Array TypeId) : lightAt s (.call ⟨.builtin .min, args, ts⟩) = True := lightAt_B s _ rfl
def plainD : Op → Bool
  | .assign _ => true
  | .build _ _ => true
  | .call c => match c.callee with
    | .builtin .append => false
    | .builtin _ => true
    | _ => false
  | op => plainOp op
theorem aopD_plain (op : Op) (h : plainD op = true) : aopD P n ops ⟨some d, op, ty, pos, after, none⟩ s K = (d < n ∧ (s d).isOwner = false ∧ andP (aval2 P s op) (fun v => K (put s d v))) := by
  cases op <;> first | rfl | (simp [plainD, plainOp] at h) | skip
  rename_i c
  obtain ⟨callee, args, ts⟩ := c
  cases callee with
  | builtin b => cases b <;> first | rfl | (simp [plainD] at h)
  | _ => cases h
@[simp] theorem aopD_move (x : Operand) : aopD P n ops ⟨some d, .move x, ty, pos, after, none⟩ s K = (d < n ∧ (s d).isOwner = false ∧ andP (aval2 P s (.move x)) (fun v => K (put s d v))) := aopD_plain P n ops s K d ty pos after _ (by rfl)
@[simp] theorem aopD_pick (c x y : Operand) : aopD P n ops ⟨some d, .pick c x y, ty, pos, after, none⟩ s K = (d < n ∧ (s d).isOwner = false ∧ andP (aval2 P s (.pick c x y)) (fun v => K (put s d v))) := aopD_plain P n ops s K d ty pos after _ (by rfl)
@[simp] theorem aopD_load (t : TypeId) (x : Operand) : aopD P n ops ⟨some d, .load t x, ty, pos, after, none⟩ s K = (d < n ∧ (s d).isOwner = false ∧ andP (aval2 P s (.load t x)) (fun v => K (put s d v))) := aopD_plain P n ops s K d ty pos after _ (by rfl)
@[simp] theorem aopD_nilCheck (x : Operand) : aopD P n ops ⟨some d, .nilCheck x, ty, pos, after, none⟩ s K = (d < n ∧ (s d).isOwner = false ∧ andP (aval2 P s (.nilCheck x)) (fun v => K (put s d v))) := aopD_plain P n ops s K d ty pos after _ (by rfl)
@[simp] theorem aopD_binOp (o : BinOp) (t t' : TypeId) (x y : Operand) : aopD P n ops ⟨some d, .binOp o t x y t', ty, pos, after, none⟩ s K = (d < n ∧ (s d).isOwner = false ∧ andP (aval2 P s (.binOp o t x y t')) (fun v => K (put s d v))) := aopD_plain P n ops s K d ty pos after _ (by rfl)
@[simp] theorem aopD_unOp (o : UnOp) (t : TypeId) (x : Operand) : aopD P n ops ⟨some d, .unOp o t x, ty, pos, after, none⟩ s K = (d < n ∧ (s d).isOwner = false ∧ andP (aval2 P s (.unOp o t x)) (fun v => K (put s d v))) := aopD_plain P n ops s K d ty pos after _ (by rfl)
@[simp] theorem aopD_convert (t t' : TypeId) (x : Operand) : aopD P n ops ⟨some d, .convert t t' x, ty, pos, after, none⟩ s K = (d < n ∧ (s d).isOwner = false ∧ andP (aval2 P s (.convert t t' x)) (fun v => K (put s d v))) := aopD_plain P n ops s K d ty pos after _ (by rfl)
@[simp] theorem aopD_fieldAddr (t : TypeId) (x : Operand) (f : Nat) : aopD P n ops ⟨some d, .fieldAddr t x f, ty, pos, after, none⟩ s K = (d < n ∧ (s d).isOwner = false ∧ andP (aval2 P s (.fieldAddr t x f)) (fun v => K (put s d v))) := aopD_plain P n ops s K d ty pos after _ (by rfl)
@[simp] theorem aopD_field (t : TypeId) (x : Operand) (f : Nat) : aopD P n ops ⟨some d, .field t x f, ty, pos, after, none⟩ s K = (d < n ∧ (s d).isOwner = false ∧ andP (aval2 P s (.field t x f)) (fun v => K (put s d v))) := aopD_plain P n ops s K d ty pos after _ (by rfl)
@[simp] theorem aopD_indexAddr (t : TypeId) (x i : Operand) : aopD P n ops ⟨some d, .indexAddr t x i, ty, pos, after, none⟩ s K = (d < n ∧ (s d).isOwner = false ∧ andP (aval2 P s (.indexAddr t x i)) (fun v => K (put s d v))) := aopD_plain P n ops s K d ty pos after _ (by rfl)
@[simp] theorem aopD_index (t : TypeId) (x i : Operand) : aopD P n ops ⟨some d, .index t x i, ty, pos, after, none⟩ s K = (d < n ∧ (s d).isOwner = false ∧ andP (aval2 P s (.index t x i)) (fun v => K (put s d v))) := aopD_plain P n ops s K d ty pos after _ (by rfl)
@[simp] theorem aopD_extract (x : Operand) (f : Nat) : aopD P n ops ⟨some d, .extract x f, ty, pos, after, none⟩ s K = (d < n ∧ (s d).isOwner = false ∧ andP (aval2 P s (.extract x f)) (fun v => K (put s d v))) := aopD_plain P n ops s K d ty pos after _ (by rfl)
@[simp] theorem aopD_makeFunc (fn : Fn) (fst cap : Array Operand) : aopD P n ops ⟨some d, .makeFunc fn fst cap, ty, pos, after, none⟩ s K = (d < n ∧ (s d).isOwner = false ∧ andP (aval2 P s (.makeFunc fn fst cap)) (fun v => K (put s d v))) := aopD_plain P n ops s K d ty pos after _ (by rfl)
@[simp] theorem aopD_lookup (t : TypeId) (x k : Operand) (ok : Bool) : aopD P n ops ⟨some d, .lookup t x k ok, ty, pos, after, none⟩ s K = (d < n ∧ (s d).isOwner = false ∧ andP (aval2 P s (.lookup t x k ok)) (fun v => K (put s d v))) := aopD_plain P n ops s K d ty pos after _ (by rfl)
@[simp] theorem aopD_build (t : TypeId) (parts : Array (Nat × Operand)) : aopD P n ops ⟨some d, .build t parts, ty, pos, after, none⟩ s K = (d < n ∧ (s d).isOwner = false ∧ andP (aval2 P s (.build t parts)) (fun v => K (put s d v))) := aopD_plain P n ops s K d ty pos after _ (by rfl)
@[simp] theorem aopD_assign (x : Operand) : aopD P n ops ⟨some d, .assign x, ty, pos, after, none⟩ s K = (d < n ∧ (s d).isOwner = false ∧ andP (aval2 P s (.assign x)) (fun v => K (put s d v))) := aopD_plain P n ops s K d ty pos after _ (by rfl)
@[simp] theorem aopD_slice (t : TypeId) (x : Operand) (lo hi mx : Option Operand) : aopD P n ops ⟨some d, .slice t x lo hi mx, ty, pos, after, none⟩ s K = (d < n ∧ (s d).isOwner = false ∧ andP (aval2 P s (.slice t x lo hi mx)) (fun v => K (put s d v))) := aopD_plain P n ops s K d ty pos after _ (by rfl)
@[simp] theorem aopD_call_len (args : Array Operand) (ts : Array TypeId) : aopD P n ops ⟨some d, .call ⟨.builtin .len, args, ts⟩, ty, pos, after, none⟩ s K = (d < n ∧ (s d).isOwner = false ∧ andP (aval2 P s (.call ⟨.builtin .len, args, ts⟩)) (fun v => K (put s d v))) := aopD_plain P n ops s K d ty pos after _ (by rfl)
@[simp] theorem aopD_call_max (args : Array Operand) (ts : Array TypeId) : aopD P n ops ⟨some d, .call ⟨.builtin .max, args, ts⟩, ty, pos, after, none⟩ s K = (d < n ∧ (s d).isOwner = false ∧ andP (aval2 P s (.call ⟨.builtin .max, args, ts⟩)) (fun v => K (put s d v))) := aopD_plain P n ops s K d ty pos after _ (by rfl)
@[simp] theorem aopD_call_min (args : Array Operand) (ts : Array TypeId) : aopD P n ops ⟨some d, .call ⟨.builtin .min, args, ts⟩, ty, pos, after, none⟩ s K = (d < n ∧ (s d).isOwner = false ∧ andP (aval2 P s (.call ⟨.builtin .min, args, ts⟩)) (fun v => K (put s d v))) := aopD_plain P n ops s K d ty pos after _ (by rfl)
@[simp] theorem aopD_alloc (t : TypeId) : aopD P n ops ⟨some d, .alloc t, ty, pos, after, none⟩ s K = (d < n ∧ (s d).isOwner = false ∧ optK (zeroOf P t) (fun cs => K (put s d (.box cs)))) := by
  simp only [aopD, optK]
  cases zeroOf P t <;> rfl
@[simp] theorem aopD_box (t : TypeId) (x : Operand) : aopD P n ops ⟨some d, .box t x, ty, pos, after, none⟩ s K = (d < n ∧ (s d).isOwner = false ∧ boxK (sv s x) (fun cs => K (put s d (.box cs)))) := by
  simp only [aopD, boxK]
  generalize sv s x = q
  obtain ⟨p, q⟩ := q
  cases q <;> rfl
@[simp] theorem aopD_buildSlice (t : TypeId) (len : Nat) (parts : Array (Nat × Operand)) : aopD P n ops ⟨some d, .buildSlice t len parts, ty, pos, after, none⟩ s K = (d < n ∧ (s d).isOwner = false ∧ andP (abuildSlice P (sv s) t len parts.toList) (fun v => K (put s d v))) := rfl
@[simp] theorem aopD_call (f : Operand) (args : List Operand) (ts : Array TypeId) : aopD P n ops ⟨some d, .call ⟨.value f, ⟨args⟩, ts⟩, ty, pos, after, none⟩ s K = (d < n ∧ (s d).isOwner = false ∧ callK P (callee s f args) (fun rv => (rv.flat || (lends s args).isEmpty) = true ∧ K (put s d rv.av))) := by
  rw [← callK_eq]; rfl
theorem aopD_guard (op : Op) (h : plainG op = true) : aopD P n ops ⟨some d, op, ty, pos, after, some g⟩ s K = (d < n ∧ (s d).isOwner = false ∧ optK (gval ops s g) (fun e => andG e (aval2 P s op) (fun v => K (put s d (.cond e v))))) := by
  simp only [aopD, optK]
  cases gval ops s g with
  | none => rfl
  | some e =>
    cases op <;> first | rfl | (simp [plainG] at h) | skip
    rename_i c
    obtain ⟨callee, args, ts⟩ := c
    cases callee with
    | builtin b => cases b <;> first | rfl | (simp [plainG] at h)
    | _ => cases h
@[simp] theorem aopDG_move (x : Operand) : aopD P n ops ⟨some d, .move x, ty, pos, after, some g⟩ s K = (d < n ∧ (s d).isOwner = false ∧ optK (gval ops s g) (fun e => andG e (aval2 P s (.move x)) (fun v => K (put s d (.cond e v))))) := aopD_guard P n ops s K d ty pos after g _ (by rfl)
@[simp] theorem aopDG_pick (c x y : Operand) : aopD P n ops ⟨some d, .pick c x y, ty, pos, after, some g⟩ s K = (d < n ∧ (s d).isOwner = false ∧ optK (gval ops s g) (fun e => andG e (aval2 P s (.pick c x y)) (fun v => K (put s d (.cond e v))))) := aopD_guard P n ops s K d ty pos after g _ (by rfl)
@[simp] theorem aopDG_load (t : TypeId) (x : Operand) : aopD P n ops ⟨some d, .load t x, ty, pos, after, some g⟩ s K = (d < n ∧ (s d).isOwner = false ∧ optK (gval ops s g) (fun e => andG e (aval2 P s (.load t x)) (fun v => K (put s d (.cond e v))))) := aopD_guard P n ops s K d ty pos after g _ (by rfl)
@[simp] theorem aopDG_nilCheck (x : Operand) : aopD P n ops ⟨some d, .nilCheck x, ty, pos, after, some g⟩ s K = (d < n ∧ (s d).isOwner = false ∧ optK (gval ops s g) (fun e => andG e (aval2 P s (.nilCheck x)) (fun v => K (put s d (.cond e v))))) := aopD_guard P n ops s K d ty pos after g _ (by rfl)
@[simp] theorem aopDG_binOp (o : BinOp) (t t' : TypeId) (x y : Operand) : aopD P n ops ⟨some d, .binOp o t x y t', ty, pos, after, some g⟩ s K = (d < n ∧ (s d).isOwner = false ∧ optK (gval ops s g) (fun e => andG e (aval2 P s (.binOp o t x y t')) (fun v => K (put s d (.cond e v))))) := aopD_guard P n ops s K d ty pos after g _ (by rfl)
@[simp] theorem aopDG_unOp (o : UnOp) (t : TypeId) (x : Operand) : aopD P n ops ⟨some d, .unOp o t x, ty, pos, after, some g⟩ s K = (d < n ∧ (s d).isOwner = false ∧ optK (gval ops s g) (fun e => andG e (aval2 P s (.unOp o t x)) (fun v => K (put s d (.cond e v))))) := aopD_guard P n ops s K d ty pos after g _ (by rfl)
@[simp] theorem aopDG_convert (t t' : TypeId) (x : Operand) : aopD P n ops ⟨some d, .convert t t' x, ty, pos, after, some g⟩ s K = (d < n ∧ (s d).isOwner = false ∧ optK (gval ops s g) (fun e => andG e (aval2 P s (.convert t t' x)) (fun v => K (put s d (.cond e v))))) := aopD_guard P n ops s K d ty pos after g _ (by rfl)
@[simp] theorem aopDG_fieldAddr (t : TypeId) (x : Operand) (f : Nat) : aopD P n ops ⟨some d, .fieldAddr t x f, ty, pos, after, some g⟩ s K = (d < n ∧ (s d).isOwner = false ∧ optK (gval ops s g) (fun e => andG e (aval2 P s (.fieldAddr t x f)) (fun v => K (put s d (.cond e v))))) := aopD_guard P n ops s K d ty pos after g _ (by rfl)
@[simp] theorem aopDG_field (t : TypeId) (x : Operand) (f : Nat) : aopD P n ops ⟨some d, .field t x f, ty, pos, after, some g⟩ s K = (d < n ∧ (s d).isOwner = false ∧ optK (gval ops s g) (fun e => andG e (aval2 P s (.field t x f)) (fun v => K (put s d (.cond e v))))) := aopD_guard P n ops s K d ty pos after g _ (by rfl)
@[simp] theorem aopDG_indexAddr (t : TypeId) (x i : Operand) : aopD P n ops ⟨some d, .indexAddr t x i, ty, pos, after, some g⟩ s K = (d < n ∧ (s d).isOwner = false ∧ optK (gval ops s g) (fun e => andG e (aval2 P s (.indexAddr t x i)) (fun v => K (put s d (.cond e v))))) := aopD_guard P n ops s K d ty pos after g _ (by rfl)
@[simp] theorem aopDG_index (t : TypeId) (x i : Operand) : aopD P n ops ⟨some d, .index t x i, ty, pos, after, some g⟩ s K = (d < n ∧ (s d).isOwner = false ∧ optK (gval ops s g) (fun e => andG e (aval2 P s (.index t x i)) (fun v => K (put s d (.cond e v))))) := aopD_guard P n ops s K d ty pos after g _ (by rfl)
@[simp] theorem aopDG_extract (x : Operand) (f : Nat) : aopD P n ops ⟨some d, .extract x f, ty, pos, after, some g⟩ s K = (d < n ∧ (s d).isOwner = false ∧ optK (gval ops s g) (fun e => andG e (aval2 P s (.extract x f)) (fun v => K (put s d (.cond e v))))) := aopD_guard P n ops s K d ty pos after g _ (by rfl)
@[simp] theorem aopDG_makeFunc (fn : Fn) (fst cap : Array Operand) : aopD P n ops ⟨some d, .makeFunc fn fst cap, ty, pos, after, some g⟩ s K = (d < n ∧ (s d).isOwner = false ∧ optK (gval ops s g) (fun e => andG e (aval2 P s (.makeFunc fn fst cap)) (fun v => K (put s d (.cond e v))))) := aopD_guard P n ops s K d ty pos after g _ (by rfl)
@[simp] theorem aopDG_lookup (t : TypeId) (x k : Operand) (ok : Bool) : aopD P n ops ⟨some d, .lookup t x k ok, ty, pos, after, some g⟩ s K = (d < n ∧ (s d).isOwner = false ∧ optK (gval ops s g) (fun e => andG e (aval2 P s (.lookup t x k ok)) (fun v => K (put s d (.cond e v))))) := aopD_guard P n ops s K d ty pos after g _ (by rfl)
@[simp] theorem aopDG_build (t : TypeId) (parts : Array (Nat × Operand)) : aopD P n ops ⟨some d, .build t parts, ty, pos, after, some g⟩ s K = (d < n ∧ (s d).isOwner = false ∧ optK (gval ops s g) (fun e => andG e (aval2 P s (.build t parts)) (fun v => K (put s d (.cond e v))))) := aopD_guard P n ops s K d ty pos after g _ (by rfl)
@[simp] theorem aopDG_assign (x : Operand) : aopD P n ops ⟨some d, .assign x, ty, pos, after, some g⟩ s K = (d < n ∧ (s d).isOwner = false ∧ optK (gval ops s g) (fun e => andG e (aval2 P s (.assign x)) (fun v => K (put s d (.cond e v))))) := aopD_guard P n ops s K d ty pos after g _ (by rfl)
@[simp] theorem aopDG_slice (t : TypeId) (x : Operand) (lo hi mx : Option Operand) : aopD P n ops ⟨some d, .slice t x lo hi mx, ty, pos, after, some g⟩ s K = (d < n ∧ (s d).isOwner = false ∧ optK (gval ops s g) (fun e => andG e (aval2 P s (.slice t x lo hi mx)) (fun v => K (put s d (.cond e v))))) := aopD_guard P n ops s K d ty pos after g _ (by rfl)
@[simp] theorem aopDG_call_len (args : Array Operand) (ts : Array TypeId) : aopD P n ops ⟨some d, .call ⟨.builtin .len, args, ts⟩, ty, pos, after, some g⟩ s K = (d < n ∧ (s d).isOwner = false ∧ optK (gval ops s g) (fun e => andG e (aval2 P s (.call ⟨.builtin .len, args, ts⟩)) (fun v => K (put s d (.cond e v))))) := aopD_guard P n ops s K d ty pos after g _ (by rfl)
@[simp] theorem aopDG_call_max (args : Array Operand) (ts : Array TypeId) : aopD P n ops ⟨some d, .call ⟨.builtin .max, args, ts⟩, ty, pos, after, some g⟩ s K = (d < n ∧ (s d).isOwner = false ∧ optK (gval ops s g) (fun e => andG e (aval2 P s (.call ⟨.builtin .max, args, ts⟩)) (fun v => K (put s d (.cond e v))))) := aopD_guard P n ops s K d ty pos after g _ (by rfl)
@[simp] theorem aopDG_call_min (args : Array Operand) (ts : Array TypeId) : aopD P n ops ⟨some d, .call ⟨.builtin .min, args, ts⟩, ty, pos, after, some g⟩ s K = (d < n ∧ (s d).isOwner = false ∧ optK (gval ops s g) (fun e => andG e (aval2 P s (.call ⟨.builtin .min, args, ts⟩)) (fun v => K (put s d (.cond e v))))) := aopD_guard P n ops s K d ty pos after g _ (by rfl)
@[simp] theorem aopD_callG (f : Operand) (args : List Operand) (ts : Array TypeId) : aopD P n ops ⟨some d, .call ⟨.value f, ⟨args⟩, ts⟩, ty, pos, after, some g⟩ s K = (d < n ∧ (s d).isOwner = false ∧ optK (gval ops s g) (fun e => callG P e (callee s f args) (fun rv => K (put s d (.cond e rv.av))))) := by
  simp only [aopD, optK]
  cases gval ops s g <;> rfl

def gvalS (v : AV) (b : Bool) : Option Bool := match v with
  | .x (.one (.bool c)) => some (c == b)
  | .cond e (.x (.one (.bool c))) => some (e && (c == b))
  | _ => none
@[simp] theorem gvalS_x (c b : Bool) : gvalS (.x (.one (.bool c))) b = some (c == b) := rfl
@[simp] theorem gvalS_cond (e c b : Bool) : gvalS (.cond e (.x (.one (.bool c)))) b = some (e && (c == b)) := rfl
def gvalD (s : St) (d : Option Nat) (b : Bool) : Option Bool := match d with
  | some d => gvalS (s d) b
  | none => none
@[simp] theorem gvalD_some (d : Nat) (b : Bool) : gvalD s (some d) b = gvalS (s d) b := rfl
@[simp] theorem gval_eq (l : List Oper) (j : Nat) (b : Bool) : gval ⟨l⟩ s (j, b) = gvalD s ((l[j]?).bind (·.dst)) b := by
  simp only [gval, gvalD, gvalS]
  have : (⟨l⟩ : Array Oper)[j]? = l[j]? := by simp
  rw [this]
  cases l[j]?.bind fun x => x.dst <;> rfl
end

/-! ### The parts of a value, each looked at when it is known -/
def memK (off : Nat) : AV → Option (List CV)
  | .box cs => some (cs.drop off)
  | _ => none
@[simp] theorem memK_box (off : Nat) (cs : List CV) : memK off (.box cs) = some (cs.drop off) := rfl
def ememK (k off : Nat) : AV → Option (List CV)
  | .own _ _ xs => some ((xs.getD k []).drop off)
  | _ => none
@[simp] theorem ememK_own (k off e z : Nat) (xs : List (List CV)) : ememK k off (.own e z xs) = some ((xs.getD k []).drop off) := rfl
@[simp] theorem mem_ptr (s : St) (i off : Nat) : mem s (.ptr i off) = memK off (s i) := by
  simp only [mem, memK]
  cases s i <;> rfl
@[simp] theorem mem_eptr (s : St) (i k off : Nat) : mem s (.eptr i k off) = ememK k off (s i) := by
  simp only [mem, ememK]
  cases s i <;> rfl
@[simp] theorem mem_elem (s : St) (cs : List CV) : mem s (.elem cs) = some cs := rfl

def argO (p : Prop) : AV → Prop × Option XV
  | .own _ size xs => (p, some (.one (.list size xs)))
  | _ => (False, none)
@[simp] theorem argO_own (p : Prop) (e z : Nat) (xs : List (List CV)) : argO p (.own e z xs) = (p, some (.one (.list z xs))) := rfl
def argW (p : Prop) (lo len : Nat) : AV → Prop × Option XV
  | .own _ size xs => (p, some (.one (.list size ((xs.drop lo).take len))))
  | _ => (False, none)
@[simp] theorem argW_own (p : Prop) (lo len e z : Nat) (xs : List (List CV)) : argW p lo len (.own e z xs) = (p, some (.one (.list z ((xs.drop lo).take len)))) := rfl
def argK (s : St) : Prop × AV → Prop × Option XV
  | (p, .x xv) => (p, some xv)
  | (p, .alias i) => argO p (s i)
  | (p, .view i lo len _) => argW p lo len (s i)
  | _ => (False, none)
@[congr] theorem argK_congr {s : St} {q q' : Prop × AV} (h : q = q') : argK s q = argK s q' := by rw [h]
@[simp] theorem argK_x (s : St) (p : Prop) (v : XV) : argK s (p, .x v) = (p, some v) := rfl
@[simp] theorem argK_alias (s : St) (p : Prop) (i : Nat) : argK s (p, .alias i) = argO p (s i) := rfl
@[simp] theorem argK_view (s : St) (p : Prop) (i lo len : Nat) (wh : Bool) : argK s (p, .view i lo len wh) = argW p lo len (s i) := rfl
@[simp] theorem argK_ptr (s : St) (p : Prop) (i o : Nat) : argK s (p, .ptr i o) = (False, none) := rfl
@[simp] theorem argK_cloR (s : St) (p : Prop) (f : FuncId) (caps : List (CV ⊕ (Nat × Nat))) : argK s (p, .cloR f caps) = (False, none) := rfl
@[simp] theorem argX_eq (s : St) (x : Operand) : argX s x = argK s (sv s x) := by
  unfold argX argK argO argW
  generalize sv s x = q
  obtain ⟨p, q⟩ := q
  cases q <;> rfl
def consK (a : Prop × Option XV) (b : Prop × Option (List XV)) : Prop × Option (List XV) := match a, b with
  | (p, some v), (q, some vs) => (p ∧ q, some (v :: vs))
  | _, _ => (False, none)
@[simp] theorem consK_some (p q : Prop) (v : XV) (vs : List XV) : consK (p, some v) (q, some vs) = (p ∧ q, some (v :: vs)) := rfl
@[simp] theorem consK_none (p : Prop) (b : Prop × Option (List XV)) : consK (p, none) b = (False, none) := rfl
@[simp] theorem consK_none' (a : Prop × Option XV) (q : Prop) : consK a (q, none) = (False, none) := by
  obtain ⟨p, a⟩ := a
  cases a <;> rfl
def uvK : Prop × Option XV → Prop × AV
  | (p, some xv) => (p, .x xv)
  | _ => (False, .dead)
@[simp] theorem uvK_some (p : Prop) (v : XV) : uvK (p, some v) = (p, .x v) := rfl
@[simp] theorem uv_eq (s : St) (x : Operand) : uv s x = uvK (argX s x) := rfl
@[simp] theorem argXs_nil (s : St) : argXs s [] = (True, some []) := rfl
@[simp] theorem argXs_cons (s : St) (x : Operand) (r : List Operand) : argXs s (x :: r) = consK (argX s x) (argXs s r) := rfl
def cellK : Prop × AV → Prop × Option XV
  | (p, .x xv) => (p, some xv)
  | _ => (False, none)
@[simp] theorem cellK_x (p : Prop) (v : XV) : cellK (p, .x v) = (p, some v) := rfl
@[simp] theorem resX_tmp (P : Program) (s : St) (t : Nat) : resX P s (.tmp t) = argX s (.tmp t) := rfl
@[simp] theorem resX_cell (P : Program) (s : St) (t : Nat) (ty : TypeId) : resX P s (.cell t ty) = cellK (aload (tk P ty) (zeroX P ty) (sv s (.tmp t)).1 (mem s (sv s (.tmp t)).2)) := rfl
@[simp] theorem resXs_nil (P : Program) (s : St) : resXs P s [] = (True, some []) := rfl
@[simp] theorem resXs_cons (P : Program) (s : St) (x : ResultVar) (r : List ResultVar) : resXs P s (x :: r) = consK (resX P s x) (resXs P s r) := rfl

def idxO (p q : Prop) (size j : Nat) (n : Int) : AV → Prop × AV
  | .own _ z xs => (p ∧ q ∧ z = size ∧ 0 ≤ n ∧ n < xs.length, .eptr j n.toNat 0)
  | _ => (False, .dead)
@[simp] theorem idxO_own (p q : Prop) (size j : Nat) (n : Int) (e z : Nat) (xs : List (List CV)) : idxO p q size j n (.own e z xs) = (p ∧ q ∧ z = size ∧ 0 ≤ n ∧ n < xs.length, .eptr j n.toNat 0) := rfl
def idxK (s : St) (k : Option (TypeId × Nat)) (x i : Prop × AV) : Prop × AV :=
  match k, x, i with
  | some (_, size), (p, .x (.one (.list z xs))), (q, .x (.one (.int _ n))) => (p ∧ q ∧ z = size ∧ 0 ≤ n ∧ n < xs.length, .elem (xs.getD n.toNat []))
  | some (_, size), (p, .alias j), (q, .x (.one (.int _ n))) => idxO p q size j n (s j)
  | some (_, size), (p, .view j lo len _), (q, .x (.one (.int _ n))) => (p ∧ q ∧ (s j).size = size ∧ 0 ≤ n ∧ n < len, .eptr j (lo + n.toNat) 0)
  | _, _, _ => (False, .dead)
@[congr] theorem idxK_congr {s : St} {k k' : Option (TypeId × Nat)} {x x' i i' : Prop × AV} (hk : k = k') (hx : x = x') (hi : i = i') : idxK s k x i = idxK s k' x' i' := by rw [hk, hx, hi]
@[simp] theorem idxK_list (s : St) (t : TypeId) (size z : Nat) (p q : Prop) (xs : List (List CV)) (k : IntKind) (n : Int) : idxK s (some (t, size)) (p, .x (.one (.list z xs))) (q, .x (.one (.int k n))) = (p ∧ q ∧ z = size ∧ 0 ≤ n ∧ n < xs.length, .elem (xs.getD n.toNat [])) := rfl
@[simp] theorem idxK_alias (s : St) (t : TypeId) (size j : Nat) (p q : Prop) (k : IntKind) (n : Int) : idxK s (some (t, size)) (p, .alias j) (q, .x (.one (.int k n))) = idxO p q size j n (s j) := rfl
@[simp] theorem idxK_view (s : St) (t : TypeId) (size j lo len : Nat) (wh : Bool) (p q : Prop) (k : IntKind) (n : Int) : idxK s (some (t, size)) (p, .view j lo len wh) (q, .x (.one (.int k n))) = (p ∧ q ∧ (s j).size = size ∧ 0 ≤ n ∧ n < len, .eptr j (lo + n.toNat) 0) := rfl
@[simp] theorem size_own (e z : Nat) (xs : List (List CV)) : AV.size (.own e z xs) = z := rfl
@[simp] theorem aindexAddr_eq (P : Program) (s : St) (t : TypeId) (x i : Prop × AV) : aindexAddr P s t x i = idxK s (sliceT P t) x i := by
  unfold aindexAddr idxK idxO
  rfl
def lenO (p q q' : Prop) : AV → Prop × AV
  | .own _ _ xs => (p ∧ q, .x (.one (.int .i64 xs.length)))
  | .mp _ _ es => (p ∧ q', .x (.one (.int .i64 es.length)))
  | _ => (False, .dead)
@[simp] theorem lenO_own (p q q' : Prop) (e z : Nat) (xs : List (List CV)) : lenO p q q' (.own e z xs) = (p ∧ q, .x (.one (.int .i64 xs.length))) := rfl
@[simp] theorem lenO_mp (p q q' : Prop) (c : Nat) (bs : List Nat) (es : List (XV × XV)) : lenO p q q' (.mp c bs es) = (p ∧ q', .x (.one (.int .i64 es.length))) := rfl
section
variable (P : Program) (s : St) (t : TypeId) (p : Prop)
@[simp] theorem alen_str (l : List UInt8) : alen P s t (p, .x (.one (.str l))) = (p ∧ isStringT P t = true, .x (.one (.int .i64 l.length))) := rfl
@[simp] theorem alen_nil : alen P s t (p, .x (.one .nil)) = (p ∧ (sliceT P t).isSome = true, .x (.one (.int .i64 0))) := rfl
@[simp] theorem alen_empty (z : Nat) : alen P s t (p, .x (.one (.empty z))) = (p ∧ (sliceT P t).isSome = true, .x (.one (.int .i64 0))) := rfl
@[simp] theorem alen_list (z : Nat) (xs : List (List CV)) : alen P s t (p, .x (.one (.list z xs))) = (p ∧ (sliceT P t).isSome = true, .x (.one (.int .i64 xs.length))) := rfl
@[simp] theorem alen_view (i lo len : Nat) (wh : Bool) : alen P s t (p, .view i lo len wh) = (p ∧ (sliceT P t).isSome = true, .x (.one (.int .i64 len))) := rfl
@[simp] theorem acap_nil : acap P t (p, .x (.one .nil)) = (p ∧ (sliceT P t).isSome = true, .x (.one (.int .i64 0))) := rfl
@[simp] theorem alen_alias (i : Nat) : alen P s t (p, .alias i) = lenO p ((sliceT P t).isSome = true) ((mapT P t).isSome = true) (s i) := by
  simp only [alen, lenO]
  cases s i <;> rfl
end
def faddrK (k : Option (Nat × TK)) (x : Prop × AV) : Prop × AV :=
  match k, x with
  | some (o, _), (p, .ptr i off) => (p, .ptr i (off + o))
  | some (o, _), (p, .eptr i k off) => (p, .eptr i k (off + o))
  | some (o, _), (p, .elem cs) => (p, .elem (cs.drop o))
  | _, _ => (False, .dead)
@[simp] theorem faddrK_ptr (o : Nat) (k : TK) (p : Prop) (i off : Nat) : faddrK (some (o, k)) (p, .ptr i off) = (p, .ptr i (off + o)) := rfl
@[simp] theorem faddrK_eptr (o : Nat) (k : TK) (p : Prop) (i j off : Nat) : faddrK (some (o, k)) (p, .eptr i j off) = (p, .eptr i j (off + o)) := rfl
@[simp] theorem faddrK_elem (o : Nat) (k : TK) (p : Prop) (cs : List CV) : faddrK (some (o, k)) (p, .elem cs) = (p, .elem (cs.drop o)) := rfl
@[simp] theorem afieldAddr_eq (P : Program) (t : TypeId) (f : Nat) (x : Prop × AV) : afieldAddr P t f x = faddrK (fieldAt P t f) x := rfl
def fieldK (k : Option (Nat × TK)) (x : Prop × AV) : Prop × AV :=
  match k, x with
  | some (o, k), (p, .x (.agg cs)) => acut k p (cs.drop o)
  | _, _ => (False, .dead)
@[simp] theorem fieldK_agg (o : Nat) (k : TK) (p : Prop) (cs : List CV) : fieldK (some (o, k)) (p, .x (.agg cs)) = acut k p (cs.drop o) := rfl
@[simp] theorem afield_eq (P : Program) (t : TypeId) (f : Nat) (x : Prop × AV) : afield P t f x = fieldK (fieldAt P t f) x := rfl
def nilK (x : Prop × AV) : Prop × AV := match isPtr x.2 with
  | true => x
  | false => (False, .dead)
@[simp] theorem nilK_ptr (p : Prop) (i o : Nat) : nilK (p, .ptr i o) = (p, .ptr i o) := rfl
@[simp] theorem nilK_eptr (p : Prop) (i j o : Nat) : nilK (p, .eptr i j o) = (p, .eptr i j o) := rfl
@[simp] theorem nilK_elem (p : Prop) (cs : List CV) : nilK (p, .elem cs) = (p, .elem cs) := rfl
def boundK : Prop × AV → Prop × Option Int
  | (p, .x (.one (.int _ n))) => (p, some n)
  | _ => (False, none)
@[simp] theorem boundK_int (p : Prop) (k : IntKind) (n : Int) : boundK (p, .x (.one (.int k n))) = (p, some n) := rfl
@[simp] theorem abound_none (s : St) (m : Int) : abound s none m = (True, some m) := rfl
@[simp] theorem abound_some (s : St) (x : Operand) (m : Int) : abound s (some x) m = boundK (sv s x) := rfl
def cutS (P : Program) (t : TypeId) (p : Prop) (l : List UInt8) (a b : Prop × Option Int) : Prop × AV := match a, b with
  | (q, some a), (r, some b) => (p ∧ q ∧ r ∧ isStringT P t = true ∧ 0 ≤ a ∧ a ≤ b ∧ b ≤ l.length, .x (.one (.str (cutAt l a b))))
  | _, _ => (False, .dead)
@[simp] theorem cutS_some (P : Program) (t : TypeId) (p q r : Prop) (l : List UInt8) (a b : Int) : cutS P t p l (q, some a) (r, some b) = (p ∧ q ∧ r ∧ isStringT P t = true ∧ 0 ≤ a ∧ a ≤ b ∧ b ≤ l.length, .x (.one (.str (cutAt l a b)))) := rfl
@[simp] theorem aslice_str (P : Program) (s : St) (t : TypeId) (p : Prop) (l : List UInt8) (lo hi : Option Operand) : aslice P s t (p, .x (.one (.str l))) lo hi none = cutS P t p l (abound s lo 0) (abound s hi l.length) := by
  simp only [aslice, cutS]
  generalize abound s lo 0 = u
  generalize abound s hi l.length = v
  obtain ⟨_, u⟩ := u
  obtain ⟨_, v⟩ := v
  cases u <;> cases v <;> rfl
def cutL (p d : Prop) (z : Nat) (xs : List (List CV)) (k : Option (TypeId × Nat)) (a b c : Prop × Option Int) : Prop × AV := match k, a, b, c with
  | some (_, size), (q, some a), (r, some b), (u, some c) => (p ∧ q ∧ r ∧ u ∧ z = size ∧ 0 ≤ a ∧ a ≤ b ∧ b ≤ c ∧ c ≤ xs.length ∧ d, .x (.one (.list z (cutAt xs a b))))
  | _, _, _, _ => (False, .dead)
@[simp] theorem cutL_some (p d q r u : Prop) (t : TypeId) (z size : Nat) (xs : List (List CV)) (a b c : Int) : cutL p d z xs (some (t, size)) (q, some a) (r, some b) (u, some c) = (p ∧ q ∧ r ∧ u ∧ z = size ∧ 0 ≤ a ∧ a ≤ b ∧ b ≤ c ∧ c ≤ xs.length ∧ d, .x (.one (.list z (cutAt xs a b)))) := rfl
@[simp] theorem aslice_list (P : Program) (s : St) (t : TypeId) (p : Prop) (z : Nat) (xs : List (List CV)) (lo hi mx : Option Operand) : aslice P s t (p, .x (.one (.list z xs))) lo hi mx = cutL p (hi = none → mx = none) z xs (sliceT P t) (abound s lo 0) (abound s hi xs.length) (abound s mx xs.length) := by
  simp only [aslice, cutL]
  generalize abound s lo 0 = u
  generalize abound s hi xs.length = v
  generalize abound s mx xs.length = m
  generalize sliceT P t = k
  obtain ⟨_, u⟩ := u
  obtain ⟨_, v⟩ := v
  obtain ⟨_, m⟩ := m
  cases u <;> cases v <;> cases m <;> cases k <;> rfl

def cutN (p : Prop) (k : Option (TypeId × Nat)) (a b : Prop × Option Int) : Prop × AV := match k, a, b with
  | some _, (q, some a), (r, some b) => (p ∧ q ∧ r ∧ a = 0 ∧ b = 0, .x (.one .nil))
  | _, _, _ => (False, .dead)
@[simp] theorem cutN_some (p q r : Prop) (k : TypeId × Nat) (a b : Int) : cutN p (some k) (q, some a) (r, some b) = (p ∧ q ∧ r ∧ a = 0 ∧ b = 0, .x (.one .nil)) := rfl
@[simp] theorem aslice_nil (P : Program) (s : St) (t : TypeId) (p : Prop) (lo hi : Option Operand) : aslice P s t (p, .x (.one .nil)) lo hi none = cutN p (sliceT P t) (abound s lo 0) (abound s hi 0) := by
  simp only [aslice, cutN]
  generalize abound s lo 0 = u
  generalize abound s hi 0 = v
  generalize sliceT P t = k
  obtain ⟨_, u⟩ := u
  obtain ⟨_, v⟩ := v
  cases u <;> cases v <;> cases k <;> rfl
def cutV (p d e : Prop) (i lo len : Nat) (wh : Bool) (a b c : Prop × Option Int) : Prop × AV := match a, b, c with
  | (q, some a), (r, some b), (u, some c) => (p ∧ q ∧ r ∧ u ∧ e ∧ 0 ≤ a ∧ a ≤ b ∧ b ≤ c ∧ c ≤ len ∧ d, .view i (lo + a.toNat) (b.toNat - a.toNat) wh)
  | _, _, _ => (False, .dead)
@[simp] theorem cutV_some (p d e q r u : Prop) (i lo len : Nat) (wh : Bool) (a b c : Int) : cutV p d e i lo len wh (q, some a) (r, some b) (u, some c) = (p ∧ q ∧ r ∧ u ∧ e ∧ 0 ≤ a ∧ a ≤ b ∧ b ≤ c ∧ c ≤ len ∧ d, .view i (lo + a.toNat) (b.toNat - a.toNat) wh) := rfl
def cutT (p d : Prop) (i lo len z : Nat) (wh : Bool) (a b c : Prop × Option Int) : Option (TypeId × Nat) → Prop × AV
  | some (_, size) => cutV p d (z = size) i lo len wh a b c
  | none => (False, .dead)
@[simp] theorem cutT_some (p d : Prop) (i lo len z : Nat) (wh : Bool) (a b c : Prop × Option Int) (k : TypeId × Nat) : cutT p d i lo len z wh a b c (some k) = cutV p d (z = k.2) i lo len wh a b c := rfl
@[simp] theorem aslice_view (P : Program) (s : St) (t : TypeId) (p : Prop) (i lo0 len : Nat) (wh : Bool) (lo hi mx : Option Operand) : aslice P s t (p, .view i lo0 len wh) lo hi mx = cutT p (hi = none → mx = none) i lo0 len (s i).size (wh && (lo.isNone && mx.isNone)) (abound s lo 0) (abound s hi len) (abound s mx len) (sliceT P t) := by
  simp only [aslice, cutT, cutV]
  generalize abound s lo 0 = u
  generalize abound s hi len = v
  generalize abound s mx len = m
  generalize sliceT P t = k
  obtain ⟨_, u⟩ := u
  obtain ⟨_, v⟩ := v
  obtain ⟨_, m⟩ := m
  cases u <;> cases v <;> cases m <;> cases k <;> rfl
def cutA (P : Program) (s : St) (t : TypeId) (p : Prop) (i : Nat) (lo hi mx : Option Operand) : AV → Prop × AV
  | .own _ z xs => cutT p (hi = none → mx = none) i 0 xs.length z (lo.isNone && mx.isNone) (abound s lo 0) (abound s hi xs.length) (abound s mx xs.length) (sliceT P t)
  | _ => (False, .dead)
@[simp] theorem cutA_own (P : Program) (s : St) (t : TypeId) (p : Prop) (i : Nat) (lo hi mx : Option Operand) (e z : Nat) (xs : List (List CV)) : cutA P s t p i lo hi mx (.own e z xs) = cutT p (hi = none → mx = none) i 0 xs.length z (lo.isNone && mx.isNone) (abound s lo 0) (abound s hi xs.length) (abound s mx xs.length) (sliceT P t) := rfl
@[simp] theorem aslice_alias (P : Program) (s : St) (t : TypeId) (p : Prop) (i : Nat) (lo hi mx : Option Operand) : aslice P s t (p, .alias i) lo hi mx = cutA P s t p i lo hi mx (s i) := by
  simp only [aslice, cutA]
  cases s i with
  | own e z xs =>
    simp only [cutT, cutV, Nat.zero_add]
    generalize abound s lo 0 = u
    generalize abound s hi xs.length = v
    generalize abound s mx xs.length = m
    generalize sliceT P t = k
    obtain ⟨_, u⟩ := u
    obtain ⟨_, v⟩ := v
    obtain ⟨_, m⟩ := m
    cases u <;> cases v <;> cases m <;> cases k <;> rfl
  | _ => rfl

def buildK (k : Option (List CV × List (Nat × Nat))) (parts : List (Nat × (Prop × AV))) : Prop × AV := match k with
  | some (cs, places) => ((fillC places cs parts).1, .x (.agg (fillC places cs parts).2))
  | none => (False, .dead)
def fillR (r : Prop × List CV) : Prop × AV := (r.1, .x (.agg r.2))
@[simp] theorem fillR_mk (p : Prop) (cs : List CV) : fillR (p, cs) = (p, .x (.agg cs)) := rfl
@[simp] theorem buildK_some (cs : List CV) (places : List (Nat × Nat)) (parts : List (Nat × (Prop × AV))) : buildK (some (cs, places)) parts = fillR (fillC places cs parts) := rfl
@[simp] theorem abuild_eq (P : Program) (f : Operand → Prop × AV) (t : TypeId) (parts : List (Nat × Operand)) : abuild P f t parts = buildK (buildT P t) (parts.map fun x => (x.1, f x.2)) := rfl
def fillP (p q : Prop) (r : Prop × List CV) : Prop × List CV := (p ∧ q ∧ r.1, r.2)
@[simp] theorem fillP_mk (p q r : Prop) (cs : List CV) : fillP p q (r, cs) = (p ∧ q ∧ r, cs) := rfl
def fillO (places : List (Nat × Nat)) (cells : List CV) (r : List (Nat × (Prop × AV))) (p : Prop) (vs : List CV) : Option (Nat × Nat) → Prop × List CV
  | some (off, size) => fillP p (vs.length = size ∧ off + size ≤ cells.length) (fillC places (setRange cells off vs) r)
  | none => (False, cells)
@[simp] theorem fillO_some (places : List (Nat × Nat)) (cells : List CV) (r : List (Nat × (Prop × AV))) (p : Prop) (vs : List CV) (off size : Nat) : fillO places cells r p vs (some (off, size)) = fillP p (vs.length = size ∧ off + size ≤ cells.length) (fillC places (setRange cells off vs) r) := rfl
@[simp] theorem fillC_nil (places : List (Nat × Nat)) (cells : List CV) : fillC places cells [] = (True, cells) := by simp only [fillC]
@[simp] theorem fillC_cons (places : List (Nat × Nat)) (cells : List CV) (i : Nat) (p : Prop) (xv : XV) (r : List (Nat × (Prop × AV))) : fillC places cells ((i, (p, .x xv)) :: r) = fillO places cells r p xv.cells (places[i]?) := by
  simp only [fillC]
  cases places[i]? with
  | none => rfl
  | some x => simp only [fillO, fillP, and_assoc]
def rowK (len : Nat) (parts : List (Nat × (Prop × AV))) : Option (TypeId × Nat × List CV) → Prop × AV
  | some (e, size, z) => (len * size ≤ 16777216 ∧ (fillX size (List.replicate len z) parts).1, .own e size (fillX size (List.replicate len z) parts).2)
  | none => (False, .dead)
@[simp] theorem rowK_some (len : Nat) (parts : List (Nat × (Prop × AV))) (e : TypeId) (size : Nat) (z : List CV) : rowK len parts (some (e, size, z)) = (len * size ≤ 16777216 ∧ (fillX size (List.replicate len z) parts).1, .own e size (fillX size (List.replicate len z) parts).2) := rfl
@[simp] theorem abuildSlice_eq (P : Program) (f : Operand → Prop × AV) (t : TypeId) (len : Nat) (parts : List (Nat × Operand)) : abuildSlice P f t len parts = rowK len (parts.map fun x => (x.1, f x.2)) (rowT P t) := by
  unfold abuildSlice rowK
  rfl

def storeB (s : St) (p q : Prop) (i off m : Nat) (vs : List CV) : AV → Prop × St
  | .box cs => (p ∧ q ∧ vs.length = m ∧ off + m ≤ cs.length, upd s i (.box (setRange cs off vs)))
  | _ => (False, s)
@[congr] theorem storeB_congr {s : St} {p q : Prop} {i off m : Nat} {vs : List CV} {a a' : AV} (h : a = a') : storeB s p q i off m vs a = storeB s p q i off m vs a' := by rw [h]
@[simp] theorem storeB_box (s : St) (p q : Prop) (i off m : Nat) (vs cs : List CV) : storeB s p q i off m vs (.box cs) = (p ∧ q ∧ vs.length = m ∧ off + m ≤ cs.length, upd s i (.box (setRange cs off vs))) := rfl
def storeE (s : St) (p q : Prop) (i k off m : Nat) (vs : List CV) : AV → Prop × St
  | .own e size xs => (p ∧ q ∧ vs.length = m ∧ k < xs.length ∧ off + m ≤ size, upd s i (.own e size (xs.set k (setRange (xs.getD k []) off vs))))
  | _ => (False, s)
@[congr] theorem storeE_congr {s : St} {p q : Prop} {i k off m : Nat} {vs : List CV} {a a' : AV} (h : a = a') : storeE s p q i k off m vs a = storeE s p q i k off m vs a' := by rw [h]
@[simp] theorem storeE_own (s : St) (p q : Prop) (i k off m e size : Nat) (vs : List CV) (xs : List (List CV)) : storeE s p q i k off m vs (.own e size xs) = (p ∧ q ∧ vs.length = m ∧ k < xs.length ∧ off + m ≤ size, upd s i (.own e size (xs.set k (setRange (xs.getD k []) off vs)))) := rfl
def storeK (s : St) (addr x : Prop × AV) (m : Option Nat) : Prop × St :=
  match addr, x, m with
  | (p, .ptr i off), (q, .x xv), some m => storeB s p q i off m xv.cells (s i)
  | (p, .eptr i k off), (q, .x xv), some m => storeE s p q i k off m xv.cells (s i)
  | _, _, _ => (False, s)
@[congr] theorem storeK_congr {s : St} {a a' x x' : Prop × AV} {m m' : Option Nat} (h1 : a = a') (h2 : x = x') (h3 : m = m') : storeK s a x m = storeK s a' x' m' := by rw [h1, h2, h3]
@[simp] theorem storeK_ptr (s : St) (p q : Prop) (i off m : Nat) (xv : XV) : storeK s (p, .ptr i off) (q, .x xv) (some m) = storeB s p q i off m xv.cells (s i) := rfl
@[simp] theorem storeK_eptr (s : St) (p q : Prop) (i k off m : Nat) (xv : XV) : storeK s (p, .eptr i k off) (q, .x xv) (some m) = storeE s p q i k off m xv.cells (s i) := rfl
@[simp] theorem astore_eq (P : Program) (s : St) (t : TypeId) (addr x : Prop × AV) : astore P s t addr x = storeK s addr x (tk P t).cells := by
  unfold astore storeK storeB storeE
  rfl

def newsO (size : Nat) : AV → Option (List (List CV))
  | .own _ z ys => if z = size then some ys else none
  | _ => none
@[simp] theorem newsO_own (size e z : Nat) (ys : List (List CV)) : newsO size (.own e z ys) = if z = size then some ys else none := rfl
def newsW (size lo len : Nat) : AV → Option (List (List CV))
  | .own _ z ys => if z = size then some ((ys.drop lo).take len) else none
  | _ => none
@[simp] theorem newsW_own (size lo len e z : Nat) (ys : List (List CV)) : newsW size lo len (.own e z ys) = if z = size then some ((ys.drop lo).take len) else none := rfl
@[simp] theorem newsOf_view (s : St) (size j lo len : Nat) (wh : Bool) : newsOf s size (.view j lo len wh) = newsW size lo len (s j) := by
  unfold newsOf newsW
  rfl
@[simp] theorem newsOf_nil (s : St) (size : Nat) : newsOf s size (.x (.one .nil)) = some [] := rfl
@[simp] theorem newsOf_empty (s : St) (size z : Nat) : newsOf s size (.x (.one (.empty z))) = if z = size then some [] else none := rfl
@[simp] theorem newsOf_list (s : St) (size z : Nat) (ys : List (List CV)) : newsOf s size (.x (.one (.list z ys))) = if z = size then some ys else none := rfl
@[simp] theorem newsOf_alias (s : St) (size j : Nat) : newsOf s size (.alias j) = newsO size (s j) := by
  unfold newsOf newsO
  rfl
def srcO (i : Nat) : AV → Option (Option Nat × Option TypeId × Nat × List (List CV))
  | .own e size xs => some (some i, some e, size, xs)
  | _ => none
@[simp] theorem srcO_own (i e size : Nat) (xs : List (List CV)) : srcO i (.own e size xs) = some (some i, some e, size, xs) := rfl
def srcW (i len : Nat) : AV → Option (Option Nat × Option TypeId × Nat × List (List CV))
  | .own e size xs => some (some i, some e, size, xs.take len)
  | _ => none
@[simp] theorem srcW_own (i len e size : Nat) (xs : List (List CV)) : srcW i len (.own e size xs) = some (some i, some e, size, xs.take len) := rfl
@[simp] theorem sourceOf_view (s : St) (i lo len : Nat) : sourceOf s (.view i lo len true) = srcW i len (s i) := by
  unfold sourceOf srcW
  rfl
@[simp] theorem sourceOf_nil (s : St) : sourceOf s (.x (.one .nil)) = some (none, none, 0, []) := rfl
@[simp] theorem sourceOf_alias (s : St) (i : Nat) : sourceOf s (.alias i) = srcO i (s i) := by
  unfold sourceOf srcO
  rfl
def zeroA (s : St) (q : Prop) (k : Option IntKind) (e size : Nat) (zc : List CV) (z : Option Int) (bytes : Nat) : Prop × St × AV :=
  match z with
  | some n => (q ∧ k.isSome = true ∧ 0 < n ∧ n * bytes ≤ 140737488355328 ∧ n ≤ maxLen, s, .own e size (List.replicate n.toNat zc))
  | none => (False, s, .dead)
@[simp] theorem zeroA_some (s : St) (q : Prop) (k : Option IntKind) (e size : Nat) (zc : List CV) (n : Int) (bytes : Nat) : zeroA s q k e size zc (some n) bytes = (q ∧ k.isSome = true ∧ 0 < n ∧ n * bytes ≤ 140737488355328 ∧ n ≤ maxLen, s, .own e size (List.replicate n.toNat zc)) := rfl
@[simp] theorem zerosOf_int (k : IntKind) (n : Int) : zerosOf (.x (.one (.int k n))) = some n := rfl
@[simp] theorem newsOf_int (s : St) (size : Nat) (k : IntKind) (n : Int) : newsOf s size (.x (.one (.int k n))) = none := rfl
def appO (s : St) (p : Prop) (e size : Nat) (b : Option Nat) (src : Option (Option Nat × Option TypeId × Nat × List (List CV))) (news : Option (List (List CV))) (zr : Nat → Prop × St × AV) : Prop × St × AV :=
  match b, src, news with
  | some bytes, some (some i, some e', size', xs), some ys => (p ∧ e' = e ∧ size' = size ∧ (xs.length + ys.length) * bytes ≤ 140737488355328 ∧ xs.length + ys.length ≤ maxLen, put s i .dead, .own e size (xs ++ ys))
  | some bytes, some (none, _, _, _), some ys => (p ∧ ys.length * bytes ≤ 140737488355328 ∧ ys.length ≤ maxLen, s, .own e size ys)
  | some bytes, some (none, _, _, _), none => zr bytes
  | _, _, _ => (False, s, .dead)
@[congr] theorem appO_congr {s : St} {p : Prop} {e size : Nat} {b b' : Option Nat} {src src' : Option (Option Nat × Option TypeId × Nat × List (List CV))} {news news' : Option (List (List CV))} {zr : Nat → Prop × St × AV} (h1 : b = b') (h2 : src = src') (h3 : news = news') : appO s p e size b src news zr = appO s p e size b' src' news' zr := by rw [h1, h2, h3]
@[simp] theorem appO_own (s : St) (p : Prop) (e size bytes i e' size' : Nat) (xs ys : List (List CV)) (zr : Nat → Prop × St × AV) : appO s p e size (some bytes) (some (some i, some e', size', xs)) (some ys) zr = (p ∧ e' = e ∧ size' = size ∧ (xs.length + ys.length) * bytes ≤ 140737488355328 ∧ xs.length + ys.length ≤ maxLen, put s i .dead, .own e size (xs ++ ys)) := rfl
@[simp] theorem appO_nil (s : St) (p : Prop) (e size bytes : Nat) (a : Option TypeId) (b : Nat) (c ys : List (List CV)) (zr : Nat → Prop × St × AV) : appO s p e size (some bytes) (some (none, a, b, c)) (some ys) zr = (p ∧ ys.length * bytes ≤ 140737488355328 ∧ ys.length ≤ maxLen, s, .own e size ys) := rfl
@[simp] theorem appO_zero (s : St) (p : Prop) (e size bytes : Nat) (a : Option TypeId) (b : Nat) (c : List (List CV)) (zr : Nat → Prop × St × AV) : appO s p e size (some bytes) (some (none, a, b, c)) none zr = zr bytes := rfl
def appK (P : Program) (s : St) (p q : Prop) (t' : TypeId) (x y : AV) : Option (TypeId × Nat × List CV) → Prop × St × AV
  | some (e, size, zc) => appO s p e size (bytesT P e) (sourceOf s x) (newsOf s size y) (zeroA s q (intT P t') e size zc (zerosOf y))
  | none => (False, s, .dead)
def pairP (P : Program) (s : St) (t t' : TypeId) (x y : Prop × AV) (k : Option (TypeId × Nat × List CV)) : Prop × St × AV := appK P s (x.1 ∧ y.1 ∧ t = t') (x.1 ∧ y.1) t' x.2 y.2 k
@[congr] theorem pairP_congr {P : Program} {s : St} {t t' : TypeId} {x x' y y' : Prop × AV} {k k' : Option (TypeId × Nat × List CV)} (h1 : x = x') (h2 : y = y') (h3 : k = k') : pairP P s t t' x y k = pairP P s t t' x' y' k' := by rw [h1, h2, h3]
@[simp] theorem pairP_mk (P : Program) (s : St) (t t' : TypeId) (p q : Prop) (x y : AV) (e size : Nat) (z : List CV) : pairP P s t t' (p, x) (q, y) (some (e, size, z)) = appO s (p ∧ q ∧ t = t') e size (bytesT P e) (sourceOf s x) (newsOf s size y) (zeroA s (p ∧ q) (intT P t') e size z (zerosOf y)) := rfl
@[simp] theorem aappend_eq (P : Program) (s : St) (t t' : TypeId) (x y : Prop × AV) : aappend P s t t' x y = pairP P s t t' x y (rowT P t) := by
  unfold aappend pairP appK appO zeroA
  split
  · rename_i e size z h
    rw [h]
    simp only
    split
    · simp_all [and_assoc]
    · simp_all [and_assoc]
    · rename_i h1 h2 h3
      rw [h1, h2, h3]
      simp only
      split <;> simp_all [and_assoc]
    · rename_i h1 h2 h3
      split
      · rename_i a b c; exact absurd c (h1 _ _ _ _ _ _ a b)
      · rename_i a b c; exact absurd c (h2 _ _ _ _ _ a b)
      · rename_i a b c; exact absurd c (h3 _ _ _ _ a b)
      · rfl
  · rename_i h
    rw [h]
def clearO (s : St) (p : Prop) (i lo len size : Nat) (zc : List CV) : AV → Prop × St
  | .own e size' xs => (p ∧ size' = size, upd s i (.own e size' (xs.take lo ++ List.replicate len zc ++ xs.drop (lo + len))))
  | _ => (False, s)
@[congr] theorem clearO_congr {s : St} {p : Prop} {i lo len size : Nat} {zc : List CV} {v v' : AV} (h : v = v') : clearO s p i lo len size zc v = clearO s p i lo len size zc v' := by rw [h]
@[simp] theorem clearO_own (s : St) (p : Prop) (i lo len size : Nat) (zc : List CV) (e size' : Nat) (xs : List (List CV)) : clearO s p i lo len size zc (.own e size' xs) = (p ∧ size' = size, upd s i (.own e size' (xs.take lo ++ List.replicate len zc ++ xs.drop (lo + len)))) := rfl
def clearK (s : St) (k : Option (TypeId × Nat × List CV)) (x : Prop × AV) : Prop × St :=
  match k, x with
  | some (_, size, zc), (p, .view i lo len _) => clearO s p i lo len size zc (s i)
  | _, _ => (False, s)
@[congr] theorem clearK_congr {s : St} {k k' : Option (TypeId × Nat × List CV)} {x x' : Prop × AV} (h1 : k = k') (h2 : x = x') : clearK s k x = clearK s k' x' := by rw [h1, h2]
@[simp] theorem clearK_mk (s : St) (e size : Nat) (zc : List CV) (p : Prop) (i lo len : Nat) (wh : Bool) : clearK s (some (e, size, zc)) (p, .view i lo len wh) = clearO s p i lo len size zc (s i) := rfl
theorem aclear_eq (P : Program) (s : St) (t : TypeId) (x : Prop × AV) : aclear P s t x = clearK s (rowT P t) x := by
  unfold aclear clearK clearO
  rfl
@[simp] theorem aops_clear (P : Program) (n : Nat) (ops : Array Oper) (s : St) (K : St → Prop) (ty : TypeId) (pos : String) (after : Array Edge) (r : List Oper) (x : Operand) (t : TypeId) : aops P n ops (⟨none, .call ⟨.builtin .clear, ⟨[x]⟩, ⟨[t]⟩⟩, ty, pos, after, none⟩ :: r) s K = andS (clearK s (rowT P t) (sv s x)) (fun s' => aops P n ops r s' K) := by
  rw [← aclear_eq]; rfl

def afterK (s : St) (args : List Operand) : Bool → St
  | true => s
  | false => freezeL s (lends s args)
@[congr] theorem afterK_congr {s : St} {args : List Operand} {b b' : Bool} (h : b = b') : afterK s args b = afterK s args b' := by rw [h]
@[simp] theorem afterK_true (s : St) (args : List Operand) : afterK s args true = s := rfl
@[simp] theorem afterK_false (s : St) (args : List Operand) : afterK s args false = freezeL s (lends s args) := rfl
@[simp] theorem afterCall_eq (s : St) (args : List Operand) (r : RV) : afterCall s args r = afterK s args r.flat := by
  unfold afterCall afterK
  cases r.flat <;> rfl
def lendK : AV → List Nat → List Nat
  | .alias i, l => i :: l
  | .view i _ _ _, l => i :: l
  | _, l => l
@[simp] theorem lends_nil (s : St) : lends s [] = [] := rfl
@[simp] theorem lends_cons (s : St) (x : Operand) (r : List Operand) : lends s (x :: r) = lendK (sv s x).2 (lends s r) := by
  simp only [lends, lendK]
  split <;> simp_all
@[simp] theorem lendK_alias (i : Nat) (l : List Nat) : lendK (.alias i) l = i :: l := rfl
@[simp] theorem lendK_view (i lo len : Nat) (wh : Bool) (l : List Nat) : lendK (.view i lo len wh) l = i :: l := rfl
@[simp] theorem lendK_ptr (i o : Nat) (l : List Nat) : lendK (.ptr i o) l = l := rfl
@[simp] theorem lendK_eptr (i k o : Nat) (l : List Nat) : lendK (.eptr i k o) l = l := rfl
@[simp] theorem lendK_elem (cs : List CV) (l : List Nat) : lendK (.elem cs) l = l := rfl
@[simp] theorem lendK_dead (l : List Nat) : lendK .dead l = l := rfl
@[simp] theorem lendK_cloR (f : FuncId) (caps : List (CV ⊕ (Nat × Nat))) (l : List Nat) : lendK (.cloR f caps) l = l := rfl
@[simp] theorem lendK_x (v : XV) (l : List Nat) : lendK (.x v) l = l := rfl
@[simp] theorem lendK_tup (v : List XV) (l : List Nat) : lendK (.tup v) l = l := rfl
@[simp] theorem freezeL_nil (s : St) : freezeL s [] = s := rfl
@[simp] theorem freezeL_cons (s : St) (i : Nat) (l : List Nat) : freezeL s (i :: l) = freezeL (freeze s i) l := rfl
@[simp] theorem freeze_eq (s : St) (i : Nat) : freeze s i = upd (kill s i) i (frozenAV (s i)) := by
  funext j
  simp only [freeze, upd_at, kill_at]
@[simp] theorem frozenAV_list (e z : Nat) (xs : List (List CV)) : frozenAV (.own e z xs) = .x (.one (.list z xs)) := rfl

section
variable (P : Program) (s : St)
@[simp] theorem aval2_move (x : Operand) : aval2 P s (.move x) = sv s x := rfl
@[simp] theorem aval2_assign (x : Operand) : aval2 P s (.assign x) = (True, look s x) := rfl
@[simp] theorem aval2_pick (c a b : Operand) : aval2 P s (.pick c a b) = apick (sv s c) (sv s a) (sv s b) := rfl
@[simp] theorem aval2_load (t : TypeId) (x : Operand) : aval2 P s (.load t x) = aload (tk P t) (zeroX P t) (sv s x).1 (mem s (sv s x).2) := rfl
@[simp] theorem aval2_nilCheck (x : Operand) : aval2 P s (.nilCheck x) = nilK (sv s x) := rfl
@[simp] theorem aval2_binOp (op : BinOp) (t t' : TypeId) (x y : Operand) : aval2 P s (.binOp op t x y t') = abinX P op t (sv s x) (sv s y) := rfl
@[simp] theorem aval2_unOp (op : UnOp) (t : TypeId) (x : Operand) : aval2 P s (.unOp op t x) = aunop op (sv s x) := rfl
@[simp] theorem aval2_convert (t t' : TypeId) (x : Operand) : aval2 P s (.convert t t' x) = aconvert P t t' (sv s x) := rfl
@[simp] theorem aval2_slice (t : TypeId) (x : Operand) (lo hi mx : Option Operand) : aval2 P s (.slice t x lo hi mx) = aslice P s t (sv s x) lo hi mx := rfl
@[simp] theorem aval2_fieldAddr (t : TypeId) (x : Operand) (f : Nat) : aval2 P s (.fieldAddr t x f) = afieldAddr P t f (sv s x) := rfl
@[simp] theorem aval2_field (t : TypeId) (x : Operand) (f : Nat) : aval2 P s (.field t x f) = afield P t f (sv s x) := rfl
@[simp] theorem aval2_indexAddr (t : TypeId) (x i : Operand) : aval2 P s (.indexAddr t x i) = aindexAddr P s t (sv s x) (sv s i) := rfl
@[simp] theorem aval2_index (t : TypeId) (x i : Operand) : aval2 P s (.index t x i) = aindex P t (sv s x) (sv s i) := rfl
def lookF (p q : Prop) (kk : KK) (kx : XV) (es : List (XV × XV)) (ok : Bool) : Option (Option Nat) → Option XV → Prop × AV
  | some r, some z => (p ∧ q ∧ keyOk kk kx = true, lookV es z ok r)
  | _, _ => (False, .dead)
@[simp] theorem lookF_mk (p q : Prop) (kk : KK) (kx : XV) (es : List (XV × XV)) (ok : Bool) (r : Option Nat) (z : XV) : lookF p q kk kx es ok (some r) (some z) = (p ∧ q ∧ keyOk kk kx = true, lookV es z ok r) := rfl
@[simp] theorem lookV_none (es : List (XV × XV)) (z : XV) : lookV es z false none = .x z := rfl
@[simp] theorem lookV_none_ok (es : List (XV × XV)) (z : XV) : lookV es z true none = .tup [z, .one (.bool false)] := rfl
@[simp] theorem lookV_some (es : List (XV × XV)) (z : XV) (j : Nat) : lookV es z false (some j) = .x ((es[j]?).getD (z, z)).2 := rfl
@[simp] theorem lookV_some_ok (es : List (XV × XV)) (z : XV) (j : Nat) : lookV es z true (some j) = .tup [((es[j]?).getD (z, z)).2, .one (.bool true)] := rfl
def lookO (p q : Prop) (kk : KK) (kx : XV) (ok : Bool) (z : Option XV) : AV → Prop × AV
  | .mp _ _ es => lookF p q kk kx es ok (findK kk kx es 0) z
  | _ => (False, .dead)
@[congr] theorem lookO_congr {p q : Prop} {kk : KK} {kx : XV} {ok : Bool} {z z' : Option XV} {v v' : AV} (h : z = z') (hv : v = v') : lookO p q kk kx ok z v = lookO p q kk kx ok z' v' := by rw [h, hv]
@[simp] theorem lookO_mp (p q : Prop) (kk : KK) (kx : XV) (ok : Bool) (z : Option XV) (c : Nat) (bs : List Nat) (es : List (XV × XV)) : lookO p q kk kx ok z (.mp c bs es) = lookF p q kk kx es ok (findK kk kx es 0) z := rfl
def lookupK (P : Program) (s : St) (kt : Option (KK × TypeId)) (x k : Prop × AV) (ok : Bool) : Prop × AV :=
  match kt, x, k with
  | some (kk, e), (p, .alias i), (q, .x kx) => lookO p q kk kx ok (zeroX P e) (s i)
  | _, _, _ => (False, .dead)
@[congr] theorem lookupK_congr {P : Program} {s : St} {kt kt' : Option (KK × TypeId)} {x x' k k' : Prop × AV} {ok : Bool} (h1 : kt = kt') (h2 : x = x') (h3 : k = k') : lookupK P s kt x k ok = lookupK P s kt' x' k' ok := by rw [h1, h2, h3]
@[simp] theorem lookupK_mk (P : Program) (s : St) (kk : KK) (e : TypeId) (p q : Prop) (i : Nat) (kx : XV) (ok : Bool) : lookupK P s (some (kk, e)) (p, .alias i) (q, .x kx) ok = lookO p q kk kx ok (zeroX P e) (s i) := rfl
@[simp] theorem alookup_eq (P : Program) (s : St) (t : TypeId) (x k : Prop × AV) (ok : Bool) : alookup P s t x k ok = lookupK P s (mapT P t) x k ok := by
  unfold alookup lookupK lookO lookF
  rfl
def cloK (f : FuncId) : Prop × Option (List CV) → Prop × Option (List (CV ⊕ (Nat × Nat))) → Prop × AV
  | (p, some cs), _ => (p, .x (.one (.clo f cs)))
  | _, (p, some cs) => (p, .cloR f cs)
  | _, _ => (False, .dead)
@[congr] theorem cloK_congr {f : FuncId} {a a' : Prop × Option (List CV)} {b : Prop × Option (List (CV ⊕ (Nat × Nat)))} (h : a = a') : cloK f a b = cloK f a' b := by rw [h]
@[simp] theorem cloK_mk (f : FuncId) (p : Prop) (cs : List CV) (b : Prop × Option (List (CV ⊕ (Nat × Nat)))) : cloK f (p, some cs) b = (p, .x (.one (.clo f cs))) := rfl
def cloKR (f : FuncId) : Prop × Option (List (CV ⊕ (Nat × Nat))) → Prop × AV
  | (p, some cs) => (p, .cloR f cs)
  | _ => (False, .dead)
@[simp] theorem cloKR_mk (f : FuncId) (p : Prop) (cs : List (CV ⊕ (Nat × Nat))) : cloKR f (p, some cs) = (p, .cloR f cs) := rfl
@[simp] theorem cloK_none (f : FuncId) (p : Prop) (b : Prop × Option (List (CV ⊕ (Nat × Nat)))) : cloK f (p, none) b = cloKR f b := by
  obtain ⟨q, b⟩ := b
  cases b <;> rfl
def consC (a : Prop × AV) (b : Prop × Option (List CV)) : Prop × Option (List CV) := match a, b with
  | (p, .x (.one c)), (q, some cs) => (p ∧ q, some (c :: cs))
  | _, _ => (False, none)
@[simp] theorem consC_mk (p q : Prop) (c : CV) (cs : List CV) : consC (p, .x (.one c)) (q, some cs) = (p ∧ q, some (c :: cs)) := rfl
@[simp] theorem consC_ptr (p : Prop) (i o : Nat) (b : Prop × Option (List CV)) : consC (p, .ptr i o) b = (False, none) := rfl
@[simp] theorem consC_none (a : Prop × AV) (q : Prop) : consC a (q, none) = (False, none) := by
  obtain ⟨p, a⟩ := a
  cases a with
  | x v => cases v <;> rfl
  | _ => rfl
@[simp] theorem cellsR_nil : cellsR [] = (True, some []) := rfl
@[simp] theorem cellsR_cons (x : Prop × AV) (r : List (Prop × AV)) : cellsR (x :: r) = consC x (cellsR r) := by
  obtain ⟨p, x⟩ := x
  cases x with
  | x v => cases v with
    | one c =>
      simp only [cellsR, consC]
      generalize cellsR r = b
      obtain ⟨q, b⟩ := b
      cases b <;> rfl
    | agg cs => rfl
  | _ => rfl
def consR (a : Prop × AV) (b : Prop × Option (List (CV ⊕ (Nat × Nat)))) : Prop × Option (List (CV ⊕ (Nat × Nat))) := match a, b with
  | (p, .x (.one c)), (q, some cs) => (p ∧ q, some (.inl c :: cs))
  | (p, .ptr i off), (q, some cs) => (p ∧ q, some (.inr (i, off) :: cs))
  | _, _ => (False, none)
@[simp] theorem consR_one (p q : Prop) (c : CV) (cs : List (CV ⊕ (Nat × Nat))) : consR (p, .x (.one c)) (q, some cs) = (p ∧ q, some (.inl c :: cs)) := rfl
@[simp] theorem consR_ptr (p q : Prop) (i off : Nat) (cs : List (CV ⊕ (Nat × Nat))) : consR (p, .ptr i off) (q, some cs) = (p ∧ q, some (.inr (i, off) :: cs)) := rfl
@[simp] theorem capsR_nil : capsR [] = (True, some []) := rfl
@[simp] theorem capsR_cons (x : Prop × AV) (r : List (Prop × AV)) : capsR (x :: r) = consR x (capsR r) := by
  obtain ⟨p, x⟩ := x
  cases x with
  | x v => cases v with
    | one c =>
      simp only [capsR, consR]
      generalize capsR r = b
      obtain ⟨q, b⟩ := b
      cases b <;> rfl
    | agg cs => rfl
  | ptr i o =>
    simp only [capsR, consR]
    generalize capsR r = b
    obtain ⟨q, b⟩ := b
    cases b <;> rfl
  | _ => rfl
@[simp] theorem aval2_makeFunc (f : FuncId) (cap : List Operand) : aval2 P s (.makeFunc (.func f) ⟨[]⟩ ⟨cap⟩) = cloK f (cellsR (cap.map (sv s))) (capsR (cap.map (sv s))) := by
  show amakeFunc s (.func f) [] cap = _
  unfold amakeFunc cloK
  dsimp only
  split
  · rename_i e; rw [e]
  · rename_i hne
    generalize cellsR (cap.map (sv s)) = a at hne
    generalize capsR (cap.map (sv s)) = b
    obtain ⟨p, a⟩ := a
    obtain ⟨q, b⟩ := b
    cases a with
    | some cs => exact absurd rfl (hne _ _)
    | none => cases b <;> rfl
@[simp] theorem aval2_lookup (t : TypeId) (x k : Operand) (ok : Bool) : aval2 P s (.lookup t x k ok) = alookup P s t (sv s x) (sv s k) ok := rfl
@[simp] theorem aval2_extract (x : Operand) (f : Nat) : aval2 P s (.extract x f) = aextract (sv s x) f := rfl
@[simp] theorem aval2_build (t : TypeId) (parts : List (Nat × Operand)) : aval2 P s (.build t ⟨parts⟩) = abuild P (sv s) t parts := rfl
@[simp] theorem aval2_cap (x : Operand) (t : TypeId) : aval2 P s (.call ⟨.builtin .cap, ⟨[x]⟩, ⟨[t]⟩⟩) = acap P t (sv s x) := rfl
@[simp] theorem abuiltin_cap (x : Operand) (t : TypeId) : abuiltin P s (.builtin .cap) [x] [t] = acap P t (sv s x) := rfl
@[simp] theorem aval2_len (x : Operand) (t : TypeId) : aval2 P s (.call ⟨.builtin .len, ⟨[x]⟩, ⟨[t]⟩⟩) = alen P s t (sv s x) := rfl
@[simp] theorem aval2_max (x y : Operand) (ts : Array TypeId) : aval2 P s (.call ⟨.builtin .max, ⟨[x, y]⟩, ts⟩) = amax (sv s x) (sv s y) := rfl
@[simp] theorem aval2_min (x y : Operand) (ts : Array TypeId) : aval2 P s (.call ⟨.builtin .min, ⟨[x, y]⟩, ts⟩) = amin (sv s x) (sv s y) := rfl
@[simp] theorem abuiltin_len (x : Operand) (t : TypeId) : abuiltin P s (.builtin .len) [x] [t] = alen P s t (sv s x) := rfl
@[simp] theorem abuiltin_max (x y : Operand) (ts : List TypeId) : abuiltin P s (.builtin .max) [x, y] ts = amax (sv s x) (sv s y) := rfl
@[simp] theorem abuiltin_min (x y : Operand) (ts : List TypeId) : abuiltin P s (.builtin .min) [x, y] ts = amin (sv s x) (sv s y) := rfl
end
section
variable (P : Program) (t : TypeId) (p q r : Prop)
@[simp] theorem abinX_int_shl (k k' : IntKind) (a b : Int) : abinX P .shl t (p, .x (.one (.int k a))) (q, .x (.one (.int k' b))) = (p ∧ q ∧ 0 ≤ b, .x (.one (.int k (k.wrap (a * 2 ^ (min b.toNat k.bits)))))) := rfl
@[simp] theorem abinX_int_shr (k k' : IntKind) (a b : Int) : abinX P .shr t (p, .x (.one (.int k a))) (q, .x (.one (.int k' b))) = (p ∧ q ∧ 0 ≤ b, .x (.one (.int k (a.fdiv (2 ^ (min b.toNat k.bits)))))) := rfl
@[simp] theorem abinX_int_add (k k' : IntKind) (a b : Int) : abinX P .add t (p, .x (.one (.int k a))) (q, .x (.one (.int k' b))) = (p ∧ q ∧ k = k', .x (.one (.int k (k.wrap (a + b))))) := rfl
@[simp] theorem abinX_int_sub (k k' : IntKind) (a b : Int) : abinX P .sub t (p, .x (.one (.int k a))) (q, .x (.one (.int k' b))) = (p ∧ q ∧ k = k', .x (.one (.int k (k.wrap (a - b))))) := rfl
@[simp] theorem abinX_int_mul (k k' : IntKind) (a b : Int) : abinX P .mul t (p, .x (.one (.int k a))) (q, .x (.one (.int k' b))) = (p ∧ q ∧ k = k', .x (.one (.int k (k.wrap (a * b))))) := rfl
@[simp] theorem abinX_int_quo (k k' : IntKind) (a b : Int) : abinX P .quo t (p, .x (.one (.int k a))) (q, .x (.one (.int k' b))) = (p ∧ q ∧ (k = k' ∧ b ≠ 0), .x (.one (.int k (k.wrap (a.tdiv b))))) := rfl
@[simp] theorem abinX_int_rem (k k' : IntKind) (a b : Int) : abinX P .rem t (p, .x (.one (.int k a))) (q, .x (.one (.int k' b))) = (p ∧ q ∧ (k = k' ∧ b ≠ 0), .x (.one (.int k (a.tmod b)))) := rfl
@[simp] theorem abinX_int_and (k k' : IntKind) (a b : Int) : abinX P .and t (p, .x (.one (.int k a))) (q, .x (.one (.int k' b))) = (p ∧ q ∧ k = k', .x (.one (.int k (bitsOf .and k a b)))) := rfl
@[simp] theorem abinX_int_or (k k' : IntKind) (a b : Int) : abinX P .or t (p, .x (.one (.int k a))) (q, .x (.one (.int k' b))) = (p ∧ q ∧ k = k', .x (.one (.int k (bitsOf .or k a b)))) := rfl
@[simp] theorem abinX_int_xor (k k' : IntKind) (a b : Int) : abinX P .xor t (p, .x (.one (.int k a))) (q, .x (.one (.int k' b))) = (p ∧ q ∧ k = k', .x (.one (.int k (bitsOf .xor k a b)))) := rfl
@[simp] theorem abinX_int_andNot (k k' : IntKind) (a b : Int) : abinX P .andNot t (p, .x (.one (.int k a))) (q, .x (.one (.int k' b))) = (p ∧ q ∧ k = k', .x (.one (.int k (bitsOf .andNot k a b)))) := rfl
@[simp] theorem abinX_int_eql (k k' : IntKind) (a b : Int) : abinX P .eql t (p, .x (.one (.int k a))) (q, .x (.one (.int k' b))) = (p ∧ q ∧ k = k', .x (.one (.bool (a == b)))) := rfl
@[simp] theorem abinX_int_neq (k k' : IntKind) (a b : Int) : abinX P .neq t (p, .x (.one (.int k a))) (q, .x (.one (.int k' b))) = (p ∧ q ∧ k = k', .x (.one (.bool (a != b)))) := rfl
@[simp] theorem abinX_int_lss (k k' : IntKind) (a b : Int) : abinX P .lss t (p, .x (.one (.int k a))) (q, .x (.one (.int k' b))) = (p ∧ q ∧ k = k', .x (.one (.bool (decide (a < b))))) := rfl
@[simp] theorem abinX_int_leq (k k' : IntKind) (a b : Int) : abinX P .leq t (p, .x (.one (.int k a))) (q, .x (.one (.int k' b))) = (p ∧ q ∧ k = k', .x (.one (.bool (decide (a ≤ b))))) := rfl
@[simp] theorem abinX_int_gtr (k k' : IntKind) (a b : Int) : abinX P .gtr t (p, .x (.one (.int k a))) (q, .x (.one (.int k' b))) = (p ∧ q ∧ k = k', .x (.one (.bool (decide (b < a))))) := rfl
@[simp] theorem abinX_int_geq (k k' : IntKind) (a b : Int) : abinX P .geq t (p, .x (.one (.int k a))) (q, .x (.one (.int k' b))) = (p ∧ q ∧ k = k', .x (.one (.bool (decide (b ≤ a))))) := rfl
@[simp] theorem abinX_str_add (a b : List UInt8) : abinX P .add t (p, .x (.one (.str a))) (q, .x (.one (.str b))) = (p ∧ q ∧ a.length + b.length ≤ maxLen, .x (.one (.str (a ++ b)))) := rfl
@[simp] theorem abinX_str_eql (a b : List UInt8) : abinX P .eql t (p, .x (.one (.str a))) (q, .x (.one (.str b))) = (p ∧ q ∧ True, .x (.one (.bool (a == b)))) := rfl
@[simp] theorem abinX_str_neq (a b : List UInt8) : abinX P .neq t (p, .x (.one (.str a))) (q, .x (.one (.str b))) = (p ∧ q ∧ True, .x (.one (.bool (!(a == b))))) := rfl
@[simp] theorem abinX_str_lss (a b : List UInt8) : abinX P .lss t (p, .x (.one (.str a))) (q, .x (.one (.str b))) = (p ∧ q ∧ True, .x (.one (.bool (ltB a b)))) := rfl
@[simp] theorem abinX_str_leq (a b : List UInt8) : abinX P .leq t (p, .x (.one (.str a))) (q, .x (.one (.str b))) = (p ∧ q ∧ True, .x (.one (.bool (ltB a b || a == b)))) := rfl
@[simp] theorem abinX_str_gtr (a b : List UInt8) : abinX P .gtr t (p, .x (.one (.str a))) (q, .x (.one (.str b))) = (p ∧ q ∧ True, .x (.one (.bool (!(ltB a b || a == b))))) := rfl
@[simp] theorem abinX_str_geq (a b : List UInt8) : abinX P .geq t (p, .x (.one (.str a))) (q, .x (.one (.str b))) = (p ∧ q ∧ True, .x (.one (.bool (!ltB a b)))) := rfl
@[simp] theorem abinX_nil (op : BinOp) (a : CV) : abinX P op t (p, .x (.one a)) (q, .x (.one .nil)) = anil P op t p q (nilTest a) := by
  cases a <;> rfl
@[simp] theorem anil_eql (b : Bool) : anil P .eql t p q (some b) = (p ∧ q ∧ isSliceT P t = true, .x (.one (.bool b))) := rfl
@[simp] theorem anil_neq (b : Bool) : anil P .neq t p q (some b) = (p ∧ q ∧ isSliceT P t = true, .x (.one (.bool (!b)))) := rfl
@[simp] theorem nilTest_nil : nilTest .nil = some true := rfl
@[simp] theorem nilTest_empty (z : Nat) : nilTest (.empty z) = some false := rfl
@[simp] theorem nilTest_cons (z : Nat) (x : List CV) (r : List (List CV)) : nilTest (.list z (x :: r)) = some false := rfl
@[simp] theorem abinX_bool_eql (a b : Bool) : abinX P .eql t (p, .x (.one (.bool a))) (q, .x (.one (.bool b))) = (p ∧ q ∧ P.underlying t = some .bool, .x (.one (.bool (a == b)))) := rfl
@[simp] theorem abinX_bool_neq (a b : Bool) : abinX P .neq t (p, .x (.one (.bool a))) (q, .x (.one (.bool b))) = (p ∧ q ∧ P.underlying t = some .bool, .x (.one (.bool (a != b)))) := rfl
def eqK (p q : Prop) (neg : Bool) (xs ys : List CV) : Option (List BK) → Prop × AV
  | some ks => (p ∧ q ∧ fitCs ks xs ys, .x (.one (.bool (neg != eqCs xs ys))))
  | none => (False, .dead)
@[simp] theorem eqK_some (neg : Bool) (xs ys : List CV) (ks : List BK) : eqK p q neg xs ys (some ks) = (p ∧ q ∧ fitCs ks xs ys, .x (.one (.bool (neg != eqCs xs ys)))) := rfl
@[simp] theorem abinX_agg_eql (xs ys : List CV) : abinX P .eql t (p, .x (.agg xs)) (q, .x (.agg ys)) = eqK p q false xs ys (eqT P t) := by
  simp only [abinX, eqK]
  cases eqT P t <;> simp
@[simp] theorem abinX_agg_neq (xs ys : List CV) : abinX P .neq t (p, .x (.agg xs)) (q, .x (.agg ys)) = eqK p q true xs ys (eqT P t) := by
  simp only [abinX, eqK]
  cases eqT P t <;> simp
@[simp] theorem aunop_not (b : Bool) : aunop .not (p, .x (.one (.bool b))) = (p, .x (.one (.bool (!b)))) := rfl
@[simp] theorem aunop_neg (k : IntKind) (n : Int) : aunop .neg (p, .x (.one (.int k n))) = (p, .x (.one (.int k (k.wrap (0 - n))))) := rfl
@[simp] theorem amax_int (k k' : IntKind) (a b : Int) : amax (p, .x (.one (.int k a))) (q, .x (.one (.int k' b))) = (p ∧ q, .x (.one (.int k (max a b)))) := rfl
@[simp] theorem amin_int (k k' : IntKind) (a b : Int) : amin (p, .x (.one (.int k a))) (q, .x (.one (.int k' b))) = (p ∧ q, .x (.one (.int k (min a b)))) := rfl
@[simp] theorem aindex_str (l : List UInt8) (k : IntKind) (n : Int) : aindex P t (p, .x (.one (.str l))) (q, .x (.one (.int k n))) = (p ∧ q ∧ isStringT P t = true ∧ 0 ≤ n ∧ n < l.length, .x (.one (.int .u8 (l.getD n.toNat 0).toNat))) := rfl
def tupK (p : Prop) : Option XV → Prop × AV
  | some v => (p, .x v)
  | none => (False, .dead)
@[simp] theorem tupK_some (v : XV) : tupK p (some v) = (p, .x v) := rfl
@[simp] theorem aextract_tup (vs : List XV) (i : Nat) : aextract (p, .tup vs) i = tupK p (vs[i]?) := by
  simp only [aextract, tupK]
  cases vs[i]? <;> rfl
def convK (p d : Prop) (n : Int) : Option IntKind → Prop × AV
  | some k => (p ∧ d, .x (.one (.int k (k.wrap n))))
  | none => (False, .dead)
@[simp] theorem convK_some (d : Prop) (n : Int) (k : IntKind) : convK p d n (some k) = (p ∧ d, .x (.one (.int k (k.wrap n)))) := rfl
@[simp] theorem aconvert_int (t' : TypeId) (k : IntKind) (n : Int) : aconvert P t t' (p, .x (.one (.int k n))) = convK p ((P.underlying t).isSome = true) n (intT P t') := by
  simp only [aconvert, convK]
  cases intT P t' <;> rfl
@[simp] theorem aconvert_str (t' : TypeId) (l : List UInt8) : aconvert P t t' (p, .x (.one (.str l))) = (p ∧ isStringT P t = true ∧ isStringT P t' = true, .x (.one (.str l))) := rfl
@[simp] theorem apick_x (e : Bool) (a b : XV) : apick (p, .x (.one (.bool e))) (q, .x a) (r, .x b) = (p ∧ (e = true → q) ∧ (e = false → r), .x (pickX e a b)) := rfl
@[simp] theorem pickX_bool (e a b : Bool) : pickX e (.one (.bool a)) (.one (.bool b)) = .one (.bool (bif e then a else b)) := rfl
@[simp] theorem pickX_int (e : Bool) (k k' : IntKind) (a b : Int) : pickX e (.one (.int k a)) (.one (.int k' b)) = bif e then .one (.int k a) else .one (.int k' b) := rfl
@[simp] theorem pickX_str (e : Bool) (a b : List UInt8) : pickX e (.one (.str a)) (.one (.str b)) = bif e then .one (.str a) else .one (.str b) := rfl
@[simp] theorem acut_one (c : CV) (l : List CV) : acut .one p (c :: l) = (p, .x (.one c)) := rfl
@[simp] theorem acut_agg (n : Nat) (cs : List CV) : acut (.agg n) p cs = (p ∧ n ≤ cs.length, .x (.agg (cs.take n))) := rfl
@[simp] theorem aload_some (k : TK) (z : Option XV) (cs : List CV) : aload k z p (some cs) = acutZ k z p cs := rfl
@[simp] theorem acutZ_one (z : Option XV) (c : CV) (l : List CV) : acutZ .one z p (c :: l) = (p, .x (.one c)) := rfl
@[simp] theorem acutZ_nil (x : XV) : acutZ .one (some x) p [] = (False, .x x) := rfl
@[simp] theorem acutZ_agg (z : Option XV) (n : Nat) (cs : List CV) : acutZ (.agg n) z p cs = (p ∧ n ≤ cs.length, .x (.agg (cs.take n))) := rfl
@[simp] theorem fnOf_func (f : FuncId) : fnOf (.x (.one (.atom (.func (.func f) ⟨[]⟩ ⟨[]⟩)))) = some (f, []) := rfl
@[simp] theorem fnOf_clo (f : FuncId) (caps : List CV) : fnOf (.x (.one (.clo f caps))) = some (f, caps.map .one) := rfl
@[simp] theorem cells_one : TK.cells .one = some 1 := rfl
@[simp] theorem cells_agg (n : Nat) : TK.cells (.agg n) = some n := rfl
@[simp] theorem xcells_one (c : CV) : XV.cells (.one c) = [c] := rfl
@[simp] theorem xcells_agg (cs : List CV) : XV.cells (.agg cs) = cs := rfl
@[simp] theorem rav_x (v : XV) : RV.av (.x v) = .x v := rfl
@[simp] theorem rav_tup (v : List XV) : RV.av (.tup v) = .tup v := rfl
@[simp] theorem setRange_eq {α : Type} (cs : List α) (off : Nat) (vs : List α) : setRange cs off vs = cs.take off ++ vs ++ cs.drop (off + vs.length) := rfl
end
@[congr] theorem elemK_congr {q q' : Prop × AV} (h : q = q') : elemK q = elemK q' := by rw [h]
@[simp] theorem elemK_elem (p : Prop) (cs : List CV) : elemK (p, .elem cs) = True := rfl
attribute [simp] calmB storeU callB boxOuts makesOwn RV.flat XV.flat CV.flat fillX eqCs fitCs
end Go.Ab
