/-
  The run over abstract slots, as rewriting rules. What follows an operation is looked at only when the state in front of it is known.
-/
import Derived.Test.YtejhjdpafdpjlaaDoorAbCode
namespace Go.Ab
open Go Go.RowKit
set_option linter.unusedSectionVars false
variable [Amb]

def st0 : St := fun _ => .dead
@[simp] theorem st0_at (i : Nat) : st0 i = .dead := rfl
def upd (s : St) (d : Nat) (v : AV) : St := fun i => if i = d then v else s i
@[simp] theorem upd_at (s : St) (d : Nat) (v : AV) (i : Nat) : upd s d v i = if i = d then v else s i := rfl
def kill (s : St) (d : Nat) : St := fun i => if (s i).refs d then .dead else s i
@[simp] theorem kill_at (s : St) (d i : Nat) : kill s d i = if (s i).refs d then .dead else s i := rfl
@[simp] theorem initSt_nil (k : Nat) : initSt [] k = st0 := rfl
@[simp] theorem initSt_cons (x : XV) (r : List XV) (k : Nat) : initSt (x :: r) k = upd (initSt r (k + 1)) k (.x x) := rfl

def putK (o r : Bool) (s : St) (d : Nat) (v : AV) : St :=
  match o, r with
  | false, false => upd s d v
  | false, true => upd s d .dead
  | true, false => upd (kill s d) d v
  | true, true => upd (kill s d) d .dead
@[simp] theorem putK_ff (s : St) (d : Nat) (v : AV) : putK false false s d v = upd s d v := rfl
@[simp] theorem putK_ft (s : St) (d : Nat) (v : AV) : putK false true s d v = upd s d .dead := rfl
@[simp] theorem putK_tf (s : St) (d : Nat) (v : AV) : putK true false s d v = upd (kill s d) d v := rfl
@[simp] theorem putK_tt (s : St) (d : Nat) (v : AV) : putK true true s d v = upd (kill s d) d .dead := rfl
@[simp] theorem put_eq (s : St) (d : Nat) (v : AV) : put s d v = putK (s d).isOwner (v.refs d) s d v := by
  unfold put
  cases (s d).isOwner <;> cases v.refs d <;> funext i <;> simp [putK, upd, kill]

@[simp] theorem isOwner_dead : AV.isOwner .dead = false := rfl
@[simp] theorem isOwner_x (v : XV) : AV.isOwner (.x v) = false := rfl
@[simp] theorem isOwner_tup (v : List XV) : AV.isOwner (.tup v) = false := rfl
@[simp] theorem isOwner_box (v : List CV) : AV.isOwner (.box v) = true := rfl
@[simp] theorem isOwner_ptr (s o : Nat) : AV.isOwner (.ptr s o) = false := rfl
@[simp] theorem isOwner_eptr (s k o : Nat) : AV.isOwner (.eptr s k o) = false := rfl
@[simp] theorem isOwner_elem (v : List CV) : AV.isOwner (.elem v) = false := rfl
@[simp] theorem isOwner_own (e z : Nat) (v : List (List CV)) : AV.isOwner (.own e z v) = true := rfl
@[simp] theorem isOwner_mp (c : Nat) (bs : List Nat) (es : List (XV × XV)) : AV.isOwner (.mp c bs es) = true := rfl
@[simp] theorem isOwner_alias (s : Nat) : AV.isOwner (.alias s) = false := rfl
@[simp] theorem isOwner_view (s lo len : Nat) (wh : Bool) : AV.isOwner (.view s lo len wh) = false := rfl
@[simp] theorem isOwner_cloR (f : FuncId) (caps : List (CV ⊕ (Nat × Nat))) : AV.isOwner (.cloR f caps) = false := rfl
@[simp] theorem isOwner_cond (e : Bool) (v : AV) : AV.isOwner (.cond e v) = false := rfl
@[simp] theorem refs_dead (d : Nat) : AV.refs d .dead = false := rfl
@[simp] theorem refs_x (d : Nat) (v : XV) : AV.refs d (.x v) = false := rfl
@[simp] theorem refs_tup (d : Nat) (v : List XV) : AV.refs d (.tup v) = false := rfl
@[simp] theorem refs_box (d : Nat) (v : List CV) : AV.refs d (.box v) = false := rfl
@[simp] theorem refs_ptr (d s o : Nat) : AV.refs d (.ptr s o) = (s == d) := rfl
@[simp] theorem refs_eptr (d s k o : Nat) : AV.refs d (.eptr s k o) = (s == d) := rfl
@[simp] theorem refs_elem (d : Nat) (v : List CV) : AV.refs d (.elem v) = false := rfl
@[simp] theorem refs_mp (d c : Nat) (bs : List Nat) (es : List (XV × XV)) : AV.refs d (.mp c bs es) = false := rfl
@[simp] theorem refs_own (d e z : Nat) (v : List (List CV)) : AV.refs d (.own e z v) = false := rfl
@[simp] theorem refs_alias (d s : Nat) : AV.refs d (.alias s) = (s == d) := rfl
@[simp] theorem refs_view (d s lo len : Nat) (wh : Bool) : AV.refs d (.view s lo len wh) = (s == d) := rfl
@[simp] theorem refs_cloR (d : Nat) (f : FuncId) (caps : List (CV ⊕ (Nat × Nat))) : AV.refs d (.cloR f caps) = caps.any (capRef d) := rfl
@[simp] theorem capRef_inl (d : Nat) (c : CV) : capRef d (.inl c) = false := rfl
@[simp] theorem capRef_inr (d : Nat) (p : Nat × Nat) : capRef d (.inr p) = (p.1 == d) := rfl
@[simp] theorem refs_cond (d : Nat) (e : Bool) (v : AV) : AV.refs d (.cond e v) = v.refs d := rfl

/-! ### Operands -/
def lookK (t : Nat) : AV → AV
  | .box _ => .ptr t 0
  | .own _ _ _ => .alias t
  | .mp _ _ _ => .alias t
  | a => a
@[simp] theorem look_tmp_eq (s : St) (t : Nat) : look s (.tmp t) = lookK t (s t) := by
  simp only [look, lookK]
  cases s t <;> rfl
@[simp] theorem lookK_dead (t : Nat) : lookK t .dead = .dead := rfl
@[simp] theorem lookK_x (t : Nat) (v : XV) : lookK t (.x v) = .x v := rfl
@[simp] theorem lookK_tup (t : Nat) (v : List XV) : lookK t (.tup v) = .tup v := rfl
@[simp] theorem lookK_box (t : Nat) (v : List CV) : lookK t (.box v) = .ptr t 0 := rfl
@[simp] theorem lookK_ptr (t s o : Nat) : lookK t (.ptr s o) = .ptr s o := rfl
@[simp] theorem lookK_eptr (t s k o : Nat) : lookK t (.eptr s k o) = .eptr s k o := rfl
@[simp] theorem lookK_elem (t : Nat) (v : List CV) : lookK t (.elem v) = .elem v := rfl
@[simp] theorem lookK_mp (t c : Nat) (bs : List Nat) (es : List (XV × XV)) : lookK t (.mp c bs es) = .alias t := rfl
@[simp] theorem lookK_own (t e z : Nat) (v : List (List CV)) : lookK t (.own e z v) = .alias t := rfl
@[simp] theorem lookK_alias (t s : Nat) : lookK t (.alias s) = .alias s := rfl
@[simp] theorem lookK_view (t s lo len : Nat) (wh : Bool) : lookK t (.view s lo len wh) = .view s lo len wh := rfl
@[simp] theorem lookK_cloR (t : Nat) (f : FuncId) (caps : List (CV ⊕ (Nat × Nat))) : lookK t (.cloR f caps) = .cloR f caps := rfl
@[simp] theorem lookK_cond (t : Nat) (e : Bool) (v : AV) : lookK t (.cond e v) = .cond e v := rfl
@[simp] theorem look_int (s : St) (k : IntKind) (m : Int) : look s (.const (.int k m)) = .x (.one (.int k m)) := rfl
@[simp] theorem look_bool (s : St) (b : Bool) : look s (.const (.bool b)) = .x (.one (.bool b)) := rfl
@[simp] theorem look_nil (s : St) : look s (.const (.slice none 0 0)) = .x (.one .nil) := rfl
@[simp] theorem look_func (s : St) (f : Nat) : look s (.func f) = .x (.one (.atom (.func (.func f) #[] #[]))) := rfl
def strK (l : List UInt8) : AV := if l.length ≤ maxLen then .x (.one (.str l)) else .dead
@[simp] theorem look_str (s : St) (l : List UInt8) : look s (.const (.string ⟨⟨l⟩⟩)) = strK l := by
  simp [look, constAV, smallCell, ofCell, strK]
@[simp] theorem strK_eq (l : List UInt8) : strK l = if l.length ≤ maxLen then .x (.one (.str l)) else .dead := rfl
@[simp] theorem strip_dead  : strip .dead = (True, .dead) := rfl
@[simp] theorem strip_x (v : XV) : strip (.x v) = (True, (.x v)) := rfl
@[simp] theorem strip_tup (v : List XV) : strip (.tup v) = (True, (.tup v)) := rfl
@[simp] theorem strip_box (v : List CV) : strip (.box v) = (True, (.box v)) := rfl
@[simp] theorem strip_ptr (i o : Nat) : strip (.ptr i o) = (True, (.ptr i o)) := rfl
@[simp] theorem strip_eptr (i k o : Nat) : strip (.eptr i k o) = (True, (.eptr i k o)) := rfl
@[simp] theorem strip_elem (v : List CV) : strip (.elem v) = (True, (.elem v)) := rfl
@[simp] theorem strip_mp (c : Nat) (bs : List Nat) (es : List (XV × XV)) : strip (.mp c bs es) = (True, (.mp c bs es)) := rfl
@[simp] theorem strip_own (e z : Nat) (v : List (List CV)) : strip (.own e z v) = (True, (.own e z v)) := rfl
@[simp] theorem strip_alias (i : Nat) : strip (.alias i) = (True, (.alias i)) := rfl
@[simp] theorem strip_view (s lo len : Nat) (wh : Bool) : strip (.view s lo len wh) = (True, .view s lo len wh) := rfl
@[simp] theorem strip_cloR (f : FuncId) (caps : List (CV ⊕ (Nat × Nat))) : strip (.cloR f caps) = (True, .cloR f caps) := rfl
@[simp] theorem strip_cond (e : Bool) (a : AV) : strip (.cond e a) = (e = true, a) := rfl
@[simp] theorem sv_eq (s : St) (x : Operand) : sv s x = strip (look s x) := rfl

/-! ### Heads, looked at in the order of the run -/
def andP (r : Prop × AV) (k : AV → Prop) : Prop := r.1 ∧ k r.2
@[congr] theorem andP_congr {r r' : Prop × AV} {k : AV → Prop} (h : r = r') : andP r k = andP r' k := by rw [h]
@[simp] theorem andP_mk (p : Prop) (v : AV) (k : AV → Prop) : andP (p, v) k = (p ∧ k v) := rfl

@[congr] theorem awp_congr {P : Program} {n : Nat} {c : Code} {Q : Exit → St → Prop} {s s' : St} (h : s = s') : awp P n c Q s = awp P n c Q s' := by rw [h]
@[congr] theorem aops_congr {P : Program} {n : Nat} {ops : Array Oper} {l : List Oper} {K : St → Prop} {s s' : St} (h : s = s') : aops P n ops l s K = aops P n ops l s' K := by rw [h]
@[congr] theorem aopsD_congr {P : Program} {n : Nat} {m : Bool} {ops : Array Oper} {l : List Oper} {K : St → Prop} {s s' : St} (h : s = s') : aopsD P n m ops l s K = aopsD P n m ops l s' K := by rw [h]
@[congr] theorem aopC_congr {P : Program} {n : Nat} {o : Oper} {K : St → Prop} {s s' : St} (h : s = s') : aopC P n o s K = aopC P n o s' K := by rw [h]
@[congr] theorem storeSide_congr {op : Op} {s s' : St} (h : s = s') : storeSide s op = storeSide s' op := by rw [h]
@[congr] theorem lightAt_congr {op : Op} {s s' : St} (h : s = s') : lightAt s op = lightAt s' op := by rw [h]
@[congr] theorem aop_congr {P : Program} {n : Nat} {ops : Array Oper} {o : Oper} {K : St → Prop} {s s' : St} (h : s = s') : aop P n ops o s K = aop P n ops o s' K := by rw [h]
@[congr] theorem aopD_congr {P : Program} {n : Nat} {ops : Array Oper} {o : Oper} {K : St → Prop} {s s' : St} (h : s = s') : aopD P n ops o s K = aopD P n ops o s' K := by rw [h]
@[congr] theorem astep_congr {P : Program} {n : Nat} {op : Op} {d : Option Tmp} {K : St → Prop} {s s' : St} (h : s = s') : astep P n s op d K = astep P n s' op d K := by rw [h]
@[congr] theorem thenA_congr {k : St → Prop} {Q : Exit → St → Prop} {e : Exit} {s s' : St} (h : s = s') : thenA k Q e s = thenA k Q e s' := by rw [h]
@[congr] theorem inBlockA_congr {i : Nat} {Q : Exit → St → Prop} {e : Exit} {s s' : St} (h : s = s') : inBlockA i Q e s = inBlockA i Q e s' := by rw [h]

/-- What a rewriting does not enter. -/
class Seal (α : Type) where
  val : α
def ALoopS [b : Seal ((Exit → St → Prop) → St → Prop)] [Q : Seal (Exit → St → Prop)] (s : St) : Prop := ALoop b.val Q.val s
def touch (s : St) : St := s
/-- A region that calls what a slot holds: '.l' where no call writes, '.r' where a call may. -/
def AltR [a : Seal Prop] [b : Seal Prop] : Prop := a.val ∨ b.val
theorem AltR.l {a b : Prop} (h : a) : @AltR ⟨a⟩ ⟨b⟩ := .inl h
theorem AltR.r {a b : Prop} (h : b) : @AltR ⟨a⟩ ⟨b⟩ := .inr h
def wildK (b : Bool) (x y : Prop) : Prop := match b with
  | true => x
  | false => y
@[congr] theorem wildK_congr {b b' : Bool} {x y : Prop} (h : b = b') : wildK b x y = wildK b' x y := by rw [h]
@[simp ↓] theorem wildK_true (x y : Prop) : wildK true x y = x := rfl
@[simp ↓] theorem wildK_false (x y : Prop) : wildK false x y = y := rfl
def orW (b c : Bool) : Bool := match b with
  | true => true
  | false => c
@[congr] theorem orW_congr {b b' c : Bool} (h : b = b') : orW b c = orW b' c := by rw [h]
@[simp ↓] theorem orW_true (c : Bool) : orW true c = true := rfl
@[simp ↓] theorem orW_false (c : Bool) : orW false c = c := rfl
/-- Does the operation call what a slot holds? -/
def wildO (op : Op) (g : Option (Nat × Bool)) : Bool := match op with
  | .call c => match c.callee with
    | .value (.tmp _) => g.isNone
    | _ => false
  | _ => false
@[simp ↓] theorem wildB_nil : wildB ⟨[]⟩ = false := rfl
@[simp ↓] theorem wildB_cons (o : Oper) (r : List Oper) : wildB ⟨o :: r⟩ = orW (wildO o.op o.guard) (wildB ⟨r⟩) := by
  obtain ⟨dst, op, type, pos, after, guard⟩ := o
  have e : ∀ b c : Bool, orW b c = (b || c) := fun b c => by cases b <;> rfl
  rw [e]
  unfold wildB wildO callB
  simp only [List.any_cons]
  congr 1
  cases op <;> try rfl
  rename_i c
  obtain ⟨f, a, ts⟩ := c
  cases f <;> rfl
section
variable (g : Option (Nat × Bool))
@[simp ↓] theorem wildO_tmp (t : Nat) (a : Array Operand) (ts : Array TypeId) : wildO (.call ⟨.value (.tmp t), a, ts⟩) none = true := rfl
@[simp ↓] theorem wildO_tmpG (t : Nat) (a : Array Operand) (ts : Array TypeId) (e : Nat × Bool) : wildO (.call ⟨.value (.tmp t), a, ts⟩) (some e) = false := rfl
@[simp ↓] theorem wildO_const (v : Value) (a : Array Operand) (ts : Array TypeId) : wildO (.call ⟨.value (.const v), a, ts⟩) g = false := rfl
@[simp ↓] theorem wildO_global (v : Nat) (a : Array Operand) (ts : Array TypeId) : wildO (.call ⟨.value (.global v), a, ts⟩) g = false := rfl
@[simp ↓] theorem wildO_func (v : Nat) (a : Array Operand) (ts : Array TypeId) : wildO (.call ⟨.value (.func v), a, ts⟩) g = false := rfl
@[simp ↓] theorem wildO_invoke (r : Operand) (m : String) (a : Array Operand) (ts : Array TypeId) : wildO (.call ⟨.invoke r m, a, ts⟩) g = false := rfl
@[simp ↓] theorem wildO_builtin (b : Builtin) (a : Array Operand) (ts : Array TypeId) : wildO (.call ⟨.builtin b, a, ts⟩) g = false := rfl
@[simp ↓] theorem wildO_move {x0} : wildO (.move x0) g = false := rfl
@[simp ↓] theorem wildO_assign {x0} : wildO (.assign x0) g = false := rfl
@[simp ↓] theorem wildO_pick {x0 x1 x2} : wildO (.pick x0 x1 x2) g = false := rfl
@[simp ↓] theorem wildO_alloc {x0} : wildO (.alloc x0) g = false := rfl
@[simp ↓] theorem wildO_box {x0 x1} : wildO (.box x0 x1) g = false := rfl
@[simp ↓] theorem wildO_build {x0 x1} : wildO (.build x0 x1) g = false := rfl
@[simp ↓] theorem wildO_buildSlice {x0 x1 x2} : wildO (.buildSlice x0 x1 x2) g = false := rfl
@[simp ↓] theorem wildO_insert {x0 x1 x2 x3} : wildO (.insert x0 x1 x2 x3) g = false := rfl
@[simp ↓] theorem wildO_load {x0 x1} : wildO (.load x0 x1) g = false := rfl
@[simp ↓] theorem wildO_store {x0 x1 x2} : wildO (.store x0 x1 x2) g = false := rfl
@[simp ↓] theorem wildO_ready {x0} : wildO (.ready x0) g = false := rfl
@[simp ↓] theorem wildO_waits {x0} : wildO (.waits x0) g = false := rfl
@[simp ↓] theorem wildO_nilCheck {x0} : wildO (.nilCheck x0) g = false := rfl
@[simp ↓] theorem wildO_binOp {x0 x1 x2 x3 x4} : wildO (.binOp x0 x1 x2 x3 x4) g = false := rfl
@[simp ↓] theorem wildO_unOp {x0 x1 x2} : wildO (.unOp x0 x1 x2) g = false := rfl
@[simp ↓] theorem wildO_convert {x0 x1 x2} : wildO (.convert x0 x1 x2) g = false := rfl
@[simp ↓] theorem wildO_sliceToArrayPointer {x0 x1} : wildO (.sliceToArrayPointer x0 x1) g = false := rfl
@[simp ↓] theorem wildO_makeInterface {x0 x1} : wildO (.makeInterface x0 x1) g = false := rfl
@[simp ↓] theorem wildO_makeFunc {x0 x1 x2} : wildO (.makeFunc x0 x1 x2) g = false := rfl
@[simp ↓] theorem wildO_makeMap {x0 x1} : wildO (.makeMap x0 x1) g = false := rfl
@[simp ↓] theorem wildO_makeChan {x0 x1} : wildO (.makeChan x0 x1) g = false := rfl
@[simp ↓] theorem wildO_makeSlice {x0 x1 x2} : wildO (.makeSlice x0 x1 x2) g = false := rfl
@[simp ↓] theorem wildO_slice {x0 x1 x2 x3 x4} : wildO (.slice x0 x1 x2 x3 x4) g = false := rfl
@[simp ↓] theorem wildO_fieldAddr {x0 x1 x2} : wildO (.fieldAddr x0 x1 x2) g = false := rfl
@[simp ↓] theorem wildO_field {x0 x1 x2} : wildO (.field x0 x1 x2) g = false := rfl
@[simp ↓] theorem wildO_indexAddr {x0 x1 x2} : wildO (.indexAddr x0 x1 x2) g = false := rfl
@[simp ↓] theorem wildO_index {x0 x1 x2} : wildO (.index x0 x1 x2) g = false := rfl
@[simp ↓] theorem wildO_lookup {x0 x1 x2 x3} : wildO (.lookup x0 x1 x2 x3) g = false := rfl
@[simp ↓] theorem wildO_mapUpdate {x0 x1 x2 x3} : wildO (.mapUpdate x0 x1 x2 x3) g = false := rfl
@[simp ↓] theorem wildO_mapEntry {x0 x1 x2} : wildO (.mapEntry x0 x1 x2) g = false := rfl
@[simp ↓] theorem wildO_entryStore {x0 x1 x2 x3} : wildO (.entryStore x0 x1 x2 x3) g = false := rfl
@[simp ↓] theorem wildO_range {x0 x1} : wildO (.range x0 x1) g = false := rfl
@[simp ↓] theorem wildO_next {x0 x1} : wildO (.next x0 x1) g = false := rfl
@[simp ↓] theorem wildO_entry {x0} : wildO (.entry x0) g = false := rfl
@[simp ↓] theorem wildO_typeAssert {x0 x1 x2 x3} : wildO (.typeAssert x0 x1 x2 x3) g = false := rfl
@[simp ↓] theorem wildO_extract {x0 x1} : wildO (.extract x0 x1) g = false := rfl
@[simp ↓] theorem wildO_go {x0} : wildO (.go x0) g = false := rfl
@[simp ↓] theorem wildO_defer {x0} : wildO (.defer x0) g = false := rfl
@[simp ↓] theorem wildO_panic {x0} : wildO (.panic x0) g = false := rfl
@[simp ↓] theorem wildO_send {x0 x1} : wildO (.send x0 x1) g = false := rfl
@[simp ↓] theorem wildO_recv {x0 x1 x2} : wildO (.recv x0 x1 x2) g = false := rfl
@[simp ↓] theorem wildO_select {x0 x1} : wildO (.select x0 x1) g = false := rfl
end
@[simp] theorem touch_eq (s : St) : touch s = s := rfl

section
variable (P : Program) (n : Nat) (Q : Exit → St → Prop) (s : St)
@[simp ↓] theorem awp_skip : awp P n .skip Q s = Q .normal s := rfl
@[simp ↓] theorem awp_label (l : Nat) : awp P n (.label l) Q s = Q .normal s := rfl
@[simp ↓] theorem awp_region (id : Nat) (l : List Oper) : awp P n (.region id ⟨l⟩ false) Q s = aops P n ⟨l⟩ l (touch s) (Q .normal) := rfl
@[simp ↓] theorem awp_regionD (id : Nat) (l : List Oper) : awp P n (.region id ⟨l⟩ true) Q s = wildK (wildB ⟨l⟩) (@AltR ⟨aopsD P n false ⟨l⟩ l (touch s) (Q .normal)⟩ ⟨drawOk true ⟨l⟩ = true ∧ aopsD P n true ⟨l⟩ l (touch s) (Q .normal)⟩) (aopsD P n false ⟨l⟩ l (touch s) (Q .normal)) := by
  show (match wildB ⟨l⟩ with | true => _ | false => _) = _
  unfold wildK AltR
  cases wildB ⟨l⟩ <;> rfl
@[simp ↓] theorem awp_seq (a b : Code) : awp P n (.seq a b) Q s = awp P n a (thenA (awp P n b Q) Q) s := rfl
@[simp ↓] theorem awp_block (id : Nat) (c : Code) : awp P n (.block id c) Q s = awp P n c (inBlockA id Q) s := rfl
@[simp ↓] theorem awp_loop (c : Code) : awp P n (.loop c) Q s = @ALoopS ⟨awp P n c⟩ ⟨Q⟩ s := rfl
@[simp ↓] theorem awp_exit (id : Nat) : awp P n (.exit id) Q s = Q (.exit id) s := rfl
@[simp ↓] theorem awp_ret : awp P n .ret Q s = Q .ret s := rfl
@[simp ↓] theorem awp_cond (c : Operand) (a b : Code) : awp P n (.cond c a b) Q s = acond (sv s c) (awp P n a Q s) (awp P n b Q s) := rfl
@[simp ↓] theorem thenA_normal (k : St → Prop) : thenA k Q .normal s = k s := rfl
@[simp ↓] theorem thenA_exit (k : St → Prop) (i : Nat) : thenA k Q (.exit i) s = Q (.exit i) s := rfl
@[simp ↓] theorem thenA_ret (k : St → Prop) : thenA k Q .ret s = Q .ret s := rfl
@[simp ↓] theorem inBlockA_normal (i : Nat) : inBlockA i Q .normal s = Q .normal s := rfl
@[simp ↓] theorem inBlockA_ret (i : Nat) : inBlockA i Q .ret s = Q .ret s := rfl
@[simp ↓] theorem inBlockA_exit (i j : Nat) : inBlockA i Q (.exit j) s = if j = i then Q .normal s else Q (.exit j) s := rfl
end
@[congr] theorem acond_congr {c c' : Prop × AV} {A B : Prop} (h : c = c') : acond c A B = acond c' A B := by rw [h]
@[simp high] theorem acond_true (p A B : Prop) : acond (p, .x (.one (.bool true))) A B = (p ∧ A) := by simp [acond]
@[simp high] theorem acond_false (p A B : Prop) : acond (p, .x (.one (.bool false))) A B = (p ∧ B) := by simp [acond]
@[simp] theorem acond_mk (p : Prop) (b : Bool) (A B : Prop) : acond (p, .x (.one (.bool b))) A B = (p ∧ (b = true → A) ∧ (b = false → B)) := rfl

/-- A call: the contract is met by hand. -/
def ACallK (P : Program) (g : FuncId) (xs : List XV) [k : Seal (RV → Prop)] [m : Seal Prop] : Prop := (∃ r, ACalls P g xs r ∧ k.val r) ∨ m.val
theorem ACallK.of {P : Program} {g : FuncId} {xs : List XV} {k : RV → Prop} {m : Prop} {r : RV} (h : ACalls P g xs r) (hk : k r) : @ACallK _ P g xs ⟨k⟩ ⟨m⟩ := .inl ⟨r, h, hk⟩
/-- It is a call that writes to what is lent to it. -/
theorem ACallK.lend {P : Program} {g : FuncId} {xs : List XV} {k : RV → Prop} {m : Prop} (h : m) : @ACallK _ P g xs ⟨k⟩ ⟨m⟩ := .inr h
@[congr] theorem callS_congr {P : Program} {c c' : Prop × Option (FuncId × List XV)} {k : RV → Prop} {m : Prop} (h : c = c') : callS P c k m = callS P c' k m := by rw [h]
@[simp] theorem callS_mk (P : Program) (g : FuncId) (p : Prop) (xs : List XV) (k : RV → Prop) (m : Prop) : callS P (p, some (g, xs)) k m = (p ∧ @ACallK _ P g xs ⟨k⟩ ⟨m⟩) := rfl
@[simp] theorem callS_none (P : Program) (p : Prop) (k : RV → Prop) (m : Prop) : callS P (p, none) k m = m := rfl
/-- Where nothing is lent. -/
def ACallR (P : Program) (g : FuncId) (xs : List XV) [k : Seal (RV → Prop)] : Prop := ∃ r, ACalls P g xs r ∧ k.val r
theorem ACallR.of {P : Program} {g : FuncId} {xs : List XV} {k : RV → Prop} {r : RV} (h : ACalls P g xs r) (hk : k r) : @ACallR _ P g xs ⟨k⟩ := ⟨r, h, hk⟩
def callK (P : Program) (c : Prop × Option (FuncId × List XV)) (k : RV → Prop) : Prop :=
  match c with
  | (p, some (g, xs)) => p ∧ @ACallK _ P g xs ⟨k⟩ ⟨False⟩
  | _ => False
@[congr] theorem callK_congr {P : Program} {c c' : Prop × Option (FuncId × List XV)} {k : RV → Prop} (h : c = c') : callK P c k = callK P c' k := by rw [h]
@[simp] theorem callK_mk (P : Program) (g : FuncId) (p : Prop) (xs : List XV) (k : RV → Prop) : callK P (p, some (g, xs)) k = (p ∧ @ACallK _ P g xs ⟨k⟩ ⟨False⟩) := rfl
theorem callK_eq (P : Program) (s : St) (f : Operand) (args : List Operand) (k : RV → Prop) : (∃ r, acall P s f args r ∧ k r) = callK P (callee s f args) k := by
  unfold acall callK ACallK
  apply propext
  constructor
  · rintro ⟨r, h, hk⟩
    split at h
    · rename_i p g xs e
      rw [e]
      exact ⟨h.1, .inl ⟨r, h.2, hk⟩⟩
    · exact h.elim
  · intro h
    split at h
    · rename_i p g xs e
      obtain ⟨hp, ⟨r, hc, hk⟩ | h⟩ := h
      · exact ⟨r, by rw [e]; exact ⟨hp, hc⟩, hk⟩
      · exact h.elim
    · exact h.elim
/-- A call that writes. -/
def ACallM (P : Program) (g : FuncId) (args : List AV) [k : Seal (RV → List AV → Prop)] : Prop := ∃ r outs, ACallsM P g args r outs ∧ k.val r outs
theorem ACallM.of {P : Program} {g : FuncId} {args : List AV} {k : RV → List AV → Prop} {r : RV} {outs : List AV} (h : ACallsM P g args r outs) (hk : k r outs) : @ACallM _ P g args ⟨k⟩ := ⟨r, outs, h, hk⟩
@[congr] theorem callM_congr {P : Program} {c c' : Prop × Option (FuncId × List (AV × Option Nat))} {k : List (AV × Option Nat) → RV → List AV → Prop} (h : c = c') : callM P c k = callM P c' k := by rw [h]
@[simp] theorem callM_mk (P : Program) (g : FuncId) (p : Prop) (xs : List (AV × Option Nat)) (k : List (AV × Option Nat) → RV → List AV → Prop) : callM P (p, some (g, xs)) k = (p ∧ (slotsOf xs).Nodup ∧ @ACallM _ P g (xs.map (·.1)) ⟨fun r outs => k xs r outs⟩) := rfl
@[simp] theorem slotsOf_nil : slotsOf [] = [] := rfl
@[simp] theorem slotsOf_some (x : AV) (i : Nat) (l : List (AV × Option Nat)) : slotsOf ((x, some i) :: l) = i :: slotsOf l := rfl
@[simp] theorem slotsOf_none (x : AV) (l : List (AV × Option Nat)) : slotsOf ((x, none) :: l) = slotsOf l := rfl
@[simp] theorem setOuts_nil (s : St) (outs : List AV) : setOuts s [] outs = s := by cases outs <;> rfl
@[simp] theorem setOuts_some (s : St) (x o : AV) (i : Nat) (l : List (AV × Option Nat)) (outs : List AV) : setOuts s ((x, some i) :: l) (o :: outs) = setOuts (setOut s i o) l outs := rfl
@[simp] theorem setOuts_none (s : St) (x o : AV) (l : List (AV × Option Nat)) (outs : List AV) : setOuts s ((x, none) :: l) (o :: outs) = setOuts s l outs := rfl
@[simp] theorem setOut_box (s : St) (i : Nat) (cs : List CV) : setOut s i (.box cs) = upd s i (.box cs) := rfl
@[simp] theorem setOut_mp (s : St) (i c : Nat) (bs : List Nat) (es : List (XV × XV)) : setOut s i (.mp c bs es) = upd s i (.mp c bs es) := rfl
theorem setOut_kill (s : St) (i : Nat) (o : AV) : (fun j => if j = i then o else if (s j).refs i then .dead else s j) = upd (kill s i) i o := by
  funext j; simp only [upd_at, kill_at]
@[simp] theorem setOut_own (s : St) (i e z : Nat) (xs : List (List CV)) : setOut s i (.own e z xs) = upd (kill s i) i (.own e z xs) := setOut_kill s i _
@[simp] theorem setOut_x (s : St) (i : Nat) (v : XV) : setOut s i (.x v) = upd (kill s i) i (.x v) := setOut_kill s i _
@[simp] theorem setOut_dead (s : St) (i : Nat) : setOut s i .dead = upd (kill s i) i .dead := setOut_kill s i _
def aMO (p : Prop) (i : Nat) : AV → Prop × Option (AV × Option Nat)
  | .own e z xs => (p, some (.own e z xs, some i))
  | .mp c bs es => (p, some (.mp c bs es, some i))
  | _ => (False, none)
@[simp] theorem aMO_own (p : Prop) (i e z : Nat) (xs : List (List CV)) : aMO p i (.own e z xs) = (p, some (.own e z xs, some i)) := rfl
@[simp] theorem aMO_mp (p : Prop) (i c : Nat) (bs : List Nat) (es : List (XV × XV)) : aMO p i (.mp c bs es) = (p, some (.mp c bs es, some i)) := rfl
def aMB (p : Prop) (i : Nat) : AV → Prop × Option (AV × Option Nat)
  | .box cs => (p, some (.box cs, some i))
  | _ => (False, none)
@[simp] theorem aMB_box (p : Prop) (i : Nat) (cs : List CV) : aMB p i (.box cs) = (p, some (.box cs, some i)) := rfl
def argMK (s : St) : Prop × AV → Prop × Option (AV × Option Nat)
  | (p, .x xv) => (p, some (.x xv, none))
  | (p, .alias i) => aMO p i (s i)
  | (p, .ptr i 0) => aMB p i (s i)
  | _ => (False, none)
@[congr] theorem argMK_congr {s : St} {q q' : Prop × AV} (h : q = q') : argMK s q = argMK s q' := by rw [h]
@[simp] theorem argMK_x (s : St) (p : Prop) (v : XV) : argMK s (p, .x v) = (p, some (.x v, none)) := rfl
@[simp] theorem argMK_alias (s : St) (p : Prop) (i : Nat) : argMK s (p, .alias i) = aMO p i (s i) := rfl
@[simp] theorem argMK_ptr (s : St) (p : Prop) (i : Nat) : argMK s (p, .ptr i 0) = aMB p i (s i) := rfl
@[simp] theorem argM_eq (s : St) (x : Operand) : argM s x = argMK s (sv s x) := by
  unfold argM argMK aMO aMB
  rfl
def consM (a : Prop × Option (AV × Option Nat)) (b : Prop × Option (List (AV × Option Nat))) : Prop × Option (List (AV × Option Nat)) := match a, b with
  | (p, some v), (q, some vs) => (p ∧ q, some (v :: vs))
  | _, _ => (False, none)
@[simp] theorem consM_some (p q : Prop) (v : AV × Option Nat) (vs : List (AV × Option Nat)) : consM (p, some v) (q, some vs) = (p ∧ q, some (v :: vs)) := rfl
@[simp] theorem argMs_nil (s : St) : argMs s [] = (True, some []) := rfl
@[simp] theorem argMs_cons (s : St) (x : Operand) (r : List Operand) : argMs s (x :: r) = consM (argM s x) (argMs s r) := rfl
def capB (i : Nat) : AV → Option (AV × Option Nat)
  | .box cs => some (.box cs, some i)
  | _ => none
@[simp] theorem capB_box (i : Nat) (cs : List CV) : capB i (.box cs) = some (.box cs, some i) := rfl
@[simp] theorem capM_inl (s : St) (c : CV) : capM s (.inl c) = some (.x (.one c), none) := rfl
@[simp] theorem capM_inr (s : St) (i : Nat) : capM s (.inr (i, 0)) = capB i (s i) := rfl
def consO (a : Option (AV × Option Nat)) (b : Option (List (AV × Option Nat))) : Option (List (AV × Option Nat)) := match a, b with
  | some v, some vs => some (v :: vs)
  | _, _ => none
@[simp] theorem consO_some (v : AV × Option Nat) (vs : List (AV × Option Nat)) : consO (some v) (some vs) = some (v :: vs) := rfl
@[simp] theorem capMs_nil (s : St) : capMs s [] = some [] := rfl
@[simp] theorem capMs_cons (s : St) (c : CV ⊕ (Nat × Nat)) (r : List (CV ⊕ (Nat × Nat))) : capMs s (c :: r) = consO (capM s c) (capMs s r) := rfl
def fnMK (s : St) : AV → Option (FuncId × List (AV × Option Nat))
  | a => fnM s a
@[simp] theorem fnM_cloR (s : St) (f : FuncId) (caps : List (CV ⊕ (Nat × Nat))) : fnM s (.cloR f caps) = (capMs s caps).map fun xs => (f, xs) := rfl
@[simp] theorem fnM_clo (s : St) (f : FuncId) (caps : List CV) : fnM s (.x (.one (.clo f caps))) = some (f, caps.map fun c => (.x (.one c), none)) := by
  simp [fnM, fnOf]
@[simp] theorem fnM_func (s : St) (f : FuncId) : fnM s (.x (.one (.atom (.func (.func f) #[] #[])))) = some (f, []) := rfl
def calleeMK (f : Prop × Option (FuncId × List (AV × Option Nat))) (xs : Prop × Option (List (AV × Option Nat))) : Prop × Option (FuncId × List (AV × Option Nat)) :=
  match f, xs with
  | (p, some (g, caps)), (q, some xs) => (p ∧ q, some (g, xs ++ caps))
  | _, _ => (False, none)
@[simp] theorem calleeMK_mk (p q : Prop) (g : FuncId) (caps xs : List (AV × Option Nat)) : calleeMK (p, some (g, caps)) (q, some xs) = (p ∧ q, some (g, xs ++ caps)) := rfl
def fnMP (s : St) : Prop × AV → Prop × Option (FuncId × List (AV × Option Nat))
  | (p, a) => (p, fnM s a)
@[simp] theorem fnMP_mk (s : St) (p : Prop) (a : AV) : fnMP s (p, a) = (p, fnM s a) := rfl
@[simp] theorem calleeM_eq (s : St) (f : Operand) (args : List Operand) : calleeM s f args = calleeMK (fnMP s (sv s f)) (argMs s args) := by
  unfold calleeM calleeMK fnMP
  generalize sv s f = a
  generalize argMs s args = b
  obtain ⟨p, a⟩ := a
  obtain ⟨q, b⟩ := b
  cases b with
  | none => dsimp only; cases fnM s a <;> rfl
  | some xs => dsimp only; cases fnM s a <;> rfl
def fnK : Prop × AV → Prop × Option (FuncId × List XV)
  | (p, a) => (p, fnOf a)
@[simp] theorem fnK_mk (p : Prop) (a : AV) : fnK (p, a) = (p, fnOf a) := rfl
def calleeK (f : Prop × Option (FuncId × List XV)) (xs : Prop × Option (List XV)) : Prop × Option (FuncId × List XV) :=
  match f, xs with
  | (p, some (g, caps)), (q, some xs) => (p ∧ q, some (g, xs ++ caps))
  | _, _ => (False, none)
@[simp] theorem calleeK_none (f : Prop × Option (FuncId × List XV)) (q : Prop) : calleeK f (q, none) = (False, none) := by
  obtain ⟨p, f⟩ := f
  cases f <;> rfl
@[simp] theorem calleeK_no (p : Prop) (xs : Prop × Option (List XV)) : calleeK (p, none) xs = (False, none) := rfl
@[simp] theorem fnOf_cloR (f : FuncId) (caps : List (CV ⊕ (Nat × Nat))) : fnOf (.cloR f caps) = none := rfl
@[simp] theorem calleeK_mk (p q : Prop) (g : FuncId) (caps xs : List XV) : calleeK (p, some (g, caps)) (q, some xs) = (p ∧ q, some (g, xs ++ caps)) := rfl
@[simp] theorem callee_eq (s : St) (f : Operand) (args : List Operand) : callee s f args = calleeK (fnK (sv s f)) (argXs s args) := by
  unfold callee calleeK fnK
  generalize sv s f = a
  generalize argXs s args = b
  obtain ⟨p, a⟩ := a
  obtain ⟨q, b⟩ := b
  cases b with
  | none => dsimp only; cases fnOf a <;> rfl
  | some xs => dsimp only; cases fnOf a <;> rfl

def ACallGS (P : Program) (e : Bool) (g : FuncId) (xs : List XV) [k : Seal (RV → Prop)] : Prop := ACallG P e g xs k.val
theorem ACallGS.of {P : Program} {e : Bool} {g : FuncId} {xs : List XV} {k : RV → Prop} {r : RV} (h : e = true → ACalls P g xs r) (hf : r.flat = true) (hk : k r) : @ACallGS _ P e g xs ⟨k⟩ := ⟨r, h, hf, hk⟩
@[congr] theorem callG_congr {P : Program} {e e' : Bool} {c c' : Prop × Option (FuncId × List XV)} {k : RV → Prop} (he : e = e') (h : c = c') : callG P e c k = callG P e' c' k := by rw [he, h]
@[simp] theorem callG_mk (P : Program) (e : Bool) (g : FuncId) (p : Prop) (xs : List XV) (k : RV → Prop) : callG P e (p, some (g, xs)) k = ((e = true → p) ∧ @ACallGS _ P e g xs ⟨k⟩) := rfl

end Go.Ab
