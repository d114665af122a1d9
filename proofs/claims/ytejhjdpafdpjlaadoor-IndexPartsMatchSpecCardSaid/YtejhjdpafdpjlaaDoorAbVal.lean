/-
  The value that an operation yields, and that the model's operation yields it.
-/
import Derived.Test.YtejhjdpafdpjlaaDoorAbOps
import Derived.Test.YtejhjdpafdpjlaaDoorAbMapDef
namespace Go.Ab
open Go Go.RowKit
set_option linter.unusedSectionVars false
variable [Amb]

def bitsOf (op : BinOp) (k : IntKind) (x y : Int) : Int :=
  let a := BitVec.ofInt k.bits x
  let b := BitVec.ofInt k.bits y
  match op with
  | .and => k.wrap (a &&& b).toNat
  | .or => k.wrap (a ||| b).toNat
  | .xor => k.wrap (a ^^^ b).toNat
  | _ => k.wrap (a &&& ~~~b).toNat

/-- Two strings' order. -/
def ltB (a b : List UInt8) : Bool := Op.bytesLess a b

def abin (op : BinOp) (x y : CV) : Prop × CV :=
  match x, y with
  | .int k a, .int k' b =>
    match op with
    | .shl => (0 ≤ b, .int k (k.wrap (a * 2 ^ (min b.toNat k.bits))))
    | .shr => (0 ≤ b, .int k (a.fdiv (2 ^ (min b.toNat k.bits))))
    | .add => (k = k', .int k (k.wrap (a + b)))
    | .sub => (k = k', .int k (k.wrap (a - b)))
    | .mul => (k = k', .int k (k.wrap (a * b)))
    | .quo => (k = k' ∧ b ≠ 0, .int k (k.wrap (a.tdiv b)))
    | .rem => (k = k' ∧ b ≠ 0, .int k (a.tmod b))
    | .and => (k = k', .int k (bitsOf .and k a b))
    | .or => (k = k', .int k (bitsOf .or k a b))
    | .xor => (k = k', .int k (bitsOf .xor k a b))
    | .andNot => (k = k', .int k (bitsOf .andNot k a b))
    | .eql => (k = k', .bool (a == b))
    | .neq => (k = k', .bool (a != b))
    | .lss => (k = k', .bool (decide (a < b)))
    | .leq => (k = k', .bool (decide (a ≤ b)))
    | .gtr => (k = k', .bool (decide (b < a)))
    | .geq => (k = k', .bool (decide (b ≤ a)))
  | .str a, .str b =>
    match op with
    | .add => (a.length + b.length ≤ maxLen, .str (a ++ b))
    | .eql => (True, .bool (a == b))
    | .neq => (True, .bool (!(a == b)))
    | .lss => (True, .bool (ltB a b))
    | .leq => (True, .bool (ltB a b || a == b))
    | .gtr => (True, .bool (!(ltB a b || a == b)))
    | .geq => (True, .bool (!ltB a b))
    | _ => (False, .nil)
  | _, _ => (False, .nil)

inductive BK where
  | b | i | s
  deriving DecidableEq

/-- The kinds of the cells of a type that can be compared cell by cell. -/
def kindsT (P : Program) : Nat → TypeId → Option (List BK)
  | 0, _ => none
  | d + 1, t =>
    match P.underlying t with
    | some .bool => some [.b]
    | some (.int _) => some [.i]
    | some .string => some [.s]
    | some (.struct fs) => if P.stoodInHeld t then none else
      fs.toList.foldl (init := some []) fun acc f => match acc, kindsT P d f.type with
        | some l, some ks => if f.name = "_" ∨ f.offset ≠ l.length ∨ (P.info? f.type).map (·.size) ≠ some ks.length ∨ ks.length = 0 then none else some (l ++ ks)
        | _, _ => none
    | _ => none

/-- Equal, cell by cell. -/
def eqCs : List CV → List CV → Bool
  | [], [] => true
  | .bool a :: xs, .bool b :: ys => a == b && eqCs xs ys
  | .int _ a :: xs, .int _ b :: ys => a == b && eqCs xs ys
  | .str a :: xs, .str b :: ys => a == b && eqCs xs ys
  | _, _ => false

/-- The cells are of these kinds. -/
def fitCs : List BK → List CV → List CV → Prop
  | [], [], [] => True
  | .b :: ks, .bool _ :: xs, .bool _ :: ys => fitCs ks xs ys
  | .i :: ks, .int k _ :: xs, .int k' _ :: ys => k = k' ∧ fitCs ks xs ys
  | .s :: ks, .str _ :: xs, .str _ :: ys => fitCs ks xs ys
  | _, _, _ => False

/-- What '==' of two structs of the type says; 'eqT': the kinds of its cells. -/
def eqT (P : Program) (t : TypeId) : Option (List BK) :=
  match P.eqGuardType P.depth t, P.underlying t, kindsT P 100 t with
  | false, some (.struct _), some (k :: ks) => some (k :: ks)
  | _, _, _ => none

/-- Is the slice nil? -/
def nilTest : CV → Option Bool
  | .nil => some true
  | .empty _ => some false
  | .list _ (_ :: _) => some false
  | _ => none
def isSliceT (P : Program) (t : TypeId) : Bool :=
  match P.underlying t with
  | some (.slice _) => true
  | _ => false
def anil (P : Program) (op : BinOp) (t : TypeId) (p q : Prop) (b : Option Bool) : Prop × AV :=
  match op, b with
  | .eql, some b => (p ∧ q ∧ isSliceT P t = true, .x (.one (.bool b)))
  | .neq, some b => (p ∧ q ∧ isSliceT P t = true, .x (.one (.bool (!b))))
  | _, _ => (False, .dead)

def abinX (P : Program) (op : BinOp) (t : TypeId) (x y : Prop × AV) : Prop × AV :=
  match x, y with
  | (p, .x (.one (.bool a))), (q, .x (.one (.bool b))) =>
    match op with
    | .eql => (p ∧ q ∧ P.underlying t = some .bool, .x (.one (.bool (a == b))))
    | .neq => (p ∧ q ∧ P.underlying t = some .bool, .x (.one (.bool (a != b))))
    | _ => (False, .dead)
  | (p, .x (.one a)), (q, .x (.one .nil)) => anil P op t p q (nilTest a)
  | (p, .x (.one a)), (q, .x (.one b)) => (p ∧ q ∧ (abin op a b).1, .x (.one (abin op a b).2))
  | (p, .x (.agg xs)), (q, .x (.agg ys)) =>
    match eqT P t with
    | some ks => match op with
      | .eql => (p ∧ q ∧ fitCs ks xs ys, .x (.one (.bool (eqCs xs ys))))
      | .neq => (p ∧ q ∧ fitCs ks xs ys, .x (.one (.bool (!eqCs xs ys))))
      | _ => (False, .dead)
    | none => (False, .dead)
  | _, _ => (False, .dead)

def pickX (e : Bool) : XV → XV → XV
  | .one (.bool a), .one (.bool b) => .one (.bool (bif e then a else b))
  | x, y => bif e then x else y

def apick (c a b : Prop × AV) : Prop × AV :=
  match c, a, b with
  | (pc, .x (.one (.bool e))), (pa, .x xa), (pb, .x xb) => (pc ∧ (e = true → pa) ∧ (e = false → pb), .x (pickX e xa xb))
  | _, _, _ => (False, .dead)

/-- A value of type t, off the cells from here on. -/
def acut (k : TK) (p : Prop) (cs : List CV) : Prop × AV :=
  match k with
  | .agg n => (p ∧ n ≤ cs.length, .x (.agg (cs.take n)))
  | .one => match cs with
    | c :: _ => (p, .x (.one c))
    | [] => (False, .dead)
  | .bad => (False, .dead)

/-- The same; where there is none: the type's zero, under a condition that is false. -/
def acutZ (k : TK) (z : Option XV) (p : Prop) (cs : List CV) : Prop × AV :=
  match k, cs with
  | .one, [] => match z with
    | some x => (False, .x x)
    | none => (False, .dead)
  | k, cs => acut k p cs

def aload (k : TK) (z : Option XV) (p : Prop) (m : Option (List CV)) : Prop × AV :=
  match m with
  | some cs => acutZ k z p cs
  | none => (False, .dead)

def isPtr : AV → Bool
  | .ptr _ _ => true
  | .eptr _ _ _ => true
  | .elem _ => true
  | _ => false

def afieldAddr (P : Program) (t : TypeId) (f : Nat) (x : Prop × AV) : Prop × AV :=
  match fieldAt P t f, x with
  | some (o, _), (p, .ptr i off) => (p, .ptr i (off + o))
  | some (o, _), (p, .eptr i k off) => (p, .eptr i k (off + o))
  | some (o, _), (p, .elem cs) => (p, .elem (cs.drop o))
  | _, _ => (False, .dead)

def afield (P : Program) (t : TypeId) (f : Nat) (x : Prop × AV) : Prop × AV :=
  match fieldAt P t f, x with
  | some (o, k), (p, .x (.agg cs)) => acut k p (cs.drop o)
  | _, _ => (False, .dead)

/-- The elements of a slice: nothing where the elements are of another size. -/
def elemsOf (s : St) (size : Nat) : AV → Option (List (List CV))
  | .x (.one .nil) => some []
  | .x (.one (.list z xs)) => if z = size then some xs else none
  | .alias i => match s i with
    | .own _ z xs => if z = size then some xs else none
    | _ => none
  | _ => none

def aindexAddr (P : Program) (s : St) (t : TypeId) (x i : Prop × AV) : Prop × AV :=
  match sliceT P t, x, i with
  | some (_, size), (p, .x (.one (.list z xs))), (q, .x (.one (.int _ n))) => (p ∧ q ∧ z = size ∧ 0 ≤ n ∧ n < xs.length, .elem (xs.getD n.toNat []))
  | some (_, size), (p, .alias j), (q, .x (.one (.int _ n))) => match s j with
    | .own _ z xs => (p ∧ q ∧ z = size ∧ 0 ≤ n ∧ n < xs.length, .eptr j n.toNat 0)
    | _ => (False, .dead)
  | some (_, size), (p, .view j lo len _), (q, .x (.one (.int _ n))) => (p ∧ q ∧ (s j).size = size ∧ 0 ≤ n ∧ n < len, .eptr j (lo + n.toNat) 0)
  | _, _, _ => (False, .dead)

def aindex (P : Program) (t : TypeId) (x i : Prop × AV) : Prop × AV :=
  match x, i with
  | (p, .x (.one (.str l))), (q, .x (.one (.int _ n))) => (p ∧ q ∧ isStringT P t = true ∧ 0 ≤ n ∧ n < l.length, .x (.one (.int .u8 (l.getD n.toNat 0).toNat)))
  | _, _ => (False, .dead)

def aextract (x : Prop × AV) (i : Nat) : Prop × AV :=
  match x with
  | (p, .tup vs) => match vs[i]? with
    | some v => (p, .x v)
    | none => (False, .dead)
  | _ => (False, .dead)

def alen (P : Program) (s : St) (t : TypeId) (x : Prop × AV) : Prop × AV :=
  match x with
  | (p, .x (.one (.str l))) => (p ∧ isStringT P t = true, .x (.one (.int .i64 l.length)))
  | (p, .x (.one .nil)) => (p ∧ (sliceT P t).isSome = true, .x (.one (.int .i64 0)))
  | (p, .x (.one (.empty _))) => (p ∧ (sliceT P t).isSome = true, .x (.one (.int .i64 0)))
  | (p, .x (.one (.list _ xs))) => (p ∧ (sliceT P t).isSome = true, .x (.one (.int .i64 xs.length)))
  | (p, .alias i) => match s i with
    | .own _ _ xs => (p ∧ (sliceT P t).isSome = true, .x (.one (.int .i64 xs.length)))
    | .mp _ _ es => (p ∧ (mapT P t).isSome = true, .x (.one (.int .i64 es.length)))
    | _ => (False, .dead)
  | (p, .view _ _ len _) => (p ∧ (sliceT P t).isSome = true, .x (.one (.int .i64 len)))
  | _ => (False, .dead)

/-- cap, where it is known. -/
def acap (P : Program) (t : TypeId) (x : Prop × AV) : Prop × AV :=
  match x with
  | (p, .x (.one .nil)) => (p ∧ (sliceT P t).isSome = true, .x (.one (.int .i64 0)))
  | _ => (False, .dead)

/-- What a look-up yields: nothing found: the element's zero. -/
def lookV (es : List (XV × XV)) (z : XV) (ok : Bool) : Option Nat → AV
  | some j => if ok then .tup [((es[j]?).getD (z, z)).2, .one (.bool true)] else .x ((es[j]?).getD (z, z)).2
  | none => if ok then .tup [z, .one (.bool false)] else .x z
def alookup (P : Program) (s : St) (t : TypeId) (x k : Prop × AV) (ok : Bool) : Prop × AV :=
  match mapT P t, x, k with
  | some (kk, e), (p, .alias i), (q, .x kx) => match s i with
    | .mp _ _ es => match findK kk kx es 0, zeroX P e with
      | some r, some z => (p ∧ q ∧ keyOk kk kx = true, lookV es z ok r)
      | _, _ => (False, .dead)
    | _ => (False, .dead)
  | _, _, _ => (False, .dead)

def amax (x y : Prop × AV) : Prop × AV :=
  match x, y with
  | (p, .x (.one (.int k a))), (q, .x (.one (.int _ b))) => (p ∧ q, .x (.one (.int k (max a b))))
  | _, _ => (False, .dead)

def amin (x y : Prop × AV) : Prop × AV :=
  match x, y with
  | (p, .x (.one (.int k a))), (q, .x (.one (.int _ b))) => (p ∧ q, .x (.one (.int k (min a b))))
  | _, _ => (False, .dead)

/-- A bound of a slice expression: what it is where none is given. -/
def abound (s : St) (o : Option Operand) (other : Int) : Prop × Option Int :=
  match o with
  | none => (True, some other)
  | some x => match sv s x with
    | (p, .x (.one (.int _ n))) => (p, some n)
    | _ => (False, none)

def cutAt {α : Type} (l : List α) (lo hi : Int) : List α := (l.take hi.toNat).drop lo.toNat

def aslice (P : Program) (s : St) (t : TypeId) (x : Prop × AV) (lo hi mx : Option Operand) : Prop × AV :=
  match x with
  | (p, .x (.one (.str l))) => match mx, abound s lo 0, abound s hi l.length with
    | none, (q, some a), (r, some b) => (p ∧ q ∧ r ∧ isStringT P t = true ∧ 0 ≤ a ∧ a ≤ b ∧ b ≤ l.length, .x (.one (.str (cutAt l a b))))
    | _, _, _ => (False, .dead)
  | (p, .x (.one (.list z xs))) => match sliceT P t, abound s lo 0, abound s hi xs.length, abound s mx xs.length with
    | some (_, size), (q, some a), (r, some b), (u, some c) => (p ∧ q ∧ r ∧ u ∧ z = size ∧ 0 ≤ a ∧ a ≤ b ∧ b ≤ c ∧ c ≤ xs.length ∧ (hi = none → mx = none), .x (.one (.list z (cutAt xs a b))))
    | _, _, _, _ => (False, .dead)
  | (p, .x (.one .nil)) => match sliceT P t, abound s lo 0, abound s hi 0, mx with
    | some _, (q, some a), (r, some b), none => (p ∧ q ∧ r ∧ a = 0 ∧ b = 0, .x (.one .nil))
    | _, _, _, _ => (False, .dead)
  | (p, .alias i) => match s i with
    | .own _ z xs => match sliceT P t, abound s lo 0, abound s hi xs.length, abound s mx xs.length with
      | some (_, size), (q, some a), (r, some b), (u, some c) => (p ∧ q ∧ r ∧ u ∧ z = size ∧ 0 ≤ a ∧ a ≤ b ∧ b ≤ c ∧ c ≤ xs.length ∧ (hi = none → mx = none), .view i a.toNat (b.toNat - a.toNat) (lo.isNone && mx.isNone))
      | _, _, _, _ => (False, .dead)
    | _ => (False, .dead)
  | (p, .view i lo0 len wh) => match sliceT P t, abound s lo 0, abound s hi len, abound s mx len with
    | some (_, size), (q, some a), (r, some b), (u, some c) => (p ∧ q ∧ r ∧ u ∧ (s i).size = size ∧ 0 ≤ a ∧ a ≤ b ∧ b ≤ c ∧ c ≤ len ∧ (hi = none → mx = none), .view i (lo0 + a.toNat) (b.toNat - a.toNat) (wh && (lo.isNone && mx.isNone)))
    | _, _, _, _ => (False, .dead)
  | _ => (False, .dead)

def aunop (op : UnOp) (x : Prop × AV) : Prop × AV :=
  match op, x with
  | .not, (p, .x (.one (.bool b))) => (p, .x (.one (.bool (!b))))
  | .neg, (p, .x (.one (.int k n))) => (p, .x (.one (.int k (k.wrap (0 - n)))))
  | _, _ => (False, .dead)

/-- An int's kind. -/
def intT (P : Program) (t : TypeId) : Option IntKind :=
  match P.underlying t with
  | some (.int k) => some k
  | _ => none

def u8s : List (List CV) → Option (List UInt8)
  | [] => some []
  | [.int .u8 n] :: r => (u8s r).map (UInt8.ofNat n.toNat :: ·)
  | _ => none

def aconvert (P : Program) (src dst : TypeId) (x : Prop × AV) : Prop × AV :=
  match x with
  | (p, .x (.one (.int _ n))) => match intT P dst with
    | some k => (p ∧ (P.underlying src).isSome = true, .x (.one (.int k (k.wrap n))))
    | none => (False, .dead)
  | (p, .x (.one (.str l))) => (p ∧ isStringT P src = true ∧ isStringT P dst = true, .x (.one (.str l)))
  | _ => (False, .dead)

def abuiltin (P : Program) (s : St) (c : Callee) (args : List Operand) (ts : List TypeId) : Prop × AV :=
  match c with
  | .builtin .len => match args, ts with
    | [x], [t] => alen P s t (sv s x)
    | _, _ => (False, .dead)
  | .builtin .cap => match args, ts with
    | [x], [t] => acap P t (sv s x)
    | _, _ => (False, .dead)
  | .builtin .max => match args with
    | [x, y] => amax (sv s x) (sv s y)
    | _ => (False, .dead)
  | .builtin .min => match args with
    | [x, y] => amin (sv s x) (sv s y)
    | _ => (False, .dead)
  | _ => (False, .dead)

/-- Cells, one by one. -/
def cellsR : List (Prop × AV) → Prop × Option (List CV)
  | [] => (True, some [])
  | (p, .x (.one c)) :: r => match cellsR r with
    | (q, some cs) => (p ∧ q, some (c :: cs))
    | _ => (False, none)
  | _ => (False, none)
/-- What a function value holds, where some is shared. -/
def capsR : List (Prop × AV) → Prop × Option (List (CV ⊕ (Nat × Nat)))
  | [] => (True, some [])
  | (p, .x (.one c)) :: r => match capsR r with
    | (q, some cs) => (p ∧ q, some (.inl c :: cs))
    | _ => (False, none)
  | (p, .ptr i off) :: r => match capsR r with
    | (q, some cs) => (p ∧ q, some (.inr (i, off) :: cs))
    | _ => (False, none)
  | _ => (False, none)

def amakeFunc (s : St) (fn : Fn) (first captured : List Operand) : Prop × AV :=
  match fn, first with
  | .func f, [] => match cellsR (captured.map (sv s)) with
    | (p, some cs) => (p, .x (.one (.clo f cs)))
    | _ => match capsR (captured.map (sv s)) with
      | (p, some cs) => (p, .cloR f cs)
      | _ => (False, .dead)
  | _, _ => (False, .dead)

/-- What an operation that makes no memory yields. -/
def aval (P : Program) (s : St) : Op → Prop × AV
  | .move x => sv s x
  | .assign x => (True, look s x)
  | .pick c a b => apick (sv s c) (sv s a) (sv s b)
  | .load t x => aload (tk P t) (zeroX P t) (sv s x).1 (mem s (sv s x).2)
  | .nilCheck x => match isPtr (sv s x).2 with
    | true => sv s x
    | false => (False, .dead)
  | .binOp op t x y _ => abinX P op t (sv s x) (sv s y)
  | .unOp op _ x => aunop op (sv s x)
  | .convert src dst x => aconvert P src dst (sv s x)
  | .slice t x lo hi mx => aslice P s t (sv s x) lo hi mx
  | .fieldAddr t x f => afieldAddr P t f (sv s x)
  | .field t x f => afield P t f (sv s x)
  | .indexAddr t x i => aindexAddr P s t (sv s x) (sv s i)
  | .index t x i => aindex P t (sv s x) (sv s i)
  | .extract x i => aextract (sv s x) i
  | .makeFunc fn first captured => amakeFunc s fn first.toList captured.toList
  | .lookup t x k ok => alookup P s t (sv s x) (sv s k) ok
  | .call c => abuiltin P s c.callee c.args.toList c.argTypes.toList
  | _ => (False, .dead)

end Go.Ab
