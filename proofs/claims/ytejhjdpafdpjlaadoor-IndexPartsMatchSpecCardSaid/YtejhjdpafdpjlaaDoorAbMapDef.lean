/-
  Maps of the call's own: keys, places, what is stored.
-/
import Derived.Test.YtejhjdpafdpjlaaDoorAbOps
import Derived.MapKept
namespace Go.Ab
open Go Go.RowKit

inductive KK where
  | s
  | i (k : IntKind)
  | b

/-- A map's keys and what its elements are. -/
def mapT (P : Program) (t : TypeId) : Option (KK × TypeId) :=
  match P.underlying t with
  | some (.map k e) => match P.underlying k with
    | some .string => some (.s, e)
    | some (.int k) => some (.i k, e)
    | some .bool => some (.b, e)
    | _ => none
  | _ => none

def KK.fits : KK → TypeDesc → Prop
  | .s, d => d = .string
  | .i k, d => d = .int k
  | .b, d => d = .bool

def keyEq : KK → XV → XV → Option Bool
  | .s, .one (.str a), .one (.str b) => some (a == b)
  | .i _, .one (.int k a), .one (.int k' b) => if k = k' then some (a == b) else none
  | .b, .one (.bool a), .one (.bool b) => some (a == b)
  | _, _, _ => none

def keyOk : KK → XV → Bool
  | .s, .one (.str _) => true
  | .i q, .one (.int k _) => decide (k = q)
  | .b, .one (.bool _) => true
  | _, _ => false

/-- Where a key stands. -/
def findK (kk : KK) (k : XV) : List (XV × XV) → Nat → Option (Option Nat)
  | [], _ => some none
  | e :: r, i => match keyEq kk k e.1 with
    | some true => some (some i)
    | some false => findK kk k r (i + 1)
    | none => none

/-- What is stored. -/
def mput (c : Nat) (bs : List Nat) (es : List (XV × XV)) (k v : XV) : Option Nat → Nat × List Nat × List (XV × XV)
  | some i => (c, bs, es.set i (k, v))
  | none => (c + 1, bs ++ [c], es ++ [(k, v)])

/-- A type's zero. -/
def zeroX (P : Program) (t : TypeId) : Option XV :=
  match P.info? t with
  | some i => match i.zero with
    | some (.agg us) => if us.toList.all smallCell then some (.agg (us.toList.map ofCell)) else none
    | some v => if smallCell v then some (.one (ofCell v)) else none
    | none => none
  | none => none
end Go.Ab
