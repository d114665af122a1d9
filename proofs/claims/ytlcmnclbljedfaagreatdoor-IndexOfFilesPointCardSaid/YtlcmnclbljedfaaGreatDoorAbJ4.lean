/- A part of the proof: lemmas and contracts of functions. -/
import Derived.Test.YtlcmnclbljedfaaGreatDoorAbJ3b
set_option linter.all false
namespace Go.Ab
open Go Go.RowKit
variable [Amb]
def st0:St:=fun _=>.dead
@[simp] theorem st0_at (i:Nat):st0 i=.dead:=rfl
def upd (s:St) (d:Nat) (v:AV):St:=fun i=>if i=d then v else s i
@[simp] theorem upd_at (s:St) (d:Nat) (v:AV) (i:Nat):upd s d v i=if i=d then v else s i:=rfl
def kill (s:St) (d:Nat):St:=fun i=>if (s i).refs d then .dead else s i
@[simp] theorem kill_at (s:St) (d i:Nat):kill s d i=if (s i).refs d then .dead else s i:=rfl
@[simp] theorem initSt_nil (k:Nat):initSt [] k=st0:=rfl
@[simp] theorem initSt_cons (x:XV) (r:List XV) (k:Nat):initSt (x::r) k=upd (initSt r (k+1)) k (.x x):=rfl
def putK (o r:Bool) (s:St) (d:Nat) (v:AV):St:=
 match o,r with
 | false,false=>upd s d v
 | false,true=>upd s d .dead
 | true,false=>upd (kill s d) d v
 | true,true=>upd (kill s d) d .dead
@[simp] theorem putK_ff (s:St) (d:Nat) (v:AV):putK false false s d v=upd s d v:=rfl
@[simp] theorem putK_tf (s:St) (d:Nat) (v:AV):putK true false s d v=upd (kill s d) d v:=rfl
@[simp] theorem put_eq (s:St) (d:Nat) (v:AV):put s d v=putK (s d).isOwner (v.refs d) s d v:=by
 unfold put
 cases (s d).isOwner<;>cases v.refs d<;>funext i<;>simp [putK,upd,kill]
@[simp] theorem isOwner_dead:AV.isOwner .dead=false:=rfl
@[simp] theorem isOwner_x (v:XV):AV.isOwner (.x v)=false:=rfl
@[simp] theorem isOwner_tup (v:List XV):AV.isOwner (.tup v)=false:=rfl
@[simp] theorem isOwner_box (v:List CV):AV.isOwner (.box v)=true:=rfl
@[simp] theorem isOwner_ptr (s o:Nat):AV.isOwner (.ptr s o)=false:=rfl
@[simp] theorem isOwner_ptr2 (s o:Nat):AV.isOwner (.ptr2 s o)=false:=rfl
@[simp] theorem isOwner_gbox (b:Nat) (v:List CV):AV.isOwner (.gbox b v)=true:=rfl
@[simp] theorem isOwner_gown (g:Value) (e z:Nat) (v:List (List CV)):AV.isOwner (.gown g e z v)=true:=rfl
@[simp] theorem tight_own (e z:Nat) (v:List (List CV)):AV.tight (.own e z v)=true:=rfl
@[simp] theorem isOwner_eptr (s k o:Nat):AV.isOwner (.eptr s k o)=false:=rfl
@[simp] theorem isOwner_elem (v:List CV):AV.isOwner (.elem v)=false:=rfl
@[simp] theorem isOwner_own (e z:Nat) (v:List (List CV)):AV.isOwner (.own e z v)=true:=rfl
@[simp] theorem isOwner_mp (c:Nat) (bs:List Nat) (es:List (XV×XV)):AV.isOwner (.mp c bs es)=true:=rfl
@[simp] theorem isOwner_alias (s:Nat):AV.isOwner (.alias s)=false:=rfl
@[simp] theorem isOwner_view (s lo len:Nat) (wh:Bool):AV.isOwner (.view s lo len wh)=false:=rfl
@[simp] theorem isOwner_cloR (f:FuncId) (caps:List (CV ⊕ (Nat×Nat))):AV.isOwner (.cloR f caps)=false:=rfl
@[simp] theorem isOwner_cond (e:Bool) (v:AV):AV.isOwner (.cond e v)=false:=rfl
@[simp] theorem isOwner_link (i o d:Nat):AV.isOwner (.link i o d)=false:=rfl
@[simp] theorem isOwner_res (l:List (Nat×Nat)):AV.isOwner (.res l)=false:=rfl
@[simp] theorem refs_link (d i o t:Nat):AV.refs d (.link i o t)=(i==d || t==d):=rfl
@[simp] theorem refs_res (d:Nat) (l:List (Nat×Nat)):AV.refs d (.res l)=false:=rfl
@[simp] theorem free_dead:AV.free .dead=true:=rfl
@[simp] theorem isAny_bool (b:Bool):CV.isAny (.bool b)=false:=rfl
@[simp] theorem isAny_int (k:IntKind) (n:Int):CV.isAny (.int k n)=false:=rfl
@[simp] theorem isAny_str (l:List UInt8):CV.isAny (.str l)=false:=rfl
@[simp] theorem isAny_nil:CV.isAny .nil=false:=rfl
@[simp] theorem isAny_list (n:Nat) (l:List (List CV)):CV.isAny (.list n l)=false:=rfl
@[simp] theorem isAny_any:CV.isAny .any=true:=rfl
def anyL:List CV→Bool
 | []=>false
 | c::r=>c.isAny || anyL r
@[simp] theorem anyL_nil:anyL []=false:=rfl
@[simp] theorem anyL_cons (c:CV) (r:List CV):anyL (c::r)=(c.isAny || anyL r):=rfl
theorem anyL_eq:∀l:List CV,l.any CV.isAny=anyL l
 | []=>rfl
 | c::r=>by simp only [List.any_cons,anyL_eq r,anyL]
@[simp] theorem told_box (cs:List CV):AV.told (.box cs)=!anyL cs:=by simp only [AV.told,anyL_eq]
@[simp] theorem told_x (v:XV):AV.told (.x v)=true:=rfl
@[simp] theorem told_own (e z:Nat) (xs:List (List CV)):AV.told (.own e z xs)=true:=rfl
@[simp] theorem told_mp (c:Nat) (bs:List Nat) (es:List (XV×XV)):AV.told (.mp c bs es)=true:=rfl
@[simp] theorem told_dead:AV.told .dead=true:=rfl
@[simp] theorem told_cloR (f:FuncId) (caps:List (CV ⊕ (Nat×Nat))):AV.told (.cloR f caps)=true:=rfl
@[simp] theorem told_ptr2 (i o:Nat):AV.told (.ptr2 i o)=true:=rfl
@[simp] theorem told_gbox (b:Nat) (v:List CV):AV.told (.gbox b v)=!anyL v:=by simp only [AV.told,anyL_eq]
@[simp] theorem told_gown (g:Value) (e z:Nat) (v:List (List CV)):AV.told (.gown g e z v)=true:=rfl
@[simp] theorem noLinks_nil:noLinks []=true:=rfl
@[simp] theorem noLinks_cons (x:AV) (q:Option Nat) (r:List (AV×Option Nat)):noLinks ((x,q)::r)=(x.told&&noLinks r):=rfl
@[simp] theorem anyIn_eq (cs:List CV) (off m:Nat):anyIn cs off m=anyL ((cs.drop off).take m):=anyL_eq _
@[simp] theorem ptrTold_ptr (s:St) (i o:Nat):ptrTold s (.ptr i o)=(s i).told:=rfl
@[simp] theorem LK_eq (i off:Nat):LK i off=1000000+1000*i+off:=rfl
def selD:Bool→AV→AV
 | true,_=>.dead
 | false,a=>a
@[congr] theorem selD_congr {b b':Bool} {a:AV} (h:b=b'):selD b a=selD b' a:=by rw [h]
@[simp] theorem selD_false (a:AV):selD false a=a:=rfl
def unlA (i off m:Nat) (a:AV):AV:=selD (a.linkIn i off m) a
@[simp] theorem unlink_at (s:St) (i off m j:Nat):unlink s i off m j=unlA i off m (s j):=by
 unfold unlink unlA selD
 cases (s j).linkIn i off m<;>rfl
@[simp] theorem unlA_dead (i off m:Nat):unlA i off m .dead=.dead:=rfl
@[simp] theorem unlA_x (i off m:Nat) (v:XV):unlA i off m (.x v)=.x v:=rfl
@[simp] theorem unlA_tup (i off m:Nat) (v:List XV):unlA i off m (.tup v)=.tup v:=rfl
@[simp] theorem unlA_box (i off m:Nat) (v:List CV):unlA i off m (.box v)=.box v:=rfl
@[simp] theorem unlA_ptr (i off m s o:Nat):unlA i off m (.ptr s o)=.ptr s o:=rfl
@[simp] theorem unlA_ptr2 (i off m s o:Nat):unlA i off m (.ptr2 s o)=.ptr2 s o:=rfl
@[simp] theorem unlA_gbox (i off m b:Nat) (v:List CV):unlA i off m (.gbox b v)=.gbox b v:=rfl
@[simp] theorem unlA_gown (i off m:Nat) (g:Value) (e z:Nat) (v:List (List CV)):unlA i off m (.gown g e z v)=.gown g e z v:=rfl
@[simp] theorem unlA_eptr (i off m s k o:Nat):unlA i off m (.eptr s k o)=.eptr s k o:=rfl
@[simp] theorem unlA_elem (i off m:Nat) (v:List CV):unlA i off m (.elem v)=.elem v:=rfl
@[simp] theorem unlA_own (i off m e z:Nat) (v:List (List CV)):unlA i off m (.own e z v)=.own e z v:=rfl
@[simp] theorem unlA_mp (i off m c:Nat) (bs:List Nat) (es:List (XV×XV)):unlA i off m (.mp c bs es)=.mp c bs es:=rfl
@[simp] theorem unlA_alias (i off m s:Nat):unlA i off m (.alias s)=.alias s:=rfl
@[simp] theorem unlA_view (i off m s lo len:Nat) (wh:Bool):unlA i off m (.view s lo len wh)=.view s lo len wh:=rfl
@[simp] theorem unlA_cloR (i off m:Nat) (f:FuncId) (caps:List (CV ⊕ (Nat×Nat))):unlA i off m (.cloR f caps)=.cloR f caps:=rfl
@[simp] theorem unlA_res (i off m:Nat) (l:List (Nat×Nat)):unlA i off m (.res l)=.res l:=rfl
@[simp] theorem unlA_link (i off m s o d:Nat):unlA i off m (.link s o d)=selD (s==i&&decide (off≤o)&&decide (o<off+m)) (.link s o d):=rfl
@[simp] theorem unlA_condx (i off m:Nat) (e:Bool) (v:XV):unlA i off m (.cond e (.x v))=.cond e (.x v):=rfl
@[simp] theorem unlA_conda (i off m:Nat) (e:Bool) (v:Nat):unlA i off m (.cond e (.alias v))=.cond e (.alias v):=rfl
@[simp] theorem unlA_condp (i off m:Nat) (e:Bool) (v o:Nat):unlA i off m (.cond e (.ptr v o))=.cond e (.ptr v o):=rfl
@[simp] theorem unlA_condp2 (i off m:Nat) (e:Bool) (v o:Nat):unlA i off m (.cond e (.ptr2 v o))=.cond e (.ptr2 v o):=rfl
@[simp] theorem unlA_condcl (i off m:Nat) (e:Bool) (f:FuncId) (caps:List (CV ⊕ (Nat×Nat))):unlA i off m (.cond e (.cloR f caps))=.cond e (.cloR f caps):=rfl
@[simp] theorem unlA_conde (i off m:Nat) (e:Bool) (v k o:Nat):unlA i off m (.cond e (.eptr v k o))=.cond e (.eptr v k o):=rfl
@[simp] theorem unlA_condl (i off m:Nat) (e:Bool) (v:List CV):unlA i off m (.cond e (.elem v))=.cond e (.elem v):=rfl
@[simp] theorem unlA_condt (i off m:Nat) (e:Bool) (v:List XV):unlA i off m (.cond e (.tup v))=.cond e (.tup v):=rfl
@[simp] theorem unlA_condv (i off m:Nat) (e:Bool) (s lo len:Nat) (wh:Bool):unlA i off m (.cond e (.view s lo len wh))=.cond e (.view s lo len wh):=rfl
@[simp] theorem refs_dead (d:Nat):AV.refs d .dead=false:=rfl
@[simp] theorem refs_x (d:Nat) (v:XV):AV.refs d (.x v)=false:=rfl
@[simp] theorem refs_tup (d:Nat) (v:List XV):AV.refs d (.tup v)=false:=rfl
@[simp] theorem refs_box (d:Nat) (v:List CV):AV.refs d (.box v)=false:=rfl
@[simp] theorem refs_ptr (d s o:Nat):AV.refs d (.ptr s o)=(s==d):=rfl
@[simp] theorem refs_ptr2 (d s o:Nat):AV.refs d (.ptr2 s o)=(s==d):=rfl
@[simp] theorem refs_gbox (d b:Nat) (v:List CV):AV.refs d (.gbox b v)=false:=rfl
@[simp] theorem refs_gown (d:Nat) (g:Value) (e z:Nat) (v:List (List CV)):AV.refs d (.gown g e z v)=false:=rfl
@[simp] theorem refs_eptr (d s k o:Nat):AV.refs d (.eptr s k o)=(s==d):=rfl
@[simp] theorem refs_elem (d:Nat) (v:List CV):AV.refs d (.elem v)=false:=rfl
@[simp] theorem refs_mp (d c:Nat) (bs:List Nat) (es:List (XV×XV)):AV.refs d (.mp c bs es)=false:=rfl
@[simp] theorem refs_own (d e z:Nat) (v:List (List CV)):AV.refs d (.own e z v)=false:=rfl
@[simp] theorem refs_alias (d s:Nat):AV.refs d (.alias s)=(s==d):=rfl
@[simp] theorem refs_view (d s lo len:Nat) (wh:Bool):AV.refs d (.view s lo len wh)=(s==d):=rfl
@[simp] theorem refs_cloR (d:Nat) (f:FuncId) (caps:List (CV ⊕ (Nat×Nat))):AV.refs d (.cloR f caps)=caps.any (capRef d):=rfl
@[simp] theorem capRef_inl (d:Nat) (c:CV):capRef d (.inl c)=false:=rfl
@[simp] theorem capRef_inr (d:Nat) (p:Nat×Nat):capRef d (.inr p)=(p.1==d):=rfl
@[simp] theorem refs_cond (d:Nat) (e:Bool) (v:AV):AV.refs d (.cond e v)=v.refs d:=rfl
def lookK (t:Nat):AV→AV
 | .box _=>.ptr t 0
 | .own _ _ _=>.alias t
 | .mp _ _ _=>.alias t
 | .gbox _ _=>.dead
 | .gown _ _ _ _=>.dead
 | a=>a
@[simp] theorem look_tmp_eq (s:St) (t:Nat):look s (.tmp t)=lookK t (s t):=by
 simp only [look,lookK]
 cases s t<;>rfl
@[simp] theorem lookK_x (t:Nat) (v:XV):lookK t (.x v)=.x v:=rfl
@[simp] theorem lookK_tup (t:Nat) (v:List XV):lookK t (.tup v)=.tup v:=rfl
@[simp] theorem lookK_box (t:Nat) (v:List CV):lookK t (.box v)=.ptr t 0:=rfl
@[simp] theorem lookK_ptr (t s o:Nat):lookK t (.ptr s o)=.ptr s o:=rfl
@[simp] theorem lookK_ptr2 (t s o:Nat):lookK t (.ptr2 s o)=.ptr2 s o:=rfl
@[simp] theorem lookK_eptr (t s k o:Nat):lookK t (.eptr s k o)=.eptr s k o:=rfl
@[simp] theorem lookK_elem (t:Nat) (v:List CV):lookK t (.elem v)=.elem v:=rfl
@[simp] theorem lookK_mp (t c:Nat) (bs:List Nat) (es:List (XV×XV)):lookK t (.mp c bs es)=.alias t:=rfl
@[simp] theorem lookK_own (t e z:Nat) (v:List (List CV)):lookK t (.own e z v)=.alias t:=rfl
@[simp] theorem lookK_alias (t s:Nat):lookK t (.alias s)=.alias s:=rfl
@[simp] theorem lookK_cloR (t:Nat) (f:FuncId) (caps:List (CV ⊕ (Nat×Nat))):lookK t (.cloR f caps)=.cloR f caps:=rfl
@[simp] theorem lookK_cond (t:Nat) (e:Bool) (v:AV):lookK t (.cond e v)=.cond e v:=rfl
@[simp] theorem look_int (s:St) (k:IntKind) (m:Int):look s (.const (.int k m))=.x (.one (.int k m)):=rfl
@[simp] theorem look_bool (s:St) (b:Bool):look s (.const (.bool b))=.x (.one (.bool b)):=rfl
@[simp] theorem look_nilFunc (s:St):look s (.const .nilFunc)=.x (.one (.atom .nilFunc)):=rfl
@[simp] theorem look_nil (s:St):look s (.const (.slice none 0 0))=.x (.one .nil):=rfl
@[simp] theorem look_func (s:St) (f:Nat):look s (.func f)=.x (.one (.atom (.func (.func f) #[] #[]))):=rfl
def strK (l:List UInt8):AV:=if l.length≤maxLen then .x (.one (.str l)) else .dead
@[simp] theorem look_str (s:St) (l:List UInt8):look s (.const (.string ⟨⟨l⟩⟩))=strK l:=by
 simp [look,constAV,smallCell,ofCell,strK]
@[simp] theorem strK_eq (l:List UInt8):strK l=if l.length≤maxLen then .x (.one (.str l)) else .dead:=rfl
@[simp] theorem strip_agg (cs:List CV):strip (.x (.agg cs))=(True,.x (.agg cs)):=rfl
@[simp] theorem strip_bool (b:Bool):strip (.x (.one (.bool b)))=(True,.x (.one (.bool b))):=rfl
@[simp] theorem strip_int (k:IntKind) (m:Int):strip (.x (.one (.int k m)))=(True,.x (.one (.int k m))):=rfl
@[simp] theorem strip_str (l:List UInt8):strip (.x (.one (.str l)))=(True,.x (.one (.str l))):=rfl
@[simp] theorem strip_nil:strip (.x (.one .nil))=(True,.x (.one .nil)):=rfl
@[simp] theorem strip_empty (z:Nat):strip (.x (.one (.empty z)))=(True,.x (.one (.empty z))):=rfl
@[simp] theorem strip_list (z:Nat) (xs:List (List CV)):strip (.x (.one (.list z xs)))=(True,.x (.one (.list z xs))):=rfl
@[simp] theorem strip_atom (v:Value):strip (.x (.one (.atom v)))=(True,.x (.one (.atom v))):=rfl
@[simp] theorem strip_clo (f:FuncId) (caps:List CV):strip (.x (.one (.clo f caps)))=(True,.x (.one (.clo f caps))):=rfl
@[simp] theorem strip_ref (cs:List CV):strip (.x (.one (.ref cs)))=(True,.elem cs):=rfl
@[simp] theorem strip_tup (v:List XV):strip (.tup v)=(True,(.tup v)):=rfl
@[simp] theorem strip_ptr (i o:Nat):strip (.ptr i o)=(True,(.ptr i o)):=rfl
@[simp] theorem strip_ptr2 (i o:Nat):strip (.ptr2 i o)=(True,(.ptr2 i o)):=rfl
@[simp] theorem strip_eptr (i k o:Nat):strip (.eptr i k o)=(True,(.eptr i k o)):=rfl
@[simp] theorem strip_elem (v:List CV):strip (.elem v)=(True,(.elem v)):=rfl
@[simp] theorem strip_alias (i:Nat):strip (.alias i)=(True,(.alias i)):=rfl
@[simp] theorem strip_cloR (f:FuncId) (caps:List (CV ⊕ (Nat×Nat))):strip (.cloR f caps)=(True,.cloR f caps):=rfl
@[simp] theorem strip_cond (e:Bool) (a:AV):strip (.cond e a)=(e=true,a):=rfl
@[simp] theorem sv_eq (s:St) (x:Operand):sv s x=strip (look s x):=rfl
def andP (r:Prop×AV) (k:AV→Prop):Prop:=r.1∧k r.2
@[congr] theorem andP_congr {r r':Prop×AV} {k:AV→Prop} (h:r=r'):andP r k=andP r' k:=by rw [h]
@[simp] theorem andP_mk (p:Prop) (v:AV) (k:AV→Prop):andP (p,v) k=(p∧k v):=rfl
@[congr] theorem awp_congr [Hint] {P:Program} {n:Nat} {c:Code} {Q:Exit→St→Prop} {s s':St} (h:s=s'):awp P n c Q s=awp P n c Q s':=by rw [h]
@[congr] theorem aops_congr {P:Program} {n:Nat} {ops:Array Oper} {l:List Oper} {K:St→Prop} {s s':St} (h:s=s'):aops P n ops l s K=aops P n ops l s' K:=by rw [h]
@[congr] theorem aopsD_congr {P:Program} {n:Nat} {m:Bool} {ops:Array Oper} {l:List Oper} {K:St→Prop} {s s':St} (h:s=s'):aopsD P n m ops l s K=aopsD P n m ops l s' K:=by rw [h]
@[congr] theorem aopC_congr {P:Program} {n:Nat} {o:Oper} {K:St→Prop} {s s':St} (h:s=s'):aopC P n o s K=aopC P n o s' K:=by rw [h]
@[congr] theorem storeSide_congr {op:Op} {s s':St} (h:s=s'):storeSide s op=storeSide s' op:=by rw [h]
@[congr] theorem lightAt_congr {op:Op} {s s':St} (h:s=s'):lightAt s op=lightAt s' op:=by rw [h]
@[congr] theorem aop_congr {P:Program} {n:Nat} {ops:Array Oper} {o:Oper} {K:St→Prop} {s s':St} (h:s=s'):aop P n ops o s K=aop P n ops o s' K:=by rw [h]
@[congr] theorem aopD_congr {P:Program} {n:Nat} {ops:Array Oper} {o:Oper} {K:St→Prop} {s s':St} (h:s=s'):aopD P n ops o s K=aopD P n ops o s' K:=by rw [h]
@[congr] theorem astep_congr {P:Program} {n:Nat} {op:Op} {d:Option Tmp} {K:St→Prop} {s s':St} (h:s=s'):astep P n s op d K=astep P n s' op d K:=by rw [h]
@[congr] theorem thenA_congr {k:St→Prop} {Q:Exit→St→Prop} {e:Exit} {s s':St} (h:s=s'):thenA k Q e s=thenA k Q e s':=by rw [h]
@[congr] theorem inBlockA_congr {i:Nat} {Q:Exit→St→Prop} {e:Exit} {s s':St} (h:s=s'):inBlockA i Q e s=inBlockA i Q e s':=by rw [h]
class Seal (α:Type) where
 val:α
def ALoopS [b:Seal ((Exit→St→Prop)→St→Prop)] [Q:Seal (Exit→St→Prop)] (s:St):Prop:=ALoop b.val Q.val s
def touch (s:St):St:=s
def hintK {α:Type} (fl:List α) (f:List α→Prop) (X:Prop):Prop:=match fl with
 | b::r=>f (b::r)
 | []=>X
@[congr] theorem hintK_congr {α:Type} {fl fl':List α} {f:List α→Prop} {X:Prop} (h:fl=fl'):hintK fl f X=hintK fl' f X:=by rw [h]
@[simp ↓] theorem hintK_nil {α:Type} (f:List α→Prop) (X:Prop):hintK [] f X=X:=rfl
@[simp ↓] theorem hintK_cons {α:Type} (b:α) (r:List α) (f:List α→Prop) (X:Prop):hintK (b::r) f X=f (b::r):=rfl
@[simp] theorem noHint_conv (i:Nat):@Hint.conv noHint i=false:=rfl
@[simp] theorem wilds_conv (l:List (Nat×List Nat)) (i:Nat):@Hint.conv (wilds l) i=false:=rfl
@[simp] theorem grows_conv (g:List Nat) (l:List (Nat×List Nat)) (i:Nat):@Hint.conv (grows g l) i=false:=rfl
@[simp] theorem convs_conv (c g:List Nat) (l:List (Nat×List Nat)) (i:Nat):@Hint.conv (convs c g l) i=c.contains i:=rfl
@[simp] theorem convs_wild (c g:List Nat) (l:List (Nat×List Nat)) (i:Nat):@Hint.wild (convs c g l) i=findH l i:=rfl
@[simp] theorem convs_grow (c g:List Nat) (l:List (Nat×List Nat)) (i:Nat):@Hint.grow (convs c g l) i=g.contains i:=rfl
@[simp] theorem noHint_hint (i:Nat):@Hint.hint noHint i=[]:=rfl
@[simp] theorem noHint_wild (i:Nat):@Hint.wild noHint i=[]:=rfl
@[simp] theorem wilds_hint (l:List (Nat×List Nat)) (i:Nat):@Hint.hint (wilds l) i=[]:=rfl
@[simp] theorem wilds_wild (l:List (Nat×List Nat)) (i:Nat):@Hint.wild (wilds l) i=findH l i:=rfl
@[simp] theorem noHint_grow (i:Nat):@Hint.grow noHint i=false:=rfl
@[simp] theorem wilds_grow (l:List (Nat×List Nat)) (i:Nat):@Hint.grow (wilds l) i=false:=rfl
@[simp] theorem grows_wild (g:List Nat) (l:List (Nat×List Nat)) (i:Nat):@Hint.wild (grows g l) i=findH l i:=rfl
@[simp] theorem grows_grow (g:List Nat) (l:List (Nat×List Nat)) (i:Nat):@Hint.grow (grows g l) i=g.contains i:=rfl
@[simp] theorem findH_nil {α:Type} (i:Nat):findH (α:=α) [] i=[]:=rfl
@[simp] theorem findH_cons {α:Type} (k:Nat) (fl:List α) (r:List (Nat×List α)) (i:Nat):findH ((k,fl)::r) i=if k=i then fl else findH r i:=rfl
def AltR [a:Seal Prop] [b:Seal Prop]:Prop:=a.val∨b.val
theorem AltR.l {a b:Prop} (h:a):@AltR ⟨a⟩ ⟨b⟩:=.inl h
theorem AltR.r {a b:Prop} (h:b):@AltR ⟨a⟩ ⟨b⟩:=.inr h
def wildK (b:Bool) (x y:Prop):Prop:=match b with
 | true=>x
 | false=>y
@[congr] theorem wildK_congr {b b':Bool} {x y:Prop} (h:b=b'):wildK b x y=wildK b' x y:=by rw [h]
@[simp ↓] theorem wildK_true (x y:Prop):wildK true x y=x:=rfl
@[simp ↓] theorem wildK_false (x y:Prop):wildK false x y=y:=rfl
def orW (b c:Bool):Bool:=match b with
 | true=>true
 | false=>c
@[congr] theorem orW_congr {b b' c:Bool} (h:b=b'):orW b c=orW b' c:=by rw [h]
@[simp ↓] theorem orW_true (c:Bool):orW true c=true:=rfl
@[simp ↓] theorem orW_false (c:Bool):orW false c=c:=rfl
def wildO (op:Op) (g:Option (Nat×Bool)):Bool:=match op with
 | .call c=>match c.callee with
  | .value (.tmp _)=>g.isNone
  | _=>false
 | .store _ _ _=>g.isNone
 | _=>false
@[simp ↓] theorem wildB_nil:wildB ⟨[]⟩=false:=rfl
@[simp ↓] theorem wildB_cons (o:Oper) (r:List Oper):wildB ⟨o::r⟩=orW (wildO o.op o.guard) (wildB ⟨r⟩):=by
 obtain ⟨dst,op,type,pos,after,guard⟩:=o
 have e:∀b c:Bool,orW b c=(b || c):=fun b c=>by cases b<;>rfl
 rw [e]
 unfold wildB wildO callB
 simp only [List.any_cons]
 congr 1
 cases op<;>try rfl
 rename_i c
 obtain ⟨f,a,ts⟩:=c
 cases f<;>rfl
section
variable (g:Option (Nat×Bool))
@[simp ↓] theorem wildO_func (v:Nat) (a:Array Operand) (ts:Array TypeId):wildO (.call ⟨.value (.func v),a,ts⟩) g=false:=rfl
@[simp ↓] theorem wildO_builtin (b:Builtin) (a:Array Operand) (ts:Array TypeId):wildO (.call ⟨.builtin b,a,ts⟩) g=false:=rfl
@[simp ↓] theorem wildO_move {x0}:wildO (.move x0) g=false:=rfl
@[simp ↓] theorem wildO_assign {x0}:wildO (.assign x0) g=false:=rfl
@[simp ↓] theorem wildO_pick {x0 x1 x2}:wildO (.pick x0 x1 x2) g=false:=rfl
@[simp ↓] theorem wildO_alloc {x0}:wildO (.alloc x0) g=false:=rfl
@[simp ↓] theorem wildO_build {x0 x1}:wildO (.build x0 x1) g=false:=rfl
@[simp ↓] theorem wildO_buildSlice {x0 x1 x2}:wildO (.buildSlice x0 x1 x2) g=false:=rfl
@[simp ↓] theorem wildO_load {x0 x1}:wildO (.load x0 x1) g=false:=rfl
@[simp ↓] theorem wildO_store {x0 x1 x2}:wildO (.store x0 x1 x2) none=true:=rfl
@[simp ↓] theorem wildO_nilCheck {x0}:wildO (.nilCheck x0) g=false:=rfl
@[simp ↓] theorem wildO_binOp {x0 x1 x2 x3 x4}:wildO (.binOp x0 x1 x2 x3 x4) g=false:=rfl
@[simp ↓] theorem wildO_convert {x0 x1 x2}:wildO (.convert x0 x1 x2) g=false:=rfl
@[simp ↓] theorem wildO_slice {x0 x1 x2 x3 x4}:wildO (.slice x0 x1 x2 x3 x4) g=false:=rfl
@[simp ↓] theorem wildO_fieldAddr {x0 x1 x2}:wildO (.fieldAddr x0 x1 x2) g=false:=rfl
@[simp ↓] theorem wildO_indexAddr {x0 x1 x2}:wildO (.indexAddr x0 x1 x2) g=false:=rfl
@[simp ↓] theorem wildO_index {x0 x1 x2}:wildO (.index x0 x1 x2) g=false:=rfl
@[simp ↓] theorem wildO_extract {x0 x1}:wildO (.extract x0 x1) g=false:=rfl
end
@[simp] theorem touch_eq (s:St):touch s=s:=rfl
section
variable (P:Program) (n:Nat) (Q:Exit→St→Prop) (s:St)
@[simp ↓] theorem awp_skip [Hint]:awp P n .skip Q s=Q .normal s:=rfl
def aopsI (P:Program) (n:Nat) (ops:Array Oper) (l:List Oper) (s:St) (K:St→Prop):Prop:=aops P n ops l.dropLast s K
def aopsWI (P:Program) (n:Nat) (fl:List Nat) (ops:Array Oper) (fr:List Nat) (l:List Oper) (s:St) (K:St→Prop):Prop:=aopsW P n fl ops fr l.dropLast s K
@[congr] theorem aopsI_congr {P:Program} {n:Nat} {ops:Array Oper} {l:List Oper} {K:St→Prop} {s s':St} (h:s=s'):aopsI P n ops l s K=aopsI P n ops l s' K:=by rw [h]
@[congr] theorem aopsWI_congr {P:Program} {n:Nat} {fl fr:List Nat} {ops:Array Oper} {l:List Oper} {K:St→Prop} {s s':St} (h:s=s'):aopsWI P n fl ops fr l s K=aopsWI P n fl ops fr l s' K:=by rw [h]
def growLL (P:Program) (n:Nat) (ops:Array Oper) (l:List Oper) (s:St) (K:St→Prop):Prop:=growL P n ops s K (lastO l)
@[congr] theorem growLL_congr {P:Program} {n:Nat} {ops:Array Oper} {K:St→Prop} {l:List Oper} {s s':St} (h:s=s'):growLL P n ops l s K=growLL P n ops l s' K:=by rw [h]
@[simp ↓] theorem aregion_region [Hint] (id:Nat) (l:List Oper):aregion P n id ⟨l⟩ false Q s=wildK (Hint.grow id) (aopsI P n ⟨l⟩ l (touch s) (fun s1=>growLL P n ⟨l⟩ l (touch s1) (Q .normal))) (aops P n ⟨l⟩ l (touch s) (Q .normal)):=by
 show (match (Hint.grow id:Bool) with | true=>_ | false=>_)=_
 unfold wildK
 cases (Hint.grow id:Bool)<;>rfl
@[simp ↓] theorem aregion_regionD [Hint] (id:Nat) (l:List Oper):aregion P n id ⟨l⟩ true Q s=wildK (Hint.grow id) (aopsWI P n (Hint.wild id) ⟨l⟩ (Hint.wild id) l (touch s) (fun s1=>growLL P n ⟨l⟩ l (touch s1) (Q .normal))) (hintK (Hint.wild id) (fun fl=>aopsW P n fl ⟨l⟩ fl l (touch s) (Q .normal)) (hintK (Hint.hint id) (fun fl=>aopsA P n fl ⟨l⟩ fl l (touch s) (Q .normal)) (wildK (wildB ⟨l⟩) (@AltR ⟨drawOk false ⟨l⟩=true∧aopsD P n false ⟨l⟩ l (touch s) (Q .normal)⟩ ⟨∃f:List Nat,drawOk true ⟨l⟩=true∧aopsD P n true ⟨l⟩ l (freezeL (touch s) f) (Q .normal)⟩) (aopsD P n false ⟨l⟩ l (touch s) (Q .normal))))):=by
 show (match (Hint.grow id:Bool) with | true=>_ | false=>(match (Hint.wild id:List Nat) with | k::fl=>_ | []=>match (Hint.hint id:List Bool) with | b::fl=>_ | []=>match wildB ⟨l⟩ with | true=>_ | false=>_))=_
 cases (Hint.grow id:Bool) with
 | true=>rfl
 | false =>
 unfold hintK wildK AltR
 dsimp only
 cases (Hint.wild id:List Nat) with
 | cons k fl=>rfl
 | nil =>
  cases (Hint.hint id:List Bool) with
  | cons b fl=>rfl
  | nil=>cases wildB ⟨l⟩<;>rfl
def AConvS (n:Nat) (s:St) [X:Seal (St→Prop)]:Prop:=AConv n s X.val
theorem AConvS.done {n:Nat} {s:St} {X:St→Prop} (h:X s):@AConvS _ n s ⟨X⟩:=fun _ _ _ _ hR=>⟨s,hR,h⟩
theorem AConvS.fold {n:Nat} {s:St} {X:St→Prop} (i off:Nat) (h:@AConvS _ n (foldS s i off) ⟨X⟩):@AConvS _ n s ⟨X⟩:=fun _ _ _ _ hR=>h _ _ _ _ (hR.foldS i off)
theorem AConvS.named {n:Nat} {s:St} {X:St→Prop} (i off j g:Nat) {e z:Nat} {cs:List CV} {xs:List (List CV)} (hi:s i=.box cs) (hl:s (LK i off)=.link i off j) (hj:s j=.own e z xs) (hn:n≤g) (hg:(s g).free=true)
  (h:∀v,@AConvS _ n (linkNmSt s i off j g v cs e z xs) ⟨X⟩):@AConvS _ n s ⟨X⟩:=fun _ _ _ _ hR=>h _ _ _ _ _ (hR.linkNm hi hl hj hn hg)
theorem AConvS.linked {n:Nat} {s:St} {X:St→Prop} (i off j g:Nat) {e z:Nat} {v:Value} {cs:List CV} {xs:List (List CV)} (hi:s i=.box cs) (hc:cs[off]?=some (.atom v)) (hj:s j=.x (.one (.atom v))) (hg:s g=.gown v e z xs) (hf:(s (LK i off)).free=true)
  (h:@AConvS _ n (nmLinkSt s i off j g e z cs xs) ⟨X⟩):@AConvS _ n s ⟨X⟩:=fun _ _ _ _ hR=>h _ _ _ _ (hR.nmLink hi hc hj hg hf)
@[congr] theorem AConvS_congr {n:Nat} {s s':St} [X:Seal (St→Prop)] (h:s=s'):AConvS n s=AConvS n s':=by rw [h]
@[simp ↓] theorem awp_region [Hint] (id:Nat) (l:List Oper) (dr:Bool):awp P n (.region id ⟨l⟩ dr) Q s=wildK (Hint.conv id) (@AConvS _ n (touch s) ⟨aregion P n id ⟨l⟩ dr Q⟩) (aregion P n id ⟨l⟩ dr Q s):=by
 show (match (Hint.conv id:Bool) with | true=>_ | false=>_)=_
 unfold wildK
 cases (Hint.conv id:Bool)<;>rfl
@[simp ↓] theorem awp_seq [Hint] (a b:Code):awp P n (.seq a b) Q s=awp P n a (thenA (awp P n b Q) Q) s:=rfl
@[simp ↓] theorem awp_block [Hint] (id:Nat) (c:Code):awp P n (.block id c) Q s=awp P n c (inBlockA id Q) s:=rfl
@[simp ↓] theorem awp_loop [Hint] (c:Code):awp P n (.loop c) Q s=@ALoopS ⟨awp P n c⟩ ⟨Q⟩ s:=rfl
@[simp ↓] theorem awp_exit [Hint] (id:Nat):awp P n (.exit id) Q s=Q (.exit id) s:=rfl
@[simp ↓] theorem awp_ret [Hint]:awp P n .ret Q s=Q .ret s:=rfl
@[simp ↓] theorem awp_cond [Hint] (c:Operand) (a b:Code):awp P n (.cond c a b) Q s=acond (sv s c) (awp P n a Q s) (awp P n b Q s):=rfl
@[simp ↓] theorem thenA_normal (k:St→Prop):thenA k Q .normal s=k s:=rfl
@[simp ↓] theorem thenA_exit (k:St→Prop) (i:Nat):thenA k Q (.exit i) s=Q (.exit i) s:=rfl
@[simp ↓] theorem thenA_ret (k:St→Prop):thenA k Q .ret s=Q .ret s:=rfl
@[simp ↓] theorem inBlockA_normal (i:Nat):inBlockA i Q .normal s=Q .normal s:=rfl
@[simp ↓] theorem inBlockA_ret (i:Nat):inBlockA i Q .ret s=Q .ret s:=rfl
@[simp ↓] theorem inBlockA_exit (i j:Nat):inBlockA i Q (.exit j) s=if j=i then Q .normal s else Q (.exit j) s:=rfl
end
@[congr] theorem acond_congr {c c':Prop×AV} {A B:Prop} (h:c=c'):acond c A B=acond c' A B:=by rw [h]
@[simp high] theorem acond_true (p A B:Prop):acond (p,.x (.one (.bool true))) A B=(p∧A):=by simp [acond]
@[simp high] theorem acond_false (p A B:Prop):acond (p,.x (.one (.bool false))) A B=(p∧B):=by simp [acond]
@[simp] theorem acond_mk (p:Prop) (b:Bool) (A B:Prop):acond (p,.x (.one (.bool b))) A B=(p∧(b=true→A)∧(b=false→B)):=rfl
def ACallK (P:Program) (g:FuncId) (xs:List XV) [k:Seal (RV→Prop)] [m:Seal Prop] [N:Seal (List XV→List XV→RV→Prop)]:Prop:=(∃r,ACalls P g xs r∧k.val r)∨(∃xs' r,ACalls P g xs' r∧N.val xs xs' r)∨m.val
theorem ACallK.of {P:Program} {g:FuncId} {xs:List XV} {k:RV→Prop} {m:Prop} {N:List XV→List XV→RV→Prop} {r:RV} (h:ACalls P g xs r) (hk:k r):@ACallK _ P g xs ⟨k⟩ ⟨m⟩ ⟨N⟩:=.inl ⟨r,h,hk⟩
theorem ACallK.lend {P:Program} {g:FuncId} {xs:List XV} {k:RV→Prop} {m:Prop} {N:List XV→List XV→RV→Prop} (h:m):@ACallK _ P g xs ⟨k⟩ ⟨m⟩ ⟨N⟩:=.inr (.inr h)
theorem ACallK.named {P:Program} {n:Nat} {s:St} {g:FuncId} {xs xs':List XV} {k kN:RV→Prop} {m:Prop} {r:RV} (h:ACalls P g xs' r) (hn:nmXs n s xs xs') (hf:r.flat=true) (hk:kN r):@ACallK _ P g xs ⟨k⟩ ⟨m⟩ ⟨fun xs xs' r=>nmXs n s xs xs'∧r.flat=true∧kN r⟩:=.inr (.inl ⟨xs',r,h,hn,hf,hk⟩)
@[congr] theorem callR_congr {P:Program} {c c':Prop×Option (FuncId×List XV)} {k:RV→Prop} {m:Prop} (h:c=c'):callR P c k m=callR P c' k m:=by rw [h]
@[simp] theorem callR_mk (P:Program) (g:FuncId) (p:Prop) (xs:List XV) (k:RV→Prop) (m:Prop):callR P (p,some (g,xs)) k m=(p∧@ACallK _ P g xs ⟨fun r=>r.flat=true∧k r⟩ ⟨m⟩ ⟨fun _ _ _=>False⟩):=by
 simp [callR,ACallK]
@[simp] theorem callR_none (P:Program) (p:Prop) (k:RV→Prop) (m:Prop):callR P (p,none) k m=m:=rfl
def linkedA (s:St):Prop×AV→Bool
 | (_,.ptr i _)=>!(s i).told
 | _=>false
@[congr] theorem linkedA_congr {s:St} {q q':Prop×AV} (h:q=q'):linkedA s q=linkedA s q':=by rw [h]
@[simp] theorem linkedA_ptr (s:St) (p:Prop) (i o:Nat):linkedA s (p,.ptr i o)=!(s i).told:=rfl
@[simp] theorem linkedA_x (s:St) (p:Prop) (v:XV):linkedA s (p,.x v)=false:=rfl
@[simp] theorem linkedA_alias (s:St) (p:Prop) (i:Nat):linkedA s (p,.alias i)=false:=rfl
@[simp] theorem linkedA_cloR (s:St) (p:Prop) (f:FuncId) (caps:List (CV ⊕ (Nat×Nat))):linkedA s (p,.cloR f caps)=false:=rfl
@[simp] theorem linkedB_eq (s:St) (x:Operand):linkedB s x=linkedA s (sv s x):=by
 unfold linkedB linkedA
 cases sv s x with
 | mk p v=>cases v<;>rfl
def anyLk (s:St):List Operand→Bool
 | []=>false
 | x::r=>linkedA s (sv s x) || anyLk s r
@[simp] theorem anyLk_nil (s:St):anyLk s []=false:=rfl
@[simp] theorem anyLk_cons (s:St) (x:Operand) (r:List Operand):anyLk s (x::r)=(linkedA s (sv s x) || anyLk s r):=rfl
theorem anyLk_any (s:St):∀l:List Operand,l.any (linkedB s)=anyLk s l
 | []=>rfl
 | x::r=>by simp only [List.any_cons,anyLk_any s r,anyLk,linkedB_eq]
def readK (s:St) (f:Operand) (args:List Operand):Bool→Prop×Option (FuncId×List XV)
 | true=>match sv s f,argRs s args with
  | (p,a),(q,some xs)=>match fnOf a with
   | some (g,caps)=>(p∧q,some (g,xs++caps))
   | none=>(False,none)
  | _,_=>(False,none)
 | false=>(False,none)
@[congr] theorem readK_congr {s:St} {f:Operand} {args:List Operand} {b b':Bool} (h:b=b'):readK s f args b=readK s f args b':=by rw [h]
@[simp] theorem readK_false (s:St) (f:Operand) (args:List Operand):readK s f args false=(False,none):=rfl
@[simp] theorem calleeR_eq (s:St) (f:Operand) (args:List Operand):calleeR s f args=readK s f args (anyLk s args):=by
 unfold calleeR readK
 rw [anyLk_any]
 rfl
@[congr] theorem callS_congr {P:Program} {c c':Prop×Option (FuncId×List XV)} {k:RV→Prop} {m:Prop} {N:List XV→List XV→RV→Prop} (h:c=c'):callS P c k m N=callS P c' k m N:=by rw [h]
@[simp] theorem callS_mk (P:Program) (g:FuncId) (p:Prop) (xs:List XV) (k:RV→Prop) (m:Prop) (N:List XV→List XV→RV→Prop):callS P (p,some (g,xs)) k m N=(p∧@ACallK _ P g xs ⟨k⟩ ⟨m⟩ ⟨N⟩):=rfl
@[simp] theorem callS_none (P:Program) (p:Prop) (k:RV→Prop) (m:Prop) (N:List XV→List XV→RV→Prop):callS P (p,none) k m N=m:=rfl
def callK (P:Program) (c:Prop×Option (FuncId×List XV)) (k:RV→Prop):Prop:=
 match c with
 | (p,some (g,xs))=>p∧@ACallK _ P g xs ⟨k⟩ ⟨False⟩ ⟨fun _ _ _=>False⟩
 | _=>False
@[congr] theorem callK_congr {P:Program} {c c':Prop×Option (FuncId×List XV)} {k:RV→Prop} (h:c=c'):callK P c k=callK P c' k:=by rw [h]
@[simp] theorem callK_mk (P:Program) (g:FuncId) (p:Prop) (xs:List XV) (k:RV→Prop):callK P (p,some (g,xs)) k=(p∧@ACallK _ P g xs ⟨k⟩ ⟨False⟩ ⟨fun _ _ _=>False⟩):=rfl
theorem callK_eq (P:Program) (s:St) (f:Operand) (args:List Operand) (k:RV→Prop):(∃r,acall P s f args r∧k r)=callK P (callee s f args) k:=by
 unfold acall callK ACallK
 apply propext
 constructor
 ·rintro ⟨r,h,hk⟩
  split at h
  ·rename_i p g xs e
   rw [e]
   exact ⟨h.1,.inl ⟨r,h.2,hk⟩⟩
  ·exact h.elim
 ·intro h
  split at h
  ·rename_i p g xs e
   obtain ⟨hp,⟨r,hc,hk⟩ | ⟨_,_,_,h⟩ | h⟩:=h
   ·exact ⟨r,by rw [e];exact ⟨hp,hc⟩,hk⟩
   ·exact h.elim
   ·exact h.elim
  ·exact h.elim
def ACallM (P:Program) (g:FuncId) (args:List AV) [k:Seal (RV→List AV→Prop)]:Prop:=∃r outs,ACallsM P g args r outs∧k.val r outs
theorem ACallM.of {P:Program} {g:FuncId} {args:List AV} {k:RV→List AV→Prop} {r:RV} {outs:List AV} (h:ACallsM P g args r outs) (hk:k r outs):@ACallM _ P g args ⟨k⟩:=⟨r,outs,h,hk⟩
@[congr] theorem callM_congr {P:Program} {s:St} {c c':Prop×Option (FuncId×List (AV×Option Nat))} {k:List (AV×Option Nat)→RV→List AV→Prop} (h:c=c'):callM P s c k=callM P s c' k:=by rw [h]
@[congr] theorem callN_congr {P:Program} {g:FuncId} {xs:List (AV×Option Nat)} {k:List (AV×Option Nat)→RV→List AV→Prop} {q q':Option (Nat×List CV)} (h:q=q'):callN P g xs k q=callN P g xs k q':=by rw [h]
def ACallMG (P:Program) (g:FuncId) (args:Nat→List AV) [k:Seal (RV→List AV→List CV→Prop)]:Prop:=∃r outs co,(∀b,ACallsM P g (args b) r (outs++[.gbox b co]))∧k.val r outs co
theorem ACallMG.of {P:Program} {g:FuncId} {args:Nat→List AV} {k:RV→List AV→List CV→Prop} {r:RV} {outs:List AV} {co:List CV} (h:∀b,ACallsM P g (args b) r (outs++[.gbox b co])) (hk:k r outs co):@ACallMG _ P g args ⟨k⟩:=⟨r,outs,co,h,hk⟩
@[simp] theorem callN_none (P:Program) (g:FuncId) (xs:List (AV×Option Nat)) (k:List (AV×Option Nat)→RV→List AV→Prop):callN P g xs k none=@ACallM _ P g (trAs xs xs) ⟨fun r outs=>k xs r outs⟩:=rfl
@[simp] theorem callN_some (P:Program) (g:FuncId) (xs:List (AV×Option Nat)) (k:List (AV×Option Nat)→RV→List AV→Prop) (i:Nat) (cs:List CV):callN P g xs k (some (i,cs))=((AV.box cs).told=true∧(slotsOf (xs++[(.box cs,some i)])).Nodup∧@ACallMG _ P g (fun b=>trAs (xs++[(.box cs,some i)]) xs++[.gbox b cs]) ⟨fun r outs co=>k (xs++[(.box cs,some i)]) r (outs++[.box co])⟩):=rfl
def ghostB (i:Nat):AV→Option (Nat×List CV)
 | .box cs=>some (i,cs)
 | _=>none
@[simp] theorem ghostB_box (i:Nat) (cs:List CV):ghostB i (.box cs)=some (i,cs):=rfl
def ghostK (s:St):List Nat→Option (Nat×List CV)
 | []=>none
 | i::_=>ghostB i (s i)
@[simp] theorem ghostK_nil (s:St):ghostK s []=none:=rfl
@[simp] theorem ghostK_cons (s:St) (i:Nat) (l:List Nat):ghostK s (i::l)=ghostB i (s i):=rfl
@[simp] theorem ghost_eq (s:St) (xs:List (AV×Option Nat)):ghost s xs=ghostK s (needsIn (slotsOf xs) xs):=rfl
@[simp] theorem needsIn_nil (l:List Nat):needsIn l []=[]:=rfl
@[simp] theorem needsIn_cons (l:List Nat) (x:AV) (q:Option Nat) (r:List (AV×Option Nat)):needsIn l ((x,q)::r)=addN l x.toSlots (needsIn l r):=rfl
@[simp] theorem addN_nil (l r:List Nat):addN l [] r=r:=rfl
@[simp] theorem addN_cons (l t r:List Nat) (i:Nat):addN l (i::t) r=bif l.contains i then addN l t r else i::addN l t r:=rfl
@[simp] theorem toSlots_x (v:XV):AV.toSlots (.x v)=[]:=rfl
@[simp] theorem toSlots_box (cs:List CV):AV.toSlots (.box cs)=[]:=rfl
@[simp] theorem toSlots_own (e z:Nat) (xs:List (List CV)):AV.toSlots (.own e z xs)=[]:=rfl
@[simp] theorem toSlots_ptr2 (i off:Nat):AV.toSlots (.ptr2 i off)=[i]:=rfl
def capsS:List (CV ⊕ (Nat×Nat))→List Nat
 | []=>[]
 | .inl _::r=>capsS r
 | .inr p::r=>p.1::capsS r
@[simp] theorem capsS_nil:capsS []=[]:=rfl
@[simp] theorem capsS_inr (i off:Nat) (r:List (CV ⊕ (Nat×Nat))):capsS (.inr (i,off)::r)=i::capsS r:=rfl
@[simp] theorem toSlots_cloR (f:FuncId) (caps:List (CV ⊕ (Nat×Nat))):AV.toSlots (.cloR f caps)=capsS caps:=by
 simp only [AV.toSlots]
 induction caps with
 | nil=>rfl
 | cons c r ih=>cases c<;>simp only [List.filterMap_cons,capSlot,capsS,ih]
@[simp] theorem posOf_nil (i j:Nat):posOf i [] j=none:=rfl
@[simp] theorem posOf_some (i j k:Nat) (x:AV) (l:List (AV×Option Nat)):posOf i ((x,some k)::l) j=bif k==i then some j else posOf i l (j+1):=rfl
@[simp] theorem posOf_none (i j:Nat) (x:AV) (l:List (AV×Option Nat)):posOf i ((x,none)::l) j=posOf i l (j+1):=rfl
def trK (a:Option Nat) (off:Nat) (b:Option (List (CV ⊕ (Nat×Nat)))):Option (List (CV ⊕ (Nat×Nat))):=match a,b with
 | some j,some cs=>some (.inr (j,off)::cs)
 | _,_=>none
@[simp] theorem trK_some (j off:Nat) (cs:List (CV ⊕ (Nat×Nat))):trK (some j) off (some cs)=some (.inr (j,off)::cs):=rfl
@[simp] theorem trC_nil (L:List (AV×Option Nat)):trC L []=some []:=rfl
@[simp] theorem trC_inr (L:List (AV×Option Nat)) (i off:Nat) (r:List (CV ⊕ (Nat×Nat))):trC L (.inr (i,off)::r)=trK (posOf i L 0) off (trC L r):=rfl
def trF (f:FuncId):Option (List (CV ⊕ (Nat×Nat)))→AV
 | some cs=>.cloR f cs
 | none=>.dead
@[simp] theorem trF_some (f:FuncId) (cs:List (CV ⊕ (Nat×Nat))):trF f (some cs)=.cloR f cs:=rfl
def trP (off:Nat):Option Nat→AV
 | some j=>.ptr2 j off
 | none=>.dead
@[simp] theorem trP_some (j off:Nat):trP off (some j)=.ptr2 j off:=rfl
@[simp] theorem trA_x (L:List (AV×Option Nat)) (v:XV):trA L (.x v)=.x v:=rfl
@[simp] theorem trA_box (L:List (AV×Option Nat)) (cs:List CV):trA L (.box cs)=.box cs:=rfl
@[simp] theorem trA_own (L:List (AV×Option Nat)) (e z:Nat) (xs:List (List CV)):trA L (.own e z xs)=.own e z xs:=rfl
@[simp] theorem trA_cloR (L:List (AV×Option Nat)) (f:FuncId) (caps:List (CV ⊕ (Nat×Nat))):trA L (.cloR f caps)=trF f (trC L caps):=rfl
@[simp] theorem trA_ptr2 (L:List (AV×Option Nat)) (i off:Nat):trA L (.ptr2 i off)=trP off (posOf i L 0):=rfl
@[simp] theorem trAs_nil (L:List (AV×Option Nat)):trAs L []=[]:=rfl
@[simp] theorem trAs_cons (L:List (AV×Option Nat)) (y:AV×Option Nat) (r:List (AV×Option Nat)):trAs L (y::r)=trA L y.1::trAs L r:=rfl
@[simp] theorem callM_mk (P:Program) (s:St) (g:FuncId) (p:Prop) (xs:List (AV×Option Nat)) (k:List (AV×Option Nat)→RV→List AV→Prop):callM P s (p,some (g,xs)) k=(p∧noLinks xs=true∧(slotsOf xs).Nodup∧callN P g xs k (ghost s xs)):=rfl
@[simp] theorem slotsOf_nil:slotsOf []=[]:=rfl
@[simp] theorem slotsOf_some (x:AV) (i:Nat) (l:List (AV×Option Nat)):slotsOf ((x,some i)::l)=i::slotsOf l:=rfl
@[simp] theorem slotsOf_none (x:AV) (l:List (AV×Option Nat)):slotsOf ((x,none)::l)=slotsOf l:=rfl
@[simp] theorem setOuts_nil (s:St) (outs:List AV):setOuts s [] outs=s:=by cases outs<;>rfl
@[simp] theorem setOuts_some (s:St) (x o:AV) (i:Nat) (l:List (AV×Option Nat)) (outs:List AV):setOuts s ((x,some i)::l) (o::outs)=setOuts (setOut s i o) l outs:=rfl
@[simp] theorem setOuts_none (s:St) (x o:AV) (l:List (AV×Option Nat)) (outs:List AV):setOuts s ((x,none)::l) (o::outs)=setOuts s l outs:=rfl
@[simp] theorem setOut_box (s:St) (i:Nat) (cs:List CV):setOut s i (.box cs)=upd s i (.box cs):=rfl
theorem setOut_kill (s:St) (i:Nat) (o:AV):(fun j=>if j=i then o else if (s j).refs i then .dead else s j)=upd (kill s i) i o:=by
 funext j;simp only [upd_at,kill_at]
@[simp] theorem setOut_own (s:St) (i e z:Nat) (xs:List (List CV)):setOut s i (.own e z xs)=upd (kill s i) i (.own e z xs):=setOut_kill s i _
@[simp] theorem setOut_dead (s:St) (i:Nat):setOut s i .dead=upd (kill s i) i .dead:=setOut_kill s i _
def aMO (p:Prop) (i:Nat):AV→Prop×Option (AV×Option Nat)
 | .own e z xs=>(p,some (.own e z xs,some i))
 | .mp c bs es=>(p,some (.mp c bs es,some i))
 | _=>(False,none)
@[simp] theorem aMO_own (p:Prop) (i e z:Nat) (xs:List (List CV)):aMO p i (.own e z xs)=(p,some (.own e z xs,some i)):=rfl
def aMB (p:Prop) (i:Nat):AV→Prop×Option (AV×Option Nat)
 | .box cs=>(p,some (.box cs,some i))
 | _=>(False,none)
@[simp] theorem aMB_box (p:Prop) (i:Nat) (cs:List CV):aMB p i (.box cs)=(p,some (.box cs,some i)):=rfl
def argMK (s:St):Prop×AV→Prop×Option (AV×Option Nat)
 | (p,.x xv)=>(p,some (.x xv,none))
 | (p,.alias i)=>aMO p i (s i)
 | (p,.ptr i 0)=>aMB p i (s i)
 | (p,.cloR f caps)=>(p,some (.cloR f caps,none))
 | (p,.ptr2 i off)=>(p,some (.ptr2 i off,none))
 | _=>(False,none)
@[congr] theorem argMK_congr {s:St} {q q':Prop×AV} (h:q=q'):argMK s q=argMK s q':=by rw [h]
@[simp] theorem argMK_x (s:St) (p:Prop) (v:XV):argMK s (p,.x v)=(p,some (.x v,none)):=rfl
@[simp] theorem argMK_alias (s:St) (p:Prop) (i:Nat):argMK s (p,.alias i)=aMO p i (s i):=rfl
@[simp] theorem argMK_ptr (s:St) (p:Prop) (i:Nat):argMK s (p,.ptr i 0)=aMB p i (s i):=rfl
@[simp] theorem argMK_cloR (s:St) (p:Prop) (f:FuncId) (caps:List (CV ⊕ (Nat×Nat))):argMK s (p,.cloR f caps)=(p,some (.cloR f caps,none)):=rfl
@[simp] theorem argM_eq (s:St) (x:Operand):argM s x=argMK s (sv s x):=by
 unfold argM argMK aMO aMB
 rfl
def consM (a:Prop×Option (AV×Option Nat)) (b:Prop×Option (List (AV×Option Nat))):Prop×Option (List (AV×Option Nat)):=match a,b with
 | (p,some v),(q,some vs)=>(p∧q,some (v::vs))
 | _,_=>(False,none)
@[simp] theorem consM_some (p q:Prop) (v:AV×Option Nat) (vs:List (AV×Option Nat)):consM (p,some v) (q,some vs)=(p∧q,some (v::vs)):=rfl
@[simp] theorem argMs_nil (s:St):argMs s []=(True,some []):=rfl
@[simp] theorem argMs_cons (s:St) (x:Operand) (r:List Operand):argMs s (x::r)=consM (argM s x) (argMs s r):=rfl
def capB (i:Nat):AV→Option (AV×Option Nat)
 | .box cs=>some (.box cs,some i)
 | _=>none
@[simp] theorem capB_box (i:Nat) (cs:List CV):capB i (.box cs)=some (.box cs,some i):=rfl
@[simp] theorem capM_inr (s:St) (i:Nat):capM s (.inr (i,0))=capB i (s i):=rfl
@[simp] theorem capM_ind (s:St) (i off:Nat) (h:1000000≤off):capM s (.inr (i,off))=some (.ptr2 i (off-1000000),none):=by
 unfold capM
 cases off with
 | zero=>omega
 | succ k=>simp [h]
def consO (a:Option (AV×Option Nat)) (b:Option (List (AV×Option Nat))):Option (List (AV×Option Nat)):=match a,b with
 | some v,some vs=>some (v::vs)
 | _,_=>none
@[simp] theorem consO_some (v:AV×Option Nat) (vs:List (AV×Option Nat)):consO (some v) (some vs)=some (v::vs):=rfl
@[simp] theorem capMs_nil (s:St):capMs s []=some []:=rfl
@[simp] theorem capMs_cons (s:St) (c:CV ⊕ (Nat×Nat)) (r:List (CV ⊕ (Nat×Nat))):capMs s (c::r)=consO (capM s c) (capMs s r):=rfl
@[simp] theorem fnM_cloR (s:St) (f:FuncId) (caps:List (CV ⊕ (Nat×Nat))):fnM s (.cloR f caps)=(capMs s caps).map fun xs=>(f,xs):=rfl
@[simp] theorem fnM_func (s:St) (f:FuncId):fnM s (.x (.one (.atom (.func (.func f) #[] #[]))))=some (f,[]):=rfl
def calleeMK (f:Prop×Option (FuncId×List (AV×Option Nat))) (xs:Prop×Option (List (AV×Option Nat))):Prop×Option (FuncId×List (AV×Option Nat)):=
 match f,xs with
 | (p,some (g,caps)),(q,some xs)=>(p∧q,some (g,xs++caps))
 | _,_=>(False,none)
@[simp] theorem calleeMK_mk (p q:Prop) (g:FuncId) (caps xs:List (AV×Option Nat)):calleeMK (p,some (g,caps)) (q,some xs)=(p∧q,some (g,xs++caps)):=rfl
def fnMP (s:St):Prop×AV→Prop×Option (FuncId×List (AV×Option Nat))
 | (p,a)=>(p,fnM s a)
@[simp] theorem fnMP_mk (s:St) (p:Prop) (a:AV):fnMP s (p,a)=(p,fnM s a):=rfl
@[simp] theorem calleeM_eq (s:St) (f:Operand) (args:List Operand):calleeM s f args=calleeMK (fnMP s (sv s f)) (argMs s args):=by
 unfold calleeM calleeMK fnMP
 generalize sv s f=a
 generalize argMs s args=b
 obtain ⟨p,a⟩:=a
 obtain ⟨q,b⟩:=b
 cases b with
 | none=>dsimp only;cases fnM s a<;>rfl
 | some xs=>dsimp only;cases fnM s a<;>rfl
def fnK:Prop×AV→Prop×Option (FuncId×List XV)
 | (p,a)=>(p,fnOf a)
@[simp] theorem fnK_mk (p:Prop) (a:AV):fnK (p,a)=(p,fnOf a):=rfl
def calleeK (f:Prop×Option (FuncId×List XV)) (xs:Prop×Option (List XV)):Prop×Option (FuncId×List XV):=
 match f,xs with
 | (p,some (g,caps)),(q,some xs)=>(p∧q,some (g,xs++caps))
 | _,_=>(False,none)
@[simp] theorem calleeK_none (f:Prop×Option (FuncId×List XV)) (q:Prop):calleeK f (q,none)=(False,none):=by
 obtain ⟨p,f⟩:=f
 cases f<;>rfl
@[simp] theorem calleeK_no (p:Prop) (xs:Prop×Option (List XV)):calleeK (p,none) xs=(False,none):=rfl
@[simp] theorem fnOf_cloR (f:FuncId) (caps:List (CV ⊕ (Nat×Nat))):fnOf (.cloR f caps)=none:=rfl
@[simp] theorem calleeK_mk (p q:Prop) (g:FuncId) (caps xs:List XV):calleeK (p,some (g,caps)) (q,some xs)=(p∧q,some (g,xs++caps)):=rfl
@[simp] theorem callee_eq (s:St) (f:Operand) (args:List Operand):callee s f args=calleeK (fnK (sv s f)) (argXs s args):=by
 unfold callee calleeK fnK
 generalize sv s f=a
 generalize argXs s args=b
 obtain ⟨p,a⟩:=a
 obtain ⟨q,b⟩:=b
 cases b with
 | none=>dsimp only;cases fnOf a<;>rfl
 | some xs=>dsimp only;cases fnOf a<;>rfl
def ACallGS (P:Program) (e:Bool) (g:FuncId) (xs:List XV) [k:Seal (RV→Prop)]:Prop:=ACallG P e g xs k.val
theorem ACallGS.of {P:Program} {e:Bool} {g:FuncId} {xs:List XV} {k:RV→Prop} {r:RV} (h:e=true→ACalls P g xs r) (hf:r.flat=true) (hk:k r):@ACallGS _ P e g xs ⟨k⟩:=⟨r,h,hf,hk⟩
@[simp] theorem readK_true (s:St) (f:Operand) (args:List Operand):readK s f args true=calleeK (fnK (sv s f)) (argRs s args):=by
 unfold readK calleeK fnK
 generalize argRs s args=xs
 cases hf:sv s f with
 | mk p v =>
  obtain ⟨q,xs⟩:=xs
  cases xs<;>cases hv:fnOf v<;>simp_all
@[congr] theorem callG_congr {P:Program} {e e':Bool} {c c':Prop×Option (FuncId×List XV)} {k:RV→Prop} (he:e=e') (h:c=c'):callG P e c k=callG P e' c' k:=by rw [he,h]
def callGL (P:Program) (e:Bool) (c:Prop×Option (FuncId×List XV)) (k:RV→Prop) (m:Prop):Prop:=match c with
 | (p,some x)=>callG P e (p,some x) k
 | (_,none)=>m
@[congr] theorem callGL_congr {P:Program} {e e':Bool} {c c':Prop×Option (FuncId×List XV)} {k:RV→Prop} {m:Prop} (he:e=e') (h:c=c'):callGL P e c k m=callGL P e' c' k m:=by rw [he,h]
@[simp] theorem callGL_mk (P:Program) (e:Bool) (g:FuncId) (p:Prop) (xs:List XV) (k:RV→Prop) (m:Prop):callGL P e (p,some (g,xs)) k m=((e=true→p)∧@ACallGS _ P e g xs ⟨k⟩):=rfl
@[simp] theorem callGL_none (P:Program) (e:Bool) (p:Prop) (k:RV→Prop) (m:Prop):callGL P e (p,none) k m=m:=rfl
end Go.Ab
namespace Go.Ab
open Go Go.RowKit
variable [Amb]
def plainOp:Op→Bool
 | .move _=>true
 | .pick _ _ _=>true
 | .load _ _=>true
 | .nilCheck _=>true
 | .binOp _ _ _ _ _=>true
 | .unOp _ _ _=>true
 | .fieldAddr _ _ _=>true
 | .field _ _ _=>true
 | .indexAddr _ _ _=>true
 | .index _ _ _=>true
 | .extract _ _=>true
 | .lookup _ _ _ _=>true
 | .makeFunc _ _ _=>true
 | .slice _ _ _ _ _=>true
 | _=>false
def optK {α:Type} (o:Option α) (k:α→Prop):Prop:=match o with
 | some x=>k x
 | none=>False
@[congr] theorem optK_congr {α:Type} {o o':Option α} {k:α→Prop} (h:o=o'):optK o k=optK o' k:=by rw [h]
@[simp] theorem optK_some {α:Type} (x:α) (k:α→Prop):optK (some x) k=k x:=rfl
def boxK (r:Prop×AV) (k:List CV→Prop):Prop:=match r with
 | (p,.x xv)=>p∧k xv.cells
 | _=>False
@[congr] theorem boxK_congr {r r':Prop×AV} {k:List CV→Prop} (h:r=r'):boxK r k=boxK r' k:=by rw [h]
@[simp] theorem boxK_one (p:Prop) (c:CV) (k:List CV→Prop):boxK (p,.x (.one c)) k=(p∧k [c]):=rfl
@[simp] theorem boxK_agg (p:Prop) (c:List CV) (k:List CV→Prop):boxK (p,.x (.agg c)) k=(p∧k c):=rfl
def boxP (r:Prop×AV) (k:Nat→Nat→Prop) (X:Prop):Prop:=match r with
 | (p,.ptr i off)=>p∧k i off
 | _=>X
@[congr] theorem boxP_congr {r r':Prop×AV} {k:Nat→Nat→Prop} {X:Prop} (h:r=r'):boxP r k X=boxP r' k X:=by rw [h]
@[simp] theorem boxP_ptr (p:Prop) (i off:Nat) (k:Nat→Nat→Prop) (X:Prop):boxP (p,.ptr i off) k X=(p∧k i off):=rfl
@[simp] theorem boxP_x (p:Prop) (v:XV) (k:Nat→Nat→Prop) (X:Prop):boxP (p,.x v) k X=X:=rfl
@[simp] theorem boxP_alias (p:Prop) (i:Nat) (k:Nat→Nat→Prop) (X:Prop):boxP (p,.alias i) k X=X:=rfl
def andS (r:Prop×St) (k:St→Prop):Prop:=r.1∧k r.2
@[congr] theorem andS_congr {r r':Prop×St} {k:St→Prop} (h:r=r'):andS r k=andS r' k:=by rw [h]
@[simp] theorem andS_mk (p:Prop) (s:St) (k:St→Prop):andS (p,s) k=(p∧k (touch s)):=rfl
def andA (r:Prop×St×AV) (k:St→AV→Prop):Prop:=r.1∧k r.2.1 r.2.2
@[congr] theorem andA_congr {r r':Prop×St×AV} {k:St→AV→Prop} (h:r=r'):andA r k=andA r' k:=by rw [h]
@[simp] theorem andA_mk (p:Prop) (s:St) (v:AV) (k:St→AV→Prop):andA (p,s,v) k=(p∧k s v):=rfl
def boolK (b:Bool) (x y:Prop):Prop:=match b with
 | true=>x
 | false=>y
@[congr] theorem boolK_congr {b b':Bool} {x y:Prop} (h:b=b'):boolK b x y=boolK b' x y:=by rw [h]
@[simp ↓] theorem boolK_true (x y:Prop):boolK true x y=x:=rfl
@[simp ↓] theorem boolK_false (x y:Prop):boolK false x y=y:=rfl
def assignK (v:AV) (k1 k2:AV→Prop) (k3:Nat→Nat→Nat→Bool→Prop):Prop:=match v with
 | .own e z xs=>k1 (.own e z xs)
 | .mp c bs es=>k1 (.mp c bs es)
 | .view i lo len wh=>k3 i lo len wh
 | v=>k2 v
@[congr] theorem assignK_congr {v v':AV} {k1 k2:AV→Prop} {k3:Nat→Nat→Nat→Bool→Prop} (h:v=v'):assignK v k1 k2 k3=assignK v' k1 k2 k3:=by rw [h]
section
variable (k1 k2:AV→Prop) (k3:Nat→Nat→Nat→Bool→Prop)
@[simp] theorem assignK_own (e z:Nat) (xs:List (List CV)):assignK (.own e z xs) k1 k2 k3=k1 (.own e z xs):=rfl
@[simp] theorem assignK_mp (c:Nat) (bs:List Nat) (es:List (XV×XV)):assignK (.mp c bs es) k1 k2 k3=k1 (.mp c bs es):=rfl
@[simp] theorem assignK_x (v:XV):assignK (.x v) k1 k2 k3=k2 (.x v):=rfl
@[simp] theorem assignK_box (v:List CV):assignK (.box v) k1 k2 k3=k2 (.box v):=rfl
@[simp] theorem assignK_alias (s:Nat):assignK (.alias s) k1 k2 k3=k2 (.alias s):=rfl
@[simp] theorem assignK_cloR (f:FuncId) (caps:List (CV ⊕ (Nat×Nat))):assignK (.cloR f caps) k1 k2 k3=k2 (.cloR f caps):=rfl
end
def selfO (s:St) (d lo len:Nat) (wh:Bool) (K:St→Prop):AV→Prop
 | .own e size xs=>boolK wh (K (put (put s d .dead) d (.own e size (xs.take len)))) (K (put (freeze s d) d (.x (.one (.list size ((xs.drop lo).take len))))))
 | _=>False
@[congr] theorem selfO_congr {s:St} {d lo len:Nat} {wh:Bool} {K:St→Prop} {v v':AV} (h:v=v'):selfO s d lo len wh K v=selfO s d lo len wh K v':=by rw [h]
@[simp ↓] theorem aselfView_eq (s:St) (d lo len:Nat) (wh:Bool) (K:St→Prop):aselfView s d lo len wh K=selfO s d lo len wh K (s d):=by
 unfold aselfView selfO boolK
 cases s d<;>first | rfl | (cases wh<;>rfl)
section
variable (P:Program) (n:Nat) (ops:Array Oper) (s:St) (K:St→Prop) (d:Nat) (ty:TypeId) (pos:String) (after:Array Edge) (r:List Oper)
@[simp ↓] theorem aops_nil:aops P n ops [] s K=K s:=rfl
theorem aops_plain (op:Op) (h:plainOp op=true):aops P n ops (⟨some d,op,ty,pos,after,none⟩::r) s K=andP (aval2 P s op) (fun v=>d<n∧aops P n ops r (put s d v) K):=by
 cases op<;>first | rfl | (simp [plainOp] at h)
@[simp] theorem aops_move (x:Operand):aops P n ops (⟨some d,.move x,ty,pos,after,none⟩::r) s K=andP (aval2 P s (.move x)) (fun v=>d<n∧aops P n ops r (put s d v) K):=aops_plain P n ops s K d ty pos after r _ (by rfl)
@[simp] theorem aops_pick (c x y:Operand):aops P n ops (⟨some d,.pick c x y,ty,pos,after,none⟩::r) s K=andP (aval2 P s (.pick c x y)) (fun v=>d<n∧aops P n ops r (put s d v) K):=aops_plain P n ops s K d ty pos after r _ (by rfl)
@[simp] theorem aops_load (t:TypeId) (x:Operand):aops P n ops (⟨some d,.load t x,ty,pos,after,none⟩::r) s K=andP (aval2 P s (.load t x)) (fun v=>d<n∧aops P n ops r (put s d v) K):=aops_plain P n ops s K d ty pos after r _ (by rfl)
@[simp] theorem aops_nilCheck (x:Operand):aops P n ops (⟨some d,.nilCheck x,ty,pos,after,none⟩::r) s K=andP (aval2 P s (.nilCheck x)) (fun v=>d<n∧aops P n ops r (put s d v) K):=aops_plain P n ops s K d ty pos after r _ (by rfl)
@[simp] theorem aops_binOp (o:BinOp) (t t':TypeId) (x y:Operand):aops P n ops (⟨some d,.binOp o t x y t',ty,pos,after,none⟩::r) s K=andP (aval2 P s (.binOp o t x y t')) (fun v=>d<n∧aops P n ops r (put s d v) K):=aops_plain P n ops s K d ty pos after r _ (by rfl)
@[simp] theorem aops_unOp (o:UnOp) (t:TypeId) (x:Operand):aops P n ops (⟨some d,.unOp o t x,ty,pos,after,none⟩::r) s K=andP (aval2 P s (.unOp o t x)) (fun v=>d<n∧aops P n ops r (put s d v) K):=aops_plain P n ops s K d ty pos after r _ (by rfl)
@[simp] theorem aops_convert (t t':TypeId) (x:Operand):aops P n ops (⟨some d,.convert t t' x,ty,pos,after,none⟩::r) s K=wildK (isSliceT P t') (andP (abytes P t t' (sv s x)) (fun v=>d<n∧aops P n ops r (put s d v) K)) (andP (aconvert P s t t' (sv s x)) (fun v=>d<n∧aops P n ops r (put s d v) K)):=by
 show (match isSliceT P t' with | true=>_ | false=>_)=_
 unfold wildK
 cases isSliceT P t'<;>rfl
@[simp] theorem aops_fieldAddr (t:TypeId) (x:Operand) (f:Nat):aops P n ops (⟨some d,.fieldAddr t x f,ty,pos,after,none⟩::r) s K=andP (aval2 P s (.fieldAddr t x f)) (fun v=>d<n∧aops P n ops r (put s d v) K):=aops_plain P n ops s K d ty pos after r _ (by rfl)
@[simp] theorem aops_indexAddr (t:TypeId) (x i:Operand):aops P n ops (⟨some d,.indexAddr t x i,ty,pos,after,none⟩::r) s K=andP (aval2 P s (.indexAddr t x i)) (fun v=>d<n∧aops P n ops r (put s d v) K):=aops_plain P n ops s K d ty pos after r _ (by rfl)
@[simp] theorem aops_index (t:TypeId) (x i:Operand):aops P n ops (⟨some d,.index t x i,ty,pos,after,none⟩::r) s K=andP (aval2 P s (.index t x i)) (fun v=>d<n∧aops P n ops r (put s d v) K):=aops_plain P n ops s K d ty pos after r _ (by rfl)
@[simp] theorem aops_extract (x:Operand) (f:Nat):aops P n ops (⟨some d,.extract x f,ty,pos,after,none⟩::r) s K=andP (aval2 P s (.extract x f)) (fun v=>d<n∧aops P n ops r (put s d v) K):=aops_plain P n ops s K d ty pos after r _ (by rfl)
@[simp] theorem aops_makeFunc (fn:Fn) (fst cap:Array Operand):aops P n ops (⟨some d,.makeFunc fn fst cap,ty,pos,after,none⟩::r) s K=andP (aval2 P s (.makeFunc fn fst cap)) (fun v=>d<n∧aops P n ops r (put s d v) K):=aops_plain P n ops s K d ty pos after r _ (by rfl)
@[simp] theorem aops_lookup (t:TypeId) (x k:Operand) (ok:Bool):aops P n ops (⟨some d,.lookup t x k ok,ty,pos,after,none⟩::r) s K=andP (aval2 P s (.lookup t x k ok)) (fun v=>d<n∧aops P n ops r (put s d v) K):=aops_plain P n ops s K d ty pos after r _ (by rfl)
@[simp] theorem aops_build (t:TypeId) (parts:Array (Nat×Operand)):aops P n ops (⟨some d,.build t parts,ty,pos,after,none⟩::r) s K=andP (abuild P (uv s) t parts.toList) (fun v=>d<n∧aops P n ops r (put (freezeL s (lends s (parts.toList.map (·.2)))) d v) K):=rfl
@[simp] theorem aops_alloc (t:TypeId):aops P n ops (⟨some d,.alloc t,ty,pos,after,none⟩::r) s K=optK (zeroOf P t) (fun cs=>d<n∧aops P n ops r (put s d (.box cs)) K):=by
 show (match zeroOf P t with | some cs=>_ | none=>False)=_
 cases zeroOf P t<;>rfl
def boxQ (s:St) (d i:Nat) (p:Prop) (k:St→Prop) (X:Prop) (b:Bool):Prop:=match b with
 | true=>p∧i≠d∧(s (LK d 0)).free=true∧k (upd (put s d (.box [.any])) (LK d 0) (.link d 0 i))
 | false=>X
@[congr] theorem boxQ_congr {s:St} {d i:Nat} {p:Prop} {k:St→Prop} {X:Prop} {b b':Bool} (h:b=b'):boxQ s d i p k X b=boxQ s d i p k X b':=by rw [h]
@[simp] theorem boxQ_true (s:St) (d i:Nat) (p:Prop) (k:St→Prop) (X:Prop):boxQ s d i p k X true=(p∧i≠d∧(s (LK d 0)).free=true∧k (upd (put s d (.box [.any])) (LK d 0) (.link d 0 i))):=rfl
def boxR (s:St) (d i:Nat) (p:Prop) (k:St→Prop) (X:Prop) (m:AV):Prop:=match m with
 | .res l=>boxQ s d i p k X (l.contains (d,0)&&(s i).tight)
 | _=>X
@[congr] theorem boxR_congr {s:St} {d i:Nat} {p:Prop} {k:St→Prop} {X:Prop} {m m':AV} (h:m=m'):boxR s d i p k X m=boxR s d i p k X m':=by rw [h]
@[simp] theorem boxR_res (s:St) (d i:Nat) (p:Prop) (k:St→Prop) (X:Prop) (l:List (Nat×Nat)):boxR s d i p k X (.res l)=boxQ s d i p k X (l.contains (d,0)&&(s i).tight):=rfl
def boxL (s:St) (d:Nat) (r:Prop×AV) (k:St→Prop) (X:Prop):Prop:=match r with
 | (p,.alias i)=>boxR s d i p k X (s MARK)
 | _=>X
@[congr] theorem boxL_congr {s:St} {d:Nat} {r r':Prop×AV} {k:St→Prop} {X:Prop} (h:r=r'):boxL s d r k X=boxL s d r' k X:=by rw [h]
@[simp] theorem boxL_alias (s:St) (d:Nat) (p:Prop) (i:Nat) (k:St→Prop) (X:Prop):boxL s d (p,.alias i) k X=boxR s d i p k X (s MARK):=rfl
@[simp] theorem boxL_x (s:St) (d:Nat) (p:Prop) (v:XV) (k:St→Prop) (X:Prop):boxL s d (p,.x v) k X=X:=rfl
theorem boxL_eq (s:St) (d:Nat) (r:Prop×AV) (k:St→Prop) (X:Prop):boxL s d r k X=(match boxLink s d r with | some (p,i)=>p∧i≠d∧(s (LK d 0)).free=true∧k (boxLinkSt s d i) | none=>X):=by
 obtain ⟨p,r⟩:=r
 cases r<;>try rfl
 rename_i i
 unfold boxL boxLink boxR
 dsimp only
 cases s MARK<;>try rfl
 rename_i l
 dsimp only
 unfold boxQ
 cases (l.contains (d,0)&&(s i).tight)<;>rfl
@[simp] theorem aops_box (t:TypeId) (x:Operand):aops P n ops (⟨some d,.box t x,ty,pos,after,none⟩::r) s K=boxP (sv s x) (fun i off=>d<n∧aops P n ops r (put s d (.ptr2 i off)) K) (boxL s d (sv s x) (fun s'=>d<n∧aops P n ops r s' K) (boxK (uv s x) (fun cs=>d<n∧aops P n ops r (put (freezeL s (lends s [x])) d (.box cs)) K))):=by
 rw [boxL_eq]
 simp only [aops,aop,astep,boxK,boxP]
 generalize sv s x=q
 obtain ⟨p,q⟩:=q
 cases q<;>first
  | rfl
  | (dsimp only
     cases hb:boxLink s d _ with
     | none=>rfl
     | some y =>
      obtain ⟨p,i⟩:=y
      apply propext
      constructor
      ·rintro ⟨h1,h2,h3,h4,h5⟩;exact ⟨h1,h3,h4,h2,h5⟩
      ·rintro ⟨h1,h3,h4,h2,h5⟩;exact ⟨h1,h2,h3,h4,h5⟩)
@[simp] theorem aops_buildSlice (t:TypeId) (len:Nat) (parts:Array (Nat×Operand)):aops P n ops (⟨some d,.buildSlice t len parts,ty,pos,after,none⟩::r) s K=andP (abuildSlice P (uv s) t len parts.toList) (fun v=>d<n∧aops P n ops r (put (freezeL s (lends s (parts.toList.map (·.2)))) d v) K):=rfl
def storeX (P:Program) (t:TypeId) (addr:Operand) (x:Prop×AV) (k:St→Prop) (s:St):Prop:=andS (astore P s t (sv s addr) x) k
@[congr] theorem storeX_congr {P:Program} {t:TypeId} {addr:Operand} {x x':Prop×AV} {k:St→Prop} {s s':St} (h:s=s') (hx:x=x'):storeX P t addr x k s=storeX P t addr x' k s':=by rw [h,hx]
@[simp] theorem storeX_eq (P:Program) (t:TypeId) (addr:Operand) (p:Prop) (v:AV) (k:St→Prop) (s:St):storeX P t addr (p,v) k s=andS (astore P s t (sv s addr) (p,v)) k:=rfl
def storeKK (P:Program) (t:TypeId) (addr x:Operand) (k:St→Prop) (s:St) (lk:Option (Prop×Nat×Nat×Nat)):Prop:=
 match lk with
 | some (p,i,off,d)=>p∧andS (linkStore P s t i off d) k
 | none=>storeX P t addr (uv s x) k (freezeL s (lends s [x]))
@[congr] theorem storeKK_congr {P:Program} {t:TypeId} {addr x:Operand} {k:St→Prop} {s:St} {l l':Option (Prop×Nat×Nat×Nat)} (h:l=l'):storeKK P t addr x k s l=storeKK P t addr x k s l':=by rw [h]
@[simp] theorem storeKK_none (P:Program) (t:TypeId) (addr x:Operand) (k:St→Prop) (s:St):storeKK P t addr x k s none=storeX P t addr (uv s x) k (freezeL s (lends s [x])):=rfl
@[simp] theorem storeKK_some (P:Program) (t:TypeId) (addr x:Operand) (k:St→Prop) (s:St) (p:Prop) (i off d:Nat):storeKK P t addr x k s (some (p,i,off,d))=(p∧andS (linkStore P s t i off d) k):=rfl
def linkQ (s:St) (addr x:Operand) (m:AV):Option (Prop×Nat×Nat×Nat):=
 match m with
 | .res _=>linkable s (sv s addr) (sv s x)
 | _=>none
@[congr] theorem linkQ_congr {s:St} {addr x:Operand} {m m':AV} (h:m=m'):linkQ s addr x m=linkQ s addr x m':=by rw [h]
@[simp] theorem linkQ_res (s:St) (addr x:Operand) (l:List (Nat×Nat)):linkQ s addr x (.res l)=linkable s (sv s addr) (sv s x):=rfl
@[simp] theorem linkQ_dead (s:St) (addr x:Operand):linkQ s addr x .dead=none:=rfl
theorem linkQ_eq (s:St) (addr x:Operand):linkable s (sv s addr) (sv s x)=linkQ s addr x (s MARK):=by
 unfold linkQ
 split
 ·rfl
 ·rename_i h
  unfold linkable
  split
  ·split
   ·split
    ·rename_i e;exact absurd e (h _)
    ·rfl
   ·rfl
  ·rfl
@[simp] theorem aops_store (t:TypeId) (addr x:Operand):aops P n ops (⟨none,.store t addr x,ty,pos,after,none⟩::r) s K=(OneOk P t=true∧storeKK P t addr x (fun s'=>aops P n ops r s' K) s (linkQ s addr x (s 999999))):=by
 rw [←linkQ_eq]
 simp only [aops,aop,astep,storeKK]
 cases linkable s (sv s addr) (sv s x) with
 | none=>rfl
 | some y =>
  obtain ⟨p,i,off,d⟩:=y
  apply propext
  rfl
def linkP (q:Prop) (d:Nat) (l:List (Nat×Nat)):Prop×AV→Option (Prop×Nat×Nat×Nat)
 | (p,.ptr i off)=>bif l.contains (i,off) then some (p∧q,i,off,d) else none
 | _=>none
def linkA (a:Prop×AV) (q:Prop) (d:Nat):AV→Option (Prop×Nat×Nat×Nat)
 | .res l=>linkP q d l a
 | _=>none
@[congr] theorem linkA_congr {a a':Prop×AV} {q:Prop} {d:Nat} {v v':AV} (h:v=v') (h2:a=a'):linkA a q d v=linkA a' q d v':=by rw [h,h2]
@[simp] theorem linkA_res (a:Prop×AV) (q:Prop) (d:Nat) (l:List (Nat×Nat)):linkA a q d (.res l)=linkP q d l a:=rfl
@[simp] theorem linkP_ptr (q:Prop) (d:Nat) (l:List (Nat×Nat)) (p:Prop) (i off:Nat):linkP q d l (p,.ptr i off)=bif l.contains (i,off) then some (p∧q,i,off,d) else none:=rfl
@[simp] theorem linkable_alias (s:St) (a:Prop×AV) (q:Prop) (d:Nat):linkable s a (q,.alias d)=linkA a q d (s MARK):=by
 unfold linkable linkA linkP
 obtain ⟨p,v⟩:=a
 cases v<;>cases s MARK<;>first | rfl | (dsimp only;split<;>rename_i h<;>rw [h]<;>rfl)
@[simp] theorem linkable_x (s:St) (a:Prop×AV) (q:Prop) (v:XV):linkable s a (q,.x v)=none:=rfl
def linkB (s:St) (i off d:Nat) (k:TK):AV→Prop×St
 | .box cs=>match k with
  | .one=>(off<cs.length∧(s d).tight=true∧(s (LK i off)).free=true,upd (upd (unlink s i off 1) (LK i off) (.link i off d)) i (.box (cs.set off .any)))
  | _=>(False,s)
 | .gbox b cs=>match k with
  | .one=>(off<cs.length∧(s d).tight=true∧(s (LK i off)).free=true,upd (upd (unlink s i off 1) (LK i off) (.link i off d)) i (.gbox b (cs.set off .any)))
  | _=>(False,s)
 | _=>(False,s)
@[congr] theorem linkB_congr {s:St} {i off d:Nat} {k k':TK} {v v':AV} (h:k=k') (h2:v=v'):linkB s i off d k v=linkB s i off d k' v':=by rw [h,h2]
@[simp] theorem linkB_box (s:St) (i off d:Nat) (cs:List CV):linkB s i off d .one (.box cs)=(off<cs.length∧(s d).tight=true∧(s (LK i off)).free=true,upd (upd (unlink s i off 1) (LK i off) (.link i off d)) i (.box (cs.set off .any))):=rfl
@[simp] theorem linkStore_eq (P:Program) (s:St) (t:TypeId) (i off d:Nat):linkStore P s t i off d=linkB s i off d (tk P t) (s i):=by
 unfold linkStore linkB
 cases tk P t<;>cases s i<;>rfl
@[simp] theorem aops_assign (t:Nat):aops P n ops (⟨some d,.assign (.tmp t),ty,pos,after,none⟩::r) s K=assignK (s t) (fun v=>d<n∧aops P n ops r (put (put s t .dead) d v) K) (fun v=>d<n∧aops P n ops r (put s d (lookK t v)) K)
  (fun i lo len wh=>boolK (decide (i=d)) (d<n∧aselfView s d lo len wh (fun s'=>aops P n ops r s' K)) (d<n∧aops P n ops r (put s d (.view i lo len wh)) K)):=by
 simp only [aops,aop,astep,assignK,boolK]
 split<;>rename_i h<;>simp [h,look_tmp_eq]
 ·split<;>split<;>simp_all
def mupF (s:St) (p q r:Prop) (i:Nat) (kk:KK) (kx xx:XV) (c:Nat) (bs:List Nat) (es:List (XV×XV)):Option (Option Nat)→Prop×St
 | some f=>(p∧q∧r∧keyOk kk kx=true,upd s i (.mp (mput c bs es kx xx f).1 (mput c bs es kx xx f).2.1 (mput c bs es kx xx f).2.2))
 | none=>(False,s)
@[congr] theorem mupF_congr {s:St} {p q r:Prop} {i:Nat} {kk:KK} {kx xx:XV} {c:Nat} {bs:List Nat} {es:List (XV×XV)} {f f':Option (Option Nat)} (h:f=f'):mupF s p q r i kk kx xx c bs es f=mupF s p q r i kk kx xx c bs es f':=by rw [h]
@[simp] theorem mupF_none (s:St) (p q r:Prop) (i:Nat) (kk:KK) (kx xx:XV) (c:Nat) (bs:List Nat) (es:List (XV×XV)):mupF s p q r i kk kx xx c bs es (some none)=(p∧q∧r∧keyOk kk kx=true,upd s i (.mp (c+1) (bs++[c]) (es++[(kx,xx)]))):=rfl
@[simp] theorem mupF_some (s:St) (p q r:Prop) (i:Nat) (kk:KK) (kx xx:XV) (c:Nat) (bs:List Nat) (es:List (XV×XV)) (j:Nat):mupF s p q r i kk kx xx c bs es (some (some j))=(p∧q∧r∧keyOk kk kx=true,upd s i (.mp c bs (es.set j (kx,xx)))):=rfl
def mupO (s:St) (p q r:Prop) (i:Nat) (kk:KK) (kx xx:XV):AV→Prop×St
 | .mp c bs es=>mupF s p q r i kk kx xx c bs es (findK kk kx es 0)
 | _=>(False,s)
@[congr] theorem mupO_congr {s:St} {p q r:Prop} {i:Nat} {kk:KK} {kx xx:XV} {v v':AV} (h:v=v'):mupO s p q r i kk kx xx v=mupO s p q r i kk kx xx v':=by rw [h]
@[simp] theorem mupO_mp (s:St) (p q r:Prop) (i:Nat) (kk:KK) (kx xx:XV) (c:Nat) (bs:List Nat) (es:List (XV×XV)):mupO s p q r i kk kx xx (.mp c bs es)=mupF s p q r i kk kx xx c bs es (findK kk kx es 0):=rfl
def mupK (s:St) (kt:Option (KK×TypeId)) (m k x:Prop×AV):Prop×St:=
 match kt,m,k,x with
 | some (kk,_),(p,.alias i),(q,.x kx),(r,.x xx)=>mupO s p q r i kk kx xx (s i)
 | _,_,_,_=>(False,s)
@[congr] theorem mupK_congr {s:St} {kt kt':Option (KK×TypeId)} {m m' k k' x x':Prop×AV} (h1:kt=kt') (h2:m=m') (h3:k=k') (h4:x=x'):mupK s kt m k x=mupK s kt' m' k' x':=by rw [h1,h2,h3,h4]
@[simp] theorem mupK_mk (s:St) (kk:KK) (e:TypeId) (p q r:Prop) (i:Nat) (kx xx:XV):mupK s (some (kk,e)) (p,.alias i) (q,.x kx) (r,.x xx)=mupO s p q r i kk kx xx (s i):=rfl
theorem amapUpdate_eq (P:Program) (s:St) (t:TypeId) (m k x:Prop×AV):amapUpdate P s t m k x=mupK s (mapT P t) m k x:=by
 unfold amapUpdate mupK mupO mupF
 rfl
@[simp] theorem keyOk_s (l:List UInt8):keyOk .s (.one (.str l))=true:=rfl
@[simp] theorem keyOk_i (k q:IntKind) (m:Int):keyOk (.i q) (.one (.int k m))=decide (k=q):=rfl
@[simp] theorem aops_makeMap (t:TypeId):aops P n ops (⟨some d,.makeMap t none,ty,pos,after,none⟩::r) s K=(d<n∧aops P n ops r (put s d (.mp 0 [] [])) K):=rfl
@[simp] theorem aops_makeSlice (t:TypeId) (l c:Operand):aops P n ops (⟨some d,.makeSlice t l c,ty,pos,after,none⟩::r) s K=andP (amake P t (sv s l) (sv s c)) (fun v=>d<n∧aops P n ops r (put s d v) K):=rfl
@[simp] theorem amake_int (t:TypeId) (p q:Prop) (k k':IntKind) (n m:Int):amake P t (p,.x (.one (.int k n))) (q,.x (.one (.int k' m)))=makeK P p q n m (rowT P t):=rfl
@[simp] theorem makeK_some (p q:Prop) (n m:Int) (e:TypeId) (size:Nat) (z:List CV):makeK P p q n m (some (e,size,z))=makeB p q n m e size z (bytesT P e):=rfl
@[simp] theorem makeB_some (p q:Prop) (n m:Int) (e:TypeId) (size b:Nat) (z:List CV):makeB p q n m e size z (some b)=(p∧q∧0≤n∧m=n∧(b:Int)*n≤281474976710656∧n.toNat*size≤16777216,.own e size (List.replicate n.toNat z)):=rfl
@[simp] theorem aops_mapUpdate (t:TypeId) (m k x:Operand):aops P n ops (⟨none,.mapUpdate t m k x,ty,pos,after,none⟩::r) s K=andS (mupK s (mapT P t) (sv s m) (sv s k) (sv s x)) (fun s'=>aops P n ops r s' K):=by
 rw [←amapUpdate_eq];rfl
@[simp] theorem aops_assignc (v:Value):aops P n ops (⟨some d,.assign (.const v),ty,pos,after,none⟩::r) s K=(d<n∧aops P n ops r (put s d (look s (.const v))) K):=by
 show (True∧_)=_
 rw [true_and];rfl
@[simp] theorem aops_assignf (f:FuncId):aops P n ops (⟨some d,.assign (.func f),ty,pos,after,none⟩::r) s K=(d<n∧aops P n ops r (put s d (look s (.func f))) K):=by
 show (True∧_)=_
 rw [true_and];rfl
@[simp] theorem aops_slice (t:TypeId) (x:Operand) (lo hi mx:Option Operand):aops P n ops (⟨some d,.slice t x lo hi mx,ty,pos,after,none⟩::r) s K=andP (aval2 P s (.slice t x lo hi mx)) (fun v=>d<n∧aops P n ops r (put s d v) K):=aops_plain P n ops s K d ty pos after r _ (by rfl)
@[simp] theorem aops_call (f:Operand) (args:List Operand) (ts:Array TypeId):aops P n ops (⟨some d,.call ⟨.value f,⟨args⟩,ts⟩,ty,pos,after,none⟩::r) s K=callS P (callee s f args) (fun rv=>d<n∧aops P n ops r (put (afterCall s args rv) d rv.av) K) (callR P (calleeR s f args) (fun rv=>d<n∧aops P n ops r (put s d rv.av) K) (withC s (lendsC s args) fun s=>callM P s (calleeM s f args) (fun xs rv outs=>d<n∧aops P n ops r (put (setOuts s xs outs) d rv.av) K))) (fun xs xs' rv=>nmXs n s xs xs'∧rv.flat=true∧d<n∧aops P n ops r (put s d rv.av) K):=rfl
@[simp] theorem aops_append (x y:Operand) (t t':TypeId):aops P n ops (⟨some d,.call ⟨.builtin .append,⟨[x,y]⟩,⟨[t,t']⟩⟩,ty,pos,after,none⟩::r) s K=asrc n s (sv s x) (fun x'=>andA (aappend P s t t' x' (sv s y)) (fun s1 v=>d<n∧aops P n ops r (put s1 d v) K)):=rfl
@[simp] theorem aops_len (args:List Operand) (ts:Array TypeId):aops P n ops (⟨some d,.call ⟨.builtin .len,⟨args⟩,ts⟩,ty,pos,after,none⟩::r) s K=andP (abuiltin P s (.builtin .len) args ts.toList) (fun v=>d<n∧aops P n ops r (put s d v) K):=rfl
@[simp] theorem aops_max (args:List Operand) (ts:Array TypeId):aops P n ops (⟨some d,.call ⟨.builtin .max,⟨args⟩,ts⟩,ty,pos,after,none⟩::r) s K=andP (abuiltin P s (.builtin .max) args ts.toList) (fun v=>d<n∧aops P n ops r (put s d v) K):=rfl
@[simp] theorem aops_min (args:List Operand) (ts:Array TypeId):aops P n ops (⟨some d,.call ⟨.builtin .min,⟨args⟩,ts⟩,ty,pos,after,none⟩::r) s K=andP (abuiltin P s (.builtin .min) args ts.toList) (fun v=>d<n∧aops P n ops r (put s d v) K):=rfl
@[congr] theorem asrc_cong {n:Nat} {s:St} {x x':Prop×AV} {k:Prop×AV→Prop} (h:x=x'):asrc n s x k=asrc n s x' k:=by rw [h]
@[simp] theorem asrc_alias (n:Nat) (s:St) (p:Prop) (i:Nat) (k:Prop×AV→Prop):asrc n s (p,.alias i) k=k (p,.alias i):=rfl
@[simp] theorem asrc_nil (n:Nat) (s:St) (p:Prop) (k:Prop×AV→Prop):asrc n s (p,.x (.one .nil)) k=k (p,.x (.one .nil)):=rfl
theorem asrc_atom {n:Nat} {s:St} {p:Prop} {v:Value} {k:Prop×AV→Prop} (g e z:Nat) (xs:List (List CV)) (hn:n≤g) (hg:s g=.gown v e z xs) (h:k (p,.alias g)):asrc n s (p,.x (.one (.atom v))) k:=⟨g,hn,⟨e,z,xs,hg⟩,h⟩
def andG (e:Bool) (r:Prop×AV) (k:AV→Prop):Prop:=(e=true→r.1)∧r.2.isOwner=false∧k r.2
end
@[congr] theorem andG_congr {e e':Bool} {r r':Prop×AV} {k:AV→Prop} (he:e=e') (h:r=r'):andG e r k=andG e' r' k:=by rw [he,h]
@[simp] theorem andG_mk (e:Bool) (p:Prop) (v:AV) (k:AV→Prop):andG e (p,v) k=((e=true→p)∧v.isOwner=false∧k v):=rfl
def plainG:Op→Bool
 | .assign _=>true
 | .build _ _=>true
 | .convert _ _ _=>true
 | .call c=>match c.callee with
  | .builtin .append=>false
  | .builtin _=>true
  | _=>false
 | op=>plainOp op
section
variable (P:Program) (n:Nat) (ops:Array Oper) (s:St) (K:St→Prop) (d:Nat) (ty:TypeId) (pos:String) (after:Array Edge) (r:List Oper) (g:Nat×Bool)
theorem aops_guard (op:Op) (h:plainG op=true):aops P n ops (⟨some d,op,ty,pos,after,some g⟩::r) s K=optK (gval ops s g) (fun e=>andG e (aval2 P s op) (fun v=>d<n∧aops P n ops r (put s d (.cond e v)) K)):=by
 simp only [aops,aop,optK]
 cases gval ops s g with
 | none=>rfl
 | some e =>
  cases op<;>first | rfl | (simp [plainG,plainOp] at h) | skip
  rename_i c
  obtain ⟨callee,args,ts⟩:=c
  cases callee with
  | builtin b=>cases b<;>first | rfl | (simp [plainG] at h)
  | _=>cases h
@[simp] theorem aopsG_move (x:Operand):aops P n ops (⟨some d,.move x,ty,pos,after,some g⟩::r) s K=optK (gval ops s g) (fun e=>andG e (aval2 P s (.move x)) (fun v=>d<n∧aops P n ops r (put s d (.cond e v)) K)):=aops_guard P n ops s K d ty pos after r g _ (by rfl)
@[simp] theorem aopsG_pick (c x y:Operand):aops P n ops (⟨some d,.pick c x y,ty,pos,after,some g⟩::r) s K=optK (gval ops s g) (fun e=>andG e (aval2 P s (.pick c x y)) (fun v=>d<n∧aops P n ops r (put s d (.cond e v)) K)):=aops_guard P n ops s K d ty pos after r g _ (by rfl)
@[simp] theorem aopsG_load (t:TypeId) (x:Operand):aops P n ops (⟨some d,.load t x,ty,pos,after,some g⟩::r) s K=optK (gval ops s g) (fun e=>andG e (aval2 P s (.load t x)) (fun v=>d<n∧aops P n ops r (put s d (.cond e v)) K)):=aops_guard P n ops s K d ty pos after r g _ (by rfl)
@[simp] theorem aopsG_binOp (o:BinOp) (t t':TypeId) (x y:Operand):aops P n ops (⟨some d,.binOp o t x y t',ty,pos,after,some g⟩::r) s K=optK (gval ops s g) (fun e=>andG e (aval2 P s (.binOp o t x y t')) (fun v=>d<n∧aops P n ops r (put s d (.cond e v)) K)):=aops_guard P n ops s K d ty pos after r g _ (by rfl)
@[simp] theorem aopsG_unOp (o:UnOp) (t:TypeId) (x:Operand):aops P n ops (⟨some d,.unOp o t x,ty,pos,after,some g⟩::r) s K=optK (gval ops s g) (fun e=>andG e (aval2 P s (.unOp o t x)) (fun v=>d<n∧aops P n ops r (put s d (.cond e v)) K)):=aops_guard P n ops s K d ty pos after r g _ (by rfl)
@[simp] theorem aopsG_fieldAddr (t:TypeId) (x:Operand) (f:Nat):aops P n ops (⟨some d,.fieldAddr t x f,ty,pos,after,some g⟩::r) s K=optK (gval ops s g) (fun e=>andG e (aval2 P s (.fieldAddr t x f)) (fun v=>d<n∧aops P n ops r (put s d (.cond e v)) K)):=aops_guard P n ops s K d ty pos after r g _ (by rfl)
@[simp] theorem aopsG_indexAddr (t:TypeId) (x i:Operand):aops P n ops (⟨some d,.indexAddr t x i,ty,pos,after,some g⟩::r) s K=optK (gval ops s g) (fun e=>andG e (aval2 P s (.indexAddr t x i)) (fun v=>d<n∧aops P n ops r (put s d (.cond e v)) K)):=aops_guard P n ops s K d ty pos after r g _ (by rfl)
@[simp] theorem aopsG_index (t:TypeId) (x i:Operand):aops P n ops (⟨some d,.index t x i,ty,pos,after,some g⟩::r) s K=optK (gval ops s g) (fun e=>andG e (aval2 P s (.index t x i)) (fun v=>d<n∧aops P n ops r (put s d (.cond e v)) K)):=aops_guard P n ops s K d ty pos after r g _ (by rfl)
@[simp] theorem aopsG_makeFunc (fn:Fn) (fst cap:Array Operand):aops P n ops (⟨some d,.makeFunc fn fst cap,ty,pos,after,some g⟩::r) s K=optK (gval ops s g) (fun e=>andG e (aval2 P s (.makeFunc fn fst cap)) (fun v=>d<n∧aops P n ops r (put s d (.cond e v)) K)):=aops_guard P n ops s K d ty pos after r g _ (by rfl)
@[simp] theorem aopsG_build (t:TypeId) (parts:Array (Nat×Operand)):aops P n ops (⟨some d,.build t parts,ty,pos,after,some g⟩::r) s K=optK (gval ops s g) (fun e=>andG e (aval2 P s (.build t parts)) (fun v=>d<n∧aops P n ops r (put s d (.cond e v)) K)):=aops_guard P n ops s K d ty pos after r g _ (by rfl)
@[simp] theorem aopsG_slice (t:TypeId) (x:Operand) (lo hi mx:Option Operand):aops P n ops (⟨some d,.slice t x lo hi mx,ty,pos,after,some g⟩::r) s K=optK (gval ops s g) (fun e=>andG e (aval2 P s (.slice t x lo hi mx)) (fun v=>d<n∧aops P n ops r (put s d (.cond e v)) K)):=aops_guard P n ops s K d ty pos after r g _ (by rfl)
@[simp] theorem aopsG_call_len (args:Array Operand) (ts:Array TypeId):aops P n ops (⟨some d,.call ⟨.builtin .len,args,ts⟩,ty,pos,after,some g⟩::r) s K=optK (gval ops s g) (fun e=>andG e (aval2 P s (.call ⟨.builtin .len,args,ts⟩)) (fun v=>d<n∧aops P n ops r (put s d (.cond e v)) K)):=aops_guard P n ops s K d ty pos after r g _ (by rfl)
@[simp] theorem aops_callG (f:Operand) (args:List Operand) (ts:Array TypeId):aops P n ops (⟨some d,.call ⟨.value f,⟨args⟩,ts⟩,ty,pos,after,some g⟩::r) s K=optK (gval ops s g) (fun e=>callGL P e (callee s f args) (fun rv=>d<n∧aops P n ops r (put s d (.cond e rv.av)) K)
  (wildK e (callM P s (calleeM s f args) (fun xs rv outs=>d<n∧rv.av.isOwner=false∧aops P n ops r (put (setOuts s xs outs) d (.cond true rv.av)) K)) (d<n∧aops P n ops r (put s d (.cond false (.x (.one (.bool false))))) K))):=by
 simp only [aops,aop,optK,lendO]
 cases gval ops s g with
 | none=>rfl
 | some e =>
  simp only [callGL,glend,aguard,wildK]
  rcases hc:callee s f args with ⟨p,o⟩
  cases o<;>cases e<;>simp [hc]
def touchB (b:Bool):Bool:=b
@[simp] theorem touchB_eq (b:Bool):touchB b=b:=rfl
def calmK (b:Bool) (x y:Prop):Prop:=match b with
 | true=>x
 | false=>y
end
@[congr] theorem calmK_congr {b b':Bool} {x y:Prop} (h:b=b'):calmK b x y=calmK b' x y:=by rw [h]
@[simp] theorem calmK_true (x y:Prop):calmK true x y=x:=rfl
@[simp] theorem calmK_false (x y:Prop):calmK false x y=y:=rfl
section
variable (P:Program) (n:Nat) (ops:Array Oper) (s:St) (K:St→Prop) (d:Nat) (ty:TypeId) (pos:String) (after:Array Edge) (r:List Oper) (g:Nat×Bool)
@[simp ↓] theorem aopsD_nil (m:Bool):aopsD P n m ops [] s K=K s:=rfl
@[simp] theorem aopsD_cons (o:Oper):aopsD P n false ops (o::r) s K=calmK (touchB (calmB ops o.op)) (aopD P n ops o (touch s) (fun s'=>aopsD P n false ops r (touch s') K)) (calmK (touchB (storeU o)) (storeSide s o.op∧aops P n ops [o] (touch s) (fun s'=>aopsD P n false ops r (touch s') K)) (aops P n ops [o] (touch s) (fun s'=>aopsD P n false ops r (touch s') K))):=by
 show (match calmB ops o.op with | true=>_ | false=>_)=_
 unfold calmK
 cases calmB ops o.op with
 | true=>apply propext;exact ⟨fun h=>h.2,fun h=>⟨fun h=>(by cases h),h⟩⟩
 | false=>dsimp only;cases storeU o<;>rfl
@[simp] theorem aopsD_consM (o:Oper):aopsD P n true ops (o::r) s K=calmK (touchB (calmB ops o.op)) (calmK (touchB (callB o)) (aopC P n o (touch s) (fun s'=>aopsD P n true ops r (touch s') K)) (lightAt s o.op∧aopD P n ops o (touch s) (fun s'=>aopsD P n true ops r (touch s') K)))
  (calmK (touchB (storeU o)) (storeSide s o.op∧aops P n ops [o] (touch s) (fun s'=>aopsD P n true ops r (touch s') K)) (aops P n ops [o] (touch s) (fun s'=>aopsD P n true ops r (touch s') K))):=by
 show (match calmB ops o.op with | true=>_ | false=>_)=_
 unfold calmK
 cases calmB ops o.op with
 | true =>
  dsimp only
  cases hc:callB o with
  | true=>rfl
  | false=>apply propext;exact ⟨fun h=>⟨h.1 rfl,h.2⟩,fun h=>⟨fun _=>h.1,h.2⟩⟩
 | false=>dsimp only;cases storeU o<;>rfl
@[simp] theorem storeSide_store (t:TypeId) (a x:Operand):storeSide s (.store t a x)=(lends s [x]=[]∧ptrTold s (sv s a).2=true):=rfl
def elemK (q:Prop×AV):Prop:=match q with
 | (_,.elem _)=>True
 | _=>False
theorem elemK_iff (q:Prop×AV):(∃cs,q.2=.elem cs)=elemK q:=by
 obtain ⟨p,q⟩:=q
 apply propext
 cases q<;>simp [elemK]
@[simp] theorem lightAt_load (t:TypeId) (x:Operand):lightAt s (.load t x)=elemK (sv s x):=elemK_iff _
theorem lightAt_B (op:Op) (h:lightB op=true):lightAt s op=True:=by
 simp only [eq_iff_iff,iff_true];exact lightB_at h
@[simp] theorem lightAt_move (x:Operand):lightAt s (.move x)=True:=lightAt_B s _ rfl
@[simp] theorem lightAt_assign (x:Operand):lightAt s (.assign x)=True:=lightAt_B s _ rfl
@[simp] theorem lightAt_nilCheck (x:Operand):lightAt s (.nilCheck x)=True:=lightAt_B s _ rfl
def intV (v:AV):Bool:=match v with
 | .x (.one (.int _ _))=>true
 | _=>false
@[simp] theorem lightAt_fieldAddr (t:TypeId) (x:Operand) (f:Nat):lightAt s (.fieldAddr t x f)=True:=lightAt_B s _ rfl
@[simp] theorem lightAt_build (t:TypeId) (parts:Array (Nat×Operand)):lightAt s (.build t parts)=True:=lightAt_B s _ rfl
def plainD:Op→Bool
 | .assign _=>true
 | .build _ _=>true
 | .call c=>match c.callee with
  | .builtin .append=>false
  | .builtin _=>true
  | _=>false
 | op=>plainOp op
theorem aopD_plain (op:Op) (h:plainD op=true):aopD P n ops ⟨some d,op,ty,pos,after,none⟩ s K=(d<n∧(s d).isOwner=false∧andP (aval2 P s op) (fun v=>K (put s d v))):=by
 cases op<;>first | rfl | (simp [plainD,plainOp] at h) | skip
 rename_i c
 obtain ⟨callee,args,ts⟩:=c
 cases callee with
 | builtin b=>cases b<;>first | rfl | (simp [plainD] at h)
 | _=>cases h
@[simp] theorem aopD_move (x:Operand):aopD P n ops ⟨some d,.move x,ty,pos,after,none⟩ s K=(d<n∧(s d).isOwner=false∧andP (aval2 P s (.move x)) (fun v=>K (put s d v))):=aopD_plain P n ops s K d ty pos after _ (by rfl)
@[simp] theorem aopD_pick (c x y:Operand):aopD P n ops ⟨some d,.pick c x y,ty,pos,after,none⟩ s K=(d<n∧(s d).isOwner=false∧andP (aval2 P s (.pick c x y)) (fun v=>K (put s d v))):=aopD_plain P n ops s K d ty pos after _ (by rfl)
@[simp] theorem aopD_load (t:TypeId) (x:Operand):aopD P n ops ⟨some d,.load t x,ty,pos,after,none⟩ s K=(d<n∧(s d).isOwner=false∧andP (aval2 P s (.load t x)) (fun v=>K (put s d v))):=aopD_plain P n ops s K d ty pos after _ (by rfl)
@[simp] theorem aopD_nilCheck (x:Operand):aopD P n ops ⟨some d,.nilCheck x,ty,pos,after,none⟩ s K=(d<n∧(s d).isOwner=false∧andP (aval2 P s (.nilCheck x)) (fun v=>K (put s d v))):=aopD_plain P n ops s K d ty pos after _ (by rfl)
@[simp] theorem aopD_binOp (o:BinOp) (t t':TypeId) (x y:Operand):aopD P n ops ⟨some d,.binOp o t x y t',ty,pos,after,none⟩ s K=(d<n∧(s d).isOwner=false∧andP (aval2 P s (.binOp o t x y t')) (fun v=>K (put s d v))):=aopD_plain P n ops s K d ty pos after _ (by rfl)
@[simp] theorem aopD_unOp (o:UnOp) (t:TypeId) (x:Operand):aopD P n ops ⟨some d,.unOp o t x,ty,pos,after,none⟩ s K=(d<n∧(s d).isOwner=false∧andP (aval2 P s (.unOp o t x)) (fun v=>K (put s d v))):=aopD_plain P n ops s K d ty pos after _ (by rfl)
@[simp] theorem aopD_convert (t t':TypeId) (x:Operand):aopD P n ops ⟨some d,.convert t t' x,ty,pos,after,none⟩ s K=(d<n∧(s d).isOwner=false∧wildK (isSliceT P t') (andP (abytes P t t' (sv s x)) (fun v=>K (put s d v))) (andP (aconvert P s t t' (sv s x)) (fun v=>K (put s d v)))):=by
 simp only [aopD]
 unfold wildK
 cases isSliceT P t'<;>rfl
@[simp] theorem aopD_fieldAddr (t:TypeId) (x:Operand) (f:Nat):aopD P n ops ⟨some d,.fieldAddr t x f,ty,pos,after,none⟩ s K=(d<n∧(s d).isOwner=false∧andP (aval2 P s (.fieldAddr t x f)) (fun v=>K (put s d v))):=aopD_plain P n ops s K d ty pos after _ (by rfl)
@[simp] theorem aopD_indexAddr (t:TypeId) (x i:Operand):aopD P n ops ⟨some d,.indexAddr t x i,ty,pos,after,none⟩ s K=(d<n∧(s d).isOwner=false∧andP (aval2 P s (.indexAddr t x i)) (fun v=>K (put s d v))):=aopD_plain P n ops s K d ty pos after _ (by rfl)
@[simp] theorem aopD_index (t:TypeId) (x i:Operand):aopD P n ops ⟨some d,.index t x i,ty,pos,after,none⟩ s K=(d<n∧(s d).isOwner=false∧andP (aval2 P s (.index t x i)) (fun v=>K (put s d v))):=aopD_plain P n ops s K d ty pos after _ (by rfl)
@[simp] theorem aopD_extract (x:Operand) (f:Nat):aopD P n ops ⟨some d,.extract x f,ty,pos,after,none⟩ s K=(d<n∧(s d).isOwner=false∧andP (aval2 P s (.extract x f)) (fun v=>K (put s d v))):=aopD_plain P n ops s K d ty pos after _ (by rfl)
@[simp] theorem aopD_makeFunc (fn:Fn) (fst cap:Array Operand):aopD P n ops ⟨some d,.makeFunc fn fst cap,ty,pos,after,none⟩ s K=(d<n∧(s d).isOwner=false∧andP (aval2 P s (.makeFunc fn fst cap)) (fun v=>K (put s d v))):=aopD_plain P n ops s K d ty pos after _ (by rfl)
@[simp] theorem aopD_lookup (t:TypeId) (x k:Operand) (ok:Bool):aopD P n ops ⟨some d,.lookup t x k ok,ty,pos,after,none⟩ s K=(d<n∧(s d).isOwner=false∧andP (aval2 P s (.lookup t x k ok)) (fun v=>K (put s d v))):=aopD_plain P n ops s K d ty pos after _ (by rfl)
@[simp] theorem aopD_build (t:TypeId) (parts:Array (Nat×Operand)):aopD P n ops ⟨some d,.build t parts,ty,pos,after,none⟩ s K=(d<n∧(s d).isOwner=false∧andP (aval2 P s (.build t parts)) (fun v=>K (put s d v))):=aopD_plain P n ops s K d ty pos after _ (by rfl)
@[simp] theorem aopD_assign (x:Operand):aopD P n ops ⟨some d,.assign x,ty,pos,after,none⟩ s K=(d<n∧(s d).isOwner=false∧andP (aval2 P s (.assign x)) (fun v=>K (put s d v))):=aopD_plain P n ops s K d ty pos after _ (by rfl)
@[simp] theorem aopD_slice (t:TypeId) (x:Operand) (lo hi mx:Option Operand):aopD P n ops ⟨some d,.slice t x lo hi mx,ty,pos,after,none⟩ s K=(d<n∧(s d).isOwner=false∧andP (aval2 P s (.slice t x lo hi mx)) (fun v=>K (put s d v))):=aopD_plain P n ops s K d ty pos after _ (by rfl)
@[simp] theorem aopD_call_len (args:Array Operand) (ts:Array TypeId):aopD P n ops ⟨some d,.call ⟨.builtin .len,args,ts⟩,ty,pos,after,none⟩ s K=(d<n∧(s d).isOwner=false∧andP (aval2 P s (.call ⟨.builtin .len,args,ts⟩)) (fun v=>K (put s d v))):=aopD_plain P n ops s K d ty pos after _ (by rfl)
@[simp] theorem aopD_call_min (args:Array Operand) (ts:Array TypeId):aopD P n ops ⟨some d,.call ⟨.builtin .min,args,ts⟩,ty,pos,after,none⟩ s K=(d<n∧(s d).isOwner=false∧andP (aval2 P s (.call ⟨.builtin .min,args,ts⟩)) (fun v=>K (put s d v))):=aopD_plain P n ops s K d ty pos after _ (by rfl)
@[simp] theorem aopD_alloc (t:TypeId):aopD P n ops ⟨some d,.alloc t,ty,pos,after,none⟩ s K=(d<n∧(s d).isOwner=false∧optK (zeroOf P t) (fun cs=>K (put s d (.box cs)))):=by
 simp only [aopD,optK]
 cases zeroOf P t<;>rfl
@[simp] theorem aopD_buildSlice (t:TypeId) (len:Nat) (parts:Array (Nat×Operand)):aopD P n ops ⟨some d,.buildSlice t len parts,ty,pos,after,none⟩ s K=(d<n∧(s d).isOwner=false∧andP (abuildSlice P (sv s) t len parts.toList) (fun v=>K (put s d v))):=rfl
@[simp] theorem aopD_call (f:Operand) (args:List Operand) (ts:Array TypeId):aopD P n ops ⟨some d,.call ⟨.value f,⟨args⟩,ts⟩,ty,pos,after,none⟩ s K=(d<n∧(s d).isOwner=false∧callK P (callee s f args) (fun rv=>(rv.flat || (lends s args).isEmpty)=true∧K (put s d rv.av))):=by
 rw [←callK_eq];rfl
theorem aopD_guard (op:Op) (h:plainG op=true):aopD P n ops ⟨some d,op,ty,pos,after,some g⟩ s K=(d<n∧(s d).isOwner=false∧optK (gval ops s g) (fun e=>andG e (aval2 P s op) (fun v=>K (put s d (.cond e v))))):=by
 simp only [aopD,optK]
 cases gval ops s g with
 | none=>rfl
 | some e =>
  cases op<;>first | rfl | (simp [plainG,plainOp] at h) | skip
  rename_i c
  obtain ⟨callee,args,ts⟩:=c
  cases callee with
  | builtin b=>cases b<;>first | rfl | (simp [plainG] at h)
  | _=>cases h
def buildG (e:Bool) (p:Prop×AV) (K:AV→Prop):Prop:=match e with
 | true=>p.1∧K p.2
 | false=>K (.cond false (.x (.one (.bool false))))
@[congr] theorem buildG_congr {e e':Bool} {p p':Prop×AV} {K:AV→Prop} (h:e=e') (hp:p=p'):buildG e p K=buildG e' p' K:=by rw [h,hp]
@[simp] theorem aopDG_move (x:Operand):aopD P n ops ⟨some d,.move x,ty,pos,after,some g⟩ s K=(d<n∧(s d).isOwner=false∧optK (gval ops s g) (fun e=>andG e (aval2 P s (.move x)) (fun v=>K (put s d (.cond e v))))):=aopD_guard P n ops s K d ty pos after g _ (by rfl)
@[simp] theorem aopDG_load (t:TypeId) (x:Operand):aopD P n ops ⟨some d,.load t x,ty,pos,after,some g⟩ s K=(d<n∧(s d).isOwner=false∧optK (gval ops s g) (fun e=>andG e (aval2 P s (.load t x)) (fun v=>K (put s d (.cond e v))))):=aopD_guard P n ops s K d ty pos after g _ (by rfl)
@[simp] theorem aopDG_nilCheck (x:Operand):aopD P n ops ⟨some d,.nilCheck x,ty,pos,after,some g⟩ s K=(d<n∧(s d).isOwner=false∧optK (gval ops s g) (fun e=>andG e (aval2 P s (.nilCheck x)) (fun v=>K (put s d (.cond e v))))):=aopD_guard P n ops s K d ty pos after g _ (by rfl)
@[simp] theorem aopDG_binOp (o:BinOp) (t t':TypeId) (x y:Operand):aopD P n ops ⟨some d,.binOp o t x y t',ty,pos,after,some g⟩ s K=(d<n∧(s d).isOwner=false∧optK (gval ops s g) (fun e=>andG e (aval2 P s (.binOp o t x y t')) (fun v=>K (put s d (.cond e v))))):=aopD_guard P n ops s K d ty pos after g _ (by rfl)
@[simp] theorem aopDG_unOp (o:UnOp) (t:TypeId) (x:Operand):aopD P n ops ⟨some d,.unOp o t x,ty,pos,after,some g⟩ s K=(d<n∧(s d).isOwner=false∧optK (gval ops s g) (fun e=>andG e (aval2 P s (.unOp o t x)) (fun v=>K (put s d (.cond e v))))):=aopD_guard P n ops s K d ty pos after g _ (by rfl)
@[simp] theorem aopDG_fieldAddr (t:TypeId) (x:Operand) (f:Nat):aopD P n ops ⟨some d,.fieldAddr t x f,ty,pos,after,some g⟩ s K=(d<n∧(s d).isOwner=false∧optK (gval ops s g) (fun e=>andG e (aval2 P s (.fieldAddr t x f)) (fun v=>K (put s d (.cond e v))))):=aopD_guard P n ops s K d ty pos after g _ (by rfl)
@[simp] theorem aopDG_indexAddr (t:TypeId) (x i:Operand):aopD P n ops ⟨some d,.indexAddr t x i,ty,pos,after,some g⟩ s K=(d<n∧(s d).isOwner=false∧optK (gval ops s g) (fun e=>andG e (aval2 P s (.indexAddr t x i)) (fun v=>K (put s d (.cond e v))))):=aopD_guard P n ops s K d ty pos after g _ (by rfl)
@[simp] theorem aopDG_makeFunc (fn:Fn) (fst cap:Array Operand):aopD P n ops ⟨some d,.makeFunc fn fst cap,ty,pos,after,some g⟩ s K=(d<n∧(s d).isOwner=false∧optK (gval ops s g) (fun e=>andG e (aval2 P s (.makeFunc fn fst cap)) (fun v=>K (put s d (.cond e v))))):=aopD_guard P n ops s K d ty pos after g _ (by rfl)
def gvalS (v:AV) (b:Bool):Option Bool:=match v with
 | .x (.one (.bool c))=>some (c==b)
 | .cond e (.x (.one (.bool c)))=>some (e&&(c==b))
 | _=>none
@[simp] theorem gvalS_x (c b:Bool):gvalS (.x (.one (.bool c))) b=some (c==b):=rfl
@[simp] theorem gvalS_cond (e c b:Bool):gvalS (.cond e (.x (.one (.bool c)))) b=some (e&&(c==b)):=rfl
def gvalD (s:St) (d:Option Nat) (b:Bool):Option Bool:=match d with
 | some d=>gvalS (s d) b
 | none=>none
@[simp] theorem gvalD_some (d:Nat) (b:Bool):gvalD s (some d) b=gvalS (s d) b:=rfl
@[simp] theorem gval_eq (l:List Oper) (j:Nat) (b:Bool):gval ⟨l⟩ s (j,b)=gvalD s ((l[j]?).bind (·.dst)) b:=by
 simp only [gval,gvalD,gvalS]
 have:(⟨l⟩:Array Oper)[j]?=l[j]?:=by simp
 rw [this]
 cases l[j]?.bind fun x=>x.dst<;>rfl
end
def memK (off:Nat):AV→Option (List CV)
 | .box cs=>some (cs.drop off)
 | .gbox _ cs=>some (cs.drop off)
 | _=>none
@[simp] theorem memK_box (off:Nat) (cs:List CV):memK off (.box cs)=some (cs.drop off):=rfl
@[simp] theorem memK_gbox (off b:Nat) (cs:List CV):memK off (.gbox b cs)=some (cs.drop off):=rfl
def ememK (k off:Nat):AV→Option (List CV)
 | .own _ _ xs=>some ((xs.getD k []).drop off)
 | _=>none
@[simp] theorem ememK_own (k off e z:Nat) (xs:List (List CV)):ememK k off (.own e z xs)=some ((xs.getD k []).drop off):=rfl
@[simp] theorem mem_ptr (s:St) (i off:Nat):mem s (.ptr i off)=memK off (s i):=by
 simp only [mem,memK]
 cases s i<;>rfl
@[simp] theorem mem_eptr (s:St) (i k off:Nat):mem s (.eptr i k off)=ememK k off (s i):=by
 simp only [mem,ememK]
 cases s i<;>rfl
@[simp] theorem mem_elem (s:St) (cs:List CV):mem s (.elem cs)=some cs:=rfl
def argO (p:Prop):AV→Prop×Option XV
 | .own _ size xs=>(p,some (.one (.list size xs)))
 | _=>(False,none)
@[simp] theorem argO_own (p:Prop) (e z:Nat) (xs:List (List CV)):argO p (.own e z xs)=(p,some (.one (.list z xs))):=rfl
def argW (p:Prop) (lo len:Nat):AV→Prop×Option XV
 | .own _ size xs=>(p,some (.one (.list size ((xs.drop lo).take len))))
 | _=>(False,none)
def argC (p:Prop) (f:FuncId):Option (List CV)→Prop×Option XV
 | some cs=>(p,some (.one (.clo f cs)))
 | none=>(False,none)
@[simp] theorem argC_some (p:Prop) (f:FuncId) (cs:List CV):argC p f (some cs)=(p,some (.one (.clo f cs))):=rfl
def capO (off:Nat):AV→Option CV
 | .box cs=>bif decide (off<1000000) then some (.ref (cs.drop off)) else none
 | _=>none
@[simp] theorem capO_box (off:Nat) (cs:List CV):capO off (.box cs)=bif decide (off<1000000) then some (.ref (cs.drop off)) else none:=rfl
def joinO (a:Option CV) (b:Option (List CV)):Option (List CV):=match a,b with
 | some x,some xs=>some (x::xs)
 | _,_=>none
@[simp] theorem joinO_some (x:CV) (xs:List CV):joinO (some x) (some xs)=some (x::xs):=rfl
@[simp] theorem capXs_nil (s:St):capXs s []=some []:=rfl
@[simp] theorem capXs_inr (s:St) (i off:Nat) (r:List (CV ⊕ (Nat×Nat))):capXs s (.inr (i,off)::r)=joinO (capO off (s i)) (capXs s r):=rfl
def argK (s:St):Prop×AV→Prop×Option XV
 | (p,.x xv)=>(p,some xv)
 | (p,.alias i)=>argO p (s i)
 | (p,.view i lo len _)=>argW p lo len (s i)
 | (p,.elem cs)=>(p,some (.one (.ref cs)))
 | (p,.cloR f caps)=>argC p f (capXs s caps)
 | _=>(False,none)
@[congr] theorem argK_congr {s:St} {q q':Prop×AV} (h:q=q'):argK s q=argK s q':=by rw [h]
@[simp] theorem argK_x (s:St) (p:Prop) (v:XV):argK s (p,.x v)=(p,some v):=rfl
@[simp] theorem argK_alias (s:St) (p:Prop) (i:Nat):argK s (p,.alias i)=argO p (s i):=rfl
@[simp] theorem argK_ptr (s:St) (p:Prop) (i o:Nat):argK s (p,.ptr i o)=(False,none):=rfl
@[simp] theorem argK_cloR (s:St) (p:Prop) (f:FuncId) (caps:List (CV ⊕ (Nat×Nat))):argK s (p,.cloR f caps)=argC p f (capXs s caps):=rfl
@[simp] theorem argX_eq (s:St) (x:Operand):argX s x=argK s (sv s x):=by
 unfold argX argK argO argW argC
 generalize sv s x=q
 obtain ⟨p,q⟩:=q
 cases q<;>rfl
def consK (a:Prop×Option XV) (b:Prop×Option (List XV)):Prop×Option (List XV):=match a,b with
 | (p,some v),(q,some vs)=>(p∧q,some (v::vs))
 | _,_=>(False,none)
def foldO:AV→CV
 | .own _ z xs=>.list z xs
 | _=>.any
@[simp] theorem foldO_own (e z:Nat) (xs:List (List CV)):foldO (.own e z xs)=.list z xs:=rfl
def foldLk (s:St) (i o:Nat):AV→CV
 | .link i' o' d=>bif i'==i&&o'==o then foldO (s d) else .any
 | _=>.any
@[congr] theorem foldLk_congr {s:St} {i o:Nat} {v v':AV} (h:v=v'):foldLk s i o v=foldLk s i o v':=by rw [h]
@[simp] theorem foldLk_link (s:St) (i o i' o' d:Nat):foldLk s i o (.link i' o' d)=bif i'==i&&o'==o then foldO (s d) else .any:=rfl
@[simp] theorem foldC_any (s:St) (i o:Nat):foldC s i o .any=foldLk s i o (s (LK i o)):=by
 unfold foldC
 dsimp only
 cases s (LK i o) with
 | link i' o' d =>
  show (match i'==i&&o'==o with | true=>_ | false=>_)=bif i'==i&&o'==o then foldO (s d) else .any
  cases (i'==i&&o'==o)
  ·rfl
  ·dsimp only [cond_true]
   cases s d<;>rfl
 | _=>rfl
@[simp] theorem foldC_int (s:St) (i o:Nat) (k:IntKind) (n:Int):foldC s i o (.int k n)=.int k n:=rfl
@[simp] theorem foldC_str (s:St) (i o:Nat) (l:List UInt8):foldC s i o (.str l)=.str l:=rfl
@[simp] theorem foldC_nil (s:St) (i o:Nat):foldC s i o .nil=.nil:=rfl
@[simp] theorem foldC_list (s:St) (i o n:Nat) (l:List (List CV)):foldC s i o (.list n l)=.list n l:=rfl
@[simp] theorem foldCells_nil (s:St) (i o:Nat):foldCells s i o []=[]:=rfl
@[simp] theorem foldCells_cons (s:St) (i o:Nat) (c:CV) (r:List CV):foldCells s i o (c::r)=foldC s i o c::foldCells s i (o+1) r:=rfl
def argRB (s:St) (p:Prop) (i off:Nat):AV→Prop×Option XV
 | .box cs=>(p,some (.one (.ref (foldCells s i off (cs.drop off)))))
 | _=>(False,none)
@[congr] theorem argRB_congr {s:St} {p:Prop} {i off:Nat} {v v':AV} (h:v=v'):argRB s p i off v=argRB s p i off v':=by rw [h]
@[simp] theorem argRB_box (s:St) (p:Prop) (i off:Nat) (cs:List CV):argRB s p i off (.box cs)=(p,some (.one (.ref (foldCells s i off (cs.drop off))))):=rfl
def argRK (s:St):Prop×AV→Prop×Option XV
 | (p,.ptr i off)=>argRB s p i off (s i)
 | q=>argK s q
@[congr] theorem argRK_congr {s:St} {q q':Prop×AV} (h:q=q'):argRK s q=argRK s q':=by rw [h]
@[simp] theorem argRK_ptr (s:St) (p:Prop) (i off:Nat):argRK s (p,.ptr i off)=argRB s p i off (s i):=rfl
@[simp] theorem argRK_x (s:St) (p:Prop) (v:XV):argRK s (p,.x v)=argK s (p,.x v):=rfl
@[simp] theorem argR_eq (s:St) (x:Operand):argR s x=argRK s (sv s x):=by
 unfold argR argRK
 rcases hx:sv s x with ⟨p,v⟩
 cases v<;>simp only [argX_eq,hx]<;>rfl
def consRs (a:Prop×Option XV) (b:Prop×Option (List XV)):Prop×Option (List XV):=match a,b with
 | (p,some v),(q,some vs)=>(p∧q,some (v::vs))
 | _,_=>(False,none)
@[simp] theorem consRs_some (p q:Prop) (v:XV) (vs:List XV):consRs (p,some v) (q,some vs)=(p∧q,some (v::vs)):=rfl
@[simp] theorem argRs_nil (s:St):argRs s []=(True,some []):=rfl
@[simp] theorem argRs_cons (s:St) (x:Operand) (r:List Operand):argRs s (x::r)=consRs (argR s x) (argRs s r):=rfl
@[simp] theorem foldD_mk (s:St) (i off d e z:Nat) (xs:List (List CV)) (cs:List CV):foldD s i off d (.box cs) (.own e z xs)=upd (unlink (freeze s d) i off 1) i (.box (cs.set off (.list z xs))):=rfl
def foldAK (s:St) (i off:Nat):AV→St
 | .link i' o d=>bif i'==i&&o==off then foldD s i off d (s i) (s d) else s
 | _=>s
@[congr] theorem foldAK_congr {s:St} {i off:Nat} {v v':AV} (h:v=v'):foldAK s i off v=foldAK s i off v':=by rw [h]
@[simp] theorem foldAK_link (s:St) (i off i' o d:Nat):foldAK s i off (.link i' o d)=bif i'==i&&o==off then foldD s i off d (s i) (s d) else s:=rfl
@[simp] theorem foldAK_dead (s:St) (i off:Nat):foldAK s i off .dead=s:=rfl
@[simp] theorem foldS_eq (s:St) (i off:Nat):foldS s i off=foldAK s i off (s (LK i off)):=by
 unfold foldS foldA
 cases s (LK i off) with
 | link i' o d =>
  show (match i'==i&&o==off with | true=>_ | false=>_)=bif i'==i&&o==off then _ else _
  cases (i'==i&&o==off)<;>rfl
 | _=>rfl
@[simp] theorem foldL_nil (s:St):foldL s []=s:=rfl
@[simp] theorem foldL_cons (s:St) (i off:Nat) (r:List (Nat×Nat)):foldL s ((i,off)::r)=foldL (foldS s i off) r:=rfl
@[simp] theorem resv_cons (s:St) (x:Nat×Nat) (l:List (Nat×Nat)):resv s (x::l)=upd s 999999 (.res (x::l)):=rfl
@[simp] theorem consK_some (p q:Prop) (v:XV) (vs:List XV):consK (p,some v) (q,some vs)=(p∧q,some (v::vs)):=rfl
@[simp] theorem consK_none (p:Prop) (b:Prop×Option (List XV)):consK (p,none) b=(False,none):=rfl
def uvK:Prop×Option XV→Prop×AV
 | (p,some xv)=>(p,.x xv)
 | _=>(False,.dead)
@[simp] theorem uvK_some (p:Prop) (v:XV):uvK (p,some v)=(p,.x v):=rfl
@[simp] theorem uv_eq (s:St) (x:Operand):uv s x=uvK (argX s x):=rfl
@[simp] theorem argXs_nil (s:St):argXs s []=(True,some []):=rfl
@[simp] theorem argXs_cons (s:St) (x:Operand) (r:List Operand):argXs s (x::r)=consK (argX s x) (argXs s r):=rfl
def cellK:Prop×AV→Prop×Option XV
 | (p,.x xv)=>(p,some xv)
 | _=>(False,none)
@[simp] theorem cellK_x (p:Prop) (v:XV):cellK (p,.x v)=(p,some v):=rfl
@[simp] theorem resX_tmp (P:Program) (s:St) (t:Nat):resX P s (.tmp t)=argX s (.tmp t):=rfl
@[simp] theorem resX_cell (P:Program) (s:St) (t:Nat) (ty:TypeId):resX P s (.cell t ty)=cellK (aload (tk P ty) (zeroX P ty) (sv s (.tmp t)).1 (mem s (sv s (.tmp t)).2)):=rfl
@[simp] theorem resXs_nil (P:Program) (s:St):resXs P s []=(True,some []):=rfl
@[simp] theorem resXs_cons (P:Program) (s:St) (x:ResultVar) (r:List ResultVar):resXs P s (x::r)=consK (resX P s x) (resXs P s r):=rfl
def idxO (p q:Prop) (size j:Nat) (n:Int):AV→Prop×AV
 | .own _ z xs=>(p∧q∧z=size∧0≤n∧n<xs.length,.eptr j n.toNat 0)
 | _=>(False,.dead)
@[simp] theorem idxO_own (p q:Prop) (size j:Nat) (n:Int) (e z:Nat) (xs:List (List CV)):idxO p q size j n (.own e z xs)=(p∧q∧z=size∧0≤n∧n<xs.length,.eptr j n.toNat 0):=rfl
def idxK (P:Program) (t:TypeId) (s:St) (k:Option (TypeId×Nat)) (x i:Prop×AV):Prop×AV:=
 match k,x,i with
 | some (_,size),(p,.x (.one (.list z xs))),(q,.x (.one (.int _ n)))=>(p∧q∧z=size∧0≤n∧n<xs.length,.elem (xs.getD n.toNat []))
 | some (_,size),(p,.alias j),(q,.x (.one (.int _ n)))=>idxO p q size j n (s j)
 | some (_,size),(p,.view j lo len _),(q,.x (.one (.int _ n)))=>(p∧q∧(s j).size=size∧0≤n∧n<len,.eptr j (lo+n.toNat) 0)
 | _,_,_=>aindexArr P t x i
@[congr] theorem idxK_congr {P:Program} {u:TypeId} {s:St} {k k':Option (TypeId×Nat)} {x x' i i':Prop×AV} (hk:k=k') (hx:x=x') (hi:i=i'):idxK P u s k x i=idxK P u s k' x' i':=by rw [hk,hx,hi]
section
variable (P:Program) (u:TypeId) (s:St)
@[simp] theorem idxK_list (t:TypeId) (size z:Nat) (p q:Prop) (xs:List (List CV)) (k:IntKind) (n:Int):idxK P u s (some (t,size)) (p,.x (.one (.list z xs))) (q,.x (.one (.int k n)))=(p∧q∧z=size∧0≤n∧n<xs.length,.elem (xs.getD n.toNat [])):=rfl
@[simp] theorem idxK_alias (t:TypeId) (size j:Nat) (p q:Prop) (k:IntKind) (n:Int):idxK P u s (some (t,size)) (p,.alias j) (q,.x (.one (.int k n)))=idxO p q size j n (s j):=rfl
end
@[simp] theorem aindexAddr_eq (P:Program) (s:St) (t:TypeId) (x i:Prop×AV):aindexAddr P s t x i=idxK P t s (sliceT P t) x i:=by
 unfold aindexAddr idxK idxO
 rfl
def lenO (p q q':Prop):AV→Prop×AV
 | .own _ _ xs=>(p∧q,.x (.one (.int .i64 xs.length)))
 | .mp _ _ es=>(p∧q',.x (.one (.int .i64 es.length)))
 | _=>(False,.dead)
@[simp] theorem lenO_own (p q q':Prop) (e z:Nat) (xs:List (List CV)):lenO p q q' (.own e z xs)=(p∧q,.x (.one (.int .i64 xs.length))):=rfl
@[simp] theorem lenO_mp (p q q':Prop) (c:Nat) (bs:List Nat) (es:List (XV×XV)):lenO p q q' (.mp c bs es)=(p∧q',.x (.one (.int .i64 es.length))):=rfl
section
variable (P:Program) (s:St) (t:TypeId) (p:Prop)
@[simp] theorem alen_str (l:List UInt8):alen P s t (p,.x (.one (.str l)))=(p∧isStringT P t=true,.x (.one (.int .i64 l.length))):=rfl
@[simp] theorem alen_nil:alen P s t (p,.x (.one .nil))=(p∧(sliceT P t).isSome=true,.x (.one (.int .i64 0))):=rfl
@[simp] theorem alen_list (z:Nat) (xs:List (List CV)):alen P s t (p,.x (.one (.list z xs)))=(p∧(sliceT P t).isSome=true,.x (.one (.int .i64 xs.length))):=rfl
@[simp] theorem alen_alias (i:Nat):alen P s t (p,.alias i)=lenO p ((sliceT P t).isSome=true) ((mapT P t).isSome=true) (s i):=by
 simp only [alen,lenO]
 cases s i<;>rfl
end
def faddrK (k:Option (Nat×TK)) (x:Prop×AV):Prop×AV:=
 match k,x with
 | some (o,_),(p,.ptr i off)=>(p,.ptr i (off+o))
 | some (o,_),(p,.eptr i k off)=>(p,.eptr i k (off+o))
 | some (o,_),(p,.elem cs)=>(p,.elem (cs.drop o))
 | _,_=>(False,.dead)
@[simp] theorem faddrK_ptr (o:Nat) (k:TK) (p:Prop) (i off:Nat):faddrK (some (o,k)) (p,.ptr i off)=(p,.ptr i (off+o)):=rfl
@[simp] theorem faddrK_eptr (o:Nat) (k:TK) (p:Prop) (i j off:Nat):faddrK (some (o,k)) (p,.eptr i j off)=(p,.eptr i j (off+o)):=rfl
@[simp] theorem faddrK_elem (o:Nat) (k:TK) (p:Prop) (cs:List CV):faddrK (some (o,k)) (p,.elem cs)=(p,.elem (cs.drop o)):=rfl
@[simp] theorem afieldAddr_eq (P:Program) (t:TypeId) (f:Nat) (x:Prop×AV):afieldAddr P t f x=faddrK (fieldAt P t f) x:=rfl
def nilK (x:Prop×AV):Prop×AV:=match isPtr x.2 with
 | true=>x
 | false=>(False,.dead)
@[simp] theorem nilK_ptr (p:Prop) (i o:Nat):nilK (p,.ptr i o)=(p,.ptr i o):=rfl
@[simp] theorem nilK_elem (p:Prop) (cs:List CV):nilK (p,.elem cs)=(p,.elem cs):=rfl
def boundK:Prop×AV→Prop×Option Int
 | (p,.x (.one (.int _ n)))=>(p,some n)
 | _=>(False,none)
@[simp] theorem boundK_int (p:Prop) (k:IntKind) (n:Int):boundK (p,.x (.one (.int k n)))=(p,some n):=rfl
@[simp] theorem abound_none (s:St) (m:Int):abound s none m=(True,some m):=rfl
@[simp] theorem abound_some (s:St) (x:Operand) (m:Int):abound s (some x) m=boundK (sv s x):=rfl
def cutS (P:Program) (t:TypeId) (p:Prop) (l:List UInt8) (a b:Prop×Option Int):Prop×AV:=match a,b with
 | (q,some a),(r,some b)=>(p∧q∧r∧isStringT P t=true∧0≤a∧a≤b∧b≤l.length,.x (.one (.str (cutAt l a b))))
 | _,_=>(False,.dead)
@[simp] theorem cutS_some (P:Program) (t:TypeId) (p q r:Prop) (l:List UInt8) (a b:Int):cutS P t p l (q,some a) (r,some b)=(p∧q∧r∧isStringT P t=true∧0≤a∧a≤b∧b≤l.length,.x (.one (.str (cutAt l a b)))):=rfl
@[simp] theorem aslice_str (P:Program) (s:St) (t:TypeId) (p:Prop) (l:List UInt8) (lo hi:Option Operand):aslice P s t (p,.x (.one (.str l))) lo hi none=cutS P t p l (abound s lo 0) (abound s hi l.length):=by
 simp only [aslice,cutS]
 generalize abound s lo 0=u
 generalize abound s hi l.length=v
 obtain ⟨_,u⟩:=u
 obtain ⟨_,v⟩:=v
 cases u<;>cases v<;>rfl
def cutL (p d:Prop) (z:Nat) (xs:List (List CV)) (k:Option (TypeId×Nat)) (a b c:Prop×Option Int):Prop×AV:=match k,a,b,c with
 | some (_,size),(q,some a),(r,some b),(u,some c)=>(p∧q∧r∧u∧z=size∧0≤a∧a≤b∧b≤c∧c≤xs.length∧d,.x (.one (.list z (cutAt xs a b))))
 | _,_,_,_=>(False,.dead)
@[simp] theorem cutL_some (p d q r u:Prop) (t:TypeId) (z size:Nat) (xs:List (List CV)) (a b c:Int):cutL p d z xs (some (t,size)) (q,some a) (r,some b) (u,some c)=(p∧q∧r∧u∧z=size∧0≤a∧a≤b∧b≤c∧c≤xs.length∧d,.x (.one (.list z (cutAt xs a b)))):=rfl
@[simp] theorem aslice_list (P:Program) (s:St) (t:TypeId) (p:Prop) (z:Nat) (xs:List (List CV)) (lo hi mx:Option Operand):aslice P s t (p,.x (.one (.list z xs))) lo hi mx=cutL p (hi=none→mx=none) z xs (sliceT P t) (abound s lo 0) (abound s hi xs.length) (abound s mx xs.length):=by
 simp only [aslice,cutL]
 generalize abound s lo 0=u
 generalize abound s hi xs.length=v
 generalize abound s mx xs.length=m
 generalize sliceT P t=k
 obtain ⟨_,u⟩:=u
 obtain ⟨_,v⟩:=v
 obtain ⟨_,m⟩:=m
 cases u<;>cases v<;>cases m<;>cases k<;>rfl
def buildK (k:Option (List CV×List (Nat×Nat))) (parts:List (Nat×(Prop×AV))):Prop×AV:=match k with
 | some (cs,places)=>((fillC places cs parts).1,.x (.agg (fillC places cs parts).2))
 | none=>(False,.dead)
def fillR (r:Prop×List CV):Prop×AV:=(r.1,.x (.agg r.2))
@[simp] theorem fillR_mk (p:Prop) (cs:List CV):fillR (p,cs)=(p,.x (.agg cs)):=rfl
@[simp] theorem buildK_some (cs:List CV) (places:List (Nat×Nat)) (parts:List (Nat×(Prop×AV))):buildK (some (cs,places)) parts=fillR (fillC places cs parts):=rfl
@[simp] theorem abuild_eq (P:Program) (f:Operand→Prop×AV) (t:TypeId) (parts:List (Nat×Operand)):abuild P f t parts=buildK (buildT P t) (parts.map fun x=>(x.1,f x.2)):=rfl
def fillP (p q:Prop) (r:Prop×List CV):Prop×List CV:=(p∧q∧r.1,r.2)
@[simp] theorem fillP_mk (p q r:Prop) (cs:List CV):fillP p q (r,cs)=(p∧q∧r,cs):=rfl
def fillO (places:List (Nat×Nat)) (cells:List CV) (r:List (Nat×(Prop×AV))) (p:Prop) (vs:List CV):Option (Nat×Nat)→Prop×List CV
 | some (off,size)=>fillP p (vs.length=size∧off+size≤cells.length) (fillC places (setRange cells off vs) r)
 | none=>(False,cells)
@[simp] theorem fillO_some (places:List (Nat×Nat)) (cells:List CV) (r:List (Nat×(Prop×AV))) (p:Prop) (vs:List CV) (off size:Nat):fillO places cells r p vs (some (off,size))=fillP p (vs.length=size∧off+size≤cells.length) (fillC places (setRange cells off vs) r):=rfl
@[simp] theorem fillC_nil (places:List (Nat×Nat)) (cells:List CV):fillC places cells []=(True,cells):=by simp only [fillC]
@[simp] theorem fillC_cons (places:List (Nat×Nat)) (cells:List CV) (i:Nat) (p:Prop) (xv:XV) (r:List (Nat×(Prop×AV))):fillC places cells ((i,(p,.x xv))::r)=fillO places cells r p xv.cells (places[i]?):=by
 simp only [fillC]
 cases places[i]? with
 | none=>rfl
 | some x=>simp only [fillO,fillP,and_assoc]
def rowK (len:Nat) (parts:List (Nat×(Prop×AV))):Option (TypeId×Nat×List CV)→Prop×AV
 | some (e,size,z)=>(len*size≤16777216∧(fillX size (List.replicate len z) parts).1,.own e size (fillX size (List.replicate len z) parts).2)
 | none=>(False,.dead)
@[simp] theorem rowK_some (len:Nat) (parts:List (Nat×(Prop×AV))) (e:TypeId) (size:Nat) (z:List CV):rowK len parts (some (e,size,z))=(len*size≤16777216∧(fillX size (List.replicate len z) parts).1,.own e size (fillX size (List.replicate len z) parts).2):=rfl
@[simp] theorem abuildSlice_eq (P:Program) (f:Operand→Prop×AV) (t:TypeId) (len:Nat) (parts:List (Nat×Operand)):abuildSlice P f t len parts=rowK len (parts.map fun x=>(x.1,f x.2)) (rowT P t):=by
 unfold abuildSlice rowK
 rfl
def unlB (s:St) (i off m:Nat):Bool→St
 | true=>unlink s i off m
 | false=>s
@[congr] theorem unlB_congr {s:St} {i off m:Nat} {b b':Bool} (h:b=b'):unlB s i off m b=unlB s i off m b':=by rw [h]
@[simp] theorem unlB_false (s:St) (i off m:Nat):unlB s i off m false=s:=rfl
def storeB (s:St) (p q:Prop) (i off m:Nat) (vs:List CV):AV→Prop×St
 | .box cs=>(p∧q∧vs.length=m∧off+m≤cs.length,upd (unlB s i off m (anyIn cs off m)) i (.box (setRange cs off vs)))
 | .gbox b cs=>(p∧q∧vs.length=m∧off+m≤cs.length,upd (unlB s i off m (anyIn cs off m)) i (.gbox b (setRange cs off vs)))
 | _=>(False,s)
@[congr] theorem storeB_congr {s:St} {p q:Prop} {i off m:Nat} {vs:List CV} {a a':AV} (h:a=a'):storeB s p q i off m vs a=storeB s p q i off m vs a':=by rw [h]
@[simp] theorem storeB_box (s:St) (p q:Prop) (i off m:Nat) (vs cs:List CV):storeB s p q i off m vs (.box cs)=(p∧q∧vs.length=m∧off+m≤cs.length,upd (unlB s i off m (anyIn cs off m)) i (.box (setRange cs off vs))):=rfl
@[simp] theorem storeB_gbox (s:St) (p q:Prop) (i off m b:Nat) (vs cs:List CV):storeB s p q i off m vs (.gbox b cs)=(p∧q∧vs.length=m∧off+m≤cs.length,upd (unlB s i off m (anyIn cs off m)) i (.gbox b (setRange cs off vs))):=rfl
def storeE (s:St) (p q:Prop) (i k off m:Nat) (vs:List CV):AV→Prop×St
 | .own e size xs=>(p∧q∧vs.length=m∧k<xs.length∧off+m≤size,upd s i (.own e size (xs.set k (setRange (xs.getD k []) off vs))))
 | _=>(False,s)
@[congr] theorem storeE_congr {s:St} {p q:Prop} {i k off m:Nat} {vs:List CV} {a a':AV} (h:a=a'):storeE s p q i k off m vs a=storeE s p q i k off m vs a':=by rw [h]
@[simp] theorem storeE_own (s:St) (p q:Prop) (i k off m e size:Nat) (vs:List CV) (xs:List (List CV)):storeE s p q i k off m vs (.own e size xs)=(p∧q∧vs.length=m∧k<xs.length∧off+m≤size,upd s i (.own e size (xs.set k (setRange (xs.getD k []) off vs)))):=rfl
def storeK (s:St) (addr x:Prop×AV) (m:Option Nat):Prop×St:=
 match addr,x,m with
 | (p,.ptr i off),(q,.x xv),some m=>storeB s p q i off m xv.cells (s i)
 | (p,.eptr i k off),(q,.x xv),some m=>storeE s p q i k off m xv.cells (s i)
 | _,_,_=>(False,s)
@[congr] theorem storeK_congr {s:St} {a a' x x':Prop×AV} {m m':Option Nat} (h1:a=a') (h2:x=x') (h3:m=m'):storeK s a x m=storeK s a' x' m':=by rw [h1,h2,h3]
@[simp] theorem storeK_ptr (s:St) (p q:Prop) (i off m:Nat) (xv:XV):storeK s (p,.ptr i off) (q,.x xv) (some m)=storeB s p q i off m xv.cells (s i):=rfl
@[simp] theorem storeK_eptr (s:St) (p q:Prop) (i k off m:Nat) (xv:XV):storeK s (p,.eptr i k off) (q,.x xv) (some m)=storeE s p q i k off m xv.cells (s i):=rfl
@[simp] theorem astore_eq (P:Program) (s:St) (t:TypeId) (addr x:Prop×AV):astore P s t addr x=storeK s addr x (tk P t).cells:=by
 obtain ⟨p,a⟩:=addr
 obtain ⟨q,v⟩:=x
 unfold astore storeK storeB storeE
 generalize (tk P t).cells=m
 cases a<;>cases v<;>cases m<;>try rfl
 dsimp only
 cases s _<;>try rfl
 ·dsimp only
  cases anyIn _ _ _<;>rfl
 ·dsimp only
  cases anyIn _ _ _<;>rfl
def newsO (size:Nat):AV→Option (List (List CV))
 | .own _ z ys=>if z=size then some ys else none
 | _=>none
@[simp] theorem newsO_own (size e z:Nat) (ys:List (List CV)):newsO size (.own e z ys)=if z=size then some ys else none:=rfl
@[simp] theorem newsOf_empty (s:St) (size z:Nat):newsOf s size (.x (.one (.empty z)))=if z=size then some [] else none:=rfl
@[simp] theorem newsOf_list (s:St) (size z:Nat) (ys:List (List CV)):newsOf s size (.x (.one (.list z ys)))=if z=size then some ys else none:=rfl
@[simp] theorem newsOf_alias (s:St) (size j:Nat):newsOf s size (.alias j)=newsO size (s j):=by
 unfold newsOf newsO
 rfl
def srcO (i:Nat):AV→Option (Option Nat×Option TypeId×Nat×List (List CV))
 | .own e size xs=>some (some i,some e,size,xs)
 | .gown _ e size xs=>some (some i,some e,size,xs)
 | _=>none
@[simp] theorem srcO_gown (i e size:Nat) (g:Value) (xs:List (List CV)):srcO i (.gown g e size xs)=some (some i,some e,size,xs):=rfl
@[simp] theorem srcO_own (i e size:Nat) (xs:List (List CV)):srcO i (.own e size xs)=some (some i,some e,size,xs):=rfl
@[simp] theorem sourceOf_nil (s:St):sourceOf s (.x (.one .nil))=some (none,none,0,[]):=rfl
@[simp] theorem sourceOf_alias (s:St) (i:Nat):sourceOf s (.alias i)=srcO i (s i):=by
 unfold sourceOf srcO
 rfl
def zeroA (s:St) (q:Prop) (k:Option IntKind) (e size:Nat) (zc:List CV) (z:Option Int) (bytes:Nat):Prop×St×AV:=
 match z with
 | some n=>(q∧k.isSome=true∧0<n∧n*bytes≤140737488355328∧n≤maxLen,s,.own e size (List.replicate n.toNat zc))
 | none=>(False,s,.dead)
def appO (s:St) (p:Prop) (e size:Nat) (b:Option Nat) (src:Option (Option Nat×Option TypeId×Nat×List (List CV))) (news:Option (List (List CV))) (zr:Nat→Prop×St×AV):Prop×St×AV:=
 match b,src,news with
 | some bytes,some (some i,some e',size',xs),some ys=>(p∧e'=e∧size'=size∧(xs.length+ys.length)*bytes≤140737488355328∧xs.length+ys.length≤maxLen,put s i .dead,.own e size (xs++ys))
 | some bytes,some (none,_,_,_),some ys=>(p∧ys.length*bytes≤140737488355328∧ys.length≤maxLen,s,.own e size ys)
 | some bytes,some (none,_,_,_),none=>zr bytes
 | _,_,_=>(False,s,.dead)
@[congr] theorem appO_congr {s:St} {p:Prop} {e size:Nat} {b b':Option Nat} {src src':Option (Option Nat×Option TypeId×Nat×List (List CV))} {news news':Option (List (List CV))} {zr:Nat→Prop×St×AV} (h1:b=b') (h2:src=src') (h3:news=news'):appO s p e size b src news zr=appO s p e size b' src' news' zr:=by rw [h1,h2,h3]
@[simp] theorem appO_own (s:St) (p:Prop) (e size bytes i e' size':Nat) (xs ys:List (List CV)) (zr:Nat→Prop×St×AV):appO s p e size (some bytes) (some (some i,some e',size',xs)) (some ys) zr=(p∧e'=e∧size'=size∧(xs.length+ys.length)*bytes≤140737488355328∧xs.length+ys.length≤maxLen,put s i .dead,.own e size (xs++ys)):=rfl
@[simp] theorem appO_nil (s:St) (p:Prop) (e size bytes:Nat) (a:Option TypeId) (b:Nat) (c ys:List (List CV)) (zr:Nat→Prop×St×AV):appO s p e size (some bytes) (some (none,a,b,c)) (some ys) zr=(p∧ys.length*bytes≤140737488355328∧ys.length≤maxLen,s,.own e size ys):=rfl
def appK (P:Program) (s:St) (p q:Prop) (t':TypeId) (x y:AV):Option (TypeId×Nat×List CV)→Prop×St×AV
 | some (e,size,zc)=>appO s p e size (bytesT P e) (sourceOf s x) (newsOf s size y) (zeroA s q (intT P t') e size zc (zerosOf y))
 | none=>(False,s,.dead)
def pairP (P:Program) (s:St) (t t':TypeId) (x y:Prop×AV) (k:Option (TypeId×Nat×List CV)):Prop×St×AV:=appK P s (x.1∧y.1∧t=t') (x.1∧y.1) t' x.2 y.2 k
@[congr] theorem pairP_congr {P:Program} {s:St} {t t':TypeId} {x x' y y':Prop×AV} {k k':Option (TypeId×Nat×List CV)} (h1:x=x') (h2:y=y') (h3:k=k'):pairP P s t t' x y k=pairP P s t t' x' y' k':=by rw [h1,h2,h3]
@[simp] theorem pairP_mk (P:Program) (s:St) (t t':TypeId) (p q:Prop) (x y:AV) (e size:Nat) (z:List CV):pairP P s t t' (p,x) (q,y) (some (e,size,z))=appO s (p∧q∧t=t') e size (bytesT P e) (sourceOf s x) (newsOf s size y) (zeroA s (p∧q) (intT P t') e size z (zerosOf y)):=rfl
theorem aappend0_eq (P:Program) (s:St) (t t':TypeId) (x y:Prop×AV):aappend0 P s t t' x y=pairP P s t t' x y (rowT P t):=by
 unfold aappend0 pairP appK appO zeroA
 split
 ·rename_i e size z h
  rw [h]
  simp only
  split
  ·simp_all [and_assoc]
  ·simp_all [and_assoc]
  ·rename_i h1 h2 h3
   rw [h1,h2,h3]
   simp only
   split<;>simp_all [and_assoc]
  ·rename_i h1 h2 h3
   split
   ·rename_i a b c;exact absurd c (h1 _ _ _ _ _ _ a b)
   ·rename_i a b c;exact absurd c (h2 _ _ _ _ _ a b)
   ·rename_i a b c;exact absurd c (h3 _ _ _ _ a b)
   ·rfl
 ·rename_i h
  rw [h]
def strA (P:Program) (s:St) (t':TypeId) (p q:Prop) (l:List UInt8) (row:Option (TypeId×Nat×List CV)) (src:Option (Option Nat×Option TypeId×Nat×List (List CV))):Prop×St×AV:=
 match row,src with
 | some (e,size,_),some (some i,some e',size',xs)=>(p∧q∧isStringT P t'=true∧byteT P e=true∧e'=e∧size'=size∧size=1∧xs.length+l.length≤140737488355328,put s i .dead,.own e size (xs++byteRows l))
 | some (e,size,_),some (none,_,_,_)=>(p∧q∧isStringT P t'=true∧byteT P e=true∧size=1∧l.length≤140737488355328,s,.own e size (byteRows l))
 | _,_=>(False,s,.dead)
@[congr] theorem strA_congr {P:Program} {s:St} {t':TypeId} {p q:Prop} {l:List UInt8} {row row':Option (TypeId×Nat×List CV)} {src src':Option (Option Nat×Option TypeId×Nat×List (List CV))} (h1:row=row') (h2:src=src'):strA P s t' p q l row src=strA P s t' p q l row' src':=by rw [h1,h2]
@[simp] theorem strA_own (P:Program) (s:St) (t':TypeId) (p q:Prop) (l:List UInt8) (e size:Nat) (z:List CV) (i e' size':Nat) (xs:List (List CV)):strA P s t' p q l (some (e,size,z)) (some (some i,some e',size',xs))=(p∧q∧isStringT P t'=true∧byteT P e=true∧e'=e∧size'=size∧size=1∧xs.length+l.length≤140737488355328,put s i .dead,.own e size (xs++byteRows l)):=rfl
@[simp] theorem strA_nil (P:Program) (s:St) (t':TypeId) (p q:Prop) (l:List UInt8) (e size:Nat) (z:List CV) (a:Option TypeId) (b:Nat) (c:List (List CV)):strA P s t' p q l (some (e,size,z)) (some (none,a,b,c))=(p∧q∧isStringT P t'=true∧byteT P e=true∧size=1∧l.length≤140737488355328,s,.own e size (byteRows l)):=rfl
def appY (P:Program) (s:St) (t t':TypeId) (x y:Prop×AV) (o:Option (List UInt8)):Prop×St×AV:=match o with
 | some l=>strA P s t' x.1 y.1 l (rowT P t) (sourceOf s x.2)
 | none=>pairP P s t t' x y (rowT P t)
@[congr] theorem appY_congr {P:Program} {s:St} {t t':TypeId} {x x' y y':Prop×AV} {o o':Option (List UInt8)} (h1:x=x') (h2:y=y') (h3:o=o'):appY P s t t' x y o=appY P s t t' x' y' o':=by rw [h1,h2,h3]
@[simp] theorem appY_some (P:Program) (s:St) (t t':TypeId) (p q:Prop) (x y:AV) (l:List UInt8):appY P s t t' (p,x) (q,y) (some l)=strA P s t' p q l (rowT P t) (sourceOf s x):=rfl
@[simp] theorem appY_none (P:Program) (s:St) (t t':TypeId) (x y:Prop×AV):appY P s t t' x y none=pairP P s t t' x y (rowT P t):=rfl
@[simp] theorem aappend_eq (P:Program) (s:St) (t t':TypeId) (x y:Prop×AV):aappend P s t t' x y=appY P s t t' x y (strOf y.2):=by
 unfold aappend appY
 cases strOf y.2 with
 | none=>exact aappend0_eq P s t t' x y
 | some l =>
  unfold aappendS strA
  rfl
@[simp] theorem strOf_str (l:List UInt8):strOf (.x (.one (.str l)))=some l:=rfl
@[simp] theorem strOf_empty (z:Nat):strOf (.x (.one (.empty z)))=none:=rfl
@[simp] theorem strOf_list (z:Nat) (xs:List (List CV)):strOf (.x (.one (.list z xs)))=none:=rfl
@[simp] theorem strOf_alias (i:Nat):strOf (.alias i)=none:=rfl
@[simp] theorem okB_bytes (l:List UInt8):okB (byteRows l)=True:=by
 apply propext
 refine ⟨fun _=>trivial,fun _ x hx=>?_⟩
 simp only [byteRows,List.mem_map] at hx
 obtain ⟨b,_,rfl⟩:=hx
 exact ⟨_,rfl⟩
@[simp] theorem strB_bytes (l:List UInt8):strB (byteRows l)=l:=by
 unfold strB byteRows
 induction l with
 | nil=>rfl
 | cons b r ih =>
  simp only [List.map_cons,cellB]
  rw [ih]
  simp
@[simp] theorem byteRows_nil:byteRows []=[]:=rfl
theorem byteRows_append (a b:List UInt8):byteRows (a++b)=byteRows a++byteRows b:=by simp [byteRows]
@[simp] theorem byteRows_at (l:List UInt8) (i:Nat):(byteRows l)[i]?=(l[i]?).map byteRow:=by simp [byteRows]
@[simp] theorem byteRows_take (l:List UInt8) (k:Nat):(byteRows l).take k=byteRows (l.take k):=by simp [byteRows]
@[simp] theorem byteRows_set (l:List UInt8) (i:Nat) (b:UInt8):(byteRows l).set i [.int .u8 b.toNat]=byteRows (l.set i b):=by simp [byteRows]
def clearO (s:St) (p:Prop) (i lo len size:Nat) (zc:List CV):AV→Prop×St
 | .own e size' xs=>(p∧size'=size,upd s i (.own e size' (xs.take lo++List.replicate len zc++xs.drop (lo+len))))
 | _=>(False,s)
@[congr] theorem clearO_congr {s:St} {p:Prop} {i lo len size:Nat} {zc:List CV} {v v':AV} (h:v=v'):clearO s p i lo len size zc v=clearO s p i lo len size zc v':=by rw [h]
def clearK (s:St) (k:Option (TypeId×Nat×List CV)) (x:Prop×AV):Prop×St:=
 match k,x with
 | some (_,size,zc),(p,.view i lo len _)=>clearO s p i lo len size zc (s i)
 | _,_=>(False,s)
@[congr] theorem clearK_congr {s:St} {k k':Option (TypeId×Nat×List CV)} {x x':Prop×AV} (h1:k=k') (h2:x=x'):clearK s k x=clearK s k' x':=by rw [h1,h2]
def afterK (s:St) (args:List Operand):Bool→St
 | true=>s
 | false=>freezeL s (lends s args)
@[congr] theorem afterK_congr {s:St} {args:List Operand} {b b':Bool} (h:b=b'):afterK s args b=afterK s args b':=by rw [h]
@[simp] theorem afterK_true (s:St) (args:List Operand):afterK s args true=s:=rfl
@[simp] theorem afterK_false (s:St) (args:List Operand):afterK s args false=freezeL s (lends s args):=rfl
@[simp] theorem afterCall_eq (s:St) (args:List Operand) (r:RV):afterCall s args r=afterK s args r.flat:=by
 unfold afterCall afterK
 cases r.flat<;>rfl
def lendC:List (CV ⊕ (Nat×Nat))→List Nat→List Nat
 | [],l=>l
 | .inl _::r,l=>lendC r l
 | .inr p::r,l=>p.1::lendC r l
@[simp] theorem lendC_nil (l:List Nat):lendC [] l=l:=rfl
@[simp] theorem lendC_inl (c:CV) (r:List (CV ⊕ (Nat×Nat))) (l:List Nat):lendC (.inl c::r) l=lendC r l:=rfl
@[simp] theorem lendC_inr (p:Nat×Nat) (r:List (CV ⊕ (Nat×Nat))) (l:List Nat):lendC (.inr p::r) l=p.1::lendC r l:=rfl
theorem lendC_eq:∀(caps:List (CV ⊕ (Nat×Nat))) (l:List Nat),lendC caps l=caps.filterMap capSlot++l
 | [],l=>rfl
 | .inl c::r,l=>by rw [lendC_inl,lendC_eq r l];simp [List.filterMap_cons,capSlot]
 | .inr p::r,l=>by rw [lendC_inr,lendC_eq r l];simp [List.filterMap_cons,capSlot]
def lendK:AV→List Nat→List Nat
 | .alias i,l=>i::l
 | .view i _ _ _,l=>i::l
 | .cloR _ caps,l=>lendC caps l
 | _,l=>l
@[simp] theorem lends_nil (s:St):lends s []=[]:=rfl
@[simp] theorem lends_cons (s:St) (x:Operand) (r:List Operand):lends s (x::r)=lendK (sv s x).2 (lends s r):=by
 simp only [lends,lendK,lendsOf]
 generalize (sv s x).2=v
 cases v<;>first | rfl | (simp only [lendC_eq])
@[simp] theorem lendK_alias (i:Nat) (l:List Nat):lendK (.alias i) l=i::l:=rfl
@[simp] theorem lendK_x (v:XV) (l:List Nat):lendK (.x v) l=l:=rfl
def cloKC:AV→List Nat→List Nat
 | .cloR _ caps,l=>lendC caps l
 | _,l=>l
@[simp] theorem lendsC_eq (s:St) (l:List Operand):lendsC s l=outOf (lentS s l) (lendsC0 s l):=rfl
@[simp] theorem outOf_nil (l:List Nat):outOf l []=[]:=rfl
@[simp] theorem outOf_cons (l m:List Nat) (i:Nat):outOf l (i::m)=bif l.contains i then outOf l m else i::outOf l m:=by
 simp only [outOf,List.filter_cons]
 cases l.contains i<;>rfl
def ptrSK:AV→List Nat→List Nat
 | .ptr i 0,l=>i::l
 | _,l=>l
@[simp] theorem ptrSK_ptr (i:Nat) (l:List Nat):ptrSK (.ptr i 0) l=i::l:=rfl
@[simp] theorem ptrSK_x (v:XV) (l:List Nat):ptrSK (.x v) l=l:=rfl
@[simp] theorem ptrSK_alias (i:Nat) (l:List Nat):ptrSK (.alias i) l=l:=rfl
@[simp] theorem ptrSK_cloR (f:FuncId) (caps:List (CV ⊕ (Nat×Nat))) (l:List Nat):ptrSK (.cloR f caps) l=l:=rfl
@[simp] theorem lentS_nil (s:St):lentS s []=[]:=rfl
@[simp] theorem lentS_cons (s:St) (x:Operand) (r:List Operand):lentS s (x::r)=ptrSK (sv s x).2 (lentS s r):=by
 simp only [lentS,ptrSK,ptrSlot]
 generalize (sv s x).2=v
 cases v<;>first | rfl | skip
 rename_i i o
 cases o<;>rfl
@[simp] theorem lendsC_nil (s:St):lendsC0 s []=[]:=rfl
@[simp] theorem lendsC_cons (s:St) (x:Operand) (r:List Operand):lendsC0 s (x::r)=cloKC (sv s x).2 (lendsC0 s r):=by
 simp only [lendsC0,cloKC,cloSlots]
 generalize (sv s x).2=v
 cases v<;>first | rfl | (simp only [lendC_eq])
@[simp] theorem cloKC_alias (i:Nat) (l:List Nat):cloKC (.alias i) l=l:=rfl
@[simp] theorem cloKC_ptr (i o:Nat) (l:List Nat):cloKC (.ptr i o) l=l:=rfl
@[simp] theorem cloKC_cloR (f:FuncId) (caps:List (CV ⊕ (Nat×Nat))) (l:List Nat):cloKC (.cloR f caps) l=lendC caps l:=rfl
@[simp] theorem cloKC_x (v:XV) (l:List Nat):cloKC (.x v) l=l:=rfl
@[congr] theorem withC_congr {s:St} {l l':List Nat} {k:St→Prop} (h:l=l'):withC s l k=withC s l' k:=by rw [h]
@[simp] theorem withC_nil (s:St) (k:St→Prop):withC s [] k=k s:=rfl
@[simp] theorem freezeL_nil (s:St):freezeL s []=s:=rfl
@[simp] theorem freezeL_cons (s:St) (i:Nat) (l:List Nat):freezeL s (i::l)=freezeL (freeze s i) l:=rfl
def thaw (s:St) (i:Nat) (a:AV):St:=fun j=>if (s j).refs i then thawRef a (s j) else s j
@[simp] theorem thaw_at (s:St) (i:Nat) (a:AV) (j:Nat):thaw s i a j=if (s j).refs i then thawRef a (s j) else s j:=rfl
@[simp] theorem thawRef_ptr (cs:List CV) (i off:Nat):thawRef (.box cs) (.ptr i off)=.elem (cs.drop off):=rfl
@[simp] theorem thawRef_eptr (cs:List CV) (i k off:Nat):thawRef (.box cs) (.eptr i k off)=.dead:=rfl
@[simp] theorem thawRef_alias (cs:List CV) (i:Nat):thawRef (.box cs) (.alias i)=.dead:=rfl
@[simp] theorem thawRef_view (cs:List CV) (i lo len:Nat) (wh:Bool):thawRef (.box cs) (.view i lo len wh)=.dead:=rfl
@[simp] theorem thawRef_cloR (cs:List CV) (f:FuncId) (i:Nat):thawRef (.box cs) (.cloR f [.inr (i,0)])=.x (.one (.clo f [.ref cs])):=rfl
@[simp] theorem thawRef_cloR2 (cs:List CV) (f:FuncId) (c c':CV ⊕ (Nat×Nat)) (r:List (CV ⊕ (Nat×Nat))):thawRef (.box cs) (.cloR f (c::c'::r))=.dead:=by
 rcases thawRef_spec (.box cs) (.cloR f (c::c'::r)) with e | ⟨_,_,_,_,e,_⟩ | ⟨_,_,_,_,e,_⟩
 ·exact e
 ·cases e
 ·cases e
@[simp] theorem thawRef_own (e z:Nat) (xs:List (List CV)) (x:AV):thawRef (.own e z xs) x=.dead:=rfl
@[simp] theorem thawRef_elem (cs:List CV) (x:AV):thawRef (.elem cs) x=.dead:=rfl
@[simp] theorem thawRef_x (v:XV) (x:AV):thawRef (.x v) x=.dead:=rfl
@[simp] theorem freeze_eq (s:St) (i:Nat):freeze s i=upd (thaw s i (s i)) i (frozenAV (s i)):=by
 funext j
 simp only [freeze,upd_at,thaw_at]
@[simp] theorem frozenAV_box (cs:List CV):frozenAV (.box cs)=.elem cs:=rfl
@[simp] theorem frozenAV_list (e z:Nat) (xs:List (List CV)):frozenAV (.own e z xs)=.x (.one (.list z xs)):=rfl
def linkV (i off:Nat) (p:Prop):AV→Prop×AV
 | .link i' o d=>match i'==i&&o==off with
  | true=>(p,.alias d)
  | false=>(p,.x (.one .any))
 | _=>(p,.x (.one .any))
@[congr] theorem linkV_congr {i off:Nat} {p:Prop} {v v':AV} (h:v=v'):linkV i off p v=linkV i off p v':=by rw [h]
@[simp] theorem linkV_link (i off:Nat) (p:Prop) (d:Nat):linkV i off p (.link i off d)=(p,.alias d):=by simp [linkV]
@[simp] theorem linkLoad_any (s:St) (i off:Nat) (p:Prop):linkLoad s (.ptr i off) (p,.x (.one .any))=linkV i off p (s (LK i off)):=by
 unfold linkLoad linkV
 dsimp only
 cases s (LK i off)<;>rfl
attribute [simp] linkLoad_elem
@[simp] theorem linkLoad_agg (s:St) (r:AV) (p:Prop) (cs:List CV):linkLoad s r (p,.x (.agg cs))=(p,.x (.agg cs)):=rfl
@[simp] theorem linkLoad_bool (s:St) (r:AV) (p:Prop) (b:Bool):linkLoad s r (p,.x (.one (.bool b)))=(p,.x (.one (.bool b))):=rfl
@[simp] theorem linkLoad_int (s:St) (r:AV) (p:Prop) (k:IntKind) (n:Int):linkLoad s r (p,.x (.one (.int k n)))=(p,.x (.one (.int k n))):=rfl
@[simp] theorem linkLoad_str (s:St) (r:AV) (p:Prop) (l:List UInt8):linkLoad s r (p,.x (.one (.str l)))=(p,.x (.one (.str l))):=rfl
@[simp] theorem linkLoad_nil (s:St) (r:AV) (p:Prop):linkLoad s r (p,.x (.one .nil))=(p,.x (.one .nil)):=rfl
@[simp] theorem linkLoad_list (s:St) (r:AV) (p:Prop) (z:Nat) (l:List (List CV)):linkLoad s r (p,.x (.one (.list z l)))=(p,.x (.one (.list z l))):=rfl
section
variable (P:Program) (s:St)
@[simp] theorem aval2_move (x:Operand):aval2 P s (.move x)=sv s x:=rfl
@[simp] theorem aval2_assign (x:Operand):aval2 P s (.assign x)=(True,look s x):=rfl
@[simp] theorem aval2_pick (c a b:Operand):aval2 P s (.pick c a b)=apick (sv s c) (sv s a) (sv s b):=rfl
@[simp] theorem aval2_load (t:TypeId) (x:Operand):aval2 P s (.load t x)=loadV P s t (sv s x):=rfl
def indV (i off:Nat) (p:Prop):TK→Prop×AV
 | .one=>(p,.ptr i off)
 | _=>(False,.dead)
@[simp] theorem indV_one (i off:Nat) (p:Prop):indV i off p .one=(p,.ptr i off):=rfl
@[simp] theorem loadV_ptr2 (t:TypeId) (p:Prop) (i off:Nat):loadV P s t (p,.ptr2 i off)=indV i off p (tk P t):=by
 unfold loadV indV
 dsimp only
 cases tk P t<;>rfl
@[simp] theorem loadV_ptr (t:TypeId) (p:Prop) (i off:Nat):loadV P s t (p,.ptr i off)=linkLoad s (.ptr i off) (aload (tk P t) (zeroX P t) p (mem s (.ptr i off))):=rfl
@[simp] theorem loadV_eptr (t:TypeId) (p:Prop) (i k off:Nat):loadV P s t (p,.eptr i k off)=linkLoad s (.eptr i k off) (aload (tk P t) (zeroX P t) p (mem s (.eptr i k off))):=rfl
@[simp] theorem loadV_elem (t:TypeId) (p:Prop) (cs:List CV):loadV P s t (p,.elem cs)=linkLoad s (.elem cs) (aload (tk P t) (zeroX P t) p (mem s (.elem cs))):=rfl
@[simp] theorem aval2_nilCheck (x:Operand):aval2 P s (.nilCheck x)=nilK (sv s x):=rfl
@[simp] theorem aval2_binOp (op:BinOp) (t t':TypeId) (x y:Operand):aval2 P s (.binOp op t x y t')=abinO P s op t x y:=rfl
@[simp] theorem abinO_tmp (op:BinOp) (t:TypeId) (x:Operand) (i:Nat):abinO P s op t x (.tmp i)=abinX P op t (sv s x) (sv s (.tmp i)):=rfl
@[simp] theorem abinO_int (op:BinOp) (t:TypeId) (x:Operand) (k:IntKind) (i:Int):abinO P s op t x (.const (.int k i))=abinX P op t (sv s x) (sv s (.const (.int k i))):=rfl
@[simp] theorem abinO_str (op:BinOp) (t:TypeId) (x:Operand) (b:ByteArray):abinO P s op t x (.const (.string b))=abinX P op t (sv s x) (sv s (.const (.string b))):=rfl
@[simp] theorem abinO_slice (op:BinOp) (t:TypeId) (x:Operand) (b:Option Addr) (l c:Nat):abinO P s op t x (.const (.slice b l c))=abinX P op t (sv s x) (sv s (.const (.slice b l c))):=rfl
@[simp] theorem aval2_unOp (op:UnOp) (t:TypeId) (x:Operand):aval2 P s (.unOp op t x)=aunop op (sv s x):=rfl
@[simp] theorem aval2_slice (t:TypeId) (x:Operand) (lo hi mx:Option Operand):aval2 P s (.slice t x lo hi mx)=aslice P s t (sv s x) lo hi mx:=rfl
@[simp] theorem aval2_fieldAddr (t:TypeId) (x:Operand) (f:Nat):aval2 P s (.fieldAddr t x f)=afieldAddr P t f (sv s x):=rfl
@[simp] theorem aval2_indexAddr (t:TypeId) (x i:Operand):aval2 P s (.indexAddr t x i)=aindexAddr P s t (sv s x) (sv s i):=rfl
@[simp] theorem aval2_index (t:TypeId) (x i:Operand):aval2 P s (.index t x i)=aindex P t (sv s x) (sv s i):=rfl
def lookF (p q:Prop) (kk:KK) (kx:XV) (es:List (XV×XV)) (ok:Bool):Option (Option Nat)→Option XV→Prop×AV
 | some r,some z=>(p∧q∧keyOk kk kx=true,lookV es z ok r)
 | _,_=>(False,.dead)
@[simp] theorem lookF_mk (p q:Prop) (kk:KK) (kx:XV) (es:List (XV×XV)) (ok:Bool) (r:Option Nat) (z:XV):lookF p q kk kx es ok (some r) (some z)=(p∧q∧keyOk kk kx=true,lookV es z ok r):=rfl
@[simp] theorem lookV_none (es:List (XV×XV)) (z:XV):lookV es z false none=.x z:=rfl
@[simp] theorem lookV_some (es:List (XV×XV)) (z:XV) (j:Nat):lookV es z false (some j)=.x ((es[j]?).getD (z,z)).2:=rfl
def lookO (p q:Prop) (kk:KK) (kx:XV) (ok:Bool) (z:Option XV):AV→Prop×AV
 | .mp _ _ es=>lookF p q kk kx es ok (findK kk kx es 0) z
 | _=>(False,.dead)
@[congr] theorem lookO_congr {p q:Prop} {kk:KK} {kx:XV} {ok:Bool} {z z':Option XV} {v v':AV} (h:z=z') (hv:v=v'):lookO p q kk kx ok z v=lookO p q kk kx ok z' v':=by rw [h,hv]
@[simp] theorem lookO_mp (p q:Prop) (kk:KK) (kx:XV) (ok:Bool) (z:Option XV) (c:Nat) (bs:List Nat) (es:List (XV×XV)):lookO p q kk kx ok z (.mp c bs es)=lookF p q kk kx es ok (findK kk kx es 0) z:=rfl
def lookupK (P:Program) (s:St) (kt:Option (KK×TypeId)) (x k:Prop×AV) (ok:Bool):Prop×AV:=
 match kt,x,k with
 | some (kk,e),(p,.alias i),(q,.x kx)=>lookO p q kk kx ok (zeroX P e) (s i)
 | _,_,_=>(False,.dead)
@[congr] theorem lookupK_congr {P:Program} {s:St} {kt kt':Option (KK×TypeId)} {x x' k k':Prop×AV} {ok:Bool} (h1:kt=kt') (h2:x=x') (h3:k=k'):lookupK P s kt x k ok=lookupK P s kt' x' k' ok:=by rw [h1,h2,h3]
@[simp] theorem lookupK_mk (P:Program) (s:St) (kk:KK) (e:TypeId) (p q:Prop) (i:Nat) (kx:XV) (ok:Bool):lookupK P s (some (kk,e)) (p,.alias i) (q,.x kx) ok=lookO p q kk kx ok (zeroX P e) (s i):=rfl
@[simp] theorem alookup_eq (P:Program) (s:St) (t:TypeId) (x k:Prop×AV) (ok:Bool):alookup P s t x k ok=lookupK P s (mapT P t) x k ok:=by
 unfold alookup lookupK lookO lookF
 rfl
def cloK (f:FuncId):Prop×Option (List CV)→Prop×Option (List (CV ⊕ (Nat×Nat)))→Prop×AV
 | (p,some cs),_=>(p,.x (.one (.clo f cs)))
 | _,(p,some cs)=>(p,.cloR f cs)
 | _,_=>(False,.dead)
@[congr] theorem cloK_congr {f:FuncId} {a a':Prop×Option (List CV)} {b:Prop×Option (List (CV ⊕ (Nat×Nat)))} (h:a=a'):cloK f a b=cloK f a' b:=by rw [h]
def cloKR (f:FuncId):Prop×Option (List (CV ⊕ (Nat×Nat)))→Prop×AV
 | (p,some cs)=>(p,.cloR f cs)
 | _=>(False,.dead)
@[simp] theorem cloKR_mk (f:FuncId) (p:Prop) (cs:List (CV ⊕ (Nat×Nat))):cloKR f (p,some cs)=(p,.cloR f cs):=rfl
@[simp] theorem cloK_none (f:FuncId) (p:Prop) (b:Prop×Option (List (CV ⊕ (Nat×Nat)))):cloK f (p,none) b=cloKR f b:=by
 obtain ⟨q,b⟩:=b
 cases b<;>rfl
def consC (a:Prop×AV) (b:Prop×Option (List CV)):Prop×Option (List CV):=match a,b with
 | (p,.x (.one c)),(q,some cs)=>(p∧q,some (c::cs))
 | _,_=>(False,none)
@[simp] theorem consC_ptr2 (p:Prop) (i o:Nat) (b:Prop×Option (List CV)):consC (p,.ptr2 i o) b=(False,none):=rfl
@[simp] theorem consC_ptr (p:Prop) (i o:Nat) (b:Prop×Option (List CV)):consC (p,.ptr i o) b=(False,none):=rfl
@[simp] theorem cellsR_nil:cellsR []=(True,some []):=rfl
@[simp] theorem cellsR_cons (x:Prop×AV) (r:List (Prop×AV)):cellsR (x::r)=consC x (cellsR r):=by
 obtain ⟨p,x⟩:=x
 cases x with
 | x v=>cases v with
  | one c =>
   simp only [cellsR,consC]
   generalize cellsR r=b
   obtain ⟨q,b⟩:=b
   cases b<;>rfl
  | agg cs=>rfl
 | _=>rfl
def consR (a:Prop×AV) (b:Prop×Option (List (CV ⊕ (Nat×Nat)))):Prop×Option (List (CV ⊕ (Nat×Nat))):=match a,b with
 | (p,.x (.one c)),(q,some cs)=>(p∧q,some (.inl c::cs))
 | (p,.ptr i off),(q,some cs)=>(p∧off<1000000∧q,some (.inr (i,off)::cs))
 | (p,.ptr2 i off),(q,some cs)=>(p∧q,some (.inr (i,off+1000000)::cs))
 | _,_=>(False,none)
@[simp] theorem consR_ptr (p q:Prop) (i off:Nat) (cs:List (CV ⊕ (Nat×Nat))):consR (p,.ptr i off) (q,some cs)=(p∧off<1000000∧q,some (.inr (i,off)::cs)):=rfl
@[simp] theorem consR_ptr2 (p q:Prop) (i off:Nat) (cs:List (CV ⊕ (Nat×Nat))):consR (p,.ptr2 i off) (q,some cs)=(p∧q,some (.inr (i,off+1000000)::cs)):=rfl
@[simp] theorem capsR_nil:capsR []=(True,some []):=rfl
@[simp] theorem capsR_cons (x:Prop×AV) (r:List (Prop×AV)):capsR (x::r)=consR x (capsR r):=by
 obtain ⟨p,x⟩:=x
 cases x with
 | x v=>cases v with
  | one c =>
   simp only [capsR,consR]
   generalize capsR r=b
   obtain ⟨q,b⟩:=b
   cases b<;>rfl
  | agg cs=>rfl
 | ptr i o =>
  simp only [capsR,consR]
  generalize capsR r=b
  obtain ⟨q,b⟩:=b
  cases b<;>rfl
 | ptr2 i o =>
  simp only [capsR,consR]
  generalize capsR r=b
  obtain ⟨q,b⟩:=b
  cases b<;>rfl
 | _=>rfl
@[simp] theorem aval2_makeFunc (f:FuncId) (cap:List Operand):aval2 P s (.makeFunc (.func f) ⟨[]⟩ ⟨cap⟩)=cloK f (cellsR (cap.map (sv s))) (capsR (cap.map (sv s))):=by
 show amakeFunc s (.func f) [] cap=_
 unfold amakeFunc cloK
 dsimp only
 split
 ·rename_i e;rw [e]
 ·rename_i hne
  generalize cellsR (cap.map (sv s))=a at hne
  generalize capsR (cap.map (sv s))=b
  obtain ⟨p,a⟩:=a
  obtain ⟨q,b⟩:=b
  cases a with
  | some cs=>exact absurd rfl (hne _ _)
  | none=>cases b<;>rfl
@[simp] theorem aval2_lookup (t:TypeId) (x k:Operand) (ok:Bool):aval2 P s (.lookup t x k ok)=alookup P s t (sv s x) (sv s k) ok:=rfl
@[simp] theorem aval2_extract (x:Operand) (f:Nat):aval2 P s (.extract x f)=aextract (sv s x) f:=rfl
@[simp] theorem aval2_build (t:TypeId) (parts:List (Nat×Operand)):aval2 P s (.build t ⟨parts⟩)=abuild P (sv s) t parts:=rfl
@[simp] theorem aval2_len (x:Operand) (t:TypeId):aval2 P s (.call ⟨.builtin .len,⟨[x]⟩,⟨[t]⟩⟩)=alen P s t (sv s x):=rfl
@[simp] theorem aval2_min (x y:Operand) (ts:Array TypeId):aval2 P s (.call ⟨.builtin .min,⟨[x,y]⟩,ts⟩)=amin (sv s x) (sv s y):=rfl
@[simp] theorem abuiltin_len (x:Operand) (t:TypeId):abuiltin P s (.builtin .len) [x] [t]=alen P s t (sv s x):=rfl
@[simp] theorem abuiltin_max (x y:Operand) (ts:List TypeId):abuiltin P s (.builtin .max) [x,y] ts=amax (sv s x) (sv s y):=rfl
@[simp] theorem abuiltin_min (x y:Operand) (ts:List TypeId):abuiltin P s (.builtin .min) [x,y] ts=amin (sv s x) (sv s y):=rfl
end
section
variable (P:Program) (s:St) (t:TypeId) (p q r:Prop)
@[simp] theorem abinX_int_shr (k k':IntKind) (a b:Int):abinX P .shr t (p,.x (.one (.int k a))) (q,.x (.one (.int k' b)))=(p∧q∧0≤b,.x (.one (.int k (a.fdiv (2 ^ (min b.toNat k.bits)))))):=rfl
@[simp] theorem abinX_int_add (k k':IntKind) (a b:Int):abinX P .add t (p,.x (.one (.int k a))) (q,.x (.one (.int k' b)))=(p∧q∧k=k',.x (.one (.int k (k.wrap (a+b))))):=rfl
@[simp] theorem abinX_int_sub (k k':IntKind) (a b:Int):abinX P .sub t (p,.x (.one (.int k a))) (q,.x (.one (.int k' b)))=(p∧q∧k=k',.x (.one (.int k (k.wrap (a-b))))):=rfl
@[simp] theorem abinX_int_mul (k k':IntKind) (a b:Int):abinX P .mul t (p,.x (.one (.int k a))) (q,.x (.one (.int k' b)))=(p∧q∧k=k',.x (.one (.int k (k.wrap (a*b))))):=rfl
@[simp] theorem abinX_int_quo (k k':IntKind) (a b:Int):abinX P .quo t (p,.x (.one (.int k a))) (q,.x (.one (.int k' b)))=(p∧q∧(k=k'∧b≠0),.x (.one (.int k (k.wrap (a.tdiv b))))):=rfl
@[simp] theorem abinX_int_rem (k k':IntKind) (a b:Int):abinX P .rem t (p,.x (.one (.int k a))) (q,.x (.one (.int k' b)))=(p∧q∧(k=k'∧b≠0),.x (.one (.int k (a.tmod b)))):=rfl
@[simp] theorem abinX_int_and (k k':IntKind) (a b:Int):abinX P .and t (p,.x (.one (.int k a))) (q,.x (.one (.int k' b)))=(p∧q∧k=k',.x (.one (.int k (bitsOf .and k a b)))):=rfl
@[simp] theorem abinX_int_xor (k k':IntKind) (a b:Int):abinX P .xor t (p,.x (.one (.int k a))) (q,.x (.one (.int k' b)))=(p∧q∧k=k',.x (.one (.int k (bitsOf .xor k a b)))):=rfl
@[simp] theorem abinX_int_eql (k k':IntKind) (a b:Int):abinX P .eql t (p,.x (.one (.int k a))) (q,.x (.one (.int k' b)))=(p∧q∧k=k',.x (.one (.bool (a==b)))):=rfl
@[simp] theorem abinX_int_neq (k k':IntKind) (a b:Int):abinX P .neq t (p,.x (.one (.int k a))) (q,.x (.one (.int k' b)))=(p∧q∧k=k',.x (.one (.bool (a != b)))):=rfl
@[simp] theorem abinX_int_lss (k k':IntKind) (a b:Int):abinX P .lss t (p,.x (.one (.int k a))) (q,.x (.one (.int k' b)))=(p∧q∧k=k',.x (.one (.bool (decide (a<b))))):=rfl
@[simp] theorem abinX_int_leq (k k':IntKind) (a b:Int):abinX P .leq t (p,.x (.one (.int k a))) (q,.x (.one (.int k' b)))=(p∧q∧k=k',.x (.one (.bool (decide (a≤b))))):=rfl
@[simp] theorem abinX_int_gtr (k k':IntKind) (a b:Int):abinX P .gtr t (p,.x (.one (.int k a))) (q,.x (.one (.int k' b)))=(p∧q∧k=k',.x (.one (.bool (decide (b<a))))):=rfl
@[simp] theorem abinX_int_geq (k k':IntKind) (a b:Int):abinX P .geq t (p,.x (.one (.int k a))) (q,.x (.one (.int k' b)))=(p∧q∧k=k',.x (.one (.bool (decide (b≤a))))):=rfl
@[simp] theorem abinX_str_add (a b:List UInt8):abinX P .add t (p,.x (.one (.str a))) (q,.x (.one (.str b)))=(p∧q∧a.length+b.length≤maxLen,.x (.one (.str (a++b)))):=rfl
@[simp] theorem abinX_str_eql (a b:List UInt8):abinX P .eql t (p,.x (.one (.str a))) (q,.x (.one (.str b)))=(p∧q∧True,.x (.one (.bool (a==b)))):=rfl
@[simp] theorem abinX_str_neq (a b:List UInt8):abinX P .neq t (p,.x (.one (.str a))) (q,.x (.one (.str b)))=(p∧q∧True,.x (.one (.bool (!(a==b))))):=rfl
@[simp] theorem abinX_nil (op:BinOp) (a:CV):abinX P op t (p,.x (.one a)) (q,.x (.one .nil))=anil P op t p q (nilTest a):=by
 cases a<;>rfl
@[simp] theorem anil_eql (b:Bool):anil P .eql t p q (some b)=(p∧q∧isSliceT P t=true,.x (.one (.bool b))):=rfl
@[simp] theorem nilTest_nil:nilTest .nil=some true:=rfl
@[simp] theorem nilTest_empty (z:Nat):nilTest (.empty z)=some false:=rfl
@[simp] theorem nilTest_cons (z:Nat) (x:List CV) (r:List (List CV)):nilTest (.list z (x::r))=some false:=rfl
@[simp] theorem abinX_bool_neq (a b:Bool):abinX P .neq t (p,.x (.one (.bool a))) (q,.x (.one (.bool b)))=(p∧q∧P.underlying t=some .bool,.x (.one (.bool (a != b)))):=rfl
def eqK (p q:Prop) (neg:Bool) (xs ys:List CV):Option (List BK)→Prop×AV
 | some ks=>(p∧q∧fitCs ks xs ys,.x (.one (.bool (neg != eqCs xs ys))))
 | none=>(False,.dead)
@[simp] theorem eqK_some (neg:Bool) (xs ys:List CV) (ks:List BK):eqK p q neg xs ys (some ks)=(p∧q∧fitCs ks xs ys,.x (.one (.bool (neg != eqCs xs ys)))):=rfl
@[simp] theorem abinX_agg_eql (xs ys:List CV):abinX P .eql t (p,.x (.agg xs)) (q,.x (.agg ys))=eqK p q false xs ys (eqT P t):=by
 simp only [abinX,eqK]
 cases eqT P t<;>simp
@[simp] theorem aunop_not (b:Bool):aunop .not (p,.x (.one (.bool b)))=(p,.x (.one (.bool (!b)))):=rfl
@[simp] theorem amax_int (k k':IntKind) (a b:Int):amax (p,.x (.one (.int k a))) (q,.x (.one (.int k' b)))=(p∧q,.x (.one (.int k (max a b)))):=rfl
@[simp] theorem amin_int (k k':IntKind) (a b:Int):amin (p,.x (.one (.int k a))) (q,.x (.one (.int k' b)))=(p∧q,.x (.one (.int k (min a b)))):=rfl
@[simp] theorem aindex_str (l:List UInt8) (k:IntKind) (n:Int):aindex P t (p,.x (.one (.str l))) (q,.x (.one (.int k n)))=(p∧q∧isStringT P t=true∧0≤n∧n<l.length,.x (.one (.int .u8 (l.getD n.toNat 0).toNat))):=rfl
def tupK (p:Prop):Option XV→Prop×AV
 | some v=>(p,.x v)
 | none=>(False,.dead)
@[simp] theorem tupK_some (v:XV):tupK p (some v)=(p,.x v):=rfl
@[simp] theorem aextract_tup (vs:List XV) (i:Nat):aextract (p,.tup vs) i=tupK p (vs[i]?):=by
 simp only [aextract,tupK]
 cases vs[i]?<;>rfl
def convK (P:Program) (t:TypeId) (p d:Prop) (n:Int):Option IntKind→Prop×AV
 | some k=>(p∧d,.x (.one (.int k (k.wrap n))))
 | none=>(p∧d∧isStringT P t=true∧0≤n∧n<128,.x (.one (.str [UInt8.ofNat n.toNat])))
@[simp] theorem convK_some (d:Prop) (n:Int) (k:IntKind):convK P t p d n (some k)=(p∧d,.x (.one (.int k (k.wrap n)))):=rfl
@[simp] theorem aconvert_int (t':TypeId) (k:IntKind) (n:Int):aconvert P s t t' (p,.x (.one (.int k n)))=convK P t' p ((P.underlying t).isSome=true) n (intT P t'):=by
 simp only [aconvert,convK]
 cases intT P t'<;>rfl
def strC (p a b:Prop):Option (List (List CV))→Prop×AV
 | some xs=>(p∧a∧b∧okB xs,.x (.one (.str (strB xs))))
 | none=>(False,.dead)
@[simp] theorem strC_some (p a b:Prop) (xs:List (List CV)):strC p a b (some xs)=(p∧a∧b∧okB xs,.x (.one (.str (strB xs)))):=rfl
theorem aconvert_strC (t':TypeId) (v:AV) (h:intV v=false∧strOf v=none):aconvert P s t t' (p,v)=strC p (byteSliceT P t=true) (isStringT P t'=true) (newsOf s 1 v):=by
 unfold aconvert strC
 split
 ·rename_i e;injection e with _ e;rw [e] at h;cases h.1
 ·rename_i e;injection e with _ e;rw [e] at h;cases h.2
 ·rename_i e;injection e with e1 e2;subst e1;subst e2;rfl
@[simp] theorem aconvert_alias (t':TypeId) (i:Nat):aconvert P s t t' (p,.alias i)=strC p (byteSliceT P t=true) (isStringT P t'=true) (newsOf s 1 (.alias i)):=aconvert_strC P s t p t' _ ⟨rfl,rfl⟩
@[simp] theorem aconvert_list (t':TypeId) (z:Nat) (xs:List (List CV)):aconvert P s t t' (p,.x (.one (.list z xs)))=strC p (byteSliceT P t=true) (isStringT P t'=true) (newsOf s 1 (.x (.one (.list z xs)))):=aconvert_strC P s t p t' _ ⟨rfl,rfl⟩
def bytK (P:Program) (p:Prop) (t:TypeId) (l:List UInt8):Option (TypeId×Nat)→Prop×AV
 | some (e,_)=>(p∧isStringT P t=true∧byteT P e=true,.own e 1 (byteRows l))
 | none=>(False,.dead)
@[simp] theorem bytK_some (P:Program) (p:Prop) (t:TypeId) (l:List UInt8) (e z:Nat):bytK P p t l (some (e,z))=(p∧isStringT P t=true∧byteT P e=true,.own e 1 (byteRows l)):=rfl
@[simp] theorem abytes_str (t':TypeId) (l:List UInt8):abytes P t t' (p,.x (.one (.str l)))=bytK P p t l (sliceT P t'):=by
 unfold abytes bytK
 simp only [strOf]
 cases sliceT P t'<;>rfl
@[simp] theorem apick_x (e:Bool) (a b:XV):apick (p,.x (.one (.bool e))) (q,.x a) (r,.x b)=(p∧(e=true→q)∧(e=false→r),.x (pickX e a b)):=rfl
@[simp] theorem pickX_bool (e a b:Bool):pickX e (.one (.bool a)) (.one (.bool b))=.one (.bool (bif e then a else b)):=rfl
@[simp] theorem aload_some (k:TK) (z:Option XV) (cs:List CV):aload k z p (some cs)=acutZ k z p cs:=rfl
@[simp] theorem acutZ_one (z:Option XV) (c:CV) (l:List CV):acutZ .one z p (c::l)=(p,.x (.one c)):=rfl
@[simp] theorem acutZ_nil (x:XV):acutZ .one (some x) p []=(False,.x x):=rfl
@[simp] theorem acutZ_agg (z:Option XV) (n:Nat) (cs:List CV):acutZ (.agg n) z p cs=(p∧n≤cs.length,.x (.agg (cs.take n))):=rfl
@[simp] theorem fnOf_func (f:FuncId):fnOf (.x (.one (.atom (.func (.func f) ⟨[]⟩ ⟨[]⟩))))=some (f,[]):=rfl
@[simp] theorem fnOf_clo (f:FuncId) (caps:List CV):fnOf (.x (.one (.clo f caps)))=some (f,caps.map .one):=rfl
@[simp] theorem cells_one:TK.cells .one=some 1:=rfl
@[simp] theorem cells_agg (n:Nat):TK.cells (.agg n)=some n:=rfl
@[simp] theorem xcells_one (c:CV):XV.cells (.one c)=[c]:=rfl
@[simp] theorem xcells_agg (cs:List CV):XV.cells (.agg cs)=cs:=rfl
@[simp] theorem rav_x (v:XV):RV.av (.x v)=.x v:=rfl
@[simp] theorem rav_tup (v:List XV):RV.av (.tup v)=.tup v:=rfl
@[simp] theorem setRange_eq {α:Type} (cs:List α) (off:Nat) (vs:List α):setRange cs off vs=cs.take off++vs++cs.drop (off+vs.length):=rfl
end
@[congr] theorem elemK_congr {q q':Prop×AV} (h:q=q'):elemK q=elemK q':=by rw [h]
@[simp] theorem elemK_elem (p:Prop) (cs:List CV):elemK (p,.elem cs)=True:=rfl
section
variable (ops:Array Oper) (dst:Option Nat) (ty:TypeId) (pos:String) (after:Array Edge) (g:Option (Nat×Bool))
@[simp ↓] theorem calmB_move {x0}:calmB ops (.move x0)=true:=rfl
@[simp ↓] theorem callB_move {x0}:callB ⟨dst,.move x0,ty,pos,after,g⟩=false:=rfl
@[simp ↓] theorem calmB_pick {x0 x1 x2}:calmB ops (.pick x0 x1 x2)=true:=rfl
@[simp ↓] theorem calmB_alloc {x0}:calmB ops (.alloc x0)=true:=rfl
@[simp ↓] theorem calmB_build {x0 x1}:calmB ops (.build x0 x1)=true:=rfl
@[simp ↓] theorem callB_build {x0 x1}:callB ⟨dst,.build x0 x1,ty,pos,after,g⟩=false:=rfl
@[simp ↓] theorem calmB_buildSlice {x0 x1 x2}:calmB ops (.buildSlice x0 x1 x2)=true:=rfl
@[simp ↓] theorem calmB_load {x0 x1}:calmB ops (.load x0 x1)=true:=rfl
@[simp ↓] theorem callB_load {x0 x1}:callB ⟨dst,.load x0 x1,ty,pos,after,g⟩=false:=rfl
@[simp ↓] theorem calmB_store {x0 x1 x2}:calmB ops (.store x0 x1 x2)=false:=rfl
@[simp ↓] theorem storeU_store {x0 x1 x2}:storeU ⟨dst,.store x0 x1 x2,ty,pos,after,g⟩=g.isNone:=rfl
@[simp ↓] theorem calmB_nilCheck {x0}:calmB ops (.nilCheck x0)=true:=rfl
@[simp ↓] theorem callB_nilCheck {x0}:callB ⟨dst,.nilCheck x0,ty,pos,after,g⟩=false:=rfl
@[simp ↓] theorem calmB_binOp {x0 x1 x2 x3 x4}:calmB ops (.binOp x0 x1 x2 x3 x4)=true:=rfl
@[simp ↓] theorem calmB_convert {x0 x1 x2}:calmB ops (.convert x0 x1 x2)=true:=rfl
@[simp ↓] theorem calmB_slice {x0 x1 x2 x3 x4}:calmB ops (.slice x0 x1 x2 x3 x4)=true:=rfl
@[simp ↓] theorem calmB_fieldAddr {x0 x1 x2}:calmB ops (.fieldAddr x0 x1 x2)=true:=rfl
@[simp ↓] theorem callB_fieldAddr {x0 x1 x2}:callB ⟨dst,.fieldAddr x0 x1 x2,ty,pos,after,g⟩=false:=rfl
@[simp ↓] theorem calmB_indexAddr {x0 x1 x2}:calmB ops (.indexAddr x0 x1 x2)=true:=rfl
@[simp ↓] theorem calmB_index {x0 x1 x2}:calmB ops (.index x0 x1 x2)=true:=rfl
@[simp ↓] theorem calmB_extract {x0 x1}:calmB ops (.extract x0 x1)=true:=rfl
@[simp ↓] theorem storeU_assign {x}:storeU ⟨dst,.assign x,ty,pos,after,g⟩=false:=rfl
@[simp ↓] theorem callB_assign {x}:callB ⟨dst,.assign x,ty,pos,after,g⟩=false:=rfl
@[simp ↓] theorem storeU_call {x}:storeU ⟨dst,.call x,ty,pos,after,g⟩=false:=rfl
@[simp ↓] theorem calmB_value {f a ts}:calmB ops (.call ⟨.value f,a,ts⟩)=true:=rfl
@[simp ↓] theorem calmB_append {a ts}:calmB ops (.call ⟨.builtin .append,a,ts⟩)=false:=rfl
@[simp ↓] theorem calmB_len {a ts}:calmB ops (.call ⟨.builtin .len,a,ts⟩)=true:=rfl
@[simp ↓] theorem calmB_min {a ts}:calmB ops (.call ⟨.builtin .min,a,ts⟩)=true:=rfl
@[simp ↓] theorem calmB_const {v}:calmB ops (.assign (.const v))=true:=rfl
end
def anyD (t:Nat):List Oper→Bool
 | []=>false
 | o::r=>(o.dst==some t&&makesOwn o.op) || anyD t r
def condB (b x y:Bool):Bool:=match b with
 | true=>x
 | false=>y
@[congr] theorem condB_congr {b b' x y:Bool} (h:b=b'):condB b x y=condB b' x y:=by rw [h]
@[simp ↓] theorem condB_true (x y:Bool):condB true x y=x:=rfl
@[simp ↓] theorem condB_false (x y:Bool):condB false x y=y:=rfl
section
variable (t d:Nat) (op:Op) (ty:TypeId) (pos:String) (after:Array Edge) (g:Option (Nat×Bool)) (r:List Oper)
@[simp ↓] theorem anyD_nil:anyD t []=false:=rfl
@[simp ↓] theorem anyD_none:anyD t (⟨none,op,ty,pos,after,g⟩::r)=anyD t r:=by simp [anyD]
@[simp ↓] theorem anyD_some:anyD t (⟨some d,op,ty,pos,after,g⟩::r)=condB (touchB (decide (d=t))) (makesOwn op || anyD t r) (anyD t r):=by
 by_cases h:d=t
 ·subst h;simp [anyD,condB]
 ·have:decide (d=t)=false:=by simpa using h
  simp [anyD,condB,h]
end
@[simp ↓] theorem calmB_tmp {l:List Oper} {t:Nat}:calmB ⟨l⟩ (.assign (.tmp t))=!(anyD t l):=by
 show (!((⟨l⟩:Array Oper).toList.any fun o=>o.dst==some t&&makesOwn o.op))=_
 congr 1
 induction l with
 | nil=>rfl
 | cons o r ih =>
  show ((o.dst==some t&&makesOwn o.op) || r.any fun o=>o.dst==some t&&makesOwn o.op)=_
  rw [anyD,←ih]
attribute [simp] boxOuts makesOwn RV.flat XV.flat CV.flat fillX eqCs fitCs
section
variable {dst:Option Nat} {ty:TypeId} {pos:String} {after:Array Edge} {g:Option (Nat×Bool)}
@[simp ↓] theorem appU_append {a ts}:appU ⟨dst,.call ⟨.builtin .append,a,ts⟩,ty,pos,after,none⟩=true:=rfl
end
section
variable (P:Program) (n:Nat) (fl:List Bool) (ops:Array Oper) (s:St) (K:St→Prop)
@[congr] theorem aopsA_congr {P:Program} {n:Nat} {fl fr:List Bool} {ops:Array Oper} {l:List Oper} {K:St→Prop} {s s':St} (h:s=s'):aopsA P n fl ops fr l s K=aopsA P n fl ops fr l s' K:=by rw [h]
def isOwnA:AV→Prop
 | .own _ _ _=>True
 | _=>False
@[simp] theorem isOwnA_own (e z:Nat) (xs:List (List CV)):isOwnA (.own e z xs)=True:=rfl
def takesK:Option (Option Nat×Option TypeId×Nat×List (List CV))→Option Nat
 | some (some i,_)=>some i
 | _=>none
@[simp] theorem takesK_some (i:Nat) (q:Option TypeId×Nat×List (List CV)):takesK (some (some i,q))=some i:=rfl
@[simp] theorem takesK_none (q:Option TypeId×Nat×List (List CV)):takesK (some (none,q))=none:=rfl
@[simp] theorem takes_eq (v:AV):takes s v=takesK (sourceOf s v):=by
 unfold takes
 cases sourceOf s v with
 | none=>rfl
 | some p=>obtain ⟨a,b⟩:=p;cases a<;>rfl
@[simp] theorem appSide_mk (d:Nat) (c:Callee) (x:Operand) (r:List Operand) (ts:Array TypeId) (ty pos after g):appSide s fl ops ⟨some d,.call ⟨c,⟨x::r⟩,ts⟩,ty,pos,after,g⟩=appOk s d fl ops (takes s (sv s x).2):=rfl
attribute [simp] bareOp bareArgs bareAll bareV notAny
@[simp] theorem appOk_some (d g:Nat):appOk s d fl ops (some g)=((g=d∨(s d).isOwner=false)∧freeOf g fl ops.toList=true):=rfl
@[simp] theorem appOk_none (d:Nat):appOk s d fl ops none=((s d).isOwner=false):=rfl
@[simp] theorem freeOf_nil' (g:Nat) (fl:List Bool):freeOf g fl []=true:=by cases fl<;>rfl
@[simp] theorem freeOf_false (g:Nat) (fr:List Bool) (o:Oper) (r:List Oper):freeOf g (false::fr) (o::r)=freeOf g fr r:=by simp [freeOf]
@[simp] theorem movesT_move (g k:Nat):movesT g (.move (.tmp k))=(k==g):=rfl
@[simp] theorem movesT_load (g:Nat) (t:TypeId) (x:Operand):movesT g (.load t x)=false:=rfl
@[simp] theorem movesT_fieldAddr (g:Nat) (t:TypeId) (x:Operand) (f:Nat):movesT g (.fieldAddr t x f)=false:=rfl
@[simp] theorem movesT_build (g:Nat) (t:TypeId) (ps):movesT g (.build t ps)=false:=rfl
@[simp] theorem movesT_buildSlice (g:Nat) (t:TypeId) (k) (ps):movesT g (.buildSlice t k ps)=false:=rfl
@[simp] theorem freeOf_some (g d:Nat) (fr:List Bool) (op:Op) (ty pos after gd) (r:List Oper):freeOf g (true::fr) (⟨some d,op,ty,pos,after,gd⟩::r)=(!decide (d=g)&&(!movesT g op&&freeOf g fr r)):=by
 have:((some d:Option Nat) != some g)=!decide (d=g):=by
  by_cases h:d=g
  ·subst h;simp
  ·rw [decide_eq_false h,Bool.not_false,bne_iff_ne];intro e;injection e with e;exact h e
 simp only [freeOf,Bool.not_true,Bool.false_or]
 show (((some d:Option Nat) != some g)&&!movesT g op&&freeOf g fr r)=_
 rw [this,Bool.and_assoc]
end
def AMk (P:Program) (g:FuncId) (i off:Nat) [k:Seal (AV→Prop)]:Prop:=∃g',AMakes P g g'∧k.val (.cloR g' [.inr (i,off+1000000)])
theorem AMk.of {P:Program} {g g':FuncId} {i off:Nat} {k:AV→Prop} (h:AMakes P g g') (hk:k (.cloR g' [.inr (i,off+1000000)])):@AMk _ P g i off ⟨k⟩:=⟨g',h,hk⟩
def mkK (P:Program) (f:Option (FuncId×List XV)) (p:Prop) (x:Prop×AV) (k:AV→Prop):Prop:=match f,x with
 | some (g,[]),(q,.ptr i off)=>p∧q∧@AMk _ P g i off ⟨k⟩
 | _,_=>False
@[congr] theorem mkK_congr {P:Program} {f f':Option (FuncId×List XV)} {p p':Prop} {x x':Prop×AV} {k:AV→Prop} (h1:f=f') (h2:p=p') (h3:x=x'):mkK P f p x k=mkK P f' p' x' k:=by rw [h1,h2,h3]
@[simp] theorem mkK_mk (P:Program) (g:FuncId) (p q:Prop) (i off:Nat) (k:AV→Prop):mkK P (some (g,[])) p (q,.ptr i off) k=(p∧q∧@AMk _ P g i off ⟨k⟩):=rfl
theorem mkK_iff {P:Program} {f x:Prop×AV} {k:AV→Prop}:(∃r,makesC P f x r∧k r)=mkK P (fnOf f.2) f.1 x k:=by
 apply propext
 unfold makesC mkK AMk
 generalize fnOf f.2=q
 obtain ⟨px,v⟩:=x
 cases q with
 | none=>exact ⟨fun ⟨_,h,_⟩=>h.elim,fun h=>h.elim⟩
 | some gl =>
  obtain ⟨g,l⟩:=gl
  cases l with
  | cons a r=>exact ⟨fun ⟨_,h,_⟩=>h.elim,fun h=>h.elim⟩
  | nil =>
   cases v with
   | ptr i off=>exact ⟨fun ⟨r,⟨hp,hq,g',hm,hr⟩,hk⟩=>⟨hp,hq,g',hm,by subst hr;exact hk⟩,fun ⟨hp,hq,g',hm,hk⟩=>⟨_,⟨hp,hq,g',hm,rfl⟩,hk⟩⟩
   | _=>exact ⟨fun ⟨_,h,_⟩=>h.elim,fun h=>h.elim⟩
section
variable (P:Program) (n:Nat) (ops:Array Oper) (s:St) (K:St→Prop)
@[simp] theorem aopMk_mkG (d:Nat) (f x:Operand) (ts:Array TypeId) (ty pos after g):aopMk P n ops ⟨some d,.call ⟨.value f,⟨[x]⟩,ts⟩,ty,pos,after,some g⟩ s K=(d<n∧(s d).isOwner=false∧optK (gval ops s g) (fun e=>boolK e (mkK P (fnOf (sv s f).2) (sv s f).1 (sv s x) (fun r=>K (put s d (.cond true r)))) (K (put s d (.cond false (.x (.one (.bool false)))))))):=by
 rw [←mkK_iff]
 show (d<n∧(s d).isOwner=false∧(match gval ops s g with | some true=>_ | some false=>_ | none=>False))=_
 cases gval ops s g with
 | none=>rfl
 | some e=>cases e<;>rfl
@[congr] theorem aopMk_congr {P:Program} {n:Nat} {ops:Array Oper} {o:Oper} {K:St→Prop} {s s':St} (h:s=s'):aopMk P n ops o s K=aopMk P n ops o s' K:=by rw [h]
@[congr] theorem aopsW_congr {P:Program} {n:Nat} {fl fr:List Nat} {ops:Array Oper} {l:List Oper} {K:St→Prop} {s s':St} (h:s=s'):aopsW P n fl ops fr l s K=aopsW P n fl ops fr l s' K:=by rw [h]
variable (fl:List Nat)
@[simp ↓] theorem aopsW_nil (fr:List Nat):aopsW P n fl ops fr [] s K=K s:=by simp only [aopsW]
@[simp] theorem aopsW_0 (fr:List Nat) (o:Oper) (r:List Oper):aopsW P n fl ops (0::fr) (o::r) s K=aops P n ops [o] (touch s) (fun s'=>aopsW P n fl ops fr r (touch s') K):=rfl
@[simp] theorem aopsW_1 (fr:List Nat) (o:Oper) (r:List Oper):aopsW P n fl ops (1::fr) (o::r) s K=aopD P n ops o (touch s) (fun s'=>aopsW P n fl ops fr r (touch s') K):=rfl
@[simp] theorem aopsW_2 (fr:List Nat) (o:Oper) (r:List Oper):aopsW P n fl ops (2::fr) (o::r) s K=aopMk P n ops o (touch s) (fun s'=>aopsW P n fl ops fr r (touch s') K):=rfl
@[simp] theorem aopsW_4 (fr:List Nat) (o:Oper) (r:List Oper):aopsW P n fl ops (4::fr) (o::r) s K=(appU o=true∧appSide (touch s) (copies fl) ops o∧aops P n ops [o] (touch s) (fun s'=>aopsW P n fl ops fr r (touch s') K)):=rfl
@[simp] theorem aopsW_5 (fr:List Nat) (o:Oper) (r:List Oper):aopsW P n fl ops (5::fr) (o::r) s K=(linkS (touch s) o∧aops P n ops [o] (touch s) (fun s'=>aopsW P n fl ops fr r (touch s') K)):=rfl
@[simp] theorem aopsW_6 (fr:List Nat) (o:Oper) (r:List Oper):aopsW P n fl ops (6::fr) (o::r) s K=(moveU o=true∧bareOp P (touch s) o.op∧aopD P n ops o (touch s) (fun s'=>aopsW P n fl ops fr r (touch s') K)):=rfl
@[simp] theorem aopsW_7 (fr:List Nat) (o:Oper) (r:List Oper):aopsW P n fl ops (7::fr) (o::r) s K=(bareOp P (touch s) o.op∧aopD P n ops o (touch s) (fun s'=>aopsW P n fl ops fr r (touch s') K)):=rfl
@[simp] theorem aopsW_8 (fr:List Nat) (o:Oper) (r:List Oper):aopsW P n fl ops (8::fr) (o::r) s K=(mvOwn (touch s) o∧aopD P n ops o (touch s) (fun s'=>aopsW P n fl ops fr r (touch s') K)):=rfl
@[simp] theorem aopsW_9 (fr:List Nat) (o:Oper) (r:List Oper):aopsW P n fl ops (9::fr) (o::r) s K=(appU o=true∧appSide (touch s) (copies7 fl) ops o∧aops P n ops [o] (touch s) (fun s'=>aopsW P n fl ops fr r (touch s') K)):=rfl
@[simp] theorem copies7_nil:copies7 []=[]:=rfl
@[simp] theorem copies7_cons (k:Nat) (l:List Nat):copies7 (k::l)=(k==6 || k==7)::copies7 l:=rfl
@[simp] theorem mvOwn_mk (d:Option Nat) (k:Nat) (ty pos after):mvOwn s ⟨d,.move (.tmp k),ty,pos,after,none⟩=isOwnA (s k):=by
 unfold mvOwn isOwnA
 apply propext
 constructor
 ·rintro ⟨k',e,z,xs,h1,_,h3⟩
  obtain rfl:k=k':=by simpa using h1
  simp [h3]
 ·intro h
  cases hs:s k<;>rw [hs] at h<;>first | (exact ⟨k,_,_,_,rfl,rfl,hs⟩) | exact h.elim
@[simp] theorem copies_nil:copies []=[]:=rfl
@[simp] theorem copies_cons (k:Nat) (l:List Nat):copies (k::l)=(k==6 || k==7 || k==8)::copies l:=rfl
@[simp] theorem moveU_mk (d:Option Nat) (x:Operand) (ty pos after):moveU ⟨d,.move x,ty,pos,after,none⟩=true:=rfl
@[simp] theorem linkS_mk (t:TypeId) (a x:Operand) (ty pos after):linkS s ⟨none,.store t a x,ty,pos,after,none⟩=((linkable s (sv s a) (sv s x)).isSome=true):=by simp [linkS]
end
end Go.Ab
namespace Go.Ab
open Go Go.RowKit
variable [Amb]
def mk:List (Nat×AV)→St
 | []=>st0
 | (i,v)::r=>upd (mk r) i v
@[simp] theorem mk_nil:mk []=st0:=rfl
@[simp] theorem mk_cons (i:Nat) (v:AV) (r:List (Nat×AV)):mk ((i,v)::r)=upd (mk r) i v:=rfl
def keepOne (a v:AV):Prop:=match v with
 | .own _ _ []=>a=v∨a=.x (.one .nil)
 | v=>a=v
def refsC (s:St) (full:List (Nat×AV)):List (CV ⊕ (Nat×Nat))→Prop
 | []=>True
 | .inl _::r=>refsC s full r
 | .inr p::r=>mk full p.1=s p.1∧refsC s full r
def refsIn (s:St) (full:List (Nat×AV)):AV→Prop
 | .ptr j _=>mk full j=s j
 | .ptr2 j _=>mk full j=s j
 | .eptr j _ _=>mk full j=s j
 | .alias j=>mk full j=s j
 | .view j _ _ _=>mk full j=s j
 | .cloR _ caps=>refsC s full caps
 | .cond _ v=>refsIn s full v
 | .link i _ d=>mk full i=s i∧mk full d=s d
 | _=>True
def Keeps (s:St) (full:List (Nat×AV)):List (Nat×AV)→Prop
 | []=>True
 | (i,v)::r=>keepOne (s i) v∧refsIn s full v∧Keeps s full r
theorem refsC_of {s:St} {full:List (Nat×AV)} {j:Nat}:∀{caps:List (CV ⊕ (Nat×Nat))},refsC s full caps→caps.any (capRef j)=true→mk full j=s j
 | .inl _::r,h,hr=>refsC_of (caps:=r) h (by simpa using hr)
 | .inr p::r,h,hr=>by
  simp only [List.any_cons,capRef_inr,Bool.or_eq_true,beq_iff_eq] at hr
  rcases hr with hr | hr
  ·subst hr;exact h.1
  ·exact refsC_of (caps:=r) h.2 hr
theorem refsIn_of {s:St} {full:List (Nat×AV)} {j:Nat}:∀{v:AV},refsIn s full v→v.refs j=true→mk full j=s j:=by
 intro v
 induction v with
 | ptr i o=>intro h hr;simp at hr;subst hr;exact h
 | ptr2 i o=>intro h hr;simp at hr;subst hr;exact h
 | eptr i o k=>intro h hr;simp at hr;subst hr;exact h
 | alias i=>intro h hr;simp at hr;subst hr;exact h
 | view i lo len wh=>intro h hr;simp at hr;subst hr;exact h
 | cloR f caps=>intro h hr;exact refsC_of h hr
 | cond e v ih=>intro h hr;simp at hr;exact ih h hr
 | link i o d =>
  intro h hr
  simp at hr
  rcases hr with rfl | rfl
  ·exact h.1
  ·exact h.2
 | _=>intro h hr;cases hr
theorem Keeps.at {s:St} {full:List (Nat×AV)}:∀{l:List (Nat×AV)},Keeps s full l→∀i,(mk l i=s i∨mk l i=.dead∨(s i=.x (.one .nil)∧∃e size,mk l i=.own e size []))∧∀j,(mk l i).refs j=true→mk full j=s j
 | [],_,i=>⟨.inr (.inl rfl),fun j h=>by cases h⟩
 | (k,v)::r,h,i=>by
  obtain ⟨h1,h2,h3⟩:=h
  have ih:=Keeps.at h3 i
  simp only [mk_cons,upd_at]
  split
  ·rename_i hk
   subst hk
   refine ⟨?_,fun j hj=>refsIn_of h2 hj⟩
   unfold keepOne at h1
   split at h1
   ·rcases h1 with h1 | h1
    ·exact .inl h1.symm
    ·exact .inr (.inr ⟨h1,_,_,rfl⟩)
   ·exact .inl h1.symm
  ·exact ih
theorem weak_mk {s:St} {l:List (Nat×AV)} (h:Keeps s l l):Weak s (mk l):=⟨s,.inl rfl,[],fun i=>(Keeps.at h i).1,fun i j hj=>(Keeps.at h i).2 j hj⟩
theorem weak_mkG {s:St} {l:List (Nat×AV)} {i c:Nat} {bs:List Nat} {es:List (XV×XV)} (es':List (XV×XV)) (hi:s i=.mp c bs es) (he:thawE s es es') (h:Keeps (thawG s i c bs es') l l):Weak s (mk l):=⟨_,.inr ⟨i,c,bs,es,es',hi,he,rfl⟩,[],fun i=>(Keeps.at h i).1,fun i j hj=>(Keeps.at h i).2 j hj⟩
attribute [simp] refsIn Keeps refsC
section
variable (a:AV)
@[simp] theorem keepOne_dead:keepOne a .dead=(a=.dead):=rfl
@[simp] theorem keepOne_x (v:XV):keepOne a (.x v)=(a=.x v):=rfl
@[simp] theorem keepOne_tup (v:List XV):keepOne a (.tup v)=(a=.tup v):=rfl
@[simp] theorem keepOne_box (v:List CV):keepOne a (.box v)=(a=.box v):=rfl
@[simp] theorem keepOne_ptr (s o:Nat):keepOne a (.ptr s o)=(a=.ptr s o):=rfl
@[simp] theorem keepOne_ptr2 (s o:Nat):keepOne a (.ptr2 s o)=(a=.ptr2 s o):=rfl
@[simp] theorem keepOne_gbox (b:Nat) (v:List CV):keepOne a (.gbox b v)=(a=.gbox b v):=rfl
@[simp] theorem keepOne_gown (g:Value) (e z:Nat) (v:List (List CV)):keepOne a (.gown g e z v)=(a=.gown g e z v):=rfl
@[simp] theorem keepOne_eptr (s i o:Nat):keepOne a (.eptr s i o)=(a=.eptr s i o):=rfl
@[simp] theorem keepOne_elem (v:List CV):keepOne a (.elem v)=(a=.elem v):=rfl
@[simp] theorem keepOne_alias (s:Nat):keepOne a (.alias s)=(a=.alias s):=rfl
@[simp] theorem keepOne_view (s lo len:Nat) (wh:Bool):keepOne a (.view s lo len wh)=(a=.view s lo len wh):=rfl
@[simp] theorem keepOne_cloR (f:FuncId) (caps:List (CV ⊕ (Nat×Nat))):keepOne a (.cloR f caps)=(a=.cloR f caps):=rfl
@[simp] theorem keepOne_cond (e:Bool) (v:AV):keepOne a (.cond e v)=(a=.cond e v):=rfl
@[simp] theorem keepOne_link (i o d:Nat):keepOne a (.link i o d)=(a=.link i o d):=rfl
@[simp] theorem keepOne_res (l:List (Nat×Nat)):keepOne a (.res l)=(a=.res l):=rfl
@[simp] theorem keepOne_own (e z e' z':Nat) (xs xs':List (List CV)):keepOne (.own e z xs) (.own e' z' xs')=(AV.own e z xs=.own e' z' xs'):=by
 unfold keepOne
 split
 ·rename_i h;injection h with h1 h2 h3;subst h1;subst h2;subst h3;simp
 ·rfl
@[simp] theorem keepOne_mp (c:Nat) (bs:List Nat) (es:List (XV×XV)):keepOne a (.mp c bs es)=(a=.mp c bs es):=rfl
@[simp] theorem keepOne_nil (e z:Nat) (xs:List (List CV)):keepOne (.x (.one .nil)) (.own e z xs)=(xs=[]):=by
 unfold keepOne
 split
 ·rename_i h;injection h with h1 h2 h3;subst h3;simp
 ·rename_i h
  have:xs≠[]:=by rintro rfl;exact h _ _ rfl
  simp [this]
end
def Again {ι:Type} [I:Seal (ι→List (Nat×AV))] [ok:Seal (ι→Prop)] [μ:Seal (ι→Nat)] (m:Nat) (s:St):Prop:=∃y,ok.val y∧μ.val y<m∧Weak s (mk (I.val y))
theorem Again.of {ι:Type} {I:ι→List (Nat×AV)} {ok:ι→Prop} {μ:ι→Nat} {m:Nat} {s:St} (y:ι) (h1:ok y) (h2:μ y<m) (h3:Keeps s (I y) (I y)):@Again ι ⟨I⟩ ⟨ok⟩ ⟨μ⟩ m s:=⟨y,h1,h2,weak_mk h3⟩
theorem ALoopS.of {body:(Exit→St→Prop)→St→Prop} {Q:Exit→St→Prop} {s:St} (ι:Type) (I:ι→List (Nat×AV)) (ok:ι→Prop) (μ:ι→Nat) (x:ι) (hx:ok x) (hs:Keeps s (I x) (I x))
  (h:∀x,ok x→body (thenA (@Again ι ⟨I⟩ ⟨ok⟩ ⟨μ⟩ (μ x)) Q) (mk (I x))):@ALoopS ⟨body⟩ ⟨Q⟩ s:=⟨ι,fun x=>mk (I x),ok,μ,⟨x,hx,weak_mk hs⟩,h⟩
def famL (G e z:Nat):List (Value×List (List CV))→Nat→List (Nat×AV)
 | [],_=>[]
 | x::r,k=>(G+k,.gown x.1 e z x.2)::famL G e z r (k+1)
theorem mk_famL_not {G e z i:Nat}:∀{l:List (Value×List (List CV))} {k:Nat},(∀j,j<l.length→i≠G+(k+j))→mk (famL G e z l k) i=.dead
 | [],_,_=>rfl
 | x::r,k,h=>by
  simp only [famL,mk_cons,upd_at]
  rw [if_neg (by have:=h 0 (by simp);simpa using this)]
  exact mk_famL_not fun j hj=>by have:=h (j+1) (by simpa using hj);rwa [show k+(j+1)=k+1+j by omega] at this
@[simp] theorem mk_famL_lt {G e z i k:Nat} {l:List (Value×List (List CV))} (h:i<G):mk (famL G e z l k) i=.dead:=mk_famL_not fun j _=>by omega
theorem mk_famL_ge {G e z i k:Nat} {l:List (Value×List (List CV))} (h:G+(k+l.length)≤i):mk (famL G e z l k) i=.dead:=mk_famL_not fun j hj=>by omega
theorem mk_famL_at {G e z:Nat}:∀{l:List (Value×List (List CV))} {k j:Nat} {x:Value×List (List CV)},l[j]?=some x→mk (famL G e z l k) (G+(k+j))=.gown x.1 e z x.2
 | y::r,k,0,x,h=>by
  simp at h;subst h
  simp [famL]
 | y::r,k,j+1,x,h=>by
  simp only [famL,mk_cons,upd_at]
  rw [if_neg (by omega),show k+(j+1)=k+1+j by omega]
  exact mk_famL_at (by simpa using h)
theorem keeps_famL {s:St} {full:List (Nat×AV)} {G e z:Nat}:∀{l:List (Value×List (List CV))} {k:Nat},(∀j x,l[j]?=some x→s (G+(k+j))=.gown x.1 e z x.2)→Keeps s full (famL G e z l k)
 | [],_,_=>trivial
 | x::r,k,h=>⟨by have:=h 0 x rfl;simp only [Nat.add_zero] at this;simp [this],trivial,keeps_famL fun j y hj=>by have:=h (j+1) y (by simpa using hj);rwa [show k+(j+1)=k+1+j by omega] at this⟩
attribute [simp] AV.isG refsG
@[simp] theorem thawG_at (s:St) (i c:Nat) (bs:List Nat) (es:List (XV×XV)) (k:Nat):thawG s i c bs es k=if k=i then .mp c bs es else if (s k).isG || refsG s (s k) then .dead else s k:=rfl
theorem ALoopS.ofG {body:(Exit→St→Prop)→St→Prop} {Q:Exit→St→Prop} {s:St} (i:Nat) {c:Nat} {bs:List Nat} {es:List (XV×XV)} (es':List (XV×XV)) (ι:Type) (I:ι→List (Nat×AV)) (ok:ι→Prop) (μ:ι→Nat) (x:ι) (hx:ok x)
  (hi:s i=.mp c bs es) (he:thawE s es es') (hs:Keeps (thawG s i c bs es') (I x) (I x))
  (h:∀x,ok x→body (thenA (@Again ι ⟨I⟩ ⟨ok⟩ ⟨μ⟩ (μ x)) Q) (mk (I x))):@ALoopS ⟨body⟩ ⟨Q⟩ s:=⟨ι,fun x=>mk (I x),ok,μ,⟨x,hx,weak_mkG es' hi he hs⟩,h⟩
def Ret (P:Program) (rs:List ResultVar) (r:RV) (e:Exit) (s:St):Prop:=(e=.normal∨e=.ret)∧giveR P s rs [] r
@[congr] theorem Ret_congr {P:Program} {rs:List ResultVar} {r:RV} {e:Exit} {s s':St} (h:s=s'):Ret P rs r e s=Ret P rs r e s':=by rw [h]
@[congr] theorem givesW_congr {r:RV} {q q':Prop×Option (List XV)} (h:q=q'):givesW r q=givesW r q':=by rw [h]
@[simp] theorem givesW_one (r:RV) (p:Prop) (x:XV):givesW r (p,some [x])=(p∧okR r (.x x)):=rfl
@[simp] theorem givesW_none (r:RV) (p:Prop):givesW r (p,some [])=(p∧okR r (.tup [])):=rfl
@[simp] theorem givesW_more (r:RV) (p:Prop) (x y:XV) (l:List XV):givesW r (p,some (x::y::l))=(p∧okR r (.tup (x::y::l))):=rfl
@[simp] theorem Ret_ret (P:Program) (rs:List ResultVar) (r:RV) (s:St):Ret P rs r .ret s=giveR P s rs [] r:=by
 simp only [Ret,or_true,true_and]
section
variable (P:Program) (s:St) (outs:List AV) (e z:Nat) (xs:List (List CV))
@[simp] theorem giveR_x (rs:List ResultVar) (v:XV):giveR P s rs outs (.x v)=givesW (.x v) (resXs P s rs):=rfl
@[simp] theorem giveR_tup (rs:List ResultVar) (v:List XV):giveR P s rs outs (.tup v)=givesW (.tup v) (resXs P s rs):=rfl
@[simp] theorem giveR_own (t:Nat):giveR P s [.tmp t] outs (.own e z xs)=ownV s outs e z xs t (s t):=rfl
@[congr] theorem ownV_congr {s:St} {outs:List AV} {e z:Nat} {xs:List (List CV)} {t:Nat} {v v':AV} (h:v=v'):ownV s outs e z xs t v=ownV s outs e z xs t v':=by rw [h]
@[simp] theorem ownV_own (t e' z':Nat) (ys:List (List CV)):ownV s outs e z xs t (.own e' z' ys)=(e'=e∧z'=z∧xs=ys∧outDead outs t):=rfl
@[simp] theorem ownV_nil (t:Nat):ownV s outs e z xs t (.x (.one .nil))=(xs=[]):=rfl
@[congr] theorem ownAt_congr {outs:List AV} {e z:Nat} {xs:List (List CV)} {i:Nat} {len:Option Nat} {v v':AV} (h:v=v'):ownAt outs e z xs i len v=ownAt outs e z xs i len v':=by rw [h]
@[simp] theorem outDead_nil (i:Nat):outDead [] i=True:=by simp only [outDead]
@[simp] theorem outDead_succ (o:AV) (r:List AV) (i:Nat):outDead (o::r) (i+1)=outDead r i:=rfl
end
def RetM (P:Program) (rs:List ResultVar) (r:RV) (outs:List AV) (e:Exit) (s:St):Prop:=(e=.normal∨e=.ret)∧giveR P s rs outs r∧outsIn (endSt s rs r) 0 outs
@[congr] theorem RetM_congr {P:Program} {rs:List ResultVar} {r:RV} {outs:List AV} {e:Exit} {s s':St} (h:s=s'):RetM P rs r outs e s=RetM P rs r outs e s':=by rw [h]
@[simp] theorem RetM_ret (P:Program) (rs:List ResultVar) (r:RV) (outs:List AV) (s:St):RetM P rs r outs .ret s=(giveR P s rs outs r∧outsIn (endSt s rs r) 0 outs):=by
 simp only [RetM,or_true,true_and]
@[congr] theorem outsIn_congr {s s':St} {k:Nat} {outs:List AV} (h:s=s'):outsIn s k outs=outsIn s' k outs:=by rw [h]
@[simp] theorem endSt_x (s:St) (rs:List ResultVar) (v:XV):endSt s rs (.x v)=freezeL s (lends s (rs.map resOp)):=rfl
@[simp] theorem endSt_tup (s:St) (rs:List ResultVar) (v:List XV):endSt s rs (.tup v)=freezeL s (lends s (rs.map resOp)):=rfl
@[simp] theorem endSt_own (s:St) (rs:List ResultVar) (e z:Nat) (xs:List (List CV)):endSt s rs (.own e z xs)=s:=rfl
@[simp] theorem resOp_tmp (t:Nat):resOp (.tmp t)=.tmp t:=rfl
@[simp] theorem resOp_cell (t:Nat) (ty:TypeId):resOp (.cell t ty)=.const (.bool true):=rfl
@[simp] theorem outsIn_nil (s:St) (k:Nat):outsIn s k []=True:=rfl
@[simp] theorem outsIn_dead' (s:St) (k:Nat) (r:List AV):outsIn s k (.dead::r)=outsIn s (k+1) r:=by simp only [outsIn,true_and]
@[simp] theorem outsIn_box (s:St) (k:Nat) (cs:List CV) (r:List AV):outsIn s k (.box cs::r)=(s k=.box cs∧outsIn s (k+1) r):=rfl
@[simp] theorem outsIn_gbox (s:St) (k b:Nat) (cs:List CV) (r:List AV):outsIn s k (.gbox b cs::r)=(s k=.gbox b cs∧outsIn s (k+1) r):=rfl
@[simp] theorem initM_nil (k:Nat):initM [] k=st0:=rfl
@[simp] theorem initM_cons (x:AV) (r:List AV) (k:Nat):initM (x::r) k=upd (initM r (k+1)) k x:=rfl
theorem ACalls.of [Hint] {P : Program} {f : FuncId} {fn : Func} {c : Code} {args : List XV} {r : RV} (hm : P.follows .mixedOrders = true) (hf : P.funcs[f]? = some fn) (hname : (fn.name == "runtime.NumGoroutine") = false)
  (hb:fn.body=some c) (hok:codeOk c=true) (hl:args.length≤fn.ntmps) (h:(∀x∈args,x.ok)→awp P fn.ntmps c (Ret P fn.results.toList r) (initSt args 0)):ACalls P f args r:=ACalls.mk hm hf hname hb hok hl h
theorem ACallsM.of [Hint] {P : Program} {f : FuncId} {fn : Func} {c : Code} {args : List AV} {r : RV} {outs : List AV} (hm : P.follows .mixedOrders = true) (hf : P.funcs[f]? = some fn) (hname : (fn.name == "runtime.NumGoroutine") = false)
  (hb:fn.body=some c) (hok:codeOk c=true) (hod:codeDst (liveLen outs) c=true) (hfit:outsFit args outs=true) (hl:args.length≤fn.ntmps) (h:(∀x∈args,x.ok)→awp P fn.ntmps c (RetM P fn.results.toList r outs) (initM args 0)):ACallsM P f args r outs:=
 ACallsM.mk hm hf hname hb hok hod hl hfit (fun _ _ h=>h) h
def RetF (P:Program) (rs:List ResultVar) (lf:List (Nat×Nat)) (r:RV) (outs:List AV) (e:Exit) (s:St):Prop:=(e=.normal∨e=.ret)∧giveR P (foldL s lf) rs outs r∧outsIn (endSt (foldL s lf) rs r) 0 outs
@[congr] theorem RetF_congr {P:Program} {rs:List ResultVar} {lf:List (Nat×Nat)} {r:RV} {outs:List AV} {e:Exit} {s s':St} (h:s=s'):RetF P rs lf r outs e s=RetF P rs lf r outs e s':=by rw [h]
@[simp] theorem RetF_ret (P:Program) (rs:List ResultVar) (lf:List (Nat×Nat)) (r:RV) (outs:List AV) (s:St):RetF P rs lf r outs .ret s=(giveR P (foldL s lf) rs outs r∧outsIn (endSt (foldL s lf) rs r) 0 outs):=by
 simp only [RetF,or_true,true_and]
theorem ACallsM.ofL [Hint] (lk lf : List (Nat × Nat)) {P : Program} {f : FuncId} {fn : Func} {c : Code} {args : List AV} {r : RV} {outs : List AV} (hlk : args.length ≤ 999999) (hm : P.follows .mixedOrders = true) (hf : P.funcs[f]? = some fn) (hname : (fn.name == "runtime.NumGoroutine") = false)
  (hb:fn.body=some c) (hok:codeOk c=true) (hod:codeDst (liveLen outs) c=true) (hfit:outsFit args outs=true) (hl:args.length≤fn.ntmps) (h:(∀x∈args,x.ok)→awp P fn.ntmps c (RetF P fn.results.toList lf r outs) (resv (initM args 0) lk)):ACallsM P f args r outs:=
 ACallsM.mkL hm hf hname hb hok hod hl hfit lk lf (.inr hlk) (fun _ _ h=>h) h
theorem ACalls.ofL [Hint] (lk lf : List (Nat × Nat)) {P : Program} {f : FuncId} {fn : Func} {c : Code} {args : List XV} {r : RV} (hlk : args.length ≤ 999999) (hm : P.follows .mixedOrders = true) (hf : P.funcs[f]? = some fn) (hname : (fn.name == "runtime.NumGoroutine") = false)
  (hb:fn.body=some c) (hok:codeOk c=true) (hl:args.length≤fn.ntmps) (h:(∀x∈args,x.ok)→awp P fn.ntmps c (RetF P fn.results.toList lf r (args.map fun _=>AV.dead)) (resv (initSt args 0) lk)):ACalls P f args r:=by
 refine ACalls.ofM (ACallsM.mkL hm hf hname hb hok (by rw [liveLen_dead];exact codeDst_zero c) (by simpa using hl) (outsFit_dead args) lk lf (.inr (by simpa using hlk)) (fun _ _ h=>h) (fun hx=>?_))
 rw [←initSt_M args 0]
 exact h (fun x hm=>hx (.x x) (List.mem_map.2 ⟨x,hm,rfl⟩))
theorem RepX.nil_list {w:World} {S:Nat→Prop} {v:Value} (size:Nat) (h:RepX w S (.one .nil) v):RepX w S (.one (.list size [])) v:=by
 cases h
 exact .list0 none 0 size (by decide) (fun _=>rfl)
def leC (c c':CV):Prop:=c=c'∨(c=.nil∧∃size,c'=.list size [])
def leL:List CV→List CV→Prop
 | [],[]=>True
 | c::r,c'::r'=>leC c c'∧leL r r'
 | _,_=>False
theorem leL.at:∀{cs cs':List CV},leL cs cs'→cs.length=cs'.length∧∀(j:Nat) (c':CV),cs'[j]?=some c'→∃c,cs[j]?=some c∧leC c c'
 | [],[],_=>⟨rfl,fun j c' h=>by simp at h⟩
 | c::r,c'::r',h=>by
  obtain ⟨h1,h2⟩:=leL.at h.2
  refine ⟨by simp [h1],fun j d hj=>?_⟩
  cases j with
  | zero=>simp at hj;subst hj;exact ⟨c,rfl,h.1⟩
  | succ j=>simp at hj;exact h2 j d hj
theorem RepX.le {w:World} {S:Nat→Prop} {v:Value} {cs cs':List CV} (h:leL cs cs') (hr:RepX w S (.agg cs) v):RepX w S (.agg cs') v:=by
 obtain ⟨us,hv,hl,hx⟩:=hr
 obtain ⟨h1,h2⟩:=leL.at h
 refine ⟨us,hv,by rw [hl,h1],fun j c' hj=>?_⟩
 obtain ⟨c,hc,hle⟩:=h2 j c' hj
 obtain ⟨u,hu,hrep⟩:=hx j c hc
 rcases hle with rfl | ⟨rfl,size,rfl⟩
 ·exact ⟨u,hu,hrep⟩
 ·exact ⟨u,hu,RepX.nil_list size hrep⟩
theorem ACalls.le1 {P:Program} {f:FuncId} {cs cs':List CV} {r:RV} (h:leL cs cs') (hc:ACalls P f [.agg cs'] r):ACalls P f [.agg cs] r:=by
 refine ⟨hc.1,fun w S vs hS ha=>hc.2 w S vs hS ⟨ha.1,fun j x hj=>?_⟩⟩
 cases j with
 | zero =>
  simp at hj;subst hj
  obtain ⟨u,hu,hr⟩:=ha.2 0 _ rfl
  exact ⟨u,hu,RepX.le h hr⟩
 | succ j=>simp at hj
theorem init_rel {P:Program} {E0:Env} {w:World} {args:List AV} {vs:Array Value} {n m:Nat} (hE0:Base E0 w) (hargs:RepMs w E0 args vs) (hl:args.length≤n) :
  Rel ⟨E0.rd,E0.lent,m,tmV vs⟩ w n (initM args 0) { tmps:=vs++Array.replicate (n-vs.size) undef,defers:=[] } w:=by
 have hsz:vs.size≤n:=Nat.le_trans hargs.size hl
 have htm:∀i,tmOf { tmps:=vs++Array.replicate (n-vs.size) undef,defers:=[] } i=tmV vs i:=by
  intro i
  simp only [tmOf,tmV,Array.getD_eq_getD_getElem?,Array.getElem?_append]
  split
  ·rfl
  ·rename_i hi
   rw [Array.getElem?_eq_none (by omega:vs.size≤i),Array.getElem?_replicate]
   split<;>rfl
 have htmf:tmOf { tmps:=vs++Array.replicate (n-vs.size) undef,defers:=[] }=tmV vs:=funext htm
 have hE:Base ⟨E0.rd,E0.lent,m,tmV vs⟩ w:=⟨hE0.rd,hE0.lent,hE0.apart,hE0.amb,hE0.far⟩
 have hinit:∀i,initM args 0 i=argSt args i:=fun i=>by rw [initM_at];simp [argSt]
 have hinitf:initM args 0=argSt args:=funext hinit
 have hcase:∀i,argSt args i=.dead∨∃x,args[i]?=some x∧argSt args i=x∧argOk args x=true∧RepAV w E0.rd E0.lent (argSt args) (tmV vs) x (tmV vs i):=by
  intro i
  cases hx:args[i]? with
  | none=>left;unfold argSt;rw [hx];rfl
  | some x =>
   obtain ⟨hbr,hr⟩:=hargs.rep i x hx
   exact .inr ⟨x,rfl,by unfold argSt;rw [hx];rfl,hbr,hr⟩
 have hblk:∀i b,blkOf (argSt args i) (tmV vs i)=some b→E0.lent b:=by
  intro i b hbb
  rcases hcase i with h | ⟨x,h1,h3,h4,h5⟩
  ·rw [h] at hbb;cases hbb
  ·rw [h3] at hbb;exact (h5.blk_lt hbb).1
 rw [hinitf]
 refine ⟨rfl,by simp;omega,Kept.refl _ _,hE,fun i=>?_,fun i j b hi hj=>?_,fun i hi=>?_,fun i j hij=>?_,fun j hj=>htm j⟩
 ·rw [htmf]
  rcases hcase i with h | ⟨x,h1,h3,h4,h5⟩
  ·rw [h];trivial
  ·rw [h3]
   refine h5.argOk h4 (fun b hb=>⟨.inl hb,hE0.rd b hb,fun k hk=>?_⟩) (fun b _ hb=>.inr hb)
   exact hE0.apart b hb (hblk k b hk)
 ·rw [htm] at hi hj
  rcases hcase i with h | ⟨x,h1,h3,h4,h5⟩
  ·rw [h] at hi;cases hi
  rcases hcase j with h | ⟨y,k1,k3,k4,k5⟩
  ·rw [h] at hj;cases hj
  rw [h3] at hi
  rw [k3] at hj
  exact hargs.inj i j x y b h1 hi k1 hj
 ·unfold argSt;rw [List.getElem?_eq_none (by omega)];rfl
 ·rcases hcase i with h | ⟨x,h1,h3,h4,h5⟩
  ·rw [h] at hij;cases hij
  ·rw [h3] at hij;exact argOk_refs h4 hij
def RetMk (t:Nat) (g:FuncId) (v:Value) (e:Exit) (s:St):Prop:=(e=.normal∨e=.ret)∧∃k,s t=.cloR g [.inr (k,0)]∧s k=.box [.atom v]
theorem AMakes.of [Hint] {P : Program} {f g : FuncId} {fn : Func} {c : Code} {t : Nat} (hm : P.follows .mixedOrders = true) (hf : P.funcs[f]? = some fn) (hname : (fn.name == "runtime.NumGoroutine") = false)
  (hb:fn.body=some c) (hok:codeOk c=true) (hl:1≤fn.ntmps) (hres:fn.results.toList=[.tmp t]) (h:∀v:Value,awp P fn.ntmps c (RetMk t g v) (initM [.x (.one (.atom v))] 0)):AMakes P f g:=by
 refine ⟨⟨fn,hf,hname,by rw [hb];rfl⟩,fun w v hv hamb=>calls_of_wp hf hb ?_⟩
 have hE:Base ⟨fun _=>False,fun _=>False,0,fun _=>undef⟩ w:=⟨fun _ h=>h.elim,fun _ h=>h.elim,fun _ h=>h.elim,hamb,fun _ _ h=>h.elim⟩
 have hargs:RepMs w ⟨fun _=>False,fun _=>False,0,fun _=>undef⟩ [.x (.one (.atom v))] #[v]:=by
  refine ⟨by simp,fun j x hj=>?_,fun i j x y b h1 h3=>?_,fun b h=>h.elim⟩
  ·cases j with
   | succ j=>simp at hj
   | zero =>
    simp at hj
    subst hj
    exact ⟨rfl,RepC.atom v hv⟩
  ·cases i with
   | succ i=>simp at h1
   | zero=>simp at h1;subst h1;cases h3
 have hR:=init_rel (P:=P) (n:=fn.ntmps) (m:=0) hE hargs (by simpa using hl)
 refine awp_ok hm c _ _ _ _ _ hok (codeDst_zero c) hR (h v) (fun e s' a' w' hR' hq=>?_)
 obtain ⟨he,k,h1,h2⟩:=hq
 have hrun:(results fn a'.tmps).run P w'=.ok (tmOf a' t) w':=by
  rw [results_eq,←Array.toArray_toList (xs:=fn.results),List.mapM_toArray,hres]
  simp [resM]
 have ht:=hR'.rep t
 rw [h1] at ht
 obtain ⟨us,hv1,hul,hc⟩:=ht
 obtain ⟨u,hu,hcu⟩:=hc 0 _ rfl
 rw [capRep_inr,if_pos (by simp)] at hcu
 obtain ⟨b,rfl,hb'⟩:=hcu
 have hk:=hR'.rep k
 rw [h2] at hk hb'
 obtain ⟨b',arr,ty,hv2,hh,hrl,hO⟩:=hk
 rw [hv2] at hb'
 obtain rfl:b'=b:=by simpa [blkOf] using hb'
 have harr:arr=#[v]:=by
  obtain ⟨hl1,hc1⟩:=hrl
  obtain ⟨u,hu,hr⟩:=hc1 0 _ rfl
  cases hr
  have:arr.size=1:=by simpa using hl1
  apply Array.ext
  ·simpa using this
  ·intro i h3 h4
   have:i=0:=by simp at h4;omega
   subst this
   have:=Array.getElem?_eq_some_iff.1 (by simpa using hu:arr[0]?=some v)
   simpa using this.2
 subst harr
 have hus:us=#[.pointer (some ⟨b',0,none⟩)]:=by
  have:us.size=1:=by simpa using hul
  apply Array.ext
  ·simpa using this
  ·intro i h3 h4
   have:i=0:=by simp at h4;omega
   subst this
   have:=(Array.getElem?_eq_some_iff.1 hu).2
   simpa using this
 subst hus
 have hfin:a'.defers=[]∧∃v',(results fn a'.tmps).run P w'=.ok v' w'∧∃b t,Ending.returned v'=.returned (.func (.func g) #[] #[.pointer (some ⟨b,0,none⟩)])∧w.heap.size≤b∧w'.heap[b]?=some (.cells #[v] t (0,0))∧Below w.heap.size w w':=by
  refine ⟨hR'.defers,_,hrun,b',ty,by rw [hv1],?_,hh,hR'.below.below (fun _ h=>h)⟩
  rcases hO with h | h
  ·exact h
  ·exact h.elim
 rcases he with rfl | rfl
 ·exact hfin
 ·exact hfin
end Go.Ab
namespace Go.Ab
open Go Go.RowKit
variable [Amb]
section
variable (P:Program) (n:Nat) (fl:List Nat) (ops:Array Oper) (s:St) (K:St→Prop)
@[simp] theorem aopsI_one (o:Oper):aopsI P n ops [o] s K=K s:=rfl
@[simp] theorem aopsI_cons (o o2:Oper) (r:List Oper):aopsI P n ops (o::o2::r) s K=aops P n ops [o] (touch s) (fun s'=>aopsI P n ops (o2::r) (touch s') K):=rfl
@[simp] theorem aopsWI_one (fr:List Nat) (o:Oper):aopsWI P n fl ops fr [o] s K=K s:=by simp only [aopsWI,List.dropLast,aopsW]
@[simp] theorem aopsWI_1 (fr:List Nat) (o o2:Oper) (r:List Oper):aopsWI P n fl ops (1::fr) (o::o2::r) s K=aopD P n ops o (touch s) (fun s'=>aopsWI P n fl ops fr (o2::r) (touch s') K):=rfl
@[simp] theorem aopsWI_7 (fr:List Nat) (o o2:Oper) (r:List Oper):aopsWI P n fl ops (7::fr) (o::o2::r) s K=(bareOp P (touch s) o.op∧aopD P n ops o (touch s) (fun s'=>aopsWI P n fl ops fr (o2::r) (touch s') K)):=rfl
@[simp] theorem aopsWI_9 (fr:List Nat) (o o2:Oper) (r:List Oper):aopsWI P n fl ops (9::fr) (o::o2::r) s K=(appU o=true∧appSide (touch s) (copies7 fl) ops o∧aops P n ops [o] (touch s) (fun s'=>aopsWI P n fl ops fr (o2::r) (touch s') K)):=rfl
@[simp] theorem growLL_cons (o o2:Oper) (r:List Oper):growLL P n ops (o::o2::r) s K=growLL P n ops (o2::r) s K:=rfl
@[simp] theorem growLL_one (d:Nat) (f:Operand) (args:List Operand) (ts:Array TypeId) (ty:TypeId) (pos:String) (after:Array Edge):growLL P n ops [⟨some d,.call ⟨.value f,⟨args⟩,ts⟩,ty,pos,after,none⟩] s K=growC P n d s (calleeM s f args) K:=by
 show (_∧growC P n d s (calleeM s f args) K)=_
 simp
end
def AName (P:Program) (n:Nat) (ops:Array Oper) (o:Oper) (s:St) [k:Seal (St→Prop)]:Prop:=∃j g e z xs,s j=.own e z xs∧n≤g∧(s g).free=true∧∀v,aops P n ops [o] (nameSt s j g v e z xs) k.val
theorem AName.of {P:Program} {n:Nat} {ops:Array Oper} {o:Oper} {s:St} {k:St→Prop} (j g:Nat) {e z:Nat} {xs:List (List CV)} (h1:s j=.own e z xs) (h2:n≤g) (h3:(s g).free=true) (h:∀v,aops P n ops [o] (nameSt s j g v e z xs) k):@AName _ P n ops o s ⟨k⟩:=⟨j,g,e,z,xs,h1,h2,h3,h⟩
@[congr] theorem AName_congr {P:Program} {n:Nat} {ops:Array Oper} {o:Oper} {s s':St} [k:Seal (St→Prop)] (h:s=s'):AName P n ops o s=AName P n ops o s':=by rw [h]
section
variable (P:Program) (n:Nat) (ops:Array Oper) (s:St) (K:St→Prop)
@[simp] theorem growLL_map (t:TypeId) (m k x:Operand) (ty:TypeId) (pos:String) (after:Array Edge):growLL P n ops [⟨none,.mapUpdate t m k x,ty,pos,after,none⟩] s K=@AName _ P n ops ⟨none,.mapUpdate t m k x,ty,pos,after,none⟩ s ⟨K⟩:=by
 show (_∧_)=_
 simp only [true_and]
 rfl
end
@[simp] theorem unnameSt_at (s:St) (j g e z:Nat) (xs:List (List CV)) (k:Nat):unnameSt s j g e z xs k=if k=j then .own e z xs else if k=g then .dead else if (s k).refs g then .dead else s k:=rfl
@[simp] theorem linkNmSt_at (s:St) (i off j g:Nat) (v:Value) (cs:List CV) (e z:Nat) (xs:List (List CV)) (k:Nat):linkNmSt s i off j g v cs e z xs k=if k=i then .box (cs.set off (.atom v)) else unlink (nameSt s j g v e z xs) i off 1 k:=rfl
@[simp] theorem nmLinkSt_at (s:St) (i off j g e z:Nat) (cs:List CV) (xs:List (List CV)) (k:Nat):nmLinkSt s i off j g e z cs xs k=if k=LK i off then .link i off j else if k=i then .box (cs.set off .any) else unlink (unnameSt s j g e z xs) i off 1 k:=rfl
@[simp] theorem nameSt_at (s:St) (j g:Nat) (v:Value) (e z:Nat) (xs:List (List CV)) (k:Nat):nameSt s j g v e z xs k=if k=j then .x (.one (.atom v)) else if k=g then .gown v e z xs else if (s k).refs j then .dead else s k:=rfl
@[congr] theorem growC_congr {P:Program} {n d:Nat} {s:St} {c c':Prop×Option (FuncId×List (AV×Option Nat))} {K:St→Prop} (h:c=c'):growC P n d s c K=growC P n d s c' K:=by rw [h]
@[simp] theorem growC_mk (P:Program) (n d:Nat) (s:St) (p:Prop) (g:FuncId) (xs:List (AV×Option Nat)) (K:St→Prop):growC P n d s (p,some (g,xs)) K=(p∧d<n∧d<MARK∧growX P d s g xs K (linksOf s xs)):=rfl
@[congr] theorem growX_congr {P:Program} {d:Nat} {s:St} {g:FuncId} {xs:List (AV×Option Nat)} {K:St→Prop} {L L':List (Nat×Nat×Nat)} (h:L=L'):growX P d s g xs K L=growX P d s g xs K L':=by rw [h]
@[simp] theorem growX_cons (P:Program) (d:Nat) (s:St) (g:FuncId) (xs:List (AV×Option Nat)) (K:St→Prop) (l:Nat×Nat×Nat) (L:List (Nat×Nat×Nat)):growX P d s g xs K (l::L)=growY P d s g xs (l::L) K (gisOf s (l::L)) (lksOf xs (l::L)):=rfl
@[congr] theorem growY_congr {P:Program} {d:Nat} {s:St} {g:FuncId} {xs:List (AV×Option Nat)} {L:List (Nat×Nat×Nat)} {K:St→Prop} {gi gi':Option (List (Nat×Nat×List (List CV)))} {lk lk':Option (List (Nat×Nat))} (h1:gi=gi') (h2:lk=lk'):growY P d s g xs L K gi lk=growY P d s g xs L K gi' lk':=by rw [h1,h2]
def AGrow (P:Program) (g:FuncId) (args:List AV) (gi:List (Nat×Nat×List (List CV))) (lk:List (Nat×Nat)) [k:Seal (RV→List AV→List (Nat×Nat×List (List CV))→Prop)]:Prop:=∃r outs go,ACallsL P g args gi lk r outs go∧k.val r outs go
theorem AGrow.of {P:Program} {g:FuncId} {args:List AV} {gi:List (Nat×Nat×List (List CV))} {lk:List (Nat×Nat)} {k:RV→List AV→List (Nat×Nat×List (List CV))→Prop} {r:RV} {outs:List AV} {go:List (Nat×Nat×List (List CV))} (h:ACallsL P g args gi lk r outs go) (hk:k r outs go):@AGrow _ P g args gi lk ⟨k⟩:=⟨r,outs,go,h,hk⟩
@[simp] theorem growY_some (P:Program) (d:Nat) (s:St) (g:FuncId) (xs:List (AV×Option Nat)) (L:List (Nat×Nat×Nat)) (K:St→Prop) (gi:List (Nat×Nat×List (List CV))) (lk:List (Nat×Nat)):growY P d s g xs L K (some gi) (some lk)=((slotsOf (xs++ownsOf s L)).Nodup∧(slotsOf (xs++ownsOf s L)).contains d=false∧@AGrow _ P g (trAs (xs++ownsOf s L) xs) gi lk ⟨fun r outs go=>∀g',K (relink (Ab.put (setOuts (unlinkBoxes s xs) (xs++ownsOf s L) (outs++gownL g' 0 go)) d r.av) L)⟩):=rfl
@[simp] theorem gownL_nil (g:Nat→Value) (k:Nat):gownL g k []=[]:=rfl
@[simp] theorem gownL_cons (g:Nat→Value) (k e z:Nat) (xs:List (List CV)) (r:List (Nat×Nat×List (List CV))):gownL g k ((e,z,xs)::r)=.gown (g k) e z xs::gownL g (k+1) r:=rfl
@[simp] theorem slE_own (e z:Nat) (xs:List (List CV)):slE (.own e z xs)=some (e,z,xs):=rfl
@[simp] theorem slE_gown (g:Value) (e z:Nat) (xs:List (List CV)):slE (.gown g e z xs)=some (e,z,xs):=rfl
@[simp] theorem linkIs_link (i off i' o d:Nat):linkIs i off (.link i' o d)=if i'=i∧o=off then some d else none:=rfl
def linkC (i off:Nat) (X:List (Nat×Nat×Nat)) (b:Bool) (q:Option Nat):List (Nat×Nat×Nat):=match b with
 | true=>match q with
  | some d=>(i,off,d)::X
  | none=>X
 | false=>X
@[simp] theorem linkC_some (i off d:Nat) (X:List (Nat×Nat×Nat)):linkC i off X true (some d)=(i,off,d)::X:=rfl
@[simp] theorem linksAt_nil (s:St) (i off:Nat):linksAt s i off []=[]:=rfl
@[simp] theorem linksAt_cons (s:St) (i off:Nat) (c:CV) (r:List CV):linksAt s i off (c::r)=linkC i off (linksAt s i (off+1) r) c.isAny (linkIs i off (s (LK i off))):=by
 simp only [linksAt,linkC]
 cases c.isAny with
 | false=>rfl
 | true=>cases linkIs i off (s (LK i off))<;>rfl
@[simp] theorem boxC_box (cs:List CV):AV.boxC (.box cs)=some cs:=rfl
def linksB (s:St) (i:Nat) (X:List (Nat×Nat×Nat)):Option (List CV)→List (Nat×Nat×Nat)
 | some cs=>linksAt s i 0 cs++X
 | none=>X
@[simp] theorem linksB_some (s:St) (i:Nat) (X:List (Nat×Nat×Nat)) (cs:List CV):linksB s i X (some cs)=linksAt s i 0 cs++X:=rfl
@[simp] theorem linksOf_nil (s:St):linksOf s []=[]:=rfl
@[simp] theorem linksOf_none (s:St) (x:AV) (r:List (AV×Option Nat)):linksOf s ((x,none)::r)=linksOf s r:=rfl
@[simp] theorem linksOf_some (s:St) (x:AV) (i:Nat) (r:List (AV×Option Nat)):linksOf s ((x,some i)::r)=linksB s i (linksOf s r) x.boxC:=by
 simp only [linksOf,linksB]
 cases x.boxC<;>rfl
def consG {α:Type}:Option α→Option (List α)→Option (List α)
 | some x,some l=>some (x::l)
 | _,_=>none
@[simp] theorem consG_some {α:Type} (x:α) (l:List α):consG (some x) (some l)=some (x::l):=rfl
@[simp] theorem gisOf_nil (s:St):gisOf s []=some []:=rfl
@[simp] theorem gisOf_cons (s:St) (l:Nat×Nat×Nat) (r:List (Nat×Nat×Nat)):gisOf s (l::r)=consG (slE (s l.2.2)) (gisOf s r):=by
 simp only [gisOf]
 cases slE (s l.2.2)<;>cases gisOf s r<;>rfl
@[simp] theorem lksOf_nil (xs:List (AV×Option Nat)):lksOf xs []=some []:=rfl
@[simp] theorem lksOf_cons (xs:List (AV×Option Nat)) (l:Nat×Nat×Nat) (r:List (Nat×Nat×Nat)):lksOf xs (l::r)=consG ((posOf l.1 xs 0).map fun p=>(p,l.2.1)) (lksOf xs r):=by
 simp only [lksOf]
 cases posOf l.1 xs 0<;>cases lksOf xs r<;>rfl
@[simp] theorem ownsOf_nil (s:St):ownsOf s []=[]:=rfl
@[simp] theorem ownsOf_cons (s:St) (l:Nat×Nat×Nat) (r:List (Nat×Nat×Nat)):ownsOf s (l::r)=(s l.2.2,some l.2.2)::ownsOf s r:=rfl
def unlK (s:St) (i:Nat) (r:List (AV×Option Nat)):Option (List CV)→St
 | some cs=>unlinkBoxes (unlink s i 0 cs.length) r
 | none=>unlinkBoxes s r
@[simp] theorem unlK_some (s:St) (i:Nat) (r:List (AV×Option Nat)) (cs:List CV):unlK s i r (some cs)=unlinkBoxes (unlink s i 0 cs.length) r:=rfl
@[simp] theorem unlinkBoxes_nil (s:St):unlinkBoxes s []=s:=rfl
@[simp] theorem unlinkBoxes_none (s:St) (x:AV) (r:List (AV×Option Nat)):unlinkBoxes s ((x,none)::r)=unlinkBoxes s r:=rfl
@[simp] theorem unlinkBoxes_some (s:St) (x:AV) (i:Nat) (r:List (AV×Option Nat)):unlinkBoxes s ((x,some i)::r)=unlK s i r x.boxC:=by
 simp only [unlinkBoxes,unlK]
 cases x.boxC<;>rfl
@[simp] theorem relink_nil (s:St):relink s []=s:=rfl
@[simp] theorem relink_cons (s:St) (l:Nat×Nat×Nat) (r:List (Nat×Nat×Nat)):relink s (l::r)=relink (upd s (LK l.1 l.2.1) (.link l.1 l.2.1 l.2.2)) r:=rfl
@[simp] theorem setOut_gown (s:St) (i:Nat) (g:Value) (e z:Nat) (xs:List (List CV)):setOut s i (.gown g e z xs)=upd (kill s i) i (.gown g e z xs):=setOut_kill s i _
def lkL:List (Nat×Nat)→Nat→List (Nat×Nat×Nat)
 | [],_=>[]
 | p::r,b=>(p.1,p.2,b)::lkL r (b+1)
@[simp] theorem lkL_nil (b:Nat):lkL [] b=[]:=rfl
@[simp] theorem lkL_cons (p:Nat×Nat) (r:List (Nat×Nat)) (b:Nat):lkL (p::r) b=(p.1,p.2,b)::lkL r (b+1):=rfl
theorem lkL_mem:∀{lk:List (Nat×Nat)} {b:Nat} {l:Nat×Nat×Nat},l∈lkL lk b→∃k,lk[k]?=some (l.1,l.2.1)∧l.2.2=b+k
 | [],b,l,h=>by simp at h
 | p::r,b,l,h=>by
  rcases List.mem_cons.1 h with rfl | h
  ·exact ⟨0,rfl,rfl⟩
  ·obtain ⟨k,h1,h2⟩:=lkL_mem h
   exact ⟨k+1,by simpa using h1,by omega⟩
def linksOut (s:St) (outs:List AV):List (Nat×Nat)→List (Nat×Nat×List (List CV))→List Nat→Prop
 | [],[],_=>True
 | p::r,q::go,ds=>∃d,linkIs p.1 p.2 (s (LK p.1 p.2))=some d∧slE (s d)=some q∧outs[p.1]?=some (s p.1)∧(outs[d]?).getD .dead=.dead∧ds.contains d=false∧linksOut s outs r go (d::ds)
 | _,_,_=>False
@[congr] theorem linksOut_congr {s s':St} {outs:List AV} {lk:List (Nat×Nat)} {go:List (Nat×Nat×List (List CV))} {ds:List Nat} (h:s=s'):linksOut s outs lk go ds=linksOut s' outs lk go ds:=by rw [h]
@[simp] theorem linksOut_nil (s:St) (outs:List AV) (ds:List Nat):linksOut s outs [] [] ds=True:=by simp only [linksOut]
@[simp] theorem linksOut_cons (s:St) (outs:List AV) (ds:List Nat) (p:Nat×Nat) (r:List (Nat×Nat)) (q:Nat×Nat×List (List CV)) (go:List (Nat×Nat×List (List CV))):linksOut s outs (p::r) (q::go) ds=∃d,linkIs p.1 p.2 (s (LK p.1 p.2))=some d∧slE (s d)=some q∧outs[p.1]?=some (s p.1)∧(outs[d]?).getD .dead=.dead∧ds.contains d=false∧linksOut s outs r go (d::ds):=rfl
theorem linksOut_list {s:St} {outs:List AV}:∀{lk:List (Nat×Nat)} {go:List (Nat×Nat×List (List CV))} {ds:List Nat},linksOut s outs lk go ds→∃D:List Nat,D.length=lk.length∧go.length=lk.length∧D.Nodup∧(∀d∈D,d∉ds) ∧
  ∀(k i off:Nat),lk[k]?=some (i,off)→∃d q,D[k]?=some d∧go[k]?=some q∧s (LK i off)=.link i off d∧slE (s d)=some q∧outs[i]?=some (s i)∧(outs[d]?).getD .dead=.dead
 | [],[],_,_=>⟨[],rfl,rfl,List.nodup_nil,fun d h=>(by cases h),fun k i off h=>(by simp at h)⟩
 | p::r,q::go,ds,h=>by
  obtain ⟨d,h1,h2,h3,h4,h5,h6⟩:=h
  obtain ⟨D,k1,k2,k3,k4,k5⟩:=linksOut_list h6
  have hd:d∉ds:=by
   intro hm
   have:ds.contains d=true:=by simpa using hm
   rw [this] at h5;cases h5
  refine ⟨d::D,by simp [k1],by simp [k2],List.nodup_cons.2 ⟨fun hm=>k4 d hm (by simp),k3⟩,fun x hx=>?_,fun k i off hk=>?_⟩
  ·rcases List.mem_cons.1 hx with rfl | hx
   ·exact hd
   ·exact fun hm=>k4 x hx (by simp [hm])
  ·cases k with
   | zero =>
    simp at hk
    subst hk
    exact ⟨d,q,rfl,rfl,linkIs_spec h1,h2,h3,h4⟩
   | succ k =>
    simp at hk
    obtain ⟨d',q',e1,e2,e3⟩:=k5 k i off hk
    exact ⟨d',q',by simpa using e1,by simpa using e2,e3⟩
 | [],_::_,_,h=>by simp [linksOut] at h
 | _::_,[],_,h=>by simp [linksOut] at h
def RetG (P:Program) (rs:List ResultVar) (lk:List (Nat×Nat)) (r:RV) (outs:List AV) (go:List (Nat×Nat×List (List CV))) (e:Exit) (s:St):Prop:=(e=.normal∨e=.ret)∧giveR P s rs outs r∧outsIn (endSt s rs r) 0 outs∧linksOut (endSt s rs r) outs lk go []
@[congr] theorem RetG_congr {P:Program} {rs:List ResultVar} {lk:List (Nat×Nat)} {r:RV} {outs:List AV} {go:List (Nat×Nat×List (List CV))} {e:Exit} {s s':St} (h:s=s'):RetG P rs lk r outs go e s=RetG P rs lk r outs go e s':=by rw [h]
@[simp] theorem RetG_normal (P:Program) (rs:List ResultVar) (lk:List (Nat×Nat)) (r:RV) (outs:List AV) (go:List (Nat×Nat×List (List CV))) (s:St):RetG P rs lk r outs go .normal s=(giveR P s rs outs r∧outsIn (endSt s rs r) 0 outs∧linksOut (endSt s rs r) outs lk go []):=by
 simp only [RetG,true_or,true_and]
theorem ACallsL.of [Hint] (lkr : List (Nat × Nat)) {P : Program} {f : FuncId} {fn : Func} {c : Code} {args : List AV} {gi go : List (Nat × Nat × List (List CV))} {lk : List (Nat × Nat)} {r : RV} {outs : List AV} (hmk : args.length + gi.length ≤ 999999) (hm : P.follows .mixedOrders = true) (hf : P.funcs[f]? = some fn) (hname : (fn.name == "runtime.NumGoroutine") = false)
  (hb:fn.body=some c) (hok:codeOk c=true) (hod:codeDst (liveLen outs) c=true) (hfit:outsFit args outs=true) (hl:args.length+gi.length≤fn.ntmps) (hgl:gi.length=lk.length) (hgo:go.length=lk.length) (hrr:∀v,r.blk v=none)
  (h:∀g:Nat→Value,(∀x∈args,x.ok)→awp P fn.ntmps c (RetG P fn.results.toList lk r outs go) (resv (relink (initM (args++gownL g 0 gi) 0) (lkL lk args.length)) lkr)):ACallsL P f args gi lk r outs go:=by
 refine ⟨⟨fn,hf,hname,by rw [hb];rfl⟩,hfit,hgl,hgo,hrr,fun w E0 vs g hE0 hargs hlin=>?_⟩
 have hargok:∀x∈args,x.ok:=by
  intro x hx
  obtain ⟨j,hj⟩:=List.getElem?_of_mem hx
  exact (hargs.rep j x (by rw [List.getElem?_append_left (List.getElem?_eq_some_iff.1 hj).1];exact hj)).2.ok
 refine calls_of_wp hf hb ?_
 have hlA:(args++gownL g 0 gi).length=args.length+gi.length:=by simp [gownL_len]
 have hR:=init_rel (P:=P) (n:=fn.ntmps) (m:=liveLen outs) hE0 hargs (by omega)
 have hsz:vs.size≤fn.ntmps:=Nat.le_trans hargs.size (by omega)
 have htm:∀i,tmOf { tmps:=vs++Array.replicate (fn.ntmps-vs.size) undef,defers:=[] } i=tmV vs i:=by
  intro i
  simp only [tmOf,tmV,Array.getD_eq_getD_getElem?,Array.getElem?_append]
  split
  ·rfl
  ·rename_i hi
   rw [Array.getElem?_eq_none (by omega:vs.size≤i),Array.getElem?_replicate]
   split<;>rfl
 have hinit:∀i,initM (args++gownL g 0 gi) 0 i=argSt (args++gownL g 0 gi) i:=fun i=>by rw [initM_at];simp [argSt]
 have hfar:∀i,999999≤i→argSt (args++gownL g 0 gi) i=.dead:=fun i hi=>by unfold argSt;rw [List.getElem?_eq_none (by omega)];rfl
 have hRl:=hR.relink (lkL lk args.length) (fun l hl=>by
  obtain ⟨k,h1,h2⟩:=lkL_mem hl
  obtain ⟨m1,cs,b,m2,m3,m4,m5⟩:=hlin k l.1 l.2.1 h1
  simp only [hinit,htm,h2]
  exact ⟨by rw [hfar _ (by unfold LK;omega)];rfl,m1,cs,b,m2,m3,m4,m5⟩)
 have hRv:=hRl.resv (by
  have:∀(L:List (Nat×Nat×Nat)) (s:St),(s MARK).free=true→(Ab.relink s L MARK).free=true:=by
   intro L
   induction L with
   | nil=>intro s h;exact h
   | cons l r ih =>
    intro s h
    refine ih _ ?_
    show (if MARK=LK l.1 l.2.1 then AV.link l.1 l.2.1 l.2.2 else s MARK).free=true
    split
    ·rfl
    ·exact h
  exact this _ _ (by rw [hinit,hfar _ (by unfold MARK;omega)];rfl)) lkr
 refine awp_ok hm c _ _ _ _ _ hok hod hRv (h g hargok) (fun e s' a' w' hR' hq=>?_)
 obtain ⟨he,hg,hout,hlo⟩:=hq
 obtain ⟨v,hrun,hR2,hrep,_⟩:=giveR_ok hR' hg
 obtain ⟨hfl,hfa⟩:=outsFit_at hfit
 generalize endSt s' fn.results.toList r=s2 at hR2 hrep hout hlo
 obtain ⟨D,hDl,_,hDn,_,hD⟩:=linksOut_list hlo
 have hlk0:∀{k:Nat} {q:Nat×Nat×List (List CV)},go[k]?=some q→∃i off,lk[k]?=some (i,off):=by
  intro k q hk
  have:k<lk.length:=by rw [←hgo];exact (List.getElem?_eq_some_iff.1 hk).1
  exact ⟨lk[k].1,lk[k].2,List.getElem?_eq_getElem this⟩
 let g':Nat→Value:=fun k=>(s2 (D.getD k 0)).valOf (tmOf a' (D.getD k 0))
 have hg':∀{k d:Nat},D[k]?=some d→g' k=(s2 d).valOf (tmOf a' d):=by
  intro k d hk
  show (s2 (D.getD k 0)).valOf (tmOf a' (D.getD k 0))=_
  rw [List.getD_eq_getElem?_getD,hk];rfl
 have hO1:∀j,j<outs.length→(outs++gownL g' 0 go)[j]?=outs[j]?:=fun j hj=>List.getElem?_append_left hj
 have hO2:∀k,(outs++gownL g' 0 go)[outs.length+k]?=(go[k]?).map fun x=>AV.gown (g' k) x.1 x.2.1 x.2.2:=by
  intro k
  rw [List.getElem?_append_right (by omega),show outs.length+k-outs.length=k by omega,gownL_at,Nat.zero_add]
 have hpin:∀j,j<liveLen outs→tmOf a' j=tmV vs j:=fun j hj=>hR2.pin j hj
 have houts:∀(j:Nat) (o:AV),outs[j]?=some o→o≠.dead→s2 j=o∧tmOf a' j=tmV vs j:=by
  intro j o h1 h3
  have:=outsIn_at hout j o h1 h3
  rw [Nat.zero_add] at this
  exact ⟨this,hpin j (liveLen_at h1 h3)⟩
 have hcase:∀(j:Nat) (o:AV),(outs++gownL g' 0 go)[j]?=some o→(j<outs.length∧outs[j]?=some o)∨∃k d q,j=outs.length+k∧D[k]?=some d∧go[k]?=some q∧o=.gown ((s2 d).valOf (tmOf a' d)) q.1 q.2.1 q.2.2∧slE (s2 d)=some q∧(outs[d]?).getD .dead=.dead:=by
  intro j o hj
  by_cases hlt:j<outs.length
  ·rw [hO1 j hlt] at hj;exact .inl ⟨hlt,hj⟩
  ·obtain ⟨k,rfl⟩:∃k,j=outs.length+k:=⟨j-outs.length,by omega⟩
   rw [hO2] at hj
   cases hq:go[k]? with
   | none=>rw [hq] at hj;cases hj
   | some q =>
    rw [hq] at hj
    injection hj with hj
    obtain ⟨i,off,hik⟩:=hlk0 hq
    obtain ⟨d,q',e1,e2,_,e4,_,e6⟩:=hD k i off hik
    rw [hq] at e2
    injection e2 with e2
    subst e2
    exact .inr ⟨k,d,q,rfl,e1,hq,by rw [←hj,hg' e1],e4,e6⟩
 have hslot:∀(j:Nat) (o:AV) (b:Nat),(outs++gownL g' 0 go)[j]?=some o→blkOf o (tmV vs j)=some b→(j<outs.length∧outs[j]?=some o∧o≠.dead∧blkOf (s2 j) (tmOf a' j)=some b)∨∃k d,j=outs.length+k∧D[k]?=some d∧blkOf (s2 d) (tmOf a' d)=some b∧(outs[d]?).getD .dead=.dead:=by
  intro j o b hj hb
  rcases hcase j o hj with ⟨h1,h2⟩ | ⟨k,d,q,rfl,h1,h2,rfl,h4,h5⟩
  ·have hne:o≠.dead:=by rintro rfl;cases hb
   obtain ⟨h6,h7⟩:=houts j o h2 hne
   exact .inl ⟨h1,h2,hne,by rw [h6,h7];exact hb⟩
  ·refine .inr ⟨k,d,rfl,h1,?_,h5⟩
   rcases slE_cases h4 with e | ⟨u,e⟩<;>rw [e] at hb ⊢<;>exact hb
 have hinj:∀(i j:Nat) (x y:AV) (b:Nat),(outs++gownL g' 0 go)[i]?=some x→blkOf x (tmV vs i)=some b→(outs++gownL g' 0 go)[j]?=some y→blkOf y (tmV vs j)=some b→i=j:=by
  intro i j x y b h1 h2 h3 h4
  rcases hslot i x b h1 h2 with ⟨k1,k2,k3,k4⟩ | ⟨k,d,rfl,k2,k3,k4⟩<;>rcases hslot j y b h3 h4 with ⟨m1,m2,m3,m4⟩ | ⟨k',d',rfl,m2,m3,m4⟩
  ·exact hR2.inj i j b k4 m4
  ·have:=hR2.inj i d' b k4 m3
   subst this
   rw [k2] at m4
   exact absurd m4 k3
  ·have:=hR2.inj d j b k3 m4
   subst this
   rw [m2] at k4
   exact absurd k4 m3
  ·have:=hR2.inj d d' b k3 m3
   subst this
   have hk:k<D.length:=(List.getElem?_eq_some_iff.1 k2).1
   have hk':k'<D.length:=(List.getElem?_eq_some_iff.1 m2).1
   have e1:D[k]=D[k']:=by
    have a1:=(List.getElem?_eq_some_iff.1 k2).2
    have a2:=(List.getElem?_eq_some_iff.1 m2).2
    rw [a1,a2]
   have:=(List.getElem_inj hDn).1 e1
   omega
 have hno:∀(b:Nat),Owned (outs++gownL g' 0 go) vs b→∃t,blkOf (s2 t) (tmOf a' t)=some b:=by
  rintro b ⟨j,o,h1,h3⟩
  rcases hslot j o b h1 h3 with ⟨_,_,_,h⟩ | ⟨_,d,_,_,h,_⟩
  ·exact ⟨j,h⟩
  ·exact ⟨d,h⟩
 have hafter:∀b,Shared ⟨E0.rd,E0.lent,liveLen outs,tmV vs⟩ w.heap.size w' s2 (tmOf a') b→After w w' E0 (outs++gownL g' 0 go) vs b:=by
  intro b hb
  refine ⟨?_,fun ho=>?_⟩
  ·rcases hb.1 with h | h | h
   ·exact .inl h
   ·exact .inr (.inr ⟨h,hb.2.1⟩)
   ·exact .inr (.inl h)
  ·obtain ⟨t,h⟩:=hno b ho
   exact hb.2.2 t h
 have hB:∀b,OwnB ⟨E0.rd,E0.lent,liveLen outs,tmV vs⟩ w.heap.size b→E0.lent b∨w.heap.size≤b:=fun b hb=>hb.elim .inr .inl
 have hfin:a'.defers=[]∧∃v,(results fn a'.tmps).run P w'=.ok v w'∧∃v1 g',Ending.returned v=.returned v1∧Kept E0.lent w w'∧RepR w' (After w w' E0 (outs++gownL g' 0 go) vs) r v1 ∧
   (∀(j:Nat) (o:AV),(outs++gownL g' 0 go)[j]?=some o→RepAV w' (After w w' E0 (outs++gownL g' 0 go) vs) (fun b=>E0.lent b∨w.heap.size≤b) deadSt noTm o (tmV vs j)) ∧
   (∀(i j:Nat) (x y:AV) (b:Nat),(outs++gownL g' 0 go)[i]?=some x→blkOf x (tmV vs i)=some b→(outs++gownL g' 0 go)[j]?=some y→blkOf y (tmV vs j)=some b→i=j) ∧
   LinksIn w' (argSt (outs++gownL g' 0 go)) (tmV vs) lk args.length:=by
  refine ⟨hR'.defers,v,hrun,v,g',rfl,hR'.below,hrep.mono (fun b hb=>hb.elim (hafter b) (fun h=>by rw [hrr] at h;cases h)) (fun _ _=>rfl),fun j o h1=>?_,hinj,fun k i off hk=>?_⟩
  ·rcases hcase j o h1 with ⟨h2,h3⟩ | ⟨k,d,q,rfl,h2,h3,rfl,h4,h5⟩
   ·by_cases hne:o=.dead
    ·subst hne;trivial
    obtain ⟨h4,h5⟩:=houts j o h3 hne
    have hlt:j<args.length:=by rw [hfl];exact h2
    obtain ⟨x,hx⟩:∃x,args[j]?=some x:=⟨_,List.getElem?_eq_getElem hlt⟩
    have hff:=hfa j x o hx h3
    have hr:=hR2.rep j
    rw [h4,h5] at hr
    have hbo:o.bare=true:=by cases x<;>cases o<;>first | rfl | (simp [outFits] at hff)
    exact hr.bare hbo (fun b hb=>hafter b hb) (fun b _ hb=>hB b hb)
   ·have hr:=hR2.rep d
    rcases slE_cases h4 with e | ⟨u,e⟩
    ·rw [e] at hr ⊢
     obtain ⟨us,ho,hl',hx,hm',hO⟩:=hr
     exact ⟨us,ho,hl'.mono (fun b hb=>hafter b hb) (fun _ _=>rfl),hx,hm',fun b hb=>hB b (hO b hb)⟩
    ·rw [e] at hr ⊢
     obtain ⟨us,ho,hl',hx,hm',hO⟩:=hr
     exact ⟨us,ho,hl'.mono (fun b hb=>hafter b hb) (fun _ _=>rfl),hx,hm',fun b hb=>hB b (hO b hb)⟩
  ·obtain ⟨d,q,e1,e2,e3,e4,e5,_⟩:=hD k i off hk
   have hr:=hR2.rep (LK i off)
   rw [e3] at hr
   obtain ⟨_,cs,b,m1,m2,m3,m4⟩:=hr
   have hne:s2 i≠.dead:=by intro e;rw [e] at m1;cases m1
   obtain ⟨_,h5⟩:=houts i (s2 i) e5 hne
   have hli:i<outs.length:=(List.getElem?_eq_some_iff.1 e5).1
   have ea:argSt (outs++gownL g' 0 go) i=s2 i:=by unfold argSt;rw [hO1 i hli,e5];rfl
   have eg:argSt (outs++gownL g' 0 go) (args.length+k)=.gown (g' k) q.1 q.2.1 q.2.2:=by unfold argSt;rw [hfl,hO2,e2];rfl
   refine ⟨by rw [eg];rfl,cs,b,by rw [ea];exact m1,m2,by rw [ea,←h5];exact m3,?_⟩
   rw [eg,m4,←hg' e1];rfl
 rcases he with rfl | rfl
 ·exact hfin
 ·exact hfin
end Go.Ab
