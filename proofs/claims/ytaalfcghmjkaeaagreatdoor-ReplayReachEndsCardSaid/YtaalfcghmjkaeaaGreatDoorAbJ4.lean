/- A part of the proof: lemmas and contracts of functions. -/
import Derived.Test.YtaalfcghmjkaeaaGreatDoorAbJ3b
set_option linter.all false
namespace Go.Ab
open Go Go.RowKit
variable [bf]
def FT:ag:=fun _=>.dead
@[simp]def zoP(i:Nat):FT i=.dead:=rfl
def fh(s:ag)(d:Nat)(v:ad):ag:=fun i=>if i=d then v else s i
@[simp]def FU(s:ag)(d:Nat)(v:ad)(i:Nat):fh s d v i=if i=d then v else s i:=rfl
def kill(s:ag)(d:Nat):ag:=fun i=>if (s i).refs d then .dead else s i
@[simp]def zeI(s:ag)(d i:Nat):kill s d i=if (s i).refs d then .dead else s i:=rfl
@[simp]def zoQ(k:Nat):ug [] k=FT:=rfl
@[simp]def zoR(x:az)(r:List az)(k:Nat):ug (x::r) k=fh (ug r (k+1)) k (.x x):=rfl
def JH(o r:Bool)(s:ag)(d:Nat)(v:ad):ag:=
 match o,r with
 |false,false=>fh s d v
 |false,true=>fh s d .dead
 |true,false=>fh (kill s d) d v
 |true,true=>fh (kill s d) d .dead
@[simp]def zoS(s:ag)(d:Nat)(v:ad):JH false false s d v=fh s d v:=rfl
@[simp]def zoT(s:ag)(d:Nat)(v:ad):JH true false s d v=fh (kill s d) d v:=rfl
@[simp]def put_eq(s:ag)(d:Nat)(v:ad):put s d v=JH (s d).aM (v.refs d) s d v:=by unfold put;cases (s d).aM<;>cases v.refs d<;>funext i<;>simp[JH,fh,kill]
@[simp]def zoU:ad.aM .dead=false:=rfl
@[simp]def zoV(v:az):ad.aM (.x v)=false:=rfl
@[simp]def zoW(v:List az):ad.aM (.b2 v)=false:=rfl
@[simp]def zoX(v:List af):ad.aM (.box v)=true:=rfl
@[simp]def zoY(s o:Nat):ad.aM (.ptr s o)=false:=rfl
@[simp]def zoZ(s o:Nat):ad.aM (.ds s o)=false:=rfl
@[simp]def zpa(b:Nat)(v:List af):ad.aM (.cf b v)=true:=rfl
@[simp]def zpb(b c:Nat)(bs:List Nat)(es:List (az×az)):ad.aM (.fc b c bs es)=true:=rfl
@[simp]def zpc(b c:Nat)(bs:List Nat)(es:List (az×az)):ad.told (.fc b c bs es)=true:=rfl
@[simp]def zpd(d b c:Nat)(bs:List Nat)(es:List (az×az)):ad.refs d (.fc b c bs es)=false:=rfl
@[simp]def zpe(g:Value)(e z:Nat)(v:List (List af)):ad.aM (.cT g e z v)=true:=rfl
@[simp]def zpf(e z:Nat)(v:List (List af)):ad.tight (.own e z v)=true:=rfl
@[simp]def zpg(s k o:Nat):ad.aM (.dX s k o)=false:=rfl
@[simp]def zph(v:List af):ad.aM (.elem v)=false:=rfl
@[simp]def zpi(e z:Nat)(v:List (List af)):ad.aM (.own e z v)=true:=rfl
@[simp]def zpj(c:Nat)(bs:List Nat)(es:List (az×az)):ad.aM (.mp c bs es)=true:=rfl
@[simp]def zpk(s:Nat):ad.aM (.alias s)=false:=rfl
@[simp]def zpl(s aK len:Nat)(wh:Bool):ad.aM (.view s aK len wh)=false:=rfl
@[simp]def zpm(f:FuncId)(caps:List (af⊕(Nat×Nat))):ad.aM (.cr f caps)=false:=rfl
@[simp]def zpn(e:Bool)(v:ad):ad.aM (.cond e v)=false:=rfl
@[simp]def zpo(i o d:Nat):ad.aM (.link i o d)=false:=rfl
@[simp]def zpp(l:List (Nat×Nat)):ad.aM (.res l)=false:=rfl
@[simp]def zpq(d i o t:Nat):ad.refs d (.link i o t)=(i==d ||t==d):=rfl
@[simp]def zpr(d:Nat)(l:List (Nat×Nat)):ad.refs d (.res l)=false:=rfl
@[simp]def zps:ad.free .dead=true:=rfl
@[simp]def zpt(b:Bool):af.isAny (.bool b)=false:=rfl
@[simp]def zpu(k:IntKind)(n:Int):af.isAny (.int k n)=false:=rfl
@[simp]def zpv(l:List UInt8):af.isAny (.str l)=false:=rfl
@[simp]def zpw:af.isAny .nil=false:=rfl
@[simp]def zpx(n:Nat)(l:List (List af)):af.isAny (.list n l)=false:=rfl
@[simp]def zpy(v:Value):af.isAny (.atom v)=false:=rfl
@[simp]def zpz:af.isAny .any=true:=rfl
def oY:List af->Bool
 |[]=>false
 |c::r=>c.isAny ||oY r
@[simp]def zpA:oY []=false:=rfl
@[simp]def zpB(c:af)(r:List af):oY (c::r)=(c.isAny ||oY r):=rfl
def FV:∀l:List af,l.any af.isAny=oY l
 |[]=>rfl
 |c::r=>by simp only[zg,FV r,oY]
@[simp]def zpC(cs:List af):ad.told (.box cs)=!oY cs:=by simp only[ad.told,FV]
@[simp]def zpD(v:az):ad.told (.x v)=true:=rfl
@[simp]def zpE(e z:Nat)(xs:List (List af)):ad.told (.own e z xs)=true:=rfl
@[simp]def zpF(c:Nat)(bs:List Nat)(es:List (az×az)):ad.told (.mp c bs es)=true:=rfl
@[simp]def zpG:ad.told .dead=true:=rfl
@[simp]def zpH(f:FuncId)(caps:List (af⊕(Nat×Nat))):ad.told (.cr f caps)=true:=rfl
@[simp]def zpI(i o:Nat):ad.told (.ds i o)=true:=rfl
@[simp]def zpJ(b:Nat)(v:List af):ad.told (.cf b v)=!oY v:=by simp only[ad.told,FV]
@[simp]def zpK(g:Value)(e z:Nat)(v:List (List af)):ad.told (.cT g e z v)=true:=rfl
@[simp]def zpL:ve []=true:=rfl
@[simp]def zpM(x:ad)(q:Option Nat)(r:List (ad×Option Nat)):ve ((x,q)::r)=(x.told&&ve r):=rfl
@[simp]def zpN(cs:List af)(off m:Nat):i_ cs off m=oY ((cs.drop off).take m):=FV _
@[simp]def zpO(s:ag)(i o:Nat):Fq s (.ptr i o)=(s i).told:=rfl
@[simp]def zpP(s:ag)(i k o:Nat):Fq s (.dX i k o)=true:=rfl
@[simp]def zpQ(i off:Nat):b0 i off=1000000+1000*i+off:=rfl
def Cx:Bool->ad->ad
 |true,_=>.dead
 |false,a=>a
@[congr]def zpR{b bg:Bool}{a:ad}(h:b=bg):Cx b a=Cx bg a:=by rw[h]
@[simp]def zpS(a:ad):Cx false a=a:=rfl
def hp(i off m:Nat)(a:ad):ad:=Cx (a.lk i off m) a
@[simp]def zpT(s:ag)(i off m j:Nat):unlink s i off m j=hp i off m (s j):=by unfold unlink hp Cx;cases (s j).lk i off m<;>rfl
@[simp]def zpU(i off m:Nat):hp i off m .dead=.dead:=rfl
@[simp]def zpV(i off m:Nat)(v:az):hp i off m (.x v)=.x v:=rfl
@[simp]def zpW(i off m:Nat)(v:List az):hp i off m (.b2 v)=.b2 v:=rfl
@[simp]def zpX(i off m:Nat)(v:List af):hp i off m (.box v)=.box v:=rfl
@[simp]def zpY(i off m s o:Nat):hp i off m (.ptr s o)=.ptr s o:=rfl
@[simp]def zpZ(i off m s o:Nat):hp i off m (.ds s o)=.ds s o:=rfl
@[simp]def zqa(i off m b:Nat)(v:List af):hp i off m (.cf b v)=.cf b v:=rfl
@[simp]def zqb(i off m b c:Nat)(bs:List Nat)(es:List (az×az)):hp i off m (.fc b c bs es)=.fc b c bs es:=rfl
@[simp]def zqc(i off m:Nat)(g:Value)(e z:Nat)(v:List (List af)):hp i off m (.cT g e z v)=.cT g e z v:=rfl
@[simp]def zqd(i off m s k o:Nat):hp i off m (.dX s k o)=.dX s k o:=rfl
@[simp]def zqe(i off m:Nat)(v:List af):hp i off m (.elem v)=.elem v:=rfl
@[simp]def zqf(i off m e z:Nat)(v:List (List af)):hp i off m (.own e z v)=.own e z v:=rfl
@[simp]def zqg(i off m c:Nat)(bs:List Nat)(es:List (az×az)):hp i off m (.mp c bs es)=.mp c bs es:=rfl
@[simp]def zqh(i off m s:Nat):hp i off m (.alias s)=.alias s:=rfl
@[simp]def zqi(i off m s aK len:Nat)(wh:Bool):hp i off m (.view s aK len wh)=.view s aK len wh:=rfl
@[simp]def zqj(i off m:Nat)(f:FuncId)(caps:List (af⊕(Nat×Nat))):hp i off m (.cr f caps)=.cr f caps:=rfl
@[simp]def zqk(i off m:Nat)(l:List (Nat×Nat)):hp i off m (.res l)=.res l:=rfl
@[simp]def zql(i off m s o d:Nat):hp i off m (.link s o d)=Cx (s==i&&decide (off<=o)&&decide (o<off+m)) (.link s o d):=rfl
@[simp]def zqm(i off m:Nat)(e:Bool)(v:az):hp i off m (.cond e (.x v))=.cond e (.x v):=rfl
@[simp]def zqn(i off m:Nat)(e:Bool)(v:Nat):hp i off m (.cond e (.alias v))=.cond e (.alias v):=rfl
@[simp]def zqo(i off m:Nat)(e:Bool)(v o:Nat):hp i off m (.cond e (.ptr v o))=.cond e (.ptr v o):=rfl
@[simp]def zqp(i off m:Nat)(e:Bool)(v o:Nat):hp i off m (.cond e (.ds v o))=.cond e (.ds v o):=rfl
@[simp]def zqq(i off m:Nat)(e:Bool)(f:FuncId)(caps:List (af⊕(Nat×Nat))):hp i off m (.cond e (.cr f caps))=.cond e (.cr f caps):=rfl
@[simp]def zqr(i off m:Nat)(e:Bool)(v k o:Nat):hp i off m (.cond e (.dX v k o))=.cond e (.dX v k o):=rfl
@[simp]def zqs(i off m:Nat)(e:Bool)(v:List af):hp i off m (.cond e (.elem v))=.cond e (.elem v):=rfl
@[simp]def zqt(i off m:Nat)(e:Bool)(v:List az):hp i off m (.cond e (.b2 v))=.cond e (.b2 v):=rfl
@[simp]def zqu(i off m:Nat)(e:Bool)(s aK len:Nat)(wh:Bool):hp i off m (.cond e (.view s aK len wh))=.cond e (.view s aK len wh):=rfl
@[simp]def zqv(d:Nat):ad.refs d .dead=false:=rfl
@[simp]def zqw(d:Nat)(v:az):ad.refs d (.x v)=false:=rfl
@[simp]def zqx(d:Nat)(v:List az):ad.refs d (.b2 v)=false:=rfl
@[simp]def zqy(d:Nat)(v:List af):ad.refs d (.box v)=false:=rfl
@[simp]def zqz(d s o:Nat):ad.refs d (.ptr s o)=(s==d):=rfl
@[simp]def zqA(d s o:Nat):ad.refs d (.ds s o)=(s==d):=rfl
@[simp]def zqB(d b:Nat)(v:List af):ad.refs d (.cf b v)=false:=rfl
@[simp]def zqC(d:Nat)(g:Value)(e z:Nat)(v:List (List af)):ad.refs d (.cT g e z v)=false:=rfl
@[simp]def zqD(d s k o:Nat):ad.refs d (.dX s k o)=(s==d):=rfl
@[simp]def zqE(d:Nat)(v:List af):ad.refs d (.elem v)=false:=rfl
@[simp]def zqF(d c:Nat)(bs:List Nat)(es:List (az×az)):ad.refs d (.mp c bs es)=false:=rfl
@[simp]def zqG(d e z:Nat)(v:List (List af)):ad.refs d (.own e z v)=false:=rfl
@[simp]def zqH(d s:Nat):ad.refs d (.alias s)=(s==d):=rfl
@[simp]def zqI(d s aK len:Nat)(wh:Bool):ad.refs d (.view s aK len wh)=(s==d):=rfl
@[simp]def zqJ(d:Nat)(f:FuncId)(caps:List (af⊕(Nat×Nat))):ad.refs d (.cr f caps)=caps.any (j_ d):=rfl
@[simp]def zqK(d:Nat)(c:af):j_ d (.inl c)=false:=rfl
@[simp]def zeJ(d:Nat)(p:Nat×Nat):j_ d (.inr p)=(p.1==d):=rfl
@[simp]def zqL(d:Nat)(e:Bool)(v:ad):ad.refs d (.cond e v)=v.refs d:=rfl
def nV(t:Nat):ad->ad
 |.box _=>.ptr t 0
 |.own _ _ _=>.alias t
 |.mp _ _ _=>.alias t
 |.cf _ _=>.dead
 |.cT _ _ _ _=>.dead
 |.fc _ _ _ _=>.dead
 |a=>a
@[simp]def zeK(s:ag)(t:Nat):look s (.tmp t)=nV t (s t):=by simp only[look,nV];cases s t<;>rfl
@[simp]def zqM(t:Nat)(v:az):nV t (.x v)=.x v:=rfl
@[simp]def zqN(t:Nat)(v:List az):nV t (.b2 v)=.b2 v:=rfl
@[simp]def zqO(t:Nat)(v:List af):nV t (.box v)=.ptr t 0:=rfl
@[simp]def zqP(t s o:Nat):nV t (.ptr s o)=.ptr s o:=rfl
@[simp]def zqQ(t s o:Nat):nV t (.ds s o)=.ds s o:=rfl
@[simp]def zqR(t s k o:Nat):nV t (.dX s k o)=.dX s k o:=rfl
@[simp]def zqS(t:Nat)(v:List af):nV t (.elem v)=.elem v:=rfl
@[simp]def zqT(t c:Nat)(bs:List Nat)(es:List (az×az)):nV t (.mp c bs es)=.alias t:=rfl
@[simp]def zqU(t e z:Nat)(v:List (List af)):nV t (.own e z v)=.alias t:=rfl
@[simp]def zqV(t s:Nat):nV t (.alias s)=.alias s:=rfl
@[simp]def zqW(t:Nat)(f:FuncId)(caps:List (af⊕(Nat×Nat))):nV t (.cr f caps)=.cr f caps:=rfl
@[simp]def zqX(t:Nat)(e:Bool)(v:ad):nV t (.cond e v)=.cond e v:=rfl
@[simp]def zqY(s:ag)(k:IntKind)(m:Int):look s (.const (.int k m))=.x (.one (.int k m)):=rfl
@[simp]def zqZ(s:ag)(b:Bool):look s (.const (.bool b))=.x (.one (.bool b)):=rfl
@[simp]def zra(s:ag):look s (.const .nilFunc)=.x (.one (.atom .nilFunc)):=rfl
@[simp]def zrb(s:ag)(a:Option Addr):look s (.const (.pointer a))=.x (.one (.atom (.pointer a))):=rfl
@[simp]def look_nil(s:ag):look s (.const (.slice none 0 0))=.x (.one .nil):=rfl
@[simp]def zrc(s:ag)(f:Nat):look s (.func f)=.x (.one (.atom (.func (.func f) #[] #[]))):=rfl
def Ow(l:List UInt8):ad:=if l.length<=maxLen then .x (.one (.str l))else .dead
@[simp]def zrd(s:ag)(l:List UInt8):look s (.const (.string ⟨⟨l⟩⟩))=Ow l:=by simp[look,tp,tn,tl,Ow]
@[simp]def zre(l:List UInt8):Ow l=if l.length<=maxLen then .x (.one (.str l))else .dead:=rfl
@[simp]def zrf(cs:List af):strip (.x (.agg cs))=(True,.x (.agg cs)):=rfl
@[simp]def zrg(b:Bool):strip (.x (.one (.bool b)))=(True,.x (.one (.bool b))):=rfl
@[simp]def zrh(k:IntKind)(m:Int):strip (.x (.one (.int k m)))=(True,.x (.one (.int k m))):=rfl
@[simp]def zri(l:List UInt8):strip (.x (.one (.str l)))=(True,.x (.one (.str l))):=rfl
@[simp]def strip_nil:strip (.x (.one .nil))=(True,.x (.one .nil)):=rfl
@[simp]def zrj(z:Nat):strip (.x (.one (.empty z)))=(True,.x (.one (.empty z))):=rfl
@[simp]def zrk(z:Nat)(xs:List (List af)):strip (.x (.one (.list z xs)))=(True,.x (.one (.list z xs))):=rfl
@[simp]def zrl(v:Value):strip (.x (.one (.atom v)))=(True,.x (.one (.atom v))):=rfl
@[simp]def zrm(f:FuncId)(caps:List af):strip (.x (.one (.ht f caps)))=(True,.x (.one (.ht f caps))):=rfl
@[simp]def zrn(a b:Bool)(k v:List (List af)):strip (.x (.one (.g8 a b k v)))=(True,.x (.one (.g8 a b k v))):=rfl
@[simp]def zro(cs:List af):strip (.x (.one (.ref cs)))=(True,.elem cs):=rfl
@[simp]def zrp(v:List az):strip (.b2 v)=(True,(.b2 v)):=rfl
@[simp]def zrq(i o:Nat):strip (.ptr i o)=(True,(.ptr i o)):=rfl
@[simp]def zrr(i o:Nat):strip (.ds i o)=(True,(.ds i o)):=rfl
@[simp]def zrs(i k o:Nat):strip (.dX i k o)=(True,(.dX i k o)):=rfl
@[simp]def zrt(v:List af):strip (.elem v)=(True,(.elem v)):=rfl
@[simp]def zru(i:Nat):strip (.alias i)=(True,(.alias i)):=rfl
@[simp]def zrv(f:FuncId)(caps:List (af⊕(Nat×Nat))):strip (.cr f caps)=(True,.cr f caps):=rfl
@[simp]def zrw(e:Bool)(a:ad):strip (.cond e a)=(e=true,a):=rfl
@[simp]def zrx(s:ag)(x:Operand):aG s x=strip (look s x):=rfl
def eL(r:Prop×ad)(k:ad->Prop):Prop:=r.1/\k r.2
@[congr]def zry{r ca:Prop×ad}{k:ad->Prop}(h:r=ca):eL r k=eL ca k:=by rw[h]
@[simp]def zrz(p:Prop)(v:ad)(k:ad->Prop):eL (p,v) k=(p/\k v):=rfl
@[congr]def zrA[Hint]{P:Program}{n:Nat}{c:Code}{Q:Exit->ag->Prop}{s s':ag}(h:s=s'):e2 P n c Q s=e2 P n c Q s':=by rw[h]
@[congr]def zrB{P:Program}{n:Nat}{ops:Array Oper}{l:List Oper}{K:ag->Prop}{s s':ag}(h:s=s'):bN P n ops l s K=bN P n ops l s' K:=by rw[h]
@[congr]def zrC{P:Program}{n:Nat}{m:Bool}{ops:Array Oper}{l:List Oper}{K:ag->Prop}{s s':ag}(h:s=s'):gU P n m ops l s K=gU P n m ops l s' K:=by rw[h]
@[congr]def zrD{P:Program}{n:Nat}{o:Oper}{K:ag->Prop}{s s':ag}(h:s=s'):xA P n o s K=xA P n o s' K:=by rw[h]
@[congr]def zrE{op:Op}{s s':ag}(h:s=s'):zt s op=zt s' op:=by rw[h]
@[congr]def zrF{op:Op}{s s':ag}(h:s=s'):gf s op=gf s' op:=by rw[h]
@[congr]def zrG{P:Program}{n:Nat}{ops:Array Oper}{o:Oper}{K:ag->Prop}{s s':ag}(h:s=s'):ft P n ops o s K=ft P n ops o s' K:=by rw[h]
@[congr]def zrH{P:Program}{n:Nat}{ops:Array Oper}{o:Oper}{K:ag->Prop}{s s':ag}(h:s=s'):dn P n ops o s K=dn P n ops o s' K:=by rw[h]
@[congr]def zrI{P:Program}{n:Nat}{op:Op}{d:Option Tmp}{K:ag->Prop}{s s':ag}(h:s=s'):fs P n s op d K=fs P n s' op d K:=by rw[h]
@[congr]def zrJ{k:ag->Prop}{Q:Exit->ag->Prop}{e:Exit}{s s':ag}(h:s=s'):qQ k Q e s=qQ k Q e s':=by rw[h]
@[congr]def zrK{i:Nat}{Q:Exit->ag->Prop}{e:Exit}{s s':ag}(h:s=s'):qR i Q e s=qR i Q e s':=by rw[h]
class jB(α:Type) where
 val:α
def cI[b:jB ((Exit->ag->Prop)->ag->Prop)][Q:jB (Exit->ag->Prop)](s:ag):Prop:=N3 b.val Q.val s
def dh(s:ag):ag:=s
def zM{α:Type}(fl:List α)(f:List α->Prop)(X:Prop):Prop:=match fl with
 |b::r=>f (b::r)
 |[]=>X
@[congr]def zrL{α:Type}{fl U4:List α}{f:List α->Prop}{X:Prop}(h:fl=U4):zM fl f X=zM U4 f X:=by rw[h]
@[simp ↓]def zrM{α:Type}(f:List α->Prop)(X:Prop):zM [] f X=X:=rfl
@[simp ↓]def zrN{α:Type}(b:α)(r:List α)(f:List α->Prop)(X:Prop):zM (b::r) f X=f (b::r):=rfl
@[simp]def zrO(i:Nat):@Hint.conv Jw i=false:=rfl
@[simp]def zrP(l:List (Nat×List Nat))(i:Nat):@Hint.conv (xM l) i=false:=rfl
@[simp]def zrQ(g:List Nat)(l:List (Nat×List Nat))(i:Nat):@Hint.conv (Jx g l) i=false:=rfl
@[simp]def zrR(c g:List Nat)(l:List (Nat×List Nat))(i:Nat):@Hint.cut (FO c g l) i=0:=rfl
@[simp]def zrS(q:List (Nat×Nat))(c g:List Nat)(l:List (Nat×List Nat))(i:Nat):@Hint.conv (Ct q c g l) i=c.contains i:=rfl
@[simp]def zrT(q:List (Nat×Nat))(c g:List Nat)(l:List (Nat×List Nat))(i:Nat):@Hint.lB (Ct q c g l) i=pP l i:=rfl
@[simp]def zrU(q:List (Nat×Nat))(c g:List Nat)(l:List (Nat×List Nat))(i:Nat):@Hint.hint (Ct q c g l) i=[]:=rfl
@[simp]def zrV(q:List (Nat×Nat))(c g:List Nat)(l:List (Nat×List Nat))(i:Nat):@Hint.grow (Ct q c g l) i=g.contains i:=rfl
@[simp]def zrW(q:List (Nat×Nat))(c g:List Nat)(l:List (Nat×List Nat))(i:Nat):@Hint.cut (Ct q c g l) i=Cs q i:=rfl
@[simp]def zrX(i:Nat):Cs [] i=0:=rfl
@[simp]def zrY(k m:Nat)(r:List (Nat×Nat))(i:Nat):Cs ((k,m)::r) i=if k=i then m else Cs r i:=rfl
@[simp]def zrZ(c g:List Nat)(l:List (Nat×List Nat))(i:Nat):@Hint.conv (FO c g l) i=c.contains i:=rfl
@[simp]def zsa(c g:List Nat)(l:List (Nat×List Nat))(i:Nat):@Hint.lB (FO c g l) i=pP l i:=rfl
@[simp]def zsb(c g:List Nat)(l:List (Nat×List Nat))(i:Nat):@Hint.grow (FO c g l) i=g.contains i:=rfl
@[simp]def zsc(i:Nat):@Hint.hint Jw i=[]:=rfl
@[simp]def zsd(i:Nat):@Hint.lB Jw i=[]:=rfl
@[simp]def zse(l:List (Nat×List Nat))(i:Nat):@Hint.hint (xM l) i=[]:=rfl
@[simp]def zsf(l:List (Nat×List Nat))(i:Nat):@Hint.lB (xM l) i=pP l i:=rfl
@[simp]def zsg(i:Nat):@Hint.grow Jw i=false:=rfl
@[simp]def zsh(l:List (Nat×List Nat))(i:Nat):@Hint.grow (xM l) i=false:=rfl
@[simp]def zsi(g:List Nat)(l:List (Nat×List Nat))(i:Nat):@Hint.lB (Jx g l) i=pP l i:=rfl
@[simp]def zsj(g:List Nat)(l:List (Nat×List Nat))(i:Nat):@Hint.grow (Jx g l) i=g.contains i:=rfl
@[simp]def zsk{α:Type}(i:Nat):pP (α:=α) [] i=[]:=rfl
@[simp]def zsl{α:Type}(k:Nat)(fl:List α)(r:List (Nat×List α))(i:Nat):pP ((k,fl)::r) i=if k=i then fl else pP r i:=rfl
def hc[a:jB Prop][b:jB Prop]:Prop:=a.val\/b.val
def hc.l{a b:Prop}(h:a):@hc ⟨a⟩ ⟨b⟩:=.inl h
def hc.r{a b:Prop}(h:b):@hc ⟨a⟩ ⟨b⟩:=.inr h
def mf(b:Bool)(x y:Prop):Prop:=match b with
 |true=>x
 |false=>y
@[congr]def zsm{b bg:Bool}{x y:Prop}(h:b=bg):mf b x y=mf bg x y:=by rw[h]
@[simp ↓]def zsn(x y:Prop):mf true x y=x:=rfl
@[simp ↓]def zso(x y:Prop):mf false x y=y:=rfl
def Cy(b c:Bool):Bool:=match b with
 |true=>true
 |false=>c
@[congr]def zsp{b bg c:Bool}(h:b=bg):Cy b c=Cy bg c:=by rw[h]
@[simp ↓]def zsq(c:Bool):Cy true c=true:=rfl
@[simp ↓]def zsr(c:Bool):Cy false c=c:=rfl
def j0(op:Op)(g:Option (Nat×Bool)):Bool:=match op with
 |.call c=>match c.callee with
  |.value (.tmp _)=>g.isNone
  |_=>false
 |.store _ _ _=>g.isNone
 |_=>false
@[simp ↓]def zss:vF ⟨[]⟩=false:=rfl
@[simp ↓]def zst(o:Oper)(r:List Oper):vF ⟨o::r⟩=Cy (j0 o.op o.guard) (vF ⟨r⟩):=by
 obtain⟨dst,op,type,pos,after,guard⟩:=o;have e:∀b c:Bool,Cy b c=(b ||c):=fun b c=>by cases b<;>rfl
 rw[e];unfold vF j0 ib;simp only[zg];congr 1;cases op<;>try rfl
 rename_i c;obtain⟨f,a,ts⟩:=c;cases f<;>rfl
section
variable (g:Option (Nat×Bool))
@[simp ↓]def zsu(v:Nat)(a:Array Operand)(ts:Array TypeId):j0 (.call ⟨.value (.func v),a,ts⟩) g=false:=rfl
@[simp ↓]def zsv(b:Builtin)(a:Array Operand)(ts:Array TypeId):j0 (.call ⟨.builtin b,a,ts⟩) g=false:=rfl
@[simp ↓]def zsw {ck}:j0 (.move ck) g=false:=rfl
@[simp ↓]def zsx {ck}:j0 (.assign ck) g=false:=rfl
@[simp ↓]def zsy {ck cA db}:j0 (.pick ck cA db) g=false:=rfl
@[simp ↓]def zsz {ck}:j0 (.alloc ck) g=false:=rfl
@[simp ↓]def zsA {ck cA}:j0 (.build ck cA) g=false:=rfl
@[simp ↓]def zsB {ck cA db}:j0 (.buildSlice ck cA db) g=false:=rfl
@[simp ↓]def zsC {ck cA}:j0 (.load ck cA) g=false:=rfl
@[simp ↓]def zsD {ck cA db}:j0 (.store ck cA db) none=true:=rfl
@[simp ↓]def zsE {ck}:j0 (.nilCheck ck) g=false:=rfl
@[simp ↓]def zsF {ck cA db lD lE}:j0 (.binOp ck cA db lD lE) g=false:=rfl
@[simp ↓]def zsG {ck cA db}:j0 (.convert ck cA db) g=false:=rfl
@[simp ↓]def zsH {ck cA db lD lE}:j0 (.slice ck cA db lD lE) g=false:=rfl
@[simp ↓]def zsI {ck cA db}:j0 (.fieldAddr ck cA db) g=false:=rfl
@[simp ↓]def zsJ {ck cA db}:j0 (.indexAddr ck cA db) g=false:=rfl
@[simp ↓]def zsK {ck cA db}:j0 (.index ck cA db) g=false:=rfl
@[simp ↓]def zsL {ck cA db lD}:j0 (.lookup ck cA db lD) g=false:=rfl
@[simp ↓]def zsM {ck cA}:j0 (.extract ck cA) g=false:=rfl
end
@[simp]def zsN(s:ag):dh s=s:=rfl
section
variable (P:Program)(n:Nat)(Q:Exit->ag->Prop)(s:ag)
@[simp ↓]def zsO[Hint]:e2 P n .skip Q s=Q .normal s:=rfl
def Cz(P:Program)(n:Nat)(ops:Array Oper)(l:List Oper)(s:ag)(K:ag->Prop):Prop:=bN P n ops l.dropLast s K
def sB(P:Program)(n:Nat)(fl:List Nat)(ops:Array Oper)(bo:List Nat)(l:List Oper)(s:ag)(K:ag->Prop):Prop:=ew P n fl ops bo l.dropLast s K
@[congr]def zsP{P:Program}{n:Nat}{ops:Array Oper}{l:List Oper}{K:ag->Prop}{s s':ag}(h:s=s'):Cz P n ops l s K=Cz P n ops l s' K:=by rw[h]
@[congr]def zsQ{P:Program}{n:Nat}{fl bo:List Nat}{ops:Array Oper}{l:List Oper}{K:ag->Prop}{s s':ag}(h:s=s'):sB P n fl ops bo l s K=sB P n fl ops bo l s' K:=by rw[h]
def xP(P:Program)(n:Nat)(ops:Array Oper)(l:List Oper)(s:ag)(K:ag->Prop):Prop:=Cp P n ops s K (sy l)
@[congr]def zsR{P:Program}{n:Nat}{ops:Array Oper}{K:ag->Prop}{l:List Oper}{s s':ag}(h:s=s'):xP P n ops l s K=xP P n ops l s' K:=by rw[h]
@[simp ↓]def zsS[Hint](id:Nat)(l:List Oper):ue P n id ⟨l⟩ false Q s=mf (Hint.grow id) (Cz P n ⟨l⟩ l (dh s) (fun s1=>xP P n ⟨l⟩ l (dh s1) (Q .normal))) (bN P n ⟨l⟩ l (dh s) (Q .normal)):=by show (match (Hint.grow id:Bool)with|true=>_|false=>_)=_;unfold mf;cases (Hint.grow id:Bool)<;>rfl
@[simp ↓]def zsT[Hint](id:Nat)(l:List Oper):ue P n id ⟨l⟩ true Q s=mf (Hint.grow id) (sB P n (Hint.lB id) ⟨l⟩ (Hint.lB id) l (dh s) (fun s1=>xP P n ⟨l⟩ l (dh s1) (Q .normal))) (zM (Hint.lB id) (fun fl=>ew P n fl ⟨l⟩ fl l (dh s) (Q .normal)) (zM (Hint.hint id) (fun fl=>na P n fl ⟨l⟩ fl l (dh s) (Q .normal)) (mf (vF ⟨l⟩) (@hc ⟨xC false ⟨l⟩=true/\gU P n false ⟨l⟩ l (dh s) (Q .normal)⟩ ⟨∃f:List Nat,xC true ⟨l⟩=true/\gU P n true ⟨l⟩ l (dt (dh s) f) (Q .normal)⟩) (gU P n false ⟨l⟩ l (dh s) (Q .normal))))):=by
 show (match (Hint.grow id:Bool)with|true=>_|false=>(match (Hint.lB id:List Nat)with|k::fl=>_|[]=>match (Hint.hint id:List Bool)with|b::fl=>_|[]=>match vF ⟨l⟩with|true=>_|false=>_))=_;cases (Hint.grow id:Bool)with
 |true=>rfl
 |false=>
 unfold zM mf hc;dsimp only;cases (Hint.lB id:List Nat)with
 |cons k fl=>rfl
 |nil=>
  cases (Hint.hint id:List Bool)with
  |cons b fl=>rfl
  |nil=>cases vF ⟨l⟩<;>rfl
def dT(n:Nat)(s:ag)[X:jB (ag->Prop)]:Prop:=N4 n s X.val
def dT.done{n:Nat}{s:ag}{X:ag->Prop}(h:X s):@dT _ n s ⟨X⟩:=fun _ _ _ _ ah=>⟨s,ah,h⟩
def dT.fold{n:Nat}{s:ag}{X:ag->Prop}(i off:Nat)(h:@dT _ n (ud s i off) ⟨X⟩):@dT _ n s ⟨X⟩:=fun _ _ _ _ ah=>h _ _ _ _ (ah.ud i off)
def dT.named{n:Nat}{s:ag}{X:ag->Prop}(i off j g:Nat){e z:Nat}{cs:List af}{xs:List (List af)}(ai:s i=.box cs)(al:s (b0 i off)=.link i off j)(ac:s j=.own e z xs)(aT:n<=g)(aB:(s g).free=true)
  (h:∀v,@dT _ n (N_ s i off j g v cs e z xs) ⟨X⟩):@dT _ n s ⟨X⟩:=fun _ _ _ _ ah=>h _ _ _ _ _ (ah.zet ai al ac aT aB)
def dT.linked{n:Nat}{s:ag}{X:ag->Prop}(i off j g:Nat){e z:Nat}{v:Value}{cs:List af}{xs:List (List af)}(ai:s i=.box cs)(ao:cs[off]?=some (.atom v))(ac:s j=.x (.one (.atom v)))(aB:s g=.cT v e z xs)(ay:(s (b0 i off)).free=true)
  (h:@dT _ n (N' s i off j g e z cs xs) ⟨X⟩):@dT _ n s ⟨X⟩:=fun _ _ _ _ ah=>h _ _ _ _ (ah.zeu ai ao ac aB ay)
@[congr]def zsU{n:Nat}{s s':ag}[X:jB (ag->Prop)](h:s=s'):dT n s=dT n s':=by rw[h]
def dT.freeze{n:Nat}{s:ag}{X:ag->Prop}(l:List Nat)(h:@dT _ n (dt s l) ⟨X⟩):@dT _ n s ⟨X⟩:=fun _ _ _ _ ah=>h _ _ _ _ (tF l s ah)
def dT.EO{n:Nat}{s:ag}{X:ag->Prop}(j g:Nat){c:Nat}{bs:List Nat}{es:List (az×az)}(ac:s j=.mp c bs es)(aT:n<=g)(aB:(s g).free=true)
  (h:∀b,@dT _ n (EN s j g b c bs es) ⟨X⟩):@dT _ n s ⟨X⟩:=fun _ _ _ _ ah=>let ⟨_,bM⟩:=ah.EO ac aT aB;h _ _ _ _ _ bM
def dT.FP{n:Nat}{s:ag}{X:ag->Prop}(i off g:Nat){b c:Nat}{cs:List af}{bs:List Nat}{es:List (az×az)}(fi fj:Bool)(aU vs:List (List af))(ai:s i=.box cs)(ao:cs[off]?=some (.atom (.map (some b))))(aB:s g=.fc b c bs es)
  (he:es=gj fi fj aU vs)(hlen:vs.length=aU.length)(am:fi=true\/∀k∈aU,k.length=1)(aH:fj=true\/∀k∈vs,k.length=1)(h:@dT _ n (Oa s i off g cs (.g8 fi fj aU vs)) ⟨X⟩):@dT _ n s ⟨X⟩:=fun _ _ _ _ ah=>h _ _ _ _ (ah.FP ai ao aB he hlen am aH)
def CA(k:Nat)(A:Prop)(B:Nat->Prop):Prop:=match k with
 |0=>A
 |k+1=>B (k+1)
@[congr]def zsV{k bu:Nat}{A:Prop}{B:Nat->Prop}(h:k=bu):CA k A B=CA bu A B:=by rw[h]
@[simp]def zsW(A:Prop)(B:Nat->Prop):CA 0 A B=A:=rfl
@[simp]def zsX(k:Nat)(A:Prop)(B:Nat->Prop):CA (k+1) A B=B (k+1):=rfl
@[simp ↓]def zsY(ops:Array Oper)(l:List Oper)(K:ag->Prop):uf P n ops 0 l s K=@dT _ n (dh s) ⟨fun s2=>bN P n ops l s2 K⟩:=by unfold uf;rfl
@[simp ↓]def zsZ(ops:Array Oper)(k:Nat)(o:Oper)(l:List Oper)(K:ag->Prop):uf P n ops (k+1) (o::l) s K=bN P n ops [o] (dh s) (fun s1=>uf P n ops k l s1 K):=by rw[uf];rfl
@[simp ↓]def zta[Hint](id:Nat)(l:List Oper)(dz:Bool):e2 P n (.region id ⟨l⟩ dz) Q s=mf (Hint.conv id) (CA (Hint.cut id) (@dT _ n (dh s) ⟨ue P n id ⟨l⟩ dz Q⟩) (fun k=>uf P n ⟨l⟩ k l (dh s) (Q .normal))) (ue P n id ⟨l⟩ dz Q s):=by
 show (match (Hint.conv id:Bool)with|true=>UW P n id ⟨l⟩ dz Q s (Hint.cut id)|false=>_)=_;unfold mf CA;cases (Hint.conv id:Bool)with
 |false=>rfl
 |true=>cases (Hint.cut id:Nat)<;>rfl
@[simp ↓]def ztb[Hint](a b:Code):e2 P n (.seq a b) Q s=e2 P n a (qQ (e2 P n b Q) Q) s:=rfl
@[simp ↓]def ztc[Hint](id:Nat)(c:Code):e2 P n (.block id c) Q s=e2 P n c (qR id Q) s:=rfl
@[simp ↓]def ztd[Hint](c:Code):e2 P n (.loop c) Q s=@cI ⟨e2 P n c⟩ ⟨Q⟩ s:=rfl
@[simp ↓]def zte[Hint](id:Nat):e2 P n (.exit id) Q s=Q (.exit id) s:=rfl
@[simp ↓]def ztf[Hint]:e2 P n .ret Q s=Q .ret s:=rfl
@[simp ↓]def ztg[Hint](c:Operand)(a b:Code):e2 P n (.cond c a b) Q s=sz (aG s c) (e2 P n a Q s) (e2 P n b Q s):=rfl
@[simp ↓]def zth(k:ag->Prop):qQ k Q .normal s=k s:=rfl
@[simp ↓]def zti(k:ag->Prop)(i:Nat):qQ k Q (.exit i) s=Q (.exit i) s:=rfl
@[simp ↓]def ztj(k:ag->Prop):qQ k Q .ret s=Q .ret s:=rfl
@[simp ↓]def ztk(i:Nat):qR i Q .normal s=Q .normal s:=rfl
@[simp ↓]def ztl(i:Nat):qR i Q .ret s=Q .ret s:=rfl
@[simp ↓]def ztm(i j:Nat):qR i Q (.exit j) s=if j=i then Q .normal s else Q (.exit j) s:=rfl
end
@[congr]def ztn{c c':Prop×ad}{A B:Prop}(h:c=c'):sz c A B=sz c' A B:=by rw[h]
@[simp high]def zto(p A B:Prop):sz (p,.x (.one (.bool true))) A B=(p/\A):=by simp[sz]
@[simp high]def ztp(p A B:Prop):sz (p,.x (.one (.bool false))) A B=(p/\B):=by simp[sz]
@[simp]def ztq(p:Prop)(b:Bool)(A B:Prop):sz (p,.x (.one (.bool b))) A B=(p/\(b=true->A)/\(b=false->B)):=rfl
def aA(P:Program)(g:FuncId)(xs:List az)[k:jB (bw->Prop)][m:jB Prop][N:jB (List az->List az->bw->Prop)]:Prop:=(∃r,aD P g xs r/\k.val r)\/(∃dS r,aD P g dS r/\N.val xs dS r)\/m.val
def aA.of{P:Program}{g:FuncId}{xs:List az}{k:bw->Prop}{m:Prop}{N:List az->List az->bw->Prop}{r:bw}(h:aD P g xs r)(am:k r):@aA _ P g xs ⟨k⟩ ⟨m⟩ ⟨N⟩:=.inl ⟨r,h,am⟩
def aA.Ox{P:Program}{g:FuncId}{xs:List az}{k:bw->Prop}{m:Prop}{N:List az->List az->bw->Prop}(h:m):@aA _ P g xs ⟨k⟩ ⟨m⟩ ⟨N⟩:=.inr (.inr h)
def aA.named{P:Program}{n:Nat}{s:ag}{g:FuncId}{xs dS:List az}{k Fi:bw->Prop}{m:Prop}{r:bw}(h:aD P g dS r)(aT:vy n s xs dS)(ay:r.flat=true)(am:Fi r):@aA _ P g xs ⟨k⟩ ⟨m⟩ ⟨fun xs dS r=>vy n s xs dS/\r.flat=true/\Fi r⟩:=.inr (.inl ⟨dS,r,h,aT,ay,am⟩)
@[congr]def ztr{P:Program}{c c':Prop×Option (FuncId×List az)}{k:bw->Prop}{m:Prop}(h:c=c'):oI P c k m=oI P c' k m:=by rw[h]
@[simp]def zts(P:Program)(g:FuncId)(p:Prop)(xs:List az)(k:bw->Prop)(m:Prop):oI P (p,some (g,xs)) k m=(p/\@aA _ P g xs ⟨fun r=>r.flat=true/\k r⟩ ⟨m⟩ ⟨fun _ _ _=>False⟩):=by simp[oI,aA]
@[simp]def ztt(P:Program)(p:Prop)(k:bw->Prop)(m:Prop):oI P (p,none) k m=m:=rfl
def ui(s:ag):Prop×ad->Bool
 |(_,.ptr i _)=>!(s i).told
 |_=>false
@[congr]def ztu{s:ag}{q dQ:Prop×ad}(h:q=dQ):ui s q=ui s dQ:=by rw[h]
@[simp]def ztv(s:ag)(p:Prop)(i o:Nat):ui s (p,.ptr i o)=!(s i).told:=rfl
@[simp]def ztw(s:ag)(p:Prop)(v:az):ui s (p,.x v)=false:=rfl
@[simp]def ztx(s:ag)(p:Prop)(i:Nat):ui s (p,.alias i)=false:=rfl
@[simp]def zty(s:ag)(p:Prop)(f:FuncId)(caps:List (af⊕(Nat×Nat))):ui s (p,.cr f caps)=false:=rfl
@[simp]def zeL(s:ag)(x:Operand):Ik s x=ui s (aG s x):=by
 unfold Ik ui;cases aG s x with
 |mk p v=>cases v<;>rfl
def zN(s:ag):List Operand->Bool
 |[]=>false
 |x::r=>ui s (aG s x) ||zN s r
@[simp]def ztz(s:ag):zN s []=false:=rfl
@[simp]def ztA(s:ag)(x:Operand)(r:List Operand):zN s (x::r)=(ui s (aG s x) ||zN s r):=rfl
def U5(s:ag):∀l:List Operand,l.any (Ik s)=zN s l
 |[]=>rfl
 |x::r=>by simp only[zg,U5 s r,zN,zeL]
def zO(s:ag)(f:Operand)(args:List Operand):Bool->Prop×Option (FuncId×List az)
 |true=>match aG s f,qE s args with
  |(p,a),(q,some xs)=>match iz a with
   |some (g,caps)=>(p/\q,some (g,xs++caps))
   |none=>(False,none)
  |_,_=>(False,none)
 |false=>(False,none)
@[congr]def ztB{s:ag}{f:Operand}{args:List Operand}{b bg:Bool}(h:b=bg):zO s f args b=zO s f args bg:=by rw[h]
@[simp]def ztC(s:ag)(f:Operand)(args:List Operand):zO s f args false=(False,none):=rfl
@[simp]def ztD(s:ag)(f:Operand)(args:List Operand):vb s f args=zO s f args (zN s args):=by unfold vb zO;rw[U5];rfl
@[congr]def ztE{P:Program}{c c':Prop×Option (FuncId×List az)}{k:bw->Prop}{m:Prop}{N:List az->List az->bw->Prop}(h:c=c'):ly P c k m N=ly P c' k m N:=by rw[h]
@[simp]def ztF(P:Program)(g:FuncId)(p:Prop)(xs:List az)(k:bw->Prop)(m:Prop)(N:List az->List az->bw->Prop):ly P (p,some (g,xs)) k m N=(p/\@aA _ P g xs ⟨k⟩ ⟨m⟩ ⟨N⟩):=rfl
@[simp]def ztG(P:Program)(p:Prop)(k:bw->Prop)(m:Prop)(N:List az->List az->bw->Prop):ly P (p,none) k m N=m:=rfl
def CB(P:Program)(c:Prop×Option (FuncId×List az))(k:bw->Prop):Prop:=
 match c with
 |(p,some (g,xs))=>p/\@aA _ P g xs ⟨k⟩ ⟨False⟩ ⟨fun _ _ _=>False⟩
 |_=>False
@[congr]def ztH{P:Program}{c c':Prop×Option (FuncId×List az)}{k:bw->Prop}(h:c=c'):CB P c k=CB P c' k:=by rw[h]
@[simp]def ztI(P:Program)(g:FuncId)(p:Prop)(xs:List az)(k:bw->Prop):CB P (p,some (g,xs)) k=(p/\@aA _ P g xs ⟨k⟩ ⟨False⟩ ⟨fun _ _ _=>False⟩):=rfl
def zeM(P:Program)(s:ag)(f:Operand)(args:List Operand)(k:bw->Prop):(∃r,nK P s f args r/\k r)=CB P (callee s f args) k:=by
 unfold nK CB aA;apply propext;constructor
 ·rintro⟨r,h,am⟩;split at h
  ·rename_i p g xs e;rw[e];exact⟨h.1,.inl ⟨r,h.2,am⟩⟩
  ·exact h.elim
 ·intro h;split at h
  ·rename_i p g xs e;obtain⟨ak,⟨r,ao,am⟩|⟨_,_,_,h⟩|h⟩:=h
   ·exact⟨r,by rw[e];exact⟨ak,ao⟩,am⟩
   ·exact h.elim
   ·exact h.elim
  ·exact h.elim
def gg(P:Program)(g:FuncId)(args:List ad)[k:jB (bw->List ad->Prop)]:Prop:=∃r outs,cB P g args r outs/\k.val r outs
def gg.of{P:Program}{g:FuncId}{args:List ad}{k:bw->List ad->Prop}{r:bw}{outs:List ad}(h:cB P g args r outs)(am:k r outs):@gg _ P g args ⟨k⟩:=⟨r,outs,h,am⟩
@[congr]def ztJ{P:Program}{s:ag}{c c':Prop×Option (FuncId×List (ad×Option Nat))}{k:List (ad×Option Nat)->bw->List ad->Prop}(h:c=c'):iA P s c k=iA P s c' k:=by rw[h]
@[congr]def ztK{P:Program}{g:FuncId}{xs:List (ad×Option Nat)}{k:List (ad×Option Nat)->bw->List ad->Prop}{q dQ:Option (Nat×List af)}(h:q=dQ):BU P g xs k q=BU P g xs k dQ:=by rw[h]
def JI(P:Program)(g:FuncId)(args:Nat->List ad)[k:jB (bw->List ad->List af->Prop)]:Prop:=∃r outs co,(∀b,cB P g (args b) r (outs++[.cf b co]))/\k.val r outs co
def JI.of{P:Program}{g:FuncId}{args:Nat->List ad}{k:bw->List ad->List af->Prop}{r:bw}{outs:List ad}{co:List af}(h:∀b,cB P g (args b) r (outs++[.cf b co]))(am:k r outs co):@JI _ P g args ⟨k⟩:=⟨r,outs,co,h,am⟩
@[simp]def ztL(P:Program)(g:FuncId)(xs:List (ad×Option Nat))(k:List (ad×Option Nat)->bw->List ad->Prop):BU P g xs k none=@gg _ P g (gr xs xs) ⟨fun r outs=>k xs r outs⟩:=rfl
@[simp]def ztM(P:Program)(g:FuncId)(xs:List (ad×Option Nat))(k:List (ad×Option Nat)->bw->List ad->Prop)(i:Nat)(cs:List af):BU P g xs k (some (i,cs))=((ad.box cs).told=true/\(slotsOf (xs++[(.box cs,some i)])).Nodup/\@JI _ P g (fun b=>gr (xs++[(.box cs,some i)]) xs++[.cf b cs]) ⟨fun r outs co=>k (xs++[(.box cs,some i)]) r (outs++[.box co])⟩):=rfl
def Oy(i:Nat):ad->Option (Nat×List af)
 |.box cs=>some (i,cs)
 |_=>none
@[simp]def ztN(i:Nat)(cs:List af):Oy i (.box cs)=some (i,cs):=rfl
def Oz(s:ag):List Nat->Option (Nat×List af)
 |[]=>none
 |i::_=>Oy i (s i)
@[simp]def ztO(s:ag):Oz s []=none:=rfl
@[simp]def ztP(s:ag)(i:Nat)(l:List Nat):Oz s (i::l)=Oy i (s i):=rfl
@[simp]def ztQ(s:ag)(xs:List (ad×Option Nat)):ghost s xs=Oz s (xl (slotsOf xs) xs):=rfl
@[simp]def ztR(l:List Nat):xl l []=[]:=rfl
@[simp]def ztS(l:List Nat)(x:ad)(q:Option Nat)(r:List (ad×Option Nat)):xl l ((x,q)::r)=addN l x.mR (xl l r):=rfl
@[simp]def ztT(l r:List Nat):addN l [] r=r:=rfl
@[simp]def ztU(l t r:List Nat)(i:Nat):addN l (i::t) r=bif l.contains i then addN l t r else i::addN l t r:=rfl
@[simp]def ztV(v:az):ad.mR (.x v)=[]:=rfl
@[simp]def ztW(cs:List af):ad.mR (.box cs)=[]:=rfl
@[simp]def ztX(e z:Nat)(xs:List (List af)):ad.mR (.own e z xs)=[]:=rfl
@[simp]def ztY(i off:Nat):ad.mR (.ds i off)=[i]:=rfl
def zP:List (af⊕(Nat×Nat))->List Nat
 |[]=>[]
 |.inl _::r=>zP r
 |.inr p::r=>p.1::zP r
@[simp]def ztZ:zP []=[]:=rfl
@[simp]def zua(i off:Nat)(r:List (af⊕(Nat×Nat))):zP (.inr (i,off)::r)=i::zP r:=rfl
@[simp]def zub(f:FuncId)(caps:List (af⊕(Nat×Nat))):ad.mR (.cr f caps)=zP caps:=by
 simp only[ad.mR];induction caps with
 |nil=>rfl
 |cons c r aX=>cases c<;>simp only[qC,mO,zP,aX]
@[simp]def zuc(i j:Nat):posOf i [] j=none:=rfl
@[simp]def zud(i j k:Nat)(x:ad)(l:List (ad×Option Nat)):posOf i ((x,some k)::l) j=bif k==i then some j else posOf i l (j+1):=rfl
@[simp]def zue(i j:Nat)(x:ad)(l:List (ad×Option Nat)):posOf i ((x,none)::l) j=posOf i l (j+1):=rfl
def U6(a:Option Nat)(off:Nat)(b:Option (List (af⊕(Nat×Nat)))):Option (List (af⊕(Nat×Nat))):=match a,b with
 |some j,some cs=>some (.inr (j,off)::cs)
 |_,_=>none
@[simp]def zuf(j off:Nat)(cs:List (af⊕(Nat×Nat))):U6 (some j) off (some cs)=some (.inr (j,off)::cs):=rfl
@[simp]def zug(L:List (ad×Option Nat)):qI L []=some []:=rfl
@[simp]def zuh(L:List (ad×Option Nat))(i off:Nat)(r:List (af⊕(Nat×Nat))):qI L (.inr (i,off)::r)=U6 (posOf i L 0) off (qI L r):=rfl
def U7(f:FuncId):Option (List (af⊕(Nat×Nat)))->ad
 |some cs=>.cr f cs
 |none=>.dead
@[simp]def zui(f:FuncId)(cs:List (af⊕(Nat×Nat))):U7 f (some cs)=.cr f cs:=rfl
def U8(off:Nat):Option Nat->ad
 |some j=>.ds j off
 |none=>.dead
@[simp]def zuj(j off:Nat):U8 off (some j)=.ds j off:=rfl
@[simp]def zuk(L:List (ad×Option Nat))(v:az):i' L (.x v)=.x v:=rfl
@[simp]def zul(L:List (ad×Option Nat))(cs:List af):i' L (.box cs)=.box cs:=rfl
@[simp]def zum(L:List (ad×Option Nat))(e z:Nat)(xs:List (List af)):i' L (.own e z xs)=.own e z xs:=rfl
@[simp]def zun(L:List (ad×Option Nat))(f:FuncId)(caps:List (af⊕(Nat×Nat))):i' L (.cr f caps)=U7 f (qI L caps):=rfl
@[simp]def zuo(L:List (ad×Option Nat))(i off:Nat):i' L (.ds i off)=U8 off (posOf i L 0):=rfl
@[simp]def zup(L:List (ad×Option Nat)):gr L []=[]:=rfl
@[simp]def zuq(L:List (ad×Option Nat))(y:ad×Option Nat)(r:List (ad×Option Nat)):gr L (y::r)=i' L y.1::gr L r:=rfl
@[simp]def zur(P:Program)(s:ag)(g:FuncId)(p:Prop)(xs:List (ad×Option Nat))(k:List (ad×Option Nat)->bw->List ad->Prop):iA P s (p,some (g,xs)) k=(p/\ve xs=true/\(slotsOf xs).Nodup/\BU P g xs k (ghost s xs)):=rfl
@[simp]def zus:slotsOf []=[]:=rfl
@[simp]def zut(x:ad)(i:Nat)(l:List (ad×Option Nat)):slotsOf ((x,some i)::l)=i::slotsOf l:=rfl
@[simp]def zuu(x:ad)(l:List (ad×Option Nat)):slotsOf ((x,none)::l)=slotsOf l:=rfl
@[simp]def zuv(s:ag)(outs:List ad):e6 s [] outs=s:=by cases outs<;>rfl
@[simp]def zuw(s:ag)(x o:ad)(i:Nat)(l:List (ad×Option Nat))(outs:List ad):e6 s ((x,some i)::l) (o::outs)=e6 (r' s i o) l outs:=rfl
@[simp]def zux(s:ag)(x o:ad)(l:List (ad×Option Nat))(outs:List ad):e6 s ((x,none)::l) (o::outs)=e6 s l outs:=rfl
@[simp]def zuy(s:ag)(i:Nat)(cs:List af):r' s i (.box cs)=fh s i (.box cs):=rfl
def OA(s:ag)(i:Nat)(o:ad):(fun j=>if j=i then o else if (s j).refs i then .dead else s j)=fh (kill s i) i o:=by funext j;simp only[FU,zeI]
@[simp]def zuz(s:ag)(i e z:Nat)(xs:List (List af)):r' s i (.own e z xs)=fh (kill s i) i (.own e z xs):=OA s i _
@[simp]def zuA(s:ag)(i:Nat):r' s i .dead=fh (kill s i) i .dead:=OA s i _
def JJ(p:Prop)(i:Nat):ad->Prop×Option (ad×Option Nat)
 |.own e z xs=>(p,some (.own e z xs,some i))
 |.mp c bs es=>(p,some (.mp c bs es,some i))
 |_=>(False,none)
@[simp]def zuB(p:Prop)(i e z:Nat)(xs:List (List af)):JJ p i (.own e z xs)=(p,some (.own e z xs,some i)):=rfl
def JK(p:Prop)(i:Nat):ad->Prop×Option (ad×Option Nat)
 |.box cs=>(p,some (.box cs,some i))
 |_=>(False,none)
@[simp]def zuC(p:Prop)(i:Nat)(cs:List af):JK p i (.box cs)=(p,some (.box cs,some i)):=rfl
def xQ(s:ag):Prop×ad->Prop×Option (ad×Option Nat)
 |(p,.x bK)=>(p,some (.x bK,none))
 |(p,.alias i)=>JJ p i (s i)
 |(p,.ptr i 0)=>JK p i (s i)
 |(p,.cr f caps)=>(p,some (.cr f caps,none))
 |(p,.ds i off)=>(p,some (.ds i off,none))
 |_=>(False,none)
@[congr]def zuD{s:ag}{q dQ:Prop×ad}(h:q=dQ):xQ s q=xQ s dQ:=by rw[h]
@[simp]def zuE(s:ag)(p:Prop)(v:az):xQ s (p,.x v)=(p,some (.x v,none)):=rfl
@[simp]def zuF(s:ag)(p:Prop)(i:Nat):xQ s (p,.alias i)=JJ p i (s i):=rfl
@[simp]def zuG(s:ag)(p:Prop)(i:Nat):xQ s (p,.ptr i 0)=JK p i (s i):=rfl
@[simp]def zuH(s:ag)(p:Prop)(f:FuncId)(caps:List (af⊕(Nat×Nat))):xQ s (p,.cr f caps)=(p,some (.cr f caps,none)):=rfl
@[simp]def zuI(s:ag)(x:Operand):qG s x=xQ s (aG s x):=by unfold qG xQ JJ JK;rfl
def U9(a:Prop×Option (ad×Option Nat))(b:Prop×Option (List (ad×Option Nat))):Prop×Option (List (ad×Option Nat)):=match a,b with
 |(p,some v),(q,some vs)=>(p/\q,some (v::vs))
 |_,_=>(False,none)
@[simp]def zuJ(p q:Prop)(v:ad×Option Nat)(vs:List (ad×Option Nat)):U9 (p,some v) (q,some vs)=(p/\q,some (v::vs)):=rfl
@[simp]def zuK(s:ag):jt s []=(True,some []):=rfl
@[simp]def zuL(s:ag)(x:Operand)(r:List Operand):jt s (x::r)=U9 (qG s x) (jt s r):=rfl
def U_(i:Nat):ad->Option (ad×Option Nat)
 |.box cs=>some (.box cs,some i)
 |_=>none
@[simp]def zuM(i:Nat)(cs:List af):U_ i (.box cs)=some (.box cs,some i):=rfl
@[simp]def zuN(s:ag)(i:Nat):r_ s (.inr (i,0))=U_ i (s i):=rfl
@[simp]def zuO(s:ag)(i off:Nat)(h:1000000<=off):r_ s (.inr (i,off))=some (.ds i (off-1000000),none):=by
 unfold r_;cases off with
 |zero=>omega
 |succ k=>simp[h]
def U'(a:Option (ad×Option Nat))(b:Option (List (ad×Option Nat))):Option (List (ad×Option Nat)):=match a,b with
 |some v,some vs=>some (v::vs)
 |_,_=>none
@[simp]def zuP(v:ad×Option Nat)(vs:List (ad×Option Nat)):U' (some v) (some vs)=some (v::vs):=rfl
@[simp]def zuQ(s:ag):jT s []=some []:=rfl
@[simp]def zuR(s:ag)(c:af⊕(Nat×Nat))(r:List (af⊕(Nat×Nat))):jT s (c::r)=U' (r_ s c) (jT s r):=rfl
@[simp]def zuS(s:ag)(f:FuncId)(caps:List (af⊕(Nat×Nat))):l6 s (.cr f caps)=(jT s caps).map fun xs=>(f,xs):=rfl
@[simp]def zuT(s:ag)(f:FuncId):l6 s (.x (.one (.atom (.func (.func f) #[] #[]))))=some (f,[]):=rfl
def OB(f:Prop×Option (FuncId×List (ad×Option Nat)))(xs:Prop×Option (List (ad×Option Nat))):Prop×Option (FuncId×List (ad×Option Nat)):=
 match f,xs with
 |(p,some (g,caps)),(q,some xs)=>(p/\q,some (g,xs++caps))
 |_,_=>(False,none)
@[simp]def zuU(p q:Prop)(g:FuncId)(caps xs:List (ad×Option Nat)):OB (p,some (g,caps)) (q,some xs)=(p/\q,some (g,xs++caps)):=rfl
def OC(s:ag):Prop×ad->Prop×Option (FuncId×List (ad×Option Nat))
 |(p,a)=>(p,l6 s a)
@[simp]def zuV(s:ag)(p:Prop)(a:ad):OC s (p,a)=(p,l6 s a):=rfl
@[simp]def zuW(s:ag)(f:Operand)(args:List Operand):fW s f args=OB (OC s (aG s f)) (jt s args):=by
 unfold fW OB OC;generalize aG s f=a;generalize jt s args=b;obtain⟨p,a⟩:=a;obtain⟨q,b⟩:=b;cases b with
 |none=>dsimp only;cases l6 s a<;>rfl
 |some xs=>dsimp only;cases l6 s a<;>rfl
def FW:Prop×ad->Prop×Option (FuncId×List az)
 |(p,a)=>(p,iz a)
@[simp]def zuX(p:Prop)(a:ad):FW (p,a)=(p,iz a):=rfl
def zQ(f:Prop×Option (FuncId×List az))(xs:Prop×Option (List az)):Prop×Option (FuncId×List az):=
 match f,xs with
 |(p,some (g,caps)),(q,some xs)=>(p/\q,some (g,xs++caps))
 |_,_=>(False,none)
@[simp]def zuY(f:Prop×Option (FuncId×List az))(q:Prop):zQ f (q,none)=(False,none):=by obtain⟨p,f⟩:=f;cases f<;>rfl
@[simp]def zuZ(p:Prop)(xs:Prop×Option (List az)):zQ (p,none) xs=(False,none):=rfl
@[simp]def zva(f:FuncId)(caps:List (af⊕(Nat×Nat))):iz (.cr f caps)=none:=rfl
@[simp]def zvb(p q:Prop)(g:FuncId)(caps xs:List az):zQ (p,some (g,caps)) (q,some xs)=(p/\q,some (g,xs++caps)):=rfl
@[simp]def zvc(s:ag)(f:Operand)(args:List Operand):callee s f args=zQ (FW (aG s f)) (lx s args):=by
 unfold callee zQ FW;generalize aG s f=a;generalize lx s args=b;obtain⟨p,a⟩:=a;obtain⟨q,b⟩:=b;cases b with
 |none=>dsimp only;cases iz a<;>rfl
 |some xs=>dsimp only;cases iz a<;>rfl
def bp(P:Program)(e:Bool)(g:FuncId)(xs:List az)[k:jB (bw->Prop)]:Prop:=Is P e g xs k.val
def bp.of{P:Program}{e:Bool}{g:FuncId}{xs:List az}{k:bw->Prop}{r:bw}(h:e=true->aD P g xs r)(ay:r.flat=true)(am:k r):@bp _ P e g xs ⟨k⟩:=⟨r,h,ay,am⟩
@[simp]def zvd(s:ag)(f:Operand)(args:List Operand):zO s f args true=zQ (FW (aG s f)) (qE s args):=by
 unfold zO zQ FW;generalize qE s args=xs;cases ay:aG s f with
 |mk p v=>obtain⟨q,xs⟩:=xs;cases xs<;>cases aH:iz v<;>simp_all
@[congr]def zve{P:Program}{e bV:Bool}{c c':Prop×Option (FuncId×List az)}{k:bw->Prop}(he:e=bV)(h:c=c'):pA P e c k=pA P bV c' k:=by rw[he,h]
@[simp]def zvf(P:Program)(e:Bool)(g:FuncId)(p:Prop)(xs:List az)(k:bw->Prop):pA P e (p,some (g,xs)) k=((e=true->p)/\@bp _ P e g xs ⟨k⟩):=rfl
def CC(P:Program)(e:Bool)(c:Prop×Option (FuncId×List az))(k:bw->Prop)(m:Prop):Prop:=match c with
 |(p,some x)=>pA P e (p,some x) k
 |(_,none)=>m
@[congr]def zvg{P:Program}{e bV:Bool}{c c':Prop×Option (FuncId×List az)}{k:bw->Prop}{m:Prop}(he:e=bV)(h:c=c'):CC P e c k m=CC P bV c' k m:=by rw[he,h]
@[simp]def zvh(P:Program)(e:Bool)(g:FuncId)(p:Prop)(xs:List az)(k:bw->Prop)(m:Prop):CC P e (p,some (g,xs)) k m=((e=true->p)/\@bp _ P e g xs ⟨k⟩):=rfl
@[simp]def zvi(P:Program)(e:Bool)(p:Prop)(k:bw->Prop)(m:Prop):CC P e (p,none) k m=m:=rfl
end Go.Ab
namespace Go.Ab
open Go Go.RowKit
variable [bf]
def zR:Op->Bool
 |.move _=>true
 |.pick _ _ _=>true
 |.load _ _=>true
 |.nilCheck _=>true
 |.binOp _ _ _ _ _=>true
 |.unOp _ _ _=>true
 |.fieldAddr _ _ _=>true
 |.field _ _ _=>true
 |.indexAddr _ _ _=>true
 |.index _ _ _=>true
 |.extract _ _=>true
 |.lookup _ _ _ _=>true
 |.makeFunc _ _ _=>true
 |.slice _ _ _ _ _=>true
 |_=>false
def e9{α:Type}(o:Option α)(k:α->Prop):Prop:=match o with
 |some x=>k x
 |none=>False
@[congr]def zvj{α:Type}{o cv:Option α}{k:α->Prop}(h:o=cv):e9 o k=e9 cv k:=by rw[h]
@[simp]def zvk{α:Type}(x:α)(k:α->Prop):e9 (some x) k=k x:=rfl
def CD(r:Prop×ad)(k:List af->Prop):Prop:=match r with
 |(p,.x bK)=>p/\k bK.cells
 |_=>False
@[congr]def zvl{r ca:Prop×ad}{k:List af->Prop}(h:r=ca):CD r k=CD ca k:=by rw[h]
@[simp]def zvm(p:Prop)(c:af)(k:List af->Prop):CD (p,.x (.one c)) k=(p/\k [c]):=rfl
@[simp]def zvn(p:Prop)(c:List af)(k:List af->Prop):CD (p,.x (.agg c)) k=(p/\k c):=rfl
def CE(r:Prop×ad)(k:Nat->Nat->Prop)(X:Prop):Prop:=match r with
 |(p,.ptr i off)=>p/\k i off
 |_=>X
@[congr]def zvo{r ca:Prop×ad}{k:Nat->Nat->Prop}{X:Prop}(h:r=ca):CE r k X=CE ca k X:=by rw[h]
@[simp]def zvp(p:Prop)(i off:Nat)(k:Nat->Nat->Prop)(X:Prop):CE (p,.ptr i off) k X=(p/\k i off):=rfl
@[simp]def zvq(p:Prop)(v:az)(k:Nat->Nat->Prop)(X:Prop):CE (p,.x v) k X=X:=rfl
def xR(r:Prop×ag)(k:ag->Prop):Prop:=r.1/\k r.2
@[congr]def zvr{r ca:Prop×ag}{k:ag->Prop}(h:r=ca):xR r k=xR ca k:=by rw[h]
@[simp]def zvs(p:Prop)(s:ag)(k:ag->Prop):xR (p,s) k=(p/\k (dh s)):=rfl
def JL(r:Prop×ag×ad)(k:ag->ad->Prop):Prop:=r.1/\k r.2.1 r.2.2
@[congr]def zvt{r ca:Prop×ag×ad}{k:ag->ad->Prop}(h:r=ca):JL r k=JL ca k:=by rw[h]
@[simp]def zvu(p:Prop)(s:ag)(v:ad)(k:ag->ad->Prop):JL (p,s,v) k=(p/\k s v):=rfl
def uj(b:Bool)(x y:Prop):Prop:=match b with
 |true=>x
 |false=>y
@[congr]def zvv{b bg:Bool}{x y:Prop}(h:b=bg):uj b x y=uj bg x y:=by rw[h]
@[simp ↓]def zvw(x y:Prop):uj true x y=x:=rfl
@[simp ↓]def zvx(x y:Prop):uj false x y=y:=rfl
def qS(v:ad)(aF aP:ad->Prop)(a7:Nat->Nat->Nat->Bool->Prop):Prop:=match v with
 |.own e z xs=>aF (.own e z xs)
 |.mp c bs es=>aF (.mp c bs es)
 |.view i aK len wh=>a7 i aK len wh
 |v=>aP v
@[congr]def zvy{v cz:ad}{aF aP:ad->Prop}{a7:Nat->Nat->Nat->Bool->Prop}(h:v=cz):qS v aF aP a7=qS cz aF aP a7:=by rw[h]
section
variable (aF aP:ad->Prop)(a7:Nat->Nat->Nat->Bool->Prop)
@[simp]def zvz(e z:Nat)(xs:List (List af)):qS (.own e z xs) aF aP a7=aF (.own e z xs):=rfl
@[simp]def zvA(c:Nat)(bs:List Nat)(es:List (az×az)):qS (.mp c bs es) aF aP a7=aF (.mp c bs es):=rfl
@[simp]def zvB(i aK len:Nat)(wh:Bool):qS (.view i aK len wh) aF aP a7=a7 i aK len wh:=rfl
@[simp]def zvC(v:az):qS (.x v) aF aP a7=aP (.x v):=rfl
@[simp]def zvD(v:List af):qS (.box v) aF aP a7=aP (.box v):=rfl
@[simp]def zvE(v:List af):qS (.elem v) aF aP a7=aP (.elem v):=rfl
@[simp]def zvF(s:Nat):qS (.alias s) aF aP a7=aP (.alias s):=rfl
@[simp]def zvG(f:FuncId)(caps:List (af⊕(Nat×Nat))):qS (.cr f caps) aF aP a7=aP (.cr f caps):=rfl
end
def FX(s:ag)(d aK len:Nat)(wh:Bool)(K:ag->Prop):ad->Prop
 |.own e size xs=>uj wh (K (put (put s d .dead) d (.own e size (xs.take len)))) (K (put (freeze s d) d (.x (.one (.list size ((xs.drop aK).take len))))))
 |_=>False
@[congr]def zvH{s:ag}{d aK len:Nat}{wh:Bool}{K:ag->Prop}{v cz:ad}(h:v=cz):FX s d aK len wh K v=FX s d aK len wh K cz:=by rw[h]
@[simp]def zvI(s:ag)(d aK len:Nat)(wh:Bool)(K:ag->Prop)(e size:Nat)(xs:List (List af)):FX s d aK len wh K (.own e size xs)=uj wh (K (put (put s d .dead) d (.own e size (xs.take len)))) (K (put (freeze s d) d (.x (.one (.list size ((xs.drop aK).take len)))))):=rfl
@[simp ↓]def zvJ(s:ag)(d aK len:Nat)(wh:Bool)(K:ag->Prop):zh s d aK len wh K=FX s d aK len wh K (s d):=by unfold zh FX uj;cases s d<;>first|rfl|(cases wh<;>rfl)
section
variable (P:Program)(n:Nat)(ops:Array Oper)(s:ag)(K:ag->Prop)(d:Nat)(ty:TypeId)(pos:String)(after:Array Edge)(r:List Oper)
@[simp ↓]def zvK:bN P n ops [] s K=K s:=rfl
def pS(op:Op)(h:zR op=true):bN P n ops (⟨some d,op,ty,pos,after,none⟩::r) s K=eL (bb P s op) (fun v=>d<n/\bN P n ops r (put s d v) K):=by cases op<;>first|rfl|(simp[zR]at h)
@[simp]def zvL(x:Operand):bN P n ops (⟨some d,.move x,ty,pos,after,none⟩::r) s K=eL (bb P s (.move x)) (fun v=>d<n/\bN P n ops r (put s d v) K):=pS P n ops s K d ty pos after r _ (by rfl)
@[simp]def zvM(c x y:Operand):bN P n ops (⟨some d,.pick c x y,ty,pos,after,none⟩::r) s K=eL (bb P s (.pick c x y)) (fun v=>d<n/\bN P n ops r (put s d v) K):=pS P n ops s K d ty pos after r _ (by rfl)
@[simp]def zvN(t:TypeId)(x:Operand):bN P n ops (⟨some d,.load t x,ty,pos,after,none⟩::r) s K=eL (bb P s (.load t x)) (fun v=>d<n/\bN P n ops r (put s d v) K):=pS P n ops s K d ty pos after r _ (by rfl)
@[simp]def zvO(x:Operand):bN P n ops (⟨some d,.nilCheck x,ty,pos,after,none⟩::r) s K=eL (bb P s (.nilCheck x)) (fun v=>d<n/\bN P n ops r (put s d v) K):=pS P n ops s K d ty pos after r _ (by rfl)
@[simp]def zvP(o:BinOp)(t t':TypeId)(x y:Operand):bN P n ops (⟨some d,.binOp o t x y t',ty,pos,after,none⟩::r) s K=eL (bb P s (.binOp o t x y t')) (fun v=>d<n/\bN P n ops r (put s d v) K):=pS P n ops s K d ty pos after r _ (by rfl)
@[simp]def zvQ(o:UnOp)(t:TypeId)(x:Operand):bN P n ops (⟨some d,.unOp o t x,ty,pos,after,none⟩::r) s K=eL (bb P s (.unOp o t x)) (fun v=>d<n/\bN P n ops r (put s d v) K):=pS P n ops s K d ty pos after r _ (by rfl)
@[simp]def zvR(t t':TypeId)(x:Operand):bN P n ops (⟨some d,.convert t t' x,ty,pos,after,none⟩::r) s K=mf (h4 P t') (eL (nQ P t t' (aG s x)) (fun v=>d<n/\bN P n ops r (put s d v) K)) (eL (mF P s t t' (aG s x)) (fun v=>d<n/\bN P n ops r (put s d v) K)):=by show (match h4 P t' with|true=>_|false=>_)=_;unfold mf;cases h4 P t'<;>rfl
@[simp]def zvS(t:TypeId)(x:Operand)(f:Nat):bN P n ops (⟨some d,.fieldAddr t x f,ty,pos,after,none⟩::r) s K=eL (bb P s (.fieldAddr t x f)) (fun v=>d<n/\bN P n ops r (put s d v) K):=pS P n ops s K d ty pos after r _ (by rfl)
@[simp]def zvT(t:TypeId)(x i:Operand):bN P n ops (⟨some d,.indexAddr t x i,ty,pos,after,none⟩::r) s K=eL (bb P s (.indexAddr t x i)) (fun v=>d<n/\bN P n ops r (put s d v) K):=pS P n ops s K d ty pos after r _ (by rfl)
@[simp]def zvU(t:TypeId)(x i:Operand):bN P n ops (⟨some d,.index t x i,ty,pos,after,none⟩::r) s K=eL (bb P s (.index t x i)) (fun v=>d<n/\bN P n ops r (put s d v) K):=pS P n ops s K d ty pos after r _ (by rfl)
@[simp]def zvV(x:Operand)(f:Nat):bN P n ops (⟨some d,.extract x f,ty,pos,after,none⟩::r) s K=eL (bb P s (.extract x f)) (fun v=>d<n/\bN P n ops r (put s d v) K):=pS P n ops s K d ty pos after r _ (by rfl)
@[simp]def zvW(fn:Fn)(fst cap:Array Operand):bN P n ops (⟨some d,.makeFunc fn fst cap,ty,pos,after,none⟩::r) s K=eL (bb P s (.makeFunc fn fst cap)) (fun v=>d<n/\bN P n ops r (put s d v) K):=pS P n ops s K d ty pos after r _ (by rfl)
@[simp]def zvX(t:TypeId)(x k:Operand)(ok:Bool):bN P n ops (⟨some d,.lookup t x k ok,ty,pos,after,none⟩::r) s K=eL (bb P s (.lookup t x k ok)) (fun v=>d<n/\bN P n ops r (put s d v) K):=pS P n ops s K d ty pos after r _ (by rfl)
@[simp]def zvY(t:TypeId)(parts:Array (Nat×Operand)):bN P n ops (⟨some d,.build t parts,ty,pos,after,none⟩::r) s K=eL (nG P (h_ s) t parts.toList) (fun v=>d<n/\bN P n ops r (put (dt s (dc s (parts.toList.map (·.2)))) d v) K):=rfl
@[simp]def zvZ(t:TypeId):bN P n ops (⟨some d,.alloc t,ty,pos,after,none⟩::r) s K=e9 (zeroOf P t) (fun cs=>d<n/\bN P n ops r (put s d (.box cs)) K):=by show (match zeroOf P t with|some cs=>_|none=>False)=_;cases zeroOf P t<;>rfl
def JM(s:ag)(d i:Nat)(p:Prop)(k:ag->Prop)(X:Prop)(b:Bool):Prop:=match b with
 |true=>p/\i≠d/\(s (b0 d 0)).free=true/\k (fh (put s d (.box [.any])) (b0 d 0) (.link d 0 i))
 |false=>X
@[congr]def zwa{s:ag}{d i:Nat}{p:Prop}{k:ag->Prop}{X:Prop}{b bg:Bool}(h:b=bg):JM s d i p k X b=JM s d i p k X bg:=by rw[h]
def JN(s:ag)(d i:Nat)(p:Prop)(k:ag->Prop)(X:Prop)(m:ad):Prop:=match m with
 |.res l=>JM s d i p k X (l.contains (d,0)&&(s i).tight)
 |_=>X
@[congr]def zwb{s:ag}{d i:Nat}{p:Prop}{k:ag->Prop}{X:Prop}{m hz:ad}(h:m=hz):JN s d i p k X m=JN s d i p k X hz:=by rw[h]
def CF(s:ag)(d:Nat)(r:Prop×ad)(k:ag->Prop)(X:Prop):Prop:=match r with
 |(p,.alias i)=>JN s d i p k X (s bF)
 |_=>X
@[congr]def zwc{s:ag}{d:Nat}{r ca:Prop×ad}{k:ag->Prop}{X:Prop}(h:r=ca):CF s d r k X=CF s d ca k X:=by rw[h]
@[simp]def zwd(s:ag)(d:Nat)(p:Prop)(v:az)(k:ag->Prop)(X:Prop):CF s d (p,.x v) k X=X:=rfl
def zeN(s:ag)(d:Nat)(r:Prop×ad)(k:ag->Prop)(X:Prop):CF s d r k X=(match zi s d r with|some (p,i)=>p/\i≠d/\(s (b0 d 0)).free=true/\k (Nh s d i)|none=>X):=by
 obtain⟨p,r⟩:=r;cases r<;>try rfl
 rename_i i;unfold CF zi JN;dsimp only;cases s bF<;>try rfl
 rename_i l;dsimp only;unfold JM;cases (l.contains (d,0)&&(s i).tight)<;>rfl
@[simp]def zwe(t:TypeId)(x:Operand):bN P n ops (⟨some d,.box t x,ty,pos,after,none⟩::r) s K=CE (aG s x) (fun i off=>d<n/\bN P n ops r (put s d (.ds i off)) K) (CF s d (aG s x) (fun s'=>d<n/\bN P n ops r s' K) (CD (h_ s x) (fun cs=>d<n/\bN P n ops r (put (dt s (dc s [x])) d (.box cs)) K))):=by
 rw[zeN];simp only[bN,ft,fs,CD,CE];generalize aG s x=q;obtain⟨p,q⟩:=q;cases q<;>first
  |rfl
  |(dsimp only
    cases ae:zi s d _ with
    |none=>rfl
    |some y=>
     obtain⟨p,i⟩:=y;apply propext;constructor
     ·rintro⟨aa,ab,ar,aN,bD⟩;exact⟨aa,ar,aN,ab,bD⟩
     ·rintro⟨aa,ar,aN,ab,bD⟩;exact⟨aa,ab,ar,aN,bD⟩)
@[simp]def zwf(t:TypeId)(len:Nat)(parts:Array (Nat×Operand)):bN P n ops (⟨some d,.buildSlice t len parts,ty,pos,after,none⟩::r) s K=eL (jS P (h_ s) t len parts.toList) (fun v=>d<n/\bN P n ops r (put (dt s (dc s (parts.toList.map (·.2)))) d v) K):=rfl
def FY(P:Program)(t:TypeId)(addr:Operand)(x:Prop×ad)(k:ag->Prop)(s:ag):Prop:=xR (jU P s t (aG s addr) x) k
@[congr]def zwg{P:Program}{t:TypeId}{addr:Operand}{x bH:Prop×ad}{k:ag->Prop}{s s':ag}(h:s=s')(aj:x=bH):FY P t addr x k s=FY P t addr bH k s':=by rw[h,aj]
@[simp]def zwh(P:Program)(t:TypeId)(addr:Operand)(p:Prop)(v:ad)(k:ag->Prop)(s:ag):FY P t addr (p,v) k s=xR (jU P s t (aG s addr) (p,v)) k:=rfl
def CG(P:Program)(t:TypeId)(addr x:Operand)(k:ag->Prop)(s:ag)(cG:Option (Prop×Nat×Nat×Nat)):Prop:=
 match cG with
 |some (p,i,off,d)=>p/\xR (fr P s t i off d) k
 |none=>FY P t addr (h_ s x) k (dt s (dc s [x]))
@[congr]def zwi{P:Program}{t:TypeId}{addr x:Operand}{k:ag->Prop}{s:ag}{l kd:Option (Prop×Nat×Nat×Nat)}(h:l=kd):CG P t addr x k s l=CG P t addr x k s kd:=by rw[h]
@[simp]def zwj(P:Program)(t:TypeId)(addr x:Operand)(k:ag->Prop)(s:ag):CG P t addr x k s none=FY P t addr (h_ s x) k (dt s (dc s [x])):=rfl
@[simp]def zwk(P:Program)(t:TypeId)(addr x:Operand)(k:ag->Prop)(s:ag)(p:Prop)(i off d:Nat):CG P t addr x k s (some (p,i,off,d))=(p/\xR (fr P s t i off d) k):=rfl
def zS(s:ag)(addr x:Operand)(m:ad):Option (Prop×Nat×Nat×Nat):=
 match m with
 |.res _=>jv s (aG s addr) (aG s x)
 |_=>none
@[congr]def zwl{s:ag}{addr x:Operand}{m hz:ad}(h:m=hz):zS s addr x m=zS s addr x hz:=by rw[h]
@[simp]def zwm(s:ag)(addr x:Operand)(l:List (Nat×Nat)):zS s addr x (.res l)=jv s (aG s addr) (aG s x):=rfl
@[simp]def zwn(s:ag)(addr x:Operand):zS s addr x .dead=none:=rfl
def zeO(s:ag)(addr x:Operand):jv s (aG s addr) (aG s x)=zS s addr x (s bF):=by
 unfold zS;split
 ·rfl
 ·rename_i h;unfold jv;split
  ·split
   ·split
    ·rename_i e;exact absurd e (h _)
    ·rfl
   ·rfl
  ·rfl
@[simp]def zwo(t:TypeId)(addr x:Operand):bN P n ops (⟨none,.store t addr x,ty,pos,after,none⟩::r) s K=(hS P t=true/\CG P t addr x (fun s'=>bN P n ops r s' K) s (zS s addr x (s 999999))):=by
 rw[<-zeO];simp only[bN,ft,fs,CG];cases jv s (aG s addr) (aG s x)with
 |none=>rfl
 |some y=>obtain⟨p,i,off,d⟩:=y;apply propext;rfl
def JO(q:Prop)(d:Nat)(l:List (Nat×Nat)):Prop×ad->Option (Prop×Nat×Nat×Nat)
 |(p,.ptr i off)=>bif l.contains (i,off)then some (p/\q,i,off,d)else none
 |_=>none
def FZ(a:Prop×ad)(q:Prop)(d:Nat):ad->Option (Prop×Nat×Nat×Nat)
 |.res l=>JO q d l a
 |_=>none
@[congr]def zwp{a aZ:Prop×ad}{q:Prop}{d:Nat}{v cz:ad}(h:v=cz)(ab:a=aZ):FZ a q d v=FZ aZ q d cz:=by rw[h,ab]
@[simp]def zwq(a:Prop×ad)(q:Prop)(d:Nat)(l:List (Nat×Nat)):FZ a q d (.res l)=JO q d l a:=rfl
@[simp]def zwr(q:Prop)(d:Nat)(l:List (Nat×Nat))(p:Prop)(i off:Nat):JO q d l (p,.ptr i off)=bif l.contains (i,off)then some (p/\q,i,off,d)else none:=rfl
@[simp]def zws(s:ag)(a:Prop×ad)(q:Prop)(d:Nat):jv s a (q,.alias d)=FZ a q d (s bF):=by unfold jv FZ JO;obtain⟨p,v⟩:=a;cases v<;>cases s bF<;>first|rfl|(dsimp only;split<;>rename_i h<;>rw[h]<;>rfl)
@[simp]def zwt(s:ag)(a:Prop×ad)(q:Prop)(v:az):jv s a (q,.x v)=none:=rfl
def F0(s:ag)(i off d:Nat)(k:bZ):ad->Prop×ag
 |.box cs=>match k with
  |.one=>(off<cs.length/\(s d).tight=true/\(s (b0 i off)).free=true,fh (fh (unlink s i off 1) (b0 i off) (.link i off d)) i (.box (cs.set off .any)))
  |_=>(False,s)
 |.cf b cs=>match k with
  |.one=>(off<cs.length/\(s d).tight=true/\(s (b0 i off)).free=true,fh (fh (unlink s i off 1) (b0 i off) (.link i off d)) i (.cf b (cs.set off .any)))
  |_=>(False,s)
 |_=>(False,s)
@[congr]def zwu{s:ag}{i off d:Nat}{k bu:bZ}{v cz:ad}(h:k=bu)(ab:v=cz):F0 s i off d k v=F0 s i off d bu cz:=by rw[h,ab]
@[simp]def zwv(s:ag)(i off d:Nat)(cs:List af):F0 s i off d .one (.box cs)=(off<cs.length/\(s d).tight=true/\(s (b0 i off)).free=true,fh (fh (unlink s i off 1) (b0 i off) (.link i off d)) i (.box (cs.set off .any))):=rfl
@[simp]def zww(P:Program)(s:ag)(t:TypeId)(i off d:Nat):fr P s t i off d=F0 s i off d (tk P t) (s i):=by unfold fr F0;cases tk P t<;>cases s i<;>rfl
@[simp]def zwx(t:Nat):bN P n ops (⟨some d,.assign (.tmp t),ty,pos,after,none⟩::r) s K=qS (s t) (fun v=>d<n/\bN P n ops r (put (put s t .dead) d v) K) (fun v=>d<n/\bN P n ops r (put s d (nV t v)) K)
  (fun i aK len wh=>uj (decide (i=d)) (d<n/\zh s d aK len wh (fun s'=>bN P n ops r s' K)) (d<n/\bN P n ops r (put s d (.view i aK len wh)) K)):=by
 simp only[bN,ft,fs,qS,uj];split<;>rename_i h<;>simp[h,zeK]
 ·split<;>split<;>simp_all
def zT(s:ag)(p q r:Prop)(i:Nat)(bv:eQ)(bX dp:az)(c:Nat)(bs:List Nat)(es:List (az×az)):Option (Option Nat)->Prop×ag
 |some f=>(p/\q/\r/\fU bv bX=true,fh s i (.mp (gZ c bs es bX dp f).1 (gZ c bs es bX dp f).2.1 (gZ c bs es bX dp f).2.2))
 |none=>(False,s)
@[congr]def zwy{s:ag}{p q r:Prop}{i:Nat}{bv:eQ}{bX dp:az}{c:Nat}{bs:List Nat}{es:List (az×az)}{f tG:Option (Option Nat)}(h:f=tG):zT s p q r i bv bX dp c bs es f=zT s p q r i bv bX dp c bs es tG:=by rw[h]
@[simp]def zwz(s:ag)(p q r:Prop)(i:Nat)(bv:eQ)(bX dp:az)(c:Nat)(bs:List Nat)(es:List (az×az)):zT s p q r i bv bX dp c bs es (some none)=(p/\q/\r/\fU bv bX=true,fh s i (.mp (c+1) (bs++[c]) (es++[(bX,dp)]))):=rfl
@[simp]def zwA(s:ag)(p q r:Prop)(i:Nat)(bv:eQ)(bX dp:az)(c:Nat)(bs:List Nat)(es:List (az×az))(j:Nat):zT s p q r i bv bX dp c bs es (some (some j))=(p/\q/\r/\fU bv bX=true,fh s i (.mp c bs (es.set j (bX,dp)))):=rfl
def zU(s:ag)(p q r:Prop)(i:Nat)(bv:eQ)(bX dp:az)(b c:Nat)(bs:List Nat)(es:List (az×az)):Option (Option Nat)->Prop×ag
 |some f=>(p/\q/\r/\fU bv bX=true,fh s i (.fc b (gZ c bs es bX dp f).1 (gZ c bs es bX dp f).2.1 (gZ c bs es bX dp f).2.2))
 |none=>(False,s)
@[congr]def zwB{s:ag}{p q r:Prop}{i:Nat}{bv:eQ}{bX dp:az}{b c:Nat}{bs:List Nat}{es:List (az×az)}{f tG:Option (Option Nat)}(h:f=tG):zU s p q r i bv bX dp b c bs es f=zU s p q r i bv bX dp b c bs es tG:=by rw[h]
@[simp]def zwC(s:ag)(p q r:Prop)(i:Nat)(bv:eQ)(bX dp:az)(b c:Nat)(bs:List Nat)(es:List (az×az)):zU s p q r i bv bX dp b c bs es (some none)=(p/\q/\r/\fU bv bX=true,fh s i (.fc b (c+1) (bs++[c]) (es++[(bX,dp)]))):=rfl
@[simp]def zwD(s:ag)(p q r:Prop)(i:Nat)(bv:eQ)(bX dp:az)(b c:Nat)(bs:List Nat)(es:List (az×az))(j:Nat):zU s p q r i bv bX dp b c bs es (some (some j))=(p/\q/\r/\fU bv bX=true,fh s i (.fc b c bs (es.set j (bX,dp)))):=rfl
def zV(s:ag)(p q r:Prop)(i:Nat)(bv:eQ)(bX dp:az):ad->Prop×ag
 |.mp c bs es=>zT s p q r i bv bX dp c bs es (er bv bX es 0)
 |.fc b c bs es=>zU s p q r i bv bX dp b c bs es (er bv bX es 0)
 |_=>(False,s)
@[congr]def zwE{s:ag}{p q r:Prop}{i:Nat}{bv:eQ}{bX dp:az}{v cz:ad}(h:v=cz):zV s p q r i bv bX dp v=zV s p q r i bv bX dp cz:=by rw[h]
@[simp]def zwF(s:ag)(p q r:Prop)(i:Nat)(bv:eQ)(bX dp:az)(b c:Nat)(bs:List Nat)(es:List (az×az)):zV s p q r i bv bX dp (.fc b c bs es)=zU s p q r i bv bX dp b c bs es (er bv bX es 0):=rfl
@[simp]def zwG(s:ag)(p q r:Prop)(i:Nat)(bv:eQ)(bX dp:az)(c:Nat)(bs:List Nat)(es:List (az×az)):zV s p q r i bv bX dp (.mp c bs es)=zT s p q r i bv bX dp c bs es (er bv bX es 0):=rfl
def CH(s:ag)(eC:Option (eQ×TypeId))(m k x:Prop×ad):Prop×ag:=
 match eC,m,k,x with
 |some (bv,_),(p,.alias i),(q,.x bX),(r,.x dp)=>zV s p q r i bv bX dp (s i)
 |_,_,_,_=>(False,s)
@[congr]def zwH{s:ag}{eC FS:Option (eQ×TypeId)}{m hz k bu x bH:Prop×ad}(aa:eC=FS)(ab:m=hz)(ar:k=bu)(aN:x=bH):CH s eC m k x=CH s FS hz bu bH:=by rw[aa,ab,ar,aN]
@[simp]def zwI(s:ag)(bv:eQ)(e:TypeId)(p q r:Prop)(i:Nat)(bX dp:az):CH s (some (bv,e)) (p,.alias i) (q,.x bX) (r,.x dp)=zV s p q r i bv bX dp (s i):=rfl
def zeP(P:Program)(s:ag)(t:TypeId)(m k x:Prop×ad):vv P s t m k x=CH s (mE P t) m k x:=by unfold vv CH zV zT zU;rfl
@[simp]def zwJ(aU:List fo)(xs:List af):fU (.st aU) (.agg xs)=hK aU xs xs:=rfl
@[simp]def zwK:hK [] [] []=true:=rfl
@[simp]def zwL(aU:List fo)(k bu:IntKind)(a b:Int)(xs aQ:List af):hK (.i::aU) (.int k a::xs) (.int bu b::aQ)=(k==bu&&hK aU xs aQ):=rfl
@[simp]def zwM(l:List UInt8):fU .s (.one (.str l))=true:=rfl
@[simp]def zwN(k q:IntKind)(m:Int):fU (.i q) (.one (.int k m))=decide (k=q):=rfl
@[simp]def zwO(t:TypeId):bN P n ops (⟨some d,.makeMap t none,ty,pos,after,none⟩::r) s K=(d<n/\bN P n ops r (put s d (.mp 0 [] [])) K):=rfl
@[simp]def zwP(t:TypeId)(l c:Operand):bN P n ops (⟨some d,.makeSlice t l c,ty,pos,after,none⟩::r) s K=eL (vw P t (aG s l) (aG s c)) (fun v=>d<n/\bN P n ops r (put s d v) K):=rfl
@[simp]def zwQ(t:TypeId)(p q:Prop)(k bu:IntKind)(n m:Int):vw P t (p,.x (.one (.int k n))) (q,.x (.one (.int bu m)))=Fg P p q n m (ix P t):=rfl
@[simp]def zwR(p q:Prop)(n m:Int)(e:TypeId)(size:Nat)(z:List af):Fg P p q n m (some (e,size,z))=Ff p q n m e size z (mT P e):=rfl
@[simp]def zwS(p q:Prop)(n m:Int)(e:TypeId)(size b:Nat)(z:List af):Ff p q n m e size z (some b)=(p/\q/\0<=n/\m=n/\(b:Int)*n<=281474976710656/\n.toNat*size<=16777216,.own e size (List.replicate n.toNat z)):=rfl
@[simp]def zwT(t:TypeId)(m k x:Operand):bN P n ops (⟨none,.mapUpdate t m k x,ty,pos,after,none⟩::r) s K=tQ n s (aG s m) (fun hz=>xR (CH s (mE P t) hz (aG s k) (aG s x)) (fun s'=>bN P n ops r s' K)):=by simp only[<-zeP];rfl
@[simp]def zwU(v:Value):bN P n ops (⟨some d,.assign (.const v),ty,pos,after,none⟩::r) s K=(d<n/\bN P n ops r (put s d (look s (.const v))) K):=by show (True/\_)=_;rw[kZ];rfl
@[simp]def zwV(f:FuncId):bN P n ops (⟨some d,.assign (.func f),ty,pos,after,none⟩::r) s K=(d<n/\bN P n ops r (put s d (look s (.func f))) K):=by show (True/\_)=_;rw[kZ];rfl
@[simp]def zwW(t:TypeId)(x:Operand)(aK ai mx:Option Operand):bN P n ops (⟨some d,.slice t x aK ai mx,ty,pos,after,none⟩::r) s K=eL (bb P s (.slice t x aK ai mx)) (fun v=>d<n/\bN P n ops r (put s d v) K):=pS P n ops s K d ty pos after r _ (by rfl)
@[simp]def zwX(f:Operand)(args:List Operand)(ts:Array TypeId):bN P n ops (⟨some d,.call ⟨.value f,⟨args⟩,ts⟩,ty,pos,after,none⟩::r) s K=ly P (callee s f args) (fun dE=>d<n/\bN P n ops r (put (nL s args dE) d dE.cP) K) (oI P (vb s f args) (fun dE=>d<n/\bN P n ops r (put s d dE.cP) K) (oG s (qD s args) fun s=>iA P s (fW s f args) (fun xs dE outs=>d<n/\bN P n ops r (put (e6 s xs outs) d dE.cP) K))) (fun xs dS dE=>vy n s xs dS/\dE.flat=true/\d<n/\bN P n ops r (put s d dE.cP) K):=rfl
@[simp]def zwY(x y:Operand)(t t':TypeId):bN P n ops (⟨some d,.call ⟨.builtin .append,⟨[x,y]⟩,⟨[t,t']⟩⟩,ty,pos,after,none⟩::r) s K=l' n s (aG s x) (fun bH=>JL (eK P s t t' bH (aG s y)) (fun s1 v=>d<n/\bN P n ops r (put s1 d v) K)):=rfl
@[simp]def zwZ(args:List Operand)(ts:Array TypeId):bN P n ops (⟨some d,.call ⟨.builtin .len,⟨args⟩,ts⟩,ty,pos,after,none⟩::r) s K=eL (rO P s (.builtin .len) args ts.toList) (fun v=>d<n/\bN P n ops r (put s d v) K):=rfl
@[simp]def zxa(args:List Operand)(ts:Array TypeId):bN P n ops (⟨some d,.call ⟨.builtin .max,⟨args⟩,ts⟩,ty,pos,after,none⟩::r) s K=eL (rO P s (.builtin .max) args ts.toList) (fun v=>d<n/\bN P n ops r (put s d v) K):=rfl
@[simp]def zxb(args:List Operand)(ts:Array TypeId):bN P n ops (⟨some d,.call ⟨.builtin .min,⟨args⟩,ts⟩,ty,pos,after,none⟩::r) s K=eL (rO P s (.builtin .min) args ts.toList) (fun v=>d<n/\bN P n ops r (put s d v) K):=rfl
@[congr]def zxc{n:Nat}{s:ag}{x bH:Prop×ad}{k:Prop×ad->Prop}(h:x=bH):tQ n s x k=tQ n s bH k:=by rw[h]
@[simp]def zxd(n:Nat)(s:ag)(p:Prop)(i:Nat)(k:Prop×ad->Prop):tQ n s (p,.alias i) k=k (p,.alias i):=rfl
def JP{n:Nat}{s:ag}{p:Prop}{k:Prop×ad->Prop}(g b c:Nat)(bs:List Nat)(es:List (az×az))(aT:n<=g)(aB:s g=.fc b c bs es)(h:k (p,.alias g)):tQ n s (p,.x (.one (.atom (.map (some b))))) k:=⟨g,aT,⟨c,bs,es,aB⟩,h⟩
@[congr]def zxe{n:Nat}{s:ag}{x bH:Prop×ad}{k:Prop×ad->Prop}(h:x=bH):l' n s x k=l' n s bH k:=by rw[h]
@[simp]def zxf(n:Nat)(s:ag)(p:Prop)(i:Nat)(k:Prop×ad->Prop):l' n s (p,.alias i) k=k (p,.alias i):=rfl
@[simp]def zxg(n:Nat)(s:ag)(p:Prop)(k:Prop×ad->Prop):l' n s (p,.x (.one .nil)) k=k (p,.x (.one .nil)):=rfl
def zeQ{n:Nat}{s:ag}{p:Prop}{v:Value}{k:Prop×ad->Prop}(g e z:Nat)(xs:List (List af))(aT:n<=g)(aB:s g=.cT v e z xs)(h:k (p,.alias g)):l' n s (p,.x (.one (.atom v))) k:=⟨g,aT,⟨e,z,xs,aB⟩,h⟩
def hd(e:Bool)(r:Prop×ad)(k:ad->Prop):Prop:=(e=true->r.1)/\r.2.aM=false/\k r.2
end
@[congr]def zxh{e bV:Bool}{r ca:Prop×ad}{k:ad->Prop}(he:e=bV)(h:r=ca):hd e r k=hd bV ca k:=by rw[he,h]
@[simp]def zxi(e:Bool)(p:Prop)(v:ad)(k:ad->Prop):hd e (p,v) k=((e=true->p)/\v.aM=false/\k v):=rfl
def CI:Op->Bool
 |.assign _=>true
 |.build _ _=>true
 |.convert _ _ _=>true
 |.call c=>match c.callee with
  |.builtin .append=>false
  |.builtin _=>true
  |_=>false
 |op=>zR op
section
variable (P:Program)(n:Nat)(ops:Array Oper)(s:ag)(K:ag->Prop)(d:Nat)(ty:TypeId)(pos:String)(after:Array Edge)(r:List Oper)(g:Nat×Bool)
def pT(op:Op)(h:CI op=true):bN P n ops (⟨some d,op,ty,pos,after,some g⟩::r) s K=e9 (c1 ops s g) (fun e=>hd e (bb P s op) (fun v=>d<n/\bN P n ops r (put s d (.cond e v)) K)):=by
 simp only[bN,ft,e9];cases c1 ops s g with
 |none=>rfl
 |some e=>
  cases op<;>first|rfl|(simp[CI,zR]at h)|skip
  rename_i c;obtain⟨callee,args,ts⟩:=c;cases callee with
  |builtin b=>cases b<;>first|rfl|(simp[CI]at h)
  |_=>cases h
@[simp]def zxj(x:Operand):bN P n ops (⟨some d,.move x,ty,pos,after,some g⟩::r) s K=e9 (c1 ops s g) (fun e=>hd e (bb P s (.move x)) (fun v=>d<n/\bN P n ops r (put s d (.cond e v)) K)):=pT P n ops s K d ty pos after r g _ (by rfl)
@[simp]def zxk(c x y:Operand):bN P n ops (⟨some d,.pick c x y,ty,pos,after,some g⟩::r) s K=e9 (c1 ops s g) (fun e=>hd e (bb P s (.pick c x y)) (fun v=>d<n/\bN P n ops r (put s d (.cond e v)) K)):=pT P n ops s K d ty pos after r g _ (by rfl)
@[simp]def zxl(t:TypeId)(x:Operand):bN P n ops (⟨some d,.load t x,ty,pos,after,some g⟩::r) s K=e9 (c1 ops s g) (fun e=>hd e (bb P s (.load t x)) (fun v=>d<n/\bN P n ops r (put s d (.cond e v)) K)):=pT P n ops s K d ty pos after r g _ (by rfl)
@[simp]def zxm(x:Operand):bN P n ops (⟨some d,.nilCheck x,ty,pos,after,some g⟩::r) s K=e9 (c1 ops s g) (fun e=>hd e (bb P s (.nilCheck x)) (fun v=>d<n/\bN P n ops r (put s d (.cond e v)) K)):=pT P n ops s K d ty pos after r g _ (by rfl)
@[simp]def zxn(o:BinOp)(t t':TypeId)(x y:Operand):bN P n ops (⟨some d,.binOp o t x y t',ty,pos,after,some g⟩::r) s K=e9 (c1 ops s g) (fun e=>hd e (bb P s (.binOp o t x y t')) (fun v=>d<n/\bN P n ops r (put s d (.cond e v)) K)):=pT P n ops s K d ty pos after r g _ (by rfl)
@[simp]def zxo(o:UnOp)(t:TypeId)(x:Operand):bN P n ops (⟨some d,.unOp o t x,ty,pos,after,some g⟩::r) s K=e9 (c1 ops s g) (fun e=>hd e (bb P s (.unOp o t x)) (fun v=>d<n/\bN P n ops r (put s d (.cond e v)) K)):=pT P n ops s K d ty pos after r g _ (by rfl)
@[simp]def zxp(t:TypeId)(x:Operand)(f:Nat):bN P n ops (⟨some d,.fieldAddr t x f,ty,pos,after,some g⟩::r) s K=e9 (c1 ops s g) (fun e=>hd e (bb P s (.fieldAddr t x f)) (fun v=>d<n/\bN P n ops r (put s d (.cond e v)) K)):=pT P n ops s K d ty pos after r g _ (by rfl)
@[simp]def zxq(t:TypeId)(x i:Operand):bN P n ops (⟨some d,.indexAddr t x i,ty,pos,after,some g⟩::r) s K=e9 (c1 ops s g) (fun e=>hd e (bb P s (.indexAddr t x i)) (fun v=>d<n/\bN P n ops r (put s d (.cond e v)) K)):=pT P n ops s K d ty pos after r g _ (by rfl)
@[simp]def zxr(t:TypeId)(x i:Operand):bN P n ops (⟨some d,.index t x i,ty,pos,after,some g⟩::r) s K=e9 (c1 ops s g) (fun e=>hd e (bb P s (.index t x i)) (fun v=>d<n/\bN P n ops r (put s d (.cond e v)) K)):=pT P n ops s K d ty pos after r g _ (by rfl)
@[simp]def zxs(fn:Fn)(fst cap:Array Operand):bN P n ops (⟨some d,.makeFunc fn fst cap,ty,pos,after,some g⟩::r) s K=e9 (c1 ops s g) (fun e=>hd e (bb P s (.makeFunc fn fst cap)) (fun v=>d<n/\bN P n ops r (put s d (.cond e v)) K)):=pT P n ops s K d ty pos after r g _ (by rfl)
@[simp]def zxt(t:TypeId)(parts:Array (Nat×Operand)):bN P n ops (⟨some d,.build t parts,ty,pos,after,some g⟩::r) s K=e9 (c1 ops s g) (fun e=>hd e (bb P s (.build t parts)) (fun v=>d<n/\bN P n ops r (put s d (.cond e v)) K)):=pT P n ops s K d ty pos after r g _ (by rfl)
@[simp]def zxu(t:TypeId)(x:Operand)(aK ai mx:Option Operand):bN P n ops (⟨some d,.slice t x aK ai mx,ty,pos,after,some g⟩::r) s K=e9 (c1 ops s g) (fun e=>hd e (bb P s (.slice t x aK ai mx)) (fun v=>d<n/\bN P n ops r (put s d (.cond e v)) K)):=pT P n ops s K d ty pos after r g _ (by rfl)
@[simp]def zxv(args:Array Operand)(ts:Array TypeId):bN P n ops (⟨some d,.call ⟨.builtin .len,args,ts⟩,ty,pos,after,some g⟩::r) s K=e9 (c1 ops s g) (fun e=>hd e (bb P s (.call ⟨.builtin .len,args,ts⟩)) (fun v=>d<n/\bN P n ops r (put s d (.cond e v)) K)):=pT P n ops s K d ty pos after r g _ (by rfl)
@[simp]def zxw(f:Operand)(args:List Operand)(ts:Array TypeId):bN P n ops (⟨some d,.call ⟨.value f,⟨args⟩,ts⟩,ty,pos,after,some g⟩::r) s K=e9 (c1 ops s g) (fun e=>CC P e (callee s f args) (fun dE=>d<n/\bN P n ops r (put s d (.cond e dE.cP)) K)
  (mf e (iA P s (fW s f args) (fun xs dE outs=>d<n/\dE.cP.aM=false/\bN P n ops r (put (e6 s xs outs) d (.cond true dE.cP)) K)) (d<n/\bN P n ops r (put s d (.cond false (.x (.one (.bool false))))) K))):=by
 simp only[bN,ft,e9,Nj];cases c1 ops s g with
 |none=>rfl
 |some e=>
  simp only[CC,tT,tS,mf];rcases ao:callee s f args with⟨p,o⟩
  cases o<;>cases e<;>simp
def zW(b:Bool):Bool:=b
@[simp]def zxx(b:Bool):zW b=b:=rfl
def sC(b:Bool)(x y:Prop):Prop:=match b with
 |true=>x
 |false=>y
end
@[congr]def zxy{b bg:Bool}{x y:Prop}(h:b=bg):sC b x y=sC bg x y:=by rw[h]
@[simp]def zxz(x y:Prop):sC true x y=x:=rfl
@[simp]def zxA(x y:Prop):sC false x y=y:=rfl
section
variable (P:Program)(n:Nat)(ops:Array Oper)(s:ag)(K:ag->Prop)(d:Nat)(ty:TypeId)(pos:String)(after:Array Edge)(r:List Oper)(g:Nat×Bool)
@[simp ↓]def zxB(m:Bool):gU P n m ops [] s K=K s:=rfl
@[simp]def zxC(o:Oper):gU P n false ops (o::r) s K=sC (zW (eX ops o.op)) (dn P n ops o (dh s) (fun s'=>gU P n false ops r (dh s') K)) (sC (zW (kX o)) (zt s o.op/\bN P n ops [o] (dh s) (fun s'=>gU P n false ops r (dh s') K)) (bN P n ops [o] (dh s) (fun s'=>gU P n false ops r (dh s') K))):=by
 show (match eX ops o.op with|true=>_|false=>_)=_;unfold sC;cases eX ops o.op with
 |true=>apply propext;exact⟨fun h=>h.2,fun h=>⟨fun h=>(by cases h),h⟩⟩
 |false=>dsimp only;cases kX o<;>rfl
@[simp]def zxD(o:Oper):gU P n true ops (o::r) s K=sC (zW (eX ops o.op)) (sC (zW (ib o)) (xA P n o (dh s) (fun s'=>gU P n true ops r (dh s') K)) (gf s o.op/\dn P n ops o (dh s) (fun s'=>gU P n true ops r (dh s') K)))
  (sC (zW (kX o)) (zt s o.op/\bN P n ops [o] (dh s) (fun s'=>gU P n true ops r (dh s') K)) (bN P n ops [o] (dh s) (fun s'=>gU P n true ops r (dh s') K))):=by
 show (match eX ops o.op with|true=>_|false=>_)=_;unfold sC;cases eX ops o.op with
 |true=>
  dsimp only;cases ao:ib o with
  |true=>rfl
  |false=>apply propext;exact⟨fun h=>⟨h.1 rfl,h.2⟩,fun h=>⟨fun _=>h.1,h.2⟩⟩
 |false=>dsimp only;cases kX o<;>rfl
@[simp]def zxE(t:TypeId)(a x:Operand):zt s (.store t a x)=(dc s [x]=[]/\Fq s (aG s a).2=true):=rfl
def CJ(q:Prop×ad):Prop:=match q with
 |(_,.elem _)=>True
 |_=>False
def zeR(q:Prop×ad):(∃cs,q.2=.elem cs)=CJ q:=by obtain⟨p,q⟩:=q;apply propext;cases q<;>simp[CJ]
@[simp]def zxF(t:TypeId)(x:Operand):gf s (.load t x)=CJ (aG s x):=zeR _
def zX(op:Op)(h:mZ op=true):gf s op=True:=by simp only[eq_iff_iff,iff_true];exact TV h
@[simp]def zxG(x:Operand):gf s (.move x)=True:=zX s _ rfl
@[simp]def zxH(x:Operand):gf s (.assign x)=True:=zX s _ rfl
@[simp]def zxI(c x y:Operand):gf s (.pick c x y)=True:=zX s _ rfl
@[simp]def zxJ(x:Operand):gf s (.nilCheck x)=True:=zX s _ rfl
@[simp]def zxK(o:BinOp)(t t':TypeId)(x y:Operand):gf s (.binOp o t x y t')=True:=zX s _ rfl
def zeS(v:ad):Bool:=match v with
 |.x (.one (.int _ _))=>true
 |_=>false
@[simp]def zxL(t:TypeId)(x:Operand)(f:Nat):gf s (.fieldAddr t x f)=True:=zX s _ rfl
@[simp]def zxM(t:TypeId)(parts:Array (Nat×Operand)):gf s (.build t parts)=True:=zX s _ rfl
def OD:Op->Bool
 |.assign _=>true
 |.build _ _=>true
 |.call c=>match c.callee with
  |.builtin .append=>false
  |.builtin _=>true
  |_=>false
 |op=>zR op
def mg(op:Op)(h:OD op=true):dn P n ops ⟨some d,op,ty,pos,after,none⟩ s K=(d<n/\(s d).aM=false/\eL (bb P s op) (fun v=>K (put s d v))):=by
 cases op<;>first|rfl|(simp[OD,zR]at h)|skip
 rename_i c;obtain⟨callee,args,ts⟩:=c;cases callee with
 |builtin b=>cases b<;>first|rfl|(simp[OD]at h)
 |_=>cases h
@[simp]def zxN(x:Operand):dn P n ops ⟨some d,.move x,ty,pos,after,none⟩ s K=(d<n/\(s d).aM=false/\eL (bb P s (.move x)) (fun v=>K (put s d v))):=mg P n ops s K d ty pos after _ (by rfl)
@[simp]def zxO(c x y:Operand):dn P n ops ⟨some d,.pick c x y,ty,pos,after,none⟩ s K=(d<n/\(s d).aM=false/\eL (bb P s (.pick c x y)) (fun v=>K (put s d v))):=mg P n ops s K d ty pos after _ (by rfl)
@[simp]def zxP(t:TypeId)(x:Operand):dn P n ops ⟨some d,.load t x,ty,pos,after,none⟩ s K=(d<n/\(s d).aM=false/\eL (bb P s (.load t x)) (fun v=>K (put s d v))):=mg P n ops s K d ty pos after _ (by rfl)
@[simp]def zxQ(x:Operand):dn P n ops ⟨some d,.nilCheck x,ty,pos,after,none⟩ s K=(d<n/\(s d).aM=false/\eL (bb P s (.nilCheck x)) (fun v=>K (put s d v))):=mg P n ops s K d ty pos after _ (by rfl)
@[simp]def zxR(o:BinOp)(t t':TypeId)(x y:Operand):dn P n ops ⟨some d,.binOp o t x y t',ty,pos,after,none⟩ s K=(d<n/\(s d).aM=false/\eL (bb P s (.binOp o t x y t')) (fun v=>K (put s d v))):=mg P n ops s K d ty pos after _ (by rfl)
@[simp]def zxS(o:UnOp)(t:TypeId)(x:Operand):dn P n ops ⟨some d,.unOp o t x,ty,pos,after,none⟩ s K=(d<n/\(s d).aM=false/\eL (bb P s (.unOp o t x)) (fun v=>K (put s d v))):=mg P n ops s K d ty pos after _ (by rfl)
@[simp]def zxT(t t':TypeId)(x:Operand):dn P n ops ⟨some d,.convert t t' x,ty,pos,after,none⟩ s K=(d<n/\(s d).aM=false/\mf (h4 P t') (eL (nQ P t t' (aG s x)) (fun v=>K (put s d v))) (eL (mF P s t t' (aG s x)) (fun v=>K (put s d v)))):=by simp only[dn];unfold mf;cases h4 P t'<;>rfl
@[simp]def zxU(t:TypeId)(x:Operand)(f:Nat):dn P n ops ⟨some d,.fieldAddr t x f,ty,pos,after,none⟩ s K=(d<n/\(s d).aM=false/\eL (bb P s (.fieldAddr t x f)) (fun v=>K (put s d v))):=mg P n ops s K d ty pos after _ (by rfl)
@[simp]def zxV(t:TypeId)(x i:Operand):dn P n ops ⟨some d,.indexAddr t x i,ty,pos,after,none⟩ s K=(d<n/\(s d).aM=false/\eL (bb P s (.indexAddr t x i)) (fun v=>K (put s d v))):=mg P n ops s K d ty pos after _ (by rfl)
@[simp]def zxW(t:TypeId)(x i:Operand):dn P n ops ⟨some d,.index t x i,ty,pos,after,none⟩ s K=(d<n/\(s d).aM=false/\eL (bb P s (.index t x i)) (fun v=>K (put s d v))):=mg P n ops s K d ty pos after _ (by rfl)
@[simp]def zxX(x:Operand)(f:Nat):dn P n ops ⟨some d,.extract x f,ty,pos,after,none⟩ s K=(d<n/\(s d).aM=false/\eL (bb P s (.extract x f)) (fun v=>K (put s d v))):=mg P n ops s K d ty pos after _ (by rfl)
@[simp]def zxY(fn:Fn)(fst cap:Array Operand):dn P n ops ⟨some d,.makeFunc fn fst cap,ty,pos,after,none⟩ s K=(d<n/\(s d).aM=false/\eL (bb P s (.makeFunc fn fst cap)) (fun v=>K (put s d v))):=mg P n ops s K d ty pos after _ (by rfl)
@[simp]def zxZ(t:TypeId)(x k:Operand)(ok:Bool):dn P n ops ⟨some d,.lookup t x k ok,ty,pos,after,none⟩ s K=(d<n/\(s d).aM=false/\eL (bb P s (.lookup t x k ok)) (fun v=>K (put s d v))):=mg P n ops s K d ty pos after _ (by rfl)
@[simp]def zya(t:TypeId)(parts:Array (Nat×Operand)):dn P n ops ⟨some d,.build t parts,ty,pos,after,none⟩ s K=(d<n/\(s d).aM=false/\eL (bb P s (.build t parts)) (fun v=>K (put s d v))):=mg P n ops s K d ty pos after _ (by rfl)
@[simp]def zyb(x:Operand):dn P n ops ⟨some d,.assign x,ty,pos,after,none⟩ s K=(d<n/\(s d).aM=false/\eL (bb P s (.assign x)) (fun v=>K (put s d v))):=mg P n ops s K d ty pos after _ (by rfl)
@[simp]def zyc(t:TypeId)(x:Operand)(aK ai mx:Option Operand):dn P n ops ⟨some d,.slice t x aK ai mx,ty,pos,after,none⟩ s K=(d<n/\(s d).aM=false/\eL (bb P s (.slice t x aK ai mx)) (fun v=>K (put s d v))):=mg P n ops s K d ty pos after _ (by rfl)
@[simp]def zyd(args:Array Operand)(ts:Array TypeId):dn P n ops ⟨some d,.call ⟨.builtin .len,args,ts⟩,ty,pos,after,none⟩ s K=(d<n/\(s d).aM=false/\eL (bb P s (.call ⟨.builtin .len,args,ts⟩)) (fun v=>K (put s d v))):=mg P n ops s K d ty pos after _ (by rfl)
@[simp]def zye(args:Array Operand)(ts:Array TypeId):dn P n ops ⟨some d,.call ⟨.builtin .min,args,ts⟩,ty,pos,after,none⟩ s K=(d<n/\(s d).aM=false/\eL (bb P s (.call ⟨.builtin .min,args,ts⟩)) (fun v=>K (put s d v))):=mg P n ops s K d ty pos after _ (by rfl)
@[simp]def zyf(t:TypeId):dn P n ops ⟨some d,.alloc t,ty,pos,after,none⟩ s K=(d<n/\(s d).aM=false/\e9 (zeroOf P t) (fun cs=>K (put s d (.box cs)))):=by simp only[dn,e9];cases zeroOf P t<;>rfl
@[simp]def zyg(t:TypeId)(len:Nat)(parts:Array (Nat×Operand)):dn P n ops ⟨some d,.buildSlice t len parts,ty,pos,after,none⟩ s K=(d<n/\(s d).aM=false/\eL (jS P (aG s) t len parts.toList) (fun v=>K (put s d v))):=rfl
@[simp]def zyh(f:Operand)(args:List Operand)(ts:Array TypeId):dn P n ops ⟨some d,.call ⟨.value f,⟨args⟩,ts⟩,ty,pos,after,none⟩ s K=(d<n/\(s d).aM=false/\CB P (callee s f args) (fun dE=>(dE.flat ||(dc s args).isEmpty)=true/\K (put s d dE.cP))):=by rw[<-zeM];rfl
def qT(op:Op)(h:CI op=true):dn P n ops ⟨some d,op,ty,pos,after,some g⟩ s K=(d<n/\(s d).aM=false/\e9 (c1 ops s g) (fun e=>hd e (bb P s op) (fun v=>K (put s d (.cond e v))))):=by
 simp only[dn,e9];cases c1 ops s g with
 |none=>rfl
 |some e=>
  cases op<;>first|rfl|(simp[CI,zR]at h)|skip
  rename_i c;obtain⟨callee,args,ts⟩:=c;cases callee with
  |builtin b=>cases b<;>first|rfl|(simp[CI]at h)
  |_=>cases h
def CK(e:Bool)(p:Prop×ad)(K:ad->Prop):Prop:=match e with
 |true=>p.1/\K p.2
 |false=>K (.cond false (.x (.one (.bool false))))
@[congr]def zyi{e bV:Bool}{p i6:Prop×ad}{K:ad->Prop}(h:e=bV)(ak:p=i6):CK e p K=CK bV i6 K:=by rw[h,ak]
@[simp]def zyj(p:Prop)(v:ad)(K:ad->Prop):CK true (p,v) K=(p/\K v):=rfl
@[simp]def zyk(p:Prop×ad)(K:ad->Prop):CK false p K=K (.cond false (.x (.one (.bool false)))):=rfl
@[simp]def zyl(t:TypeId)(len:Nat)(parts:Array (Nat×Operand)):dn P n ops ⟨some d,.buildSlice t len parts,ty,pos,after,some g⟩ s K=(d<n/\(s d).aM=false/\e9 (c1 ops s g) (fun e=>CK e (jS P (aG s) t len parts.toList) (fun v=>K (put s d v)))):=by
 simp only[dn,e9,CK];cases c1 ops s g with
 |none=>rfl
 |some e=>cases e<;>rfl
@[simp]def zym(x:Operand):dn P n ops ⟨some d,.move x,ty,pos,after,some g⟩ s K=(d<n/\(s d).aM=false/\e9 (c1 ops s g) (fun e=>hd e (bb P s (.move x)) (fun v=>K (put s d (.cond e v))))):=qT P n ops s K d ty pos after g _ (by rfl)
@[simp]def zyn(c x y:Operand):dn P n ops ⟨some d,.pick c x y,ty,pos,after,some g⟩ s K=(d<n/\(s d).aM=false/\e9 (c1 ops s g) (fun e=>hd e (bb P s (.pick c x y)) (fun v=>K (put s d (.cond e v))))):=qT P n ops s K d ty pos after g _ (by rfl)
@[simp]def zyo(t:TypeId)(x:Operand):dn P n ops ⟨some d,.load t x,ty,pos,after,some g⟩ s K=(d<n/\(s d).aM=false/\e9 (c1 ops s g) (fun e=>hd e (bb P s (.load t x)) (fun v=>K (put s d (.cond e v))))):=qT P n ops s K d ty pos after g _ (by rfl)
@[simp]def zyp(x:Operand):dn P n ops ⟨some d,.nilCheck x,ty,pos,after,some g⟩ s K=(d<n/\(s d).aM=false/\e9 (c1 ops s g) (fun e=>hd e (bb P s (.nilCheck x)) (fun v=>K (put s d (.cond e v))))):=qT P n ops s K d ty pos after g _ (by rfl)
@[simp]def zyq(o:BinOp)(t t':TypeId)(x y:Operand):dn P n ops ⟨some d,.binOp o t x y t',ty,pos,after,some g⟩ s K=(d<n/\(s d).aM=false/\e9 (c1 ops s g) (fun e=>hd e (bb P s (.binOp o t x y t')) (fun v=>K (put s d (.cond e v))))):=qT P n ops s K d ty pos after g _ (by rfl)
@[simp]def zyr(o:UnOp)(t:TypeId)(x:Operand):dn P n ops ⟨some d,.unOp o t x,ty,pos,after,some g⟩ s K=(d<n/\(s d).aM=false/\e9 (c1 ops s g) (fun e=>hd e (bb P s (.unOp o t x)) (fun v=>K (put s d (.cond e v))))):=qT P n ops s K d ty pos after g _ (by rfl)
@[simp]def zys(t:TypeId)(x:Operand)(f:Nat):dn P n ops ⟨some d,.fieldAddr t x f,ty,pos,after,some g⟩ s K=(d<n/\(s d).aM=false/\e9 (c1 ops s g) (fun e=>hd e (bb P s (.fieldAddr t x f)) (fun v=>K (put s d (.cond e v))))):=qT P n ops s K d ty pos after g _ (by rfl)
@[simp]def zyt(t:TypeId)(x i:Operand):dn P n ops ⟨some d,.indexAddr t x i,ty,pos,after,some g⟩ s K=(d<n/\(s d).aM=false/\e9 (c1 ops s g) (fun e=>hd e (bb P s (.indexAddr t x i)) (fun v=>K (put s d (.cond e v))))):=qT P n ops s K d ty pos after g _ (by rfl)
@[simp]def zyu(t:TypeId)(x i:Operand):dn P n ops ⟨some d,.index t x i,ty,pos,after,some g⟩ s K=(d<n/\(s d).aM=false/\e9 (c1 ops s g) (fun e=>hd e (bb P s (.index t x i)) (fun v=>K (put s d (.cond e v))))):=qT P n ops s K d ty pos after g _ (by rfl)
@[simp]def zyv(fn:Fn)(fst cap:Array Operand):dn P n ops ⟨some d,.makeFunc fn fst cap,ty,pos,after,some g⟩ s K=(d<n/\(s d).aM=false/\e9 (c1 ops s g) (fun e=>hd e (bb P s (.makeFunc fn fst cap)) (fun v=>K (put s d (.cond e v))))):=qT P n ops s K d ty pos after g _ (by rfl)
@[simp]def zyw(t:TypeId)(x:Operand)(aK ai mx:Option Operand):dn P n ops ⟨some d,.slice t x aK ai mx,ty,pos,after,some g⟩ s K=(d<n/\(s d).aM=false/\e9 (c1 ops s g) (fun e=>hd e (bb P s (.slice t x aK ai mx)) (fun v=>K (put s d (.cond e v))))):=qT P n ops s K d ty pos after g _ (by rfl)
@[simp]def zyx(args:Array Operand)(ts:Array TypeId):dn P n ops ⟨some d,.call ⟨.builtin .len,args,ts⟩,ty,pos,after,some g⟩ s K=(d<n/\(s d).aM=false/\e9 (c1 ops s g) (fun e=>hd e (bb P s (.call ⟨.builtin .len,args,ts⟩)) (fun v=>K (put s d (.cond e v))))):=qT P n ops s K d ty pos after g _ (by rfl)
@[simp]def zyy(f:Operand)(args:List Operand)(ts:Array TypeId):dn P n ops ⟨some d,.call ⟨.value f,⟨args⟩,ts⟩,ty,pos,after,some g⟩ s K=(d<n/\(s d).aM=false/\e9 (c1 ops s g) (fun e=>pA P e (callee s f args) (fun dE=>K (put s d (.cond e dE.cP))))):=by simp only[dn,e9];cases c1 ops s g<;>rfl
def F1(v:ad)(b:Bool):Option Bool:=match v with
 |.x (.one (.bool c))=>some (c==b)
 |.cond e (.x (.one (.bool c)))=>some (e&&(c==b))
 |_=>none
@[simp]def zyz(c b:Bool):F1 (.x (.one (.bool c))) b=some (c==b):=rfl
@[simp]def zyA(e c b:Bool):F1 (.cond e (.x (.one (.bool c)))) b=some (e&&(c==b)):=rfl
def OE(s:ag)(d:Option Nat)(b:Bool):Option Bool:=match d with
 |some d=>F1 (s d) b
 |none=>none
@[simp]def zyB(d:Nat)(b:Bool):OE s (some d) b=F1 (s d) b:=rfl
@[simp]def zyC(l:List Oper)(j:Nat)(b:Bool):c1 ⟨l⟩ s (j,b)=OE s ((l[j]?).bind (·.dst)) b:=by
 simp only[c1,OE,F1];have:(⟨l⟩:Array Oper)[j]?=l[j]?:=by simp
 rw[this];cases l[j]?.bind fun x=>x.dst<;>rfl
end
def JQ(off:Nat):ad->Option (List af)
 |.box cs=>some (cs.drop off)
 |.cf _ cs=>some (cs.drop off)
 |_=>none
@[simp]def zyD(off:Nat)(cs:List af):JQ off (.box cs)=some (cs.drop off):=rfl
@[simp]def zyE(off b:Nat)(cs:List af):JQ off (.cf b cs)=some (cs.drop off):=rfl
def OF(k off:Nat):ad->Option (List af)
 |.own _ _ xs=>some ((xs.getD k []).drop off)
 |_=>none
@[simp]def zyF(k off e z:Nat)(xs:List (List af)):OF k off (.own e z xs)=some ((xs.getD k []).drop off):=rfl
@[simp]def zyG(s:ag)(i off:Nat):mem s (.ptr i off)=JQ off (s i):=by simp only[mem,JQ];cases s i<;>rfl
@[simp]def zyH(s:ag)(i k off:Nat):mem s (.dX i k off)=OF k off (s i):=by simp only[mem,OF];cases s i<;>rfl
@[simp]def zyI(s:ag)(cs:List af):mem s (.elem cs)=some cs:=rfl
def JR(p:Prop):ad->Prop×Option az
 |.own _ size xs=>(p,some (.one (.list size xs)))
 |_=>(False,none)
@[simp]def zyJ(p:Prop)(e z:Nat)(xs:List (List af)):JR p (.own e z xs)=(p,some (.one (.list z xs))):=rfl
def Va(p:Prop)(aK len:Nat):ad->Prop×Option az
 |.own _ size xs=>(p,some (.one (.list size ((xs.drop aK).take len))))
 |_=>(False,none)
def JS(p:Prop)(f:FuncId):Option (List af)->Prop×Option az
 |some cs=>(p,some (.one (.ht f cs)))
 |none=>(False,none)
@[simp]def zyK(p:Prop)(f:FuncId)(cs:List af):JS p f (some cs)=(p,some (.one (.ht f cs))):=rfl
def Vb(off:Nat):ad->Option af
 |.box cs=>bif decide (off<1000000)then some (.ref (cs.drop off))else none
 |_=>none
@[simp]def zyL(off:Nat)(cs:List af):Vb off (.box cs)=bif decide (off<1000000)then some (.ref (cs.drop off))else none:=rfl
def Vc(a:Option af)(b:Option (List af)):Option (List af):=match a,b with
 |some x,some xs=>some (x::xs)
 |_,_=>none
@[simp]def zyM(x:af)(xs:List af):Vc (some x) (some xs)=some (x::xs):=rfl
@[simp]def zyN(s:ag):mN s []=some []:=rfl
@[simp]def zyO(s:ag)(i off:Nat)(r:List (af⊕(Nat×Nat))):mN s (.inr (i,off)::r)=Vc (Vb off (s i)) (mN s r):=rfl
def sD(s:ag):Prop×ad->Prop×Option az
 |(p,.x bK)=>(p,some bK)
 |(p,.alias i)=>JR p (s i)
 |(p,.view i aK len _)=>Va p aK len (s i)
 |(p,.elem cs)=>(p,some (.one (.ref cs)))
 |(p,.cr f caps)=>JS p f (mN s caps)
 |_=>(False,none)
@[congr]def zyP{s:ag}{q dQ:Prop×ad}(h:q=dQ):sD s q=sD s dQ:=by rw[h]
@[simp]def zyQ(s:ag)(p:Prop)(v:az):sD s (p,.x v)=(p,some v):=rfl
@[simp]def zyR(s:ag)(p:Prop)(i:Nat):sD s (p,.alias i)=JR p (s i):=rfl
@[simp]def zyS(s:ag)(p:Prop)(i o:Nat):sD s (p,.ptr i o)=(False,none):=rfl
@[simp]def zyT(s:ag)(p:Prop)(f:FuncId)(caps:List (af⊕(Nat×Nat))):sD s (p,.cr f caps)=JS p f (mN s caps):=rfl
@[simp]def zyU(s:ag)(p:Prop)(cs:List af):sD s (p,.elem cs)=(p,some (.one (.ref cs))):=rfl
@[simp]def zeT(s:ag)(x:Operand):l1 s x=sD s (aG s x):=by unfold l1 sD JR Va JS;generalize aG s x=q;obtain⟨p,q⟩:=q;cases q<;>rfl
def JT(a:Prop×Option az)(b:Prop×Option (List az)):Prop×Option (List az):=match a,b with
 |(p,some v),(q,some vs)=>(p/\q,some (v::vs))
 |_,_=>(False,none)
def JU:ad->af
 |.own _ z xs=>.list z xs
 |_=>.any
@[simp]def zyV(e z:Nat)(xs:List (List af)):JU (.own e z xs)=.list z xs:=rfl
def JV(s:ag)(i o:Nat):ad->af
 |.link bB cv d=>bif bB==i&&cv==o then JU (s d)else .any
 |_=>.any
@[congr]def zyW{s:ag}{i o:Nat}{v cz:ad}(h:v=cz):JV s i o v=JV s i o cz:=by rw[h]
@[simp]def zyX(s:ag)(i o bB cv d:Nat):JV s i o (.link bB cv d)=bif bB==i&&cv==o then JU (s d)else .any:=rfl
@[simp]def zyY(s:ag)(i o:Nat):pz s i o .any=JV s i o (s (b0 i o)):=by
 unfold pz;dsimp only;cases s (b0 i o)with
 |link bB cv d=>
  show (match bB==i&&cv==o with|true=>_|false=>_)=bif bB==i&&cv==o then JU (s d)else .any
  cases (bB==i&&cv==o)
  ·rfl
  ·dsimp only[cond_true];cases s d<;>rfl
 |_=>rfl
@[simp]def zyZ(s:ag)(i o:Nat)(k:IntKind)(n:Int):pz s i o (.int k n)=.int k n:=rfl
@[simp]def zza(s:ag)(i o:Nat)(l:List UInt8):pz s i o (.str l)=.str l:=rfl
@[simp]def zzb(s:ag)(i o:Nat):pz s i o .nil=.nil:=rfl
@[simp]def zzc(s:ag)(i o n:Nat)(l:List (List af)):pz s i o (.list n l)=.list n l:=rfl
@[simp]def zzd(s:ag)(i o:Nat):r4 s i o []=[]:=rfl
@[simp]def zze(s:ag)(i o:Nat)(c:af)(r:List af):r4 s i o (c::r)=pz s i o c::r4 s i (o+1) r:=rfl
def F2(s:ag)(p:Prop)(i off:Nat):ad->Prop×Option az
 |.box cs=>(p,some (.one (.ref (r4 s i off (cs.drop off)))))
 |_=>(False,none)
@[congr]def zzf{s:ag}{p:Prop}{i off:Nat}{v cz:ad}(h:v=cz):F2 s p i off v=F2 s p i off cz:=by rw[h]
@[simp]def zzg(s:ag)(p:Prop)(i off:Nat)(cs:List af):F2 s p i off (.box cs)=(p,some (.one (.ref (r4 s i off (cs.drop off))))):=rfl
def CL(s:ag):Prop×ad->Prop×Option az
 |(p,.ptr i off)=>F2 s p i off (s i)
 |q=>sD s q
@[congr]def zzh{s:ag}{q dQ:Prop×ad}(h:q=dQ):CL s q=CL s dQ:=by rw[h]
@[simp]def zzi(s:ag)(p:Prop)(i off:Nat):CL s (p,.ptr i off)=F2 s p i off (s i):=rfl
@[simp]def zzj(s:ag)(p:Prop)(v:az):CL s (p,.x v)=sD s (p,.x v):=rfl
@[simp]def zzk(s:ag)(x:Operand):BO s x=CL s (aG s x):=by
 unfold BO CL;rcases aj:aG s x with⟨p,v⟩
 cases v<;>simp only[zeT,aj]<;>rfl
def Vd(a:Prop×Option az)(b:Prop×Option (List az)):Prop×Option (List az):=match a,b with
 |(p,some v),(q,some vs)=>(p/\q,some (v::vs))
 |_,_=>(False,none)
@[simp]def zzl(p q:Prop)(v:az)(vs:List az):Vd (p,some v) (q,some vs)=(p/\q,some (v::vs)):=rfl
@[simp]def zzm(s:ag):qE s []=(True,some []):=rfl
@[simp]def zzn(s:ag)(x:Operand)(r:List Operand):qE s (x::r)=Vd (BO s x) (qE s r):=rfl
@[simp]def zzo(s:ag)(i off d e z:Nat)(xs:List (List af))(cs:List af):FN s i off d (.box cs) (.own e z xs)=fh (unlink (freeze s d) i off 1) i (.box (cs.set off (.list z xs))):=rfl
def F3(s:ag)(i off:Nat):ad->ag
 |.link bB o d=>bif bB==i&&o==off then FN s i off d (s i) (s d)else s
 |_=>s
@[congr]def zzp{s:ag}{i off:Nat}{v cz:ad}(h:v=cz):F3 s i off v=F3 s i off cz:=by rw[h]
@[simp]def zzq(s:ag)(i off bB o d:Nat):F3 s i off (.link bB o d)=bif bB==i&&o==off then FN s i off d (s i) (s d)else s:=rfl
@[simp]def zzr(s:ag)(i off:Nat):F3 s i off .dead=s:=rfl
@[simp]def zzs(s:ag)(i off:Nat):ud s i off=F3 s i off (s (b0 i off)):=by
 unfold ud N2;cases s (b0 i off)with
 |link bB o d=>
  show (match bB==i&&o==off with|true=>_|false=>_)=bif bB==i&&o==off then _ else _
  cases (bB==i&&o==off)<;>rfl
 |_=>rfl
@[simp]def zzt(s:ag):me s []=s:=rfl
@[simp]def zzu(s:ag)(i off:Nat)(r:List (Nat×Nat)):me s ((i,off)::r)=me (ud s i off) r:=rfl
@[simp]def zzv(s:ag)(x:Nat×Nat)(l:List (Nat×Nat)):sA s (x::l)=fh s 999999 (.res (x::l)):=rfl
@[simp]def zzw(p q:Prop)(v:az)(vs:List az):JT (p,some v) (q,some vs)=(p/\q,some (v::vs)):=rfl
@[simp]def zzx(p:Prop)(b:Prop×Option (List az)):JT (p,none) b=(False,none):=rfl
def Ve:Prop×Option az->Prop×ad
 |(p,some bK)=>(p,.x bK)
 |_=>(False,.dead)
@[simp]def zzy(p:Prop)(v:az):Ve (p,some v)=(p,.x v):=rfl
@[simp]def zzz(s:ag)(x:Operand):h_ s x=Ve (l1 s x):=rfl
@[simp]def zzA(s:ag):lx s []=(True,some []):=rfl
@[simp]def zzB(s:ag)(x:Operand)(r:List Operand):lx s (x::r)=JT (l1 s x) (lx s r):=rfl
def Vf:Prop×ad->Prop×Option az
 |(p,.x bK)=>(p,some bK)
 |_=>(False,none)
@[simp]def zzC(p:Prop)(v:az):Vf (p,.x v)=(p,some v):=rfl
@[simp]def zzD(P:Program)(s:ag)(t:Nat):Cu P s (.tmp t)=l1 s (.tmp t):=rfl
@[simp]def zzE(P:Program)(s:ag)(t:Nat)(ty:TypeId):Cu P s (.cell t ty)=Vf (js (tk P ty) (ea P ty) (aG s (.tmp t)).1 (mem s (aG s (.tmp t)).2)):=rfl
@[simp]def zzF(P:Program)(s:ag):oX P s []=(True,some []):=rfl
@[simp]def zzG(P:Program)(s:ag)(x:ResultVar)(r:List ResultVar):oX P s (x::r)=JT (Cu P s x) (oX P s r):=rfl
def JW(p q:Prop)(size j:Nat)(n:Int):ad->Prop×ad
 |.own _ z xs=>(p/\q/\z=size/\0<=n/\n<xs.length,.dX j n.toNat 0)
 |_=>(False,.dead)
@[simp]def zzH(p q:Prop)(size j:Nat)(n:Int)(e z:Nat)(xs:List (List af)):JW p q size j n (.own e z xs)=(p/\q/\z=size/\0<=n/\n<xs.length,.dX j n.toNat 0):=rfl
def Vg(k:Option (Nat×Nat))(x i:Prop×ad):Prop×ad:=
 match k,x,i with
 |some (len,size),(p,.ptr j off),(q,.x (.one (.int _ n)))=>(p/\q/\0<=n/\n<len,.ptr j (off+n.toNat*size))
 |some (len,size),(p,.elem cs),(q,.x (.one (.int _ n)))=>(p/\q/\0<=n/\n<len,.elem (cs.drop (n.toNat*size)))
 |_,_,_=>(False,.dead)
@[simp]def zzI(len size j off:Nat)(p q:Prop)(k:IntKind)(n:Int):Vg (some (len,size)) (p,.ptr j off) (q,.x (.one (.int k n)))=(p/\q/\0<=n/\n<len,.ptr j (off+n.toNat*size)):=rfl
def zY(P:Program)(t:TypeId)(s:ag)(k:Option (TypeId×Nat))(x i:Prop×ad):Prop×ad:=
 match k,x,i with
 |some (_,size),(p,.x (.one (.list z xs))),(q,.x (.one (.int _ n)))=>(p/\q/\z=size/\0<=n/\n<xs.length,.elem (xs.getD n.toNat []))
 |some (_,size),(p,.alias j),(q,.x (.one (.int _ n)))=>JW p q size j n (s j)
 |some (_,size),(p,.view j aK len _),(q,.x (.one (.int _ n)))=>(p/\q/\(s j).size=size/\0<=n/\n<len,.dX j (aK+n.toNat) 0)
 |_,_,_=>yO P t x i
@[congr]def zzJ{P:Program}{u:TypeId}{s:ag}{k bu:Option (TypeId×Nat)}{x bH i bB:Prop×ad}(am:k=bu)(aj:x=bH)(ai:i=bB):zY P u s k x i=zY P u s bu bH bB:=by rw[am,aj,ai]
section
variable (P:Program)(u:TypeId)(s:ag)
@[simp]def zzK(t:TypeId)(size z:Nat)(p q:Prop)(xs:List (List af))(k:IntKind)(n:Int):zY P u s (some (t,size)) (p,.x (.one (.list z xs))) (q,.x (.one (.int k n)))=(p/\q/\z=size/\0<=n/\n<xs.length,.elem (xs.getD n.toNat [])):=rfl
@[simp]def zzL(t:TypeId)(size j:Nat)(p q:Prop)(k:IntKind)(n:Int):zY P u s (some (t,size)) (p,.alias j) (q,.x (.one (.int k n)))=JW p q size j n (s j):=rfl
@[simp]def zzM(x i:Prop×ad):zY P u s none x i=Vg (Bs P u) x i:=rfl
end
@[simp]def zzN(P:Program)(s:ag)(t:TypeId)(x i:Prop×ad):kc P s t x i=zY P t s (fC P t) x i:=by unfold kc zY JW;rfl
def OG(p q dQ:Prop):ad->Prop×ad
 |.own _ _ xs=>(p/\q,.x (.one (.int .i64 xs.length)))
 |.mp _ _ es=>(p/\dQ,.x (.one (.int .i64 es.length)))
 |_=>(False,.dead)
@[simp]def zzO(p q dQ:Prop)(e z:Nat)(xs:List (List af)):OG p q dQ (.own e z xs)=(p/\q,.x (.one (.int .i64 xs.length))):=rfl
section
variable (P:Program)(s:ag)(t:TypeId)(p:Prop)
@[simp]def zzP(l:List UInt8):lo P s t (p,.x (.one (.str l)))=(p/\hx P t=true,.x (.one (.int .i64 l.length))):=rfl
@[simp]def zzQ:lo P s t (p,.x (.one .nil))=(p/\(fC P t).isSome=true,.x (.one (.int .i64 0))):=rfl
@[simp]def zzR(z:Nat)(xs:List (List af)):lo P s t (p,.x (.one (.list z xs)))=(p/\(fC P t).isSome=true,.x (.one (.int .i64 xs.length))):=rfl
@[simp]def zzS(i:Nat):lo P s t (p,.alias i)=OG p ((fC P t).isSome=true) ((mE P t).isSome=true) (s i):=by simp only[lo,OG];cases s i<;>rfl
end
def JX(k:Option (Nat×bZ))(x:Prop×ad):Prop×ad:=
 match k,x with
 |some (o,_),(p,.ptr i off)=>(p,.ptr i (off+o))
 |some (o,_),(p,.dX i k off)=>(p,.dX i k (off+o))
 |some (o,_),(p,.elem cs)=>(p,.elem (cs.drop o))
 |_,_=>(False,.dead)
@[simp]def zzT(o:Nat)(k:bZ)(p:Prop)(i off:Nat):JX (some (o,k)) (p,.ptr i off)=(p,.ptr i (off+o)):=rfl
@[simp]def zzU(o:Nat)(k:bZ)(p:Prop)(i j off:Nat):JX (some (o,k)) (p,.dX i j off)=(p,.dX i j (off+o)):=rfl
@[simp]def zzV(o:Nat)(k:bZ)(p:Prop)(cs:List af):JX (some (o,k)) (p,.elem cs)=(p,.elem (cs.drop o)):=rfl
@[simp]def zzW(P:Program)(t:TypeId)(f:Nat)(x:Prop×ad):rL P t f x=JX (fieldAt P t f) x:=rfl
def OH(x:Prop×ad):Prop×ad:=match L3 x.2 with
 |true=>x
 |false=>(False,.dead)
@[simp]def zzX(p:Prop)(i o:Nat):OH (p,.ptr i o)=(p,.ptr i o):=rfl
@[simp]def zzY(p:Prop)(cs:List af):OH (p,.elem cs)=(p,.elem cs):=rfl
def Vh:Prop×ad->Prop×Option Int
 |(p,.x (.one (.int _ n)))=>(p,some n)
 |_=>(False,none)
@[simp]def zzZ(p:Prop)(k:IntKind)(n:Int):Vh (p,.x (.one (.int k n)))=(p,some n):=rfl
@[simp]def zAa(s:ag)(m:Int):cN s none m=(True,some m):=rfl
@[simp]def zAb(s:ag)(x:Operand)(m:Int):cN s (some x) m=Vh (aG s x):=rfl
def OI(P:Program)(t:TypeId)(p:Prop)(l:List UInt8)(a b:Prop×Option Int):Prop×ad:=match a,b with
 |(q,some a),(r,some b)=>(p/\q/\r/\hx P t=true/\0<=a/\a<=b/\b<=l.length,.x (.one (.str (cutAt l a b))))
 |_,_=>(False,.dead)
@[simp]def zAc(P:Program)(t:TypeId)(p q r:Prop)(l:List UInt8)(a b:Int):OI P t p l (q,some a) (r,some b)=(p/\q/\r/\hx P t=true/\0<=a/\a<=b/\b<=l.length,.x (.one (.str (cutAt l a b)))):=rfl
@[simp]def zAd(P:Program)(s:ag)(t:TypeId)(p:Prop)(l:List UInt8)(aK ai:Option Operand):ir P s t (p,.x (.one (.str l))) aK ai none=OI P t p l (cN s aK 0) (cN s ai l.length):=by simp only[ir,OI];generalize cN s aK 0=u;generalize cN s ai l.length=v;obtain⟨_,u⟩:=u;obtain⟨_,v⟩:=v;cases u<;>cases v<;>rfl
def OJ(p d:Prop)(z:Nat)(xs:List (List af))(k:Option (TypeId×Nat))(a b c:Prop×Option Int):Prop×ad:=match k,a,b,c with
 |some (_,size),(q,some a),(r,some b),(u,some c)=>(p/\q/\r/\u/\z=size/\0<=a/\a<=b/\b<=c/\c<=xs.length/\d,.x (.one (.list z (cutAt xs a b))))
 |_,_,_,_=>(False,.dead)
@[simp]def zAe(p d q r u:Prop)(t:TypeId)(z size:Nat)(xs:List (List af))(a b c:Int):OJ p d z xs (some (t,size)) (q,some a) (r,some b) (u,some c)=(p/\q/\r/\u/\z=size/\0<=a/\a<=b/\b<=c/\c<=xs.length/\d,.x (.one (.list z (cutAt xs a b)))):=rfl
@[simp]def zAf(P:Program)(s:ag)(t:TypeId)(p:Prop)(z:Nat)(xs:List (List af))(aK ai mx:Option Operand):ir P s t (p,.x (.one (.list z xs))) aK ai mx=OJ p (ai=none->mx=none) z xs (fC P t) (cN s aK 0) (cN s ai xs.length) (cN s mx xs.length):=by simp only[ir,OJ];generalize cN s aK 0=u;generalize cN s ai xs.length=v;generalize cN s mx xs.length=m;generalize fC P t=k;obtain⟨_,u⟩:=u;obtain⟨_,v⟩:=v;obtain⟨_,m⟩:=m;cases u<;>cases v<;>cases m<;>cases k<;>rfl
def JY(p d e:Prop)(i aK len:Nat)(wh:Bool)(a b c:Prop×Option Int):Prop×ad:=match a,b,c with
 |(q,some a),(r,some b),(u,some c)=>(p/\q/\r/\u/\e/\0<=a/\a<=b/\b<=c/\c<=len/\d,.view i (aK+a.toNat) (b.toNat-a.toNat) wh)
 |_,_,_=>(False,.dead)
@[simp]def zAg(p d e q r u:Prop)(i aK len:Nat)(wh:Bool)(a b c:Int):JY p d e i aK len wh (q,some a) (r,some b) (u,some c)=(p/\q/\r/\u/\e/\0<=a/\a<=b/\b<=c/\c<=len/\d,.view i (aK+a.toNat) (b.toNat-a.toNat) wh):=rfl
def JZ(p d:Prop)(i aK len z:Nat)(wh:Bool)(a b c:Prop×Option Int):Option (TypeId×Nat)->Prop×ad
 |some (_,size)=>JY p d (z=size) i aK len wh a b c
 |none=>(False,.dead)
@[simp]def zAh(p d:Prop)(i aK len z:Nat)(wh:Bool)(a b c:Prop×Option Int)(k:TypeId×Nat):JZ p d i aK len z wh a b c (some k)=JY p d (z=k.2) i aK len wh a b c:=rfl
def OK(P:Program)(s:ag)(t:TypeId)(p:Prop)(i:Nat)(aK ai mx:Option Operand):ad->Prop×ad
 |.own _ z xs=>JZ p (ai=none->mx=none) i 0 xs.length z (aK.isNone&&mx.isNone) (cN s aK 0) (cN s ai xs.length) (cN s mx xs.length) (fC P t)
 |_=>(False,.dead)
@[simp]def zAi(P:Program)(s:ag)(t:TypeId)(p:Prop)(i:Nat)(aK ai mx:Option Operand)(e z:Nat)(xs:List (List af)):OK P s t p i aK ai mx (.own e z xs)=JZ p (ai=none->mx=none) i 0 xs.length z (aK.isNone&&mx.isNone) (cN s aK 0) (cN s ai xs.length) (cN s mx xs.length) (fC P t):=rfl
@[simp]def zAj(P:Program)(s:ag)(t:TypeId)(p:Prop)(i:Nat)(aK ai mx:Option Operand):ir P s t (p,.alias i) aK ai mx=OK P s t p i aK ai mx (s i):=by
 simp only[ir,OK];cases s i with
 |own e z xs=>simp only[JZ,JY,f_];generalize cN s aK 0=u;generalize cN s ai xs.length=v;generalize cN s mx xs.length=m;generalize fC P t=k;obtain⟨_,u⟩:=u;obtain⟨_,v⟩:=v;obtain⟨_,m⟩:=m;cases u<;>cases v<;>cases m<;>cases k<;>rfl
 |_=>rfl
def Vi(k:Option (List af×List (Nat×Nat)))(parts:List (Nat×(Prop×ad))):Prop×ad:=match k with
 |some (cs,places)=>((mP places cs parts).1,.x (.agg (mP places cs parts).2))
 |none=>(False,.dead)
def Vj(r:Prop×List af):Prop×ad:=(r.1,.x (.agg r.2))
@[simp]def zAk(p:Prop)(cs:List af):Vj (p,cs)=(p,.x (.agg cs)):=rfl
@[simp]def zAl(cs:List af)(places:List (Nat×Nat))(parts:List (Nat×(Prop×ad))):Vi (some (cs,places)) parts=Vj (mP places cs parts):=rfl
@[simp]def zAm(P:Program)(f:Operand->Prop×ad)(t:TypeId)(parts:List (Nat×Operand)):nG P f t parts=Vi (lv P t) (parts.map fun x=>(x.1,f x.2)):=rfl
def J0(p q:Prop)(r:Prop×List af):Prop×List af:=(p/\q/\r.1,r.2)
@[simp]def zAn(p q r:Prop)(cs:List af):J0 p q (r,cs)=(p/\q/\r,cs):=rfl
def OL(places:List (Nat×Nat))(cells:List af)(r:List (Nat×(Prop×ad)))(p:Prop)(vs:List af):Option (Nat×Nat)->Prop×List af
 |some (off,size)=>J0 p (vs.length=size/\off+size<=cells.length) (mP places (cl cells off vs) r)
 |none=>(False,cells)
@[simp]def zAo(places:List (Nat×Nat))(cells:List af)(r:List (Nat×(Prop×ad)))(p:Prop)(vs:List af)(off size:Nat):OL places cells r p vs (some (off,size))=J0 p (vs.length=size/\off+size<=cells.length) (mP places (cl cells off vs) r):=rfl
@[simp]def zAp(places:List (Nat×Nat))(cells:List af):mP places cells []=(True,cells):=by simp only[mP]
@[simp]def zAq(places:List (Nat×Nat))(cells:List af)(i:Nat)(p:Prop)(bK:az)(r:List (Nat×(Prop×ad))):mP places cells ((i,(p,.x bK))::r)=OL places cells r p bK.cells (places[i]?):=by
 simp only[mP];cases places[i]? with
 |none=>rfl
 |some x=>simp only[OL,J0,and_assoc]
def OM(len:Nat)(parts:List (Nat×(Prop×ad))):Option (TypeId×Nat×List af)->Prop×ad
 |some (e,size,z)=>(len*size<=16777216/\(nH size (List.replicate len z) parts).1,.own e size (nH size (List.replicate len z) parts).2)
 |none=>(False,.dead)
@[simp]def zAr(len:Nat)(parts:List (Nat×(Prop×ad)))(e:TypeId)(size:Nat)(z:List af):OM len parts (some (e,size,z))=(len*size<=16777216/\(nH size (List.replicate len z) parts).1,.own e size (nH size (List.replicate len z) parts).2):=rfl
@[simp]def zAs(P:Program)(f:Operand->Prop×ad)(t:TypeId)(len:Nat)(parts:List (Nat×Operand)):jS P f t len parts=OM len (parts.map fun x=>(x.1,f x.2)) (ix P t):=by unfold jS OM;rfl
def zZ(s:ag)(i off m:Nat):Bool->ag
 |true=>unlink s i off m
 |false=>s
@[congr]def zAt{s:ag}{i off m:Nat}{b bg:Bool}(h:b=bg):zZ s i off m b=zZ s i off m bg:=by rw[h]
@[simp]def zAu(s:ag)(i off m:Nat):zZ s i off m false=s:=rfl
def z1(s:ag)(p q:Prop)(i off m:Nat)(vs:List af):ad->Prop×ag
 |.box cs=>(p/\q/\vs.length=m/\off+m<=cs.length,fh (zZ s i off m (i_ cs off m)) i (.box (cl cs off vs)))
 |.cf b cs=>(p/\q/\vs.length=m/\off+m<=cs.length,fh (zZ s i off m (i_ cs off m)) i (.cf b (cl cs off vs)))
 |_=>(False,s)
@[congr]def zAv{s:ag}{p q:Prop}{i off m:Nat}{vs:List af}{a aZ:ad}(h:a=aZ):z1 s p q i off m vs a=z1 s p q i off m vs aZ:=by rw[h]
@[simp]def zAw(s:ag)(p q:Prop)(i off m:Nat)(vs cs:List af):z1 s p q i off m vs (.box cs)=(p/\q/\vs.length=m/\off+m<=cs.length,fh (zZ s i off m (i_ cs off m)) i (.box (cl cs off vs))):=rfl
@[simp]def zAx(s:ag)(p q:Prop)(i off m b:Nat)(vs cs:List af):z1 s p q i off m vs (.cf b cs)=(p/\q/\vs.length=m/\off+m<=cs.length,fh (zZ s i off m (i_ cs off m)) i (.cf b (cl cs off vs))):=rfl
def CM(s:ag)(p q:Prop)(i k off m:Nat)(vs:List af):ad->Prop×ag
 |.own e size xs=>(p/\q/\vs.length=m/\k<xs.length/\off+m<=size,fh s i (.own e size (xs.set k (cl (xs.getD k []) off vs))))
 |_=>(False,s)
@[congr]def zAy{s:ag}{p q:Prop}{i k off m:Nat}{vs:List af}{a aZ:ad}(h:a=aZ):CM s p q i k off m vs a=CM s p q i k off m vs aZ:=by rw[h]
@[simp]def zAz(s:ag)(p q:Prop)(i k off m e size:Nat)(vs:List af)(xs:List (List af)):CM s p q i k off m vs (.own e size xs)=(p/\q/\vs.length=m/\k<xs.length/\off+m<=size,fh s i (.own e size (xs.set k (cl (xs.getD k []) off vs)))):=rfl
def CN(s:ag)(addr x:Prop×ad)(m:Option Nat):Prop×ag:=
 match addr,x,m with
 |(p,.ptr i off),(q,.x bK),some m=>z1 s p q i off m bK.cells (s i)
 |(p,.dX i k off),(q,.x bK),some m=>CM s p q i k off m bK.cells (s i)
 |_,_,_=>(False,s)
@[congr]def zAA{s:ag}{a aZ x bH:Prop×ad}{m hz:Option Nat}(aa:a=aZ)(ab:x=bH)(ar:m=hz):CN s a x m=CN s aZ bH hz:=by rw[aa,ab,ar]
@[simp]def zAB(s:ag)(p q:Prop)(i off m:Nat)(bK:az):CN s (p,.ptr i off) (q,.x bK) (some m)=z1 s p q i off m bK.cells (s i):=rfl
@[simp]def zAC(s:ag)(p q:Prop)(i k off m:Nat)(bK:az):CN s (p,.dX i k off) (q,.x bK) (some m)=CM s p q i k off m bK.cells (s i):=rfl
@[simp]def zAD(P:Program)(s:ag)(t:TypeId)(addr x:Prop×ad):jU P s t addr x=CN s addr x (tk P t).cells:=by
 obtain⟨p,a⟩:=addr;obtain⟨q,v⟩:=x;unfold jU CN z1 CM;generalize (tk P t).cells=m;cases a<;>cases v<;>cases m<;>try rfl
 dsimp only;cases s _<;>try rfl
 ·dsimp only;cases i_ _ _ _<;>rfl
 ·dsimp only;cases i_ _ _ _<;>rfl
def ON(size:Nat):ad->Option (List (List af))
 |.own _ z aQ=>if z=size then some aQ else none
 |_=>none
@[simp]def zAE(size e z:Nat)(aQ:List (List af)):ON size (.own e z aQ)=if z=size then some aQ else none:=rfl
@[simp]def zAF(s:ag)(size z:Nat):hy s size (.x (.one (.empty z)))=if z=size then some []else none:=rfl
@[simp]def zAG(s:ag)(size z:Nat)(aQ:List (List af)):hy s size (.x (.one (.list z aQ)))=if z=size then some aQ else none:=rfl
@[simp]def zAH(s:ag)(size j:Nat):hy s size (.alias j)=ON size (s j):=by unfold hy ON;rfl
def J1(i:Nat):ad->Option (Option Nat×Option TypeId×Nat×List (List af))
 |.own e size xs=>some (some i,some e,size,xs)
 |.cT _ e size xs=>some (some i,some e,size,xs)
 |_=>none
@[simp]def zAI(i e size:Nat)(g:Value)(xs:List (List af)):J1 i (.cT g e size xs)=some (some i,some e,size,xs):=rfl
@[simp]def zAJ(i e size:Nat)(xs:List (List af)):J1 i (.own e size xs)=some (some i,some e,size,xs):=rfl
@[simp]def zAK(s:ag):gx s (.x (.one .nil))=some (none,none,0,[]):=rfl
@[simp]def zAL(s:ag)(i:Nat):gx s (.alias i)=J1 i (s i):=by unfold gx J1;rfl
def OO(s:ag)(q:Prop)(k:Option IntKind)(e size:Nat)(dH:List af)(z:Option Int)(bytes:Nat):Prop×ag×ad:=
 match z with
 |some n=>(q/\k.isSome=true/\0<n/\n*bytes<=140737488355328/\n<=maxLen,s,.own e size (List.replicate n.toNat dH))
 |none=>(False,s,.dead)
def z6(s:ag)(p:Prop)(e size:Nat)(b:Option Nat)(src:Option (Option Nat×Option TypeId×Nat×List (List af)))(news:Option (List (List af)))(xS:Nat->Prop×ag×ad):Prop×ag×ad:=
 match b,src,news with
 |some bytes,some (some i,some bV,dU,xs),some aQ=>(p/\bV=e/\dU=size/\(xs.length+aQ.length)*bytes<=140737488355328/\xs.length+aQ.length<=maxLen,put s i .dead,.own e size (xs++aQ))
 |some bytes,some (none,_,_,_),some aQ=>(p/\aQ.length*bytes<=140737488355328/\aQ.length<=maxLen,s,.own e size aQ)
 |some bytes,some (none,_,_,_),none=>xS bytes
 |_,_,_=>(False,s,.dead)
@[congr]def zAM{s:ag}{p:Prop}{e size:Nat}{b bg:Option Nat}{src F4:Option (Option Nat×Option TypeId×Nat×List (List af))}{news Vk:Option (List (List af))}{xS:Nat->Prop×ag×ad}(aa:b=bg)(ab:src=F4)(ar:news=Vk):z6 s p e size b src news xS=z6 s p e size bg F4 Vk xS:=by rw[aa,ab,ar]
@[simp]def zAN(s:ag)(p:Prop)(e size bytes i bV dU:Nat)(xs aQ:List (List af))(xS:Nat->Prop×ag×ad):z6 s p e size (some bytes) (some (some i,some bV,dU,xs)) (some aQ) xS=(p/\bV=e/\dU=size/\(xs.length+aQ.length)*bytes<=140737488355328/\xs.length+aQ.length<=maxLen,put s i .dead,.own e size (xs++aQ)):=rfl
@[simp]def zAO(s:ag)(p:Prop)(e size bytes:Nat)(a:Option TypeId)(b:Nat)(c aQ:List (List af))(xS:Nat->Prop×ag×ad):z6 s p e size (some bytes) (some (none,a,b,c)) (some aQ) xS=(p/\aQ.length*bytes<=140737488355328/\aQ.length<=maxLen,s,.own e size aQ):=rfl
def Vl(P:Program)(s:ag)(p q:Prop)(t':TypeId)(x y:ad):Option (TypeId×Nat×List af)->Prop×ag×ad
 |some (e,size,dH)=>z6 s p e size (mT P e) (gx s x) (hy s size y) (OO s q (ov P t') e size dH (IP y))
 |none=>(False,s,.dead)
def z7(P:Program)(s:ag)(t t':TypeId)(x y:Prop×ad)(k:Option (TypeId×Nat×List af)):Prop×ag×ad:=Vl P s (x.1/\y.1/\t=t') (x.1/\y.1) t' x.2 y.2 k
@[congr]def zAP{P:Program}{s:ag}{t t':TypeId}{x bH y y8:Prop×ad}{k bu:Option (TypeId×Nat×List af)}(aa:x=bH)(ab:y=y8)(ar:k=bu):z7 P s t t' x y k=z7 P s t t' bH y8 bu:=by rw[aa,ab,ar]
@[simp]def zAQ(P:Program)(s:ag)(t t':TypeId)(p q:Prop)(x y:ad)(e size:Nat)(z:List af):z7 P s t t' (p,x) (q,y) (some (e,size,z))=z6 s (p/\q/\t=t') e size (mT P e) (gx s x) (hy s size y) (OO s (p/\q) (ov P t') e size z (IP y)):=rfl
def zeU(P:Program)(s:ag)(t t':TypeId)(x y:Prop×ad):tO P s t t' x y=z7 P s t t' x y (ix P t):=by
 unfold tO z7 Vl z6 OO;split
 ·rename_i e size z h;rw[h];simp only;split
  ·simp_all [and_assoc]
  ·simp_all [and_assoc]
  ·rename_i aa ab ar;rw[aa,ab,ar];simp only;split<;>simp_all [and_assoc]
  ·rename_i aa ab ar;split
   ·rename_i a b c;exact absurd c (aa _ _ _ _ _ _ a b)
   ·rename_i a b c;exact absurd c (ab _ _ _ _ _ a b)
   ·rename_i a b c;exact absurd c (ar _ _ _ _ a b)
   ·rfl
 ·rename_i h;rw[h]
def z8(P:Program)(s:ag)(t':TypeId)(p q:Prop)(l:List UInt8)(row:Option (TypeId×Nat×List af))(src:Option (Option Nat×Option TypeId×Nat×List (List af))):Prop×ag×ad:=
 match row,src with
 |some (e,size,_),some (some i,some bV,dU,xs)=>(p/\q/\hx P t'=true/\pn P e=true/\bV=e/\dU=size/\size=1/\xs.length+l.length<=140737488355328,put s i .dead,.own e size (xs++bL l))
 |some (e,size,_),some (none,_,_,_)=>(p/\q/\hx P t'=true/\pn P e=true/\size=1/\l.length<=140737488355328,s,.own e size (bL l))
 |_,_=>(False,s,.dead)
@[congr]def zAR{P:Program}{s:ag}{t':TypeId}{p q:Prop}{l:List UInt8}{row Vm:Option (TypeId×Nat×List af)}{src F4:Option (Option Nat×Option TypeId×Nat×List (List af))}(aa:row=Vm)(ab:src=F4):z8 P s t' p q l row src=z8 P s t' p q l Vm F4:=by rw[aa,ab]
@[simp]def zAS(P:Program)(s:ag)(t':TypeId)(p q:Prop)(l:List UInt8)(e size:Nat)(z:List af)(i bV dU:Nat)(xs:List (List af)):z8 P s t' p q l (some (e,size,z)) (some (some i,some bV,dU,xs))=(p/\q/\hx P t'=true/\pn P e=true/\bV=e/\dU=size/\size=1/\xs.length+l.length<=140737488355328,put s i .dead,.own e size (xs++bL l)):=rfl
@[simp]def zAT(P:Program)(s:ag)(t':TypeId)(p q:Prop)(l:List UInt8)(e size:Nat)(z:List af)(a:Option TypeId)(b:Nat)(c:List (List af)):z8 P s t' p q l (some (e,size,z)) (some (none,a,b,c))=(p/\q/\hx P t'=true/\pn P e=true/\size=1/\l.length<=140737488355328,s,.own e size (bL l)):=rfl
def CO(P:Program)(s:ag)(t t':TypeId)(x y:Prop×ad)(o:Option (List UInt8)):Prop×ag×ad:=match o with
 |some l=>z8 P s t' x.1 y.1 l (ix P t) (gx s x.2)
 |none=>z7 P s t t' x y (ix P t)
@[congr]def zAU{P:Program}{s:ag}{t t':TypeId}{x bH y y8:Prop×ad}{o cv:Option (List UInt8)}(aa:x=bH)(ab:y=y8)(ar:o=cv):CO P s t t' x y o=CO P s t t' bH y8 cv:=by rw[aa,ab,ar]
@[simp]def zAV(P:Program)(s:ag)(t t':TypeId)(p q:Prop)(x y:ad)(l:List UInt8):CO P s t t' (p,x) (q,y) (some l)=z8 P s t' p q l (ix P t) (gx s x):=rfl
@[simp]def zAW(P:Program)(s:ag)(t t':TypeId)(x y:Prop×ad):CO P s t t' x y none=z7 P s t t' x y (ix P t):=rfl
@[simp]def zAX(P:Program)(s:ag)(t t':TypeId)(x y:Prop×ad):eK P s t t' x y=CO P s t t' x y (strOf y.2):=by
 unfold eK CO;cases strOf y.2 with
 |none=>exact zeU P s t t' x y
 |some l=>unfold vu z8;rfl
@[simp]def zAY(l:List UInt8):strOf (.x (.one (.str l)))=some l:=rfl
@[simp]def zAZ(z:Nat):strOf (.x (.one (.empty z)))=none:=rfl
@[simp]def zBa(z:Nat)(xs:List (List af)):strOf (.x (.one (.list z xs)))=none:=rfl
@[simp]def zBb(i:Nat):strOf (.alias i)=none:=rfl
@[simp]def zBc(l:List UInt8):okB (bL l)=True:=by apply propext;refine⟨fun _=>trivial,fun _ x aj=>?_⟩;simp only[bL,hh]at aj;obtain⟨b,_,rfl⟩:=aj;exact⟨_,rfl⟩
@[simp]def zBd(l:List UInt8):ox (bL l)=l:=by
 unfold ox bL;induction l with
 |nil=>rfl
 |cons b r aX=>simp only[iw,En];rw[aX];simp
@[simp]def zBe:bL []=[]:=rfl
def J2(a b:List UInt8):bL (a++b)=bL a++bL b:=by simp[bL]
@[simp]def zeV(l:List UInt8)(i:Nat):(bL l)[i]?=(l[i]?).map g_:=by simp[bL]
@[simp]def zBf(l:List UInt8)(k:Nat):(bL l).take k=bL (l.take k):=by simp[bL]
@[simp]def J3(l:List UInt8)(i:Nat)(b:UInt8):(bL l).set i [.int .u8 b.toNat]=bL (l.set i b):=by simp[bL]
def OP(s:ag)(p:Prop)(i aK len size:Nat)(dH:List af):ad->Prop×ag
 |.own e dU xs=>(p/\dU=size,fh s i (.own e dU (xs.take aK++List.replicate len dH++xs.drop (aK+len))))
 |_=>(False,s)
@[congr]def zBg{s:ag}{p:Prop}{i aK len size:Nat}{dH:List af}{v cz:ad}(h:v=cz):OP s p i aK len size dH v=OP s p i aK len size dH cz:=by rw[h]
def Vn(s:ag)(k:Option (TypeId×Nat×List af))(x:Prop×ad):Prop×ag:=
 match k,x with
 |some (_,size,dH),(p,.view i aK len _)=>OP s p i aK len size dH (s i)
 |_,_=>(False,s)
@[congr]def zBh{s:ag}{k bu:Option (TypeId×Nat×List af)}{x bH:Prop×ad}(aa:k=bu)(ab:x=bH):Vn s k x=Vn s bu bH:=by rw[aa,ab]
def CP(s:ag)(args:List Operand):Bool->ag
 |true=>s
 |false=>dt s (dc s args)
@[congr]def zBi{s:ag}{args:List Operand}{b bg:Bool}(h:b=bg):CP s args b=CP s args bg:=by rw[h]
@[simp]def zBj(s:ag)(args:List Operand):CP s args true=s:=rfl
@[simp]def zBk(s:ag)(args:List Operand):CP s args false=dt s (dc s args):=rfl
@[simp]def zBl(s:ag)(args:List Operand)(r:bw):nL s args r=CP s args r.flat:=by unfold nL CP;cases r.flat<;>rfl
def sE:List (af⊕(Nat×Nat))->List Nat->List Nat
 |[],l=>l
 |.inl _::r,l=>sE r l
 |.inr p::r,l=>p.1::sE r l
@[simp]def zBm(l:List Nat):sE [] l=l:=rfl
@[simp]def zeW(c:af)(r:List (af⊕(Nat×Nat)))(l:List Nat):sE (.inl c::r) l=sE r l:=rfl
@[simp]def zeX(p:Nat×Nat)(r:List (af⊕(Nat×Nat)))(l:List Nat):sE (.inr p::r) l=p.1::sE r l:=rfl
def J4:∀(caps:List (af⊕(Nat×Nat))) (l:List Nat),sE caps l=caps.filterMap mO++l
 |[],l=>rfl
 |.inl c::r,l=>by rw[zeW,J4 r l];simp[qC,mO]
 |.inr p::r,l=>by rw[zeX,J4 r l];simp[mO]
def F5:ad->List Nat->List Nat
 |.alias i,l=>i::l
 |.view i _ _ _,l=>i::l
 |.cr _ caps,l=>sE caps l
 |_,l=>l
@[simp]def zBn(s:ag):dc s []=[]:=rfl
@[simp]def zBo(s:ag)(x:Operand)(r:List Operand):dc s (x::r)=F5 (aG s x).2 (dc s r):=by simp only[dc,F5,y0];generalize (aG s x).2=v;cases v<;>first|rfl|(simp only[J4])
@[simp]def zBp(i:Nat)(l:List Nat):F5 (.alias i) l=i::l:=rfl
@[simp]def zBq(cs:List af)(l:List Nat):F5 (.elem cs) l=l:=rfl
@[simp]def zBr(v:az)(l:List Nat):F5 (.x v) l=l:=rfl
def CQ:ad->List Nat->List Nat
 |.cr _ caps,l=>sE caps l
 |_,l=>l
@[simp]def zBs(s:ag)(l:List Operand):qD s l=y3 (y2 s l) (y1 s l):=rfl
@[simp]def zBt(l:List Nat):y3 l []=[]:=rfl
@[simp]def zBu(l m:List Nat)(i:Nat):y3 l (i::m)=bif l.contains i then y3 l m else i::y3 l m:=by simp only[y3,List.filter_cons];cases l.contains i<;>rfl
def CR:ad->List Nat->List Nat
 |.ptr i 0,l=>i::l
 |_,l=>l
@[simp]def zBv(i:Nat)(l:List Nat):CR (.ptr i 0) l=i::l:=rfl
@[simp]def zBw(v:az)(l:List Nat):CR (.x v) l=l:=rfl
@[simp]def zBx(i:Nat)(l:List Nat):CR (.alias i) l=l:=rfl
@[simp]def zBy(f:FuncId)(caps:List (af⊕(Nat×Nat)))(l:List Nat):CR (.cr f caps) l=l:=rfl
@[simp]def zBz(s:ag):y2 s []=[]:=rfl
@[simp]def zBA(s:ag)(x:Operand)(r:List Operand):y2 s (x::r)=CR (aG s x).2 (y2 s r):=by
 simp only[y2,CR,Sr];generalize (aG s x).2=v;cases v<;>first|rfl|skip
 rename_i i o;cases o<;>rfl
@[simp]def zBB(s:ag):y1 s []=[]:=rfl
@[simp]def zBC(s:ag)(x:Operand)(r:List Operand):y1 s (x::r)=CQ (aG s x).2 (y1 s r):=by simp only[y1,CQ,Sq];generalize (aG s x).2=v;cases v<;>first|rfl|(simp only[J4])
@[simp]def zBD(i:Nat)(l:List Nat):CQ (.alias i) l=l:=rfl
@[simp]def zBE(i o:Nat)(l:List Nat):CQ (.ptr i o) l=l:=rfl
@[simp]def zBF(f:FuncId)(caps:List (af⊕(Nat×Nat)))(l:List Nat):CQ (.cr f caps) l=sE caps l:=rfl
@[simp]def zBG(v:az)(l:List Nat):CQ (.x v) l=l:=rfl
@[congr]def zBH{s:ag}{l kd:List Nat}{k:ag->Prop}(h:l=kd):oG s l k=oG s kd k:=by rw[h]
@[simp]def zBI(s:ag)(k:ag->Prop):oG s [] k=k s:=rfl
@[simp]def zBJ(s:ag):dt s []=s:=rfl
@[simp]def zBK(s:ag)(i:Nat)(l:List Nat):dt s (i::l)=dt (freeze s i) l:=rfl
def Vo(s:ag)(i:Nat)(a:ad):ag:=fun j=>if (s j).refs i then iL a (s j)else s j
@[simp]def zeY(s:ag)(i:Nat)(a:ad)(j:Nat):Vo s i a j=if (s j).refs i then iL a (s j)else s j:=rfl
@[simp]def zBL(cs:List af)(i off:Nat):iL (.box cs) (.ptr i off)=.elem (cs.drop off):=rfl
@[simp]def zBM(cs:List af)(i k off:Nat):iL (.box cs) (.dX i k off)=.dead:=rfl
@[simp]def zBN(cs:List af)(i:Nat):iL (.box cs) (.alias i)=.dead:=rfl
@[simp]def zBO(cs:List af)(i aK len:Nat)(wh:Bool):iL (.box cs) (.view i aK len wh)=.dead:=rfl
@[simp]def zBP(cs:List af)(f:FuncId)(i:Nat):iL (.box cs) (.cr f [.inr (i,0)])=.x (.one (.ht f [.ref cs])):=rfl
@[simp]def zBQ(cs:List af)(f:FuncId)(c c':af⊕(Nat×Nat))(r:List (af⊕(Nat×Nat))):iL (.box cs) (.cr f (c::c'::r))=.dead:=by
 rcases BJ (.box cs) (.cr f (c::c'::r))with e|⟨_,_,_,_,e,_⟩|⟨_,_,_,_,e,_⟩
 ·exact e
 ·cases e
 ·cases e
@[simp]def zBR(e z:Nat)(xs:List (List af))(x:ad):iL (.own e z xs) x=.dead:=rfl
@[simp]def zBS(cs:List af)(x:ad):iL (.elem cs) x=.dead:=rfl
@[simp]def zBT(v:az)(x:ad):iL (.x v) x=.dead:=rfl
@[simp]def zBU(s:ag)(i:Nat):freeze s i=fh (Vo s i (s i)) i (r1 (s i)):=by funext j;simp only[freeze,FU,zeY]
@[simp]def zBV(cs:List af):r1 (.box cs)=.elem cs:=rfl
@[simp]def zBW(e z:Nat)(xs:List (List af)):r1 (.own e z xs)=.x (.one (.list z xs)):=rfl
def CS(i off:Nat)(p:Prop):ad->Prop×ad
 |.link bB o d=>match bB==i&&o==off with
  |true=>(p,.alias d)
  |false=>(p,.x (.one .any))
 |_=>(p,.x (.one .any))
@[congr]def zBX{i off:Nat}{p:Prop}{v cz:ad}(h:v=cz):CS i off p v=CS i off p cz:=by rw[h]
@[simp]def zBY(i off:Nat)(p:Prop)(d:Nat):CS i off p (.link i off d)=(p,.alias d):=by simp[CS]
@[simp]def zBZ(s:ag)(i off:Nat)(p:Prop):iu s (.ptr i off) (p,.x (.one .any))=CS i off p (s (b0 i off)):=by unfold iu CS;dsimp only;cases s (b0 i off)<;>rfl
attribute [simp] RO
@[simp]def zCa(s:ag)(r:ad)(p:Prop)(cs:List af):iu s r (p,.x (.agg cs))=(p,.x (.agg cs)):=rfl
@[simp]def zCb(s:ag)(r:ad)(p:Prop)(b:Bool):iu s r (p,.x (.one (.bool b)))=(p,.x (.one (.bool b))):=rfl
@[simp]def zCc(s:ag)(r:ad)(p:Prop)(k:IntKind)(n:Int):iu s r (p,.x (.one (.int k n)))=(p,.x (.one (.int k n))):=rfl
@[simp]def zCd(s:ag)(r:ad)(p:Prop)(l:List UInt8):iu s r (p,.x (.one (.str l)))=(p,.x (.one (.str l))):=rfl
@[simp]def zCe(s:ag)(r:ad)(p:Prop):iu s r (p,.x (.one .nil))=(p,.x (.one .nil)):=rfl
@[simp]def zCf(s:ag)(r:ad)(p:Prop)(z:Nat)(l:List (List af)):iu s r (p,.x (.one (.list z l)))=(p,.x (.one (.list z l))):=rfl
@[simp]def zCg(s:ag)(r:ad)(p:Prop)(v:Value):iu s r (p,.x (.one (.atom v)))=(p,.x (.one (.atom v))):=rfl
@[simp]def zCh(s:ag)(r:ad)(p:Prop)(a b:Bool)(k v:List (List af)):iu s r (p,.x (.one (.g8 a b k v)))=(p,.x (.one (.g8 a b k v))):=rfl
section
variable (P:Program)(s:ag)
@[simp]def zCi(x:Operand):bb P s (.move x)=aG s x:=rfl
@[simp]def zCj(x:Operand):bb P s (.assign x)=(True,look s x):=rfl
@[simp]def zCk(c a b:Operand):bb P s (.pick c a b)=Bo (aG s c) (aG s a) (aG s b):=rfl
@[simp]def zCl(t:TypeId)(x:Operand):bb P s (.load t x)=nx P s t (aG s x):=rfl
def OQ(i off:Nat)(p:Prop):bZ->Prop×ad
 |.one=>(p,.ptr i off)
 |_=>(False,.dead)
@[simp]def zCm(i off:Nat)(p:Prop):OQ i off p .one=(p,.ptr i off):=rfl
@[simp]def zCn(t:TypeId)(p:Prop)(i off:Nat):nx P s t (p,.ds i off)=OQ i off p (tk P t):=by unfold nx OQ;dsimp only;cases tk P t<;>rfl
@[simp]def zCo(t:TypeId)(p:Prop)(i off:Nat):nx P s t (p,.ptr i off)=iu s (.ptr i off) (js (tk P t) (ea P t) p (mem s (.ptr i off))):=rfl
@[simp]def zCp(t:TypeId)(p:Prop)(i k off:Nat):nx P s t (p,.dX i k off)=iu s (.dX i k off) (js (tk P t) (ea P t) p (mem s (.dX i k off))):=rfl
@[simp]def zCq(t:TypeId)(p:Prop)(cs:List af):nx P s t (p,.elem cs)=iu s (.elem cs) (js (tk P t) (ea P t) p (mem s (.elem cs))):=rfl
@[simp]def zCr(x:Operand):bb P s (.nilCheck x)=OH (aG s x):=rfl
@[simp]def zCs(op:BinOp)(t t':TypeId)(x y:Operand):bb P s (.binOp op t x y t')=qp P s op t x y:=rfl
@[simp]def zCt(op:BinOp)(t:TypeId)(x:Operand)(i:Nat):qp P s op t x (.tmp i)=f' P op t (aG s x) (aG s (.tmp i)):=rfl
@[simp]def zCu(op:BinOp)(t:TypeId)(x:Operand)(k:IntKind)(i:Int):qp P s op t x (.const (.int k i))=f' P op t (aG s x) (aG s (.const (.int k i))):=rfl
@[simp]def zCv(op:BinOp)(t:TypeId)(x:Operand)(b:ByteArray):qp P s op t x (.const (.string b))=f' P op t (aG s x) (aG s (.const (.string b))):=rfl
@[simp]def zCw(op:BinOp)(t:TypeId)(x:Operand)(b:Option Addr)(l c:Nat):qp P s op t x (.const (.slice b l c))=f' P op t (aG s x) (aG s (.const (.slice b l c))):=rfl
@[simp]def zCx(op:UnOp)(t:TypeId)(x:Operand):bb P s (.unOp op t x)=Bv op (aG s x):=rfl
@[simp]def zCy(t:TypeId)(x:Operand)(aK ai mx:Option Operand):bb P s (.slice t x aK ai mx)=ir P s t (aG s x) aK ai mx:=rfl
@[simp]def zCz(t:TypeId)(x:Operand)(f:Nat):bb P s (.fieldAddr t x f)=rL P t f (aG s x):=rfl
@[simp]def zCA(t:TypeId)(x i:Operand):bb P s (.indexAddr t x i)=kc P s t (aG s x) (aG s i):=rfl
@[simp]def zCB(t:TypeId)(x i:Operand):bb P s (.index t x i)=Bt P t (aG s x) (aG s i):=rfl
def CT(p q:Prop)(bv:eQ)(bX:az)(es:List (az×az))(ok:Bool):Option (Option Nat)->Option az->Prop×ad
 |some r,some z=>(p/\q/\fU bv bX=true,rM es z ok r)
 |_,_=>(False,.dead)
@[simp]def zCC(p q:Prop)(bv:eQ)(bX:az)(es:List (az×az))(ok:Bool)(r:Option Nat)(z:az):CT p q bv bX es ok (some r) (some z)=(p/\q/\fU bv bX=true,rM es z ok r):=rfl
@[simp]def zCD(es:List (az×az))(z:az):rM es z false none=.x z:=rfl
@[simp]def zCE(es:List (az×az))(z:az):rM es z true none=.b2 [z,.one (.bool false)]:=rfl
@[simp]def zCF(es:List (az×az))(z:az)(j:Nat):rM es z false (some j)=.x ((es[j]?).getD (z,z)).2:=rfl
@[simp]def zCG(es:List (az×az))(z:az)(j:Nat):rM es z true (some j)=.b2 [((es[j]?).getD (z,z)).2,.one (.bool true)]:=rfl
def CU(p q:Prop)(bv:eQ)(bX:az)(ok:Bool)(z:Option az):ad->Prop×ad
 |.mp _ _ es=>CT p q bv bX es ok (er bv bX es 0) z
 |_=>(False,.dead)
@[congr]def zCH{p q:Prop}{bv:eQ}{bX:az}{ok:Bool}{z h7:Option az}{v cz:ad}(h:z=h7)(aH:v=cz):CU p q bv bX ok z v=CU p q bv bX ok h7 cz:=by rw[h,aH]
@[simp]def zCI(p q:Prop)(bv:eQ)(bX:az)(ok:Bool)(z:Option az)(c:Nat)(bs:List Nat)(es:List (az×az)):CU p q bv bX ok z (.mp c bs es)=CT p q bv bX es ok (er bv bX es 0) z:=rfl
def CV(P:Program)(s:ag)(eC:Option (eQ×TypeId))(x k:Prop×ad)(ok:Bool):Prop×ad:=
 match eC,x,k with
 |some (bv,e),(p,.alias i),(q,.x bX)=>CU p q bv bX ok (ea P e) (s i)
 |some (bv,e),(p,.x (.one (.g8 fi fj aU vs))),(q,.x bX)=>CT p q bv bX (gj fi fj aU vs) ok (er bv bX (gj fi fj aU vs) 0) (ea P e)
 |_,_,_=>(False,.dead)
@[congr]def zCJ{P:Program}{s:ag}{eC FS:Option (eQ×TypeId)}{x bH k bu:Prop×ad}{ok:Bool}(aa:eC=FS)(ab:x=bH)(ar:k=bu):CV P s eC x k ok=CV P s FS bH bu ok:=by rw[aa,ab,ar]
@[simp]def zCK(P:Program)(s:ag)(bv:eQ)(e:TypeId)(p q:Prop)(fi fj:Bool)(aU vs:List (List af))(bX:az)(ok:Bool):CV P s (some (bv,e)) (p,.x (.one (.g8 fi fj aU vs))) (q,.x bX) ok=CT p q bv bX (gj fi fj aU vs) ok (er bv bX (gj fi fj aU vs) 0) (ea P e):=rfl
@[simp]def zCL(P:Program)(s:ag)(bv:eQ)(e:TypeId)(p q:Prop)(i:Nat)(bX:az)(ok:Bool):CV P s (some (bv,e)) (p,.alias i) (q,.x bX) ok=CU p q bv bX ok (ea P e) (s i):=rfl
@[simp]def zCM(P:Program)(s:ag)(t:TypeId)(x k:Prop×ad)(ok:Bool):rN P s t x k ok=CV P s (mE P t) x k ok:=by unfold rN CV CU CT;rfl
def F6(f:FuncId):Prop×Option (List af)->Prop×Option (List (af⊕(Nat×Nat)))->Prop×ad
 |(p,some cs),_=>(p,.x (.one (.ht f cs)))
 |_,(p,some cs)=>(p,.cr f cs)
 |_,_=>(False,.dead)
@[congr]def zCN{f:FuncId}{a aZ:Prop×Option (List af)}{b:Prop×Option (List (af⊕(Nat×Nat)))}(h:a=aZ):F6 f a b=F6 f aZ b:=by rw[h]
def Vp(f:FuncId):Prop×Option (List (af⊕(Nat×Nat)))->Prop×ad
 |(p,some cs)=>(p,.cr f cs)
 |_=>(False,.dead)
@[simp]def zCO(f:FuncId)(p:Prop)(cs:List (af⊕(Nat×Nat))):Vp f (p,some cs)=(p,.cr f cs):=rfl
@[simp]def zCP(f:FuncId)(p:Prop)(b:Prop×Option (List (af⊕(Nat×Nat)))):F6 f (p,none) b=Vp f b:=by obtain⟨q,b⟩:=b;cases b<;>rfl
def J5(a:Prop×ad)(b:Prop×Option (List af)):Prop×Option (List af):=match a,b with
 |(p,.x (.one c)),(q,some cs)=>(p/\q,some (c::cs))
 |_,_=>(False,none)
@[simp]def zCQ(p:Prop)(i o:Nat)(b:Prop×Option (List af)):J5 (p,.ds i o) b=(False,none):=rfl
@[simp]def zCR(p:Prop)(i o:Nat)(b:Prop×Option (List af)):J5 (p,.ptr i o) b=(False,none):=rfl
@[simp]def zCS:qo []=(True,some []):=rfl
@[simp]def zCT(x:Prop×ad)(r:List (Prop×ad)):qo (x::r)=J5 x (qo r):=by
 obtain⟨p,x⟩:=x;cases x with
 |x v=>cases v with
  |one c=>simp only[qo,J5];generalize qo r=b;obtain⟨q,b⟩:=b;cases b<;>rfl
  |agg cs=>rfl
 |_=>rfl
def CW(a:Prop×ad)(b:Prop×Option (List (af⊕(Nat×Nat)))):Prop×Option (List (af⊕(Nat×Nat))):=match a,b with
 |(p,.x (.one c)),(q,some cs)=>(p/\q,some (.inl c::cs))
 |(p,.ptr i off),(q,some cs)=>(p/\off<1000000/\q,some (.inr (i,off)::cs))
 |(p,.ds i off),(q,some cs)=>(p/\q,some (.inr (i,off+1000000)::cs))
 |_,_=>(False,none)
@[simp]def zCU(p q:Prop)(i off:Nat)(cs:List (af⊕(Nat×Nat))):CW (p,.ptr i off) (q,some cs)=(p/\off<1000000/\q,some (.inr (i,off)::cs)):=rfl
@[simp]def zCV(p q:Prop)(i off:Nat)(cs:List (af⊕(Nat×Nat))):CW (p,.ds i off) (q,some cs)=(p/\q,some (.inr (i,off+1000000)::cs)):=rfl
@[simp]def zCW:jM []=(True,some []):=rfl
@[simp]def zCX(x:Prop×ad)(r:List (Prop×ad)):jM (x::r)=CW x (jM r):=by
 obtain⟨p,x⟩:=x;cases x with
 |x v=>cases v with
  |one c=>simp only[jM,CW];generalize jM r=b;obtain⟨q,b⟩:=b;cases b<;>rfl
  |agg cs=>rfl
 |ptr i o=>simp only[jM,CW];generalize jM r=b;obtain⟨q,b⟩:=b;cases b<;>rfl
 |ds i o=>simp only[jM,CW];generalize jM r=b;obtain⟨q,b⟩:=b;cases b<;>rfl
 |_=>rfl
@[simp]def zCY(f:FuncId)(cap:List Operand):bb P s (.makeFunc (.func f) ⟨[]⟩ ⟨cap⟩)=F6 f (qo (cap.map (aG s))) (jM (cap.map (aG s))):=by
 show u1 s (.func f) [] cap=_;unfold u1 F6;dsimp only;split
 ·rename_i e;rw[e]
 ·rename_i bC;generalize qo (cap.map (aG s))=a at bC;generalize jM (cap.map (aG s))=b;obtain⟨p,a⟩:=a;obtain⟨q,b⟩:=b;cases a with
  |some cs=>exact absurd rfl (bC _ _)
  |none=>cases b<;>rfl
@[simp]def zCZ(t:TypeId)(x k:Operand)(ok:Bool):bb P s (.lookup t x k ok)=rN P s t (aG s x) (aG s k) ok:=rfl
@[simp]def zDa(x:Operand)(f:Nat):bb P s (.extract x f)=wX (aG s x) f:=rfl
@[simp]def zDb(t:TypeId)(parts:List (Nat×Operand)):bb P s (.build t ⟨parts⟩)=nG P (aG s) t parts:=rfl
@[simp]def zDc(x:Operand)(t:TypeId):bb P s (.call ⟨.builtin .len,⟨[x]⟩,⟨[t]⟩⟩)=lo P s t (aG s x):=rfl
@[simp]def zDd(x y:Operand)(ts:Array TypeId):bb P s (.call ⟨.builtin .min,⟨[x,y]⟩,ts⟩)=yP (aG s x) (aG s y):=rfl
@[simp]def zDe(x:Operand)(t:TypeId):rO P s (.builtin .len) [x] [t]=lo P s t (aG s x):=rfl
@[simp]def zDf(x y:Operand)(ts:List TypeId):rO P s (.builtin .max) [x,y] ts=Bu (aG s x) (aG s y):=rfl
@[simp]def zDg(x y:Operand)(ts:List TypeId):rO P s (.builtin .min) [x,y] ts=yP (aG s x) (aG s y):=rfl
end
section
variable (P:Program)(s:ag)(t:TypeId)(p q r:Prop)
@[simp]def zDh(k bu:IntKind)(a b:Int):f' P .shl t (p,.x (.one (.int k a))) (q,.x (.one (.int bu b)))=(p/\q/\0<=b,.x (.one (.int k (k.wrap (a*2^(min b.toNat k.bits)))))):=rfl
@[simp]def zDi(k bu:IntKind)(a b:Int):f' P .shr t (p,.x (.one (.int k a))) (q,.x (.one (.int bu b)))=(p/\q/\0<=b,.x (.one (.int k (a.fdiv (2^(min b.toNat k.bits)))))):=rfl
@[simp]def zDj(k bu:IntKind)(a b:Int):f' P .add t (p,.x (.one (.int k a))) (q,.x (.one (.int bu b)))=(p/\q/\k=bu,.x (.one (.int k (k.wrap (a+b))))):=rfl
@[simp]def zDk(k bu:IntKind)(a b:Int):f' P .sub t (p,.x (.one (.int k a))) (q,.x (.one (.int bu b)))=(p/\q/\k=bu,.x (.one (.int k (k.wrap (a-b))))):=rfl
@[simp]def zDl(k bu:IntKind)(a b:Int):f' P .mul t (p,.x (.one (.int k a))) (q,.x (.one (.int bu b)))=(p/\q/\k=bu,.x (.one (.int k (k.wrap (a*b))))):=rfl
@[simp]def zDm(k bu:IntKind)(a b:Int):f' P .quo t (p,.x (.one (.int k a))) (q,.x (.one (.int bu b)))=(p/\q/\(k=bu/\b≠0),.x (.one (.int k (k.wrap (a.tdiv b))))):=rfl
@[simp]def zDn(k bu:IntKind)(a b:Int):f' P .rem t (p,.x (.one (.int k a))) (q,.x (.one (.int bu b)))=(p/\q/\(k=bu/\b≠0),.x (.one (.int k (a.tmod b)))):=rfl
@[simp]def zDo(k bu:IntKind)(a b:Int):f' P .and t (p,.x (.one (.int k a))) (q,.x (.one (.int bu b)))=(p/\q/\k=bu,.x (.one (.int k (bitsOf .and k a b)))):=rfl
@[simp]def zDp(k bu:IntKind)(a b:Int):f' P .or t (p,.x (.one (.int k a))) (q,.x (.one (.int bu b)))=(p/\q/\k=bu,.x (.one (.int k (bitsOf .or k a b)))):=rfl
@[simp]def zDq(k bu:IntKind)(a b:Int):f' P .xor t (p,.x (.one (.int k a))) (q,.x (.one (.int bu b)))=(p/\q/\k=bu,.x (.one (.int k (bitsOf .xor k a b)))):=rfl
@[simp]def zDr(k bu:IntKind)(a b:Int):f' P .eql t (p,.x (.one (.int k a))) (q,.x (.one (.int bu b)))=(p/\q/\k=bu,.x (.one (.bool (a==b)))):=rfl
@[simp]def zDs(k bu:IntKind)(a b:Int):f' P .neq t (p,.x (.one (.int k a))) (q,.x (.one (.int bu b)))=(p/\q/\k=bu,.x (.one (.bool (a != b)))):=rfl
@[simp]def zDt(k bu:IntKind)(a b:Int):f' P .lss t (p,.x (.one (.int k a))) (q,.x (.one (.int bu b)))=(p/\q/\k=bu,.x (.one (.bool (decide (a<b))))):=rfl
@[simp]def zDu(k bu:IntKind)(a b:Int):f' P .leq t (p,.x (.one (.int k a))) (q,.x (.one (.int bu b)))=(p/\q/\k=bu,.x (.one (.bool (decide (a<=b))))):=rfl
@[simp]def zDv(k bu:IntKind)(a b:Int):f' P .gtr t (p,.x (.one (.int k a))) (q,.x (.one (.int bu b)))=(p/\q/\k=bu,.x (.one (.bool (decide (b<a))))):=rfl
@[simp]def zDw(k bu:IntKind)(a b:Int):f' P .geq t (p,.x (.one (.int k a))) (q,.x (.one (.int bu b)))=(p/\q/\k=bu,.x (.one (.bool (decide (b<=a))))):=rfl
@[simp]def zDx(a b:List UInt8):f' P .add t (p,.x (.one (.str a))) (q,.x (.one (.str b)))=(p/\q/\a.length+b.length<=maxLen,.x (.one (.str (a++b)))):=rfl
@[simp]def zDy(a b:List UInt8):f' P .eql t (p,.x (.one (.str a))) (q,.x (.one (.str b)))=(p/\q/\True,.x (.one (.bool (a==b)))):=rfl
@[simp]def zDz(a b:List UInt8):f' P .neq t (p,.x (.one (.str a))) (q,.x (.one (.str b)))=(p/\q/\True,.x (.one (.bool (!(a==b))))):=rfl
@[simp]def zDA(a b:List UInt8):f' P .leq t (p,.x (.one (.str a))) (q,.x (.one (.str b)))=(p/\q/\True,.x (.one (.bool (eB a b ||a==b)))):=rfl
@[simp]def zDB(op:BinOp)(a:af):f' P op t (p,.x (.one a)) (q,.x (.one .nil))=Ek P op t p q (yN a):=by cases a<;>rfl
@[simp]def zDC(b:Bool):Ek P .eql t p q (some b)=(p/\q/\h4 P t=true,.x (.one (.bool b))):=rfl
@[simp]def zDD:yN .nil=some true:=rfl
@[simp]def zDE(z:Nat):yN (.empty z)=some false:=rfl
@[simp]def zDF(z:Nat)(x:List af)(r:List (List af)):yN (.list z (x::r))=some false:=rfl
@[simp]def zDG(a b:Bool):f' P .neq t (p,.x (.one (.bool a))) (q,.x (.one (.bool b)))=(p/\q/\P.underlying t=some .bool,.x (.one (.bool (a != b)))):=rfl
def F7(p q:Prop)(neg:Bool)(xs aQ:List af):Option (List fo)->Prop×ad
 |some aU=>(p/\q/\hj aU xs aQ,.x (.one (.bool (neg != hJ xs aQ))))
 |none=>(False,.dead)
@[simp]def zDH(neg:Bool)(xs aQ:List af)(aU:List fo):F7 p q neg xs aQ (some aU)=(p/\q/\hj aU xs aQ,.x (.one (.bool (neg != hJ xs aQ)))):=rfl
@[simp]def zDI(xs aQ:List af):f' P .eql t (p,.x (.agg xs)) (q,.x (.agg aQ))=F7 p q false xs aQ (pk P t):=by simp only[f',F7];cases pk P t<;>simp
@[simp]def zDJ(xs aQ:List af):f' P .neq t (p,.x (.agg xs)) (q,.x (.agg aQ))=F7 p q true xs aQ (pk P t):=by simp only[f',F7];cases pk P t<;>simp
@[simp]def zDK(b:Bool):Bv .not (p,.x (.one (.bool b)))=(p,.x (.one (.bool (!b)))):=rfl
@[simp]def zDL(k bu:IntKind)(a b:Int):Bu (p,.x (.one (.int k a))) (q,.x (.one (.int bu b)))=(p/\q,.x (.one (.int k (max a b)))):=rfl
@[simp]def zDM(k bu:IntKind)(a b:Int):yP (p,.x (.one (.int k a))) (q,.x (.one (.int bu b)))=(p/\q,.x (.one (.int k (min a b)))):=rfl
@[simp]def zDN(l:List UInt8)(k:IntKind)(n:Int):Bt P t (p,.x (.one (.str l))) (q,.x (.one (.int k n)))=(p/\q/\hx P t=true/\0<=n/\n<l.length,.x (.one (.int .u8 (l.getD n.toNat 0).toNat))):=rfl
def OR(p:Prop):Option az->Prop×ad
 |some v=>(p,.x v)
 |none=>(False,.dead)
@[simp]def zDO(v:az):OR p (some v)=(p,.x v):=rfl
@[simp]def zDP(vs:List az)(i:Nat):wX (p,.b2 vs) i=OR p (vs[i]?):=by simp only[wX,OR];cases vs[i]?<;>rfl
def OS(P:Program)(t:TypeId)(p d:Prop)(n:Int):Option IntKind->Prop×ad
 |some k=>(p/\d,.x (.one (.int k (k.wrap n))))
 |none=>(p/\d/\hx P t=true/\0<=n/\n<128,.x (.one (.str [UInt8.ofNat n.toNat])))
@[simp]def zDQ(d:Prop)(n:Int)(k:IntKind):OS P t p d n (some k)=(p/\d,.x (.one (.int k (k.wrap n)))):=rfl
@[simp]def zDR(t':TypeId)(k:IntKind)(n:Int):mF P s t t' (p,.x (.one (.int k n)))=OS P t' p ((P.underlying t).isSome=true) n (ov P t'):=by simp only[mF,OS];cases ov P t'<;>rfl
def F8(p a b:Prop):Option (List (List af))->Prop×ad
 |some xs=>(p/\a/\b/\okB xs,.x (.one (.str (ox xs))))
 |none=>(False,.dead)
@[simp]def zDS(p a b:Prop)(xs:List (List af)):F8 p a b (some xs)=(p/\a/\b/\okB xs,.x (.one (.str (ox xs)))):=rfl
def Vq(t':TypeId)(v:ad)(h:zeS v=false/\strOf v=none):mF P s t t' (p,v)=F8 p (wY P t=true) (hx P t'=true) (hy s 1 v):=by
 unfold mF F8;split
 ·rename_i e;injection e with _ e;rw[e]at h;cases h.1
 ·rename_i e;injection e with _ e;rw[e]at h;cases h.2
 ·rename_i e;injection e with av aI;subst av;subst aI;rfl
@[simp]def zDT(t':TypeId)(i:Nat):mF P s t t' (p,.alias i)=F8 p (wY P t=true) (hx P t'=true) (hy s 1 (.alias i)):=Vq P s t p t' _ ⟨rfl,rfl⟩
@[simp]def zDU(t':TypeId)(z:Nat)(xs:List (List af)):mF P s t t' (p,.x (.one (.list z xs)))=F8 p (wY P t=true) (hx P t'=true) (hy s 1 (.x (.one (.list z xs)))):=Vq P s t p t' _ ⟨rfl,rfl⟩
def OT(P:Program)(p:Prop)(t:TypeId)(l:List UInt8):Option (TypeId×Nat)->Prop×ad
 |some (e,_)=>(p/\hx P t=true/\pn P e=true,.own e 1 (bL l))
 |none=>(False,.dead)
@[simp]def zDV(P:Program)(p:Prop)(t:TypeId)(l:List UInt8)(e z:Nat):OT P p t l (some (e,z))=(p/\hx P t=true/\pn P e=true,.own e 1 (bL l)):=rfl
@[simp]def zDW(t':TypeId)(l:List UInt8):nQ P t t' (p,.x (.one (.str l)))=OT P p t l (fC P t'):=by unfold nQ OT;simp only[strOf];cases fC P t'<;>rfl
@[simp]def zDX(e:Bool)(a b:az):Bo (p,.x (.one (.bool e))) (q,.x a) (r,.x b)=(p/\(e=true->q)/\(e=false->r),.x (El e a b)):=rfl
@[simp]def zDY(e a b:Bool):El e (.one (.bool a)) (.one (.bool b))=.one (.bool (bif e then a else b)):=rfl
@[simp]def zDZ(k:bZ)(z:Option az)(cs:List af):js k z p (some cs)=tr k z p cs:=rfl
@[simp]def zEa(z:Option az)(c:af)(l:List af):tr .one z p (c::l)=(p,.x (.one c)):=rfl
@[simp]def zEb(x:az):tr .one (some x) p []=(False,.x x):=rfl
@[simp]def zEc(z:Option az)(n:Nat)(cs:List af):tr (.agg n) z p cs=(p/\n<=cs.length,.x (.agg (cs.take n))):=rfl
@[simp]def zEd(f:FuncId):iz (.x (.one (.atom (.func (.func f) ⟨[]⟩ ⟨[]⟩))))=some (f,[]):=rfl
@[simp]def zEe(f:FuncId)(caps:List af):iz (.x (.one (.ht f caps)))=some (f,caps.map .one):=rfl
@[simp]def zEf:bZ.cells .one=some 1:=rfl
@[simp]def zEg(n:Nat):bZ.cells (.agg n)=some n:=rfl
@[simp]def zEh(c:af):az.cells (.one c)=[c]:=rfl
@[simp]def zEi(cs:List af):az.cells (.agg cs)=cs:=rfl
@[simp]def zEj(v:az):bw.cP (.x v)=.x v:=rfl
@[simp]def zEk(v:List az):bw.cP (.b2 v)=.b2 v:=rfl
@[simp]def zEl{α:Type}(cs:List α)(off:Nat)(vs:List α):cl cs off vs=cs.take off++vs++cs.drop (off+vs.length):=rfl
end
@[congr]def zEm{q dQ:Prop×ad}(h:q=dQ):CJ q=CJ dQ:=by rw[h]
@[simp]def zEn(p:Prop)(cs:List af):CJ (p,.elem cs)=True:=rfl
section
variable (ops:Array Oper)(dst:Option Nat)(ty:TypeId)(pos:String)(after:Array Edge)(g:Option (Nat×Bool))
@[simp ↓]def zEo {ck}:eX ops (.move ck)=true:=rfl
@[simp ↓]def zEp {ck}:ib ⟨dst,.move ck,ty,pos,after,g⟩=false:=rfl
@[simp ↓]def zEq {ck cA db}:eX ops (.pick ck cA db)=true:=rfl
@[simp ↓]def zEr {ck cA db}:ib ⟨dst,.pick ck cA db,ty,pos,after,g⟩=false:=rfl
@[simp ↓]def zEs {ck}:eX ops (.alloc ck)=true:=rfl
@[simp ↓]def zEt {ck cA}:eX ops (.build ck cA)=true:=rfl
@[simp ↓]def zEu {ck cA}:ib ⟨dst,.build ck cA,ty,pos,after,g⟩=false:=rfl
@[simp ↓]def zEv {ck cA db}:eX ops (.buildSlice ck cA db)=true:=rfl
@[simp ↓]def zEw {ck cA}:eX ops (.load ck cA)=true:=rfl
@[simp ↓]def zEx {ck cA}:ib ⟨dst,.load ck cA,ty,pos,after,g⟩=false:=rfl
@[simp ↓]def zEy {ck cA db}:eX ops (.store ck cA db)=false:=rfl
@[simp ↓]def zEz {ck cA db}:kX ⟨dst,.store ck cA db,ty,pos,after,g⟩=g.isNone:=rfl
@[simp ↓]def zEA {ck}:eX ops (.nilCheck ck)=true:=rfl
@[simp ↓]def zEB {ck}:ib ⟨dst,.nilCheck ck,ty,pos,after,g⟩=false:=rfl
@[simp ↓]def zEC {ck cA db lD lE}:eX ops (.binOp ck cA db lD lE)=true:=rfl
@[simp ↓]def zED {ck cA db lD lE}:ib ⟨dst,.binOp ck cA db lD lE,ty,pos,after,g⟩=false:=rfl
@[simp ↓]def zEE {ck cA db}:eX ops (.convert ck cA db)=true:=rfl
@[simp ↓]def zEF {ck cA db lD lE}:eX ops (.slice ck cA db lD lE)=true:=rfl
@[simp ↓]def zEG {ck cA db}:eX ops (.fieldAddr ck cA db)=true:=rfl
@[simp ↓]def zEH {ck cA db}:ib ⟨dst,.fieldAddr ck cA db,ty,pos,after,g⟩=false:=rfl
@[simp ↓]def zEI {ck cA db}:eX ops (.indexAddr ck cA db)=true:=rfl
@[simp ↓]def zEJ {ck cA db}:eX ops (.index ck cA db)=true:=rfl
@[simp ↓]def zEK {ck cA db lD}:eX ops (.lookup ck cA db lD)=true:=rfl
@[simp ↓]def zEL {ck cA}:eX ops (.extract ck cA)=true:=rfl
@[simp ↓]def zEM {x}:kX ⟨dst,.assign x,ty,pos,after,g⟩=false:=rfl
@[simp ↓]def zEN {x}:ib ⟨dst,.assign x,ty,pos,after,g⟩=false:=rfl
@[simp ↓]def zEO {x}:kX ⟨dst,.call x,ty,pos,after,g⟩=false:=rfl
@[simp ↓]def zEP {f a ts}:eX ops (.call ⟨.value f,a,ts⟩)=true:=rfl
@[simp ↓]def zEQ {a ts}:eX ops (.call ⟨.builtin .append,a,ts⟩)=false:=rfl
@[simp ↓]def zER {a ts}:eX ops (.call ⟨.builtin .len,a,ts⟩)=true:=rfl
@[simp ↓]def zES {a ts}:eX ops (.call ⟨.builtin .min,a,ts⟩)=true:=rfl
@[simp ↓]def zET {v}:eX ops (.assign (.const v))=true:=rfl
end
def qU(t:Nat):List Oper->Bool
 |[]=>false
 |o::r=>(o.dst==some t&&zs o.op) ||qU t r
def z_(b x y:Bool):Bool:=match b with
 |true=>x
 |false=>y
@[congr]def zEU{b bg x y:Bool}(h:b=bg):z_ b x y=z_ bg x y:=by rw[h]
@[simp ↓]def zEV(x y:Bool):z_ true x y=x:=rfl
@[simp ↓]def zEW(x y:Bool):z_ false x y=y:=rfl
section
variable (t d:Nat)(op:Op)(ty:TypeId)(pos:String)(after:Array Edge)(g:Option (Nat×Bool))(r:List Oper)
@[simp ↓]def zEX:qU t []=false:=rfl
@[simp ↓]def zEY:qU t (⟨none,op,ty,pos,after,g⟩::r)=qU t r:=by simp[qU]
@[simp ↓]def zEZ:qU t (⟨some d,op,ty,pos,after,g⟩::r)=z_ (zW (decide (d=t))) (zs op ||qU t r) (qU t r):=by
 by_cases h:d=t
 ·subst h;simp[qU,z_]
 ·have:decide (d=t)=false:=by simpa using h
  simp[qU,z_,h]
end
@[simp ↓]def zFa{l:List Oper}{t:Nat}:eX ⟨l⟩ (.assign (.tmp t))=!(qU t l):=by
 show (!((⟨l⟩:Array Oper).toList.any fun o=>o.dst==some t&&zs o.op))=_;congr 1;induction l with
 |nil=>rfl
 |cons o r aX=>show ((o.dst==some t&&zs o.op) ||r.any fun o=>o.dst==some t&&zs o.op)=_;rw[qU,<-aX]
attribute [simp] m_ zs bw.flat az.flat af.flat nH hJ hj
section
variable {dst:Option Nat}{ty:TypeId}{pos:String}{after:Array Edge}{g:Option (Nat×Bool)}
@[simp ↓]def zFb {a ts}:kp ⟨dst,.call ⟨.builtin .append,a,ts⟩,ty,pos,after,none⟩=true:=rfl
end
section
variable (P:Program)(n:Nat)(fl:List Bool)(ops:Array Oper)(s:ag)(K:ag->Prop)
@[congr]def zFc{P:Program}{n:Nat}{fl bo:List Bool}{ops:Array Oper}{l:List Oper}{K:ag->Prop}{s s':ag}(h:s=s'):na P n fl ops bo l s K=na P n fl ops bo l s' K:=by rw[h]
def OU:ad->Prop
 |.own _ _ _=>True
 |_=>False
@[simp]def zFd(e z:Nat)(xs:List (List af)):OU (.own e z xs)=True:=rfl
def J6:Option (Option Nat×Option TypeId×Nat×List (List af))->Option Nat
 |some (some i,_)=>some i
 |_=>none
@[simp]def zFe(i:Nat)(q:Option TypeId×Nat×List (List af)):J6 (some (some i,q))=some i:=rfl
@[simp]def zFf(q:Option TypeId×Nat×List (List af)):J6 (some (none,q))=none:=rfl
@[simp]def zFg(v:ad):ie s v=J6 (gx s v):=by
 unfold ie;cases gx s v with
 |none=>rfl
 |some p=>obtain⟨a,b⟩:=p;cases a<;>rfl
@[simp]def zFh(d:Nat)(c:Callee)(x:Operand)(r:List Operand)(ts:Array TypeId) (ty pos after g):vK s fl ops ⟨some d,.call ⟨c,⟨x::r⟩,ts⟩,ty,pos,after,g⟩=Cd s d fl ops (ie s (aG s x).2):=rfl
attribute [simp] iE tZ pM ei T7
@[simp]def zFi(d g:Nat):Cd s d fl ops (some g)=((g=d\/(s d).aM=false)/\nT g fl ops.toList=true):=rfl
@[simp]def zFj(d:Nat):Cd s d fl ops none=((s d).aM=false):=rfl
@[simp]def zFk(g:Nat)(fl:List Bool):nT g fl []=true:=by cases fl<;>rfl
@[simp]def zFl(g:Nat)(bo:List Bool)(o:Oper)(r:List Oper):nT g (false::bo) (o::r)=nT g bo r:=by simp[nT]
@[simp]def zFm(g k:Nat):vI g (.move (.tmp k))=(k==g):=rfl
@[simp]def zFn(g:Nat)(t:TypeId)(x:Operand):vI g (.load t x)=false:=rfl
@[simp]def zFo(g:Nat)(t:TypeId)(x:Operand)(f:Nat):vI g (.fieldAddr t x f)=false:=rfl
@[simp]def zFp(g:Nat)(t:TypeId) (pF):vI g (.build t pF)=false:=rfl
@[simp]def zFq(g:Nat)(t:TypeId) (k) (pF):vI g (.buildSlice t k pF)=false:=rfl
@[simp]def zFr(g d:Nat)(bo:List Bool)(op:Op) (ty pos after zn) (r:List Oper):nT g (true::bo) (⟨some d,op,ty,pos,after,zn⟩::r)=(!decide (d=g)&&(!vI g op&&nT g bo r)):=by
 have:((some d:Option Nat) != some g)=!decide (d=g):=by
  by_cases h:d=g
  ·subst h;simp
  ·rw[nb h,Bool.not_false,xE];intro e;injection e with e;exact h e
 simp only[nT,Bool.not_true,va];show (((some d:Option Nat) != some g)&&!vI g op&&nT g bo r)=_
 rw[this,Bool.and_assoc]
end
def xT(P:Program)(g:FuncId)(i off:Nat)[k:jB (ad->Prop)]:Prop:=∃bQ,zC P g bQ/\k.val (.cr bQ [.inr (i,off+1000000)])
def xT.of{P:Program}{g bQ:FuncId}{i off:Nat}{k:ad->Prop}(h:zC P g bQ)(am:k (.cr bQ [.inr (i,off+1000000)])):@xT _ P g i off ⟨k⟩:=⟨bQ,h,am⟩
def CX(P:Program)(f:Option (FuncId×List az))(p:Prop)(x:Prop×ad)(k:ad->Prop):Prop:=match f,x with
 |some (g,[]),(q,.ptr i off)=>p/\q/\@xT _ P g i off ⟨k⟩
 |_,_=>False
@[congr]def zFs{P:Program}{f tG:Option (FuncId×List az)}{p i6:Prop}{x bH:Prop×ad}{k:ad->Prop}(aa:f=tG)(ab:p=i6)(ar:x=bH):CX P f p x k=CX P tG i6 bH k:=by rw[aa,ab,ar]
@[simp]def zFt(P:Program)(g:FuncId)(p q:Prop)(i off:Nat)(k:ad->Prop):CX P (some (g,[])) p (q,.ptr i off) k=(p/\q/\@xT _ P g i off ⟨k⟩):=rfl
def zeZ{P:Program}{f x:Prop×ad}{k:ad->Prop}:(∃r,FI P f x r/\k r)=CX P (iz f.2) f.1 x k:=by
 apply propext;unfold FI CX xT;generalize iz f.2=q;obtain⟨zab,v⟩:=x;cases q with
 |none=>exact⟨fun ⟨_,h,_⟩=>h.elim,fun h=>h.elim⟩
 |some zfa=>
  obtain⟨g,l⟩:=zfa;cases l with
  |cons a r=>exact⟨fun ⟨_,h,_⟩=>h.elim,fun h=>h.elim⟩
  |nil=>
   cases v with
   |ptr i off=>exact⟨fun ⟨r,⟨ak,br,bQ,hm,an⟩,am⟩=>⟨ak,br,bQ,hm,by subst an;exact am⟩,fun ⟨ak,br,bQ,hm,am⟩=>⟨_,⟨ak,br,bQ,hm,rfl⟩,am⟩⟩
   |_=>exact⟨fun ⟨_,h,_⟩=>h.elim,fun h=>h.elim⟩
section
variable (P:Program)(n:Nat)(ops:Array Oper)(s:ag)(K:ag->Prop)
@[simp]def zFu(d:Nat)(f x:Operand)(ts:Array TypeId) (ty pos after g):vM P n ops ⟨some d,.call ⟨.value f,⟨[x]⟩,ts⟩,ty,pos,after,some g⟩ s K=(d<n/\(s d).aM=false/\e9 (c1 ops s g) (fun e=>uj e (CX P (iz (aG s f).2) (aG s f).1 (aG s x) (fun r=>K (put s d (.cond true r)))) (K (put s d (.cond false (.x (.one (.bool false)))))))):=by
 rw[<-zeZ];show (d<n/\(s d).aM=false/\(match c1 ops s g with|some true=>_|some false=>_|none=>False))=_
 cases c1 ops s g with
 |none=>rfl
 |some e=>cases e<;>rfl
@[congr]def zFv{P:Program}{n:Nat}{ops:Array Oper}{o:Oper}{K:ag->Prop}{s s':ag}(h:s=s'):vM P n ops o s K=vM P n ops o s' K:=by rw[h]
@[congr]def zFw{P:Program}{n:Nat}{fl bo:List Nat}{ops:Array Oper}{l:List Oper}{K:ag->Prop}{s s':ag}(h:s=s'):ew P n fl ops bo l s K=ew P n fl ops bo l s' K:=by rw[h]
variable (fl:List Nat)
@[simp ↓]def zFx(bo:List Nat):ew P n fl ops bo [] s K=K s:=by simp only[ew]
@[simp]def zFy(bo:List Nat)(o:Oper)(r:List Oper):ew P n fl ops (0::bo) (o::r) s K=bN P n ops [o] (dh s) (fun s'=>ew P n fl ops bo r (dh s') K):=rfl
@[simp]def zFz(bo:List Nat)(o:Oper)(r:List Oper):ew P n fl ops (1::bo) (o::r) s K=dn P n ops o (dh s) (fun s'=>ew P n fl ops bo r (dh s') K):=rfl
@[simp]def zFA(bo:List Nat)(o:Oper)(r:List Oper):ew P n fl ops (2::bo) (o::r) s K=vM P n ops o (dh s) (fun s'=>ew P n fl ops bo r (dh s') K):=rfl
@[simp]def zFB(bo:List Nat)(o:Oper)(r:List Oper):ew P n fl ops (4::bo) (o::r) s K=(kp o=true/\vK (dh s) (xI fl) ops o/\bN P n ops [o] (dh s) (fun s'=>ew P n fl ops bo r (dh s') K)):=rfl
@[simp]def zFC(bo:List Nat)(o:Oper)(r:List Oper):ew P n fl ops (5::bo) (o::r) s K=(Cl (dh s) o/\bN P n ops [o] (dh s) (fun s'=>ew P n fl ops bo r (dh s') K)):=rfl
@[simp]def zFD(bo:List Nat)(o:Oper)(r:List Oper):ew P n fl ops (6::bo) (o::r) s K=(xH o=true/\iE P (dh s) o.op/\dn P n ops o (dh s) (fun s'=>ew P n fl ops bo r (dh s') K)):=rfl
@[simp]def zFE(bo:List Nat)(o:Oper)(r:List Oper):ew P n fl ops (7::bo) (o::r) s K=(iE P (dh s) o.op/\dn P n ops o (dh s) (fun s'=>ew P n fl ops bo r (dh s') K)):=rfl
@[simp]def zFF(bo:List Nat)(o:Oper)(r:List Oper):ew P n fl ops (8::bo) (o::r) s K=(pO (dh s) o/\dn P n ops o (dh s) (fun s'=>ew P n fl ops bo r (dh s') K)):=rfl
@[simp]def zFG(bo:List Nat)(o:Oper)(r:List Oper):ew P n fl ops (9::bo) (o::r) s K=(kp o=true/\vK (dh s) (vL fl) ops o/\bN P n ops [o] (dh s) (fun s'=>ew P n fl ops bo r (dh s') K)):=rfl
@[simp]def zFH:vL []=[]:=rfl
@[simp]def zFI(k:Nat)(l:List Nat):vL (k::l)=(k==6 ||k==7)::vL l:=rfl
@[simp]def zFJ(d:Option Nat)(k:Nat) (ty pos after):pO s ⟨d,.move (.tmp k),ty,pos,after,none⟩=OU (s k):=by
 unfold pO OU;apply propext;constructor
 ·rintro⟨bu,e,z,xs,aa,_,ar⟩;obtain rfl:k=bu:=by simpa using aa
  simp[ar]
 ·intro h;cases ap:s k<;>rw[ap]at h<;>first|(exact⟨k,_,_,_,rfl,rfl,ap⟩)|exact h.elim
@[simp]def zFK:xI []=[]:=rfl
@[simp]def zFL(k:Nat)(l:List Nat):xI (k::l)=(k==6 ||k==7 ||k==8)::xI l:=rfl
@[simp]def zFM(d:Option Nat)(x:Operand) (ty pos after):xH ⟨d,.move x,ty,pos,after,none⟩=true:=rfl
@[simp]def zFN(t:TypeId)(a x:Operand) (ty pos after):Cl s ⟨none,.store t a x,ty,pos,after,none⟩=((jv s (aG s a) (aG s x)).isSome=true):=by simp[Cl]
end
end Go.Ab
namespace Go.Ab
open Go Go.RowKit
variable [bf]
def mk:List (Nat×ad)->ag
 |[]=>FT
 |(i,v)::r=>fh (mk r) i v
@[simp]def zFO:mk []=FT:=rfl
@[simp]def OV(i:Nat)(v:ad)(r:List (Nat×ad)):mk ((i,v)::r)=fh (mk r) i v:=rfl
def iQ(a v:ad):Prop:=match v with
 |.own _ _ []=>a=v\/a=.x (.one .nil)
 |v=>a=v
def F9(s:ag)(full:List (Nat×ad)):List (af⊕(Nat×Nat))->Prop
 |[]=>True
 |.inl _::r=>F9 s full r
 |.inr p::r=>mk full p.1=s p.1/\F9 s full r
def J7(s:ag)(full:List (Nat×ad)):ad->Prop
 |.ptr j _=>mk full j=s j
 |.ds j _=>mk full j=s j
 |.dX j _ _=>mk full j=s j
 |.alias j=>mk full j=s j
 |.view j _ _ _=>mk full j=s j
 |.cr _ caps=>F9 s full caps
 |.cond _ v=>J7 s full v
 |.link i _ d=>mk full i=s i/\mk full d=s d
 |_=>True
def nW(s:ag)(full:List (Nat×ad)):List (Nat×ad)->Prop
 |[]=>True
 |(i,v)::r=>iQ (s i) v/\J7 s full v/\nW s full r
def OW{s:ag}{full:List (Nat×ad)}{j:Nat}:∀{caps:List (af⊕(Nat×Nat))},F9 s full caps->caps.any (j_ j)=true->mk full j=s j
 |.inl _::r,h,an=>OW (caps:=r) h (by simpa using an)
 |.inr p::r,h,an=>by
  simp only[zg,zeJ,eO,fB]at an;rcases an with an|an
  ·subst an;exact h.1
  ·exact OW (caps:=r) h.2 an
def zfb{s:ag}{full:List (Nat×ad)}{j:Nat}:∀{v:ad},J7 s full v->v.refs j=true->mk full j=s j:=by
 intro v;induction v with
 |ptr i o=>intro h an;simp at an;subst an;exact h
 |ds i o=>intro h an;simp at an;subst an;exact h
 |dX i o k=>intro h an;simp at an;subst an;exact h
 |alias i=>intro h an;simp at an;subst an;exact h
 |view i aK len wh=>intro h an;simp at an;subst an;exact h
 |cr f caps=>intro h an;exact OW h an
 |cond e v aX=>intro h an;simp at an;exact aX h an
 |link i o d=>
  intro h an;simp at an;rcases an with rfl|rfl
  ·exact h.1
  ·exact h.2
 |_=>intro h an;cases an
def nW.at{s:ag}{full:List (Nat×ad)}:∀{l:List (Nat×ad)},nW s full l->∀i,(mk l i=s i\/mk l i=.dead\/(s i=.x (.one .nil)/\∃e size,mk l i=.own e size []))/\∀j,(mk l i).refs j=true->mk full j=s j
 |[],_,i=>⟨.inr (.inl rfl),fun j h=>by cases h⟩
 |(k,v)::r,h,i=>by
  obtain⟨aa,ab,ar⟩:=h;have aX:=nW.at ar i;simp only[OV,FU];split
  ·rename_i am;subst am;refine⟨?_,fun j ac=>zfb ab ac⟩;unfold iQ at aa;split at aa
   ·rcases aa with aa|aa
    ·exact .inl aa.symm
    ·exact .inr (.inr ⟨aa,_,_,rfl⟩)
   ·exact .inl aa.symm
  ·exact aX
def Vr{s:ag}{l:List (Nat×ad)}(h:nW s l l):xL s (mk l):=⟨s,.inl rfl,[],fun i=>(nW.at h i).1,fun i j ac=>(nW.at h i).2 j ac⟩
def zfc{s:ag}{l:List (Nat×ad)}{i c:Nat}{bs:List Nat}{es:List (az×az)}(hP:List (az×az))(ai:s i=.mp c bs es)(he:Ih s es hP)(h:nW (u9 s i c bs hP) l l):xL s (mk l):=⟨_,.inr ⟨i,c,bs,es,hP,ai,he,rfl⟩,[],fun i=>(nW.at h i).1,fun i j ac=>(nW.at h i).2 j ac⟩
attribute [simp] J7 nW F9
section
variable (a:ad)
@[simp]def zFP:iQ a .dead=(a=.dead):=rfl
@[simp]def zFQ(v:az):iQ a (.x v)=(a=.x v):=rfl
@[simp]def zFR(v:List az):iQ a (.b2 v)=(a=.b2 v):=rfl
@[simp]def zFS(v:List af):iQ a (.box v)=(a=.box v):=rfl
@[simp]def zFT(s o:Nat):iQ a (.ptr s o)=(a=.ptr s o):=rfl
@[simp]def zFU(s o:Nat):iQ a (.ds s o)=(a=.ds s o):=rfl
@[simp]def zFV(b:Nat)(v:List af):iQ a (.cf b v)=(a=.cf b v):=rfl
@[simp]def zFW(b c:Nat)(bs:List Nat)(es:List (az×az)):iQ a (.fc b c bs es)=(a=.fc b c bs es):=rfl
@[simp]def zFX(g:Value)(e z:Nat)(v:List (List af)):iQ a (.cT g e z v)=(a=.cT g e z v):=rfl
@[simp]def zFY(s i o:Nat):iQ a (.dX s i o)=(a=.dX s i o):=rfl
@[simp]def zFZ(v:List af):iQ a (.elem v)=(a=.elem v):=rfl
@[simp]def zGa(s:Nat):iQ a (.alias s)=(a=.alias s):=rfl
@[simp]def zGb(s aK len:Nat)(wh:Bool):iQ a (.view s aK len wh)=(a=.view s aK len wh):=rfl
@[simp]def zGc(f:FuncId)(caps:List (af⊕(Nat×Nat))):iQ a (.cr f caps)=(a=.cr f caps):=rfl
@[simp]def zGd(e:Bool)(v:ad):iQ a (.cond e v)=(a=.cond e v):=rfl
@[simp]def zGe(i o d:Nat):iQ a (.link i o d)=(a=.link i o d):=rfl
@[simp]def zGf(l:List (Nat×Nat)):iQ a (.res l)=(a=.res l):=rfl
@[simp]def zGg(e z bV h7:Nat)(xs dS:List (List af)):iQ (.own e z xs) (.own bV h7 dS)=(ad.own e z xs=.own bV h7 dS):=by
 unfold iQ;split
 ·rename_i h;injection h with aa ab ar;subst aa;subst ab;subst ar;simp
 ·rfl
@[simp]def zGh(c:Nat)(bs:List Nat)(es:List (az×az)):iQ a (.mp c bs es)=(a=.mp c bs es):=rfl
@[simp]def zGi(e z:Nat)(xs:List (List af)):iQ (.x (.one .nil)) (.own e z xs)=(xs=[]):=by
 unfold iQ;split
 ·rename_i h;injection h with aa ab ar;subst ar;simp
 ·rename_i h;have:xs≠[]:=by rintro rfl;exact h _ _ rfl
  simp[this]
end
def bI{ι:Type}[I:jB (ι->List (Nat×ad))][ok:jB (ι->Prop)][μ:jB (ι->Nat)](m:Nat)(s:ag):Prop:=∃y,ok.val y/\μ.val y<m/\xL s (mk (I.val y))
def bI.of{ι:Type}{I:ι->List (Nat×ad)}{ok:ι->Prop}{μ:ι->Nat}{m:Nat}{s:ag}(y:ι)(aa:ok y)(ab:μ y<m)(ar:nW s (I y) (I y)):@bI ι ⟨I⟩ ⟨ok⟩ ⟨μ⟩ m s:=⟨y,aa,ab,Vr ar⟩
def cI.of{body:(Exit->ag->Prop)->ag->Prop}{Q:Exit->ag->Prop}{s:ag}(ι:Type)(I:ι->List (Nat×ad))(ok:ι->Prop)(μ:ι->Nat)(x:ι)(aj:ok x)(ap:nW s (I x) (I x))
  (h:∀x,ok x->body (qQ (@bI ι ⟨I⟩ ⟨ok⟩ ⟨μ⟩ (μ x)) Q) (mk (I x))):@cI ⟨body⟩ ⟨Q⟩ s:=⟨ι,fun x=>mk (I x),ok,μ,⟨x,aj,Vr ap⟩,h⟩
def sF(G e z:Nat):List (Value×List (List af))->Nat->List (Nat×ad)
 |[],_=>[]
 |x::r,k=>(G+k,.cT x.1 e z x.2)::sF G e z r (k+1)
def OX{G e z i:Nat}:∀{l:List (Value×List (List af))} {k:Nat},(∀j,j<l.length->i≠G+(k+j))->mk (sF G e z l k) i=.dead
 |[],_,_=>rfl
 |x::r,k,h=>by simp only[sF,OV,FU];rw[au (by have:=h 0 (by simp);simpa using this)];exact OX fun j ac=>by have:=h (j+1) (by simpa using ac);rwa[show k+(j+1)=k+1+j by omega]at this
@[simp]def zGj{G e z i k:Nat}{l:List (Value×List (List af))}(h:i<G):mk (sF G e z l k) i=.dead:=OX fun j _=>by omega
def zfd{G e z i k:Nat}{l:List (Value×List (List af))}(h:G+(k+l.length)<=i):mk (sF G e z l k) i=.dead:=OX fun j ac=>by omega
def uk{G e z:Nat}:∀{l:List (Value×List (List af))} {k j:Nat} {x:Value×List (List af)},l[j]?=some x->mk (sF G e z l k) (G+(k+j))=.cT x.1 e z x.2
 |y::r,k,0,x,h=>by simp at h;subst h;simp[sF]
 |y::r,k,j+1,x,h=>by simp only[sF,OV,FU];rw[au (by omega),show k+(j+1)=k+1+j by omega];exact uk (by simpa using h)
def xU{s:ag}{full:List (Nat×ad)}{G e z:Nat}:∀{l:List (Value×List (List af))} {k:Nat},(∀j x,l[j]?=some x->s (G+(k+j))=.cT x.1 e z x.2)->nW s full (sF G e z l k)
 |[],_,_=>trivial
 |x::r,k,h=>⟨by have:=h 0 x rfl;simp only[ti]at this;simp[this],trivial,xU fun j y ac=>by have:=h (j+1) y (by simpa using ac);rwa[show k+(j+1)=k+1+j by omega]at this⟩
attribute [simp] ad.kP r3
@[simp]def zGk(s:ag)(i c:Nat)(bs:List Nat)(es:List (az×az))(k:Nat):u9 s i c bs es k=if k=i then .mp c bs es else if (s k).kP ||r3 s (s k)then .dead else s k:=rfl
def cI.zfe{body:(Exit->ag->Prop)->ag->Prop}{Q:Exit->ag->Prop}{s:ag}(i:Nat){c:Nat}{bs:List Nat}{es:List (az×az)}(hP:List (az×az))(ι:Type)(I:ι->List (Nat×ad))(ok:ι->Prop)(μ:ι->Nat)(x:ι)(aj:ok x)
  (ai:s i=.mp c bs es)(he:Ih s es hP)(ap:nW (u9 s i c bs hP) (I x) (I x))
  (h:∀x,ok x->body (qQ (@bI ι ⟨I⟩ ⟨ok⟩ ⟨μ⟩ (μ x)) Q) (mk (I x))):@cI ⟨body⟩ ⟨Q⟩ s:=⟨ι,fun x=>mk (I x),ok,μ,⟨x,aj,zfc hP ai he ap⟩,h⟩
def CY(P:Program)(rs:List ResultVar)(r:bw)(e:Exit)(s:ag):Prop:=(e=.normal\/e=.ret)/\jA P s rs [] r
@[congr]def zGl{P:Program}{rs:List ResultVar}{r:bw}{e:Exit}{s s':ag}(h:s=s'):CY P rs r e s=CY P rs r e s':=by rw[h]
@[congr]def zGm{r:bw}{q dQ:Prop×Option (List az)}(h:q=dQ):pQ r q=pQ r dQ:=by rw[h]
@[simp]def zGn(r:bw)(p:Prop)(x:az):pQ r (p,some [x])=(p/\tP r (.x x)):=rfl
@[simp]def zGo(r:bw)(p:Prop):pQ r (p,some [])=(p/\tP r (.b2 [])):=rfl
@[simp]def zGp(r:bw)(p:Prop)(x y:az)(l:List az):pQ r (p,some (x::y::l))=(p/\tP r (.b2 (x::y::l))):=rfl
@[simp]def zGq(P:Program)(rs:List ResultVar)(r:bw)(s:ag):CY P rs r .ret s=jA P s rs [] r:=by simp only[CY,or_true,kZ]
section
variable (P:Program)(s:ag)(outs:List ad)(e z:Nat)(xs:List (List af))
@[simp]def zGr(rs:List ResultVar)(v:az):jA P s rs outs (.x v)=pQ (.x v) (oX P s rs):=rfl
@[simp]def zGs(rs:List ResultVar)(v:List az):jA P s rs outs (.b2 v)=pQ (.b2 v) (oX P s rs):=rfl
@[simp]def zGt(t:Nat):jA P s [.tmp t] outs (.own e z xs)=xO s outs e z xs t (s t):=rfl
@[congr]def zGu{s:ag}{outs:List ad}{e z:Nat}{xs:List (List af)}{t:Nat}{v cz:ad}(h:v=cz):xO s outs e z xs t v=xO s outs e z xs t cz:=by rw[h]
@[simp]def zGv(t bV h7:Nat)(aQ:List (List af)):xO s outs e z xs t (.own bV h7 aQ)=(bV=e/\h7=z/\xs=aQ/\pR outs t):=rfl
@[simp]def zGw(t:Nat):xO s outs e z xs t (.x (.one .nil))=(xs=[]):=rfl
@[congr]def zGx{outs:List ad}{e z:Nat}{xs:List (List af)}{i:Nat}{len:Option Nat}{v cz:ad}(h:v=cz):vP outs e z xs i len v=vP outs e z xs i len cz:=by rw[h]
@[simp]def zGy(i:Nat):pR [] i=True:=by simp only[pR]
@[simp]def zGz(o:ad)(r:List ad)(i:Nat):pR (o::r) (i+1)=pR r i:=rfl
end
def xV(P:Program)(rs:List ResultVar)(r:bw)(outs:List ad)(e:Exit)(s:ag):Prop:=(e=.normal\/e=.ret)/\jA P s rs outs r/\hU (hT s rs r) 0 outs
@[congr]def zGA{P:Program}{rs:List ResultVar}{r:bw}{outs:List ad}{e:Exit}{s s':ag}(h:s=s'):xV P rs r outs e s=xV P rs r outs e s':=by rw[h]
@[simp]def zGB(P:Program)(rs:List ResultVar)(r:bw)(outs:List ad)(s:ag):xV P rs r outs .normal s=(jA P s rs outs r/\hU (hT s rs r) 0 outs):=by simp only[xV,true_or,kZ]
@[simp]def zGC(P:Program)(rs:List ResultVar)(r:bw)(outs:List ad)(s:ag):xV P rs r outs .ret s=(jA P s rs outs r/\hU (hT s rs r) 0 outs):=by simp only[xV,or_true,kZ]
@[congr]def zGD{s s':ag}{k:Nat}{outs:List ad}(h:s=s'):hU s k outs=hU s' k outs:=by rw[h]
@[simp]def zGE(s:ag)(rs:List ResultVar)(v:az):hT s rs (.x v)=dt s (dc s (rs.map nU)):=rfl
@[simp]def zGF(s:ag)(rs:List ResultVar)(v:List az):hT s rs (.b2 v)=dt s (dc s (rs.map nU)):=rfl
@[simp]def zGG(s:ag)(rs:List ResultVar)(e z:Nat)(xs:List (List af)):hT s rs (.own e z xs)=s:=rfl
@[simp]def zGH(t:Nat):nU (.tmp t)=.tmp t:=rfl
@[simp]def zGI(t:Nat)(ty:TypeId):nU (.cell t ty)=.const (.bool true):=rfl
@[simp]def zGJ(s:ag)(k:Nat):hU s k []=True:=rfl
@[simp]def zGK(s:ag)(k:Nat)(r:List ad):hU s k (.dead::r)=hU s (k+1) r:=by simp only[hU,kZ]
@[simp]def zGL(s:ag)(k:Nat)(cs:List af)(r:List ad):hU s k (.box cs::r)=(s k=.box cs/\hU s (k+1) r):=rfl
@[simp]def zGM(s:ag)(k e z:Nat)(xs:List (List af))(r:List ad):hU s k (.own e z xs::r)=(s k=.own e z xs/\hU s (k+1) r):=rfl
@[simp]def zGN(s:ag)(k b:Nat)(cs:List af)(r:List ad):hU s k (.cf b cs::r)=(s k=.cf b cs/\hU s (k+1) r):=rfl
@[simp]def zGO(k:Nat):ig [] k=FT:=rfl
@[simp]def zGP(x:ad)(r:List ad)(k:Nat):ig (x::r) k=fh (ig r (k+1)) k x:=rfl
def aD.of[Hint]{P:Program}{f:FuncId}{fn:Func}{c:Code}{args:List az}{r:bw}(hm:P.follows .mixedOrders=true)(ay:P.funcs[f]?=some fn) (fO:(fn.name== "runtime.NumGoroutine")=false)
  (ae:fn.body=some c)(aE:codeOk c=true)(al:args.length<=fn.ntmps)(h:(∀x∈args,x.ok)->e2 P fn.ntmps c (CY P fn.results.toList r) (ug args 0)):aD P f args r:=aD.mk hm ay fO ae aE al h
def cB.of[Hint]{P:Program}{f:FuncId}{fn:Func}{c:Code}{args:List ad}{r:bw}{outs:List ad}(hm:P.follows .mixedOrders=true)(ay:P.funcs[f]?=some fn) (fO:(fn.name== "runtime.NumGoroutine")=false)
  (ae:fn.body=some c)(aE:codeOk c=true)(dI:jZ (ks outs) c=true)(eF:gd args outs=true)(al:args.length<=fn.ntmps)(h:(∀x∈args,x.ok)->e2 P fn.ntmps c (xV P fn.results.toList r outs) (ig args 0)):cB P f args r outs:=
 cB.mk hm ay fO ae aE dI al eF (fun _ _ h=>h) h
def aD.a6[Hint]{P:Program}{f:FuncId}{c:Code}{args:List az}{r:bw}(fn:Func)(hm:P.follows .mixedOrders=true)(h:(∀x∈args,x.ok)->e2 P fn.ntmps c (CY P fn.results.toList r) (ug args 0))(ay:P.funcs[f]?=some fn:=by kernel_rfl)(fO:(fn.name == "runtime.NumGoroutine")=false:=by kernel_rfl)(ae:fn.body=some c:=by exact rfl)(aE:codeOk c=true:=by kernel_rfl)(al:args.length<=fn.ntmps:=by exact Nat.le_of_ble_eq_true rfl):aD P f args r:=aD.of hm ay fO ae aE al h
def cB.a6[Hint]{P:Program}{f:FuncId}{c:Code}{args:List ad}{r:bw}{outs:List ad}(fn:Func)(hm:P.follows .mixedOrders=true)(h:(∀x∈args,x.ok)->e2 P fn.ntmps c (xV P fn.results.toList r outs) (ig args 0))(ay:P.funcs[f]?=some fn:=by kernel_rfl)(fO:(fn.name == "runtime.NumGoroutine")=false:=by kernel_rfl)(ae:fn.body=some c:=by exact rfl)(aE:codeOk c=true:=by kernel_rfl)(dI:jZ (ks outs) c=true:=by kernel_rfl)(eF:gd args outs=true:=by exact rfl)(al:args.length<=fn.ntmps:=by exact Nat.le_of_ble_eq_true rfl):cB P f args r outs:=cB.of hm ay fO ae aE dI eF al h
def CZ(P:Program)(rs:List ResultVar)(kt:List (Nat×Nat))(r:bw)(outs:List ad)(e:Exit)(s:ag):Prop:=(e=.normal\/e=.ret)/\jA P (me s kt) rs outs r/\hU (hT (me s kt) rs r) 0 outs
@[congr]def zGQ{P:Program}{rs:List ResultVar}{kt:List (Nat×Nat)}{r:bw}{outs:List ad}{e:Exit}{s s':ag}(h:s=s'):CZ P rs kt r outs e s=CZ P rs kt r outs e s':=by rw[h]
@[simp]def zGR(P:Program)(rs:List ResultVar)(kt:List (Nat×Nat))(r:bw)(outs:List ad)(s:ag):CZ P rs kt r outs .ret s=(jA P (me s kt) rs outs r/\hU (hT (me s kt) rs r) 0 outs):=by simp only[CZ,or_true,kZ]
def cB.J8[Hint](cG kt:List (Nat×Nat)){P:Program}{f:FuncId}{fn:Func}{c:Code}{args:List ad}{r:bw}{outs:List ad}(fk:args.length<=999999)(hm:P.follows .mixedOrders=true)(ay:P.funcs[f]?=some fn) (fO:(fn.name== "runtime.NumGoroutine")=false)
  (ae:fn.body=some c)(aE:codeOk c=true)(dI:jZ (ks outs) c=true)(eF:gd args outs=true)(al:args.length<=fn.ntmps)(h:(∀x∈args,x.ok)->e2 P fn.ntmps c (CZ P fn.results.toList kt r outs) (sA (ig args 0) cG)):cB P f args r outs:=
 cB.Om hm ay fO ae aE dI al eF cG kt (.inr fk) (fun _ _ h=>h) h
def aD.J8[Hint](cG kt:List (Nat×Nat)){P:Program}{f:FuncId}{fn:Func}{c:Code}{args:List az}{r:bw}(fk:args.length<=999999)(hm:P.follows .mixedOrders=true)(ay:P.funcs[f]?=some fn) (fO:(fn.name== "runtime.NumGoroutine")=false)
  (ae:fn.body=some c)(aE:codeOk c=true)(al:args.length<=fn.ntmps)(h:(∀x∈args,x.ok)->e2 P fn.ntmps c (CZ P fn.results.toList kt r (args.map fun _=>ad.dead)) (sA (ug args 0) cG)):aD P f args r:=by
 refine aD.ofM (cB.Om hm ay fO ae aE (by rw[JE];exact JA c) (by simpa using al) (JG args) cG kt (.inr (by simpa using fk)) (fun _ _ h=>h) (fun aj=>?_));rw[<-Oj args 0];exact h (fun x hm=>aj (.x x) (hh.2 ⟨x,hm,rfl⟩))
def cg.zff{w:World}{S:Nat->Prop}{v:Value}(size:Nat)(h:cg w S (.one .nil) v):cg w S (.one (.list size [])) v:=by cases h;exact .kH none 0 size (by decide) (fun _=>rfl)
def OY(c c':af):Prop:=c=c'\/(c=.nil/\∃size,c'=.list size [])
def z':List af->List af->Prop
 |[],[]=>True
 |c::r,c'::ca=>OY c c'/\z' r ca
 |_,_=>False
def z'.at:∀{cs cs':List af},z' cs cs'->cs.length=cs'.length/\∀(j:Nat) (c':af),cs'[j]?=some c'->∃c,cs[j]?=some c/\OY c c'
 |[],[],_=>⟨rfl,fun j c' h=>by simp at h⟩
 |c::r,c'::ca,h=>by
  obtain⟨aa,ab⟩:=z'.at h.2;refine⟨by simp[aa],fun j d ac=>?_⟩;cases j with
  |zero=>simp at ac;subst ac;exact⟨c,rfl,h.1⟩
  |succ j=>simp at ac;exact ab j d ac
def cg.le{w:World}{S:Nat->Prop}{v:Value}{cs cs':List af}(h:z' cs cs')(an:cg w S (.agg cs) v):cg w S (.agg cs') v:=by
 obtain⟨us,aH,al,aj⟩:=an;obtain⟨aa,ab⟩:=z'.at h;refine⟨us,aH,by rw[al,aa],fun j c' ac=>?_⟩;obtain⟨c,ao,hle⟩:=ab j c' ac;obtain⟨u,hu,bU⟩:=aj j c ao;rcases hle with rfl|⟨rfl,size,rfl⟩
 ·exact⟨u,hu,bU⟩
 ·exact⟨u,hu,cg.zff size bU⟩
def aD.zfg{P:Program}{f:FuncId}{cs cs':List af}{r:bw}(h:z' cs cs')(ao:aD P f [.agg cs'] r):aD P f [.agg cs] r:=by
 refine⟨ao.1,fun w S vs bW bj=>ao.2 w S vs bW ⟨bj.1,fun j x ac=>?_⟩⟩;cases j with
 |zero=>simp at ac;subst ac;obtain⟨u,hu,an⟩:=bj.2 0 _ rfl;exact⟨u,hu,cg.le h an⟩
 |succ j=>simp at ac
def Vs{P:Program}{fR:Env}{w:World}{args:List ad}{vs:Array Value}{n m:Nat}(k1:ph fR w)(fJ:BP w fR args vs)(al:args.length<=n) :
  Rel ⟨fR.rd,fR.eA,m,b8 vs⟩ w n (ig args 0) {tmps:=vs++Array.replicate (n-vs.size) undef,defers:=[]} w:=by
 have b':vs.size<=n:=iJ fJ.size al;have g9:∀i,aJ {tmps:=vs++Array.replicate (n-vs.size) undef,defers:=[]} i=b8 vs i:=by
  intro i;simp only[aJ,b8,lg,Oo];split
  ·rfl
  ·rename_i ai;rw[Cv (by omega:vs.size<=i),Oq];split<;>rfl
 have Ot:aJ {tmps:=vs++Array.replicate (n-vs.size) undef,defers:=[]}=b8 vs:=funext g9;have fE:ph ⟨fR.rd,fR.eA,m,b8 vs⟩ w:=⟨k1.rd,k1.eA,k1.apart,k1.wR,k1.wS⟩
 have zL:∀i,ig args 0 i=eb args i:=fun i=>by rw[JD];simp[eb]
 have Ou:ig args 0=eb args:=funext zL;have ju:∀i,eb args i=.dead\/∃x,args[i]?=some x/\eb args i=x/\oL args x=true/\cV w fR.rd fR.eA (eb args) (b8 vs) x (b8 vs i):=by
  intro i;cases aj:args[i]? with
  |none=>left;unfold eb;rw[aj];rfl
  |some x=>obtain⟨h2,an⟩:=fJ.rep i x aj;exact .inr ⟨x,rfl,by unfold eb;rw[aj];rfl,h2,an⟩
 have cb:∀i b,a' (eb args i) (b8 vs i)=some b->fR.eA b:=by
  intro i b et;rcases ju i with h|⟨x,aa,ar,aN,bD⟩
  ·rw[h]at et;cases et
  ·rw[ar]at et;exact(bD.gi et).1
 rw[Ou];refine⟨rfl,by simp;omega,Kept.refl _ _,fE,fun i=>?_,fun i j b ai ac=>?_,fun i ai=>?_,fun i j ct=>?_,fun j ac=>g9 j⟩
 ·rw[Ot];rcases ju i with h|⟨x,aa,ar,aN,bD⟩
  ·rw[h];trivial
  ·rw[ar];refine bD.oL aN (fun b ae=>⟨.inl ae,k1.rd b ae,fun k am=>?_⟩) (fun b _ ae=>.inr ae);exact k1.apart b ae (cb k b am)
 ·rw[g9]at ai ac;rcases ju i with h|⟨x,aa,ar,aN,bD⟩
  ·rw[h]at ai;cases ai
  rcases ju j with h|⟨y,aF,a7,b1,dZ⟩
  ·rw[h]at ac;cases ac
  rw[ar]at ai;rw[a7]at ac;exact fJ.inj i j x y b aa ai aF ac
 ·unfold eb;rw[lX (by omega)];rfl
 ·rcases ju i with h|⟨x,aa,ar,aN,bD⟩
  ·rw[h]at ct;cases ct
  ·rw[ar]at ct;exact Sy aN ct
def zfh(t:Nat)(g:FuncId)(v:Value)(e:Exit)(s:ag):Prop:=(e=.normal\/e=.ret)/\∃k,s t=.cr g [.inr (k,0)]/\s k=.box [.atom v]
def zC.of[Hint]{P:Program}{f g:FuncId}{fn:Func}{c:Code}{t:Nat}(hm:P.follows .mixedOrders=true)(ay:P.funcs[f]?=some fn) (fO:(fn.name== "runtime.NumGoroutine")=false)
  (ae:fn.body=some c)(aE:codeOk c=true)(al:1<=fn.ntmps)(rP:fn.results.toList=[.tmp t])(h:∀v:Value,e2 P fn.ntmps c (zfh t g v) (ig [.x (.one (.atom v))] 0)):zC P f g:=by
 refine⟨⟨fn,ay,fO,by rw[ae];rfl⟩,fun w v aH tH=>calls_of_wp ay ae ?_⟩;have fE:ph ⟨fun _=>False,fun _=>False,0,fun _=>undef⟩ w:=⟨fun _ h=>h.elim,fun _ h=>h.elim,fun _ h=>h.elim,tH,fun _ _ h=>h.elim⟩
 have fJ:BP w ⟨fun _=>False,fun _=>False,0,fun _=>undef⟩ [.x (.one (.atom v))] #[v]:=by
  refine⟨by simp,fun j x ac=>?_,fun i j x y b aa ar=>?_,fun b h=>h.elim⟩
  ·cases j with
   |succ j=>simp at ac
   |zero=>simp at ac;subst ac;exact⟨rfl,bn.atom v aH⟩
  ·cases i with
   |succ i=>simp at aa
   |zero=>simp at aa;subst aa;cases ar
 have ah:=Vs (P:=P) (n:=fn.ntmps) (m:=0) fE fJ (by simpa using al);refine Oc hm c _ _ _ _ _ aE (JA c) ah (h v) (fun e s' aZ w' bM br=>?_);obtain⟨he,k,aa,ab⟩:=br;have cx:(results fn aZ.tmps).run P w'=.ok (aJ aZ t) w':=by rw[Og,<-HQ (xs:=fn.results),List.mapM_toArray,rP];simp[FR]
 have ba:=bM.rep t;rw[aa]at ba;obtain⟨us,zfi,gl,ao⟩:=ba;obtain⟨u,hu,nE⟩:=ao 0 _ rfl;rw[qm,aC (by simp)]at nE;obtain⟨b,rfl,cm⟩:=nE;have am:=bM.rep k;rw[ab]at am cm;obtain⟨bg,arr,ty,BZ,a1,dA,cL⟩:=am;rw[BZ]at cm;obtain rfl:bg=b:=by simpa[a']using cm
 have nI:arr=#[v]:=by
  obtain⟨pq,zfj⟩:=dA;obtain⟨u,hu,an⟩:=zfj 0 _ rfl;cases an;have:arr.size=1:=by simpa using pq
  apply yY
  ·simpa using this
  ·intro i ar aN;have:i=0:=by simp at aN;omega
   subst this;have:=gM.1 (by simpa using hu:arr[0]?=some v);simpa using this.2
 subst nI;have lr:us=#[.pointer (some ⟨bg,0,none⟩)]:=by
  have:us.size=1:=by simpa using gl
  apply yY
  ·simpa using this
  ·intro i ar aN;have:i=0:=by simp at aN;omega
   subst this;have:=(gM.1 hu).2;simpa using this
 subst lr;have kR:aZ.defers=[]/\∃cz,(results fn aZ.tmps).run P w'=.ok cz w'/\∃b t,Ending.returned cz=.returned (.func (.func g) #[] #[.pointer (some ⟨b,0,none⟩)])/\w.heap.size<=b/\w'.heap[b]?=some (.cells #[v] t (0,0))/\Below w.heap.size w w':=by
  refine⟨bM.defers,_,cx,bg,ty,by rw[zfi],?_,a1,bM.below.below (fun _ h=>h)⟩;rcases cL with h|h
  ·exact h
  ·exact h.elim
 rcases he with rfl|rfl
 ·exact kR
 ·exact kR
end Go.Ab
namespace Go.Ab
open Go Go.RowKit
variable [bf]
section
variable (P:Program)(n:Nat)(fl:List Nat)(ops:Array Oper)(s:ag)(K:ag->Prop)
@[simp]def zGS(o:Oper):Cz P n ops [o] s K=K s:=rfl
@[simp]def zGT(o e4:Oper)(r:List Oper):Cz P n ops (o::e4::r) s K=bN P n ops [o] (dh s) (fun s'=>Cz P n ops (e4::r) (dh s') K):=rfl
@[simp]def zGU(bo:List Nat)(o:Oper):sB P n fl ops bo [o] s K=K s:=by simp only[sB,List.dropLast,ew]
@[simp]def zGV(bo:List Nat)(o e4:Oper)(r:List Oper):sB P n fl ops (1::bo) (o::e4::r) s K=dn P n ops o (dh s) (fun s'=>sB P n fl ops bo (e4::r) (dh s') K):=rfl
@[simp]def zGW(bo:List Nat)(o e4:Oper)(r:List Oper):sB P n fl ops (7::bo) (o::e4::r) s K=(iE P (dh s) o.op/\dn P n ops o (dh s) (fun s'=>sB P n fl ops bo (e4::r) (dh s') K)):=rfl
@[simp]def zGX(bo:List Nat)(o e4:Oper)(r:List Oper):sB P n fl ops (9::bo) (o::e4::r) s K=(kp o=true/\vK (dh s) (vL fl) ops o/\bN P n ops [o] (dh s) (fun s'=>sB P n fl ops bo (e4::r) (dh s') K)):=rfl
@[simp]def zGY(o e4:Oper)(r:List Oper):xP P n ops (o::e4::r) s K=xP P n ops (e4::r) s K:=rfl
@[simp]def zGZ(d:Nat)(f:Operand)(args:List Operand)(ts:Array TypeId)(ty:TypeId)(pos:String)(after:Array Edge):xP P n ops [⟨some d,.call ⟨.value f,⟨args⟩,ts⟩,ty,pos,after,none⟩] s K=y' P n d s (fW s f args) K:=by show (_/\y' P n d s (fW s f args) K)=_;simp
end
def Aa(P:Program)(n:Nat)(ops:Array Oper)(o:Oper)(s:ag)[k:jB (ag->Prop)]:Prop:=∃j g e z xs,s j=.own e z xs/\n<=g/\(s g).free=true/\∀v,bN P n ops [o] (qz s j g v e z xs) k.val
def Aa.of{P:Program}{n:Nat}{ops:Array Oper}{o:Oper}{s:ag}{k:ag->Prop}(j g:Nat){e z:Nat}{xs:List (List af)}(aa:s j=.own e z xs)(ab:n<=g)(ar:(s g).free=true)(h:∀v,bN P n ops [o] (qz s j g v e z xs) k):@Aa _ P n ops o s ⟨k⟩:=⟨j,g,e,z,xs,aa,ab,ar,h⟩
@[congr]def zHa{P:Program}{n:Nat}{ops:Array Oper}{o:Oper}{s s':ag}[k:jB (ag->Prop)](h:s=s'):Aa P n ops o s=Aa P n ops o s':=by rw[h]
section
variable (P:Program)(n:Nat)(ops:Array Oper)(s:ag)(K:ag->Prop)
@[simp]def zHb(t:TypeId)(m k x:Operand)(ty:TypeId)(pos:String)(after:Array Edge):xP P n ops [⟨none,.mapUpdate t m k x,ty,pos,after,none⟩] s K=@Aa _ P n ops ⟨none,.mapUpdate t m k x,ty,pos,after,none⟩ s ⟨K⟩:=by show (_/\_)=_;simp only[kZ];rfl
end
@[simp]def zHc(s:ag)(j g b c:Nat)(bs:List Nat)(es:List (az×az))(k:Nat):EN s j g b c bs es k=if k=j then .x (.one (.atom (.map (some b))))else if k=g then .fc b c bs es else if (s k).refs j then .dead else s k:=rfl
@[simp]def zHd(s:ag)(g k:Nat):lC s g k=if k=g then .dead else if (s k).refs g then .dead else s k:=rfl
@[simp]def zHe(s:ag)(i off g:Nat)(cs:List af)(x:af)(k:Nat):Oa s i off g cs x k=if k=i then .box (cs.set off x)else unlink (lC s g) i off 1 k:=rfl
@[simp]def zHf(s:ag)(j g e z:Nat)(xs:List (List af))(k:Nat):oF s j g e z xs k=if k=j then .own e z xs else if k=g then .dead else if (s k).refs g then .dead else s k:=rfl
@[simp]def zHg(s:ag)(i off j g:Nat)(v:Value)(cs:List af)(e z:Nat)(xs:List (List af))(k:Nat):N_ s i off j g v cs e z xs k=if k=i then .box (cs.set off (.atom v))else unlink (qz s j g v e z xs) i off 1 k:=rfl
@[simp]def zHh(s:ag)(i off j g e z:Nat)(cs:List af)(xs:List (List af))(k:Nat):N' s i off j g e z cs xs k=if k=b0 i off then .link i off j else if k=i then .box (cs.set off .any)else unlink (oF s j g e z xs) i off 1 k:=rfl
@[simp]def zHi(s:ag)(j g:Nat)(v:Value)(e z:Nat)(xs:List (List af))(k:Nat):qz s j g v e z xs k=if k=j then .x (.one (.atom v))else if k=g then .cT v e z xs else if (s k).refs j then .dead else s k:=rfl
@[congr]def zHj{P:Program}{n d:Nat}{s:ag}{c c':Prop×Option (FuncId×List (ad×Option Nat))}{K:ag->Prop}(h:c=c'):y' P n d s c K=y' P n d s c' K:=by rw[h]
@[simp]def zHk(P:Program)(n d:Nat)(s:ag)(p:Prop)(g:FuncId)(xs:List (ad×Option Nat))(K:ag->Prop):y' P n d s (p,some (g,xs)) K=(p/\d<n/\d<bF/\B1 P d s g xs K (nP s xs)):=rfl
@[congr]def zHl{P:Program}{d:Nat}{s:ag}{g:FuncId}{xs:List (ad×Option Nat)}{K:ag->Prop}{L Vt:List (Nat×Nat×Nat)}(h:L=Vt):B1 P d s g xs K L=B1 P d s g xs K Vt:=by rw[h]
@[simp]def zHm(P:Program)(d:Nat)(s:ag)(g:FuncId)(xs:List (ad×Option Nat))(K:ag->Prop)(l:Nat×Nat×Nat)(L:List (Nat×Nat×Nat)):B1 P d s g xs K (l::L)=B0 P d s g xs (l::L) K (qJ s (l::L)) (qK xs (l::L)):=rfl
@[congr]def zHn{P:Program}{d:Nat}{s:ag}{g:FuncId}{xs:List (ad×Option Nat)}{L:List (Nat×Nat×Nat)}{K:ag->Prop}{e7 Vu:Option (List (Nat×Nat×List (List af)))}{cG Vv:Option (List (Nat×Nat))}(aa:e7=Vu)(ab:cG=Vv):B0 P d s g xs L K e7 cG=B0 P d s g xs L K Vu Vv:=by rw[aa,ab]
def mh(P:Program)(g:FuncId)(args:List ad)(e7:List (Nat×Nat×List (List af)))(cG:List (Nat×Nat))[k:jB (bw->List ad->List (Nat×Nat×List (List af))->Prop)]:Prop:=∃r outs go,vr P g args e7 cG r outs go/\k.val r outs go
def mh.of{P:Program}{g:FuncId}{args:List ad}{e7:List (Nat×Nat×List (List af))}{cG:List (Nat×Nat)}{k:bw->List ad->List (Nat×Nat×List (List af))->Prop}{r:bw}{outs:List ad}{go:List (Nat×Nat×List (List af))}(h:vr P g args e7 cG r outs go)(am:k r outs go):@mh _ P g args e7 cG ⟨k⟩:=⟨r,outs,go,h,am⟩
@[simp]def zHo(P:Program)(d:Nat)(s:ag)(g:FuncId)(xs:List (ad×Option Nat))(L:List (Nat×Nat×Nat))(K:ag->Prop)(e7:List (Nat×Nat×List (List af)))(cG:List (Nat×Nat)):B0 P d s g xs L K (some e7) (some cG)=((slotsOf (xs++eR s L)).Nodup/\(slotsOf (xs++eR s L)).contains d=false/\@mh _ P g (gr (xs++eR s L) xs) e7 cG ⟨fun r outs go=>∀bQ,K (oQ (Ab.put (e6 (gR s xs) (xs++eR s L) (outs++c6 bQ 0 go)) d r.cP) L)⟩):=rfl
@[simp]def zHp(g:Nat->Value)(k:Nat):c6 g k []=[]:=rfl
@[simp]def zHq(g:Nat->Value)(k e z:Nat)(xs:List (List af))(r:List (Nat×Nat×List (List af))):c6 g k ((e,z,xs)::r)=.cT (g k) e z xs::c6 g (k+1) r:=rfl
@[simp]def zHr(e z:Nat)(xs:List (List af)):oP (.own e z xs)=some (e,z,xs):=rfl
@[simp]def zHs(g:Value)(e z:Nat)(xs:List (List af)):oP (.cT g e z xs)=some (e,z,xs):=rfl
@[simp]def zHt(i off bB o d:Nat):xp i off (.link bB o d)=if bB=i/\o=off then some d else none:=rfl
def OZ(i off:Nat)(X:List (Nat×Nat×Nat))(b:Bool)(q:Option Nat):List (Nat×Nat×Nat):=match b with
 |true=>match q with
  |some d=>(i,off,d)::X
  |none=>X
 |false=>X
@[simp]def zHu(i off d:Nat)(X:List (Nat×Nat×Nat)):OZ i off X true (some d)=(i,off,d)::X:=rfl
@[simp]def zHv(s:ag)(i off:Nat):pE s i off []=[]:=rfl
@[simp]def zHw(s:ag)(i off:Nat)(c:af)(r:List af):pE s i off (c::r)=OZ i off (pE s i (off+1) r) c.isAny (xp i off (s (b0 i off))):=by
 simp only[pE,OZ];cases c.isAny with
 |false=>rfl
 |true=>cases xp i off (s (b0 i off))<;>rfl
@[simp]def zHx(cs:List af):ad.fz (.box cs)=some cs:=rfl
def O0(s:ag)(i:Nat)(X:List (Nat×Nat×Nat)):Option (List af)->List (Nat×Nat×Nat)
 |some cs=>pE s i 0 cs++X
 |none=>X
@[simp]def zHy(s:ag)(i:Nat)(X:List (Nat×Nat×Nat))(cs:List af):O0 s i X (some cs)=pE s i 0 cs++X:=rfl
@[simp]def zHz(s:ag):nP s []=[]:=rfl
@[simp]def zHA(s:ag)(x:ad)(r:List (ad×Option Nat)):nP s ((x,none)::r)=nP s r:=rfl
@[simp]def zHB(s:ag)(x:ad)(i:Nat)(r:List (ad×Option Nat)):nP s ((x,some i)::r)=O0 s i (nP s r) x.fz:=by simp only[nP,O0];cases x.fz<;>rfl
def O1{α:Type}:Option α->Option (List α)->Option (List α)
 |some x,some l=>some (x::l)
 |_,_=>none
@[simp]def zHC{α:Type}(x:α)(l:List α):O1 (some x) (some l)=some (x::l):=rfl
@[simp]def zHD(s:ag):qJ s []=some []:=rfl
@[simp]def zHE(s:ag)(l:Nat×Nat×Nat)(r:List (Nat×Nat×Nat)):qJ s (l::r)=O1 (oP (s l.2.2)) (qJ s r):=by simp only[qJ];cases oP (s l.2.2)<;>cases qJ s r<;>rfl
@[simp]def zHF(xs:List (ad×Option Nat)):qK xs []=some []:=rfl
@[simp]def zHG(xs:List (ad×Option Nat))(l:Nat×Nat×Nat)(r:List (Nat×Nat×Nat)):qK xs (l::r)=O1 ((posOf l.1 xs 0).map fun p=>(p,l.2.1)) (qK xs r):=by simp only[qK];cases posOf l.1 xs 0<;>cases qK xs r<;>rfl
@[simp]def zHH(s:ag):eR s []=[]:=rfl
@[simp]def zHI(s:ag)(l:Nat×Nat×Nat)(r:List (Nat×Nat×Nat)):eR s (l::r)=(s l.2.2,some l.2.2)::eR s r:=rfl
def O2(s:ag)(i:Nat)(r:List (ad×Option Nat)):Option (List af)->ag
 |some cs=>gR (unlink s i 0 cs.length) r
 |none=>gR s r
@[simp]def zHJ(s:ag)(i:Nat)(r:List (ad×Option Nat))(cs:List af):O2 s i r (some cs)=gR (unlink s i 0 cs.length) r:=rfl
@[simp]def zHK(s:ag):gR s []=s:=rfl
@[simp]def zHL(s:ag)(x:ad)(r:List (ad×Option Nat)):gR s ((x,none)::r)=gR s r:=rfl
@[simp]def zHM(s:ag)(x:ad)(i:Nat)(r:List (ad×Option Nat)):gR s ((x,some i)::r)=O2 s i r x.fz:=by simp only[gR,O2];cases x.fz<;>rfl
@[simp]def zHN(s:ag):oQ s []=s:=rfl
@[simp]def zHO(s:ag)(l:Nat×Nat×Nat)(r:List (Nat×Nat×Nat)):oQ s (l::r)=oQ (fh s (b0 l.1 l.2.1) (.link l.1 l.2.1 l.2.2)) r:=rfl
@[simp]def zHP(s:ag)(i:Nat)(g:Value)(e z:Nat)(xs:List (List af)):r' s i (.cT g e z xs)=fh (kill s i) i (.cT g e z xs):=OA s i _
def Ac:List (Nat×Nat)->Nat->List (Nat×Nat×Nat)
 |[],_=>[]
 |p::r,b=>(p.1,p.2,b)::Ac r (b+1)
@[simp]def zHQ(b:Nat):Ac [] b=[]:=rfl
@[simp]def zHR(p:Nat×Nat)(r:List (Nat×Nat))(b:Nat):Ac (p::r) b=(p.1,p.2,b)::Ac r (b+1):=rfl
def Vw:∀{cG:List (Nat×Nat)} {b:Nat} {l:Nat×Nat×Nat},l∈Ac cG b->∃k,cG[k]?=some (l.1,l.2.1)/\l.2.2=b+k
 |[],b,l,h=>by simp at h
 |p::r,b,l,h=>by
  rcases eT.1 h with rfl|h
  ·exact⟨0,rfl,rfl⟩
  ·obtain⟨k,aa,ab⟩:=Vw h;exact⟨k+1,by simpa using aa,by omega⟩
def qV(s:ag)(outs:List ad):List (Nat×Nat)->List (Nat×Nat×List (List af))->List Nat->Prop
 |[],[],_=>True
 |p::r,q::go,c_=>∃d,xp p.1 p.2 (s (b0 p.1 p.2))=some d/\oP (s d)=some q/\outs[p.1]?=some (s p.1)/\(outs[d]?).getD .dead=.dead/\c_.contains d=false/\qV s outs r go (d::c_)
 |_,_,_=>False
@[congr]def zHS{s s':ag}{outs:List ad}{cG:List (Nat×Nat)}{go:List (Nat×Nat×List (List af))}{c_:List Nat}(h:s=s'):qV s outs cG go c_=qV s' outs cG go c_:=by rw[h]
@[simp]def zHT(s:ag)(outs:List ad)(c_:List Nat):qV s outs [] [] c_=True:=by simp only[qV]
@[simp]def zHU(s:ag)(outs:List ad)(c_:List Nat)(p:Nat×Nat)(r:List (Nat×Nat))(q:Nat×Nat×List (List af))(go:List (Nat×Nat×List (List af))):qV s outs (p::r) (q::go) c_=∃d,xp p.1 p.2 (s (b0 p.1 p.2))=some d/\oP (s d)=some q/\outs[p.1]?=some (s p.1)/\(outs[d]?).getD .dead=.dead/\c_.contains d=false/\qV s outs r go (d::c_):=rfl
def Vx{s:ag}{outs:List ad}:∀{cG:List (Nat×Nat)} {go:List (Nat×Nat×List (List af))} {c_:List Nat},qV s outs cG go c_->∃D:List Nat,D.length=cG.length/\go.length=cG.length/\D.Nodup/\(∀d∈D,d∉c_) /\
  ∀(k i off:Nat),cG[k]?=some (i,off)->∃d q,D[k]?=some d/\go[k]?=some q/\s (b0 i off)=.link i off d/\oP (s d)=some q/\outs[i]?=some (s i)/\(outs[d]?).getD .dead=.dead
 |[],[],_,_=>⟨[],rfl,rfl,List.nodup_nil,fun d h=>(by cases h),fun k i off h=>(by simp at h)⟩
 |p::r,q::go,c_,h=>by
  obtain⟨d,aa,ab,ar,aN,bD,b9⟩:=h;obtain⟨D,aF,aP,a7,b1,dZ⟩:=Vx b9;have ax:d∉c_:=by
   intro hm;have:c_.contains d=true:=by simpa using hm
   rw[this]at bD;cases bD
  refine⟨d::D,by simp[aF],by simp[aP],vi.2 ⟨fun hm=>b1 d hm (by simp),a7⟩,fun x aj=>?_,fun k i off am=>?_⟩
  ·rcases eT.1 aj with rfl|aj
   ·exact ax
   ·exact fun hm=>b1 x aj (by simp[hm])
  ·cases k with
   |zero=>simp at am;subst am;exact⟨d,q,rfl,rfl,SR aa,ab,ar,aN⟩
   |succ k=>simp at am;obtain⟨bt,dQ,av,aI,b5⟩:=dZ k i off am;exact⟨bt,dQ,by simpa using av,by simpa using aI,b5⟩
 |[],_::_,_,h=>by simp[qV]at h
 |_::_,[],_,h=>by simp[qV]at h
def F_(P:Program)(rs:List ResultVar)(cG:List (Nat×Nat))(r:bw)(outs:List ad)(go:List (Nat×Nat×List (List af)))(e:Exit)(s:ag):Prop:=(e=.normal\/e=.ret)/\jA P s rs outs r/\hU (hT s rs r) 0 outs/\qV (hT s rs r) outs cG go []
@[congr]def zHV{P:Program}{rs:List ResultVar}{cG:List (Nat×Nat)}{r:bw}{outs:List ad}{go:List (Nat×Nat×List (List af))}{e:Exit}{s s':ag}(h:s=s'):F_ P rs cG r outs go e s=F_ P rs cG r outs go e s':=by rw[h]
@[simp]def zHW(P:Program)(rs:List ResultVar)(cG:List (Nat×Nat))(r:bw)(outs:List ad)(go:List (Nat×Nat×List (List af)))(s:ag):F_ P rs cG r outs go .normal s=(jA P s rs outs r/\hU (hT s rs r) 0 outs/\qV (hT s rs r) outs cG go []):=by simp only[F_,true_or,kZ]
def vr.of[Hint](Vy:List (Nat×Nat)){P:Program}{f:FuncId}{fn:Func}{c:Code}{args:List ad}{e7 go:List (Nat×Nat×List (List af))}{cG:List (Nat×Nat)}{r:bw}{outs:List ad}(IE:args.length+e7.length<=999999)(hm:P.follows .mixedOrders=true)(ay:P.funcs[f]?=some fn) (fO:(fn.name== "runtime.NumGoroutine")=false)
  (ae:fn.body=some c)(aE:codeOk c=true)(dI:jZ (ks outs) c=true)(eF:gd args outs=true)(al:args.length+e7.length<=fn.ntmps)(Fa:e7.length=cG.length)(tM:go.length=cG.length)(jp:∀v,r.ha v=none)
  (h:∀g:Nat->Value,(∀x∈args,x.ok)->e2 P fn.ntmps c (F_ P fn.results.toList cG r outs go) (sA (oQ (ig (args++c6 g 0 e7) 0) (Ac cG args.length)) Vy)):vr P f args e7 cG r outs go:=by
 refine⟨⟨fn,ay,fO,by rw[ae];rfl⟩,eF,Fa,tM,jp,fun w fR vs g k1 fJ zfk=>?_⟩;have On:∀x∈args,x.ok:=by intro x aj;obtain⟨j,ac⟩:=lh aj;exact(fJ.rep j x (by rw[jr (ep.1 ac).1];exact ac)).2.ok
 refine calls_of_wp ay ae ?_;have zHX:(args++c6 g 0 e7).length=args.length+e7.length:=by simp[IG]
 have ah:=Vs (P:=P) (n:=fn.ntmps) (m:=ks outs) k1 fJ (by omega);have b':vs.size<=fn.ntmps:=iJ fJ.size (by omega);have g9:∀i,aJ {tmps:=vs++Array.replicate (fn.ntmps-vs.size) undef,defers:=[]} i=b8 vs i:=by
  intro i;simp only[aJ,b8,lg,Oo];split
  ·rfl
  ·rename_i ai;rw[Cv (by omega:vs.size<=i),Oq];split<;>rfl
 have zL:∀i,ig (args++c6 g 0 e7) 0 i=eb (args++c6 g 0 e7) i:=fun i=>by rw[JD];simp[eb]
 have Vz:∀i,999999<=i->eb (args++c6 g 0 e7) i=.dead:=fun i ai=>by unfold eb;rw[lX (by omega)];rfl
 have dg:=ah.oQ (Ac cG args.length) (fun l al=>by obtain⟨k,aa,ab⟩:=Vw al;obtain⟨m1,cs,b,m2,m3,m4,m5⟩:=zfk k l.1 l.2.1 aa;simp only[zL,g9,ab];exact⟨by rw[Vz _ (by unfold b0;omega)];rfl,m1,cs,b,m2,m3,m4,m5⟩)
 have Ov:=dg.sA (by
  have:∀(L:List (Nat×Nat×Nat)) (s:ag),(s bF).free=true->(Ab.oQ s L bF).free=true:=by
   intro L;induction L with
   |nil=>intro s h;exact h
   |cons l r aX=>
    intro s h;refine aX _ ?_;show (if bF=b0 l.1 l.2.1 then ad.link l.1 l.2.1 l.2.2 else s bF).free=true
    split
    ·rfl
    ·exact h
  exact this _ _ (by rw[zL,Vz _ (by unfold bF;omega)];rfl)) Vy
 refine Oc hm c _ _ _ _ _ aE dI Ov (h g On) (fun e s' aZ w' bM br=>?_);obtain⟨he,aB,kT,qv⟩:=br;obtain⟨v,cx,kU,bU,_⟩:=U0 bM aB;obtain⟨eh,E3⟩:=nN eF;generalize hT s' fn.results.toList r=s2 at kU bU kT qv;obtain⟨D,Ad,_,zfl,_,hA⟩:=Vx qv;have zfm:∀{k:Nat} {q:Nat×Nat×List (List af)},go[k]?=some q->∃i off,cG[k]?=some (i,off):=by
  intro k q am;have:k<cG.length:=by rw[<-tM];exact(ep.1 am).1
  exact⟨cG[k].1,cG[k].2,cn this⟩
 let bQ:Nat->Value:=fun k=>(s2 (D.getD k 0)).valOf (aJ aZ (D.getD k 0))
 have eJ:∀{k d:Nat},D[k]?=some d->bQ k=(s2 d).valOf (aJ aZ d):=by
  intro k d am;show (s2 (D.getD k 0)).valOf (aJ aZ (D.getD k 0))=_
  rw[jQ,am];rfl
 have IN:∀j,j<outs.length->(outs++c6 bQ 0 go)[j]?=outs[j]?:=fun j ac=>jr ac;have zb:∀k,(outs++c6 bQ 0 go)[outs.length+k]?=(go[k]?).map fun x=>ad.cT (bQ k) x.1 x.2.1 x.2.2:=by intro k;rw[kb (by omega),show outs.length+k-outs.length=k by omega,IH,f_]
 have EX:∀j,j<ks outs->aJ aZ j=b8 vs j:=fun j ac=>kU.lU j ac;have Cw:∀(j:Nat) (o:ad),outs[j]?=some o->o≠.dead->s2 j=o/\aJ aZ j=b8 vs j:=by intro j o aa ar;have:=Oi kT j o aa ar;rw[f_]at this;exact⟨this,EX j (Ol aa ar)⟩
 have ju:∀(j:Nat) (o:ad),(outs++c6 bQ 0 go)[j]?=some o->(j<outs.length/\outs[j]?=some o)\/∃k d q,j=outs.length+k/\D[k]?=some d/\go[k]?=some q/\o=.cT ((s2 d).valOf (aJ aZ d)) q.1 q.2.1 q.2.2/\oP (s2 d)=some q/\(outs[d]?).getD .dead=.dead:=by
  intro j o ac;by_cases aq:j<outs.length
  ·rw[IN j aq]at ac;exact .inl ⟨aq,ac⟩
  ·obtain⟨k,rfl⟩:∃k,j=outs.length+k:=⟨j-outs.length,by omega⟩
   rw[zb]at ac;cases br:go[k]? with
   |none=>rw[br]at ac;cases ac
   |some q=>
    rw[br]at ac;injection ac with ac
    obtain⟨i,off,vp⟩:=zfm br;obtain⟨d,dQ,av,aI,_,eH,_,iN⟩:=hA k i off vp;rw[br]at aI;injection aI with aI;subst aI
    exact .inr ⟨k,d,q,rfl,av,br,by rw[<-ac,eJ av],eH,iN⟩
 have tI:∀(j:Nat) (o:ad) (b:Nat),(outs++c6 bQ 0 go)[j]?=some o->a' o (b8 vs j)=some b->(j<outs.length/\outs[j]?=some o/\o≠.dead/\a' (s2 j) (aJ aZ j)=some b)\/∃k d,j=outs.length+k/\D[k]?=some d/\a' (s2 d) (aJ aZ d)=some b/\(outs[d]?).getD .dead=.dead:=by
  intro j o b ac ae;rcases ju j o ac with⟨aa,ab⟩|⟨k,d,q,rfl,aa,ab,rfl,aN,bD⟩
  ·have bC:o≠.dead:=by rintro rfl;cases ae
   obtain⟨b9,dw⟩:=Cw j o ab bC;exact .inl ⟨aa,ab,bC,by rw[b9,dw];exact ae⟩
  ·refine .inr ⟨k,d,rfl,aa,?_,bD⟩;rcases B2 aN with e|⟨u,e⟩<;>rw[e]at ae⊢<;>exact ae
 have vj:∀(i j:Nat) (x y:ad) (b:Nat),(outs++c6 bQ 0 go)[i]?=some x->a' x (b8 vs i)=some b->(outs++c6 bQ 0 go)[j]?=some y->a' y (b8 vs j)=some b->i=j:=by
  intro i j x y b aa ab ar aN;rcases tI i x b aa ab with⟨aF,aP,a7,b1⟩|⟨k,d,rfl,aP,a7,b1⟩<;>rcases tI j y b ar aN with⟨m1,m2,m3,m4⟩|⟨bu,bt,rfl,m2,m3,m4⟩
  ·exact kU.inj i j b b1 m4
  ·have:=kU.inj i bt b b1 m3;subst this;rw[aP]at m4;exact absurd m4 a7
  ·have:=kU.inj d j b a7 m4;subst this;rw[m2]at b1;exact absurd b1 m3
  ·have:=kU.inj d bt b a7 m3;subst this;have am:k<D.length:=(ep.1 aP).1;have eV:bu<D.length:=(ep.1 m2).1;have av:D[k]=D[bu]:=by
    have de:=(ep.1 aP).2;have a2:=(ep.1 m2).2;rw[de,a2]
   have:=(List.getElem_inj zfl).1 av;omega
 have cp:∀(b:Nat),r9 (outs++c6 bQ 0 go) vs b->∃t,a' (s2 t) (aJ aZ t)=some b:=by
  rintro b ⟨j,o,aa,ar⟩;rcases tI j o b aa ar with⟨_,_,_,h⟩|⟨_,d,_,_,h,_⟩
  ·exact⟨j,h⟩
  ·exact⟨d,h⟩
 have oO:∀b,bR ⟨fR.rd,fR.eA,ks outs,b8 vs⟩ w.heap.size w' s2 (aJ aZ) b->h' w w' fR (outs++c6 bQ 0 go) vs b:=by
  intro b ae;refine⟨?_,fun aw=>?_⟩
  ·rcases ae.1 with h|h|h
   ·exact .inl h
   ·exact .inr (.inr ⟨h,ae.2.1⟩)
   ·exact .inr (.inl h)
  ·obtain⟨t,h⟩:=cp b aw;exact ae.2.2 t h
 have bl:∀b,lf ⟨fR.rd,fR.eA,ks outs,b8 vs⟩ w.heap.size b->fR.eA b\/w.heap.size<=b:=fun b ae=>ae.elim .inr .inl;have kR:aZ.defers=[]/\∃v,(results fn aZ.tmps).run P w'=.ok v w'/\∃v1 bQ,Ending.returned v=.returned v1/\Kept fR.eA w w'/\iy w' (h' w w' fR (outs++c6 bQ 0 go) vs) r v1 /\
   (∀(j:Nat) (o:ad),(outs++c6 bQ 0 go)[j]?=some o->cV w' (h' w w' fR (outs++c6 bQ 0 go) vs) (fun b=>fR.eA b\/w.heap.size<=b) xg xh o (b8 vs j)) /\
   (∀(i j:Nat) (x y:ad) (b:Nat),(outs++c6 bQ 0 go)[i]?=some x->a' x (b8 vs i)=some b->(outs++c6 bQ 0 go)[j]?=some y->a' y (b8 vs j)=some b->i=j) /\
   II w' (eb (outs++c6 bQ 0 go)) (b8 vs) cG args.length:=by
  refine⟨bM.defers,v,cx,v,bQ,rfl,bM.below,bU.mono (fun b ae=>ae.elim (oO b) (fun h=>by rw[jp]at h;cases h)) (fun _ _=>rfl),fun j o aa=>?_,vj,fun k i off am=>?_⟩
  ·rcases ju j o aa with⟨ab,ar⟩|⟨k,d,q,rfl,ab,ar,rfl,aN,bD⟩
   ·by_cases bC:o=.dead
    ·subst bC;trivial
    obtain⟨aN,bD⟩:=Cw j o ar bC;have aq:j<args.length:=by rw[eh];exact ab
    obtain⟨x,aj⟩:∃x,args[j]?=some x:=⟨_,cn aq⟩
    have zv:=E3 j x o aj ar;have an:=kU.rep j;rw[aN,bD]at an;have tW:o.bare=true:=by cases x<;>cases o<;>first|rfl|(simp[dR]at zv)
    exact an.bare tW (fun b ae=>oO b ae) (fun b _ ae=>bl b ae)
   ·have an:=kU.rep d;rcases B2 aN with e|⟨u,e⟩
    ·rw[e]at an⊢;obtain⟨us,aw,du,aj,dK,cL⟩:=an;exact⟨us,aw,du.mono (fun b ae=>oO b ae) (fun _ _=>rfl),aj,dK,fun b ae=>bl b (cL b ae)⟩
    ·rw[e]at an⊢;obtain⟨us,aw,du,aj,dK,cL⟩:=an;exact⟨us,aw,du.mono (fun b ae=>oO b ae) (fun _ _=>rfl),aj,dK,fun b ae=>bl b (cL b ae)⟩
  ·obtain⟨d,q,av,aI,b5,eH,dd,_⟩:=hA k i off am;have an:=kU.rep (b0 i off);rw[b5]at an;obtain⟨_,cs,b,m1,m2,m3,m4⟩:=an;have bC:s2 i≠.dead:=by intro e;rw[e]at m1;cases m1
   obtain⟨_,bD⟩:=Cw i (s2 i) dd bC;have ua:i<outs.length:=(ep.1 dd).1;have gt:eb (outs++c6 bQ 0 go) i=s2 i:=by unfold eb;rw[IN i ua,dd];rfl
   have pG:eb (outs++c6 bQ 0 go) (args.length+k)=.cT (bQ k) q.1 q.2.1 q.2.2:=by unfold eb;rw[eh,zb,aI];rfl
   refine⟨by rw[pG];rfl,cs,b,by rw[gt];exact m1,m2,by rw[gt,<-bD];exact m3,?_⟩;rw[pG,m4,<-eJ av];rfl
 rcases he with rfl|rfl
 ·exact kR
 ·exact kR
end Go.Ab
