/- A part of the proof: lemmas and contracts of functions. -/
import Derived.Test.YtlcmnclbljedfaaGreatDoorAbJ3b
set_option linter.all false
namespace Go.Ab
open Go Go.RowKit
variable [Amb]
def st0:St:=fun _=>.dead
@[simp]theorem zVK(i:Nat):st0 i=.dead:=rfl
def upd(s:St)(d:Nat)(v:AV):St:=fun i=>if i=d then v else s i
@[simp]theorem zri(s:St)(d:Nat)(v:AV)(i:Nat):upd s d v i=if i=d then v else s i:=rfl
def kill(s:St)(d:Nat):St:=fun i=>if (s i).refs d then .dead else s i
@[simp]theorem zF3(s:St)(d i:Nat):kill s d i=if (s i).refs d then .dead else s i:=rfl
@[simp]theorem zLV(k:Nat):ziV [] k=st0:=rfl
@[simp]theorem zIG(x:XV)(r:List XV)(k:Nat):ziV (x::r) k=upd (ziV r (k+1)) k (.x x):=rfl
def zTD(o r:Bool)(s:St)(d:Nat)(v:AV):St:=
 match o,r with
 |false,false=>upd s d v
 |false,true=>upd s d .dead
 |true,false=>upd (kill s d) d v
 |true,true=>upd (kill s d) d .dead
@[simp]theorem zVC(s:St)(d:Nat)(v:AV):zTD false false s d v=upd s d v:=rfl
@[simp]theorem zUp(s:St)(d:Nat)(v:AV):zTD true false s d v=upd (kill s d) d v:=rfl
@[simp]theorem put_eq(s:St)(d:Nat)(v:AV):put s d v=zTD (s d).zaa (v.refs d) s d v:=by
 unfold put
 cases (s d).zaa<;>cases v.refs d<;>funext i<;>simp[zTD,upd,kill]
@[simp]theorem zEj:AV.zaa .dead=false:=rfl
@[simp]theorem zQv(v:XV):AV.zaa (.x v)=false:=rfl
@[simp]theorem zI9(v:List XV):AV.zaa (.tup v)=false:=rfl
@[simp]theorem zGb(v:List CV):AV.zaa (.box v)=true:=rfl
@[simp]theorem zIE(s o:Nat):AV.zaa (.ptr s o)=false:=rfl
@[simp]theorem zCX(s o:Nat):AV.zaa (.ptr2 s o)=false:=rfl
@[simp]theorem zCV(b:Nat)(v:List CV):AV.zaa (.gbox b v)=true:=rfl
@[simp]theorem zEn(b c:Nat)(bs:List Nat)(es:List (XV×XV)):AV.zaa (.gmap b c bs es)=true:=rfl
@[simp]theorem zNX(b c:Nat)(bs:List Nat)(es:List (XV×XV)):AV.told (.gmap b c bs es)=true:=rfl
@[simp]theorem zQE(d b c:Nat)(bs:List Nat)(es:List (XV×XV)):AV.refs d (.gmap b c bs es)=false:=rfl
@[simp]theorem zB6(g:Value)(e z:Nat)(v:List (List CV)):AV.zaa (.gown g e z v)=true:=rfl
@[simp]theorem zNR(e z:Nat)(v:List (List CV)):AV.tight (.own e z v)=true:=rfl
@[simp]theorem zCb(s k o:Nat):AV.zaa (.eptr s k o)=false:=rfl
@[simp]theorem zCR(v:List CV):AV.zaa (.elem v)=false:=rfl
@[simp]theorem zGe(e z:Nat)(v:List (List CV)):AV.zaa (.own e z v)=true:=rfl
@[simp]theorem zJx(c:Nat)(bs:List Nat)(es:List (XV×XV)):AV.zaa (.mp c bs es)=true:=rfl
@[simp]theorem zAv(s:Nat):AV.zaa (.alias s)=false:=rfl
@[simp]theorem zCi(s lo len:Nat)(wh:Bool):AV.zaa (.view s lo len wh)=false:=rfl
@[simp]theorem zCF(f:FuncId)(caps:List (CV ⊕ (Nat×Nat))):AV.zaa (.cloR f caps)=false:=rfl
@[simp]theorem zC0(e:Bool)(v:AV):AV.zaa (.cond e v)=false:=rfl
@[simp]theorem zC9(i o d:Nat):AV.zaa (.link i o d)=false:=rfl
@[simp]theorem zFU(l:List (Nat×Nat)):AV.zaa (.res l)=false:=rfl
@[simp]theorem zNZ(d i o t:Nat):AV.refs d (.link i o t)=(i==d || t==d):=rfl
@[simp]theorem zT0(d:Nat)(l:List (Nat×Nat)):AV.refs d (.res l)=false:=rfl
@[simp]theorem zOS:AV.free .dead=true:=rfl
@[simp]theorem zKA(b:Bool):CV.isAny (.bool b)=false:=rfl
@[simp]theorem zQq(k:IntKind)(n:Int):CV.isAny (.int k n)=false:=rfl
@[simp]theorem zPc(l:List UInt8):CV.isAny (.str l)=false:=rfl
@[simp]theorem zQt:CV.isAny .nil=false:=rfl
@[simp]theorem zLX(n:Nat)(l:List (List CV)):CV.isAny (.list n l)=false:=rfl
@[simp]theorem zNb(v:Value):CV.isAny (.atom v)=false:=rfl
@[simp]theorem zQs:CV.isAny .any=true:=rfl
def ztt:List CV→Bool
 |[]=>false
 |c::r=>c.isAny || ztt r
@[simp]theorem zTY:ztt []=false:=rfl
@[simp]theorem zO1(c:CV)(r:List CV):ztt (c::r)=(c.isAny || ztt r):=rfl
theorem zlE:∀l:List CV,l.any CV.isAny=ztt l
 |[]=>rfl
 |c::r=>by simp only[List.any_cons,zlE r,ztt]
@[simp]theorem zSr(cs:List CV):AV.told (.box cs)=!ztt cs:=by simp only[AV.told,zlE]
@[simp]theorem zVT(v:XV):AV.told (.x v)=true:=rfl
@[simp]theorem zT4(e z:Nat)(xs:List (List CV)):AV.told (.own e z xs)=true:=rfl
@[simp]theorem zVq(c:Nat)(bs:List Nat)(es:List (XV×XV)):AV.told (.mp c bs es)=true:=rfl
@[simp]theorem zOc:AV.told .dead=true:=rfl
@[simp]theorem zRi(f:FuncId)(caps:List (CV ⊕ (Nat×Nat))):AV.told (.cloR f caps)=true:=rfl
@[simp]theorem zOK(i o:Nat):AV.told (.ptr2 i o)=true:=rfl
@[simp]theorem zOW(b:Nat)(v:List CV):AV.told (.gbox b v)=!ztt v:=by simp only[AV.told,zlE]
@[simp]theorem zQp(g:Value)(e z:Nat)(v:List (List CV)):AV.told (.gown g e z v)=true:=rfl
@[simp]theorem zE6:zfM []=true:=rfl
@[simp]theorem zD2(x:AV)(q:Option Nat)(r:List (AV×Option Nat)):zfM ((x,q)::r)=(x.told&&zfM r):=rfl
@[simp]theorem zSo(cs:List CV)(off m:Nat):zej cs off m=ztt ((cs.drop off).take m):=zlE _
@[simp]theorem zI8(s:St)(i o:Nat):zoI s (.ptr i o)=(s i).told:=rfl
@[simp]theorem zWe(i off:Nat):LK i off=1000000+1000*i+off:=rfl
def zKk:Bool→AV→AV
 |true,_=>.dead
 |false,a=>a
@[congr]theorem zLz{b b':Bool}{a:AV}(h:b=b'):zKk b a=zKk b' a:=by rw[h]
@[simp]theorem zNB(a:AV):zKk false a=a:=rfl
def zjd(i off m:Nat)(a:AV):AV:=zKk (a.zdm i off m) a
@[simp]theorem zRL(s:St)(i off m j:Nat):unlink s i off m j=zjd i off m (s j):=by
 unfold unlink zjd zKk
 cases (s j).zdm i off m<;>rfl
@[simp]theorem zPf(i off m:Nat):zjd i off m .dead=.dead:=rfl
@[simp]theorem zVM(i off m:Nat)(v:XV):zjd i off m (.x v)=.x v:=rfl
@[simp]theorem zS7(i off m:Nat)(v:List XV):zjd i off m (.tup v)=.tup v:=rfl
@[simp]theorem zSF(i off m:Nat)(v:List CV):zjd i off m (.box v)=.box v:=rfl
@[simp]theorem zSS(i off m s o:Nat):zjd i off m (.ptr s o)=.ptr s o:=rfl
@[simp]theorem zOu(i off m s o:Nat):zjd i off m (.ptr2 s o)=.ptr2 s o:=rfl
@[simp]theorem zQe(i off m b:Nat)(v:List CV):zjd i off m (.gbox b v)=.gbox b v:=rfl
@[simp]theorem zOt(i off m b c:Nat)(bs:List Nat)(es:List (XV×XV)):zjd i off m (.gmap b c bs es)=.gmap b c bs es:=rfl
@[simp]theorem zRr(i off m:Nat)(g:Value)(e z:Nat)(v:List (List CV)):zjd i off m (.gown g e z v)=.gown g e z v:=rfl
@[simp]theorem zPU(i off m s k o:Nat):zjd i off m (.eptr s k o)=.eptr s k o:=rfl
@[simp]theorem zO7(i off m:Nat)(v:List CV):zjd i off m (.elem v)=.elem v:=rfl
@[simp]theorem zTU(i off m e z:Nat)(v:List (List CV)):zjd i off m (.own e z v)=.own e z v:=rfl
@[simp]theorem zU3(i off m c:Nat)(bs:List Nat)(es:List (XV×XV)):zjd i off m (.mp c bs es)=.mp c bs es:=rfl
@[simp]theorem zK7(i off m s:Nat):zjd i off m (.alias s)=.alias s:=rfl
@[simp]theorem zRN(i off m s lo len:Nat)(wh:Bool):zjd i off m (.view s lo len wh)=.view s lo len wh:=rfl
@[simp]theorem zPp(i off m:Nat)(f:FuncId)(caps:List (CV ⊕ (Nat×Nat))):zjd i off m (.cloR f caps)=.cloR f caps:=rfl
@[simp]theorem zS5(i off m:Nat)(l:List (Nat×Nat)):zjd i off m (.res l)=.res l:=rfl
@[simp]theorem zQY(i off m s o d:Nat):zjd i off m (.link s o d)=zKk (s==i&&decide (off≤o)&&decide (o<off+m)) (.link s o d):=rfl
@[simp]theorem zLI(i off m:Nat)(e:Bool)(v:XV):zjd i off m (.cond e (.x v))=.cond e (.x v):=rfl
@[simp]theorem zLY(i off m:Nat)(e:Bool)(v:Nat):zjd i off m (.cond e (.alias v))=.cond e (.alias v):=rfl
@[simp]theorem zMQ(i off m:Nat)(e:Bool)(v o:Nat):zjd i off m (.cond e (.ptr v o))=.cond e (.ptr v o):=rfl
@[simp]theorem zFj(i off m:Nat)(e:Bool)(v o:Nat):zjd i off m (.cond e (.ptr2 v o))=.cond e (.ptr2 v o):=rfl
@[simp]theorem zFt(i off m:Nat)(e:Bool)(f:FuncId)(caps:List (CV ⊕ (Nat×Nat))):zjd i off m (.cond e (.cloR f caps))=.cond e (.cloR f caps):=rfl
@[simp]theorem zNi(i off m:Nat)(e:Bool)(v k o:Nat):zjd i off m (.cond e (.eptr v k o))=.cond e (.eptr v k o):=rfl
@[simp]theorem zLE(i off m:Nat)(e:Bool)(v:List CV):zjd i off m (.cond e (.elem v))=.cond e (.elem v):=rfl
@[simp]theorem zNl(i off m:Nat)(e:Bool)(v:List XV):zjd i off m (.cond e (.tup v))=.cond e (.tup v):=rfl
@[simp]theorem zKz(i off m:Nat)(e:Bool)(s lo len:Nat)(wh:Bool):zjd i off m (.cond e (.view s lo len wh))=.cond e (.view s lo len wh):=rfl
@[simp]theorem zQC(d:Nat):AV.refs d .dead=false:=rfl
@[simp]theorem zVP(d:Nat)(v:XV):AV.refs d (.x v)=false:=rfl
@[simp]theorem zUa(d:Nat)(v:List XV):AV.refs d (.tup v)=false:=rfl
@[simp]theorem zUe(d:Nat)(v:List CV):AV.refs d (.box v)=false:=rfl
@[simp]theorem zRZ(d s o:Nat):AV.refs d (.ptr s o)=(s==d):=rfl
@[simp]theorem zPI(d s o:Nat):AV.refs d (.ptr2 s o)=(s==d):=rfl
@[simp]theorem zNN(d b:Nat)(v:List CV):AV.refs d (.gbox b v)=false:=rfl
@[simp]theorem zPl(d:Nat)(g:Value)(e z:Nat)(v:List (List CV)):AV.refs d (.gown g e z v)=false:=rfl
@[simp]theorem zRx(d s k o:Nat):AV.refs d (.eptr s k o)=(s==d):=rfl
@[simp]theorem zOv(d:Nat)(v:List CV):AV.refs d (.elem v)=false:=rfl
@[simp]theorem zUT(d c:Nat)(bs:List Nat)(es:List (XV×XV)):AV.refs d (.mp c bs es)=false:=rfl
@[simp]theorem zSC(d e z:Nat)(v:List (List CV)):AV.refs d (.own e z v)=false:=rfl
@[simp]theorem zJW(d s:Nat):AV.refs d (.alias s)=(s==d):=rfl
@[simp]theorem zRM(d s lo len:Nat)(wh:Bool):AV.refs d (.view s lo len wh)=(s==d):=rfl
@[simp]theorem zOL(d:Nat)(f:FuncId)(caps:List (CV ⊕ (Nat×Nat))):AV.refs d (.cloR f caps)=caps.any (zcK d):=rfl
@[simp]theorem zMM(d:Nat)(c:CV):zcK d (.inl c)=false:=rfl
@[simp]theorem ztZ(d:Nat)(p:Nat×Nat):zcK d (.inr p)=(p.1==d):=rfl
@[simp]theorem zPO(d:Nat)(e:Bool)(v:AV):AV.refs d (.cond e v)=v.refs d:=rfl
def zhM(t:Nat):AV→AV
 |.box _=>.ptr t 0
 |.own _ _ _=>.alias t
 |.mp _ _ _=>.alias t
 |.gbox _ _=>.dead
 |.gown _ _ _ _=>.dead
 |.gmap _ _ _ _=>.dead
 |a=>a
@[simp]theorem zsn(s:St)(t:Nat):look s (.tmp t)=zhM t (s t):=by
 simp only[look,zhM]
 cases s t<;>rfl
@[simp]theorem zVh(t:Nat)(v:XV):zhM t (.x v)=.x v:=rfl
@[simp]theorem zPR(t:Nat)(v:List XV):zhM t (.tup v)=.tup v:=rfl
@[simp]theorem zQP(t:Nat)(v:List CV):zhM t (.box v)=.ptr t 0:=rfl
@[simp]theorem zOF(t s o:Nat):zhM t (.ptr s o)=.ptr s o:=rfl
@[simp]theorem zMc(t s o:Nat):zhM t (.ptr2 s o)=.ptr2 s o:=rfl
@[simp]theorem zMT(t s k o:Nat):zhM t (.eptr s k o)=.eptr s k o:=rfl
@[simp]theorem zL1(t:Nat)(v:List CV):zhM t (.elem v)=.elem v:=rfl
@[simp]theorem zUh(t c:Nat)(bs:List Nat)(es:List (XV×XV)):zhM t (.mp c bs es)=.alias t:=rfl
@[simp]theorem zRH(t e z:Nat)(v:List (List CV)):zhM t (.own e z v)=.alias t:=rfl
@[simp]theorem zF5(t s:Nat):zhM t (.alias s)=.alias s:=rfl
@[simp]theorem zLB(t:Nat)(f:FuncId)(caps:List (CV ⊕ (Nat×Nat))):zhM t (.cloR f caps)=.cloR f caps:=rfl
@[simp]theorem zJA(t:Nat)(e:Bool)(v:AV):zhM t (.cond e v)=.cond e v:=rfl
@[simp]theorem zTR(s:St)(k:IntKind)(m:Int):look s (.const (.int k m))=.x (.one (.int k m)):=rfl
@[simp]theorem zON(s:St)(b:Bool):look s (.const (.bool b))=.x (.one (.bool b)):=rfl
@[simp]theorem zCz(s:St):look s (.const .nilFunc)=.x (.one (.atom .nilFunc)):=rfl
@[simp]theorem look_nil(s:St):look s (.const (.slice none 0 0))=.x (.one .nil):=rfl
@[simp]theorem zOR(s:St)(f:Nat):look s (.func f)=.x (.one (.atom (.func (.func f) #[] #[]))):=rfl
def zVH(l:List UInt8):AV:=if l.length≤maxLen then .x (.one (.str l)) else .dead
@[simp]theorem zSq(s:St)(l:List UInt8):look s (.const (.string ⟨⟨l⟩⟩))=zVH l:=by
 simp[look,ze9,zcr,zhp,zVH]
@[simp]theorem zUy(l:List UInt8):zVH l=if l.length≤maxLen then .x (.one (.str l)) else .dead:=rfl
@[simp]theorem zPt(cs:List CV):strip (.x (.agg cs))=(True,.x (.agg cs)):=rfl
@[simp]theorem zNm(b:Bool):strip (.x (.one (.bool b)))=(True,.x (.one (.bool b))):=rfl
@[simp]theorem zNS(k:IntKind)(m:Int):strip (.x (.one (.int k m)))=(True,.x (.one (.int k m))):=rfl
@[simp]theorem zPw(l:List UInt8):strip (.x (.one (.str l)))=(True,.x (.one (.str l))):=rfl
@[simp]theorem strip_nil:strip (.x (.one .nil))=(True,.x (.one .nil)):=rfl
@[simp]theorem zIe(z:Nat):strip (.x (.one (.empty z)))=(True,.x (.one (.empty z))):=rfl
@[simp]theorem zKn(z:Nat)(xs:List (List CV)):strip (.x (.one (.list z xs)))=(True,.x (.one (.list z xs))):=rfl
@[simp]theorem zM3(v:Value):strip (.x (.one (.atom v)))=(True,.x (.one (.atom v))):=rfl
@[simp]theorem zOG(f:FuncId)(caps:List CV):strip (.x (.one (.clo f caps)))=(True,.x (.one (.clo f caps))):=rfl
@[simp]theorem zPm(cs:List CV):strip (.x (.one (.ref cs)))=(True,.elem cs):=rfl
@[simp]theorem zN4(v:List XV):strip (.tup v)=(True,(.tup v)):=rfl
@[simp]theorem zOg(i o:Nat):strip (.ptr i o)=(True,(.ptr i o)):=rfl
@[simp]theorem zKE(i o:Nat):strip (.ptr2 i o)=(True,(.ptr2 i o)):=rfl
@[simp]theorem zJv(i k o:Nat):strip (.eptr i k o)=(True,(.eptr i k o)):=rfl
@[simp]theorem zMm(v:List CV):strip (.elem v)=(True,(.elem v)):=rfl
@[simp]theorem zIn(i:Nat):strip (.alias i)=(True,(.alias i)):=rfl
@[simp]theorem zM0(f:FuncId)(caps:List (CV ⊕ (Nat×Nat))):strip (.cloR f caps)=(True,.cloR f caps):=rfl
@[simp]theorem zKu(e:Bool)(a:AV):strip (.cond e a)=(e=true,a):=rfl
@[simp]theorem zV8(s:St)(x:Operand):sv s x=strip (look s x):=rfl
def zeC(r:Prop×AV)(k:AV→Prop):Prop:=r.1∧k r.2
@[congr]theorem zJ2{r r':Prop×AV}{k:AV→Prop}(h:r=r'):zeC r k=zeC r' k:=by rw[h]
@[simp]theorem zVA(p:Prop)(v:AV)(k:AV→Prop):zeC (p,v) k=(p∧k v):=rfl
@[congr]theorem zN6[Hint]{P:Program}{n:Nat}{c:Code}{Q:Exit→St→Prop}{s s':St}(h:s=s'):awp P n c Q s=awp P n c Q s':=by rw[h]
@[congr]theorem zLg{P:Program}{n:Nat}{ops:Array Oper}{l:List Oper}{K:St→Prop}{s s':St}(h:s=s'):zaS P n ops l s K=zaS P n ops l s' K:=by rw[h]
@[congr]theorem zHw{P:Program}{n:Nat}{m:Bool}{ops:Array Oper}{l:List Oper}{K:St→Prop}{s s':St}(h:s=s'):zc8 P n m ops l s K=zc8 P n m ops l s' K:=by rw[h]
@[congr]theorem zKi{P:Program}{n:Nat}{o:Oper}{K:St→Prop}{s s':St}(h:s=s'):zMo P n o s K=zMo P n o s' K:=by rw[h]
@[congr]theorem zx6{op:Op}{s s':St}(h:s=s'):zeh s op=zeh s' op:=by rw[h]
@[congr]theorem zAr{op:Op}{s s':St}(h:s=s'):zaW s op=zaW s' op:=by rw[h]
@[congr]theorem zRD{P:Program}{n:Nat}{ops:Array Oper}{o:Oper}{K:St→Prop}{s s':St}(h:s=s'):aop P n ops o s K=aop P n ops o s' K:=by rw[h]
@[congr]theorem zMg{P:Program}{n:Nat}{ops:Array Oper}{o:Oper}{K:St→Prop}{s s':St}(h:s=s'):zdo P n ops o s K=zdo P n ops o s' K:=by rw[h]
@[congr]theorem zHZ{P:Program}{n:Nat}{op:Op}{d:Option Tmp}{K:St→Prop}{s s':St}(h:s=s'):zcH P n s op d K=zcH P n s' op d K:=by rw[h]
@[congr]theorem zEO{k:St→Prop}{Q:Exit→St→Prop}{e:Exit}{s s':St}(h:s=s'):zng k Q e s=zng k Q e s':=by rw[h]
@[congr]theorem zyX{i:Nat}{Q:Exit→St→Prop}{e:Exit}{s s':St}(h:s=s'):zeH i Q e s=zeH i Q e s':=by rw[h]
class zpe(α:Type) where
 val:α
def zaK[b:zpe ((Exit→St→Prop)→St→Prop)][Q:zpe (Exit→St→Prop)](s:St):Prop:=zOy b.val Q.val s
def touch(s:St):St:=s
def zsx{α:Type}(fl:List α)(f:List α→Prop)(X:Prop):Prop:=match fl with
 |b::r=>f (b::r)
 |[]=>X
@[congr]theorem zHE{α:Type}{fl fl':List α}{f:List α→Prop}{X:Prop}(h:fl=fl'):zsx fl f X=zsx fl' f X:=by rw[h]
@[simp ↓]theorem zOd{α:Type}(f:List α→Prop)(X:Prop):zsx [] f X=X:=rfl
@[simp ↓]theorem zKL{α:Type}(b:α)(r:List α)(f:List α→Prop)(X:Prop):zsx (b::r) f X=f (b::r):=rfl
@[simp]theorem zJi(i:Nat):@Hint.conv noHint i=false:=rfl
@[simp]theorem zM6(l:List (Nat×List Nat))(i:Nat):@Hint.conv (zpP l) i=false:=rfl
@[simp]theorem zMr(g:List Nat)(l:List (Nat×List Nat))(i:Nat):@Hint.conv (grows g l) i=false:=rfl
@[simp]theorem zRR(c g:List Nat)(l:List (Nat×List Nat))(i:Nat):@Hint.cut (zwm c g l) i=0:=rfl
@[simp]theorem zPz(q:List (Nat×Nat))(c g:List Nat)(l:List (Nat×List Nat))(i:Nat):@Hint.conv (cuts q c g l) i=c.contains i:=rfl
@[simp]theorem zPC(q:List (Nat×Nat))(c g:List Nat)(l:List (Nat×List Nat))(i:Nat):@Hint.wild (cuts q c g l) i=zjt l i:=rfl
@[simp]theorem zQ0(q:List (Nat×Nat))(c g:List Nat)(l:List (Nat×List Nat))(i:Nat):@Hint.hint (cuts q c g l) i=[]:=rfl
@[simp]theorem zPS(q:List (Nat×Nat))(c g:List Nat)(l:List (Nat×List Nat))(i:Nat):@Hint.grow (cuts q c g l) i=g.contains i:=rfl
@[simp]theorem zT9(q:List (Nat×Nat))(c g:List Nat)(l:List (Nat×List Nat))(i:Nat):@Hint.cut (cuts q c g l) i=zuX q i:=rfl
@[simp]theorem zQy(i:Nat):zuX [] i=0:=rfl
@[simp]theorem zKe(k m:Nat)(r:List (Nat×Nat))(i:Nat):zuX ((k,m)::r) i=if k=i then m else zuX r i:=rfl
@[simp]theorem zMb(c g:List Nat)(l:List (Nat×List Nat))(i:Nat):@Hint.conv (zwm c g l) i=c.contains i:=rfl
@[simp]theorem zMY(c g:List Nat)(l:List (Nat×List Nat))(i:Nat):@Hint.wild (zwm c g l) i=zjt l i:=rfl
@[simp]theorem zKd(c g:List Nat)(l:List (Nat×List Nat))(i:Nat):@Hint.grow (zwm c g l) i=g.contains i:=rfl
@[simp]theorem zH0(i:Nat):@Hint.hint noHint i=[]:=rfl
@[simp]theorem zHx(i:Nat):@Hint.wild noHint i=[]:=rfl
@[simp]theorem zJI(l:List (Nat×List Nat))(i:Nat):@Hint.hint (zpP l) i=[]:=rfl
@[simp]theorem zKx(l:List (Nat×List Nat))(i:Nat):@Hint.wild (zpP l) i=zjt l i:=rfl
@[simp]theorem zIW(i:Nat):@Hint.grow noHint i=false:=rfl
@[simp]theorem zNt(l:List (Nat×List Nat))(i:Nat):@Hint.grow (zpP l) i=false:=rfl
@[simp]theorem zLu(g:List Nat)(l:List (Nat×List Nat))(i:Nat):@Hint.wild (grows g l) i=zjt l i:=rfl
@[simp]theorem zKl(g:List Nat)(l:List (Nat×List Nat))(i:Nat):@Hint.grow (grows g l) i=g.contains i:=rfl
@[simp]theorem zRn{α:Type}(i:Nat):zjt (α:=α) [] i=[]:=rfl
@[simp]theorem zKp{α:Type}(k:Nat)(fl:List α)(r:List (Nat×List α))(i:Nat):zjt ((k,fl)::r) i=if k=i then fl else zjt r i:=rfl
def ztD[a:zpe Prop][b:zpe Prop]:Prop:=a.val∨b.val
theorem ztD.l{a b:Prop}(h:a):@ztD ⟨a⟩ ⟨b⟩:=.inl h
theorem ztD.r{a b:Prop}(h:b):@ztD ⟨a⟩ ⟨b⟩:=.inr h
def zg2(b:Bool)(x y:Prop):Prop:=match b with
 |true=>x
 |false=>y
@[congr]theorem zIF{b b':Bool}{x y:Prop}(h:b=b'):zg2 b x y=zg2 b' x y:=by rw[h]
@[simp ↓]theorem zME(x y:Prop):zg2 true x y=x:=rfl
@[simp ↓]theorem zHq(x y:Prop):zg2 false x y=y:=rfl
def orW(b c:Bool):Bool:=match b with
 |true=>true
 |false=>c
@[congr]theorem zO2{b b' c:Bool}(h:b=b'):orW b c=orW b' c:=by rw[h]
@[simp ↓]theorem zSU(c:Bool):orW true c=true:=rfl
@[simp ↓]theorem zOx(c:Bool):orW false c=c:=rfl
def zeZ(op:Op)(g:Option (Nat×Bool)):Bool:=match op with
 |.call c=>match c.callee with
  |.value (.tmp _)=>g.isNone
  |_=>false
 |.store _ _ _=>g.isNone
 |_=>false
@[simp ↓]theorem zPd:zoy ⟨[]⟩=false:=rfl
@[simp ↓]theorem zKK(o:Oper)(r:List Oper):zoy ⟨o::r⟩=orW (zeZ o.op o.guard) (zoy ⟨r⟩):=by
 obtain⟨dst,op,type,pos,after,guard⟩:=o
 have e:∀b c:Bool,orW b c=(b || c):=fun b c=>by cases b<;>rfl
 rw[e]
 unfold zoy zeZ zd6
 simp only[List.any_cons]
 congr 1
 cases op<;>try rfl
 rename_i c
 obtain⟨f,a,ts⟩:=c
 cases f<;>rfl
section
variable (g:Option (Nat×Bool))
@[simp ↓]theorem zNz(v:Nat)(a:Array Operand)(ts:Array TypeId):zeZ (.call ⟨.value (.func v),a,ts⟩) g=false:=rfl
@[simp ↓]theorem zA5(b:Builtin)(a:Array Operand)(ts:Array TypeId):zeZ (.call ⟨.builtin b,a,ts⟩) g=false:=rfl
@[simp ↓]theorem zKc {x0}:zeZ (.move x0) g=false:=rfl
@[simp ↓]theorem zCM {x0}:zeZ (.assign x0) g=false:=rfl
@[simp ↓]theorem zMN {x0 x1 x2}:zeZ (.pick x0 x1 x2) g=false:=rfl
@[simp ↓]theorem zEW {x0}:zeZ (.alloc x0) g=false:=rfl
@[simp ↓]theorem zIt {x0 x1}:zeZ (.build x0 x1) g=false:=rfl
@[simp ↓]theorem zvb {x0 x1 x2}:zeZ (.buildSlice x0 x1 x2) g=false:=rfl
@[simp ↓]theorem zNp {x0 x1}:zeZ (.load x0 x1) g=false:=rfl
@[simp ↓]theorem zGB {x0 x1 x2}:zeZ (.store x0 x1 x2) none=true:=rfl
@[simp ↓]theorem zyV {x0}:zeZ (.nilCheck x0) g=false:=rfl
@[simp ↓]theorem zFs {x0 x1 x2 x3 x4}:zeZ (.binOp x0 x1 x2 x3 x4) g=false:=rfl
@[simp ↓]theorem zB0 {x0 x1 x2}:zeZ (.convert x0 x1 x2) g=false:=rfl
@[simp ↓]theorem zIc {x0 x1 x2 x3 x4}:zeZ (.slice x0 x1 x2 x3 x4) g=false:=rfl
@[simp ↓]theorem zxV {x0 x1 x2}:zeZ (.fieldAddr x0 x1 x2) g=false:=rfl
@[simp ↓]theorem zyR {x0 x1 x2}:zeZ (.indexAddr x0 x1 x2) g=false:=rfl
@[simp ↓]theorem zHr {x0 x1 x2}:zeZ (.index x0 x1 x2) g=false:=rfl
@[simp ↓]theorem zEg {x0 x1 x2 x3}:zeZ (.lookup x0 x1 x2 x3) g=false:=rfl
@[simp ↓]theorem zAS {x0 x1}:zeZ (.extract x0 x1) g=false:=rfl
end
@[simp]theorem zTk(s:St):touch s=s:=rfl
section
variable (P:Program)(n:Nat)(Q:Exit→St→Prop)(s:St)
@[simp ↓]theorem zSf[Hint]:awp P n .skip Q s=Q .normal s:=rfl
def zue(P:Program)(n:Nat)(ops:Array Oper)(l:List Oper)(s:St)(K:St→Prop):Prop:=zaS P n ops l.dropLast s K
def zgw(P:Program)(n:Nat)(fl:List Nat)(ops:Array Oper)(fr:List Nat)(l:List Oper)(s:St)(K:St→Prop):Prop:=zbJ P n fl ops fr l.dropLast s K
@[congr]theorem zHe{P:Program}{n:Nat}{ops:Array Oper}{l:List Oper}{K:St→Prop}{s s':St}(h:s=s'):zue P n ops l s K=zue P n ops l s' K:=by rw[h]
@[congr]theorem zDC{P:Program}{n:Nat}{fl fr:List Nat}{ops:Array Oper}{l:List Oper}{K:St→Prop}{s s':St}(h:s=s'):zgw P n fl ops fr l s K=zgw P n fl ops fr l s' K:=by rw[h]
def zkh(P:Program)(n:Nat)(ops:Array Oper)(l:List Oper)(s:St)(K:St→Prop):Prop:=ztI P n ops s K (zlD l)
@[congr]theorem zCN{P:Program}{n:Nat}{ops:Array Oper}{K:St→Prop}{l:List Oper}{s s':St}(h:s=s'):zkh P n ops l s K=zkh P n ops l s' K:=by rw[h]
@[simp ↓]theorem zzk[Hint](id:Nat)(l:List Oper):zfI P n id ⟨l⟩ false Q s=zg2 (Hint.grow id) (zue P n ⟨l⟩ l (touch s) (fun s1=>zkh P n ⟨l⟩ l (touch s1) (Q .normal))) (zaS P n ⟨l⟩ l (touch s) (Q .normal)):=by
 show (match (Hint.grow id:Bool) with | true=>_ | false=>_)=_
 unfold zg2
 cases (Hint.grow id:Bool)<;>rfl
@[simp ↓]theorem zwA[Hint](id:Nat)(l:List Oper):zfI P n id ⟨l⟩ true Q s=zg2 (Hint.grow id) (zgw P n (Hint.wild id) ⟨l⟩ (Hint.wild id) l (touch s) (fun s1=>zkh P n ⟨l⟩ l (touch s1) (Q .normal))) (zsx (Hint.wild id) (fun fl=>zbJ P n fl ⟨l⟩ fl l (touch s) (Q .normal)) (zsx (Hint.hint id) (fun fl=>zkI P n fl ⟨l⟩ fl l (touch s) (Q .normal)) (zg2 (zoy ⟨l⟩) (@ztD ⟨zj7 false ⟨l⟩=true∧zc8 P n false ⟨l⟩ l (touch s) (Q .normal)⟩ ⟨∃f:List Nat,zj7 true ⟨l⟩=true∧zc8 P n true ⟨l⟩ l (zas (touch s) f) (Q .normal)⟩) (zc8 P n false ⟨l⟩ l (touch s) (Q .normal))))):=by
 show (match (Hint.grow id:Bool) with | true=>_ | false=>(match (Hint.wild id:List Nat) with | k::fl=>_ | []=>match (Hint.hint id:List Bool) with | b::fl=>_ | []=>match zoy ⟨l⟩ with | true=>_ | false=>_))=_
 cases (Hint.grow id:Bool) with
 |true=>rfl
 |false =>
 unfold zsx zg2 ztD
 dsimp only
 cases (Hint.wild id:List Nat) with
 |cons k fl=>rfl
 |nil =>
  cases (Hint.hint id:List Bool) with
  |cons b fl=>rfl
  |nil=>cases zoy ⟨l⟩<;>rfl
def zaG(n:Nat)(s:St)[X:zpe (St→Prop)]:Prop:=zIU n s X.val
theorem zaG.done{n:Nat}{s:St}{X:St→Prop}(h:X s):@zaG _ n s ⟨X⟩:=fun _ _ _ _ hR=>⟨s,hR,h⟩
theorem zaG.fold{n:Nat}{s:St}{X:St→Prop}(i off:Nat)(h:@zaG _ n (znm s i off) ⟨X⟩):@zaG _ n s ⟨X⟩:=fun _ _ _ _ hR=>h _ _ _ _ (hR.znm i off)
theorem zaG.named{n:Nat}{s:St}{X:St→Prop}(i off j g:Nat){e z:Nat}{cs:List CV}{xs:List (List CV)}(hi:s i=.box cs)(hl:s (LK i off)=.link i off j)(hj:s j=.own e z xs)(hn:n≤g)(hg:(s g).free=true)
  (h:∀v,@zaG _ n (zpb s i off j g v cs e z xs) ⟨X⟩):@zaG _ n s ⟨X⟩:=fun _ _ _ _ hR=>h _ _ _ _ _ (hR.zOj hi hl hj hn hg)
theorem zaG.linked{n:Nat}{s:St}{X:St→Prop}(i off j g:Nat){e z:Nat}{v:Value}{cs:List CV}{xs:List (List CV)}(hi:s i=.box cs)(hc:cs[off]?=some (.atom v))(hj:s j=.x (.one (.atom v)))(hg:s g=.gown v e z xs)(hf:(s (LK i off)).free=true)
  (h:@zaG _ n (zon s i off j g e z cs xs) ⟨X⟩):@zaG _ n s ⟨X⟩:=fun _ _ _ _ hR=>h _ _ _ _ (hR.zRU hi hc hj hg hf)
@[congr]theorem zEC{n:Nat}{s s':St}[X:zpe (St→Prop)](h:s=s'):zaG n s=zaG n s':=by rw[h]
theorem zaG.zmq{n:Nat}{s:St}{X:St→Prop}(j g:Nat){c:Nat}{bs:List Nat}{es:List (XV×XV)}(hj:s j=.mp c bs es)(hn:n≤g)(hg:(s g).free=true)
  (h:∀b,@zaG _ n (zgY s j g b c bs es) ⟨X⟩):@zaG _ n s ⟨X⟩:=fun _ _ _ _ hR=>let ⟨_,hR'⟩:=hR.zmq hj hn hg;h _ _ _ _ _ hR'
theorem zaG.zlc{n:Nat}{s:St}{X:St→Prop}(i off g:Nat){b c:Nat}{cs:List CV}{bs:List Nat}{es:List (XV×XV)}(ka va:Bool)(ks vs:List (List CV))(hi:s i=.box cs)(hc:cs[off]?=some (.atom (.map (some b))))(hg:s g=.gmap b c bs es)
  (he:es=mvE ka va ks vs)(hlen:vs.length=ks.length)(hk:ka=true∨∀k∈ks,k.length=1)(hv:va=true∨∀k∈vs,k.length=1)(h:@zaG _ n (zmv s i off g cs (.mapv ka va ks vs)) ⟨X⟩):@zaG _ n s ⟨X⟩:=fun _ _ _ _ hR=>h _ _ _ _ (hR.zlc hi hc hg he hlen hk hv)
def zML(k:Nat)(A:Prop)(B:Nat→Prop):Prop:=match k with
 |0=>A
 |k+1=>B (k+1)
@[congr]theorem zMV{k k':Nat}{A:Prop}{B:Nat→Prop}(h:k=k'):zML k A B=zML k' A B:=by rw[h]
@[simp]theorem zQc(A:Prop)(B:Nat→Prop):zML 0 A B=A:=rfl
@[simp]theorem zO8(k:Nat)(A:Prop)(B:Nat→Prop):zML (k+1) A B=B (k+1):=rfl
@[simp ↓]theorem zNx(ops:Array Oper)(l:List Oper)(K:St→Prop):znj P n ops 0 l s K=@zaG _ n (touch s) ⟨fun s2=>zaS P n ops l s2 K⟩:=by unfold znj;rfl
@[simp ↓]theorem zKg(ops:Array Oper)(k:Nat)(o:Oper)(l:List Oper)(K:St→Prop):znj P n ops (k+1) (o::l) s K=zaS P n ops [o] (touch s) (fun s1=>znj P n ops k l s1 K):=by rw[znj];rfl
@[simp ↓]theorem zMw[Hint](id:Nat)(l:List Oper)(dr:Bool):awp P n (.region id ⟨l⟩ dr) Q s=zg2 (Hint.conv id) (zML (Hint.cut id) (@zaG _ n (touch s) ⟨zfI P n id ⟨l⟩ dr Q⟩) (fun k=>znj P n ⟨l⟩ k l (touch s) (Q .normal))) (zfI P n id ⟨l⟩ dr Q s):=by
 show (match (Hint.conv id:Bool) with | true=>zP9 P n id ⟨l⟩ dr Q s (Hint.cut id) | false=>_)=_
 unfold zg2 zML
 cases (Hint.conv id:Bool) with
 |false=>rfl
 |true=>cases (Hint.cut id:Nat)<;>rfl
@[simp ↓]theorem zU2[Hint](a b:Code):awp P n (.seq a b) Q s=awp P n a (zng (awp P n b Q) Q) s:=rfl
@[simp ↓]theorem zPH[Hint](id:Nat)(c:Code):awp P n (.block id c) Q s=awp P n c (zeH id Q) s:=rfl
@[simp ↓]theorem zSl[Hint](c:Code):awp P n (.loop c) Q s=@zaK ⟨awp P n c⟩ ⟨Q⟩ s:=rfl
@[simp ↓]theorem zTZ[Hint](id:Nat):awp P n (.exit id) Q s=Q (.exit id) s:=rfl
@[simp ↓]theorem zVc[Hint]:awp P n .ret Q s=Q .ret s:=rfl
@[simp ↓]theorem zTM[Hint](c:Operand)(a b:Code):awp P n (.cond c a b) Q s=zm0 (sv s c) (awp P n a Q s) (awp P n b Q s):=rfl
@[simp ↓]theorem zDj(k:St→Prop):zng k Q .normal s=k s:=rfl
@[simp ↓]theorem zMF(k:St→Prop)(i:Nat):zng k Q (.exit i) s=Q (.exit i) s:=rfl
@[simp ↓]theorem zPF(k:St→Prop):zng k Q .ret s=Q .ret s:=rfl
@[simp ↓]theorem zyF(i:Nat):zeH i Q .normal s=Q .normal s:=rfl
@[simp ↓]theorem zEM(i:Nat):zeH i Q .ret s=Q .ret s:=rfl
@[simp ↓]theorem zzL(i j:Nat):zeH i Q (.exit j) s=if j=i then Q .normal s else Q (.exit j) s:=rfl
end
@[congr]theorem zIp{c c':Prop×AV}{A B:Prop}(h:c=c'):zm0 c A B=zm0 c' A B:=by rw[h]
@[simp high]theorem zLT(p A B:Prop):zm0 (p,.x (.one (.bool true))) A B=(p∧A):=by simp[zm0]
@[simp high]theorem zGM(p A B:Prop):zm0 (p,.x (.one (.bool false))) A B=(p∧B):=by simp[zm0]
@[simp]theorem zS0(p:Prop)(b:Bool)(A B:Prop):zm0 (p,.x (.one (.bool b))) A B=(p∧(b=true→A)∧(b=false→B)):=rfl
def zac(P:Program)(g:FuncId)(xs:List XV)[k:zpe (RV→Prop)][m:zpe Prop][N:zpe (List XV→List XV→RV→Prop)]:Prop:=(∃r,zab P g xs r∧k.val r)∨(∃xs' r,zab P g xs' r∧N.val xs xs' r)∨m.val
theorem zac.of{P:Program}{g:FuncId}{xs:List XV}{k:RV→Prop}{m:Prop}{N:List XV→List XV→RV→Prop}{r:RV}(h:zab P g xs r)(hk:k r):@zac _ P g xs ⟨k⟩ ⟨m⟩ ⟨N⟩:=.inl ⟨r,h,hk⟩
theorem zac.zV9{P:Program}{g:FuncId}{xs:List XV}{k:RV→Prop}{m:Prop}{N:List XV→List XV→RV→Prop}(h:m):@zac _ P g xs ⟨k⟩ ⟨m⟩ ⟨N⟩:=.inr (.inr h)
theorem zac.named{P:Program}{n:Nat}{s:St}{g:FuncId}{xs xs':List XV}{k kN:RV→Prop}{m:Prop}{r:RV}(h:zab P g xs' r)(hn:zCp n s xs xs')(hf:r.flat=true)(hk:kN r):@zac _ P g xs ⟨k⟩ ⟨m⟩ ⟨fun xs xs' r=>zCp n s xs xs'∧r.flat=true∧kN r⟩:=.inr (.inl ⟨xs',r,h,hn,hf,hk⟩)
@[congr]theorem zGP{P:Program}{c c':Prop×Option (FuncId×List XV)}{k:RV→Prop}{m:Prop}(h:c=c'):zkw P c k m=zkw P c' k m:=by rw[h]
@[simp]theorem zTa(P:Program)(g:FuncId)(p:Prop)(xs:List XV)(k:RV→Prop)(m:Prop):zkw P (p,some (g,xs)) k m=(p∧@zac _ P g xs ⟨fun r=>r.flat=true∧k r⟩ ⟨m⟩ ⟨fun _ _ _=>False⟩):=by
 simp[zkw,zac]
@[simp]theorem zJ1(P:Program)(p:Prop)(k:RV→Prop)(m:Prop):zkw P (p,none) k m=m:=rfl
def ze3(s:St):Prop×AV→Bool
 |(_,.ptr i _)=>!(s i).told
 |_=>false
@[congr]theorem zzO{s:St}{q q':Prop×AV}(h:q=q'):ze3 s q=ze3 s q':=by rw[h]
@[simp]theorem zEU(s:St)(p:Prop)(i o:Nat):ze3 s (p,.ptr i o)=!(s i).told:=rfl
@[simp]theorem zRS(s:St)(p:Prop)(v:XV):ze3 s (p,.x v)=false:=rfl
@[simp]theorem zzu(s:St)(p:Prop)(i:Nat):ze3 s (p,.alias i)=false:=rfl
@[simp]theorem zCn(s:St)(p:Prop)(f:FuncId)(caps:List (CV ⊕ (Nat×Nat))):ze3 s (p,.cloR f caps)=false:=rfl
@[simp]theorem zuN(s:St)(x:Operand):zo9 s x=ze3 s (sv s x):=by
 unfold zo9 ze3
 cases sv s x with
 |mk p v=>cases v<;>rfl
def zr0(s:St):List Operand→Bool
 |[]=>false
 |x::r=>ze3 s (sv s x) || zr0 s r
@[simp]theorem zRG(s:St):zr0 s []=false:=rfl
@[simp]theorem zMz(s:St)(x:Operand)(r:List Operand):zr0 s (x::r)=(ze3 s (sv s x) || zr0 s r):=rfl
theorem zq1(s:St):∀l:List Operand,l.any (zo9 s)=zr0 s l
 |[]=>rfl
 |x::r=>by simp only[List.any_cons,zq1 s r,zr0,zuN]
def zrW(s:St)(f:Operand)(args:List Operand):Bool→Prop×Option (FuncId×List XV)
 |true=>match sv s f,zkL s args with
  |(p,a),(q,some xs)=>match zkD a with
   |some (g,caps)=>(p∧q,some (g,xs++caps))
   |none=>(False,none)
  |_,_=>(False,none)
 |false=>(False,none)
@[congr]theorem zE3{s:St}{f:Operand}{args:List Operand}{b b':Bool}(h:b=b'):zrW s f args b=zrW s f args b':=by rw[h]
@[simp]theorem zER(s:St)(f:Operand)(args:List Operand):zrW s f args false=(False,none):=rfl
@[simp]theorem zKX(s:St)(f:Operand)(args:List Operand):zgU s f args=zrW s f args (zr0 s args):=by
 unfold zgU zrW
 rw[zq1]
 rfl
@[congr]theorem zGI{P:Program}{c c':Prop×Option (FuncId×List XV)}{k:RV→Prop}{m:Prop}{N:List XV→List XV→RV→Prop}(h:c=c'):zkr P c k m N=zkr P c' k m N:=by rw[h]
@[simp]theorem zSu(P:Program)(g:FuncId)(p:Prop)(xs:List XV)(k:RV→Prop)(m:Prop)(N:List XV→List XV→RV→Prop):zkr P (p,some (g,xs)) k m N=(p∧@zac _ P g xs ⟨k⟩ ⟨m⟩ ⟨N⟩):=rfl
@[simp]theorem zNj(P:Program)(p:Prop)(k:RV→Prop)(m:Prop)(N:List XV→List XV→RV→Prop):zkr P (p,none) k m N=m:=rfl
def ztN(P:Program)(c:Prop×Option (FuncId×List XV))(k:RV→Prop):Prop:=
 match c with
 |(p,some (g,xs))=>p∧@zac _ P g xs ⟨k⟩ ⟨False⟩ ⟨fun _ _ _=>False⟩
 |_=>False
@[congr]theorem zIX{P:Program}{c c':Prop×Option (FuncId×List XV)}{k:RV→Prop}(h:c=c'):ztN P c k=ztN P c' k:=by rw[h]
@[simp]theorem zSW(P:Program)(g:FuncId)(p:Prop)(xs:List XV)(k:RV→Prop):ztN P (p,some (g,xs)) k=(p∧@zac _ P g xs ⟨k⟩ ⟨False⟩ ⟨fun _ _ _=>False⟩):=rfl
theorem zzX(P:Program)(s:St)(f:Operand)(args:List Operand)(k:RV→Prop):(∃r,zh5 P s f args r∧k r)=ztN P (callee s f args) k:=by
 unfold zh5 ztN zac
 apply propext
 constructor
 ·rintro⟨r,h,hk⟩
  split at h
  ·rename_i p g xs e
   rw[e]
   exact⟨h.1,.inl ⟨r,h.2,hk⟩⟩
  ·exact h.elim
 ·intro h
  split at h
  ·rename_i p g xs e
   obtain⟨hp,⟨r,hc,hk⟩ | ⟨_,_,_,h⟩ | h⟩:=h
   ·exact⟨r,by rw[e];exact⟨hp,hc⟩,hk⟩
   ·exact h.elim
   ·exact h.elim
  ·exact h.elim
def zb0(P:Program)(g:FuncId)(args:List AV)[k:zpe (RV→List AV→Prop)]:Prop:=∃r outs,zat P g args r outs∧k.val r outs
theorem zb0.of{P:Program}{g:FuncId}{args:List AV}{k:RV→List AV→Prop}{r:RV}{outs:List AV}(h:zat P g args r outs)(hk:k r outs):@zb0 _ P g args ⟨k⟩:=⟨r,outs,h,hk⟩
@[congr]theorem zEV{P:Program}{s:St}{c c':Prop×Option (FuncId×List (AV×Option Nat))}{k:List (AV×Option Nat)→RV→List AV→Prop}(h:c=c'):zfS P s c k=zfS P s c' k:=by rw[h]
@[congr]theorem zIK{P:Program}{g:FuncId}{xs:List (AV×Option Nat)}{k:List (AV×Option Nat)→RV→List AV→Prop}{q q':Option (Nat×List CV)}(h:q=q'):zul P g xs k q=zul P g xs k q':=by rw[h]
def zo5(P:Program)(g:FuncId)(args:Nat→List AV)[k:zpe (RV→List AV→List CV→Prop)]:Prop:=∃r outs co,(∀b,zat P g (args b) r (outs++[.gbox b co]))∧k.val r outs co
theorem zo5.of{P:Program}{g:FuncId}{args:Nat→List AV}{k:RV→List AV→List CV→Prop}{r:RV}{outs:List AV}{co:List CV}(h:∀b,zat P g (args b) r (outs++[.gbox b co]))(hk:k r outs co):@zo5 _ P g args ⟨k⟩:=⟨r,outs,co,h,hk⟩
@[simp]theorem zNs(P:Program)(g:FuncId)(xs:List (AV×Option Nat))(k:List (AV×Option Nat)→RV→List AV→Prop):zul P g xs k none=@zb0 _ P g (zhd xs xs) ⟨fun r outs=>k xs r outs⟩:=rfl
@[simp]theorem zLx(P:Program)(g:FuncId)(xs:List (AV×Option Nat))(k:List (AV×Option Nat)→RV→List AV→Prop)(i:Nat)(cs:List CV):zul P g xs k (some (i,cs))=((AV.box cs).told=true∧(slotsOf (xs++[(.box cs,some i)])).Nodup∧@zo5 _ P g (fun b=>zhd (xs++[(.box cs,some i)]) xs++[.gbox b cs]) ⟨fun r outs co=>k (xs++[(.box cs,some i)]) r (outs++[.box co])⟩):=rfl
def zye(i:Nat):AV→Option (Nat×List CV)
 |.box cs=>some (i,cs)
 |_=>none
@[simp]theorem zJC(i:Nat)(cs:List CV):zye i (.box cs)=some (i,cs):=rfl
def zvM(s:St):List Nat→Option (Nat×List CV)
 |[]=>none
 |i::_=>zye i (s i)
@[simp]theorem zKV(s:St):zvM s []=none:=rfl
@[simp]theorem zGN(s:St)(i:Nat)(l:List Nat):zvM s (i::l)=zye i (s i):=rfl
@[simp]theorem zTT(s:St)(xs:List (AV×Option Nat)):ghost s xs=zvM s (zgQ (slotsOf xs) xs):=rfl
@[simp]theorem zGa(l:List Nat):zgQ l []=[]:=rfl
@[simp]theorem zDd(l:List Nat)(x:AV)(q:Option Nat)(r:List (AV×Option Nat)):zgQ l ((x,q)::r)=addN l x.zcn (zgQ l r):=rfl
@[simp]theorem zTv(l r:List Nat):addN l [] r=r:=rfl
@[simp]theorem zRW(l t r:List Nat)(i:Nat):addN l (i::t) r=bif l.contains i then addN l t r else i::addN l t r:=rfl
@[simp]theorem zNI(v:XV):AV.zcn (.x v)=[]:=rfl
@[simp]theorem zGD(cs:List CV):AV.zcn (.box cs)=[]:=rfl
@[simp]theorem zE8(e z:Nat)(xs:List (List CV)):AV.zcn (.own e z xs)=[]:=rfl
@[simp]theorem zCY(i off:Nat):AV.zcn (.ptr2 i off)=[i]:=rfl
def zsr:List (CV ⊕ (Nat×Nat))→List Nat
 |[]=>[]
 |.inl _::r=>zsr r
 |.inr p::r=>p.1::zsr r
@[simp]theorem zNP:zsr []=[]:=rfl
@[simp]theorem zOo(i off:Nat)(r:List (CV ⊕ (Nat×Nat))):zsr (.inr (i,off)::r)=i::zsr r:=rfl
@[simp]theorem zCK(f:FuncId)(caps:List (CV ⊕ (Nat×Nat))):AV.zcn (.cloR f caps)=zsr caps:=by
 simp only[AV.zcn]
 induction caps with
 |nil=>rfl
 |cons c r ih=>cases c<;>simp only[List.filterMap_cons,zcq,zsr,ih]
@[simp]theorem zPG(i j:Nat):posOf i [] j=none:=rfl
@[simp]theorem zNh(i j k:Nat)(x:AV)(l:List (AV×Option Nat)):posOf i ((x,some k)::l) j=bif k==i then some j else posOf i l (j+1):=rfl
@[simp]theorem zLG(i j:Nat)(x:AV)(l:List (AV×Option Nat)):posOf i ((x,none)::l) j=posOf i l (j+1):=rfl
def trK(a:Option Nat)(off:Nat)(b:Option (List (CV ⊕ (Nat×Nat)))):Option (List (CV ⊕ (Nat×Nat))):=match a,b with
 |some j,some cs=>some (.inr (j,off)::cs)
 |_,_=>none
@[simp]theorem zR7(j off:Nat)(cs:List (CV ⊕ (Nat×Nat))):trK (some j) off (some cs)=some (.inr (j,off)::cs):=rfl
@[simp]theorem zUm(L:List (AV×Option Nat)):trC L []=some []:=rfl
@[simp]theorem zVp(L:List (AV×Option Nat))(i off:Nat)(r:List (CV ⊕ (Nat×Nat))):trC L (.inr (i,off)::r)=trK (posOf i L 0) off (trC L r):=rfl
def trF(f:FuncId):Option (List (CV ⊕ (Nat×Nat)))→AV
 |some cs=>.cloR f cs
 |none=>.dead
@[simp]theorem zTd(f:FuncId)(cs:List (CV ⊕ (Nat×Nat))):trF f (some cs)=.cloR f cs:=rfl
def trP(off:Nat):Option Nat→AV
 |some j=>.ptr2 j off
 |none=>.dead
@[simp]theorem zTy(j off:Nat):trP off (some j)=.ptr2 j off:=rfl
@[simp]theorem zWb(L:List (AV×Option Nat))(v:XV):trA L (.x v)=.x v:=rfl
@[simp]theorem zVu(L:List (AV×Option Nat))(cs:List CV):trA L (.box cs)=.box cs:=rfl
@[simp]theorem zVa(L:List (AV×Option Nat))(e z:Nat)(xs:List (List CV)):trA L (.own e z xs)=.own e z xs:=rfl
@[simp]theorem zR1(L:List (AV×Option Nat))(f:FuncId)(caps:List (CV ⊕ (Nat×Nat))):trA L (.cloR f caps)=trF f (trC L caps):=rfl
@[simp]theorem zSX(L:List (AV×Option Nat))(i off:Nat):trA L (.ptr2 i off)=trP off (posOf i L 0):=rfl
@[simp]theorem zTn(L:List (AV×Option Nat)):zhd L []=[]:=rfl
@[simp]theorem zOl(L:List (AV×Option Nat))(y:AV×Option Nat)(r:List (AV×Option Nat)):zhd L (y::r)=trA L y.1::zhd L r:=rfl
@[simp]theorem zSO(P:Program)(s:St)(g:FuncId)(p:Prop)(xs:List (AV×Option Nat))(k:List (AV×Option Nat)→RV→List AV→Prop):zfS P s (p,some (g,xs)) k=(p∧zfM xs=true∧(slotsOf xs).Nodup∧zul P g xs k (ghost s xs)):=rfl
@[simp]theorem zGR:slotsOf []=[]:=rfl
@[simp]theorem zC8(x:AV)(i:Nat)(l:List (AV×Option Nat)):slotsOf ((x,some i)::l)=i::slotsOf l:=rfl
@[simp]theorem zD7(x:AV)(l:List (AV×Option Nat)):slotsOf ((x,none)::l)=slotsOf l:=rfl
@[simp]theorem zIz(s:St)(outs:List AV):zaI s [] outs=s:=by cases outs<;>rfl
@[simp]theorem zCw(s:St)(x o:AV)(i:Nat)(l:List (AV×Option Nat))(outs:List AV):zaI s ((x,some i)::l) (o::outs)=zaI (zht s i o) l outs:=rfl
@[simp]theorem zCm(s:St)(x o:AV)(l:List (AV×Option Nat))(outs:List AV):zaI s ((x,none)::l) (o::outs)=zaI s l outs:=rfl
@[simp]theorem zJK(s:St)(i:Nat)(cs:List CV):zht s i (.box cs)=upd s i (.box cs):=rfl
theorem zmH(s:St)(i:Nat)(o:AV):(fun j=>if j=i then o else if (s j).refs i then .dead else s j)=upd (kill s i) i o:=by
 funext j;simp only[zri,zF3]
@[simp]theorem zIl(s:St)(i:Nat):zht s i .dead=upd (kill s i) i .dead:=zmH s i _
def aMO(p:Prop)(i:Nat):AV→Prop×Option (AV×Option Nat)
 |.own e z xs=>(p,some (.own e z xs,some i))
 |.mp c bs es=>(p,some (.mp c bs es,some i))
 |_=>(False,none)
@[simp]theorem zUr(p:Prop)(i e z:Nat)(xs:List (List CV)):aMO p i (.own e z xs)=(p,some (.own e z xs,some i)):=rfl
def aMB(p:Prop)(i:Nat):AV→Prop×Option (AV×Option Nat)
 |.box cs=>(p,some (.box cs,some i))
 |_=>(False,none)
@[simp]theorem zUW(p:Prop)(i:Nat)(cs:List CV):aMB p i (.box cs)=(p,some (.box cs,some i)):=rfl
def zqw(s:St):Prop×AV→Prop×Option (AV×Option Nat)
 |(p,.x xv)=>(p,some (.x xv,none))
 |(p,.alias i)=>aMO p i (s i)
 |(p,.ptr i 0)=>aMB p i (s i)
 |(p,.cloR f caps)=>(p,some (.cloR f caps,none))
 |(p,.ptr2 i off)=>(p,some (.ptr2 i off,none))
 |_=>(False,none)
@[congr]theorem zHJ{s:St}{q q':Prop×AV}(h:q=q'):zqw s q=zqw s q':=by rw[h]
@[simp]theorem zVB(s:St)(p:Prop)(v:XV):zqw s (p,.x v)=(p,some (.x v,none)):=rfl
@[simp]theorem zFO(s:St)(p:Prop)(i:Nat):zqw s (p,.alias i)=aMO p i (s i):=rfl
@[simp]theorem zPM(s:St)(p:Prop)(i:Nat):zqw s (p,.ptr i 0)=aMB p i (s i):=rfl
@[simp]theorem zJu(s:St)(p:Prop)(f:FuncId)(caps:List (CV ⊕ (Nat×Nat))):zqw s (p,.cloR f caps)=(p,some (.cloR f caps,none)):=rfl
@[simp]theorem zUJ(s:St)(x:Operand):zvs s x=zqw s (sv s x):=by
 unfold zvs zqw aMO aMB
 rfl
def zRX(a:Prop×Option (AV×Option Nat))(b:Prop×Option (List (AV×Option Nat))):Prop×Option (List (AV×Option Nat)):=match a,b with
 |(p,some v),(q,some vs)=>(p∧q,some (v::vs))
 |_,_=>(False,none)
@[simp]theorem zLd(p q:Prop)(v:AV×Option Nat)(vs:List (AV×Option Nat)):zRX (p,some v) (q,some vs)=(p∧q,some (v::vs)):=rfl
@[simp]theorem zQD(s:St):zeE s []=(True,some []):=rfl
@[simp]theorem zMC(s:St)(x:Operand)(r:List Operand):zeE s (x::r)=zRX (zvs s x) (zeE s r):=rfl
def zVV(i:Nat):AV→Option (AV×Option Nat)
 |.box cs=>some (.box cs,some i)
 |_=>none
@[simp]theorem zR5(i:Nat)(cs:List CV):zVV i (.box cs)=some (.box cs,some i):=rfl
@[simp]theorem zSA(s:St)(i:Nat):zwD s (.inr (i,0))=zVV i (s i):=rfl
@[simp]theorem zTQ(s:St)(i off:Nat)(h:1000000≤off):zwD s (.inr (i,off))=some (.ptr2 i (off-1000000),none):=by
 unfold zwD
 cases off with
 |zero=>omega
 |succ k=>simp[h]
def zN7(a:Option (AV×Option Nat))(b:Option (List (AV×Option Nat))):Option (List (AV×Option Nat)):=match a,b with
 |some v,some vs=>some (v::vs)
 |_,_=>none
@[simp]theorem zMn(v:AV×Option Nat)(vs:List (AV×Option Nat)):zN7 (some v) (some vs)=some (v::vs):=rfl
@[simp]theorem zPv(s:St):ze4 s []=some []:=rfl
@[simp]theorem zJT(s:St)(c:CV ⊕ (Nat×Nat))(r:List (CV ⊕ (Nat×Nat))):ze4 s (c::r)=zN7 (zwD s c) (ze4 s r):=rfl
@[simp]theorem zTq(s:St)(f:FuncId)(caps:List (CV ⊕ (Nat×Nat))):fnM s (.cloR f caps)=(ze4 s caps).map fun xs=>(f,xs):=rfl
@[simp]theorem zSy(s:St)(f:FuncId):fnM s (.x (.one (.atom (.func (.func f) #[] #[]))))=some (f,[]):=rfl
def zpt(f:Prop×Option (FuncId×List (AV×Option Nat)))(xs:Prop×Option (List (AV×Option Nat))):Prop×Option (FuncId×List (AV×Option Nat)):=
 match f,xs with
 |(p,some (g,caps)),(q,some xs)=>(p∧q,some (g,xs++caps))
 |_,_=>(False,none)
@[simp]theorem zG6(p q:Prop)(g:FuncId)(caps xs:List (AV×Option Nat)):zpt (p,some (g,caps)) (q,some xs)=(p∧q,some (g,xs++caps)):=rfl
def zUV(s:St):Prop×AV→Prop×Option (FuncId×List (AV×Option Nat))
 |(p,a)=>(p,fnM s a)
@[simp]theorem zUE(s:St)(p:Prop)(a:AV):zUV s (p,a)=(p,fnM s a):=rfl
@[simp]theorem zKq(s:St)(f:Operand)(args:List Operand):zaZ s f args=zpt (zUV s (sv s f)) (zeE s args):=by
 unfold zaZ zpt zUV
 generalize sv s f=a
 generalize zeE s args=b
 obtain⟨p,a⟩:=a
 obtain⟨q,b⟩:=b
 cases b with
 |none=>dsimp only;cases fnM s a<;>rfl
 |some xs=>dsimp only;cases fnM s a<;>rfl
def fnK:Prop×AV→Prop×Option (FuncId×List XV)
 |(p,a)=>(p,zkD a)
@[simp]theorem zVR(p:Prop)(a:AV):fnK (p,a)=(p,zkD a):=rfl
def zh0(f:Prop×Option (FuncId×List XV))(xs:Prop×Option (List XV)):Prop×Option (FuncId×List XV):=
 match f,xs with
 |(p,some (g,caps)),(q,some xs)=>(p∧q,some (g,xs++caps))
 |_,_=>(False,none)
@[simp]theorem zCo(f:Prop×Option (FuncId×List XV))(q:Prop):zh0 f (q,none)=(False,none):=by
 obtain⟨p,f⟩:=f
 cases f<;>rfl
@[simp]theorem zNr(p:Prop)(xs:Prop×Option (List XV)):zh0 (p,none) xs=(False,none):=rfl
@[simp]theorem zP2(f:FuncId)(caps:List (CV ⊕ (Nat×Nat))):zkD (.cloR f caps)=none:=rfl
@[simp]theorem zKv(p q:Prop)(g:FuncId)(caps xs:List XV):zh0 (p,some (g,caps)) (q,some xs)=(p∧q,some (g,xs++caps)):=rfl
@[simp]theorem zRJ(s:St)(f:Operand)(args:List Operand):callee s f args=zh0 (fnK (sv s f)) (zga s args):=by
 unfold callee zh0 fnK
 generalize sv s f=a
 generalize zga s args=b
 obtain⟨p,a⟩:=a
 obtain⟨q,b⟩:=b
 cases b with
 |none=>dsimp only;cases zkD a<;>rfl
 |some xs=>dsimp only;cases zkD a<;>rfl
def zah(P:Program)(e:Bool)(g:FuncId)(xs:List XV)[k:zpe (RV→Prop)]:Prop:=ztl P e g xs k.val
theorem zah.of{P:Program}{e:Bool}{g:FuncId}{xs:List XV}{k:RV→Prop}{r:RV}(h:e=true→zab P g xs r)(hf:r.flat=true)(hk:k r):@zah _ P e g xs ⟨k⟩:=⟨r,h,hf,hk⟩
@[simp]theorem zKZ(s:St)(f:Operand)(args:List Operand):zrW s f args true=zh0 (fnK (sv s f)) (zkL s args):=by
 unfold zrW zh0 fnK
 generalize zkL s args=xs
 cases hf:sv s f with
 |mk p v =>
  obtain⟨q,xs⟩:=xs
  cases xs<;>cases hv:zkD v<;>simp_all
@[congr]theorem zGp{P:Program}{e e':Bool}{c c':Prop×Option (FuncId×List XV)}{k:RV→Prop}(he:e=e')(h:c=c'):zjT P e c k=zjT P e' c' k:=by rw[he,h]
@[simp]theorem zTu(P:Program)(e:Bool)(g:FuncId)(p:Prop)(xs:List XV)(k:RV→Prop):zjT P e (p,some (g,xs)) k=((e=true→p)∧@zah _ P e g xs ⟨k⟩):=rfl
def znQ(P:Program)(e:Bool)(c:Prop×Option (FuncId×List XV))(k:RV→Prop)(m:Prop):Prop:=match c with
 |(p,some x)=>zjT P e (p,some x) k
 |(_,none)=>m
@[congr]theorem zB7{P:Program}{e e':Bool}{c c':Prop×Option (FuncId×List XV)}{k:RV→Prop}{m:Prop}(he:e=e')(h:c=c'):znQ P e c k m=znQ P e' c' k m:=by rw[he,h]
@[simp]theorem zPK(P:Program)(e:Bool)(g:FuncId)(p:Prop)(xs:List XV)(k:RV→Prop)(m:Prop):znQ P e (p,some (g,xs)) k m=((e=true→p)∧@zah _ P e g xs ⟨k⟩):=rfl
@[simp]theorem zHf(P:Program)(e:Bool)(p:Prop)(k:RV→Prop)(m:Prop):znQ P e (p,none) k m=m:=rfl
end Go.Ab
namespace Go.Ab
open Go Go.RowKit
variable [Amb]
def zie:Op→Bool
 |.move _=>true
 |.pick _ _ _=>true
 |.load _ _=>true
 |.nilCheck _=>true
 |.binOp _ _ _ _ _=>true
 |.unOp _ _ _=>true
 |.fieldAddr _ _ _=>true
 |.field _ _ _=>true
 |.indexAddr _ _ _=>true
 |.index _ _ _=>true
 |.extract _ _=>true
 |.lookup _ _ _ _=>true
 |.makeFunc _ _ _=>true
 |.slice _ _ _ _ _=>true
 |_=>false
def zfP{α:Type}(o:Option α)(k:α→Prop):Prop:=match o with
 |some x=>k x
 |none=>False
@[congr]theorem zKw{α:Type}{o o':Option α}{k:α→Prop}(h:o=o'):zfP o k=zfP o' k:=by rw[h]
@[simp]theorem zQW{α:Type}(x:α)(k:α→Prop):zfP (some x) k=k x:=rfl
def zMI(r:Prop×AV)(k:List CV→Prop):Prop:=match r with
 |(p,.x xv)=>p∧k xv.cells
 |_=>False
@[congr]theorem zMu{r r':Prop×AV}{k:List CV→Prop}(h:r=r'):zMI r k=zMI r' k:=by rw[h]
@[simp]theorem zUf(p:Prop)(c:CV)(k:List CV→Prop):zMI (p,.x (.one c)) k=(p∧k [c]):=rfl
@[simp]theorem zT6(p:Prop)(c:List CV)(k:List CV→Prop):zMI (p,.x (.agg c)) k=(p∧k c):=rfl
def zMt(r:Prop×AV)(k:Nat→Nat→Prop)(X:Prop):Prop:=match r with
 |(p,.ptr i off)=>p∧k i off
 |_=>X
@[congr]theorem zLb{r r':Prop×AV}{k:Nat→Nat→Prop}{X:Prop}(h:r=r'):zMt r k X=zMt r' k X:=by rw[h]
@[simp]theorem zT3(p:Prop)(i off:Nat)(k:Nat→Nat→Prop)(X:Prop):zMt (p,.ptr i off) k X=(p∧k i off):=rfl
@[simp]theorem zVL(p:Prop)(v:XV)(k:Nat→Nat→Prop)(X:Prop):zMt (p,.x v) k X=X:=rfl
def zDq(r:Prop×St)(k:St→Prop):Prop:=r.1∧k r.2
@[congr]theorem zMx{r r':Prop×St}{k:St→Prop}(h:r=r'):zDq r k=zDq r' k:=by rw[h]
@[simp]theorem zVt(p:Prop)(s:St)(k:St→Prop):zDq (p,s) k=(p∧k (touch s)):=rfl
def zSg(r:Prop×St×AV)(k:St→AV→Prop):Prop:=r.1∧k r.2.1 r.2.2
@[congr]theorem zLo{r r':Prop×St×AV}{k:St→AV→Prop}(h:r=r'):zSg r k=zSg r' k:=by rw[h]
@[simp]theorem zVe(p:Prop)(s:St)(v:AV)(k:St→AV→Prop):zSg (p,s,v) k=(p∧k s v):=rfl
def zou(b:Bool)(x y:Prop):Prop:=match b with
 |true=>x
 |false=>y
@[congr]theorem zE5{b b':Bool}{x y:Prop}(h:b=b'):zou b x y=zou b' x y:=by rw[h]
@[simp ↓]theorem zJ3(x y:Prop):zou true x y=x:=rfl
@[simp ↓]theorem zGf(x y:Prop):zou false x y=y:=rfl
def zeu(v:AV)(k1 k2:AV→Prop)(k3:Nat→Nat→Nat→Bool→Prop):Prop:=match v with
 |.own e z xs=>k1 (.own e z xs)
 |.mp c bs es=>k1 (.mp c bs es)
 |.view i lo len wh=>k3 i lo len wh
 |v=>k2 v
@[congr]theorem zz5{v v':AV}{k1 k2:AV→Prop}{k3:Nat→Nat→Nat→Bool→Prop}(h:v=v'):zeu v k1 k2 k3=zeu v' k1 k2 k3:=by rw[h]
section
variable (k1 k2:AV→Prop)(k3:Nat→Nat→Nat→Bool→Prop)
@[simp]theorem zGO(e z:Nat)(xs:List (List CV)):zeu (.own e z xs) k1 k2 k3=k1 (.own e z xs):=rfl
@[simp]theorem zMO(c:Nat)(bs:List Nat)(es:List (XV×XV)):zeu (.mp c bs es) k1 k2 k3=k1 (.mp c bs es):=rfl
@[simp]theorem zRO(v:XV):zeu (.x v) k1 k2 k3=k2 (.x v):=rfl
@[simp]theorem zF7(v:List CV):zeu (.box v) k1 k2 k3=k2 (.box v):=rfl
@[simp]theorem zEd(v:List CV):zeu (.elem v) k1 k2 k3=k2 (.elem v):=rfl
@[simp]theorem zAU(s:Nat):zeu (.alias s) k1 k2 k3=k2 (.alias s):=rfl
@[simp]theorem zB8(f:FuncId)(caps:List (CV ⊕ (Nat×Nat))):zeu (.cloR f caps) k1 k2 k3=k2 (.cloR f caps):=rfl
end
def zBo(s:St)(d lo len:Nat)(wh:Bool)(K:St→Prop):AV→Prop
 |.own e size xs=>zou wh (K (put (put s d .dead) d (.own e size (xs.take len)))) (K (put (freeze s d) d (.x (.one (.list size ((xs.drop lo).take len))))))
 |_=>False
@[congr]theorem zFP{s:St}{d lo len:Nat}{wh:Bool}{K:St→Prop}{v v':AV}(h:v=v'):zBo s d lo len wh K v=zBo s d lo len wh K v':=by rw[h]
@[simp ↓]theorem zC2(s:St)(d lo len:Nat)(wh:Bool)(K:St→Prop):zfh s d lo len wh K=zBo s d lo len wh K (s d):=by
 unfold zfh zBo zou
 cases s d<;>first | rfl | (cases wh<;>rfl)
section
variable (P:Program)(n:Nat)(ops:Array Oper)(s:St)(K:St→Prop)(d:Nat)(ty:TypeId)(pos:String)(after:Array Edge)(r:List Oper)
@[simp ↓]theorem zSm:zaS P n ops [] s K=K s:=rfl
theorem zbx(op:Op)(h:zie op=true):zaS P n ops (⟨some d,op,ty,pos,after,none⟩::r) s K=zeC (zaj P s op) (fun v=>d<n∧zaS P n ops r (put s d v) K):=by
 cases op<;>first | rfl | (simp[zie] at h)
@[simp]theorem zOE(x:Operand):zaS P n ops (⟨some d,.move x,ty,pos,after,none⟩::r) s K=zeC (zaj P s (.move x)) (fun v=>d<n∧zaS P n ops r (put s d v) K):=zbx P n ops s K d ty pos after r _ (by rfl)
@[simp]theorem zN1(c x y:Operand):zaS P n ops (⟨some d,.pick c x y,ty,pos,after,none⟩::r) s K=zeC (zaj P s (.pick c x y)) (fun v=>d<n∧zaS P n ops r (put s d v) K):=zbx P n ops s K d ty pos after r _ (by rfl)
@[simp]theorem zNL(t:TypeId)(x:Operand):zaS P n ops (⟨some d,.load t x,ty,pos,after,none⟩::r) s K=zeC (zaj P s (.load t x)) (fun v=>d<n∧zaS P n ops r (put s d v) K):=zbx P n ops s K d ty pos after r _ (by rfl)
@[simp]theorem zBm(x:Operand):zaS P n ops (⟨some d,.nilCheck x,ty,pos,after,none⟩::r) s K=zeC (zaj P s (.nilCheck x)) (fun v=>d<n∧zaS P n ops r (put s d v) K):=zbx P n ops s K d ty pos after r _ (by rfl)
@[simp]theorem zNG(o:BinOp)(t t':TypeId)(x y:Operand):zaS P n ops (⟨some d,.binOp o t x y t',ty,pos,after,none⟩::r) s K=zeC (zaj P s (.binOp o t x y t')) (fun v=>d<n∧zaS P n ops r (put s d v) K):=zbx P n ops s K d ty pos after r _ (by rfl)
@[simp]theorem zOf(o:UnOp)(t:TypeId)(x:Operand):zaS P n ops (⟨some d,.unOp o t x,ty,pos,after,none⟩::r) s K=zeC (zaj P s (.unOp o t x)) (fun v=>d<n∧zaS P n ops r (put s d v) K):=zbx P n ops s K d ty pos after r _ (by rfl)
@[simp]theorem zEq(t t':TypeId)(x:Operand):zaS P n ops (⟨some d,.convert t t' x,ty,pos,after,none⟩::r) s K=zg2 (za6 P t') (zeC (zez P t t' (sv s x)) (fun v=>d<n∧zaS P n ops r (put s d v) K)) (zeC (zbR P s t t' (sv s x)) (fun v=>d<n∧zaS P n ops r (put s d v) K)):=by
 show (match za6 P t' with | true=>_ | false=>_)=_
 unfold zg2
 cases za6 P t'<;>rfl
@[simp]theorem zy5(t:TypeId)(x:Operand)(f:Nat):zaS P n ops (⟨some d,.fieldAddr t x f,ty,pos,after,none⟩::r) s K=zeC (zaj P s (.fieldAddr t x f)) (fun v=>d<n∧zaS P n ops r (put s d v) K):=zbx P n ops s K d ty pos after r _ (by rfl)
@[simp]theorem zy2(t:TypeId)(x i:Operand):zaS P n ops (⟨some d,.indexAddr t x i,ty,pos,after,none⟩::r) s K=zeC (zaj P s (.indexAddr t x i)) (fun v=>d<n∧zaS P n ops r (put s d v) K):=zbx P n ops s K d ty pos after r _ (by rfl)
@[simp]theorem zMl(t:TypeId)(x i:Operand):zaS P n ops (⟨some d,.index t x i,ty,pos,after,none⟩::r) s K=zeC (zaj P s (.index t x i)) (fun v=>d<n∧zaS P n ops r (put s d v) K):=zbx P n ops s K d ty pos after r _ (by rfl)
@[simp]theorem zDU(x:Operand)(f:Nat):zaS P n ops (⟨some d,.extract x f,ty,pos,after,none⟩::r) s K=zeC (zaj P s (.extract x f)) (fun v=>d<n∧zaS P n ops r (put s d v) K):=zbx P n ops s K d ty pos after r _ (by rfl)
@[simp]theorem zAd(fn:Fn)(fst cap:Array Operand):zaS P n ops (⟨some d,.makeFunc fn fst cap,ty,pos,after,none⟩::r) s K=zeC (zaj P s (.makeFunc fn fst cap)) (fun v=>d<n∧zaS P n ops r (put s d v) K):=zbx P n ops s K d ty pos after r _ (by rfl)
@[simp]theorem zEP(t:TypeId)(x k:Operand)(ok:Bool):zaS P n ops (⟨some d,.lookup t x k ok,ty,pos,after,none⟩::r) s K=zeC (zaj P s (.lookup t x k ok)) (fun v=>d<n∧zaS P n ops r (put s d v) K):=zbx P n ops s K d ty pos after r _ (by rfl)
@[simp]theorem zL8(t:TypeId)(parts:Array (Nat×Operand)):zaS P n ops (⟨some d,.build t parts,ty,pos,after,none⟩::r) s K=zeC (zev P (uv s) t parts.toList) (fun v=>d<n∧zaS P n ops r (put (zas s (zaX s (parts.toList.map (·.2)))) d v) K):=rfl
@[simp]theorem zKS(t:TypeId):zaS P n ops (⟨some d,.alloc t,ty,pos,after,none⟩::r) s K=zfP (zeroOf P t) (fun cs=>d<n∧zaS P n ops r (put s d (.box cs)) K):=by
 show (match zeroOf P t with | some cs=>_ | none=>False)=_
 cases zeroOf P t<;>rfl
def zTz(s:St)(d i:Nat)(p:Prop)(k:St→Prop)(X:Prop)(b:Bool):Prop:=match b with
 |true=>p∧i≠d∧(s (LK d 0)).free=true∧k (upd (put s d (.box [.any])) (LK d 0) (.link d 0 i))
 |false=>X
@[congr]theorem zJ6{s:St}{d i:Nat}{p:Prop}{k:St→Prop}{X:Prop}{b b':Bool}(h:b=b'):zTz s d i p k X b=zTz s d i p k X b':=by rw[h]
def zSI(s:St)(d i:Nat)(p:Prop)(k:St→Prop)(X:Prop)(m:AV):Prop:=match m with
 |.res l=>zTz s d i p k X (l.contains (d,0)&&(s i).tight)
 |_=>X
@[congr]theorem zMi{s:St}{d i:Nat}{p:Prop}{k:St→Prop}{X:Prop}{m m':AV}(h:m=m'):zSI s d i p k X m=zSI s d i p k X m':=by rw[h]
def zJO(s:St)(d:Nat)(r:Prop×AV)(k:St→Prop)(X:Prop):Prop:=match r with
 |(p,.alias i)=>zSI s d i p k X (s MARK)
 |_=>X
@[congr]theorem zM9{s:St}{d:Nat}{r r':Prop×AV}{k:St→Prop}{X:Prop}(h:r=r'):zJO s d r k X=zJO s d r' k X:=by rw[h]
@[simp]theorem zVU(s:St)(d:Nat)(p:Prop)(v:XV)(k:St→Prop)(X:Prop):zJO s d (p,.x v) k X=X:=rfl
theorem zHQ(s:St)(d:Nat)(r:Prop×AV)(k:St→Prop)(X:Prop):zJO s d r k X=(match zid s d r with | some (p,i)=>p∧i≠d∧(s (LK d 0)).free=true∧k (zml s d i) | none=>X):=by
 obtain⟨p,r⟩:=r
 cases r<;>try rfl
 rename_i i
 unfold zJO zid zSI
 dsimp only
 cases s MARK<;>try rfl
 rename_i l
 dsimp only
 unfold zTz
 cases (l.contains (d,0)&&(s i).tight)<;>rfl
@[simp]theorem zRY(t:TypeId)(x:Operand):zaS P n ops (⟨some d,.box t x,ty,pos,after,none⟩::r) s K=zMt (sv s x) (fun i off=>d<n∧zaS P n ops r (put s d (.ptr2 i off)) K) (zJO s d (sv s x) (fun s'=>d<n∧zaS P n ops r s' K) (zMI (uv s x) (fun cs=>d<n∧zaS P n ops r (put (zas s (zaX s [x])) d (.box cs)) K))):=by
 rw[zHQ]
 simp only[zaS,aop,zcH,zMI,zMt]
 generalize sv s x=q
 obtain⟨p,q⟩:=q
 cases q<;>first
  |rfl
  |(dsimp only
    cases hb:zid s d _ with
    |none=>rfl
    |some y =>
     obtain⟨p,i⟩:=y
     apply propext
     constructor
     ·rintro⟨h1,h2,h3,h4,h5⟩;exact⟨h1,h3,h4,h2,h5⟩
     ·rintro⟨h1,h3,h4,h2,h5⟩;exact⟨h1,h2,h3,h4,h5⟩)
@[simp]theorem zvZ(t:TypeId)(len:Nat)(parts:Array (Nat×Operand)):zaS P n ops (⟨some d,.buildSlice t len parts,ty,pos,after,none⟩::r) s K=zeC (zaB P (uv s) t len parts.toList) (fun v=>d<n∧zaS P n ops r (put (zas s (zaX s (parts.toList.map (·.2)))) d v) K):=rfl
def zqE(P:Program)(t:TypeId)(addr:Operand)(x:Prop×AV)(k:St→Prop)(s:St):Prop:=zDq (zcs P s t (sv s addr) x) k
@[congr]theorem zDw{P:Program}{t:TypeId}{addr:Operand}{x x':Prop×AV}{k:St→Prop}{s s':St}(h:s=s')(hx:x=x'):zqE P t addr x k s=zqE P t addr x' k s':=by rw[h,hx]
@[simp]theorem zPP(P:Program)(t:TypeId)(addr:Operand)(p:Prop)(v:AV)(k:St→Prop)(s:St):zqE P t addr (p,v) k s=zDq (zcs P s t (sv s addr) (p,v)) k:=rfl
def zj3(P:Program)(t:TypeId)(addr x:Operand)(k:St→Prop)(s:St)(lk:Option (Prop×Nat×Nat×Nat)):Prop:=
 match lk with
 |some (p,i,off,d)=>p∧zDq (zar P s t i off d) k
 |none=>zqE P t addr (uv s x) k (zas s (zaX s [x]))
@[congr]theorem zAp{P:Program}{t:TypeId}{addr x:Operand}{k:St→Prop}{s:St}{l l':Option (Prop×Nat×Nat×Nat)}(h:l=l'):zj3 P t addr x k s l=zj3 P t addr x k s l':=by rw[h]
@[simp]theorem zEk(P:Program)(t:TypeId)(addr x:Operand)(k:St→Prop)(s:St):zj3 P t addr x k s none=zqE P t addr (uv s x) k (zas s (zaX s [x])):=rfl
@[simp]theorem zDp(P:Program)(t:TypeId)(addr x:Operand)(k:St→Prop)(s:St)(p:Prop)(i off d:Nat):zj3 P t addr x k s (some (p,i,off,d))=(p∧zDq (zar P s t i off d) k):=rfl
def zsj(s:St)(addr x:Operand)(m:AV):Option (Prop×Nat×Nat×Nat):=
 match m with
 |.res _=>zbc s (sv s addr) (sv s x)
 |_=>none
@[congr]theorem zHu{s:St}{addr x:Operand}{m m':AV}(h:m=m'):zsj s addr x m=zsj s addr x m':=by rw[h]
@[simp]theorem zOs(s:St)(addr x:Operand)(l:List (Nat×Nat)):zsj s addr x (.res l)=zbc s (sv s addr) (sv s x):=rfl
@[simp]theorem zJL(s:St)(addr x:Operand):zsj s addr x .dead=none:=rfl
theorem zAO(s:St)(addr x:Operand):zbc s (sv s addr) (sv s x)=zsj s addr x (s MARK):=by
 unfold zsj
 split
 ·rfl
 ·rename_i h
  unfold zbc
  split
  ·split
   ·split
    ·rename_i e;exact absurd e (h _)
    ·rfl
   ·rfl
  ·rfl
@[simp]theorem zK3(t:TypeId)(addr x:Operand):zaS P n ops (⟨none,.store t addr x,ty,pos,after,none⟩::r) s K=(zdQ P t=true∧zj3 P t addr x (fun s'=>zaS P n ops r s' K) s (zsj s addr x (s 999999))):=by
 rw[←zAO]
 simp only[zaS,aop,zcH,zj3]
 cases zbc s (sv s addr) (sv s x) with
 |none=>rfl
 |some y =>
  obtain⟨p,i,off,d⟩:=y
  apply propext
  rfl
def zzQ(q:Prop)(d:Nat)(l:List (Nat×Nat)):Prop×AV→Option (Prop×Nat×Nat×Nat)
 |(p,.ptr i off)=>bif l.contains (i,off) then some (p∧q,i,off,d) else none
 |_=>none
def zyv(a:Prop×AV)(q:Prop)(d:Nat):AV→Option (Prop×Nat×Nat×Nat)
 |.res l=>zzQ q d l a
 |_=>none
@[congr]theorem zJf{a a':Prop×AV}{q:Prop}{d:Nat}{v v':AV}(h:v=v')(h2:a=a'):zyv a q d v=zyv a' q d v':=by rw[h,h2]
@[simp]theorem zQk(a:Prop×AV)(q:Prop)(d:Nat)(l:List (Nat×Nat)):zyv a q d (.res l)=zzQ q d l a:=rfl
@[simp]theorem zN2(q:Prop)(d:Nat)(l:List (Nat×Nat))(p:Prop)(i off:Nat):zzQ q d l (p,.ptr i off)=bif l.contains (i,off) then some (p∧q,i,off,d) else none:=rfl
@[simp]theorem zy3(s:St)(a:Prop×AV)(q:Prop)(d:Nat):zbc s a (q,.alias d)=zyv a q d (s MARK):=by
 unfold zbc zyv zzQ
 obtain⟨p,v⟩:=a
 cases v<;>cases s MARK<;>first | rfl | (dsimp only;split<;>rename_i h<;>rw[h]<;>rfl)
@[simp]theorem zMd(s:St)(a:Prop×AV)(q:Prop)(v:XV):zbc s a (q,.x v)=none:=rfl
def zxs(s:St)(i off d:Nat)(k:TK):AV→Prop×St
 |.box cs=>match k with
  |.one=>(off<cs.length∧(s d).tight=true∧(s (LK i off)).free=true,upd (upd (unlink s i off 1) (LK i off) (.link i off d)) i (.box (cs.set off .any)))
  |_=>(False,s)
 |.gbox b cs=>match k with
  |.one=>(off<cs.length∧(s d).tight=true∧(s (LK i off)).free=true,upd (upd (unlink s i off 1) (LK i off) (.link i off d)) i (.gbox b (cs.set off .any)))
  |_=>(False,s)
 |_=>(False,s)
@[congr]theorem zE0{s:St}{i off d:Nat}{k k':TK}{v v':AV}(h:k=k')(h2:v=v'):zxs s i off d k v=zxs s i off d k' v':=by rw[h,h2]
@[simp]theorem zOJ(s:St)(i off d:Nat)(cs:List CV):zxs s i off d .one (.box cs)=(off<cs.length∧(s d).tight=true∧(s (LK i off)).free=true,upd (upd (unlink s i off 1) (LK i off) (.link i off d)) i (.box (cs.set off .any))):=rfl
@[simp]theorem zDh(P:Program)(s:St)(t:TypeId)(i off d:Nat):zar P s t i off d=zxs s i off d (tk P t) (s i):=by
 unfold zar zxs
 cases tk P t<;>cases s i<;>rfl
@[simp]theorem zF0(t:Nat):zaS P n ops (⟨some d,.assign (.tmp t),ty,pos,after,none⟩::r) s K=zeu (s t) (fun v=>d<n∧zaS P n ops r (put (put s t .dead) d v) K) (fun v=>d<n∧zaS P n ops r (put s d (zhM t v)) K)
  (fun i lo len wh=>zou (decide (i=d)) (d<n∧zfh s d lo len wh (fun s'=>zaS P n ops r s' K)) (d<n∧zaS P n ops r (put s d (.view i lo len wh)) K)):=by
 simp only[zaS,aop,zcH,zeu,zou]
 split<;>rename_i h<;>simp[h,zsn]
 ·split<;>split<;>simp_all
def zHG(s:St)(p q r:Prop)(i:Nat)(kk:KK)(kx xx:XV)(c:Nat)(bs:List Nat)(es:List (XV×XV)):Option (Option Nat)→Prop×St
 |some f=>(p∧q∧r∧zdY kk kx=true,upd s i (.mp (zij c bs es kx xx f).1 (zij c bs es kx xx f).2.1 (zij c bs es kx xx f).2.2))
 |none=>(False,s)
@[congr]theorem zMq{s:St}{p q r:Prop}{i:Nat}{kk:KK}{kx xx:XV}{c:Nat}{bs:List Nat}{es:List (XV×XV)}{f f':Option (Option Nat)}(h:f=f'):zHG s p q r i kk kx xx c bs es f=zHG s p q r i kk kx xx c bs es f':=by rw[h]
@[simp]theorem zRe(s:St)(p q r:Prop)(i:Nat)(kk:KK)(kx xx:XV)(c:Nat)(bs:List Nat)(es:List (XV×XV)):zHG s p q r i kk kx xx c bs es (some none)=(p∧q∧r∧zdY kk kx=true,upd s i (.mp (c+1) (bs++[c]) (es++[(kx,xx)]))):=rfl
@[simp]theorem zOk(s:St)(p q r:Prop)(i:Nat)(kk:KK)(kx xx:XV)(c:Nat)(bs:List Nat)(es:List (XV×XV))(j:Nat):zHG s p q r i kk kx xx c bs es (some (some j))=(p∧q∧r∧zdY kk kx=true,upd s i (.mp c bs (es.set j (kx,xx)))):=rfl
def zFq(s:St)(p q r:Prop)(i:Nat)(kk:KK)(kx xx:XV)(b c:Nat)(bs:List Nat)(es:List (XV×XV)):Option (Option Nat)→Prop×St
 |some f=>(p∧q∧r∧zdY kk kx=true,upd s i (.gmap b (zij c bs es kx xx f).1 (zij c bs es kx xx f).2.1 (zij c bs es kx xx f).2.2))
 |none=>(False,s)
@[congr]theorem zNA{s:St}{p q r:Prop}{i:Nat}{kk:KK}{kx xx:XV}{b c:Nat}{bs:List Nat}{es:List (XV×XV)}{f f':Option (Option Nat)}(h:f=f'):zFq s p q r i kk kx xx b c bs es f=zFq s p q r i kk kx xx b c bs es f':=by rw[h]
@[simp]theorem zOh(s:St)(p q r:Prop)(i:Nat)(kk:KK)(kx xx:XV)(b c:Nat)(bs:List Nat)(es:List (XV×XV)):zFq s p q r i kk kx xx b c bs es (some none)=(p∧q∧r∧zdY kk kx=true,upd s i (.gmap b (c+1) (bs++[c]) (es++[(kx,xx)]))):=rfl
@[simp]theorem zQz(s:St)(p q r:Prop)(i:Nat)(kk:KK)(kx xx:XV)(b c:Nat)(bs:List Nat)(es:List (XV×XV))(j:Nat):zFq s p q r i kk kx xx b c bs es (some (some j))=(p∧q∧r∧zdY kk kx=true,upd s i (.gmap b c bs (es.set j (kx,xx)))):=rfl
def zGn(s:St)(p q r:Prop)(i:Nat)(kk:KK)(kx xx:XV):AV→Prop×St
 |.mp c bs es=>zHG s p q r i kk kx xx c bs es (zbz kk kx es 0)
 |.gmap b c bs es=>zFq s p q r i kk kx xx b c bs es (zbz kk kx es 0)
 |_=>(False,s)
@[congr]theorem zJ5{s:St}{p q r:Prop}{i:Nat}{kk:KK}{kx xx:XV}{v v':AV}(h:v=v'):zGn s p q r i kk kx xx v=zGn s p q r i kk kx xx v':=by rw[h]
@[simp]theorem zQ1(s:St)(p q r:Prop)(i:Nat)(kk:KK)(kx xx:XV)(b c:Nat)(bs:List Nat)(es:List (XV×XV)):zGn s p q r i kk kx xx (.gmap b c bs es)=zFq s p q r i kk kx xx b c bs es (zbz kk kx es 0):=rfl
@[simp]theorem zUR(s:St)(p q r:Prop)(i:Nat)(kk:KK)(kx xx:XV)(c:Nat)(bs:List Nat)(es:List (XV×XV)):zGn s p q r i kk kx xx (.mp c bs es)=zHG s p q r i kk kx xx c bs es (zbz kk kx es 0):=rfl
def zKH(s:St)(kt:Option (KK×TypeId))(m k x:Prop×AV):Prop×St:=
 match kt,m,k,x with
 |some (kk,_),(p,.alias i),(q,.x kx),(r,.x xx)=>zGn s p q r i kk kx xx (s i)
 |_,_,_,_=>(False,s)
@[congr]theorem zJR{s:St}{kt kt':Option (KK×TypeId)}{m m' k k' x x':Prop×AV}(h1:kt=kt')(h2:m=m')(h3:k=k')(h4:x=x'):zKH s kt m k x=zKH s kt' m' k' x':=by rw[h1,h2,h3,h4]
@[simp]theorem zU8(s:St)(kk:KK)(e:TypeId)(p q r:Prop)(i:Nat)(kx xx:XV):zKH s (some (kk,e)) (p,.alias i) (q,.x kx) (r,.x xx)=zGn s p q r i kk kx xx (s i):=rfl
theorem zoH(P:Program)(s:St)(t:TypeId)(m k x:Prop×AV):zcd P s t m k x=zKH s (zrr P t) m k x:=by
 unfold zcd zKH zGn zHG zFq
 rfl
@[simp]theorem zTH(ks:List BK)(xs:List CV):zdY (.st ks) (.agg xs)=zjl ks xs xs:=rfl
@[simp]theorem zTm:zjl [] [] []=true:=rfl
@[simp]theorem zVY(ks:List BK)(k k':IntKind)(a b:Int)(xs ys:List CV):zjl (.i::ks) (.int k a::xs) (.int k' b::ys)=(k==k'&&zjl ks xs ys):=rfl
@[simp]theorem zUx(l:List UInt8):zdY .s (.one (.str l))=true:=rfl
@[simp]theorem zVy(k q:IntKind)(m:Int):zdY (.i q) (.one (.int k m))=decide (k=q):=rfl
@[simp]theorem zDx(t:TypeId):zaS P n ops (⟨some d,.makeMap t none,ty,pos,after,none⟩::r) s K=(d<n∧zaS P n ops r (put s d (.mp 0 [] [])) K):=rfl
@[simp]theorem zy9(t:TypeId)(l c:Operand):zaS P n ops (⟨some d,.makeSlice t l c,ty,pos,after,none⟩::r) s K=zeC (zo0 P t (sv s l) (sv s c)) (fun v=>d<n∧zaS P n ops r (put s d v) K):=rfl
@[simp]theorem zPB(t:TypeId)(p q:Prop)(k k':IntKind)(n m:Int):zo0 P t (p,.x (.one (.int k n))) (q,.x (.one (.int k' m)))=zxU P p q n m (rowT P t):=rfl
@[simp]theorem zJ4(p q:Prop)(n m:Int)(e:TypeId)(size:Nat)(z:List CV):zxU P p q n m (some (e,size,z))=zyJ p q n m e size z (zdZ P e):=rfl
@[simp]theorem zJw(p q:Prop)(n m:Int)(e:TypeId)(size b:Nat)(z:List CV):zyJ p q n m e size z (some b)=(p∧q∧0≤n∧m=n∧(b:Int)*n≤281474976710656∧n.toNat*size≤16777216,.own e size (List.replicate n.toNat z)):=rfl
@[simp]theorem zzr(t:TypeId)(m k x:Operand):zaS P n ops (⟨none,.mapUpdate t m k x,ty,pos,after,none⟩::r) s K=zy0 n s (sv s m) (fun m'=>zDq (zKH s (zrr P t) m' (sv s k) (sv s x)) (fun s'=>zaS P n ops r s' K)):=by
 simp only[←zoH];rfl
@[simp]theorem zCC(v:Value):zaS P n ops (⟨some d,.assign (.const v),ty,pos,after,none⟩::r) s K=(d<n∧zaS P n ops r (put s d (look s (.const v))) K):=by
 show (True∧_)=_
 rw[true_and];rfl
@[simp]theorem zEp(f:FuncId):zaS P n ops (⟨some d,.assign (.func f),ty,pos,after,none⟩::r) s K=(d<n∧zaS P n ops r (put s d (look s (.func f))) K):=by
 show (True∧_)=_
 rw[true_and];rfl
@[simp]theorem zLW(t:TypeId)(x:Operand)(lo hi mx:Option Operand):zaS P n ops (⟨some d,.slice t x lo hi mx,ty,pos,after,none⟩::r) s K=zeC (zaj P s (.slice t x lo hi mx)) (fun v=>d<n∧zaS P n ops r (put s d v) K):=zbx P n ops s K d ty pos after r _ (by rfl)
@[simp]theorem zQL(f:Operand)(args:List Operand)(ts:Array TypeId):zaS P n ops (⟨some d,.call ⟨.value f,⟨args⟩,ts⟩,ty,pos,after,none⟩::r) s K=zkr P (callee s f args) (fun rv=>d<n∧zaS P n ops r (put (zbA s args rv) d rv.av) K) (zkw P (zgU s f args) (fun rv=>d<n∧zaS P n ops r (put s d rv.av) K) (znn s (ziA s args) fun s=>zfS P s (zaZ s f args) (fun xs rv outs=>d<n∧zaS P n ops r (put (zaI s xs outs) d rv.av) K))) (fun xs xs' rv=>zCp n s xs xs'∧rv.flat=true∧d<n∧zaS P n ops r (put s d rv.av) K):=rfl
@[simp]theorem zH8(x y:Operand)(t t':TypeId):zaS P n ops (⟨some d,.call ⟨.builtin .append,⟨[x,y]⟩,⟨[t,t']⟩⟩,ty,pos,after,none⟩::r) s K=zp1 n s (sv s x) (fun x'=>zSg (zax P s t t' x' (sv s y)) (fun s1 v=>d<n∧zaS P n ops r (put s1 d v) K)):=rfl
@[simp]theorem zSR(args:List Operand)(ts:Array TypeId):zaS P n ops (⟨some d,.call ⟨.builtin .len,⟨args⟩,ts⟩,ty,pos,after,none⟩::r) s K=zeC (zc4 P s (.builtin .len) args ts.toList) (fun v=>d<n∧zaS P n ops r (put s d v) K):=rfl
@[simp]theorem zTC(args:List Operand)(ts:Array TypeId):zaS P n ops (⟨some d,.call ⟨.builtin .max,⟨args⟩,ts⟩,ty,pos,after,none⟩::r) s K=zeC (zc4 P s (.builtin .max) args ts.toList) (fun v=>d<n∧zaS P n ops r (put s d v) K):=rfl
@[simp]theorem zTJ(args:List Operand)(ts:Array TypeId):zaS P n ops (⟨some d,.call ⟨.builtin .min,⟨args⟩,ts⟩,ty,pos,after,none⟩::r) s K=zeC (zc4 P s (.builtin .min) args ts.toList) (fun v=>d<n∧zaS P n ops r (put s d v) K):=rfl
@[congr]theorem zN3{n:Nat}{s:St}{x x':Prop×AV}{k:Prop×AV→Prop}(h:x=x'):zy0 n s x k=zy0 n s x' k:=by rw[h]
@[simp]theorem zJt(n:Nat)(s:St)(p:Prop)(i:Nat)(k:Prop×AV→Prop):zy0 n s (p,.alias i) k=k (p,.alias i):=rfl
theorem zis{n:Nat}{s:St}{p:Prop}{k:Prop×AV→Prop}(g b c:Nat)(bs:List Nat)(es:List (XV×XV))(hn:n≤g)(hg:s g=.gmap b c bs es)(h:k (p,.alias g)):zy0 n s (p,.x (.one (.atom (.map (some b))))) k:=⟨g,hn,⟨c,bs,es,hg⟩,h⟩
@[congr]theorem zOe{n:Nat}{s:St}{x x':Prop×AV}{k:Prop×AV→Prop}(h:x=x'):zp1 n s x k=zp1 n s x' k:=by rw[h]
@[simp]theorem zM5(n:Nat)(s:St)(p:Prop)(i:Nat)(k:Prop×AV→Prop):zp1 n s (p,.alias i) k=k (p,.alias i):=rfl
@[simp]theorem zSG(n:Nat)(s:St)(p:Prop)(k:Prop×AV→Prop):zp1 n s (p,.x (.one .nil)) k=k (p,.x (.one .nil)):=rfl
theorem zxZ{n:Nat}{s:St}{p:Prop}{v:Value}{k:Prop×AV→Prop}(g e z:Nat)(xs:List (List CV))(hn:n≤g)(hg:s g=.gown v e z xs)(h:k (p,.alias g)):zp1 n s (p,.x (.one (.atom v))) k:=⟨g,hn,⟨e,z,xs,hg⟩,h⟩
def zjK(e:Bool)(r:Prop×AV)(k:AV→Prop):Prop:=(e=true→r.1)∧r.2.zaa=false∧k r.2
end
@[congr]theorem zMh{e e':Bool}{r r':Prop×AV}{k:AV→Prop}(he:e=e')(h:r=r'):zjK e r k=zjK e' r' k:=by rw[he,h]
@[simp]theorem zUF(e:Bool)(p:Prop)(v:AV)(k:AV→Prop):zjK e (p,v) k=((e=true→p)∧v.zaa=false∧k v):=rfl
def znF:Op→Bool
 |.assign _=>true
 |.build _ _=>true
 |.convert _ _ _=>true
 |.call c=>match c.callee with
  |.builtin .append=>false
  |.builtin _=>true
  |_=>false
 |op=>zie op
section
variable (P:Program)(n:Nat)(ops:Array Oper)(s:St)(K:St→Prop)(d:Nat)(ty:TypeId)(pos:String)(after:Array Edge)(r:List Oper)(g:Nat×Bool)
theorem zby(op:Op)(h:znF op=true):zaS P n ops (⟨some d,op,ty,pos,after,some g⟩::r) s K=zfP (zcG ops s g) (fun e=>zjK e (zaj P s op) (fun v=>d<n∧zaS P n ops r (put s d (.cond e v)) K)):=by
 simp only[zaS,aop,zfP]
 cases zcG ops s g with
 |none=>rfl
 |some e =>
  cases op<;>first | rfl | (simp[znF,zie] at h) | skip
  rename_i c
  obtain⟨callee,args,ts⟩:=c
  cases callee with
  |builtin b=>cases b<;>first | rfl | (simp[znF] at h)
  |_=>cases h
@[simp]theorem zLj(x:Operand):zaS P n ops (⟨some d,.move x,ty,pos,after,some g⟩::r) s K=zfP (zcG ops s g) (fun e=>zjK e (zaj P s (.move x)) (fun v=>d<n∧zaS P n ops r (put s d (.cond e v)) K)):=zby P n ops s K d ty pos after r g _ (by rfl)
@[simp]theorem zJ8(c x y:Operand):zaS P n ops (⟨some d,.pick c x y,ty,pos,after,some g⟩::r) s K=zfP (zcG ops s g) (fun e=>zjK e (zaj P s (.pick c x y)) (fun v=>d<n∧zaS P n ops r (put s d (.cond e v)) K)):=zby P n ops s K d ty pos after r g _ (by rfl)
@[simp]theorem zLn(t:TypeId)(x:Operand):zaS P n ops (⟨some d,.load t x,ty,pos,after,some g⟩::r) s K=zfP (zcG ops s g) (fun e=>zjK e (zaj P s (.load t x)) (fun v=>d<n∧zaS P n ops r (put s d (.cond e v)) K)):=zby P n ops s K d ty pos after r g _ (by rfl)
@[simp]theorem zF4(o:BinOp)(t t':TypeId)(x y:Operand):zaS P n ops (⟨some d,.binOp o t x y t',ty,pos,after,some g⟩::r) s K=zfP (zcG ops s g) (fun e=>zjK e (zaj P s (.binOp o t x y t')) (fun v=>d<n∧zaS P n ops r (put s d (.cond e v)) K)):=zby P n ops s K d ty pos after r g _ (by rfl)
@[simp]theorem zNn(o:UnOp)(t:TypeId)(x:Operand):zaS P n ops (⟨some d,.unOp o t x,ty,pos,after,some g⟩::r) s K=zfP (zcG ops s g) (fun e=>zjK e (zaj P s (.unOp o t x)) (fun v=>d<n∧zaS P n ops r (put s d (.cond e v)) K)):=zby P n ops s K d ty pos after r g _ (by rfl)
@[simp]theorem zv4(t:TypeId)(x:Operand)(f:Nat):zaS P n ops (⟨some d,.fieldAddr t x f,ty,pos,after,some g⟩::r) s K=zfP (zcG ops s g) (fun e=>zjK e (zaj P s (.fieldAddr t x f)) (fun v=>d<n∧zaS P n ops r (put s d (.cond e v)) K)):=zby P n ops s K d ty pos after r g _ (by rfl)
@[simp]theorem zwe(t:TypeId)(x i:Operand):zaS P n ops (⟨some d,.indexAddr t x i,ty,pos,after,some g⟩::r) s K=zfP (zcG ops s g) (fun e=>zjK e (zaj P s (.indexAddr t x i)) (fun v=>d<n∧zaS P n ops r (put s d (.cond e v)) K)):=zby P n ops s K d ty pos after r g _ (by rfl)
@[simp]theorem zG8(t:TypeId)(x i:Operand):zaS P n ops (⟨some d,.index t x i,ty,pos,after,some g⟩::r) s K=zfP (zcG ops s g) (fun e=>zjK e (zaj P s (.index t x i)) (fun v=>d<n∧zaS P n ops r (put s d (.cond e v)) K)):=zby P n ops s K d ty pos after r g _ (by rfl)
@[simp]theorem zzo(fn:Fn)(fst cap:Array Operand):zaS P n ops (⟨some d,.makeFunc fn fst cap,ty,pos,after,some g⟩::r) s K=zfP (zcG ops s g) (fun e=>zjK e (zaj P s (.makeFunc fn fst cap)) (fun v=>d<n∧zaS P n ops r (put s d (.cond e v)) K)):=zby P n ops s K d ty pos after r g _ (by rfl)
@[simp]theorem zES(t:TypeId)(parts:Array (Nat×Operand)):zaS P n ops (⟨some d,.build t parts,ty,pos,after,some g⟩::r) s K=zfP (zcG ops s g) (fun e=>zjK e (zaj P s (.build t parts)) (fun v=>d<n∧zaS P n ops r (put s d (.cond e v)) K)):=zby P n ops s K d ty pos after r g _ (by rfl)
@[simp]theorem zHj(t:TypeId)(x:Operand)(lo hi mx:Option Operand):zaS P n ops (⟨some d,.slice t x lo hi mx,ty,pos,after,some g⟩::r) s K=zfP (zcG ops s g) (fun e=>zjK e (zaj P s (.slice t x lo hi mx)) (fun v=>d<n∧zaS P n ops r (put s d (.cond e v)) K)):=zby P n ops s K d ty pos after r g _ (by rfl)
@[simp]theorem zzh(args:Array Operand)(ts:Array TypeId):zaS P n ops (⟨some d,.call ⟨.builtin .len,args,ts⟩,ty,pos,after,some g⟩::r) s K=zfP (zcG ops s g) (fun e=>zjK e (zaj P s (.call ⟨.builtin .len,args,ts⟩)) (fun v=>d<n∧zaS P n ops r (put s d (.cond e v)) K)):=zby P n ops s K d ty pos after r g _ (by rfl)
@[simp]theorem zyY(args:Array Operand)(ts:Array TypeId):zaS P n ops (⟨some d,.call ⟨.builtin .max,args,ts⟩,ty,pos,after,some g⟩::r) s K=zfP (zcG ops s g) (fun e=>zjK e (zaj P s (.call ⟨.builtin .max,args,ts⟩)) (fun v=>d<n∧zaS P n ops r (put s d (.cond e v)) K)):=zby P n ops s K d ty pos after r g _ (by rfl)
@[simp]theorem zLH(f:Operand)(args:List Operand)(ts:Array TypeId):zaS P n ops (⟨some d,.call ⟨.value f,⟨args⟩,ts⟩,ty,pos,after,some g⟩::r) s K=zfP (zcG ops s g) (fun e=>znQ P e (callee s f args) (fun rv=>d<n∧zaS P n ops r (put s d (.cond e rv.av)) K)
  (zg2 e (zfS P s (zaZ s f args) (fun xs rv outs=>d<n∧rv.av.zaa=false∧zaS P n ops r (put (zaI s xs outs) d (.cond true rv.av)) K)) (d<n∧zaS P n ops r (put s d (.cond false (.x (.one (.bool false))))) K))):=by
 simp only[zaS,aop,zfP,zF1]
 cases zcG ops s g with
 |none=>rfl
 |some e =>
  simp only[znQ,zp3,zj8,zg2]
  rcases hc:callee s f args with⟨p,o⟩
  cases o<;>cases e<;>simp[hc]
def zl2(b:Bool):Bool:=b
@[simp]theorem zRk(b:Bool):zl2 b=b:=rfl
def zlZ(b:Bool)(x y:Prop):Prop:=match b with
 |true=>x
 |false=>y
end
@[congr]theorem zI2{b b':Bool}{x y:Prop}(h:b=b'):zlZ b x y=zlZ b' x y:=by rw[h]
@[simp]theorem zNu(x y:Prop):zlZ true x y=x:=rfl
@[simp]theorem zFG(x y:Prop):zlZ false x y=y:=rfl
section
variable (P:Program)(n:Nat)(ops:Array Oper)(s:St)(K:St→Prop)(d:Nat)(ty:TypeId)(pos:String)(after:Array Edge)(r:List Oper)(g:Nat×Bool)
@[simp ↓]theorem zOn(m:Bool):zc8 P n m ops [] s K=K s:=rfl
@[simp]theorem zLr(o:Oper):zc8 P n false ops (o::r) s K=zlZ (zl2 (zbN ops o.op)) (zdo P n ops o (touch s) (fun s'=>zc8 P n false ops r (touch s') K)) (zlZ (zl2 (zdM o)) (zeh s o.op∧zaS P n ops [o] (touch s) (fun s'=>zc8 P n false ops r (touch s') K)) (zaS P n ops [o] (touch s) (fun s'=>zc8 P n false ops r (touch s') K))):=by
 show (match zbN ops o.op with | true=>_ | false=>_)=_
 unfold zlZ
 cases zbN ops o.op with
 |true=>apply propext;exact⟨fun h=>h.2,fun h=>⟨fun h=>(by cases h),h⟩⟩
 |false=>dsimp only;cases zdM o<;>rfl
@[simp]theorem zHc(o:Oper):zc8 P n true ops (o::r) s K=zlZ (zl2 (zbN ops o.op)) (zlZ (zl2 (zd6 o)) (zMo P n o (touch s) (fun s'=>zc8 P n true ops r (touch s') K)) (zaW s o.op∧zdo P n ops o (touch s) (fun s'=>zc8 P n true ops r (touch s') K)))
  (zlZ (zl2 (zdM o)) (zeh s o.op∧zaS P n ops [o] (touch s) (fun s'=>zc8 P n true ops r (touch s') K)) (zaS P n ops [o] (touch s) (fun s'=>zc8 P n true ops r (touch s') K))):=by
 show (match zbN ops o.op with | true=>_ | false=>_)=_
 unfold zlZ
 cases zbN ops o.op with
 |true =>
  dsimp only
  cases hc:zd6 o with
  |true=>rfl
  |false=>apply propext;exact⟨fun h=>⟨h.1 rfl,h.2⟩,fun h=>⟨fun _=>h.1,h.2⟩⟩
 |false=>dsimp only;cases zdM o<;>rfl
@[simp]theorem zv8(t:TypeId)(a x:Operand):zeh s (.store t a x)=(zaX s [x]=[]∧zoI s (sv s a).2=true):=rfl
def zup(q:Prop×AV):Prop:=match q with
 |(_,.elem _)=>True
 |_=>False
theorem zvT(q:Prop×AV):(∃cs,q.2=.elem cs)=zup q:=by
 obtain⟨p,q⟩:=q
 apply propext
 cases q<;>simp[zup]
@[simp]theorem zDe(t:TypeId)(x:Operand):zaW s (.load t x)=zup (sv s x):=zvT _
theorem zgt(op:Op)(h:zd2 op=true):zaW s op=True:=by
 simp only[eq_iff_iff,iff_true];exact zqD h
@[simp]theorem zDY(x:Operand):zaW s (.move x)=True:=zgt s _ rfl
@[simp]theorem zy6(x:Operand):zaW s (.assign x)=True:=zgt s _ rfl
@[simp]theorem zu3(x:Operand):zaW s (.nilCheck x)=True:=zgt s _ rfl
def zV7(v:AV):Bool:=match v with
 |.x (.one (.int _ _))=>true
 |_=>false
@[simp]theorem zuI(t:TypeId)(x:Operand)(f:Nat):zaW s (.fieldAddr t x f)=True:=zgt s _ rfl
@[simp]theorem zzC(t:TypeId)(parts:Array (Nat×Operand)):zaW s (.build t parts)=True:=zgt s _ rfl
def zxT:Op→Bool
 |.assign _=>true
 |.build _ _=>true
 |.call c=>match c.callee with
  |.builtin .append=>false
  |.builtin _=>true
  |_=>false
 |op=>zie op
theorem za4(op:Op)(h:zxT op=true):zdo P n ops ⟨some d,op,ty,pos,after,none⟩ s K=(d<n∧(s d).zaa=false∧zeC (zaj P s op) (fun v=>K (put s d v))):=by
 cases op<;>first | rfl | (simp[zxT,zie] at h) | skip
 rename_i c
 obtain⟨callee,args,ts⟩:=c
 cases callee with
 |builtin b=>cases b<;>first | rfl | (simp[zxT] at h)
 |_=>cases h
@[simp]theorem zQM(x:Operand):zdo P n ops ⟨some d,.move x,ty,pos,after,none⟩ s K=(d<n∧(s d).zaa=false∧zeC (zaj P s (.move x)) (fun v=>K (put s d v))):=za4 P n ops s K d ty pos after _ (by rfl)
@[simp]theorem zRz(c x y:Operand):zdo P n ops ⟨some d,.pick c x y,ty,pos,after,none⟩ s K=(d<n∧(s d).zaa=false∧zeC (zaj P s (.pick c x y)) (fun v=>K (put s d v))):=za4 P n ops s K d ty pos after _ (by rfl)
@[simp]theorem zPZ(t:TypeId)(x:Operand):zdo P n ops ⟨some d,.load t x,ty,pos,after,none⟩ s K=(d<n∧(s d).zaa=false∧zeC (zaj P s (.load t x)) (fun v=>K (put s d v))):=za4 P n ops s K d ty pos after _ (by rfl)
@[simp]theorem zzJ(x:Operand):zdo P n ops ⟨some d,.nilCheck x,ty,pos,after,none⟩ s K=(d<n∧(s d).zaa=false∧zeC (zaj P s (.nilCheck x)) (fun v=>K (put s d v))):=za4 P n ops s K d ty pos after _ (by rfl)
@[simp]theorem zLC(o:BinOp)(t t':TypeId)(x y:Operand):zdo P n ops ⟨some d,.binOp o t x y t',ty,pos,after,none⟩ s K=(d<n∧(s d).zaa=false∧zeC (zaj P s (.binOp o t x y t')) (fun v=>K (put s d v))):=za4 P n ops s K d ty pos after _ (by rfl)
@[simp]theorem zRc(o:UnOp)(t:TypeId)(x:Operand):zdo P n ops ⟨some d,.unOp o t x,ty,pos,after,none⟩ s K=(d<n∧(s d).zaa=false∧zeC (zaj P s (.unOp o t x)) (fun v=>K (put s d v))):=za4 P n ops s K d ty pos after _ (by rfl)
@[simp]theorem zDk(t t':TypeId)(x:Operand):zdo P n ops ⟨some d,.convert t t' x,ty,pos,after,none⟩ s K=(d<n∧(s d).zaa=false∧zg2 (za6 P t') (zeC (zez P t t' (sv s x)) (fun v=>K (put s d v))) (zeC (zbR P s t t' (sv s x)) (fun v=>K (put s d v)))):=by
 simp only[zdo]
 unfold zg2
 cases za6 P t'<;>rfl
@[simp]theorem zyS(t:TypeId)(x:Operand)(f:Nat):zdo P n ops ⟨some d,.fieldAddr t x f,ty,pos,after,none⟩ s K=(d<n∧(s d).zaa=false∧zeC (zaj P s (.fieldAddr t x f)) (fun v=>K (put s d v))):=za4 P n ops s K d ty pos after _ (by rfl)
@[simp]theorem zzi(t:TypeId)(x i:Operand):zdo P n ops ⟨some d,.indexAddr t x i,ty,pos,after,none⟩ s K=(d<n∧(s d).zaa=false∧zeC (zaj P s (.indexAddr t x i)) (fun v=>K (put s d v))):=za4 P n ops s K d ty pos after _ (by rfl)
@[simp]theorem zMG(t:TypeId)(x i:Operand):zdo P n ops ⟨some d,.index t x i,ty,pos,after,none⟩ s K=(d<n∧(s d).zaa=false∧zeC (zaj P s (.index t x i)) (fun v=>K (put s d v))):=za4 P n ops s K d ty pos after _ (by rfl)
@[simp]theorem zDW(x:Operand)(f:Nat):zdo P n ops ⟨some d,.extract x f,ty,pos,after,none⟩ s K=(d<n∧(s d).zaa=false∧zeC (zaj P s (.extract x f)) (fun v=>K (put s d v))):=za4 P n ops s K d ty pos after _ (by rfl)
@[simp]theorem zBn(fn:Fn)(fst cap:Array Operand):zdo P n ops ⟨some d,.makeFunc fn fst cap,ty,pos,after,none⟩ s K=(d<n∧(s d).zaa=false∧zeC (zaj P s (.makeFunc fn fst cap)) (fun v=>K (put s d v))):=za4 P n ops s K d ty pos after _ (by rfl)
@[simp]theorem zHi(t:TypeId)(x k:Operand)(ok:Bool):zdo P n ops ⟨some d,.lookup t x k ok,ty,pos,after,none⟩ s K=(d<n∧(s d).zaa=false∧zeC (zaj P s (.lookup t x k ok)) (fun v=>K (put s d v))):=za4 P n ops s K d ty pos after _ (by rfl)
@[simp]theorem zLk(t:TypeId)(parts:Array (Nat×Operand)):zdo P n ops ⟨some d,.build t parts,ty,pos,after,none⟩ s K=(d<n∧(s d).zaa=false∧zeC (zaj P s (.build t parts)) (fun v=>K (put s d v))):=za4 P n ops s K d ty pos after _ (by rfl)
@[simp]theorem zFM(x:Operand):zdo P n ops ⟨some d,.assign x,ty,pos,after,none⟩ s K=(d<n∧(s d).zaa=false∧zeC (zaj P s (.assign x)) (fun v=>K (put s d v))):=za4 P n ops s K d ty pos after _ (by rfl)
@[simp]theorem zM4(t:TypeId)(x:Operand)(lo hi mx:Option Operand):zdo P n ops ⟨some d,.slice t x lo hi mx,ty,pos,after,none⟩ s K=(d<n∧(s d).zaa=false∧zeC (zaj P s (.slice t x lo hi mx)) (fun v=>K (put s d v))):=za4 P n ops s K d ty pos after _ (by rfl)
@[simp]theorem zAk(args:Array Operand)(ts:Array TypeId):zdo P n ops ⟨some d,.call ⟨.builtin .len,args,ts⟩,ty,pos,after,none⟩ s K=(d<n∧(s d).zaa=false∧zeC (zaj P s (.call ⟨.builtin .len,args,ts⟩)) (fun v=>K (put s d v))):=za4 P n ops s K d ty pos after _ (by rfl)
@[simp]theorem zAn(args:Array Operand)(ts:Array TypeId):zdo P n ops ⟨some d,.call ⟨.builtin .min,args,ts⟩,ty,pos,after,none⟩ s K=(d<n∧(s d).zaa=false∧zeC (zaj P s (.call ⟨.builtin .min,args,ts⟩)) (fun v=>K (put s d v))):=za4 P n ops s K d ty pos after _ (by rfl)
@[simp]theorem zLP(t:TypeId):zdo P n ops ⟨some d,.alloc t,ty,pos,after,none⟩ s K=(d<n∧(s d).zaa=false∧zfP (zeroOf P t) (fun cs=>K (put s d (.box cs)))):=by
 simp only[zdo,zfP]
 cases zeroOf P t<;>rfl
@[simp]theorem zwE(t:TypeId)(len:Nat)(parts:Array (Nat×Operand)):zdo P n ops ⟨some d,.buildSlice t len parts,ty,pos,after,none⟩ s K=(d<n∧(s d).zaa=false∧zeC (zaB P (sv s) t len parts.toList) (fun v=>K (put s d v))):=rfl
@[simp]theorem zQx(f:Operand)(args:List Operand)(ts:Array TypeId):zdo P n ops ⟨some d,.call ⟨.value f,⟨args⟩,ts⟩,ty,pos,after,none⟩ s K=(d<n∧(s d).zaa=false∧ztN P (callee s f args) (fun rv=>(rv.flat || (zaX s args).isEmpty)=true∧K (put s d rv.av))):=by
 rw[←zzX];rfl
theorem zcf(op:Op)(h:znF op=true):zdo P n ops ⟨some d,op,ty,pos,after,some g⟩ s K=(d<n∧(s d).zaa=false∧zfP (zcG ops s g) (fun e=>zjK e (zaj P s op) (fun v=>K (put s d (.cond e v))))):=by
 simp only[zdo,zfP]
 cases zcG ops s g with
 |none=>rfl
 |some e =>
  cases op<;>first | rfl | (simp[znF,zie] at h) | skip
  rename_i c
  obtain⟨callee,args,ts⟩:=c
  cases callee with
  |builtin b=>cases b<;>first | rfl | (simp[znF] at h)
  |_=>cases h
def znT(e:Bool)(p:Prop×AV)(K:AV→Prop):Prop:=match e with
 |true=>p.1∧K p.2
 |false=>K (.cond false (.x (.one (.bool false))))
@[congr]theorem zDn{e e':Bool}{p p':Prop×AV}{K:AV→Prop}(h:e=e')(hp:p=p'):znT e p K=znT e' p' K:=by rw[h,hp]
@[simp]theorem zHX(p:Prop)(v:AV)(K:AV→Prop):znT true (p,v) K=(p∧K v):=rfl
@[simp]theorem zCG(p:Prop×AV)(K:AV→Prop):znT false p K=K (.cond false (.x (.one (.bool false)))):=rfl
@[simp]theorem zvc(t:TypeId)(len:Nat)(parts:Array (Nat×Operand)):zdo P n ops ⟨some d,.buildSlice t len parts,ty,pos,after,some g⟩ s K=(d<n∧(s d).zaa=false∧zfP (zcG ops s g) (fun e=>znT e (zaB P (sv s) t len parts.toList) (fun v=>K (put s d v)))):=by
 simp only[zdo,zfP,znT]
 cases zcG ops s g with
 |none=>rfl
 |some e=>cases e<;>rfl
@[simp]theorem zK1(x:Operand):zdo P n ops ⟨some d,.move x,ty,pos,after,some g⟩ s K=(d<n∧(s d).zaa=false∧zfP (zcG ops s g) (fun e=>zjK e (zaj P s (.move x)) (fun v=>K (put s d (.cond e v))))):=zcf P n ops s K d ty pos after g _ (by rfl)
@[simp]theorem zJX(c x y:Operand):zdo P n ops ⟨some d,.pick c x y,ty,pos,after,some g⟩ s K=(d<n∧(s d).zaa=false∧zfP (zcG ops s g) (fun e=>zjK e (zaj P s (.pick c x y)) (fun v=>K (put s d (.cond e v))))):=zcf P n ops s K d ty pos after g _ (by rfl)
@[simp]theorem zL4(t:TypeId)(x:Operand):zdo P n ops ⟨some d,.load t x,ty,pos,after,some g⟩ s K=(d<n∧(s d).zaa=false∧zfP (zcG ops s g) (fun e=>zjK e (zaj P s (.load t x)) (fun v=>K (put s d (.cond e v))))):=zcf P n ops s K d ty pos after g _ (by rfl)
@[simp]theorem zyU(x:Operand):zdo P n ops ⟨some d,.nilCheck x,ty,pos,after,some g⟩ s K=(d<n∧(s d).zaa=false∧zfP (zcG ops s g) (fun e=>zjK e (zaj P s (.nilCheck x)) (fun v=>K (put s d (.cond e v))))):=zcf P n ops s K d ty pos after g _ (by rfl)
@[simp]theorem zJj(o:BinOp)(t t':TypeId)(x y:Operand):zdo P n ops ⟨some d,.binOp o t x y t',ty,pos,after,some g⟩ s K=(d<n∧(s d).zaa=false∧zfP (zcG ops s g) (fun e=>zjK e (zaj P s (.binOp o t x y t')) (fun v=>K (put s d (.cond e v))))):=zcf P n ops s K d ty pos after g _ (by rfl)
@[simp]theorem zJ9(o:UnOp)(t:TypeId)(x:Operand):zdo P n ops ⟨some d,.unOp o t x,ty,pos,after,some g⟩ s K=(d<n∧(s d).zaa=false∧zfP (zcG ops s g) (fun e=>zjK e (zaj P s (.unOp o t x)) (fun v=>K (put s d (.cond e v))))):=zcf P n ops s K d ty pos after g _ (by rfl)
@[simp]theorem zwd(t:TypeId)(x:Operand)(f:Nat):zdo P n ops ⟨some d,.fieldAddr t x f,ty,pos,after,some g⟩ s K=(d<n∧(s d).zaa=false∧zfP (zcG ops s g) (fun e=>zjK e (zaj P s (.fieldAddr t x f)) (fun v=>K (put s d (.cond e v))))):=zcf P n ops s K d ty pos after g _ (by rfl)
@[simp]theorem zxy(t:TypeId)(x i:Operand):zdo P n ops ⟨some d,.indexAddr t x i,ty,pos,after,some g⟩ s K=(d<n∧(s d).zaa=false∧zfP (zcG ops s g) (fun e=>zjK e (zaj P s (.indexAddr t x i)) (fun v=>K (put s d (.cond e v))))):=zcf P n ops s K d ty pos after g _ (by rfl)
@[simp]theorem zy4(fn:Fn)(fst cap:Array Operand):zdo P n ops ⟨some d,.makeFunc fn fst cap,ty,pos,after,some g⟩ s K=(d<n∧(s d).zaa=false∧zfP (zcG ops s g) (fun e=>zjK e (zaj P s (.makeFunc fn fst cap)) (fun v=>K (put s d (.cond e v))))):=zcf P n ops s K d ty pos after g _ (by rfl)
@[simp]theorem zM7(f:Operand)(args:List Operand)(ts:Array TypeId):zdo P n ops ⟨some d,.call ⟨.value f,⟨args⟩,ts⟩,ty,pos,after,some g⟩ s K=(d<n∧(s d).zaa=false∧zfP (zcG ops s g) (fun e=>zjT P e (callee s f args) (fun rv=>K (put s d (.cond e rv.av))))):=by
 simp only[zdo,zfP]
 cases zcG ops s g<;>rfl
def zxv(v:AV)(b:Bool):Option Bool:=match v with
 |.x (.one (.bool c))=>some (c==b)
 |.cond e (.x (.one (.bool c)))=>some (e&&(c==b))
 |_=>none
@[simp]theorem zVj(c b:Bool):zxv (.x (.one (.bool c))) b=some (c==b):=rfl
@[simp]theorem zLO(e c b:Bool):zxv (.cond e (.x (.one (.bool c)))) b=some (e&&(c==b)):=rfl
def zHk(s:St)(d:Option Nat)(b:Bool):Option Bool:=match d with
 |some d=>zxv (s d) b
 |none=>none
@[simp]theorem zJV(d:Nat)(b:Bool):zHk s (some d) b=zxv (s d) b:=rfl
@[simp]theorem zVG(l:List Oper)(j:Nat)(b:Bool):zcG ⟨l⟩ s (j,b)=zHk s ((l[j]?).bind (·.dst)) b:=by
 simp only[zcG,zHk,zxv]
 have:(⟨l⟩:Array Oper)[j]?=l[j]?:=by simp
 rw[this]
 cases l[j]?.bind fun x=>x.dst<;>rfl
end
def zTx(off:Nat):AV→Option (List CV)
 |.box cs=>some (cs.drop off)
 |.gbox _ cs=>some (cs.drop off)
 |_=>none
@[simp]theorem zSa(off:Nat)(cs:List CV):zTx off (.box cs)=some (cs.drop off):=rfl
@[simp]theorem zOw(off b:Nat)(cs:List CV):zTx off (.gbox b cs)=some (cs.drop off):=rfl
def zH7(k off:Nat):AV→Option (List CV)
 |.own _ _ xs=>some ((xs.getD k []).drop off)
 |_=>none
@[simp]theorem zRQ(k off e z:Nat)(xs:List (List CV)):zH7 k off (.own e z xs)=some ((xs.getD k []).drop off):=rfl
@[simp]theorem zUK(s:St)(i off:Nat):mem s (.ptr i off)=zTx off (s i):=by
 simp only[mem,zTx]
 cases s i<;>rfl
@[simp]theorem zT1(s:St)(i k off:Nat):mem s (.eptr i k off)=zH7 k off (s i):=by
 simp only[mem,zH7]
 cases s i<;>rfl
@[simp]theorem zSh(s:St)(cs:List CV):mem s (.elem cs)=some cs:=rfl
def zTb(p:Prop):AV→Prop×Option XV
 |.own _ size xs=>(p,some (.one (.list size xs)))
 |_=>(False,none)
@[simp]theorem zSQ(p:Prop)(e z:Nat)(xs:List (List CV)):zTb p (.own e z xs)=(p,some (.one (.list z xs))):=rfl
def zV2(p:Prop)(lo len:Nat):AV→Prop×Option XV
 |.own _ size xs=>(p,some (.one (.list size ((xs.drop lo).take len))))
 |_=>(False,none)
def zR8(p:Prop)(f:FuncId):Option (List CV)→Prop×Option XV
 |some cs=>(p,some (.one (.clo f cs)))
 |none=>(False,none)
@[simp]theorem zNV(p:Prop)(f:FuncId)(cs:List CV):zR8 p f (some cs)=(p,some (.one (.clo f cs))):=rfl
def zVJ(off:Nat):AV→Option CV
 |.box cs=>bif decide (off<1000000) then some (.ref (cs.drop off)) else none
 |_=>none
@[simp]theorem zTp(off:Nat)(cs:List CV):zVJ off (.box cs)=bif decide (off<1000000) then some (.ref (cs.drop off)) else none:=rfl
def zQn(a:Option CV)(b:Option (List CV)):Option (List CV):=match a,b with
 |some x,some xs=>some (x::xs)
 |_,_=>none
@[simp]theorem zNg(x:CV)(xs:List CV):zQn (some x) (some xs)=some (x::xs):=rfl
@[simp]theorem zPr(s:St):zhm s []=some []:=rfl
@[simp]theorem zRu(s:St)(i off:Nat)(r:List (CV ⊕ (Nat×Nat))):zhm s (.inr (i,off)::r)=zQn (zVJ off (s i)) (zhm s r):=rfl
def zx3(s:St):Prop×AV→Prop×Option XV
 |(p,.x xv)=>(p,some xv)
 |(p,.alias i)=>zTb p (s i)
 |(p,.view i lo len _)=>zV2 p lo len (s i)
 |(p,.elem cs)=>(p,some (.one (.ref cs)))
 |(p,.cloR f caps)=>zR8 p f (zhm s caps)
 |_=>(False,none)
@[congr]theorem zK8{s:St}{q q':Prop×AV}(h:q=q'):zx3 s q=zx3 s q':=by rw[h]
@[simp]theorem zV1(s:St)(p:Prop)(v:XV):zx3 s (p,.x v)=(p,some v):=rfl
@[simp]theorem zJD(s:St)(p:Prop)(i:Nat):zx3 s (p,.alias i)=zTb p (s i):=rfl
@[simp]theorem zTL(s:St)(p:Prop)(i o:Nat):zx3 s (p,.ptr i o)=(False,none):=rfl
@[simp]theorem zQj(s:St)(p:Prop)(f:FuncId)(caps:List (CV ⊕ (Nat×Nat))):zx3 s (p,.cloR f caps)=zR8 p f (zhm s caps):=rfl
@[simp]theorem zQm(s:St)(p:Prop)(cs:List CV):zx3 s (p,.elem cs)=(p,some (.one (.ref cs))):=rfl
@[simp]theorem zGK(s:St)(x:Operand):argX s x=zx3 s (sv s x):=by
 unfold argX zx3 zTb zV2 zR8
 generalize sv s x=q
 obtain⟨p,q⟩:=q
 cases q<;>rfl
def zBL(a:Prop×Option XV)(b:Prop×Option (List XV)):Prop×Option (List XV):=match a,b with
 |(p,some v),(q,some vs)=>(p∧q,some (v::vs))
 |_,_=>(False,none)
def zzV:AV→CV
 |.own _ z xs=>.list z xs
 |_=>.any
@[simp]theorem zQ5(e z:Nat)(xs:List (List CV)):zzV (.own e z xs)=.list z xs:=rfl
def zth(s:St)(i o:Nat):AV→CV
 |.link i' o' d=>bif i'==i&&o'==o then zzV (s d) else .any
 |_=>.any
@[congr]theorem zDD{s:St}{i o:Nat}{v v':AV}(h:v=v'):zth s i o v=zth s i o v':=by rw[h]
@[simp]theorem zHT(s:St)(i o i' o' d:Nat):zth s i o (.link i' o' d)=bif i'==i&&o'==o then zzV (s d) else .any:=rfl
@[simp]theorem zOD(s:St)(i o:Nat):zj6 s i o .any=zth s i o (s (LK i o)):=by
 unfold zj6
 dsimp only
 cases s (LK i o) with
 |link i' o' d =>
  show (match i'==i&&o'==o with | true=>_ | false=>_)=bif i'==i&&o'==o then zzV (s d) else .any
  cases (i'==i&&o'==o)
  ·rfl
  ·dsimp only[cond_true]
   cases s d<;>rfl
 |_=>rfl
@[simp]theorem zOU(s:St)(i o:Nat)(k:IntKind)(n:Int):zj6 s i o (.int k n)=.int k n:=rfl
@[simp]theorem zPD(s:St)(i o:Nat)(l:List UInt8):zj6 s i o (.str l)=.str l:=rfl
@[simp]theorem zO9(s:St)(i o:Nat):zj6 s i o .nil=.nil:=rfl
@[simp]theorem zMf(s:St)(i o n:Nat)(l:List (List CV)):zj6 s i o (.list n l)=.list n l:=rfl
@[simp]theorem zzU(s:St)(i o:Nat):zca s i o []=[]:=rfl
@[simp]theorem zyZ(s:St)(i o:Nat)(c:CV)(r:List CV):zca s i o (c::r)=zj6 s i o c::zca s i (o+1) r:=rfl
def zwI(s:St)(p:Prop)(i off:Nat):AV→Prop×Option XV
 |.box cs=>(p,some (.one (.ref (zca s i off (cs.drop off)))))
 |_=>(False,none)
@[congr]theorem zHp{s:St}{p:Prop}{i off:Nat}{v v':AV}(h:v=v'):zwI s p i off v=zwI s p i off v':=by rw[h]
@[simp]theorem zRA(s:St)(p:Prop)(i off:Nat)(cs:List CV):zwI s p i off (.box cs)=(p,some (.one (.ref (zca s i off (cs.drop off))))):=rfl
def ztH(s:St):Prop×AV→Prop×Option XV
 |(p,.ptr i off)=>zwI s p i off (s i)
 |q=>zx3 s q
@[congr]theorem zFk{s:St}{q q':Prop×AV}(h:q=q'):ztH s q=ztH s q':=by rw[h]
@[simp]theorem zOY(s:St)(p:Prop)(i off:Nat):ztH s (p,.ptr i off)=zwI s p i off (s i):=rfl
@[simp]theorem zUY(s:St)(p:Prop)(v:XV):ztH s (p,.x v)=zx3 s (p,.x v):=rfl
@[simp]theorem zUH(s:St)(x:Operand):zNv s x=ztH s (sv s x):=by
 unfold zNv ztH
 rcases hx:sv s x with⟨p,v⟩
 cases v<;>simp only[zGK,hx]<;>rfl
def zCd(a:Prop×Option XV)(b:Prop×Option (List XV)):Prop×Option (List XV):=match a,b with
 |(p,some v),(q,some vs)=>(p∧q,some (v::vs))
 |_,_=>(False,none)
@[simp]theorem zG0(p q:Prop)(v:XV)(vs:List XV):zCd (p,some v) (q,some vs)=(p∧q,some (v::vs)):=rfl
@[simp]theorem zOO(s:St):zkL s []=(True,some []):=rfl
@[simp]theorem zKQ(s:St)(x:Operand)(r:List Operand):zkL s (x::r)=zCd (zNv s x) (zkL s r):=rfl
@[simp]theorem zS9(s:St)(i off d e z:Nat)(xs:List (List CV))(cs:List CV):zvB s i off d (.box cs) (.own e z xs)=upd (unlink (freeze s d) i off 1) i (.box (cs.set off (.list z xs))):=rfl
def zqT(s:St)(i off:Nat):AV→St
 |.link i' o d=>bif i'==i&&o==off then zvB s i off d (s i) (s d) else s
 |_=>s
@[congr]theorem zCy{s:St}{i off:Nat}{v v':AV}(h:v=v'):zqT s i off v=zqT s i off v':=by rw[h]
@[simp]theorem zFy(s:St)(i off i' o d:Nat):zqT s i off (.link i' o d)=bif i'==i&&o==off then zvB s i off d (s i) (s d) else s:=rfl
@[simp]theorem zFY(s:St)(i off:Nat):zqT s i off .dead=s:=rfl
@[simp]theorem zTj(s:St)(i off:Nat):znm s i off=zqT s i off (s (LK i off)):=by
 unfold znm zFQ
 cases s (LK i off) with
 |link i' o d =>
  show (match i'==i&&o==off with | true=>_ | false=>_)=bif i'==i&&o==off then _ else _
  cases (i'==i&&o==off)<;>rfl
 |_=>rfl
@[simp]theorem zRV(s:St):zgu s []=s:=rfl
@[simp]theorem zK4(s:St)(i off:Nat)(r:List (Nat×Nat)):zgu s ((i,off)::r)=zgu (znm s i off) r:=rfl
@[simp]theorem zPg(s:St)(x:Nat×Nat)(l:List (Nat×Nat)):zvG s (x::l)=upd s 999999 (.res (x::l)):=rfl
@[simp]theorem zMH(p q:Prop)(v:XV)(vs:List XV):zBL (p,some v) (q,some vs)=(p∧q,some (v::vs)):=rfl
@[simp]theorem zKY(p:Prop)(b:Prop×Option (List XV)):zBL (p,none) b=(False,none):=rfl
def uvK:Prop×Option XV→Prop×AV
 |(p,some xv)=>(p,.x xv)
 |_=>(False,.dead)
@[simp]theorem zSn(p:Prop)(v:XV):uvK (p,some v)=(p,.x v):=rfl
@[simp]theorem zWa(s:St)(x:Operand):uv s x=uvK (argX s x):=rfl
@[simp]theorem zOq(s:St):zga s []=(True,some []):=rfl
@[simp]theorem zJp(s:St)(x:Operand)(r:List Operand):zga s (x::r)=zBL (argX s x) (zga s r):=rfl
def zRP:Prop×AV→Prop×Option XV
 |(p,.x xv)=>(p,some xv)
 |_=>(False,none)
@[simp]theorem zUG(p:Prop)(v:XV):zRP (p,.x v)=(p,some v):=rfl
@[simp]theorem zTl(P:Program)(s:St)(t:Nat):zJo P s (.tmp t)=argX s (.tmp t):=rfl
@[simp]theorem zRE(P:Program)(s:St)(t:Nat)(ty:TypeId):zJo P s (.cell t ty)=zRP (zeD (tk P ty) (zbp P ty) (sv s (.tmp t)).1 (mem s (sv s (.tmp t)).2)):=rfl
@[simp]theorem zQi(P:Program)(s:St):ziI P s []=(True,some []):=rfl
@[simp]theorem zMp(P:Program)(s:St)(x:ResultVar)(r:List ResultVar):ziI P s (x::r)=zBL (zJo P s x) (ziI P s r):=rfl
def zT2(p q:Prop)(size j:Nat)(n:Int):AV→Prop×AV
 |.own _ z xs=>(p∧q∧z=size∧0≤n∧n<xs.length,.eptr j n.toNat 0)
 |_=>(False,.dead)
@[simp]theorem zSD(p q:Prop)(size j:Nat)(n:Int)(e z:Nat)(xs:List (List CV)):zT2 p q size j n (.own e z xs)=(p∧q∧z=size∧0≤n∧n<xs.length,.eptr j n.toNat 0):=rfl
def zVW(k:Option (Nat×Nat))(x i:Prop×AV):Prop×AV:=
 match k,x,i with
 |some (len,size),(p,.ptr j off),(q,.x (.one (.int _ n)))=>(p∧q∧0≤n∧n<len,.ptr j (off+n.toNat*size))
 |some (len,size),(p,.elem cs),(q,.x (.one (.int _ n)))=>(p∧q∧0≤n∧n<len,.elem (cs.drop (n.toNat*size)))
 |_,_,_=>(False,.dead)
@[simp]theorem zR3(len size j off:Nat)(p q:Prop)(k:IntKind)(n:Int):zVW (some (len,size)) (p,.ptr j off) (q,.x (.one (.int k n)))=(p∧q∧0≤n∧n<len,.ptr j (off+n.toNat*size)):=rfl
def zFJ(P:Program)(t:TypeId)(s:St)(k:Option (TypeId×Nat))(x i:Prop×AV):Prop×AV:=
 match k,x,i with
 |some (_,size),(p,.x (.one (.list z xs))),(q,.x (.one (.int _ n)))=>(p∧q∧z=size∧0≤n∧n<xs.length,.elem (xs.getD n.toNat []))
 |some (_,size),(p,.alias j),(q,.x (.one (.int _ n)))=>zT2 p q size j n (s j)
 |some (_,size),(p,.view j lo len _),(q,.x (.one (.int _ n)))=>(p∧q∧(s j).size=size∧0≤n∧n<len,.eptr j (lo+n.toNat) 0)
 |_,_,_=>zek P t x i
@[congr]theorem zKB{P:Program}{u:TypeId}{s:St}{k k':Option (TypeId×Nat)}{x x' i i':Prop×AV}(hk:k=k')(hx:x=x')(hi:i=i'):zFJ P u s k x i=zFJ P u s k' x' i':=by rw[hk,hx,hi]
section
variable (P:Program)(u:TypeId)(s:St)
@[simp]theorem zRF(t:TypeId)(size z:Nat)(p q:Prop)(xs:List (List CV))(k:IntKind)(n:Int):zFJ P u s (some (t,size)) (p,.x (.one (.list z xs))) (q,.x (.one (.int k n)))=(p∧q∧z=size∧0≤n∧n<xs.length,.elem (xs.getD n.toNat [])):=rfl
@[simp]theorem zK2(t:TypeId)(size j:Nat)(p q:Prop)(k:IntKind)(n:Int):zFJ P u s (some (t,size)) (p,.alias j) (q,.x (.one (.int k n)))=zT2 p q size j n (s j):=rfl
@[simp]theorem zNT(x i:Prop×AV):zFJ P u s none x i=zVW (zJN P u) x i:=rfl
end
@[simp]theorem zAN(P:Program)(s:St)(t:TypeId)(x i:Prop×AV):zaM P s t x i=zFJ P t s (sliceT P t) x i:=by
 unfold zaM zFJ zT2
 rfl
def zUz(p q q':Prop):AV→Prop×AV
 |.own _ _ xs=>(p∧q,.x (.one (.int .i64 xs.length)))
 |.mp _ _ es=>(p∧q',.x (.one (.int .i64 es.length)))
 |_=>(False,.dead)
@[simp]theorem zS8(p q q':Prop)(e z:Nat)(xs:List (List CV)):zUz p q q' (.own e z xs)=(p∧q,.x (.one (.int .i64 xs.length))):=rfl
section
variable (P:Program)(s:St)(t:TypeId)(p:Prop)
@[simp]theorem zSY(l:List UInt8):zpw P s t (p,.x (.one (.str l)))=(p∧zaD P t=true,.x (.one (.int .i64 l.length))):=rfl
@[simp]theorem zTf:zpw P s t (p,.x (.one .nil))=(p∧(sliceT P t).isSome=true,.x (.one (.int .i64 0))):=rfl
@[simp]theorem zRf(z:Nat)(xs:List (List CV)):zpw P s t (p,.x (.one (.list z xs)))=(p∧(sliceT P t).isSome=true,.x (.one (.int .i64 xs.length))):=rfl
@[simp]theorem zKD(i:Nat):zpw P s t (p,.alias i)=zUz p ((sliceT P t).isSome=true) ((zrr P t).isSome=true) (s i):=by
 simp only[zpw,zUz]
 cases s i<;>rfl
end
def zsB(k:Option (Nat×TK))(x:Prop×AV):Prop×AV:=
 match k,x with
 |some (o,_),(p,.ptr i off)=>(p,.ptr i (off+o))
 |some (o,_),(p,.eptr i k off)=>(p,.eptr i k (off+o))
 |some (o,_),(p,.elem cs)=>(p,.elem (cs.drop o))
 |_,_=>(False,.dead)
@[simp]theorem zMv(o:Nat)(k:TK)(p:Prop)(i off:Nat):zsB (some (o,k)) (p,.ptr i off)=(p,.ptr i (off+o)):=rfl
@[simp]theorem zIg(o:Nat)(k:TK)(p:Prop)(i j off:Nat):zsB (some (o,k)) (p,.eptr i j off)=(p,.eptr i j (off+o)):=rfl
@[simp]theorem zFT(o:Nat)(k:TK)(p:Prop)(cs:List CV):zsB (some (o,k)) (p,.elem cs)=(p,.elem (cs.drop o)):=rfl
@[simp]theorem zBZ(P:Program)(t:TypeId)(f:Nat)(x:Prop×AV):zbT P t f x=zsB (fieldAt P t f) x:=rfl
def zUU(x:Prop×AV):Prop×AV:=match zGo x.2 with
 |true=>x
 |false=>(False,.dead)
@[simp]theorem zR9(p:Prop)(i o:Nat):zUU (p,.ptr i o)=(p,.ptr i o):=rfl
@[simp]theorem zPJ(p:Prop)(cs:List CV):zUU (p,.elem cs)=(p,.elem cs):=rfl
def zDg:Prop×AV→Prop×Option Int
 |(p,.x (.one (.int _ n)))=>(p,some n)
 |_=>(False,none)
@[simp]theorem zNf(p:Prop)(k:IntKind)(n:Int):zDg (p,.x (.one (.int k n)))=(p,some n):=rfl
@[simp]theorem zIa(s:St)(m:Int):zaw s none m=(True,some m):=rfl
@[simp]theorem zFe(s:St)(x:Operand)(m:Int):zaw s (some x) m=zDg (sv s x):=rfl
def zUl(P:Program)(t:TypeId)(p:Prop)(l:List UInt8)(a b:Prop×Option Int):Prop×AV:=match a,b with
 |(q,some a),(r,some b)=>(p∧q∧r∧zaD P t=true∧0≤a∧a≤b∧b≤l.length,.x (.one (.str (cutAt l a b))))
 |_,_=>(False,.dead)
@[simp]theorem zO3(P:Program)(t:TypeId)(p q r:Prop)(l:List UInt8)(a b:Int):zUl P t p l (q,some a) (r,some b)=(p∧q∧r∧zaD P t=true∧0≤a∧a≤b∧b≤l.length,.x (.one (.str (cutAt l a b)))):=rfl
@[simp]theorem zKf(P:Program)(s:St)(t:TypeId)(p:Prop)(l:List UInt8)(lo hi:Option Operand):zcc P s t (p,.x (.one (.str l))) lo hi none=zUl P t p l (zaw s lo 0) (zaw s hi l.length):=by
 simp only[zcc,zUl]
 generalize zaw s lo 0=u
 generalize zaw s hi l.length=v
 obtain⟨_,u⟩:=u
 obtain⟨_,v⟩:=v
 cases u<;>cases v<;>rfl
def zVm(p d:Prop)(z:Nat)(xs:List (List CV))(k:Option (TypeId×Nat))(a b c:Prop×Option Int):Prop×AV:=match k,a,b,c with
 |some (_,size),(q,some a),(r,some b),(u,some c)=>(p∧q∧r∧u∧z=size∧0≤a∧a≤b∧b≤c∧c≤xs.length∧d,.x (.one (.list z (cutAt xs a b))))
 |_,_,_,_=>(False,.dead)
@[simp]theorem zQN(p d q r u:Prop)(t:TypeId)(z size:Nat)(xs:List (List CV))(a b c:Int):zVm p d z xs (some (t,size)) (q,some a) (r,some b) (u,some c)=(p∧q∧r∧u∧z=size∧0≤a∧a≤b∧b≤c∧c≤xs.length∧d,.x (.one (.list z (cutAt xs a b)))):=rfl
@[simp]theorem zGs(P:Program)(s:St)(t:TypeId)(p:Prop)(z:Nat)(xs:List (List CV))(lo hi mx:Option Operand):zcc P s t (p,.x (.one (.list z xs))) lo hi mx=zVm p (hi=none→mx=none) z xs (sliceT P t) (zaw s lo 0) (zaw s hi xs.length) (zaw s mx xs.length):=by
 simp only[zcc,zVm]
 generalize zaw s lo 0=u
 generalize zaw s hi xs.length=v
 generalize zaw s mx xs.length=m
 generalize sliceT P t=k
 obtain⟨_,u⟩:=u
 obtain⟨_,v⟩:=v
 obtain⟨_,m⟩:=m
 cases u<;>cases v<;>cases m<;>cases k<;>rfl
def zCB(k:Option (List CV×List (Nat×Nat)))(parts:List (Nat×(Prop×AV))):Prop×AV:=match k with
 |some (cs,places)=>((zhn places cs parts).1,.x (.agg (zhn places cs parts).2))
 |none=>(False,.dead)
def zPQ(r:Prop×List CV):Prop×AV:=(r.1,.x (.agg r.2))
@[simp]theorem zSb(p:Prop)(cs:List CV):zPQ (p,cs)=(p,.x (.agg cs)):=rfl
@[simp]theorem zFZ(cs:List CV)(places:List (Nat×Nat))(parts:List (Nat×(Prop×AV))):zCB (some (cs,places)) parts=zPQ (zhn places cs parts):=rfl
@[simp]theorem zPh(P:Program)(f:Operand→Prop×AV)(t:TypeId)(parts:List (Nat×Operand)):zev P f t parts=zCB (zd1 P t) (parts.map fun x=>(x.1,f x.2)):=rfl
def zzD(p q:Prop)(r:Prop×List CV):Prop×List CV:=(p∧q∧r.1,r.2)
@[simp]theorem zTe(p q r:Prop)(cs:List CV):zzD p q (r,cs)=(p∧q∧r,cs):=rfl
def zGL(places:List (Nat×Nat))(cells:List CV)(r:List (Nat×(Prop×AV)))(p:Prop)(vs:List CV):Option (Nat×Nat)→Prop×List CV
 |some (off,size)=>zzD p (vs.length=size∧off+size≤cells.length) (zhn places (zae cells off vs) r)
 |none=>(False,cells)
@[simp]theorem zLR(places:List (Nat×Nat))(cells:List CV)(r:List (Nat×(Prop×AV)))(p:Prop)(vs:List CV)(off size:Nat):zGL places cells r p vs (some (off,size))=zzD p (vs.length=size∧off+size≤cells.length) (zhn places (zae cells off vs) r):=rfl
@[simp]theorem zQT(places:List (Nat×Nat))(cells:List CV):zhn places cells []=(True,cells):=by simp only[zhn]
@[simp]theorem zKP(places:List (Nat×Nat))(cells:List CV)(i:Nat)(p:Prop)(xv:XV)(r:List (Nat×(Prop×AV))):zhn places cells ((i,(p,.x xv))::r)=zGL places cells r p xv.cells (places[i]?):=by
 simp only[zhn]
 cases places[i]? with
 |none=>rfl
 |some x=>simp only[zGL,zzD,and_assoc]
def zVz(len:Nat)(parts:List (Nat×(Prop×AV))):Option (TypeId×Nat×List CV)→Prop×AV
 |some (e,size,z)=>(len*size≤16777216∧(zih size (List.replicate len z) parts).1,.own e size (zih size (List.replicate len z) parts).2)
 |none=>(False,.dead)
@[simp]theorem zPe(len:Nat)(parts:List (Nat×(Prop×AV)))(e:TypeId)(size:Nat)(z:List CV):zVz len parts (some (e,size,z))=(len*size≤16777216∧(zih size (List.replicate len z) parts).1,.own e size (zih size (List.replicate len z) parts).2):=rfl
@[simp]theorem zze(P:Program)(f:Operand→Prop×AV)(t:TypeId)(len:Nat)(parts:List (Nat×Operand)):zaB P f t len parts=zVz len (parts.map fun x=>(x.1,f x.2)) (rowT P t):=by
 unfold zaB zVz
 rfl
def zI3(s:St)(i off m:Nat):Bool→St
 |true=>unlink s i off m
 |false=>s
@[congr]theorem zMj{s:St}{i off m:Nat}{b b':Bool}(h:b=b'):zI3 s i off m b=zI3 s i off m b':=by rw[h]
@[simp]theorem zJq(s:St)(i off m:Nat):zI3 s i off m false=s:=rfl
def zl5(s:St)(p q:Prop)(i off m:Nat)(vs:List CV):AV→Prop×St
 |.box cs=>(p∧q∧vs.length=m∧off+m≤cs.length,upd (zI3 s i off m (zej cs off m)) i (.box (zae cs off vs)))
 |.gbox b cs=>(p∧q∧vs.length=m∧off+m≤cs.length,upd (zI3 s i off m (zej cs off m)) i (.gbox b (zae cs off vs)))
 |_=>(False,s)
@[congr]theorem zEs{s:St}{p q:Prop}{i off m:Nat}{vs:List CV}{a a':AV}(h:a=a'):zl5 s p q i off m vs a=zl5 s p q i off m vs a':=by rw[h]
@[simp]theorem zM2(s:St)(p q:Prop)(i off m:Nat)(vs cs:List CV):zl5 s p q i off m vs (.box cs)=(p∧q∧vs.length=m∧off+m≤cs.length,upd (zI3 s i off m (zej cs off m)) i (.box (zae cs off vs))):=rfl
@[simp]theorem zFD(s:St)(p q:Prop)(i off m b:Nat)(vs cs:List CV):zl5 s p q i off m vs (.gbox b cs)=(p∧q∧vs.length=m∧off+m≤cs.length,upd (zI3 s i off m (zej cs off m)) i (.gbox b (zae cs off vs))):=rfl
def znN(s:St)(p q:Prop)(i k off m:Nat)(vs:List CV):AV→Prop×St
 |.own e size xs=>(p∧q∧vs.length=m∧k<xs.length∧off+m≤size,upd s i (.own e size (xs.set k (zae (xs.getD k []) off vs))))
 |_=>(False,s)
@[congr]theorem zCS{s:St}{p q:Prop}{i k off m:Nat}{vs:List CV}{a a':AV}(h:a=a'):znN s p q i k off m vs a=znN s p q i k off m vs a':=by rw[h]
@[simp]theorem zLp(s:St)(p q:Prop)(i k off m e size:Nat)(vs:List CV)(xs:List (List CV)):znN s p q i k off m vs (.own e size xs)=(p∧q∧vs.length=m∧k<xs.length∧off+m≤size,upd s i (.own e size (xs.set k (zae (xs.getD k []) off vs)))):=rfl
def znz(s:St)(addr x:Prop×AV)(m:Option Nat):Prop×St:=
 match addr,x,m with
 |(p,.ptr i off),(q,.x xv),some m=>zl5 s p q i off m xv.cells (s i)
 |(p,.eptr i k off),(q,.x xv),some m=>znN s p q i k off m xv.cells (s i)
 |_,_,_=>(False,s)
@[congr]theorem zDu{s:St}{a a' x x':Prop×AV}{m m':Option Nat}(h1:a=a')(h2:x=x')(h3:m=m'):znz s a x m=znz s a' x' m':=by rw[h1,h2,h3]
@[simp]theorem zLq(s:St)(p q:Prop)(i off m:Nat)(xv:XV):znz s (p,.ptr i off) (q,.x xv) (some m)=zl5 s p q i off m xv.cells (s i):=rfl
@[simp]theorem zHg(s:St)(p q:Prop)(i k off m:Nat)(xv:XV):znz s (p,.eptr i k off) (q,.x xv) (some m)=znN s p q i k off m xv.cells (s i):=rfl
@[simp]theorem zO0(P:Program)(s:St)(t:TypeId)(addr x:Prop×AV):zcs P s t addr x=znz s addr x (tk P t).cells:=by
 obtain⟨p,a⟩:=addr
 obtain⟨q,v⟩:=x
 unfold zcs znz zl5 znN
 generalize (tk P t).cells=m
 cases a<;>cases v<;>cases m<;>try rfl
 dsimp only
 cases s _<;>try rfl
 ·dsimp only
  cases zej _ _ _<;>rfl
 ·dsimp only
  cases zej _ _ _<;>rfl
def zFN(size:Nat):AV→Option (List (List CV))
 |.own _ z ys=>if z=size then some ys else none
 |_=>none
@[simp]theorem zQg(size e z:Nat)(ys:List (List CV)):zFN size (.own e z ys)=if z=size then some ys else none:=rfl
@[simp]theorem zDO(s:St)(size z:Nat):zbO s size (.x (.one (.empty z)))=if z=size then some [] else none:=rfl
@[simp]theorem zHa(s:St)(size z:Nat)(ys:List (List CV)):zbO s size (.x (.one (.list z ys)))=if z=size then some ys else none:=rfl
@[simp]theorem zCH(s:St)(size j:Nat):zbO s size (.alias j)=zFN size (s j):=by
 unfold zbO zFN
 rfl
def zSK(i:Nat):AV→Option (Option Nat×Option TypeId×Nat×List (List CV))
 |.own e size xs=>some (some i,some e,size,xs)
 |.gown _ e size xs=>some (some i,some e,size,xs)
 |_=>none
@[simp]theorem zRj(i e size:Nat)(g:Value)(xs:List (List CV)):zSK i (.gown g e size xs)=some (some i,some e,size,xs):=rfl
@[simp]theorem zTt(i e size:Nat)(xs:List (List CV)):zSK i (.own e size xs)=some (some i,some e,size,xs):=rfl
@[simp]theorem zDT(s:St):zaE s (.x (.one .nil))=some (none,none,0,[]):=rfl
@[simp]theorem zzg(s:St)(i:Nat):zaE s (.alias i)=zSK i (s i):=by
 unfold zaE zSK
 rfl
def zFf(s:St)(q:Prop)(k:Option IntKind)(e size:Nat)(zc:List CV)(z:Option Int)(bytes:Nat):Prop×St×AV:=
 match z with
 |some n=>(q∧k.isSome=true∧0<n∧n*bytes≤140737488355328∧n≤maxLen,s,.own e size (List.replicate n.toNat zc))
 |none=>(False,s,.dead)
def zJk(s:St)(p:Prop)(e size:Nat)(b:Option Nat)(src:Option (Option Nat×Option TypeId×Nat×List (List CV)))(news:Option (List (List CV)))(zr:Nat→Prop×St×AV):Prop×St×AV:=
 match b,src,news with
 |some bytes,some (some i,some e',size',xs),some ys=>(p∧e'=e∧size'=size∧(xs.length+ys.length)*bytes≤140737488355328∧xs.length+ys.length≤maxLen,put s i .dead,.own e size (xs++ys))
 |some bytes,some (none,_,_,_),some ys=>(p∧ys.length*bytes≤140737488355328∧ys.length≤maxLen,s,.own e size ys)
 |some bytes,some (none,_,_,_),none=>zr bytes
 |_,_,_=>(False,s,.dead)
@[congr]theorem zL0{s:St}{p:Prop}{e size:Nat}{b b':Option Nat}{src src':Option (Option Nat×Option TypeId×Nat×List (List CV))}{news news':Option (List (List CV))}{zr:Nat→Prop×St×AV}(h1:b=b')(h2:src=src')(h3:news=news'):zJk s p e size b src news zr=zJk s p e size b' src' news' zr:=by rw[h1,h2,h3]
@[simp]theorem zTN(s:St)(p:Prop)(e size bytes i e' size':Nat)(xs ys:List (List CV))(zr:Nat→Prop×St×AV):zJk s p e size (some bytes) (some (some i,some e',size',xs)) (some ys) zr=(p∧e'=e∧size'=size∧(xs.length+ys.length)*bytes≤140737488355328∧xs.length+ys.length≤maxLen,put s i .dead,.own e size (xs++ys)):=rfl
@[simp]theorem zR2(s:St)(p:Prop)(e size bytes:Nat)(a:Option TypeId)(b:Nat)(c ys:List (List CV))(zr:Nat→Prop×St×AV):zJk s p e size (some bytes) (some (none,a,b,c)) (some ys) zr=(p∧ys.length*bytes≤140737488355328∧ys.length≤maxLen,s,.own e size ys):=rfl
def zVS(P:Program)(s:St)(p q:Prop)(t':TypeId)(x y:AV):Option (TypeId×Nat×List CV)→Prop×St×AV
 |some (e,size,zc)=>zJk s p e size (zdZ P e) (zaE s x) (zbO s size y) (zFf s q (zsJ P t') e size zc (zol y))
 |none=>(False,s,.dead)
def zsg(P:Program)(s:St)(t t':TypeId)(x y:Prop×AV)(k:Option (TypeId×Nat×List CV)):Prop×St×AV:=zVS P s (x.1∧y.1∧t=t') (x.1∧y.1) t' x.2 y.2 k
@[congr]theorem zHS{P:Program}{s:St}{t t':TypeId}{x x' y y':Prop×AV}{k k':Option (TypeId×Nat×List CV)}(h1:x=x')(h2:y=y')(h3:k=k'):zsg P s t t' x y k=zsg P s t t' x' y' k':=by rw[h1,h2,h3]
@[simp]theorem zTO(P:Program)(s:St)(t t':TypeId)(p q:Prop)(x y:AV)(e size:Nat)(z:List CV):zsg P s t t' (p,x) (q,y) (some (e,size,z))=zJk s (p∧q∧t=t') e size (zdZ P e) (zaE s x) (zbO s size y) (zFf s (p∧q) (zsJ P t') e size z (zol y)):=rfl
theorem zrV(P:Program)(s:St)(t t':TypeId)(x y:Prop×AV):zdA P s t t' x y=zsg P s t t' x y (rowT P t):=by
 unfold zdA zsg zVS zJk zFf
 split
 ·rename_i e size z h
  rw[h]
  simp only
  split
  ·simp_all [and_assoc]
  ·simp_all [and_assoc]
  ·rename_i h1 h2 h3
   rw[h1,h2,h3]
   simp only
   split<;>simp_all [and_assoc]
  ·rename_i h1 h2 h3
   split
   ·rename_i a b c;exact absurd c (h1 _ _ _ _ _ _ a b)
   ·rename_i a b c;exact absurd c (h2 _ _ _ _ _ a b)
   ·rename_i a b c;exact absurd c (h3 _ _ _ _ a b)
   ·rfl
 ·rename_i h
  rw[h]
def zFv(P:Program)(s:St)(t':TypeId)(p q:Prop)(l:List UInt8)(row:Option (TypeId×Nat×List CV))(src:Option (Option Nat×Option TypeId×Nat×List (List CV))):Prop×St×AV:=
 match row,src with
 |some (e,size,_),some (some i,some e',size',xs)=>(p∧q∧zaD P t'=true∧zj5 P e=true∧e'=e∧size'=size∧size=1∧xs.length+l.length≤140737488355328,put s i .dead,.own e size (xs++zad l))
 |some (e,size,_),some (none,_,_,_)=>(p∧q∧zaD P t'=true∧zj5 P e=true∧size=1∧l.length≤140737488355328,s,.own e size (zad l))
 |_,_=>(False,s,.dead)
@[congr]theorem zKj{P:Program}{s:St}{t':TypeId}{p q:Prop}{l:List UInt8}{row row':Option (TypeId×Nat×List CV)}{src src':Option (Option Nat×Option TypeId×Nat×List (List CV))}(h1:row=row')(h2:src=src'):zFv P s t' p q l row src=zFv P s t' p q l row' src':=by rw[h1,h2]
@[simp]theorem zSd(P:Program)(s:St)(t':TypeId)(p q:Prop)(l:List UInt8)(e size:Nat)(z:List CV)(i e' size':Nat)(xs:List (List CV)):zFv P s t' p q l (some (e,size,z)) (some (some i,some e',size',xs))=(p∧q∧zaD P t'=true∧zj5 P e=true∧e'=e∧size'=size∧size=1∧xs.length+l.length≤140737488355328,put s i .dead,.own e size (xs++zad l)):=rfl
@[simp]theorem zSj(P:Program)(s:St)(t':TypeId)(p q:Prop)(l:List UInt8)(e size:Nat)(z:List CV)(a:Option TypeId)(b:Nat)(c:List (List CV)):zFv P s t' p q l (some (e,size,z)) (some (none,a,b,c))=(p∧q∧zaD P t'=true∧zj5 P e=true∧size=1∧l.length≤140737488355328,s,.own e size (zad l)):=rfl
def zLU(P:Program)(s:St)(t t':TypeId)(x y:Prop×AV)(o:Option (List UInt8)):Prop×St×AV:=match o with
 |some l=>zFv P s t' x.1 y.1 l (rowT P t) (zaE s x.2)
 |none=>zsg P s t t' x y (rowT P t)
@[congr]theorem zJG{P:Program}{s:St}{t t':TypeId}{x x' y y':Prop×AV}{o o':Option (List UInt8)}(h1:x=x')(h2:y=y')(h3:o=o'):zLU P s t t' x y o=zLU P s t t' x' y' o':=by rw[h1,h2,h3]
@[simp]theorem zPi(P:Program)(s:St)(t t':TypeId)(p q:Prop)(x y:AV)(l:List UInt8):zLU P s t t' (p,x) (q,y) (some l)=zFv P s t' p q l (rowT P t) (zaE s x):=rfl
@[simp]theorem zOC(P:Program)(s:St)(t t':TypeId)(x y:Prop×AV):zLU P s t t' x y none=zsg P s t t' x y (rowT P t):=rfl
@[simp]theorem zMU(P:Program)(s:St)(t t':TypeId)(x y:Prop×AV):zax P s t t' x y=zLU P s t t' x y (strOf y.2):=by
 unfold zax zLU
 cases strOf y.2 with
 |none=>exact zrV P s t t' x y
 |some l =>
  unfold zd7 zFv
  rfl
@[simp]theorem zOH(l:List UInt8):strOf (.x (.one (.str l)))=some l:=rfl
@[simp]theorem zFp(z:Nat):strOf (.x (.one (.empty z)))=none:=rfl
@[simp]theorem zKT(z:Nat)(xs:List (List CV)):strOf (.x (.one (.list z xs)))=none:=rfl
@[simp]theorem zIH(i:Nat):strOf (.alias i)=none:=rfl
@[simp]theorem zRg(l:List UInt8):okB (zad l)=True:=by
 apply propext
 refine⟨fun _=>trivial,fun _ x hx=>?_⟩
 simp only[zad,List.mem_map] at hx
 obtain⟨b,_,rfl⟩:=hx
 exact⟨_,rfl⟩
@[simp]theorem zMX(l:List UInt8):ztx (zad l)=l:=by
 unfold ztx zad
 induction l with
 |nil=>rfl
 |cons b r ih =>
  simp only[List.map_cons,zvV]
  rw[ih]
  simp
@[simp]theorem zEG:zad []=[]:=rfl
theorem zc5(a b:List UInt8):zad (a++b)=zad a++zad b:=by simp[zad]
@[simp]theorem zrH(l:List UInt8)(i:Nat):(zad l)[i]?=(l[i]?).map byteRow:=by simp[zad]
@[simp]theorem zAg(l:List UInt8)(k:Nat):(zad l).take k=zad (l.take k):=by simp[zad]
@[simp]theorem zgm(l:List UInt8)(i:Nat)(b:UInt8):(zad l).set i [.int .u8 b.toNat]=zad (l.set i b):=by simp[zad]
def zv7(s:St)(p:Prop)(i lo len size:Nat)(zc:List CV):AV→Prop×St
 |.own e size' xs=>(p∧size'=size,upd s i (.own e size' (xs.take lo++List.replicate len zc++xs.drop (lo+len))))
 |_=>(False,s)
@[congr]theorem zCg{s:St}{p:Prop}{i lo len size:Nat}{zc:List CV}{v v':AV}(h:v=v'):zv7 s p i lo len size zc v=zv7 s p i lo len size zc v':=by rw[h]
def zDG(s:St)(k:Option (TypeId×Nat×List CV))(x:Prop×AV):Prop×St:=
 match k,x with
 |some (_,size,zc),(p,.view i lo len _)=>zv7 s p i lo len size zc (s i)
 |_,_=>(False,s)
@[congr]theorem zB4{s:St}{k k':Option (TypeId×Nat×List CV)}{x x':Prop×AV}(h1:k=k')(h2:x=x'):zDG s k x=zDG s k' x':=by rw[h1,h2]
def znt(s:St)(args:List Operand):Bool→St
 |true=>s
 |false=>zas s (zaX s args)
@[congr]theorem zEL{s:St}{args:List Operand}{b b':Bool}(h:b=b'):znt s args b=znt s args b':=by rw[h]
@[simp]theorem zJe(s:St)(args:List Operand):znt s args true=s:=rfl
@[simp]theorem zCx(s:St)(args:List Operand):znt s args false=zas s (zaX s args):=rfl
@[simp]theorem zDy(s:St)(args:List Operand)(r:RV):zbA s args r=znt s args r.flat:=by
 unfold zbA znt
 cases r.flat<;>rfl
def zmK:List (CV ⊕ (Nat×Nat))→List Nat→List Nat
 |[],l=>l
 |.inl _::r,l=>zmK r l
 |.inr p::r,l=>p.1::zmK r l
@[simp]theorem zQX(l:List Nat):zmK [] l=l:=rfl
@[simp]theorem zx4(c:CV)(r:List (CV ⊕ (Nat×Nat)))(l:List Nat):zmK (.inl c::r) l=zmK r l:=rfl
@[simp]theorem zyQ(p:Nat×Nat)(r:List (CV ⊕ (Nat×Nat)))(l:List Nat):zmK (.inr p::r) l=p.1::zmK r l:=rfl
theorem zkR:∀(caps:List (CV ⊕ (Nat×Nat))) (l:List Nat),zmK caps l=caps.filterMap zcq++l
 |[],l=>rfl
 |.inl c::r,l=>by rw[zx4,zkR r l];simp[List.filterMap_cons,zcq]
 |.inr p::r,l=>by rw[zyQ,zkR r l];simp[List.filterMap_cons,zcq]
def zxr:AV→List Nat→List Nat
 |.alias i,l=>i::l
 |.view i _ _ _,l=>i::l
 |.cloR _ caps,l=>zmK caps l
 |_,l=>l
@[simp]theorem zO5(s:St):zaX s []=[]:=rfl
@[simp]theorem zMe(s:St)(x:Operand)(r:List Operand):zaX s (x::r)=zxr (sv s x).2 (zaX s r):=by
 simp only[zaX,zxr,zib]
 generalize (sv s x).2=v
 cases v<;>first | rfl | (simp only[zkR])
@[simp]theorem zI0(i:Nat)(l:List Nat):zxr (.alias i) l=i::l:=rfl
@[simp]theorem zJ7(cs:List CV)(l:List Nat):zxr (.elem cs) l=l:=rfl
@[simp]theorem zVb(v:XV)(l:List Nat):zxr (.x v) l=l:=rfl
def ztQ:AV→List Nat→List Nat
 |.cloR _ caps,l=>zmK caps l
 |_,l=>l
@[simp]theorem zRT(s:St)(l:List Operand):ziA s l=outOf (zsv s l) (zhQ s l):=rfl
@[simp]theorem zP8(l:List Nat):outOf l []=[]:=rfl
@[simp]theorem zJH(l m:List Nat)(i:Nat):outOf l (i::m)=bif l.contains i then outOf l m else i::outOf l m:=by
 simp only[outOf,List.filter_cons]
 cases l.contains i<;>rfl
def zt0:AV→List Nat→List Nat
 |.ptr i 0,l=>i::l
 |_,l=>l
@[simp]theorem zN0(i:Nat)(l:List Nat):zt0 (.ptr i 0) l=i::l:=rfl
@[simp]theorem zU0(v:XV)(l:List Nat):zt0 (.x v) l=l:=rfl
@[simp]theorem zFw(i:Nat)(l:List Nat):zt0 (.alias i) l=l:=rfl
@[simp]theorem zMP(f:FuncId)(caps:List (CV ⊕ (Nat×Nat)))(l:List Nat):zt0 (.cloR f caps) l=l:=rfl
@[simp]theorem zP0(s:St):zsv s []=[]:=rfl
@[simp]theorem zJy(s:St)(x:Operand)(r:List Operand):zsv s (x::r)=zt0 (sv s x).2 (zsv s r):=by
 simp only[zsv,zt0,zx2]
 generalize (sv s x).2=v
 cases v<;>first | rfl | skip
 rename_i i o
 cases o<;>rfl
@[simp]theorem zLa(s:St):zhQ s []=[]:=rfl
@[simp]theorem zH4(s:St)(x:Operand)(r:List Operand):zhQ s (x::r)=ztQ (sv s x).2 (zhQ s r):=by
 simp only[zhQ,ztQ,ztr]
 generalize (sv s x).2=v
 cases v<;>first | rfl | (simp only[zkR])
@[simp]theorem zGv(i:Nat)(l:List Nat):ztQ (.alias i) l=l:=rfl
@[simp]theorem zQo(i o:Nat)(l:List Nat):ztQ (.ptr i o) l=l:=rfl
@[simp]theorem zJM(f:FuncId)(caps:List (CV ⊕ (Nat×Nat)))(l:List Nat):ztQ (.cloR f caps) l=zmK caps l:=rfl
@[simp]theorem zUw(v:XV)(l:List Nat):ztQ (.x v) l=l:=rfl
@[congr]theorem zIw{s:St}{l l':List Nat}{k:St→Prop}(h:l=l'):znn s l k=znn s l' k:=by rw[h]
@[simp]theorem zP5(s:St)(k:St→Prop):znn s [] k=k s:=rfl
@[simp]theorem zFc(s:St):zas s []=s:=rfl
@[simp]theorem zB9(s:St)(i:Nat)(l:List Nat):zas s (i::l)=zas (freeze s i) l:=rfl
def thaw(s:St)(i:Nat)(a:AV):St:=fun j=>if (s j).refs i then zbu a (s j) else s j
@[simp]theorem zHD(s:St)(i:Nat)(a:AV)(j:Nat):thaw s i a j=if (s j).refs i then zbu a (s j) else s j:=rfl
@[simp]theorem zIA(cs:List CV)(i off:Nat):zbu (.box cs) (.ptr i off)=.elem (cs.drop off):=rfl
@[simp]theorem zDm(cs:List CV)(i k off:Nat):zbu (.box cs) (.eptr i k off)=.dead:=rfl
@[simp]theorem zzv(cs:List CV)(i:Nat):zbu (.box cs) (.alias i)=.dead:=rfl
@[simp]theorem zDH(cs:List CV)(i lo len:Nat)(wh:Bool):zbu (.box cs) (.view i lo len wh)=.dead:=rfl
@[simp]theorem zD5(cs:List CV)(f:FuncId)(i:Nat):zbu (.box cs) (.cloR f [.inr (i,0)])=.x (.one (.clo f [.ref cs])):=rfl
@[simp]theorem zAw(cs:List CV)(f:FuncId)(c c':CV ⊕ (Nat×Nat))(r:List (CV ⊕ (Nat×Nat))):zbu (.box cs) (.cloR f (c::c'::r))=.dead:=by
 rcases zcQ (.box cs) (.cloR f (c::c'::r)) with e | ⟨_,_,_,_,e,_⟩ | ⟨_,_,_,_,e,_⟩
 ·exact e
 ·cases e
 ·cases e
@[simp]theorem zGq(e z:Nat)(xs:List (List CV))(x:AV):zbu (.own e z xs) x=.dead:=rfl
@[simp]theorem zCt(cs:List CV)(x:AV):zbu (.elem cs) x=.dead:=rfl
@[simp]theorem zQ9(v:XV)(x:AV):zbu (.x v) x=.dead:=rfl
@[simp]theorem zQG(s:St)(i:Nat):freeze s i=upd (thaw s i (s i)) i (zcW (s i)):=by
 funext j
 simp only[freeze,zri,zHD]
@[simp]theorem zEf(cs:List CV):zcW (.box cs)=.elem cs:=rfl
@[simp]theorem zA3(e z:Nat)(xs:List (List CV)):zcW (.own e z xs)=.x (.one (.list z xs)):=rfl
def zuv(i off:Nat)(p:Prop):AV→Prop×AV
 |.link i' o d=>match i'==i&&o==off with
  |true=>(p,.alias d)
  |false=>(p,.x (.one .any))
 |_=>(p,.x (.one .any))
@[congr]theorem zI6{i off:Nat}{p:Prop}{v v':AV}(h:v=v'):zuv i off p v=zuv i off p v':=by rw[h]
@[simp]theorem zLQ(i off:Nat)(p:Prop)(d:Nat):zuv i off p (.link i off d)=(p,.alias d):=by simp[zuv]
@[simp]theorem zDN(s:St)(i off:Nat)(p:Prop):za0 s (.ptr i off) (p,.x (.one .any))=zuv i off p (s (LK i off)):=by
 unfold za0 zuv
 dsimp only
 cases s (LK i off)<;>rfl
attribute [simp] zjj
@[simp]theorem zCe(s:St)(r:AV)(p:Prop)(cs:List CV):za0 s r (p,.x (.agg cs))=(p,.x (.agg cs)):=rfl
@[simp]theorem zzZ(s:St)(r:AV)(p:Prop)(b:Bool):za0 s r (p,.x (.one (.bool b)))=(p,.x (.one (.bool b))):=rfl
@[simp]theorem zCc(s:St)(r:AV)(p:Prop)(k:IntKind)(n:Int):za0 s r (p,.x (.one (.int k n)))=(p,.x (.one (.int k n))):=rfl
@[simp]theorem zDR(s:St)(r:AV)(p:Prop)(l:List UInt8):za0 s r (p,.x (.one (.str l)))=(p,.x (.one (.str l))):=rfl
@[simp]theorem zCU(s:St)(r:AV)(p:Prop):za0 s r (p,.x (.one .nil))=(p,.x (.one .nil)):=rfl
@[simp]theorem zBi(s:St)(r:AV)(p:Prop)(z:Nat)(l:List (List CV)):za0 s r (p,.x (.one (.list z l)))=(p,.x (.one (.list z l))):=rfl
@[simp]theorem zBp(s:St)(r:AV)(p:Prop)(v:Value):za0 s r (p,.x (.one (.atom v)))=(p,.x (.one (.atom v))):=rfl
section
variable (P:Program)(s:St)
@[simp]theorem zLM(x:Operand):zaj P s (.move x)=sv s x:=rfl
@[simp]theorem zEJ(x:Operand):zaj P s (.assign x)=(True,look s x):=rfl
@[simp]theorem zMK(c a b:Operand):zaj P s (.pick c a b)=zuC (sv s c) (sv s a) (sv s b):=rfl
@[simp]theorem zJB(t:TypeId)(x:Operand):zaj P s (.load t x)=zhU P s t (sv s x):=rfl
def zUB(i off:Nat)(p:Prop):TK→Prop×AV
 |.one=>(p,.ptr i off)
 |_=>(False,.dead)
@[simp]theorem zSN(i off:Nat)(p:Prop):zUB i off p .one=(p,.ptr i off):=rfl
@[simp]theorem zLL(t:TypeId)(p:Prop)(i off:Nat):zhU P s t (p,.ptr2 i off)=zUB i off p (tk P t):=by
 unfold zhU zUB
 dsimp only
 cases tk P t<;>rfl
@[simp]theorem zNK(t:TypeId)(p:Prop)(i off:Nat):zhU P s t (p,.ptr i off)=za0 s (.ptr i off) (zeD (tk P t) (zbp P t) p (mem s (.ptr i off))):=rfl
@[simp]theorem zNk(t:TypeId)(p:Prop)(i k off:Nat):zhU P s t (p,.eptr i k off)=za0 s (.eptr i k off) (zeD (tk P t) (zbp P t) p (mem s (.eptr i k off))):=rfl
@[simp]theorem zLN(t:TypeId)(p:Prop)(cs:List CV):zhU P s t (p,.elem cs)=za0 s (.elem cs) (zeD (tk P t) (zbp P t) p (mem s (.elem cs))):=rfl
@[simp]theorem zzd(x:Operand):zaj P s (.nilCheck x)=zUU (sv s x):=rfl
@[simp]theorem zJc(op:BinOp)(t t':TypeId)(x y:Operand):zaj P s (.binOp op t x y t')=zkK P s op t x y:=rfl
@[simp]theorem zRo(op:BinOp)(t:TypeId)(x:Operand)(i:Nat):zkK P s op t x (.tmp i)=zcI P op t (sv s x) (sv s (.tmp i)):=rfl
@[simp]theorem zQH(op:BinOp)(t:TypeId)(x:Operand)(k:IntKind)(i:Int):zkK P s op t x (.const (.int k i))=zcI P op t (sv s x) (sv s (.const (.int k i))):=rfl
@[simp]theorem zQ2(op:BinOp)(t:TypeId)(x:Operand)(b:ByteArray):zkK P s op t x (.const (.string b))=zcI P op t (sv s x) (sv s (.const (.string b))):=rfl
@[simp]theorem zI7(op:BinOp)(t:TypeId)(x:Operand)(b:Option Addr)(l c:Nat):zkK P s op t x (.const (.slice b l c))=zcI P op t (sv s x) (sv s (.const (.slice b l c))):=rfl
@[simp]theorem zKR(op:UnOp)(t:TypeId)(x:Operand):zaj P s (.unOp op t x)=zuZ op (sv s x):=rfl
@[simp]theorem zH5(t:TypeId)(x:Operand)(lo hi mx:Option Operand):zaj P s (.slice t x lo hi mx)=zcc P s t (sv s x) lo hi mx:=rfl
@[simp]theorem zxg(t:TypeId)(x:Operand)(f:Nat):zaj P s (.fieldAddr t x f)=zbT P t f (sv s x):=rfl
@[simp]theorem zwh(t:TypeId)(x i:Operand):zaj P s (.indexAddr t x i)=zaM P s t (sv s x) (sv s i):=rfl
@[simp]theorem zIZ(t:TypeId)(x i:Operand):zaj P s (.index t x i)=zn5 P t (sv s x) (sv s i):=rfl
def zt4(p q:Prop)(kk:KK)(kx:XV)(es:List (XV×XV))(ok:Bool):Option (Option Nat)→Option XV→Prop×AV
 |some r,some z=>(p∧q∧zdY kk kx=true,zl1 es z ok r)
 |_,_=>(False,.dead)
@[simp]theorem zTB(p q:Prop)(kk:KK)(kx:XV)(es:List (XV×XV))(ok:Bool)(r:Option Nat)(z:XV):zt4 p q kk kx es ok (some r) (some z)=(p∧q∧zdY kk kx=true,zl1 es z ok r):=rfl
@[simp]theorem zK9(es:List (XV×XV))(z:XV):zl1 es z false none=.x z:=rfl
@[simp]theorem zAQ(es:List (XV×XV))(z:XV):zl1 es z true none=.tup [z,.one (.bool false)]:=rfl
@[simp]theorem zKF(es:List (XV×XV))(z:XV)(j:Nat):zl1 es z false (some j)=.x ((es[j]?).getD (z,z)).2:=rfl
@[simp]theorem zBP(es:List (XV×XV))(z:XV)(j:Nat):zl1 es z true (some j)=.tup [((es[j]?).getD (z,z)).2,.one (.bool true)]:=rfl
def lookO(p q:Prop)(kk:KK)(kx:XV)(ok:Bool)(z:Option XV):AV→Prop×AV
 |.mp _ _ es=>zt4 p q kk kx es ok (zbz kk kx es 0) z
 |_=>(False,.dead)
@[congr]theorem zGk{p q:Prop}{kk:KK}{kx:XV}{ok:Bool}{z z':Option XV}{v v':AV}(h:z=z')(hv:v=v'):lookO p q kk kx ok z v=lookO p q kk kx ok z' v':=by rw[h,hv]
@[simp]theorem zTI(p q:Prop)(kk:KK)(kx:XV)(ok:Bool)(z:Option XV)(c:Nat)(bs:List Nat)(es:List (XV×XV)):lookO p q kk kx ok z (.mp c bs es)=zt4 p q kk kx es ok (zbz kk kx es 0) z:=rfl
def zjo(P:Program)(s:St)(kt:Option (KK×TypeId))(x k:Prop×AV)(ok:Bool):Prop×AV:=
 match kt,x,k with
 |some (kk,e),(p,.alias i),(q,.x kx)=>lookO p q kk kx ok (zbp P e) (s i)
 |some (kk,e),(p,.x (.one (.mapv ka va ks vs))),(q,.x kx)=>zt4 p q kk kx (mvE ka va ks vs) ok (zbz kk kx (mvE ka va ks vs) 0) (zbp P e)
 |_,_,_=>(False,.dead)
@[congr]theorem zBG{P:Program}{s:St}{kt kt':Option (KK×TypeId)}{x x' k k':Prop×AV}{ok:Bool}(h1:kt=kt')(h2:x=x')(h3:k=k'):zjo P s kt x k ok=zjo P s kt' x' k' ok:=by rw[h1,h2,h3]
@[simp]theorem zCl(P:Program)(s:St)(kk:KK)(e:TypeId)(p q:Prop)(ka va:Bool)(ks vs:List (List CV))(kx:XV)(ok:Bool):zjo P s (some (kk,e)) (p,.x (.one (.mapv ka va ks vs))) (q,.x kx) ok=zt4 p q kk kx (mvE ka va ks vs) ok (zbz kk kx (mvE ka va ks vs) 0) (zbp P e):=rfl
@[simp]theorem zJQ(P:Program)(s:St)(kk:KK)(e:TypeId)(p q:Prop)(i:Nat)(kx:XV)(ok:Bool):zjo P s (some (kk,e)) (p,.alias i) (q,.x kx) ok=lookO p q kk kx ok (zbp P e) (s i):=rfl
@[simp]theorem zKm(P:Program)(s:St)(t:TypeId)(x k:Prop×AV)(ok:Bool):zew P s t x k ok=zjo P s (zrr P t) x k ok:=by
 unfold zew zjo lookO zt4
 rfl
def zRd(f:FuncId):Prop×Option (List CV)→Prop×Option (List (CV ⊕ (Nat×Nat)))→Prop×AV
 |(p,some cs),_=>(p,.x (.one (.clo f cs)))
 |_,(p,some cs)=>(p,.cloR f cs)
 |_,_=>(False,.dead)
@[congr]theorem zLi{f:FuncId}{a a':Prop×Option (List CV)}{b:Prop×Option (List (CV ⊕ (Nat×Nat)))}(h:a=a'):zRd f a b=zRd f a' b:=by rw[h]
def zRK(f:FuncId):Prop×Option (List (CV ⊕ (Nat×Nat)))→Prop×AV
 |(p,some cs)=>(p,.cloR f cs)
 |_=>(False,.dead)
@[simp]theorem zSk(f:FuncId)(p:Prop)(cs:List (CV ⊕ (Nat×Nat))):zRK f (p,some cs)=(p,.cloR f cs):=rfl
@[simp]theorem zQB(f:FuncId)(p:Prop)(b:Prop×Option (List (CV ⊕ (Nat×Nat)))):zRd f (p,none) b=zRK f b:=by
 obtain⟨q,b⟩:=b
 cases b<;>rfl
def zAH(a:Prop×AV)(b:Prop×Option (List CV)):Prop×Option (List CV):=match a,b with
 |(p,.x (.one c)),(q,some cs)=>(p∧q,some (c::cs))
 |_,_=>(False,none)
@[simp]theorem zLy(p:Prop)(i o:Nat)(b:Prop×Option (List CV)):zAH (p,.ptr2 i o) b=(False,none):=rfl
@[simp]theorem zO6(p:Prop)(i o:Nat)(b:Prop×Option (List CV)):zAH (p,.ptr i o) b=(False,none):=rfl
@[simp]theorem zNe:zf3 []=(True,some []):=rfl
@[simp]theorem zJa(x:Prop×AV)(r:List (Prop×AV)):zf3 (x::r)=zAH x (zf3 r):=by
 obtain⟨p,x⟩:=x
 cases x with
 |x v=>cases v with
  |one c =>
   simp only[zf3,zAH]
   generalize zf3 r=b
   obtain⟨q,b⟩:=b
   cases b<;>rfl
  |agg cs=>rfl
 |_=>rfl
def zuw(a:Prop×AV)(b:Prop×Option (List (CV ⊕ (Nat×Nat)))):Prop×Option (List (CV ⊕ (Nat×Nat))):=match a,b with
 |(p,.x (.one c)),(q,some cs)=>(p∧q,some (.inl c::cs))
 |(p,.ptr i off),(q,some cs)=>(p∧off<1000000∧q,some (.inr (i,off)::cs))
 |(p,.ptr2 i off),(q,some cs)=>(p∧q,some (.inr (i,off+1000000)::cs))
 |_,_=>(False,none)
@[simp]theorem zQa(p q:Prop)(i off:Nat)(cs:List (CV ⊕ (Nat×Nat))):zuw (p,.ptr i off) (q,some cs)=(p∧off<1000000∧q,some (.inr (i,off)::cs)):=rfl
@[simp]theorem zKb(p q:Prop)(i off:Nat)(cs:List (CV ⊕ (Nat×Nat))):zuw (p,.ptr2 i off) (q,some cs)=(p∧q,some (.inr (i,off+1000000)::cs)):=rfl
@[simp]theorem zRm:ze1 []=(True,some []):=rfl
@[simp]theorem zJU(x:Prop×AV)(r:List (Prop×AV)):ze1 (x::r)=zuw x (ze1 r):=by
 obtain⟨p,x⟩:=x
 cases x with
 |x v=>cases v with
  |one c =>
   simp only[ze1,zuw]
   generalize ze1 r=b
   obtain⟨q,b⟩:=b
   cases b<;>rfl
  |agg cs=>rfl
 |ptr i o =>
  simp only[ze1,zuw]
  generalize ze1 r=b
  obtain⟨q,b⟩:=b
  cases b<;>rfl
 |ptr2 i o =>
  simp only[ze1,zuw]
  generalize ze1 r=b
  obtain⟨q,b⟩:=b
  cases b<;>rfl
 |_=>rfl
@[simp]theorem zyW(f:FuncId)(cap:List Operand):zaj P s (.makeFunc (.func f) ⟨[]⟩ ⟨cap⟩)=zRd f (zf3 (cap.map (sv s))) (ze1 (cap.map (sv s))):=by
 show zdc s (.func f) [] cap=_
 unfold zdc zRd
 dsimp only
 split
 ·rename_i e;rw[e]
 ·rename_i hne
  generalize zf3 (cap.map (sv s))=a at hne
  generalize ze1 (cap.map (sv s))=b
  obtain⟨p,a⟩:=a
  obtain⟨q,b⟩:=b
  cases a with
  |some cs=>exact absurd rfl (hne _ _)
  |none=>cases b<;>rfl
@[simp]theorem zCa(t:TypeId)(x k:Operand)(ok:Bool):zaj P s (.lookup t x k ok)=zew P s t (sv s x) (sv s k) ok:=rfl
@[simp]theorem zAA(x:Operand)(f:Nat):zaj P s (.extract x f)=zeY (sv s x) f:=rfl
@[simp]theorem zHv(t:TypeId)(parts:List (Nat×Operand)):zaj P s (.build t ⟨parts⟩)=zev P (sv s) t parts:=rfl
@[simp]theorem zN5(x:Operand)(t:TypeId):zaj P s (.call ⟨.builtin .len,⟨[x]⟩,⟨[t]⟩⟩)=zpw P s t (sv s x):=rfl
@[simp]theorem zPy(x y:Operand)(ts:Array TypeId):zaj P s (.call ⟨.builtin .max,⟨[x,y]⟩,ts⟩)=zFo (sv s x) (sv s y):=rfl
@[simp]theorem zQA(x y:Operand)(ts:Array TypeId):zaj P s (.call ⟨.builtin .min,⟨[x,y]⟩,ts⟩)=zE9 (sv s x) (sv s y):=rfl
@[simp]theorem zDc(x:Operand)(t:TypeId):zc4 P s (.builtin .len) [x] [t]=zpw P s t (sv s x):=rfl
@[simp]theorem zEu(x y:Operand)(ts:List TypeId):zc4 P s (.builtin .max) [x,y] ts=zFo (sv s x) (sv s y):=rfl
@[simp]theorem zCq(x y:Operand)(ts:List TypeId):zc4 P s (.builtin .min) [x,y] ts=zE9 (sv s x) (sv s y):=rfl
end
section
variable (P:Program)(s:St)(t:TypeId)(p q r:Prop)
@[simp]theorem zA7(k k':IntKind)(a b:Int):zcI P .shr t (p,.x (.one (.int k a))) (q,.x (.one (.int k' b)))=(p∧q∧0≤b,.x (.one (.int k (a.fdiv (2 ^ (min b.toNat k.bits)))))):=rfl
@[simp]theorem zAm(k k':IntKind)(a b:Int):zcI P .add t (p,.x (.one (.int k a))) (q,.x (.one (.int k' b)))=(p∧q∧k=k',.x (.one (.int k (k.wrap (a+b))))):=rfl
@[simp]theorem zzH(k k':IntKind)(a b:Int):zcI P .sub t (p,.x (.one (.int k a))) (q,.x (.one (.int k' b)))=(p∧q∧k=k',.x (.one (.int k (k.wrap (a-b))))):=rfl
@[simp]theorem zz7(k k':IntKind)(a b:Int):zcI P .mul t (p,.x (.one (.int k a))) (q,.x (.one (.int k' b)))=(p∧q∧k=k',.x (.one (.int k (k.wrap (a*b))))):=rfl
@[simp]theorem zzF(k k':IntKind)(a b:Int):zcI P .quo t (p,.x (.one (.int k a))) (q,.x (.one (.int k' b)))=(p∧q∧(k=k'∧b≠0),.x (.one (.int k (k.wrap (a.tdiv b))))):=rfl
@[simp]theorem zAV(k k':IntKind)(a b:Int):zcI P .rem t (p,.x (.one (.int k a))) (q,.x (.one (.int k' b)))=(p∧q∧(k=k'∧b≠0),.x (.one (.int k (a.tmod b)))):=rfl
@[simp]theorem zAz(k k':IntKind)(a b:Int):zcI P .and t (p,.x (.one (.int k a))) (q,.x (.one (.int k' b)))=(p∧q∧k=k',.x (.one (.int k (bitsOf .and k a b)))):=rfl
@[simp]theorem zAb(k k':IntKind)(a b:Int):zcI P .xor t (p,.x (.one (.int k a))) (q,.x (.one (.int k' b)))=(p∧q∧k=k',.x (.one (.int k (bitsOf .xor k a b)))):=rfl
@[simp]theorem zAa(k k':IntKind)(a b:Int):zcI P .eql t (p,.x (.one (.int k a))) (q,.x (.one (.int k' b)))=(p∧q∧k=k',.x (.one (.bool (a==b)))):=rfl
@[simp]theorem zzN(k k':IntKind)(a b:Int):zcI P .neq t (p,.x (.one (.int k a))) (q,.x (.one (.int k' b)))=(p∧q∧k=k',.x (.one (.bool (a != b)))):=rfl
@[simp]theorem zz9(k k':IntKind)(a b:Int):zcI P .lss t (p,.x (.one (.int k a))) (q,.x (.one (.int k' b)))=(p∧q∧k=k',.x (.one (.bool (decide (a<b))))):=rfl
@[simp]theorem zAc(k k':IntKind)(a b:Int):zcI P .leq t (p,.x (.one (.int k a))) (q,.x (.one (.int k' b)))=(p∧q∧k=k',.x (.one (.bool (decide (a≤b))))):=rfl
@[simp]theorem zzS(k k':IntKind)(a b:Int):zcI P .gtr t (p,.x (.one (.int k a))) (q,.x (.one (.int k' b)))=(p∧q∧k=k',.x (.one (.bool (decide (b<a))))):=rfl
@[simp]theorem zBE(k k':IntKind)(a b:Int):zcI P .geq t (p,.x (.one (.int k a))) (q,.x (.one (.int k' b)))=(p∧q∧k=k',.x (.one (.bool (decide (b≤a))))):=rfl
@[simp]theorem zA4(a b:List UInt8):zcI P .add t (p,.x (.one (.str a))) (q,.x (.one (.str b)))=(p∧q∧a.length+b.length≤maxLen,.x (.one (.str (a++b)))):=rfl
@[simp]theorem zzs(a b:List UInt8):zcI P .eql t (p,.x (.one (.str a))) (q,.x (.one (.str b)))=(p∧q∧True,.x (.one (.bool (a==b)))):=rfl
@[simp]theorem zz1(a b:List UInt8):zcI P .neq t (p,.x (.one (.str a))) (q,.x (.one (.str b)))=(p∧q∧True,.x (.one (.bool (!(a==b))))):=rfl
@[simp]theorem zBs(a b:List UInt8):zcI P .leq t (p,.x (.one (.str a))) (q,.x (.one (.str b)))=(p∧q∧True,.x (.one (.bool (ltB a b || a==b)))):=rfl
@[simp]theorem zQZ(op:BinOp)(a:CV):zcI P op t (p,.x (.one a)) (q,.x (.one .nil))=zQ4 P op t p q (zhS a):=by
 cases a<;>rfl
@[simp]theorem zTw(b:Bool):zQ4 P .eql t p q (some b)=(p∧q∧za6 P t=true,.x (.one (.bool b))):=rfl
@[simp]theorem zIy:zhS .nil=some true:=rfl
@[simp]theorem zBh(z:Nat):zhS (.empty z)=some false:=rfl
@[simp]theorem zCW(z:Nat)(x:List CV)(r:List (List CV)):zhS (.list z (x::r))=some false:=rfl
@[simp]theorem zza(a b:Bool):zcI P .neq t (p,.x (.one (.bool a))) (q,.x (.one (.bool b)))=(p∧q∧P.underlying t=some .bool,.x (.one (.bool (a != b)))):=rfl
def eqK(p q:Prop)(neg:Bool)(xs ys:List CV):Option (List BK)→Prop×AV
 |some ks=>(p∧q∧zdj ks xs ys,.x (.one (.bool (neg != zjN xs ys))))
 |none=>(False,.dead)
@[simp]theorem zSe(neg:Bool)(xs ys:List CV)(ks:List BK):eqK p q neg xs ys (some ks)=(p∧q∧zdj ks xs ys,.x (.one (.bool (neg != zjN xs ys)))):=rfl
@[simp]theorem zBy(xs ys:List CV):zcI P .eql t (p,.x (.agg xs)) (q,.x (.agg ys))=eqK p q false xs ys (eqT P t):=by
 simp only[zcI,eqK]
 cases eqT P t<;>simp
@[simp]theorem zQu(b:Bool):zuZ .not (p,.x (.one (.bool b)))=(p,.x (.one (.bool (!b)))):=rfl
@[simp]theorem zSp(k k':IntKind)(a b:Int):zFo (p,.x (.one (.int k a))) (q,.x (.one (.int k' b)))=(p∧q,.x (.one (.int k (max a b)))):=rfl
@[simp]theorem zSi(k k':IntKind)(a b:Int):zE9 (p,.x (.one (.int k a))) (q,.x (.one (.int k' b)))=(p∧q,.x (.one (.int k (min a b)))):=rfl
@[simp]theorem zLe(l:List UInt8)(k:IntKind)(n:Int):zn5 P t (p,.x (.one (.str l))) (q,.x (.one (.int k n)))=(p∧q∧zaD P t=true∧0≤n∧n<l.length,.x (.one (.int .u8 (l.getD n.toNat 0).toNat))):=rfl
def zU6(p:Prop):Option XV→Prop×AV
 |some v=>(p,.x v)
 |none=>(False,.dead)
@[simp]theorem zRB(v:XV):zU6 p (some v)=(p,.x v):=rfl
@[simp]theorem zCu(vs:List XV)(i:Nat):zeY (p,.tup vs) i=zU6 p (vs[i]?):=by
 simp only[zeY,zU6]
 cases vs[i]?<;>rfl
def zGW(P:Program)(t:TypeId)(p d:Prop)(n:Int):Option IntKind→Prop×AV
 |some k=>(p∧d,.x (.one (.int k (k.wrap n))))
 |none=>(p∧d∧zaD P t=true∧0≤n∧n<128,.x (.one (.str [UInt8.ofNat n.toNat])))
@[simp]theorem zJJ(d:Prop)(n:Int)(k:IntKind):zGW P t p d n (some k)=(p∧d,.x (.one (.int k (k.wrap n)))):=rfl
@[simp]theorem zD8(t':TypeId)(k:IntKind)(n:Int):zbR P s t t' (p,.x (.one (.int k n)))=zGW P t' p ((P.underlying t).isSome=true) n (zsJ P t'):=by
 simp only[zbR,zGW]
 cases zsJ P t'<;>rfl
def zPo(p a b:Prop):Option (List (List CV))→Prop×AV
 |some xs=>(p∧a∧b∧okB xs,.x (.one (.str (ztx xs))))
 |none=>(False,.dead)
@[simp]theorem zP4(p a b:Prop)(xs:List (List CV)):zPo p a b (some xs)=(p∧a∧b∧okB xs,.x (.one (.str (ztx xs)))):=rfl
theorem ziW(t':TypeId)(v:AV)(h:zV7 v=false∧strOf v=none):zbR P s t t' (p,v)=zPo p (zcT P t=true) (zaD P t'=true) (zbO s 1 v):=by
 unfold zbR zPo
 split
 ·rename_i e;injection e with _ e;rw[e] at h;cases h.1
 ·rename_i e;injection e with _ e;rw[e] at h;cases h.2
 ·rename_i e;injection e with e1 e2;subst e1;subst e2;rfl
@[simp]theorem zy8(t':TypeId)(i:Nat):zbR P s t t' (p,.alias i)=zPo p (zcT P t=true) (zaD P t'=true) (zbO s 1 (.alias i)):=ziW P s t p t' _ ⟨rfl,rfl⟩
@[simp]theorem zBf(t':TypeId)(z:Nat)(xs:List (List CV)):zbR P s t t' (p,.x (.one (.list z xs)))=zPo p (zcT P t=true) (zaD P t'=true) (zbO s 1 (.x (.one (.list z xs)))):=ziW P s t p t' _ ⟨rfl,rfl⟩
def zUs(P:Program)(p:Prop)(t:TypeId)(l:List UInt8):Option (TypeId×Nat)→Prop×AV
 |some (e,_)=>(p∧zaD P t=true∧zj5 P e=true,.own e 1 (zad l))
 |none=>(False,.dead)
@[simp]theorem zRy(P:Program)(p:Prop)(t:TypeId)(l:List UInt8)(e z:Nat):zUs P p t l (some (e,z))=(p∧zaD P t=true∧zj5 P e=true,.own e 1 (zad l)):=rfl
@[simp]theorem zKr(t':TypeId)(l:List UInt8):zez P t t' (p,.x (.one (.str l)))=zUs P p t l (sliceT P t'):=by
 unfold zez zUs
 simp only[strOf]
 cases sliceT P t'<;>rfl
@[simp]theorem zUO(e:Bool)(a b:XV):zuC (p,.x (.one (.bool e))) (q,.x a) (r,.x b)=(p∧(e=true→q)∧(e=false→r),.x (zwR e a b)):=rfl
@[simp]theorem zLm(e a b:Bool):zwR e (.one (.bool a)) (.one (.bool b))=.one (.bool (bif e then a else b)):=rfl
@[simp]theorem zL6(k:TK)(z:Option XV)(cs:List CV):zeD k z p (some cs)=znl k z p cs:=rfl
@[simp]theorem zQ3(z:Option XV)(c:CV)(l:List CV):znl .one z p (c::l)=(p,.x (.one c)):=rfl
@[simp]theorem zP7(x:XV):znl .one (some x) p []=(False,.x x):=rfl
@[simp]theorem zNQ(z:Option XV)(n:Nat)(cs:List CV):znl (.agg n) z p cs=(p∧n≤cs.length,.x (.agg (cs.take n))):=rfl
@[simp]theorem zPk(f:FuncId):zkD (.x (.one (.atom (.func (.func f) ⟨[]⟩ ⟨[]⟩))))=some (f,[]):=rfl
@[simp]theorem zTV(f:FuncId)(caps:List CV):zkD (.x (.one (.clo f caps)))=some (f,caps.map .one):=rfl
@[simp]theorem cells_one:TK.cells .one=some 1:=rfl
@[simp]theorem zRt(n:Nat):TK.cells (.agg n)=some n:=rfl
@[simp]theorem zNo(c:CV):XV.cells (.one c)=[c]:=rfl
@[simp]theorem zLh(cs:List CV):XV.cells (.agg cs)=cs:=rfl
@[simp]theorem zWd(v:XV):RV.av (.x v)=.x v:=rfl
@[simp]theorem zVv(v:List XV):RV.av (.tup v)=.tup v:=rfl
@[simp]theorem zGu{α:Type}(cs:List α)(off:Nat)(vs:List α):zae cs off vs=cs.take off++vs++cs.drop (off+vs.length):=rfl
end
@[congr]theorem zE7{q q':Prop×AV}(h:q=q'):zup q=zup q':=by rw[h]
@[simp]theorem zLc(p:Prop)(cs:List CV):zup (p,.elem cs)=True:=rfl
section
variable (ops:Array Oper)(dst:Option Nat)(ty:TypeId)(pos:String)(after:Array Edge)(g:Option (Nat×Bool))
@[simp ↓]theorem zL9 {x0}:zbN ops (.move x0)=true:=rfl
@[simp ↓]theorem zKs {x0}:zd6 ⟨dst,.move x0,ty,pos,after,g⟩=false:=rfl
@[simp ↓]theorem zMJ {x0 x1 x2}:zbN ops (.pick x0 x1 x2)=true:=rfl
@[simp ↓]theorem zGA {x0}:zbN ops (.alloc x0)=true:=rfl
@[simp ↓]theorem zFK {x0 x1}:zbN ops (.build x0 x1)=true:=rfl
@[simp ↓]theorem zGT {x0 x1}:zd6 ⟨dst,.build x0 x1,ty,pos,after,g⟩=false:=rfl
@[simp ↓]theorem zvl {x0 x1 x2}:zbN ops (.buildSlice x0 x1 x2)=true:=rfl
@[simp ↓]theorem zLw {x0 x1}:zbN ops (.load x0 x1)=true:=rfl
@[simp ↓]theorem zMA {x0 x1}:zd6 ⟨dst,.load x0 x1,ty,pos,after,g⟩=false:=rfl
@[simp ↓]theorem zFI {x0 x1 x2}:zbN ops (.store x0 x1 x2)=false:=rfl
@[simp ↓]theorem zDl {x0 x1 x2}:zdM ⟨dst,.store x0 x1 x2,ty,pos,after,g⟩=g.isNone:=rfl
@[simp ↓]theorem zzf {x0}:zbN ops (.nilCheck x0)=true:=rfl
@[simp ↓]theorem zzc {x0}:zd6 ⟨dst,.nilCheck x0,ty,pos,after,g⟩=false:=rfl
@[simp ↓]theorem zFA {x0 x1 x2 x3 x4}:zbN ops (.binOp x0 x1 x2 x3 x4)=true:=rfl
@[simp ↓]theorem zBv {x0 x1 x2}:zbN ops (.convert x0 x1 x2)=true:=rfl
@[simp ↓]theorem zFu {x0 x1 x2 x3 x4}:zbN ops (.slice x0 x1 x2 x3 x4)=true:=rfl
@[simp ↓]theorem zwT {x0 x1 x2}:zbN ops (.fieldAddr x0 x1 x2)=true:=rfl
@[simp ↓]theorem zxH {x0 x1 x2}:zd6 ⟨dst,.fieldAddr x0 x1 x2,ty,pos,after,g⟩=false:=rfl
@[simp ↓]theorem zxB {x0 x1 x2}:zbN ops (.indexAddr x0 x1 x2)=true:=rfl
@[simp ↓]theorem zHd {x0 x1 x2}:zbN ops (.index x0 x1 x2)=true:=rfl
@[simp ↓]theorem zCQ {x0 x1 x2 x3}:zbN ops (.lookup x0 x1 x2 x3)=true:=rfl
@[simp ↓]theorem zAf {x0 x1}:zbN ops (.extract x0 x1)=true:=rfl
@[simp ↓]theorem zDa {x}:zd6 ⟨dst,.assign x,ty,pos,after,g⟩=false:=rfl
@[simp ↓]theorem zFz {f a ts}:zbN ops (.call ⟨.value f,a,ts⟩)=true:=rfl
@[simp ↓]theorem zNY {a ts}:zbN ops (.call ⟨.builtin .len,a,ts⟩)=true:=rfl
@[simp ↓]theorem zQK {a ts}:zbN ops (.call ⟨.builtin .min,a,ts⟩)=true:=rfl
@[simp ↓]theorem zGl {v}:zbN ops (.assign (.const v))=true:=rfl
end
def zvA(t:Nat):List Oper→Bool
 |[]=>false
 |o::r=>(o.dst==some t&&zfY o.op) || zvA t r
def zrt(b x y:Bool):Bool:=match b with
 |true=>x
 |false=>y
@[congr]theorem zH1{b b' x y:Bool}(h:b=b'):zrt b x y=zrt b' x y:=by rw[h]
@[simp ↓]theorem zLD(x y:Bool):zrt true x y=x:=rfl
@[simp ↓]theorem zJg(x y:Bool):zrt false x y=y:=rfl
section
variable (t d:Nat)(op:Op)(ty:TypeId)(pos:String)(after:Array Edge)(g:Option (Nat×Bool))(r:List Oper)
@[simp ↓]theorem zSZ:zvA t []=false:=rfl
@[simp ↓]theorem zPN:zvA t (⟨none,op,ty,pos,after,g⟩::r)=zvA t r:=by simp[zvA]
@[simp ↓]theorem zRp:zvA t (⟨some d,op,ty,pos,after,g⟩::r)=zrt (zl2 (decide (d=t))) (zfY op || zvA t r) (zvA t r):=by
 by_cases h:d=t
 ·subst h;simp[zvA,zrt]
 ·have:decide (d=t)=false:=by simpa using h
  simp[zvA,zrt,h]
end
@[simp ↓]theorem zRs{l:List Oper}{t:Nat}:zbN ⟨l⟩ (.assign (.tmp t))=!(zvA t l):=by
 show (!((⟨l⟩:Array Oper).toList.any fun o=>o.dst==some t&&zfY o.op))=_
 congr 1
 induction l with
 |nil=>rfl
 |cons o r ih =>
  show ((o.dst==some t&&zfY o.op) || r.any fun o=>o.dst==some t&&zfY o.op)=_
  rw[zvA,←ih]
attribute [simp] zcA zfY RV.flat XV.flat CV.flat zih zjN zdj
section
variable {dst:Option Nat}{ty:TypeId}{pos:String}{after:Array Edge}{g:Option (Nat×Bool)}
@[simp ↓]theorem zIQ {a ts}:znx ⟨dst,.call ⟨.builtin .append,a,ts⟩,ty,pos,after,none⟩=true:=rfl
end
section
variable (P:Program)(n:Nat)(fl:List Bool)(ops:Array Oper)(s:St)(K:St→Prop)
@[congr]theorem zIB{P:Program}{n:Nat}{fl fr:List Bool}{ops:Array Oper}{l:List Oper}{K:St→Prop}{s s':St}(h:s=s'):zkI P n fl ops fr l s K=zkI P n fl ops fr l s' K:=by rw[h]
def zxE:AV→Prop
 |.own _ _ _=>True
 |_=>False
@[simp]theorem zKW(e z:Nat)(xs:List (List CV)):zxE (.own e z xs)=True:=rfl
def zsE:Option (Option Nat×Option TypeId×Nat×List (List CV))→Option Nat
 |some (some i,_)=>some i
 |_=>none
@[simp]theorem zIi(i:Nat)(q:Option TypeId×Nat×List (List CV)):zsE (some (some i,q))=some i:=rfl
@[simp]theorem zId(q:Option TypeId×Nat×List (List CV)):zsE (some (none,q))=none:=rfl
@[simp]theorem zTE(v:AV):takes s v=zsE (zaE s v):=by
 unfold takes
 cases zaE s v with
 |none=>rfl
 |some p=>obtain⟨a,b⟩:=p;cases a<;>rfl
@[simp]theorem zNa(d:Nat)(c:Callee)(x:Operand)(r:List Operand)(ts:Array TypeId) (ty pos after g):zfE s fl ops ⟨some d,.call ⟨c,⟨x::r⟩,ts⟩,ty,pos,after,g⟩=zt2 s d fl ops (takes s (sv s x).2):=rfl
attribute [simp] zbZ zdC zdq zbq zDt
@[simp]theorem zMS(d g:Nat):zt2 s d fl ops (some g)=((g=d∨(s d).zaa=false)∧zem g fl ops.toList=true):=rfl
@[simp]theorem zJr(d:Nat):zt2 s d fl ops none=((s d).zaa=false):=rfl
@[simp]theorem zFB(g:Nat)(fl:List Bool):zem g fl []=true:=by cases fl<;>rfl
@[simp]theorem zC7(g:Nat)(fr:List Bool)(o:Oper)(r:List Oper):zem g (false::fr) (o::r)=zem g fr r:=by simp[zem]
@[simp]theorem zJl(g k:Nat):zjg g (.move (.tmp k))=(k==g):=rfl
@[simp]theorem zIM(g:Nat)(t:TypeId)(x:Operand):zjg g (.load t x)=false:=rfl
@[simp]theorem zvn(g:Nat)(t:TypeId)(x:Operand)(f:Nat):zjg g (.fieldAddr t x f)=false:=rfl
@[simp]theorem zDI(g:Nat)(t:TypeId) (ps):zjg g (.build t ps)=false:=rfl
@[simp]theorem zuY(g:Nat)(t:TypeId) (k) (ps):zjg g (.buildSlice t k ps)=false:=rfl
@[simp]theorem zEZ(g d:Nat)(fr:List Bool)(op:Op) (ty pos after gd) (r:List Oper):zem g (true::fr) (⟨some d,op,ty,pos,after,gd⟩::r)=(!decide (d=g)&&(!zjg g op&&zem g fr r)):=by
 have:((some d:Option Nat) != some g)=!decide (d=g):=by
  by_cases h:d=g
  ·subst h;simp
  ·rw[decide_eq_false h,Bool.not_false,bne_iff_ne];intro e;injection e with e;exact h e
 simp only[zem,Bool.not_true,Bool.false_or]
 show (((some d:Option Nat) != some g)&&!zjg g op&&zem g fr r)=_
 rw[this,Bool.and_assoc]
end
def AMk(P:Program)(g:FuncId)(i off:Nat)[k:zpe (AV→Prop)]:Prop:=∃g',zmG P g g'∧k.val (.cloR g' [.inr (i,off+1000000)])
theorem AMk.of{P:Program}{g g':FuncId}{i off:Nat}{k:AV→Prop}(h:zmG P g g')(hk:k (.cloR g' [.inr (i,off+1000000)])):@AMk _ P g i off ⟨k⟩:=⟨g',h,hk⟩
def mkK(P:Program)(f:Option (FuncId×List XV))(p:Prop)(x:Prop×AV)(k:AV→Prop):Prop:=match f,x with
 |some (g,[]),(q,.ptr i off)=>p∧q∧@AMk _ P g i off ⟨k⟩
 |_,_=>False
@[congr]theorem zOi{P:Program}{f f':Option (FuncId×List XV)}{p p':Prop}{x x':Prop×AV}{k:AV→Prop}(h1:f=f')(h2:p=p')(h3:x=x'):mkK P f p x k=mkK P f' p' x' k:=by rw[h1,h2,h3]
@[simp]theorem zVN(P:Program)(g:FuncId)(p q:Prop)(i off:Nat)(k:AV→Prop):mkK P (some (g,[])) p (q,.ptr i off) k=(p∧q∧@AMk _ P g i off ⟨k⟩):=rfl
theorem zEX{P:Program}{f x:Prop×AV}{k:AV→Prop}:(∃r,zqy P f x r∧k r)=mkK P (zkD f.2) f.1 x k:=by
 apply propext
 unfold zqy mkK AMk
 generalize zkD f.2=q
 obtain⟨px,v⟩:=x
 cases q with
 |none=>exact⟨fun ⟨_,h,_⟩=>h.elim,fun h=>h.elim⟩
 |some gl =>
  obtain⟨g,l⟩:=gl
  cases l with
  |cons a r=>exact⟨fun ⟨_,h,_⟩=>h.elim,fun h=>h.elim⟩
  |nil =>
   cases v with
   |ptr i off=>exact⟨fun ⟨r,⟨hp,hq,g',hm,hr⟩,hk⟩=>⟨hp,hq,g',hm,by subst hr;exact hk⟩,fun ⟨hp,hq,g',hm,hk⟩=>⟨_,⟨hp,hq,g',hm,rfl⟩,hk⟩⟩
   |_=>exact⟨fun ⟨_,h,_⟩=>h.elim,fun h=>h.elim⟩
section
variable (P:Program)(n:Nat)(ops:Array Oper)(s:St)(K:St→Prop)
@[simp]theorem zPV(d:Nat)(f x:Operand)(ts:Array TypeId) (ty pos after g):zrC P n ops ⟨some d,.call ⟨.value f,⟨[x]⟩,ts⟩,ty,pos,after,some g⟩ s K=(d<n∧(s d).zaa=false∧zfP (zcG ops s g) (fun e=>zou e (mkK P (zkD (sv s f).2) (sv s f).1 (sv s x) (fun r=>K (put s d (.cond true r)))) (K (put s d (.cond false (.x (.one (.bool false)))))))):=by
 rw[←zEX]
 show (d<n∧(s d).zaa=false∧(match zcG ops s g with | some true=>_ | some false=>_ | none=>False))=_
 cases zcG ops s g with
 |none=>rfl
 |some e=>cases e<;>rfl
@[congr]theorem zH6{P:Program}{n:Nat}{ops:Array Oper}{o:Oper}{K:St→Prop}{s s':St}(h:s=s'):zrC P n ops o s K=zrC P n ops o s' K:=by rw[h]
@[congr]theorem zI1{P:Program}{n:Nat}{fl fr:List Nat}{ops:Array Oper}{l:List Oper}{K:St→Prop}{s s':St}(h:s=s'):zbJ P n fl ops fr l s K=zbJ P n fl ops fr l s' K:=by rw[h]
variable (fl:List Nat)
@[simp ↓]theorem zPj(fr:List Nat):zbJ P n fl ops fr [] s K=K s:=by simp only[zbJ]
@[simp]theorem zVx(fr:List Nat)(o:Oper)(r:List Oper):zbJ P n fl ops (0::fr) (o::r) s K=zaS P n ops [o] (touch s) (fun s'=>zbJ P n fl ops fr r (touch s') K):=rfl
@[simp]theorem zUj(fr:List Nat)(o:Oper)(r:List Oper):zbJ P n fl ops (1::fr) (o::r) s K=zdo P n ops o (touch s) (fun s'=>zbJ P n fl ops fr r (touch s') K):=rfl
@[simp]theorem zUS(fr:List Nat)(o:Oper)(r:List Oper):zbJ P n fl ops (2::fr) (o::r) s K=zrC P n ops o (touch s) (fun s'=>zbJ P n fl ops fr r (touch s') K):=rfl
@[simp]theorem zVk(fr:List Nat)(o:Oper)(r:List Oper):zbJ P n fl ops (4::fr) (o::r) s K=(znx o=true∧zfE (touch s) (copies fl) ops o∧zaS P n ops [o] (touch s) (fun s'=>zbJ P n fl ops fr r (touch s') K)):=rfl
@[simp]theorem zVf(fr:List Nat)(o:Oper)(r:List Oper):zbJ P n fl ops (5::fr) (o::r) s K=(zug (touch s) o∧zaS P n ops [o] (touch s) (fun s'=>zbJ P n fl ops fr r (touch s') K)):=rfl
@[simp]theorem zVF(fr:List Nat)(o:Oper)(r:List Oper):zbJ P n fl ops (6::fr) (o::r) s K=(zqf o=true∧zbZ P (touch s) o.op∧zdo P n ops o (touch s) (fun s'=>zbJ P n fl ops fr r (touch s') K)):=rfl
@[simp]theorem zUi(fr:List Nat)(o:Oper)(r:List Oper):zbJ P n fl ops (7::fr) (o::r) s K=(zbZ P (touch s) o.op∧zdo P n ops o (touch s) (fun s'=>zbJ P n fl ops fr r (touch s') K)):=rfl
@[simp]theorem zUD(fr:List Nat)(o:Oper)(r:List Oper):zbJ P n fl ops (8::fr) (o::r) s K=(zjn (touch s) o∧zdo P n ops o (touch s) (fun s'=>zbJ P n fl ops fr r (touch s') K)):=rfl
@[simp]theorem zUL(fr:List Nat)(o:Oper)(r:List Oper):zbJ P n fl ops (9::fr) (o::r) s K=(znx o=true∧zfE (touch s) (zfN fl) ops o∧zaS P n ops [o] (touch s) (fun s'=>zbJ P n fl ops fr r (touch s') K)):=rfl
@[simp]theorem zHW:zfN []=[]:=rfl
@[simp]theorem zCs(k:Nat)(l:List Nat):zfN (k::l)=(k==6 || k==7)::zfN l:=rfl
@[simp]theorem zR6(d:Option Nat)(k:Nat) (ty pos after):zjn s ⟨d,.move (.tmp k),ty,pos,after,none⟩=zxE (s k):=by
 unfold zjn zxE
 apply propext
 constructor
 ·rintro⟨k',e,z,xs,h1,_,h3⟩
  obtain rfl:k=k':=by simpa using h1
  simp[h3]
 ·intro h
  cases hs:s k<;>rw[hs] at h<;>first | (exact⟨k,_,_,_,rfl,rfl,hs⟩) | exact h.elim
@[simp]theorem zKG:copies []=[]:=rfl
@[simp]theorem zHm(k:Nat)(l:List Nat):copies (k::l)=(k==6 || k==7 || k==8)::copies l:=rfl
@[simp]theorem zSv(d:Option Nat)(x:Operand) (ty pos after):zqf ⟨d,.move x,ty,pos,after,none⟩=true:=rfl
@[simp]theorem zR4(t:TypeId)(a x:Operand) (ty pos after):zug s ⟨none,.store t a x,ty,pos,after,none⟩=((zbc s (sv s a) (sv s x)).isSome=true):=by simp[zug]
end
end Go.Ab
namespace Go.Ab
open Go Go.RowKit
variable [Amb]
def mk:List (Nat×AV)→St
 |[]=>st0
 |(i,v)::r=>upd (mk r) i v
@[simp]theorem zVZ:mk []=st0:=rfl
@[simp]theorem zrM(i:Nat)(v:AV)(r:List (Nat×AV)):mk ((i,v)::r)=upd (mk r) i v:=rfl
def zbt(a v:AV):Prop:=match v with
 |.own _ _ []=>a=v∨a=.x (.one .nil)
 |v=>a=v
def zxN(s:St)(full:List (Nat×AV)):List (CV ⊕ (Nat×Nat))→Prop
 |[]=>True
 |.inl _::r=>zxN s full r
 |.inr p::r=>mk full p.1=s p.1∧zxN s full r
def zsV(s:St)(full:List (Nat×AV)):AV→Prop
 |.ptr j _=>mk full j=s j
 |.ptr2 j _=>mk full j=s j
 |.eptr j _ _=>mk full j=s j
 |.alias j=>mk full j=s j
 |.view j _ _ _=>mk full j=s j
 |.cloR _ caps=>zxN s full caps
 |.cond _ v=>zsV s full v
 |.link i _ d=>mk full i=s i∧mk full d=s d
 |_=>True
def zh1(s:St)(full:List (Nat×AV)):List (Nat×AV)→Prop
 |[]=>True
 |(i,v)::r=>zbt (s i) v∧zsV s full v∧zh1 s full r
theorem zpa{s:St}{full:List (Nat×AV)}{j:Nat}:∀{caps:List (CV ⊕ (Nat×Nat))},zxN s full caps→caps.any (zcK j)=true→mk full j=s j
 |.inl _::r,h,hr=>zpa (caps:=r) h (by simpa using hr)
 |.inr p::r,h,hr=>by
  simp only[List.any_cons,ztZ,Bool.or_eq_true,beq_iff_eq] at hr
  rcases hr with hr | hr
  ·subst hr;exact h.1
  ·exact zpa (caps:=r) h.2 hr
theorem zwf{s:St}{full:List (Nat×AV)}{j:Nat}:∀{v:AV},zsV s full v→v.refs j=true→mk full j=s j:=by
 intro v
 induction v with
 |ptr i o=>intro h hr;simp at hr;subst hr;exact h
 |ptr2 i o=>intro h hr;simp at hr;subst hr;exact h
 |eptr i o k=>intro h hr;simp at hr;subst hr;exact h
 |alias i=>intro h hr;simp at hr;subst hr;exact h
 |view i lo len wh=>intro h hr;simp at hr;subst hr;exact h
 |cloR f caps=>intro h hr;exact zpa h hr
 |cond e v ih=>intro h hr;simp at hr;exact ih h hr
 |link i o d =>
  intro h hr
  simp at hr
  rcases hr with rfl | rfl
  ·exact h.1
  ·exact h.2
 |_=>intro h hr;cases hr
theorem zh1.at{s:St}{full:List (Nat×AV)}:∀{l:List (Nat×AV)},zh1 s full l→∀i,(mk l i=s i∨mk l i=.dead∨(s i=.x (.one .nil)∧∃e size,mk l i=.own e size []))∧∀j,(mk l i).refs j=true→mk full j=s j
 |[],_,i=>⟨.inr (.inl rfl),fun j h=>by cases h⟩
 |(k,v)::r,h,i=>by
  obtain⟨h1,h2,h3⟩:=h
  have ih:=zh1.at h3 i
  simp only[zrM,zri]
  split
  ·rename_i hk
   subst hk
   refine⟨?_,fun j hj=>zwf h2 hj⟩
   unfold zbt at h1
   split at h1
   ·rcases h1 with h1 | h1
    ·exact .inl h1.symm
    ·exact .inr (.inr ⟨h1,_,_,rfl⟩)
   ·exact .inl h1.symm
  ·exact ih
theorem zyu{s:St}{l:List (Nat×AV)}(h:zh1 s l l):zMk s (mk l):=⟨s,.inl rfl,[],fun i=>(zh1.at h i).1,fun i j hj=>(zh1.at h i).2 j hj⟩
theorem zBQ{s:St}{l:List (Nat×AV)}{i c:Nat}{bs:List Nat}{es:List (XV×XV)}(es':List (XV×XV))(hi:s i=.mp c bs es)(he:zzY s es es')(h:zh1 (zoq s i c bs es') l l):zMk s (mk l):=⟨_,.inr ⟨i,c,bs,es,es',hi,he,rfl⟩,[],fun i=>(zh1.at h i).1,fun i j hj=>(zh1.at h i).2 j hj⟩
attribute [simp] zsV zh1 zxN
section
variable (a:AV)
@[simp]theorem zD4:zbt a .dead=(a=.dead):=rfl
@[simp]theorem zPX(v:XV):zbt a (.x v)=(a=.x v):=rfl
@[simp]theorem zGX(v:List XV):zbt a (.tup v)=(a=.tup v):=rfl
@[simp]theorem zIo(v:List CV):zbt a (.box v)=(a=.box v):=rfl
@[simp]theorem zFg(s o:Nat):zbt a (.ptr s o)=(a=.ptr s o):=rfl
@[simp]theorem zEl(s o:Nat):zbt a (.ptr2 s o)=(a=.ptr2 s o):=rfl
@[simp]theorem zDi(b:Nat)(v:List CV):zbt a (.gbox b v)=(a=.gbox b v):=rfl
@[simp]theorem zEo(b c:Nat)(bs:List Nat)(es:List (XV×XV)):zbt a (.gmap b c bs es)=(a=.gmap b c bs es):=rfl
@[simp]theorem zCI(g:Value)(e z:Nat)(v:List (List CV)):zbt a (.gown g e z v)=(a=.gown g e z v):=rfl
@[simp]theorem zCO(s i o:Nat):zbt a (.eptr s i o)=(a=.eptr s i o):=rfl
@[simp]theorem zDK(v:List CV):zbt a (.elem v)=(a=.elem v):=rfl
@[simp]theorem zBd(s:Nat):zbt a (.alias s)=(a=.alias s):=rfl
@[simp]theorem zEi(s lo len:Nat)(wh:Bool):zbt a (.view s lo len wh)=(a=.view s lo len wh):=rfl
@[simp]theorem zCA(f:FuncId)(caps:List (CV ⊕ (Nat×Nat))):zbt a (.cloR f caps)=(a=.cloR f caps):=rfl
@[simp]theorem zD1(e:Bool)(v:AV):zbt a (.cond e v)=(a=.cond e v):=rfl
@[simp]theorem zDP(i o d:Nat):zbt a (.link i o d)=(a=.link i o d):=rfl
@[simp]theorem zFm(l:List (Nat×Nat)):zbt a (.res l)=(a=.res l):=rfl
@[simp]theorem zFV(e z e' z':Nat)(xs xs':List (List CV)):zbt (.own e z xs) (.own e' z' xs')=(AV.own e z xs=.own e' z' xs'):=by
 unfold zbt
 split
 ·rename_i h;injection h with h1 h2 h3;subst h1;subst h2;subst h3;simp
 ·rfl
@[simp]theorem zKo(c:Nat)(bs:List Nat)(es:List (XV×XV)):zbt a (.mp c bs es)=(a=.mp c bs es):=rfl
@[simp]theorem zHR(e z:Nat)(xs:List (List CV)):zbt (.x (.one .nil)) (.own e z xs)=(xs=[]):=by
 unfold zbt
 split
 ·rename_i h;injection h with h1 h2 h3;subst h3;simp
 ·rename_i h
  have:xs≠[]:=by rintro rfl;exact h _ _ rfl
  simp[this]
end
def zaz{ι:Type}[I:zpe (ι→List (Nat×AV))][ok:zpe (ι→Prop)][μ:zpe (ι→Nat)](m:Nat)(s:St):Prop:=∃y,ok.val y∧μ.val y<m∧zMk s (mk (I.val y))
theorem zaz.of{ι:Type}{I:ι→List (Nat×AV)}{ok:ι→Prop}{μ:ι→Nat}{m:Nat}{s:St}(y:ι)(h1:ok y)(h2:μ y<m)(h3:zh1 s (I y) (I y)):@zaz ι ⟨I⟩ ⟨ok⟩ ⟨μ⟩ m s:=⟨y,h1,h2,zyu h3⟩
theorem zaK.of{body:(Exit→St→Prop)→St→Prop}{Q:Exit→St→Prop}{s:St}(ι:Type)(I:ι→List (Nat×AV))(ok:ι→Prop)(μ:ι→Nat)(x:ι)(hx:ok x)(hs:zh1 s (I x) (I x))
  (h:∀x,ok x→body (zng (@zaz ι ⟨I⟩ ⟨ok⟩ ⟨μ⟩ (μ x)) Q) (mk (I x))):@zaK ⟨body⟩ ⟨Q⟩ s:=⟨ι,fun x=>mk (I x),ok,μ,⟨x,hx,zyu hs⟩,h⟩
def zyc(G e z:Nat):List (Value×List (List CV))→Nat→List (Nat×AV)
 |[],_=>[]
 |x::r,k=>(G+k,.gown x.1 e z x.2)::zyc G e z r (k+1)
theorem zh4{G e z i:Nat}:∀{l:List (Value×List (List CV))} {k:Nat},(∀j,j<l.length→i≠G+(k+j))→mk (zyc G e z l k) i=.dead
 |[],_,_=>rfl
 |x::r,k,h=>by
  simp only[zyc,zrM,zri]
  rw[if_neg (by have:=h 0 (by simp);simpa using this)]
  exact zh4 fun j hj=>by have:=h (j+1) (by simpa using hj);rwa[show k+(j+1)=k+1+j by omega] at this
@[simp]theorem zNw{G e z i k:Nat}{l:List (Value×List (List CV))}(h:i<G):mk (zyc G e z l k) i=.dead:=zh4 fun j _=>by omega
theorem ztS{G e z i k:Nat}{l:List (Value×List (List CV))}(h:G+(k+l.length)≤i):mk (zyc G e z l k) i=.dead:=zh4 fun j hj=>by omega
theorem zb2{G e z:Nat}:∀{l:List (Value×List (List CV))} {k j:Nat} {x:Value×List (List CV)},l[j]?=some x→mk (zyc G e z l k) (G+(k+j))=.gown x.1 e z x.2
 |y::r,k,0,x,h=>by
  simp at h;subst h
  simp[zyc]
 |y::r,k,j+1,x,h=>by
  simp only[zyc,zrM,zri]
  rw[if_neg (by omega),show k+(j+1)=k+1+j by omega]
  exact zb2 (by simpa using h)
theorem zcM{s:St}{full:List (Nat×AV)}{G e z:Nat}:∀{l:List (Value×List (List CV))} {k:Nat},(∀j x,l[j]?=some x→s (G+(k+j))=.gown x.1 e z x.2)→zh1 s full (zyc G e z l k)
 |[],_,_=>trivial
 |x::r,k,h=>⟨by have:=h 0 x rfl;simp only[Nat.add_zero] at this;simp[this],trivial,zcM fun j y hj=>by have:=h (j+1) y (by simpa using hj);rwa[show k+(j+1)=k+1+j by omega] at this⟩
attribute [simp] AV.isG zmt
@[simp]theorem zTr(s:St)(i c:Nat)(bs:List Nat)(es:List (XV×XV))(k:Nat):zoq s i c bs es k=if k=i then .mp c bs es else if (s k).isG || zmt s (s k) then .dead else s k:=rfl
theorem zaK.ofG{body:(Exit→St→Prop)→St→Prop}{Q:Exit→St→Prop}{s:St}(i:Nat){c:Nat}{bs:List Nat}{es:List (XV×XV)}(es':List (XV×XV))(ι:Type)(I:ι→List (Nat×AV))(ok:ι→Prop)(μ:ι→Nat)(x:ι)(hx:ok x)
  (hi:s i=.mp c bs es)(he:zzY s es es')(hs:zh1 (zoq s i c bs es') (I x) (I x))
  (h:∀x,ok x→body (zng (@zaz ι ⟨I⟩ ⟨ok⟩ ⟨μ⟩ (μ x)) Q) (mk (I x))):@zaK ⟨body⟩ ⟨Q⟩ s:=⟨ι,fun x=>mk (I x),ok,μ,⟨x,hx,zBQ es' hi he hs⟩,h⟩
def Ret(P:Program)(rs:List ResultVar)(r:RV)(e:Exit)(s:St):Prop:=(e=.normal∨e=.ret)∧zfZ P s rs [] r
@[congr]theorem zQ8{P:Program}{rs:List ResultVar}{r:RV}{e:Exit}{s s':St}(h:s=s'):Ret P rs r e s=Ret P rs r e s':=by rw[h]
@[congr]theorem zC6{r:RV}{q q':Prop×Option (List XV)}(h:q=q'):zfl r q=zfl r q':=by rw[h]
@[simp]theorem zMB(r:RV)(p:Prop)(x:XV):zfl r (p,some [x])=(p∧okR r (.x x)):=rfl
@[simp]theorem zHo(r:RV)(p:Prop):zfl r (p,some [])=(p∧okR r (.tup [])):=rfl
@[simp]theorem zG1(r:RV)(p:Prop)(x y:XV)(l:List XV):zfl r (p,some (x::y::l))=(p∧okR r (.tup (x::y::l))):=rfl
@[simp]theorem zU5(P:Program)(rs:List ResultVar)(r:RV)(s:St):Ret P rs r .ret s=zfZ P s rs [] r:=by
 simp only[Ret,or_true,true_and]
section
variable (P:Program)(s:St)(outs:List AV)(e z:Nat)(xs:List (List CV))
@[simp]theorem zVo(rs:List ResultVar)(v:XV):zfZ P s rs outs (.x v)=zfl (.x v) (ziI P s rs):=rfl
@[simp]theorem zRb(rs:List ResultVar)(v:List XV):zfZ P s rs outs (.tup v)=zfl (.tup v) (ziI P s rs):=rfl
@[simp]theorem zOV(t:Nat):zfZ P s [.tmp t] outs (.own e z xs)=zDZ s outs e z xs t (s t):=rfl
@[congr]theorem zM8{s:St}{outs:List AV}{e z:Nat}{xs:List (List CV)}{t:Nat}{v v':AV}(h:v=v'):zDZ s outs e z xs t v=zDZ s outs e z xs t v':=by rw[h]
@[simp]theorem zT5(t e' z':Nat)(ys:List (List CV)):zDZ s outs e z xs t (.own e' z' ys)=(e'=e∧z'=z∧xs=ys∧zdt outs t):=rfl
@[simp]theorem zS2(t:Nat):zDZ s outs e z xs t (.x (.one .nil))=(xs=[]):=rfl
@[congr]theorem zIR{outs:List AV}{e z:Nat}{xs:List (List CV)}{i:Nat}{len:Option Nat}{v v':AV}(h:v=v'):zpj outs e z xs i len v=zpj outs e z xs i len v':=by rw[h]
@[simp]theorem zJb(i:Nat):zdt [] i=True:=by simp only[zdt]
@[simp]theorem zDs(o:AV)(r:List AV)(i:Nat):zdt (o::r) (i+1)=zdt r i:=rfl
end
def zQf(P:Program)(rs:List ResultVar)(r:RV)(outs:List AV)(e:Exit)(s:St):Prop:=(e=.normal∨e=.ret)∧zfZ P s rs outs r∧zcj (zd8 s rs r) 0 outs
@[congr]theorem zLK{P:Program}{rs:List ResultVar}{r:RV}{outs:List AV}{e:Exit}{s s':St}(h:s=s'):zQf P rs r outs e s=zQf P rs r outs e s':=by rw[h]
@[simp]theorem zTg(P:Program)(rs:List ResultVar)(r:RV)(outs:List AV)(s:St):zQf P rs r outs .ret s=(zfZ P s rs outs r∧zcj (zd8 s rs r) 0 outs):=by
 simp only[zQf,or_true,true_and]
@[congr]theorem zEN{s s':St}{k:Nat}{outs:List AV}(h:s=s'):zcj s k outs=zcj s' k outs:=by rw[h]
@[simp]theorem zUA(s:St)(rs:List ResultVar)(v:XV):zd8 s rs (.x v)=zas s (zaX s (rs.map zh3)):=rfl
@[simp]theorem zOp(s:St)(rs:List ResultVar)(v:List XV):zd8 s rs (.tup v)=zas s (zaX s (rs.map zh3)):=rfl
@[simp]theorem zRh(s:St)(rs:List ResultVar)(e z:Nat)(xs:List (List CV)):zd8 s rs (.own e z xs)=s:=rfl
@[simp]theorem zOZ(t:Nat):zh3 (.tmp t)=.tmp t:=rfl
@[simp]theorem zK5(t:Nat)(ty:TypeId):zh3 (.cell t ty)=.const (.bool true):=rfl
@[simp]theorem zMa(s:St)(k:Nat):zcj s k []=True:=rfl
@[simp]theorem zDS(s:St)(k:Nat)(r:List AV):zcj s k (.dead::r)=zcj s (k+1) r:=by simp only[zcj,true_and]
@[simp]theorem zMD(s:St)(k:Nat)(cs:List CV)(r:List AV):zcj s k (.box cs::r)=(s k=.box cs∧zcj s (k+1) r):=rfl
@[simp]theorem zI5(s:St)(k b:Nat)(cs:List CV)(r:List AV):zcj s k (.gbox b cs::r)=(s k=.gbox b cs∧zcj s (k+1) r):=rfl
@[simp]theorem zRC(k:Nat):zei [] k=st0:=rfl
@[simp]theorem zJP(x:AV)(r:List AV)(k:Nat):zei (x::r) k=upd (zei r (k+1)) k x:=rfl
theorem zab.of [Hint] {P : Program} {f : FuncId} {fn : Func} {c : Code} {args : List XV} {r : RV} (hm : P.follows .mixedOrders = true) (hf : P.funcs[f]? = some fn) (hname : (fn.name == "runtime.NumGoroutine") = false)
  (hb:fn.body=some c)(hok:codeOk c=true)(hl:args.length≤fn.ntmps)(h:(∀x∈args,x.ok)→awp P fn.ntmps c (Ret P fn.results.toList r) (ziV args 0)):zab P f args r:=zab.mk hm hf hname hb hok hl h
theorem zat.of [Hint] {P : Program} {f : FuncId} {fn : Func} {c : Code} {args : List AV} {r : RV} {outs : List AV} (hm : P.follows .mixedOrders = true) (hf : P.funcs[f]? = some fn) (hname : (fn.name == "runtime.NumGoroutine") = false)
  (hb:fn.body=some c)(hok:codeOk c=true)(hod:zbY (zb5 outs) c=true)(hfit:zaU args outs=true)(hl:args.length≤fn.ntmps)(h:(∀x∈args,x.ok)→awp P fn.ntmps c (zQf P fn.results.toList r outs) (zei args 0)):zat P f args r outs:=
 zat.mk hm hf hname hb hok hod hl hfit (fun _ _ h=>h) h
def zKO(P:Program)(rs:List ResultVar)(lf:List (Nat×Nat))(r:RV)(outs:List AV)(e:Exit)(s:St):Prop:=(e=.normal∨e=.ret)∧zfZ P (zgu s lf) rs outs r∧zcj (zd8 (zgu s lf) rs r) 0 outs
@[congr]theorem zLs{P:Program}{rs:List ResultVar}{lf:List (Nat×Nat)}{r:RV}{outs:List AV}{e:Exit}{s s':St}(h:s=s'):zKO P rs lf r outs e s=zKO P rs lf r outs e s':=by rw[h]
@[simp]theorem zT7(P:Program)(rs:List ResultVar)(lf:List (Nat×Nat))(r:RV)(outs:List AV)(s:St):zKO P rs lf r outs .ret s=(zfZ P (zgu s lf) rs outs r∧zcj (zd8 (zgu s lf) rs r) 0 outs):=by
 simp only[zKO,or_true,true_and]
theorem zat.ofL [Hint] (lk lf : List (Nat × Nat)) {P : Program} {f : FuncId} {fn : Func} {c : Code} {args : List AV} {r : RV} {outs : List AV} (hlk : args.length ≤ 999999) (hm : P.follows .mixedOrders = true) (hf : P.funcs[f]? = some fn) (hname : (fn.name == "runtime.NumGoroutine") = false)
  (hb:fn.body=some c)(hok:codeOk c=true)(hod:zbY (zb5 outs) c=true)(hfit:zaU args outs=true)(hl:args.length≤fn.ntmps)(h:(∀x∈args,x.ok)→awp P fn.ntmps c (zKO P fn.results.toList lf r outs) (zvG (zei args 0) lk)):zat P f args r outs:=
 zat.mkL hm hf hname hb hok hod hl hfit lk lf (.inr hlk) (fun _ _ h=>h) h
theorem zab.ofL [Hint] (lk lf : List (Nat × Nat)) {P : Program} {f : FuncId} {fn : Func} {c : Code} {args : List XV} {r : RV} (hlk : args.length ≤ 999999) (hm : P.follows .mixedOrders = true) (hf : P.funcs[f]? = some fn) (hname : (fn.name == "runtime.NumGoroutine") = false)
  (hb:fn.body=some c)(hok:codeOk c=true)(hl:args.length≤fn.ntmps)(h:(∀x∈args,x.ok)→awp P fn.ntmps c (zKO P fn.results.toList lf r (args.map fun _=>AV.dead)) (zvG (ziV args 0) lk)):zab P f args r:=by
 refine zab.ofM (zat.mkL hm hf hname hb hok (by rw[zgO];exact zg3 c) (by simpa using hl) (zgl args) lk lf (.inr (by simpa using hlk)) (fun _ _ h=>h) (fun hx=>?_))
 rw[←zoE args 0]
 exact h (fun x hm=>hx (.x x) (List.mem_map.2 ⟨x,hm,rfl⟩))
theorem zbL.zBe{w:World}{S:Nat→Prop}{v:Value}(size:Nat)(h:zbL w S (.one .nil) v):zbL w S (.one (.list size [])) v:=by
 cases h
 exact .list0 none 0 size (by decide) (fun _=>rfl)
def leC(c c':CV):Prop:=c=c'∨(c=.nil∧∃size,c'=.list size [])
def leL:List CV→List CV→Prop
 |[],[]=>True
 |c::r,c'::r'=>leC c c'∧leL r r'
 |_,_=>False
theorem leL.at:∀{cs cs':List CV},leL cs cs'→cs.length=cs'.length∧∀(j:Nat) (c':CV),cs'[j]?=some c'→∃c,cs[j]?=some c∧leC c c'
 |[],[],_=>⟨rfl,fun j c' h=>by simp at h⟩
 |c::r,c'::r',h=>by
  obtain⟨h1,h2⟩:=leL.at h.2
  refine⟨by simp[h1],fun j d hj=>?_⟩
  cases j with
  |zero=>simp at hj;subst hj;exact⟨c,rfl,h.1⟩
  |succ j=>simp at hj;exact h2 j d hj
theorem zbL.le{w:World}{S:Nat→Prop}{v:Value}{cs cs':List CV}(h:leL cs cs')(hr:zbL w S (.agg cs) v):zbL w S (.agg cs') v:=by
 obtain⟨us,hv,hl,hx⟩:=hr
 obtain⟨h1,h2⟩:=leL.at h
 refine⟨us,hv,by rw[hl,h1],fun j c' hj=>?_⟩
 obtain⟨c,hc,hle⟩:=h2 j c' hj
 obtain⟨u,hu,hrep⟩:=hx j c hc
 rcases hle with rfl | ⟨rfl,size,rfl⟩
 ·exact⟨u,hu,hrep⟩
 ·exact⟨u,hu,zbL.zBe size hrep⟩
theorem zab.le1{P:Program}{f:FuncId}{cs cs':List CV}{r:RV}(h:leL cs cs')(hc:zab P f [.agg cs'] r):zab P f [.agg cs] r:=by
 refine⟨hc.1,fun w S vs hS ha=>hc.2 w S vs hS ⟨ha.1,fun j x hj=>?_⟩⟩
 cases j with
 |zero =>
  simp at hj;subst hj
  obtain⟨u,hu,hr⟩:=ha.2 0 _ rfl
  exact⟨u,hu,zbL.le h hr⟩
 |succ j=>simp at hj
theorem zsG{P:Program}{E0:Env}{w:World}{args:List AV}{vs:Array Value}{n m:Nat}(hE0:Base E0 w)(hargs:zut w E0 args vs)(hl:args.length≤n) :
  Rel ⟨E0.rd,E0.lent,m,tmV vs⟩ w n (zei args 0) { tmps:=vs++Array.replicate (n-vs.size) undef,defers:=[] } w:=by
 have hsz:vs.size≤n:=Nat.le_trans hargs.size hl
 have htm:∀i,zai { tmps:=vs++Array.replicate (n-vs.size) undef,defers:=[] } i=tmV vs i:=by
  intro i
  simp only[zai,tmV,Array.getD_eq_getD_getElem?,Array.getElem?_append]
  split
  ·rfl
  ·rename_i hi
   rw[Array.getElem?_eq_none (by omega:vs.size≤i),Array.getElem?_replicate]
   split<;>rfl
 have htmf:zai { tmps:=vs++Array.replicate (n-vs.size) undef,defers:=[] }=tmV vs:=funext htm
 have hE:Base ⟨E0.rd,E0.lent,m,tmV vs⟩ w:=⟨hE0.rd,hE0.lent,hE0.apart,hE0.amb,hE0.far⟩
 have hinit:∀i,zei args 0 i=zbo args i:=fun i=>by rw[zkS];simp[zbo]
 have hinitf:zei args 0=zbo args:=funext hinit
 have hcase:∀i,zbo args i=.dead∨∃x,args[i]?=some x∧zbo args i=x∧zjc args x=true∧zaQ w E0.rd E0.lent (zbo args) (tmV vs) x (tmV vs i):=by
  intro i
  cases hx:args[i]? with
  |none=>left;unfold zbo;rw[hx];rfl
  |some x =>
   obtain⟨hbr,hr⟩:=hargs.rep i x hx
   exact .inr ⟨x,rfl,by unfold zbo;rw[hx];rfl,hbr,hr⟩
 have hblk:∀i b,zaf (zbo args i) (tmV vs i)=some b→E0.lent b:=by
  intro i b hbb
  rcases hcase i with h | ⟨x,h1,h3,h4,h5⟩
  ·rw[h] at hbb;cases hbb
  ·rw[h3] at hbb;exact(h5.zbk hbb).1
 rw[hinitf]
 refine⟨rfl,by simp;omega,Kept.refl _ _,hE,fun i=>?_,fun i j b hi hj=>?_,fun i hi=>?_,fun i j hij=>?_,fun j hj=>htm j⟩
 ·rw[htmf]
  rcases hcase i with h | ⟨x,h1,h3,h4,h5⟩
  ·rw[h];trivial
  ·rw[h3]
   refine h5.zjc h4 (fun b hb=>⟨.inl hb,hE0.rd b hb,fun k hk=>?_⟩) (fun b _ hb=>.inr hb)
   exact hE0.apart b hb (hblk k b hk)
 ·rw[htm] at hi hj
  rcases hcase i with h | ⟨x,h1,h3,h4,h5⟩
  ·rw[h] at hi;cases hi
  rcases hcase j with h | ⟨y,k1,k3,k4,k5⟩
  ·rw[h] at hj;cases hj
  rw[h3] at hi
  rw[k3] at hj
  exact hargs.inj i j x y b h1 hi k1 hj
 ·unfold zbo;rw[List.getElem?_eq_none (by omega)];rfl
 ·rcases hcase i with h | ⟨x,h1,h3,h4,h5⟩
  ·rw[h] at hij;cases hij
  ·rw[h3] at hij;exact zn9 h4 hij
def zU9(t:Nat)(g:FuncId)(v:Value)(e:Exit)(s:St):Prop:=(e=.normal∨e=.ret)∧∃k,s t=.cloR g [.inr (k,0)]∧s k=.box [.atom v]
theorem zmG.of [Hint] {P : Program} {f g : FuncId} {fn : Func} {c : Code} {t : Nat} (hm : P.follows .mixedOrders = true) (hf : P.funcs[f]? = some fn) (hname : (fn.name == "runtime.NumGoroutine") = false)
  (hb:fn.body=some c)(hok:codeOk c=true)(hl:1≤fn.ntmps)(hres:fn.results.toList=[.tmp t])(h:∀v:Value,awp P fn.ntmps c (zU9 t g v) (zei [.x (.one (.atom v))] 0)):zmG P f g:=by
 refine⟨⟨fn,hf,hname,by rw[hb];rfl⟩,fun w v hv hamb=>calls_of_wp hf hb ?_⟩
 have hE:Base ⟨fun _=>False,fun _=>False,0,fun _=>undef⟩ w:=⟨fun _ h=>h.elim,fun _ h=>h.elim,fun _ h=>h.elim,hamb,fun _ _ h=>h.elim⟩
 have hargs:zut w ⟨fun _=>False,fun _=>False,0,fun _=>undef⟩ [.x (.one (.atom v))] #[v]:=by
  refine⟨by simp,fun j x hj=>?_,fun i j x y b h1 h3=>?_,fun b h=>h.elim⟩
  ·cases j with
   |succ j=>simp at hj
   |zero =>
    simp at hj
    subst hj
    exact⟨rfl,zaH.atom v hv⟩
  ·cases i with
   |succ i=>simp at h1
   |zero=>simp at h1;subst h1;cases h3
 have hR:=zsG (P:=P) (n:=fn.ntmps) (m:=0) hE hargs (by simpa using hl)
 refine zwX hm c _ _ _ _ _ hok (zg3 c) hR (h v) (fun e s' a' w' hR' hq=>?_)
 obtain⟨he,k,h1,h2⟩:=hq
 have hrun:(results fn a'.tmps).run P w'=.ok (zai a' t) w':=by
  rw[zjr,←Array.toArray_toList (xs:=fn.results),List.mapM_toArray,hres]
  simp[zQQ]
 have ht:=hR'.rep t
 rw[h1] at ht
 obtain⟨us,hv1,hul,hc⟩:=ht
 obtain⟨u,hu,hcu⟩:=hc 0 _ rfl
 rw[zbF,if_pos (by simp)] at hcu
 obtain⟨b,rfl,hb'⟩:=hcu
 have hk:=hR'.rep k
 rw[h2] at hk hb'
 obtain⟨b',arr,ty,hv2,hh,hrl,hO⟩:=hk
 rw[hv2] at hb'
 obtain rfl:b'=b:=by simpa[zaf] using hb'
 have harr:arr=#[v]:=by
  obtain⟨hl1,hc1⟩:=hrl
  obtain⟨u,hu,hr⟩:=hc1 0 _ rfl
  cases hr
  have:arr.size=1:=by simpa using hl1
  apply Array.ext
  ·simpa using this
  ·intro i h3 h4
   have:i=0:=by simp at h4;omega
   subst this
   have:=Array.getElem?_eq_some_iff.1 (by simpa using hu:arr[0]?=some v)
   simpa using this.2
 subst harr
 have hus:us=#[.pointer (some ⟨b',0,none⟩)]:=by
  have:us.size=1:=by simpa using hul
  apply Array.ext
  ·simpa using this
  ·intro i h3 h4
   have:i=0:=by simp at h4;omega
   subst this
   have:=(Array.getElem?_eq_some_iff.1 hu).2
   simpa using this
 subst hus
 have hfin:a'.defers=[]∧∃v',(results fn a'.tmps).run P w'=.ok v' w'∧∃b t,Ending.returned v'=.returned (.func (.func g) #[] #[.pointer (some ⟨b,0,none⟩)])∧w.heap.size≤b∧w'.heap[b]?=some (.cells #[v] t (0,0))∧Below w.heap.size w w':=by
  refine⟨hR'.defers,_,hrun,b',ty,by rw[hv1],?_,hh,hR'.below.below (fun _ h=>h)⟩
  rcases hO with h | h
  ·exact h
  ·exact h.elim
 rcases he with rfl | rfl
 ·exact hfin
 ·exact hfin
end Go.Ab
namespace Go.Ab
open Go Go.RowKit
variable [Amb]
section
variable (P:Program)(n:Nat)(fl:List Nat)(ops:Array Oper)(s:St)(K:St→Prop)
@[simp]theorem zQ6(o:Oper):zue P n ops [o] s K=K s:=rfl
@[simp]theorem zJF(o o2:Oper)(r:List Oper):zue P n ops (o::o2::r) s K=zaS P n ops [o] (touch s) (fun s'=>zue P n ops (o2::r) (touch s') K):=rfl
@[simp]theorem zLJ(fr:List Nat)(o:Oper):zgw P n fl ops fr [o] s K=K s:=by simp only[zgw,List.dropLast,zbJ]
@[simp]theorem zT8(fr:List Nat)(o o2:Oper)(r:List Oper):zgw P n fl ops (1::fr) (o::o2::r) s K=zdo P n ops o (touch s) (fun s'=>zgw P n fl ops fr (o2::r) (touch s') K):=rfl
@[simp]theorem zTi(fr:List Nat)(o o2:Oper)(r:List Oper):zgw P n fl ops (7::fr) (o::o2::r) s K=(zbZ P (touch s) o.op∧zdo P n ops o (touch s) (fun s'=>zgw P n fl ops fr (o2::r) (touch s') K)):=rfl
@[simp]theorem zSB(fr:List Nat)(o o2:Oper)(r:List Oper):zgw P n fl ops (9::fr) (o::o2::r) s K=(znx o=true∧zfE (touch s) (zfN fl) ops o∧zaS P n ops [o] (touch s) (fun s'=>zgw P n fl ops fr (o2::r) (touch s') K)):=rfl
@[simp]theorem zJm(o o2:Oper)(r:List Oper):zkh P n ops (o::o2::r) s K=zkh P n ops (o2::r) s K:=rfl
@[simp]theorem zMZ(d:Nat)(f:Operand)(args:List Operand)(ts:Array TypeId)(ty:TypeId)(pos:String)(after:Array Edge):zkh P n ops [⟨some d,.call ⟨.value f,⟨args⟩,ts⟩,ty,pos,after,none⟩] s K=zsa P n d s (zaZ s f args) K:=by
 show (_∧zsa P n d s (zaZ s f args) K)=_
 simp
end
def zrO(P:Program)(n:Nat)(ops:Array Oper)(o:Oper)(s:St)[k:zpe (St→Prop)]:Prop:=∃j g e z xs,s j=.own e z xs∧n≤g∧(s g).free=true∧∀v,zaS P n ops [o] (zf6 s j g v e z xs) k.val
theorem zrO.of{P:Program}{n:Nat}{ops:Array Oper}{o:Oper}{s:St}{k:St→Prop}(j g:Nat){e z:Nat}{xs:List (List CV)}(h1:s j=.own e z xs)(h2:n≤g)(h3:(s g).free=true)(h:∀v,zaS P n ops [o] (zf6 s j g v e z xs) k):@zrO _ P n ops o s ⟨k⟩:=⟨j,g,e,z,xs,h1,h2,h3,h⟩
@[congr]theorem zHB{P:Program}{n:Nat}{ops:Array Oper}{o:Oper}{s s':St}[k:zpe (St→Prop)](h:s=s'):zrO P n ops o s=zrO P n ops o s':=by rw[h]
section
variable (P:Program)(n:Nat)(ops:Array Oper)(s:St)(K:St→Prop)
@[simp]theorem zKh(t:TypeId)(m k x:Operand)(ty:TypeId)(pos:String)(after:Array Edge):zkh P n ops [⟨none,.mapUpdate t m k x,ty,pos,after,none⟩] s K=@zrO _ P n ops ⟨none,.mapUpdate t m k x,ty,pos,after,none⟩ s ⟨K⟩:=by
 show (_∧_)=_
 simp only[true_and]
 rfl
end
@[simp]theorem zEe(s:St)(j g b c:Nat)(bs:List Nat)(es:List (XV×XV))(k:Nat):zgY s j g b c bs es k=if k=j then .x (.one (.atom (.map (some b)))) else if k=g then .gmap b c bs es else if (s k).refs j then .dead else s k:=rfl
@[simp]theorem zSz(s:St)(g k:Nat):zgf s g k=if k=g then .dead else if (s k).refs g then .dead else s k:=rfl
@[simp]theorem zEH(s:St)(i off g:Nat)(cs:List CV)(x:CV)(k:Nat):zmv s i off g cs x k=if k=i then .box (cs.set off x) else unlink (zgf s g) i off 1 k:=rfl
@[simp]theorem zE2(s:St)(j g e z:Nat)(xs:List (List CV))(k:Nat):zb7 s j g e z xs k=if k=j then .own e z xs else if k=g then .dead else if (s k).refs g then .dead else s k:=rfl
@[simp]theorem zHL(s:St)(i off j g:Nat)(v:Value)(cs:List CV)(e z:Nat)(xs:List (List CV))(k:Nat):zpb s i off j g v cs e z xs k=if k=i then .box (cs.set off (.atom v)) else unlink (zf6 s j g v e z xs) i off 1 k:=rfl
@[simp]theorem zHA(s:St)(i off j g e z:Nat)(cs:List CV)(xs:List (List CV))(k:Nat):zon s i off j g e z cs xs k=if k=LK i off then .link i off j else if k=i then .box (cs.set off .any) else unlink (zb7 s j g e z xs) i off 1 k:=rfl
@[simp]theorem zQh(s:St)(j g:Nat)(v:Value)(e z:Nat)(xs:List (List CV))(k:Nat):zf6 s j g v e z xs k=if k=j then .x (.one (.atom v)) else if k=g then .gown v e z xs else if (s k).refs j then .dead else s k:=rfl
@[congr]theorem zIO{P:Program}{n d:Nat}{s:St}{c c':Prop×Option (FuncId×List (AV×Option Nat))}{K:St→Prop}(h:c=c'):zsa P n d s c K=zsa P n d s c' K:=by rw[h]
@[simp]theorem zR0(P:Program)(n d:Nat)(s:St)(p:Prop)(g:FuncId)(xs:List (AV×Option Nat))(K:St→Prop):zsa P n d s (p,some (g,xs)) K=(p∧d<n∧d<MARK∧zux P d s g xs K (zcE s xs)):=rfl
@[congr]theorem zGG{P:Program}{d:Nat}{s:St}{g:FuncId}{xs:List (AV×Option Nat)}{K:St→Prop}{L L':List (Nat×Nat×Nat)}(h:L=L'):zux P d s g xs K L=zux P d s g xs K L':=by rw[h]
@[simp]theorem zKt(P:Program)(d:Nat)(s:St)(g:FuncId)(xs:List (AV×Option Nat))(K:St→Prop)(l:Nat×Nat×Nat)(L:List (Nat×Nat×Nat)):zux P d s g xs K (l::L)=ztG P d s g xs (l::L) K (zkA s (l::L)) (zkv xs (l::L)):=rfl
@[congr]theorem zIf{P:Program}{d:Nat}{s:St}{g:FuncId}{xs:List (AV×Option Nat)}{L:List (Nat×Nat×Nat)}{K:St→Prop}{gi gi':Option (List (Nat×Nat×List (List CV)))}{lk lk':Option (List (Nat×Nat))}(h1:gi=gi')(h2:lk=lk'):ztG P d s g xs L K gi lk=ztG P d s g xs L K gi' lk':=by rw[h1,h2]
def zg0(P:Program)(g:FuncId)(args:List AV)(gi:List (Nat×Nat×List (List CV)))(lk:List (Nat×Nat))[k:zpe (RV→List AV→List (Nat×Nat×List (List CV))→Prop)]:Prop:=∃r outs go,zfT P g args gi lk r outs go∧k.val r outs go
theorem zg0.of{P:Program}{g:FuncId}{args:List AV}{gi:List (Nat×Nat×List (List CV))}{lk:List (Nat×Nat)}{k:RV→List AV→List (Nat×Nat×List (List CV))→Prop}{r:RV}{outs:List AV}{go:List (Nat×Nat×List (List CV))}(h:zfT P g args gi lk r outs go)(hk:k r outs go):@zg0 _ P g args gi lk ⟨k⟩:=⟨r,outs,go,h,hk⟩
@[simp]theorem zLt(P:Program)(d:Nat)(s:St)(g:FuncId)(xs:List (AV×Option Nat))(L:List (Nat×Nat×Nat))(K:St→Prop)(gi:List (Nat×Nat×List (List CV)))(lk:List (Nat×Nat)):ztG P d s g xs L K (some gi) (some lk)=((slotsOf (xs++zaT s L)).Nodup∧(slotsOf (xs++zaT s L)).contains d=false∧@zg0 _ P g (zhd (xs++zaT s L) xs) gi lk ⟨fun r outs go=>∀g',K (zeN (Ab.put (zaI (zan s xs) (xs++zaT s L) (outs++zaV g' 0 go)) d r.av) L)⟩):=rfl
@[simp]theorem zQb(g:Nat→Value)(k:Nat):zaV g k []=[]:=rfl
@[simp]theorem zKN(g:Nat→Value)(k e z:Nat)(xs:List (List CV))(r:List (Nat×Nat×List (List CV))):zaV g k ((e,z,xs)::r)=.gown (g k) e z xs::zaV g (k+1) r:=rfl
@[simp]theorem zUX(e z:Nat)(xs:List (List CV)):slE (.own e z xs)=some (e,z,xs):=rfl
@[simp]theorem zTh(g:Value)(e z:Nat)(xs:List (List CV)):slE (.gown g e z xs)=some (e,z,xs):=rfl
@[simp]theorem zFS(i off i' o d:Nat):zkp i off (.link i' o d)=if i'=i∧o=off then some d else none:=rfl
def zGE(i off:Nat)(X:List (Nat×Nat×Nat))(b:Bool)(q:Option Nat):List (Nat×Nat×Nat):=match b with
 |true=>match q with
  |some d=>(i,off,d)::X
  |none=>X
 |false=>X
@[simp]theorem zMR(i off d:Nat)(X:List (Nat×Nat×Nat)):zGE i off X true (some d)=(i,off,d)::X:=rfl
@[simp]theorem zHy(s:St)(i off:Nat):zdx s i off []=[]:=rfl
@[simp]theorem zDQ(s:St)(i off:Nat)(c:CV)(r:List CV):zdx s i off (c::r)=zGE i off (zdx s i (off+1) r) c.isAny (zkp i off (s (LK i off))):=by
 simp only[zdx,zGE]
 cases c.isAny with
 |false=>rfl
 |true=>cases zkp i off (s (LK i off))<;>rfl
@[simp]theorem zSw(cs:List CV):AV.zfQ (.box cs)=some cs:=rfl
def zwM(s:St)(i:Nat)(X:List (Nat×Nat×Nat)):Option (List CV)→List (Nat×Nat×Nat)
 |some cs=>zdx s i 0 cs++X
 |none=>X
@[simp]theorem zHP(s:St)(i:Nat)(X:List (Nat×Nat×Nat))(cs:List CV):zwM s i X (some cs)=zdx s i 0 cs++X:=rfl
@[simp]theorem zF2(s:St):zcE s []=[]:=rfl
@[simp]theorem zCh(s:St)(x:AV)(r:List (AV×Option Nat)):zcE s ((x,none)::r)=zcE s r:=rfl
@[simp]theorem zDz(s:St)(x:AV)(i:Nat)(r:List (AV×Option Nat)):zcE s ((x,some i)::r)=zwM s i (zcE s r) x.zfQ:=by
 simp only[zcE,zwM]
 cases x.zfQ<;>rfl
def zHV{α:Type}:Option α→Option (List α)→Option (List α)
 |some x,some l=>some (x::l)
 |_,_=>none
@[simp]theorem zMy{α:Type}(x:α)(l:List α):zHV (some x) (some l)=some (x::l):=rfl
@[simp]theorem zQS(s:St):zkA s []=some []:=rfl
@[simp]theorem zNF(s:St)(l:Nat×Nat×Nat)(r:List (Nat×Nat×Nat)):zkA s (l::r)=zHV (slE (s l.2.2)) (zkA s r):=by
 simp only[zkA]
 cases slE (s l.2.2)<;>cases zkA s r<;>rfl
@[simp]theorem zRv(xs:List (AV×Option Nat)):zkv xs []=some []:=rfl
@[simp]theorem zLf(xs:List (AV×Option Nat))(l:Nat×Nat×Nat)(r:List (Nat×Nat×Nat)):zkv xs (l::r)=zHV ((posOf l.1 xs 0).map fun p=>(p,l.2.1)) (zkv xs r):=by
 simp only[zkv]
 cases posOf l.1 xs 0<;>cases zkv xs r<;>rfl
@[simp]theorem zK6(s:St):zaT s []=[]:=rfl
@[simp]theorem zEQ(s:St)(l:Nat×Nat×Nat)(r:List (Nat×Nat×Nat)):zaT s (l::r)=(s l.2.2,some l.2.2)::zaT s r:=rfl
def zUI(s:St)(i:Nat)(r:List (AV×Option Nat)):Option (List CV)→St
 |some cs=>zan (unlink s i 0 cs.length) r
 |none=>zan s r
@[simp]theorem zQI(s:St)(i:Nat)(r:List (AV×Option Nat))(cs:List CV):zUI s i r (some cs)=zan (unlink s i 0 cs.length) r:=rfl
@[simp]theorem zwK(s:St):zan s []=s:=rfl
@[simp]theorem zu5(s:St)(x:AV)(r:List (AV×Option Nat)):zan s ((x,none)::r)=zan s r:=rfl
@[simp]theorem zvh(s:St)(x:AV)(i:Nat)(r:List (AV×Option Nat)):zan s ((x,some i)::r)=zUI s i r x.zfQ:=by
 simp only[zan,zUI]
 cases x.zfQ<;>rfl
@[simp]theorem zL2(s:St):zeN s []=s:=rfl
@[simp]theorem zFb(s:St)(l:Nat×Nat×Nat)(r:List (Nat×Nat×Nat)):zeN s (l::r)=zeN (upd s (LK l.1 l.2.1) (.link l.1 l.2.1 l.2.2)) r:=rfl
@[simp]theorem zIj(s:St)(i:Nat)(g:Value)(e z:Nat)(xs:List (List CV)):zht s i (.gown g e z xs)=upd (kill s i) i (.gown g e z xs):=zmH s i _
def lkL:List (Nat×Nat)→Nat→List (Nat×Nat×Nat)
 |[],_=>[]
 |p::r,b=>(p.1,p.2,b)::lkL r (b+1)
@[simp]theorem zUP(b:Nat):lkL [] b=[]:=rfl
@[simp]theorem zTS(p:Nat×Nat)(r:List (Nat×Nat))(b:Nat):lkL (p::r) b=(p.1,p.2,b)::lkL r (b+1):=rfl
theorem zwp:∀{lk:List (Nat×Nat)} {b:Nat} {l:Nat×Nat×Nat},l∈lkL lk b→∃k,lk[k]?=some (l.1,l.2.1)∧l.2.2=b+k
 |[],b,l,h=>by simp at h
 |p::r,b,l,h=>by
  rcases List.mem_cons.1 h with rfl | h
  ·exact⟨0,rfl,rfl⟩
  ·obtain⟨k,h1,h2⟩:=zwp h
   exact⟨k+1,by simpa using h1,by omega⟩
def zcw(s:St)(outs:List AV):List (Nat×Nat)→List (Nat×Nat×List (List CV))→List Nat→Prop
 |[],[],_=>True
 |p::r,q::go,ds=>∃d,zkp p.1 p.2 (s (LK p.1 p.2))=some d∧slE (s d)=some q∧outs[p.1]?=some (s p.1)∧(outs[d]?).getD .dead=.dead∧ds.contains d=false∧zcw s outs r go (d::ds)
 |_,_,_=>False
@[congr]theorem zzl{s s':St}{outs:List AV}{lk:List (Nat×Nat)}{go:List (Nat×Nat×List (List CV))}{ds:List Nat}(h:s=s'):zcw s outs lk go ds=zcw s' outs lk go ds:=by rw[h]
@[simp]theorem zCL(s:St)(outs:List AV)(ds:List Nat):zcw s outs [] [] ds=True:=by simp only[zcw]
@[simp]theorem zAl(s:St)(outs:List AV)(ds:List Nat)(p:Nat×Nat)(r:List (Nat×Nat))(q:Nat×Nat×List (List CV))(go:List (Nat×Nat×List (List CV))):zcw s outs (p::r) (q::go) ds=∃d,zkp p.1 p.2 (s (LK p.1 p.2))=some d∧slE (s d)=some q∧outs[p.1]?=some (s p.1)∧(outs[d]?).getD .dead=.dead∧ds.contains d=false∧zcw s outs r go (d::ds):=rfl
theorem zir{s:St}{outs:List AV}:∀{lk:List (Nat×Nat)} {go:List (Nat×Nat×List (List CV))} {ds:List Nat},zcw s outs lk go ds→∃D:List Nat,D.length=lk.length∧go.length=lk.length∧D.Nodup∧(∀d∈D,d∉ds) ∧
  ∀(k i off:Nat),lk[k]?=some (i,off)→∃d q,D[k]?=some d∧go[k]?=some q∧s (LK i off)=.link i off d∧slE (s d)=some q∧outs[i]?=some (s i)∧(outs[d]?).getD .dead=.dead
 |[],[],_,_=>⟨[],rfl,rfl,List.nodup_nil,fun d h=>(by cases h),fun k i off h=>(by simp at h)⟩
 |p::r,q::go,ds,h=>by
  obtain⟨d,h1,h2,h3,h4,h5,h6⟩:=h
  obtain⟨D,k1,k2,k3,k4,k5⟩:=zir h6
  have hd:d∉ds:=by
   intro hm
   have:ds.contains d=true:=by simpa using hm
   rw[this] at h5;cases h5
  refine⟨d::D,by simp[k1],by simp[k2],List.nodup_cons.2 ⟨fun hm=>k4 d hm (by simp),k3⟩,fun x hx=>?_,fun k i off hk=>?_⟩
  ·rcases List.mem_cons.1 hx with rfl | hx
   ·exact hd
   ·exact fun hm=>k4 x hx (by simp[hm])
  ·cases k with
   |zero =>
    simp at hk
    subst hk
    exact⟨d,q,rfl,rfl,zly h1,h2,h3,h4⟩
   |succ k =>
    simp at hk
    obtain⟨d',q',e1,e2,e3⟩:=k5 k i off hk
    exact⟨d',q',by simpa using e1,by simpa using e2,e3⟩
 |[],_::_,_,h=>by simp[zcw] at h
 |_::_,[],_,h=>by simp[zcw] at h
def zRl(P:Program)(rs:List ResultVar)(lk:List (Nat×Nat))(r:RV)(outs:List AV)(go:List (Nat×Nat×List (List CV)))(e:Exit)(s:St):Prop:=(e=.normal∨e=.ret)∧zfZ P s rs outs r∧zcj (zd8 s rs r) 0 outs∧zcw (zd8 s rs r) outs lk go []
@[congr]theorem zKU{P:Program}{rs:List ResultVar}{lk:List (Nat×Nat)}{r:RV}{outs:List AV}{go:List (Nat×Nat×List (List CV))}{e:Exit}{s s':St}(h:s=s'):zRl P rs lk r outs go e s=zRl P rs lk r outs go e s':=by rw[h]
@[simp]theorem zFL(P:Program)(rs:List ResultVar)(lk:List (Nat×Nat))(r:RV)(outs:List AV)(go:List (Nat×Nat×List (List CV)))(s:St):zRl P rs lk r outs go .normal s=(zfZ P s rs outs r∧zcj (zd8 s rs r) 0 outs∧zcw (zd8 s rs r) outs lk go []):=by
 simp only[zRl,true_or,true_and]
theorem zfT.of [Hint] (lkr : List (Nat × Nat)) {P : Program} {f : FuncId} {fn : Func} {c : Code} {args : List AV} {gi go : List (Nat × Nat × List (List CV))} {lk : List (Nat × Nat)} {r : RV} {outs : List AV} (hmk : args.length + gi.length ≤ 999999) (hm : P.follows .mixedOrders = true) (hf : P.funcs[f]? = some fn) (hname : (fn.name == "runtime.NumGoroutine") = false)
  (hb:fn.body=some c)(hok:codeOk c=true)(hod:zbY (zb5 outs) c=true)(hfit:zaU args outs=true)(hl:args.length+gi.length≤fn.ntmps)(hgl:gi.length=lk.length)(hgo:go.length=lk.length)(hrr:∀v,r.blk v=none)
  (h:∀g:Nat→Value,(∀x∈args,x.ok)→awp P fn.ntmps c (zRl P fn.results.toList lk r outs go) (zvG (zeN (zei (args++zaV g 0 gi) 0) (lkL lk args.length)) lkr)):zfT P f args gi lk r outs go:=by
 refine⟨⟨fn,hf,hname,by rw[hb];rfl⟩,hfit,hgl,hgo,hrr,fun w E0 vs g hE0 hargs hlin=>?_⟩
 have hargok:∀x∈args,x.ok:=by
  intro x hx
  obtain⟨j,hj⟩:=List.getElem?_of_mem hx
  exact(hargs.rep j x (by rw[List.getElem?_append_left (List.getElem?_eq_some_iff.1 hj).1];exact hj)).2.ok
 refine calls_of_wp hf hb ?_
 have hlA:(args++zaV g 0 gi).length=args.length+gi.length:=by simp[zit]
 have hR:=zsG (P:=P) (n:=fn.ntmps) (m:=zb5 outs) hE0 hargs (by omega)
 have hsz:vs.size≤fn.ntmps:=Nat.le_trans hargs.size (by omega)
 have htm:∀i,zai { tmps:=vs++Array.replicate (fn.ntmps-vs.size) undef,defers:=[] } i=tmV vs i:=by
  intro i
  simp only[zai,tmV,Array.getD_eq_getD_getElem?,Array.getElem?_append]
  split
  ·rfl
  ·rename_i hi
   rw[Array.getElem?_eq_none (by omega:vs.size≤i),Array.getElem?_replicate]
   split<;>rfl
 have hinit:∀i,zei (args++zaV g 0 gi) 0 i=zbo (args++zaV g 0 gi) i:=fun i=>by rw[zkS];simp[zbo]
 have hfar:∀i,999999≤i→zbo (args++zaV g 0 gi) i=.dead:=fun i hi=>by unfold zbo;rw[List.getElem?_eq_none (by omega)];rfl
 have hRl:=hR.zeN (lkL lk args.length) (fun l hl=>by
  obtain⟨k,h1,h2⟩:=zwp hl
  obtain⟨m1,cs,b,m2,m3,m4,m5⟩:=hlin k l.1 l.2.1 h1
  simp only[hinit,htm,h2]
  exact⟨by rw[hfar _ (by unfold LK;omega)];rfl,m1,cs,b,m2,m3,m4,m5⟩)
 have hRv:=hRl.zvG (by
  have:∀(L:List (Nat×Nat×Nat)) (s:St),(s MARK).free=true→(Ab.zeN s L MARK).free=true:=by
   intro L
   induction L with
   |nil=>intro s h;exact h
   |cons l r ih =>
    intro s h
    refine ih _ ?_
    show (if MARK=LK l.1 l.2.1 then AV.link l.1 l.2.1 l.2.2 else s MARK).free=true
    split
    ·rfl
    ·exact h
  exact this _ _ (by rw[hinit,hfar _ (by unfold MARK;omega)];rfl)) lkr
 refine zwX hm c _ _ _ _ _ hok hod hRv (h g hargok) (fun e s' a' w' hR' hq=>?_)
 obtain⟨he,hg,hout,hlo⟩:=hq
 obtain⟨v,hrun,hR2,hrep,_⟩:=ztq hR' hg
 obtain⟨hfl,hfa⟩:=zbe hfit
 generalize zd8 s' fn.results.toList r=s2 at hR2 hrep hout hlo
 obtain⟨D,hDl,_,hDn,_,hD⟩:=zir hlo
 have hlk0:∀{k:Nat} {q:Nat×Nat×List (List CV)},go[k]?=some q→∃i off,lk[k]?=some (i,off):=by
  intro k q hk
  have:k<lk.length:=by rw[←hgo];exact(List.getElem?_eq_some_iff.1 hk).1
  exact⟨lk[k].1,lk[k].2,List.getElem?_eq_getElem this⟩
 let g':Nat→Value:=fun k=>(s2 (D.getD k 0)).valOf (zai a' (D.getD k 0))
 have hg':∀{k d:Nat},D[k]?=some d→g' k=(s2 d).valOf (zai a' d):=by
  intro k d hk
  show (s2 (D.getD k 0)).valOf (zai a' (D.getD k 0))=_
  rw[List.getD_eq_getElem?_getD,hk];rfl
 have hO1:∀j,j<outs.length→(outs++zaV g' 0 go)[j]?=outs[j]?:=fun j hj=>List.getElem?_append_left hj
 have hO2:∀k,(outs++zaV g' 0 go)[outs.length+k]?=(go[k]?).map fun x=>AV.gown (g' k) x.1 x.2.1 x.2.2:=by
  intro k
  rw[List.getElem?_append_right (by omega),show outs.length+k-outs.length=k by omega,zkV,Nat.zero_add]
 have hpin:∀j,j<zb5 outs→zai a' j=tmV vs j:=fun j hj=>hR2.pin j hj
 have houts:∀(j:Nat) (o:AV),outs[j]?=some o→o≠.dead→s2 j=o∧zai a' j=tmV vs j:=by
  intro j o h1 h3
  have:=zlM hout j o h1 h3
  rw[Nat.zero_add] at this
  exact⟨this,hpin j (zjH h1 h3)⟩
 have hcase:∀(j:Nat) (o:AV),(outs++zaV g' 0 go)[j]?=some o→(j<outs.length∧outs[j]?=some o)∨∃k d q,j=outs.length+k∧D[k]?=some d∧go[k]?=some q∧o=.gown ((s2 d).valOf (zai a' d)) q.1 q.2.1 q.2.2∧slE (s2 d)=some q∧(outs[d]?).getD .dead=.dead:=by
  intro j o hj
  by_cases hlt:j<outs.length
  ·rw[hO1 j hlt] at hj;exact .inl ⟨hlt,hj⟩
  ·obtain⟨k,rfl⟩:∃k,j=outs.length+k:=⟨j-outs.length,by omega⟩
   rw[hO2] at hj
   cases hq:go[k]? with
   |none=>rw[hq] at hj;cases hj
   |some q =>
    rw[hq] at hj
    injection hj with hj
    obtain⟨i,off,hik⟩:=hlk0 hq
    obtain⟨d,q',e1,e2,_,e4,_,e6⟩:=hD k i off hik
    rw[hq] at e2
    injection e2 with e2
    subst e2
    exact .inr ⟨k,d,q,rfl,e1,hq,by rw[←hj,hg' e1],e4,e6⟩
 have hslot:∀(j:Nat) (o:AV) (b:Nat),(outs++zaV g' 0 go)[j]?=some o→zaf o (tmV vs j)=some b→(j<outs.length∧outs[j]?=some o∧o≠.dead∧zaf (s2 j) (zai a' j)=some b)∨∃k d,j=outs.length+k∧D[k]?=some d∧zaf (s2 d) (zai a' d)=some b∧(outs[d]?).getD .dead=.dead:=by
  intro j o b hj hb
  rcases hcase j o hj with⟨h1,h2⟩ | ⟨k,d,q,rfl,h1,h2,rfl,h4,h5⟩
  ·have hne:o≠.dead:=by rintro rfl;cases hb
   obtain⟨h6,h7⟩:=houts j o h2 hne
   exact .inl ⟨h1,h2,hne,by rw[h6,h7];exact hb⟩
  ·refine .inr ⟨k,d,rfl,h1,?_,h5⟩
   rcases zfy h4 with e | ⟨u,e⟩<;>rw[e] at hb ⊢<;>exact hb
 have hinj:∀(i j:Nat) (x y:AV) (b:Nat),(outs++zaV g' 0 go)[i]?=some x→zaf x (tmV vs i)=some b→(outs++zaV g' 0 go)[j]?=some y→zaf y (tmV vs j)=some b→i=j:=by
  intro i j x y b h1 h2 h3 h4
  rcases hslot i x b h1 h2 with⟨k1,k2,k3,k4⟩ | ⟨k,d,rfl,k2,k3,k4⟩<;>rcases hslot j y b h3 h4 with⟨m1,m2,m3,m4⟩ | ⟨k',d',rfl,m2,m3,m4⟩
  ·exact hR2.inj i j b k4 m4
  ·have:=hR2.inj i d' b k4 m3
   subst this
   rw[k2] at m4
   exact absurd m4 k3
  ·have:=hR2.inj d j b k3 m4
   subst this
   rw[m2] at k4
   exact absurd k4 m3
  ·have:=hR2.inj d d' b k3 m3
   subst this
   have hk:k<D.length:=(List.getElem?_eq_some_iff.1 k2).1
   have hk':k'<D.length:=(List.getElem?_eq_some_iff.1 m2).1
   have e1:D[k]=D[k']:=by
    have a1:=(List.getElem?_eq_some_iff.1 k2).2
    have a2:=(List.getElem?_eq_some_iff.1 m2).2
    rw[a1,a2]
   have:=(List.getElem_inj hDn).1 e1
   omega
 have hno:∀(b:Nat),zlL (outs++zaV g' 0 go) vs b→∃t,zaf (s2 t) (zai a' t)=some b:=by
  rintro b ⟨j,o,h1,h3⟩
  rcases hslot j o b h1 h3 with⟨_,_,_,h⟩ | ⟨_,d,_,_,h,_⟩
  ·exact⟨j,h⟩
  ·exact⟨d,h⟩
 have hafter:∀b,Shared ⟨E0.rd,E0.lent,zb5 outs,tmV vs⟩ w.heap.size w' s2 (zai a') b→After w w' E0 (outs++zaV g' 0 go) vs b:=by
  intro b hb
  refine⟨?_,fun ho=>?_⟩
  ·rcases hb.1 with h | h | h
   ·exact .inl h
   ·exact .inr (.inr ⟨h,hb.2.1⟩)
   ·exact .inr (.inl h)
  ·obtain⟨t,h⟩:=hno b ho
   exact hb.2.2 t h
 have hB:∀b,OwnB ⟨E0.rd,E0.lent,zb5 outs,tmV vs⟩ w.heap.size b→E0.lent b∨w.heap.size≤b:=fun b hb=>hb.elim .inr .inl
 have hfin:a'.defers=[]∧∃v,(results fn a'.tmps).run P w'=.ok v w'∧∃v1 g',Ending.returned v=.returned v1∧Kept E0.lent w w'∧zkq w' (After w w' E0 (outs++zaV g' 0 go) vs) r v1 ∧
   (∀(j:Nat) (o:AV),(outs++zaV g' 0 go)[j]?=some o→zaQ w' (After w w' E0 (outs++zaV g' 0 go) vs) (fun b=>E0.lent b∨w.heap.size≤b) zkd zDA o (tmV vs j)) ∧
   (∀(i j:Nat) (x y:AV) (b:Nat),(outs++zaV g' 0 go)[i]?=some x→zaf x (tmV vs i)=some b→(outs++zaV g' 0 go)[j]?=some y→zaf y (tmV vs j)=some b→i=j) ∧
   zoR w' (zbo (outs++zaV g' 0 go)) (tmV vs) lk args.length:=by
  refine⟨hR'.defers,v,hrun,v,g',rfl,hR'.below,hrep.mono (fun b hb=>hb.elim (hafter b) (fun h=>by rw[hrr] at h;cases h)) (fun _ _=>rfl),fun j o h1=>?_,hinj,fun k i off hk=>?_⟩
  ·rcases hcase j o h1 with⟨h2,h3⟩ | ⟨k,d,q,rfl,h2,h3,rfl,h4,h5⟩
   ·by_cases hne:o=.dead
    ·subst hne;trivial
    obtain⟨h4,h5⟩:=houts j o h3 hne
    have hlt:j<args.length:=by rw[hfl];exact h2
    obtain⟨x,hx⟩:∃x,args[j]?=some x:=⟨_,List.getElem?_eq_getElem hlt⟩
    have hff:=hfa j x o hx h3
    have hr:=hR2.rep j
    rw[h4,h5] at hr
    have hbo:o.bare=true:=by cases x<;>cases o<;>first | rfl | (simp[zau] at hff)
    exact hr.bare hbo (fun b hb=>hafter b hb) (fun b _ hb=>hB b hb)
   ·have hr:=hR2.rep d
    rcases zfy h4 with e | ⟨u,e⟩
    ·rw[e] at hr ⊢
     obtain⟨us,ho,hl',hx,hm',hO⟩:=hr
     exact⟨us,ho,hl'.mono (fun b hb=>hafter b hb) (fun _ _=>rfl),hx,hm',fun b hb=>hB b (hO b hb)⟩
    ·rw[e] at hr ⊢
     obtain⟨us,ho,hl',hx,hm',hO⟩:=hr
     exact⟨us,ho,hl'.mono (fun b hb=>hafter b hb) (fun _ _=>rfl),hx,hm',fun b hb=>hB b (hO b hb)⟩
  ·obtain⟨d,q,e1,e2,e3,e4,e5,_⟩:=hD k i off hk
   have hr:=hR2.rep (LK i off)
   rw[e3] at hr
   obtain⟨_,cs,b,m1,m2,m3,m4⟩:=hr
   have hne:s2 i≠.dead:=by intro e;rw[e] at m1;cases m1
   obtain⟨_,h5⟩:=houts i (s2 i) e5 hne
   have hli:i<outs.length:=(List.getElem?_eq_some_iff.1 e5).1
   have ea:zbo (outs++zaV g' 0 go) i=s2 i:=by unfold zbo;rw[hO1 i hli,e5];rfl
   have eg:zbo (outs++zaV g' 0 go) (args.length+k)=.gown (g' k) q.1 q.2.1 q.2.2:=by unfold zbo;rw[hfl,hO2,e2];rfl
   refine⟨by rw[eg];rfl,cs,b,by rw[ea];exact m1,m2,by rw[ea,←h5];exact m3,?_⟩
   rw[eg,m4,←hg' e1];rfl
 rcases he with rfl | rfl
 ·exact hfin
 ·exact hfin
end Go.Ab
