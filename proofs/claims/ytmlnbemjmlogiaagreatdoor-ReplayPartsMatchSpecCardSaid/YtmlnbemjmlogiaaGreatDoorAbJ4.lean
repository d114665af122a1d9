/- Lemmas. -/
import Derived.Test.YtmlnbemjmlogiaaGreatDoorAbJ3b
set_option linter.all false
namespace Go.Ab
open Go Go.RowKit
section
variable [bn]
def LH:aj:=fun _=>.dead
attribute[simp]LH.eq_1
def gG(s:aj)(d:Nat)(v:ae):aj:=fun i=>if i=d then v else s i
attribute[simp]gG.eq_1
def wi(s:aj)(d:Nat):aj:=fun i=>if (s i).refs d then .dead else s i
variable(bg:Nat)
@[simp]def zsU:u' [] bg=LH:=(rfl)
variable(fs:aG)(jG:List aG)
@[simp]def zsV:u' (fs::jG) bg=gG (u' jG (bg+1)) bg (.x fs):=(rfl)
attribute[simp]wi.eq_1
def LI(o r:Bool)(s:aj)(d:Nat)(v:ae):aj:=
 match o,r with
 |false,false=>gG s d v
 |false,true=>gG s d .dead
 |true,false=>gG (wi s d) d v
 |true,true=>gG (wi s d) d .dead
attribute[simp]LI.eq_1 LI.eq_3
@[simp]def put_eq(s:aj)(d:Nat)(v:ae):put s d v=LI (s d).aR (v.refs d) s d v:=by unfold put;cases (s d).aR<;>cases v.refs d<;>funext i<;>simp[LI,gG,wi]
@[simp]def zsW:ae.aR .dead=false:=(rfl)
@[simp]def zsX:ae.aR (.x fs)=false:=(rfl)
@[simp]def zsY:ae.aR (.b2 jG)=false:=(rfl)
variable(cc:Nat)
@[simp]def zsZ:ae.aR (.ptr bg cc)=false:=(rfl)
@[simp]def zta:ae.aR (.et bg cc)=false:=(rfl)
variable(e6:List Nat)(ml:List (aG×aG))
@[simp]def ztb:ae.told (.gL bg cc e6 ml)=true:=(rfl)
variable(dR:Nat)
@[simp]def ztc:ae.refs bg (.gL cc dR e6 ml)=false:=(rfl)
@[simp]def ztd:ae.aR (.fy bg cc dR)=false:=(rfl)
variable(dI:List ag)
@[simp]def zte:ae.aR (.elem dI)=false:=(rfl)
@[simp]def ztf:ae.aR (.alias bg)=false:=(rfl)
variable(eC:Bool)
@[simp]def ztg:ae.aR (.view bg cc dR eC)=false:=(rfl)
@[simp]def zth(f:FuncId)(caps:List (ag⊕(Nat×Nat))):ae.aR (.df f caps)=false:=(rfl)
variable(gt:ae)
@[simp]def zti:ae.aR (.cond eC gt)=false:=(rfl)
@[simp]def ztj:ae.aR (.link bg cc dR)=false:=(rfl)
variable(qg:List (Nat×Nat))
@[simp]def ztk:ae.aR (.res qg)=false:=(rfl)
@[simp]def ztl:ae.refs bg (.res qg)=false:=(rfl)
@[simp]def ztm:ag.isAny (.bool eC)=false:=(rfl)
variable(eb:IntKind)(fC:Int)
@[simp]def ztn:ag.isAny (.int eb fC)=false:=(rfl)
variable(iX:aq)
@[simp]def zto:ag.isAny (.str iX)=false:=(rfl)
@[simp]def ztp:ag.isAny .nil=false:=(rfl)
variable(gE:List (List ag))
@[simp]def ztq:ag.isAny (.list bg gE)=false:=(rfl)
variable(ph:aI)
@[simp]def ztr:ag.isAny (.atom ph)=false:=(rfl)
attribute[simp]ae.aR.eq_1 ae.aR.eq_4 ae.aR.eq_6 ae.aR.eq_5 ae.tight.eq_2 ae.aR.eq_2 ae.aR.eq_3 ae.refs.eq_7 ae.free.eq_1 ag.isAny.eq_1
def so:List ag->Bool
 |[]=>false
 |c::r=>c.isAny ||so r
attribute[simp]so.eq_1 so.eq_2
def H5:∀l:List ag,l.any ag.isAny=so l
 |[]=>rfl
 |c::r=>by simp only[Bs,H5 r,so]
@[simp]def zts(cs:List ag):ae.told (.box cs)=!so cs:=by simp only[ae.told,H5]
@[simp]def ztt:ae.told (.x fs)=true:=(rfl)
@[simp]def ztu:ae.told (.own bg cc gE)=true:=(rfl)
@[simp]def ztv:ae.told (.mp bg e6 ml)=true:=(rfl)
@[simp]def ztw:ae.told .dead=true:=(rfl)
@[simp]def ztx(f:FuncId)(caps:List (ag⊕(Nat×Nat))):ae.told (.df f caps)=true:=(rfl)
@[simp]def zty:ae.told (.et bg cc)=true:=(rfl)
@[simp]def ztz(b:Nat)(v:List ag):ae.told (.cR b v)=!so v:=by simp only[ae.told,H5]
@[simp]def ztA:ae.told (.db ph bg cc gE)=true:=(rfl)
@[simp]def ztB:zp []=true:=(rfl)
variable(zia:Option Nat)(rc:List (ae×Option Nat))
@[simp]def ztC:zp ((gt,zia)::rc)=(gt.told&&zp rc):=(rfl)
@[simp]def ztD(cs:List ag)(off m:Nat):lB cs off m=so ((cs.drop off).take m):=H5 _
attribute[simp]PD.eq_1 ch.eq_1
def Et:Bool->ae->ae
 |true,_=>.dead
 |false,a=>a
@[congr]def ztE{b br:Bool}{a:ae}(h:b=br):Et b a=Et br a:=by rw[h]
attribute[simp]Et.eq_2
def iG(i off m:Nat)(a:ae):ae:=Et (a.ns i off m) a
@[simp]def ztF(s:aj)(i off m j:Nat):dc s i off m j=iG i off m (s j):=by unfold dc iG Et;cases (s j).ns i off m<;>rfl
@[simp]def ztG:iG bg cc dR .dead=.dead:=(rfl)
@[simp]def ztH:iG bg cc dR (.x fs)=.x fs:=(rfl)
@[simp]def ztI:iG bg cc dR (.b2 jG)=.b2 jG:=(rfl)
@[simp]def ztJ:iG bg cc dR (.box dI)=.box dI:=(rfl)
variable(gR iH:Nat)
@[simp]def ztK:iG bg cc dR (.ptr gR iH)=.ptr gR iH:=(rfl)
@[simp]def ztL:iG bg cc dR (.et gR iH)=.et gR iH:=(rfl)
@[simp]def ztM:iG bg cc dR (.cR gR dI)=.cR gR dI:=(rfl)
@[simp]def ztN:iG bg cc dR (.gL gR iH e6 ml)=.gL gR iH e6 ml:=(rfl)
@[simp]def ztO:iG bg cc dR (.db ph gR iH gE)=.db ph gR iH gE:=(rfl)
variable(wK:Nat)
@[simp]def ztP:iG bg cc dR (.fy gR iH wK)=.fy gR iH wK:=(rfl)
@[simp]def ztQ:iG bg cc dR (.elem dI)=.elem dI:=(rfl)
@[simp]def ztR:iG bg cc dR (.own gR iH gE)=.own gR iH gE:=(rfl)
@[simp]def ztS:iG bg cc dR (.mp gR e6 ml)=.mp gR e6 ml:=(rfl)
@[simp]def ztT:iG bg cc dR (.alias gR)=.alias gR:=(rfl)
@[simp]def ztU:iG bg cc dR (.view gR iH wK eC)=.view gR iH wK eC:=(rfl)
@[simp]def ztV(i off m:Nat)(f:FuncId)(caps:List (ag⊕(Nat×Nat))):iG i off m (.df f caps)=.df f caps:=(rfl)
@[simp]def ztW:iG bg cc dR (.res qg)=.res qg:=(rfl)
@[simp]def ztX:iG bg cc dR (.link gR iH wK)=Et (gR==bg&&decide (cc<=iH)&&decide (iH<cc+dR)) (.link gR iH wK):=(rfl)
@[simp]def ztY:iG bg cc dR (.cond eC (.x fs))=.cond eC (.x fs):=(rfl)
@[simp]def ztZ:iG bg cc dR (.cond eC (.alias gR))=.cond eC (.alias gR):=(rfl)
@[simp]def zua:iG bg cc dR (.cond eC (.ptr gR iH))=.cond eC (.ptr gR iH):=(rfl)
@[simp]def zub:iG bg cc dR (.cond eC (.et gR iH))=.cond eC (.et gR iH):=(rfl)
@[simp]def zuc(i off m:Nat)(e:Bool)(f:FuncId)(caps:List (ag⊕(Nat×Nat))):iG i off m (.cond e (.df f caps))=.cond e (.df f caps):=(rfl)
@[simp]def zud:iG bg cc dR (.cond eC (.fy gR iH wK))=.cond eC (.fy gR iH wK):=(rfl)
@[simp]def zue:iG bg cc dR (.cond eC (.elem dI))=.cond eC (.elem dI):=(rfl)
@[simp]def zuf:iG bg cc dR (.cond eC (.b2 jG))=.cond eC (.b2 jG):=(rfl)
variable(B4:Bool)
@[simp]def zug:iG bg cc dR (.cond eC (.view gR iH wK B4))=.cond eC (.view gR iH wK B4):=(rfl)
@[simp]def zuh:ae.refs bg .dead=false:=(rfl)
@[simp]def zui:ae.refs bg (.x fs)=false:=(rfl)
@[simp]def zuj:ae.refs bg (.b2 jG)=false:=(rfl)
@[simp]def zuk:ae.refs bg (.box dI)=false:=(rfl)
@[simp]def zul:ae.refs bg (.cR cc dI)=false:=(rfl)
@[simp]def zum:ae.refs bg (.db ph cc dR gE)=false:=(rfl)
@[simp]def zun:ae.refs bg (.elem dI)=false:=(rfl)
@[simp]def zuo:ae.refs bg (.mp cc e6 ml)=false:=(rfl)
@[simp]def zup:ae.refs bg (.own cc dR gE)=false:=(rfl)
attribute[simp]ae.refs.eq_1 ae.refs.eq_8 ae.refs.eq_2 ae.refs.eq_3 ae.refs.eq_4 ae.refs.eq_5 l5.eq_1 l5.eq_2 ae.refs.eq_6
def qh(t:Nat):ae->ae
 |.box _=>.ptr t 0
 |.own _ _ _=>.alias t
 |.mp _ _ _=>.alias t
 |.cR _ _=>.dead
 |.db _ _ _ _=>.dead
 |.gL _ _ _ _=>.dead
 |a=>a
@[simp]def zib(s:aj)(t:Nat):look s (.tmp t)=qh t (s t):=by simp only[look,qh];cases s t<;>rfl
@[simp]def zuq:qh bg (.x fs)=.x fs:=(rfl)
@[simp]def zur:qh bg (.b2 jG)=.b2 jG:=(rfl)
@[simp]def zus:qh bg (.ptr cc dR)=.ptr cc dR:=(rfl)
@[simp]def zut:qh bg (.et cc dR)=.et cc dR:=(rfl)
@[simp]def zuu:qh bg (.fy cc dR gR)=.fy cc dR gR:=(rfl)
@[simp]def zuv:qh bg (.elem dI)=.elem dI:=(rfl)
@[simp]def zuw:qh bg (.alias cc)=.alias cc:=(rfl)
@[simp]def zux(t:Nat)(f:FuncId)(caps:List (ag⊕(Nat×Nat))):qh t (.df f caps)=.df f caps:=(rfl)
@[simp]def zuy:qh bg (.cond eC gt)=.cond eC gt:=(rfl)
variable(cQ:aj)
@[simp]def zuz:look cQ (.const (.int eb fC))=.x (.one (.int eb fC)):=(rfl)
@[simp]def zuA:look cQ (.const (.bool eC))=.x (.one (.bool eC)):=(rfl)
@[simp]def zuB:look cQ (.const .nilFunc)=.x (.one (.atom .nilFunc)):=(rfl)
@[simp]def zuC(s:aj)(a:Option Addr):look s (.const (.pointer a))=.x (.one (.atom (.pointer a))):=(rfl)
@[simp]def look_nil:look cQ (.const (.slice none 0 0))=.x (.one .nil):=(rfl)
attribute[simp]qh.eq_1 qh.eq_3 qh.eq_2 look.eq_4
def Qy(l:aq):ae:=if l.length<=maxLen then .x (.one (.str l))else .dead
@[simp]def zuD(s:aj)(l:aq):look s (.const (.string ⟨⟨l⟩⟩))=Qy l:=by simp[look,vL,vK,vJ,Qy]
@[simp]def zuE:iO (.x (.agg dI))=(True,.x (.agg dI)):=(rfl)
@[simp]def zuF:iO (.x (.one (.bool eC)))=(True,.x (.one (.bool eC))):=(rfl)
@[simp]def zuG:iO (.x (.one (.int eb fC)))=(True,.x (.one (.int eb fC))):=(rfl)
@[simp]def zuH:iO (.x (.one (.str iX)))=(True,.x (.one (.str iX))):=(rfl)
@[simp]def strip_nil:iO (.x (.one .nil))=(True,.x (.one .nil)):=(rfl)
@[simp]def zuI:iO (.x (.one (.empty bg)))=(True,.x (.one (.empty bg))):=(rfl)
@[simp]def zuJ:iO (.x (.one (.list bg gE)))=(True,.x (.one (.list bg gE))):=(rfl)
@[simp]def zuK:iO (.x (.one (.atom ph)))=(True,.x (.one (.atom ph))):=(rfl)
variable(wL:FuncId)
@[simp]def zuL:iO (.x (.one (.jQ wL dI)))=(True,.x (.one (.jQ wL dI))):=(rfl)
variable(H1:List (List ag))
@[simp]def zuM:iO (.x (.one (.i8 eC B4 gE H1)))=(True,.x (.one (.i8 eC B4 gE H1))):=(rfl)
@[simp]def zuN:iO (.b2 jG)=(True,(.b2 jG)):=(rfl)
@[simp]def zuO:iO (.ptr bg cc)=(True,(.ptr bg cc)):=(rfl)
@[simp]def zuP:iO (.et bg cc)=(True,(.et bg cc)):=(rfl)
@[simp]def zuQ:iO (.fy bg cc dR)=(True,(.fy bg cc dR)):=(rfl)
@[simp]def zuR:iO (.elem dI)=(True,(.elem dI)):=(rfl)
@[simp]def zuS:iO (.alias bg)=(True,(.alias bg)):=(rfl)
@[simp]def zuT(f:FuncId)(caps:List (ag⊕(Nat×Nat))):iO (.df f caps)=(True,.df f caps):=(rfl)
attribute[simp]Qy.eq_1 iO.eq_2 iO.eq_1 aJ.eq_1
def fh(r:Prop×ae)(k:ae->Prop):Prop:=r.1/\k r.2
@[congr]def zuU{r cD:Prop×ae}{k:ae->Prop}(h:r=cD):fh r k=fh cD k:=by rw[h]
variable(dQ:Prop)(B5:ae->Prop)
@[simp]def zuV:fh (dQ,gt) B5=(dQ/\B5 gt):=(rfl)
@[congr]def zuW[Hint]{P:aM}{n:Nat}{c:Code}{Q:Exit->aj->Prop}{s s':aj}(h:s=s'):gh P n c Q s=gh P n c Q s':=by rw[h]
@[congr]def zuX{P:aM}{n:Nat}{ops:Array Oper}{l:List Oper}{K:aj->Prop}{s s':aj}(h:s=s'):bR P n ops l s K=bR P n ops l s' K:=by rw[h]
@[congr]def zuY{P:aM}{n:Nat}{m:Bool}{ops:Array Oper}{l:List Oper}{K:aj->Prop}{s s':aj}(h:s=s'):iY P n m ops l s K=iY P n m ops l s' K:=by rw[h]
@[congr]def zuZ{P:aM}{n:Nat}{o:Oper}{K:aj->Prop}{s s':aj}(h:s=s'):zC P n o s K=zC P n o s' K:=by rw[h]
@[congr]def zva{op:Op}{s s':aj}(h:s=s'):BJ s op=BJ s' op:=by rw[h]
@[congr]def zvb{op:Op}{s s':aj}(h:s=s'):hP s op=hP s' op:=by rw[h]
@[congr]def zvc{P:aM}{n:Nat}{ops:Array Oper}{o:Oper}{K:aj->Prop}{s s':aj}(h:s=s'):gq P n ops o s K=gq P n ops o s' K:=by rw[h]
@[congr]def zvd{P:aM}{n:Nat}{ops:Array Oper}{o:Oper}{K:aj->Prop}{s s':aj}(h:s=s'):dU P n ops o s K=dU P n ops o s' K:=by rw[h]
@[congr]def zve{P:aM}{n:Nat}{op:Op}{d:Option Tmp}{K:aj->Prop}{s s':aj}(h:s=s'):gg P n s op d K=gg P n s' op d K:=by rw[h]
@[congr]def zvf{k:aj->Prop}{Q:Exit->aj->Prop}{e:Exit}{s s':aj}(h:s=s'):u7 k Q e s=u7 k Q e s':=by rw[h]
@[congr]def zvg{i:Nat}{Q:Exit->aj->Prop}{e:Exit}{s s':aj}(h:s=s'):u9 i Q e s=u9 i Q e s':=by rw[h]
class kj(α:Type) where
 val:α
def ck[b:kj ((Exit->aj->Prop)->aj->Prop)][Q:kj (Exit->aj->Prop)](s:aj):Prop:=P6 b.val Q.val s
def dE(s:aj):aj:=s
def Eu{α:Type}(fl:List α)(f:List α->Prop)(X:Prop):Prop:=match fl with
 |b::r=>f (b::r)
 |[]=>X
@[congr]def zvh{α:Type}{fl XJ:List α}{f:List α->Prop}{X:Prop}(h:fl=XJ):Eu fl f X=Eu XJ f X:=by rw[h]
@[simp]def zvi:@Hint.conv P7 bg=false:=(rfl)
variable(nL:List (Nat×List Nat))
@[simp]def zvj:@Hint.conv (wH nL) bg=false:=(rfl)
@[simp]def zvk:@Hint.conv (Lv e6 nL) bg=false:=(rfl)
variable(wM:List Nat)
@[simp]def zvl:@Hint.cut (x7 e6 wM nL) bg=0:=(rfl)
@[simp]def zvm:@Hint.conv (En qg e6 wM nL) bg=e6.contains bg:=(rfl)
@[simp]def zvn:@Hint.nK (En qg e6 wM nL) bg=u_ nL bg:=(rfl)
@[simp]def zvo:@Hint.grow (En qg e6 wM nL) bg=wM.contains bg:=(rfl)
@[simp]def zvp:@Hint.cut (En qg e6 wM nL) bg=HR qg bg:=(rfl)
@[simp]def zvq:@Hint.conv (x7 e6 wM nL) bg=e6.contains bg:=(rfl)
@[simp]def zvr:@Hint.nK (x7 e6 wM nL) bg=u_ nL bg:=(rfl)
@[simp]def zvs:@Hint.grow (x7 e6 wM nL) bg=wM.contains bg:=(rfl)
@[simp]def zvt:@Hint.nK P7 bg=[]:=(rfl)
@[simp]def zvu:@Hint.nK (wH nL) bg=u_ nL bg:=(rfl)
@[simp]def zvv:@Hint.grow P7 bg=false:=(rfl)
@[simp]def zvw:@Hint.grow (wH nL) bg=false:=(rfl)
@[simp]def zvx:@Hint.nK (Lv e6 nL) bg=u_ nL bg:=(rfl)
@[simp]def zvy:@Hint.grow (Lv e6 nL) bg=e6.contains bg:=(rfl)
attribute[simp↓]Eu.eq_2 Eu.eq_1
attribute[simp]HR.eq_1 HR.eq_2 u_.eq_1 u_.eq_2
def m_[a:kj Prop][b:kj Prop]:Prop:=a.val\/b.val
def m_.l{a b:Prop}(h:a):@m_ ⟨a⟩ ⟨b⟩:=.inl h
def m_.r{a b:Prop}(h:b):@m_ ⟨a⟩ ⟨b⟩:=.inr h
def ov(b:Bool)(x y:Prop):Prop:=match b with
 |true=>x
 |false=>y
@[congr]def zvz{b br:Bool}{x y:Prop}(h:b=br):ov b x y=ov br x y:=by rw[h]
attribute[simp↓]ov.eq_1 ov.eq_2
def Ev(b c:Bool):Bool:=match b with
 |true=>true
 |false=>c
@[congr]def zvA{b br c:Bool}(h:b=br):Ev b c=Ev br c:=by rw[h]
attribute[simp↓]Ev.eq_1 Ev.eq_2
def k'(op:Op)(g:Option (Nat×Bool)):Bool:=match op with
 |.call c=>match c.callee with
  |.value (.tmp _)=>g.isNone
  |_=>false
 |.store _ _ _=>g.isNone
 |_=>false
@[simp ↓]def zvB:xV ⟨[]⟩=false:=(rfl)
@[simp ↓]def zvC(o:Oper)(r:List Oper):xV ⟨o::r⟩=Ev (k' o.op o.guard) (xV ⟨r⟩):=by
 obtain⟨dst,op,type,pos,after,guard⟩:=o;have e:∀b c:Bool,Ev b c=(b ||c):=fun b c=>by cases b<;>rfl
 rw[e];unfold xV k' iF;simp only[Bs];congr 1;cases op<;>try rfl
 rename_i c;obtain⟨f,a,ts⟩:=c;cases f<;>rfl
section
variable (g:Option (Nat×Bool))
variable(zic:Array aW)(Qz:Array aP)
@[simp ↓]def zvD:k' (.call ⟨.value (.func bg),zic,Qz⟩) g=false:=(rfl)
@[simp ↓]def zvE(b:Builtin)(a:Array aW)(ts:Array aP):k' (.call ⟨.builtin b,a,ts⟩) g=false:=(rfl)
@[simp ↓]def zvF {cM}:k' (.move cM) g=false:=(rfl)
@[simp ↓]def zvG {cM}:k' (.assign cM) g=false:=(rfl)
@[simp ↓]def zvH {cM cH dl}:k' (.pick cM cH dl) g=false:=(rfl)
@[simp ↓]def zvI {cM}:k' (.alloc cM) g=false:=(rfl)
@[simp ↓]def zvJ {cM cH}:k' (.build cM cH) g=false:=(rfl)
@[simp ↓]def zvK {cM cH dl}:k' (.buildSlice cM cH dl) g=false:=(rfl)
@[simp ↓]def zvL {cM cH}:k' (.load cM cH) g=false:=(rfl)
@[simp ↓]def zvM {cM cH dl}:k' (.store cM cH dl) none=true:=(rfl)
@[simp ↓]def zvN {cM}:k' (.nilCheck cM) g=false:=(rfl)
@[simp ↓]def zvO {cM cH dl ox pm}:k' (.binOp cM cH dl ox pm) g=false:=(rfl)
@[simp ↓]def zvP {cM cH dl}:k' (.unOp cM cH dl) g=false:=(rfl)
@[simp ↓]def zvQ {cM cH dl}:k' (.convert cM cH dl) g=false:=(rfl)
@[simp ↓]def zvR {cM cH dl ox pm}:k' (.slice cM cH dl ox pm) g=false:=(rfl)
@[simp ↓]def zvS {cM cH dl}:k' (.fieldAddr cM cH dl) g=false:=(rfl)
@[simp ↓]def zvT {cM cH dl}:k' (.indexAddr cM cH dl) g=false:=(rfl)
@[simp ↓]def zvU {cM cH dl}:k' (.index cM cH dl) g=false:=(rfl)
@[simp ↓]def zvV {cM cH dl ox}:k' (.lookup cM cH dl ox) g=false:=(rfl)
@[simp ↓]def zvW {cM cH}:k' (.extract cM cH) g=false:=(rfl)
end
attribute[simp]dE.eq_1
section
variable (P:aM)(n:Nat)(Q:Exit->aj->Prop)(s:aj)
attribute[simp↓]gh.eq_1
def Ew(P:aM)(n:Nat)(ops:Array Oper)(l:List Oper)(s:aj)(K:aj->Prop):Prop:=bR P n ops l.dropLast s K
def va(P:aM)(n:Nat)(fl:List Nat)(ops:Array Oper)(b6:List Nat)(l:List Oper)(s:aj)(K:aj->Prop):Prop:=e3 P n fl ops b6 l.dropLast s K
@[congr]def zvX{P:aM}{n:Nat}{ops:Array Oper}{l:List Oper}{K:aj->Prop}{s s':aj}(h:s=s'):Ew P n ops l s K=Ew P n ops l s' K:=by rw[h]
@[congr]def zvY{P:aM}{n:Nat}{fl b6:List Nat}{ops:Array Oper}{l:List Oper}{K:aj->Prop}{s s':aj}(h:s=s'):va P n fl ops b6 l s K=va P n fl ops b6 l s' K:=by rw[h]
def x_(P:aM)(n:Nat)(ops:Array Oper)(l:List Oper)(s:aj)(K:aj->Prop):Prop:=Ek P n ops s K (u6 l)
@[congr]def zvZ{P:aM}{n:Nat}{ops:Array Oper}{K:aj->Prop}{l:List Oper}{s s':aj}(h:s=s'):x_ P n ops l s K=x_ P n ops l s' K:=by rw[h]
@[simp ↓]def zwa[Hint](id:Nat)(l:List Oper):wI P n id ⟨l⟩ false Q s=ov (Hint.grow id) (Ew P n ⟨l⟩ l (dE s) (fun s1=>x_ P n ⟨l⟩ l (dE s1) (Q .normal))) (bR P n ⟨l⟩ l (dE s) (Q .normal)):=by show (match (Hint.grow id:Bool)with|true=>_|false=>_)=_;unfold ov;cases (Hint.grow id:Bool)<;>rfl
@[simp ↓]def zwb[Hint](id:Nat)(l:List Oper):wI P n id ⟨l⟩ true Q s=ov (Hint.grow id) (va P n (Hint.nK id) ⟨l⟩ (Hint.nK id) l (dE s) (fun s1=>x_ P n ⟨l⟩ l (dE s1) (Q .normal))) (Eu (Hint.nK id) (fun fl=>e3 P n fl ⟨l⟩ fl l (dE s) (Q .normal)) (ov (xV ⟨l⟩) (@m_ ⟨zE false ⟨l⟩=true/\iY P n false ⟨l⟩ l (dE s) (Q .normal)⟩ ⟨∃f:List Nat,zE true ⟨l⟩=true/\iY P n true ⟨l⟩ l (dy (dE s) f) (Q .normal)⟩) (iY P n false ⟨l⟩ l (dE s) (Q .normal)))):=by
 show (match (Hint.grow id:Bool)with|true=>_|false=>(match (Hint.nK id:List Nat)with|k::fl=>_|[]=>match xV ⟨l⟩with|true=>_|false=>_))=_;cases (Hint.grow id:Bool)with
 |true=>rfl
 |false=>
 unfold Eu ov m_;dsimp only;cases (Hint.nK id:List Nat)with
 |cons k fl=>rfl
 |nil=>cases xV ⟨l⟩<;>rfl
def b0(n:Nat)(s:aj)[X:kj (aj->Prop)]:Prop:=P8 n s X.val
def b0.done{n:Nat}{s:aj}{X:aj->Prop}(h:X s):@b0 _ n s ⟨X⟩:=fun _ _ _ _ af=>⟨s,af,h⟩
def b0.fold{n:Nat}{s:aj}{X:aj->Prop}(i off:Nat)(h:@b0 _ n (x6 s i off) ⟨X⟩):@b0 _ n s ⟨X⟩:=fun _ _ _ _ af=>h _ _ _ _ (af.x6 i off)
def b0.named{n:Nat}{s:aj}{X:aj->Prop}(i off j g:Nat){e z:Nat}{cs:List ag}{xs:List (List ag)}(ah:s i=.box cs)(al:s (ch i off)=.link i off j)(ac:s j=.own e z xs)(aX:n<=g)(ay:(s g).free=true)
  (h:∀v,@b0 _ n (P' s i off j g v cs e z xs) ⟨X⟩):@b0 _ n s ⟨X⟩:=fun _ _ _ _ af=>h _ _ _ _ _ (af.zhK ah al ac aX ay)
def b0.linked{n:Nat}{s:aj}{X:aj->Prop}(i off j g:Nat){e z:Nat}{v:aI}{cs:List ag}{xs:List (List ag)}(ah:s i=.box cs)(ap:cs[off]?=some (.atom v))(ac:s j=.x (.one (.atom v)))(ay:s g=.db v e z xs)(aw:(s (ch i off)).free=true)
  (h:@b0 _ n (Qb s i off j g e z cs xs) ⟨X⟩):@b0 _ n s ⟨X⟩:=fun _ _ _ _ af=>h _ _ _ _ (af.zhL ah ap ac ay aw)
@[congr]def zwc{n:Nat}{s s':aj}[X:kj (aj->Prop)](h:s=s'):b0 n s=b0 n s':=by rw[h]
def b0.freeze{n:Nat}{s:aj}{X:aj->Prop}(l:List Nat)(h:@b0 _ n (dy s l) ⟨X⟩):@b0 _ n s ⟨X⟩:=fun _ _ _ _ af=>h _ _ _ _ (uI l s af)
def b0.Qd{n:Nat}{s:aj}{X:aj->Prop}(i off g:Nat){e z:Nat}{v:aI}{cs:List ag}{xs:List (List ag)}(ah:s i=.box cs)(ap:cs[off]?=some (.atom v))(ay:s g=.db v e z xs)
  (h:@b0 _ n (HT s i off g cs (.list z xs)) ⟨X⟩):@b0 _ n s ⟨X⟩:=fun _ _ _ _ af=>h _ _ _ _ (af.Qd ah ap ay)
def b0.GX{n:Nat}{s:aj}{X:aj->Prop}(j g:Nat){c:Nat}{bs:List Nat}{es:List (aG×aG)}(ac:s j=.mp c bs es)(aX:n<=g)(ay:(s g).free=true)
  (h:∀b,@b0 _ n (GW s j g b c bs es) ⟨X⟩):@b0 _ n s ⟨X⟩:=fun _ _ _ _ af=>let ⟨_,bQ⟩:=af.GX ac aX ay;h _ _ _ _ _ bQ
def b0.HU{n:Nat}{s:aj}{X:aj->Prop}(i off g:Nat){b c:Nat}{cs:List ag}{bs:List Nat}{es:List (aG×aG)}(gz gT:Bool)(bp vs:List (List ag))(ah:s i=.box cs)(ap:cs[off]?=some (.atom (.map (some b))))(ay:s g=.gL b c bs es)
  (he:es=hR gz gT bp vs)(cX:vs.length=bp.length)(ak:gz=true\/∀k∈bp,k.length=1)(aF:gT=true\/∀k∈vs,k.length=1)(h:@b0 _ n (HT s i off g cs (.i8 gz gT bp vs)) ⟨X⟩):@b0 _ n s ⟨X⟩:=fun _ _ _ _ af=>h _ _ _ _ (af.HU ah ap ay he cX ak aF)
def Ex(k:Nat)(A:Prop)(B:Nat->Prop):Prop:=match k with
 |0=>A
 |k+1=>B (k+1)
@[congr]def zwd{k cq:Nat}{A:Prop}{B:Nat->Prop}(h:k=cq):Ex k A B=Ex cq A B:=by rw[h]
attribute[simp]Ex.eq_1 Ex.eq_2
@[simp ↓]def zwe(ops:Array Oper)(l:List Oper)(K:aj->Prop):qe P n ops 0 l s K=@b0 _ n (dE s) ⟨fun s2=>bR P n ops l s2 K⟩:=by unfold qe;rfl
def XK(b:Bool):Bool:=b
attribute[simp]XK.eq_1
@[congr]def zwf{b br:Bool}{A B:Prop}(h:b=br):BW b A B=BW br A B:=by rw[h]
variable(oy:Prop)
@[simp ↓]def zwg:BW true dQ oy=@m_ ⟨dQ⟩ ⟨oy⟩:=(rfl)
attribute[simp↓]BW.eq_2
@[simp ↓]def zwh(ops:Array Oper)(k:Nat)(o:Oper)(l:List Oper)(K:aj->Prop):qe P n ops (k+1) (o::l) s K=BW (XK (iF o)) (bR P n ops [o] (dE s) (fun s1=>qe P n ops k l s1 K)) (HS P n (dE s) o (fun s1=>qe P n ops k l s1 K)):=by rw[qe];rfl
def Ey(P:aM)(g:FuncId)(xs:List aG)(n d:Nat)(t:aj)[K:kj (aj->Prop)]:Prop:=∃(L:aI->List ag) (e z:Nat) (aV:List (List ag)) (gs:Nat),A_ P g xs L e z aV/\n<=gs/\(t gs).free=true/\∀v,K.val (Lw t d gs (L v) v e z aV)
def Ey.of{P:aM}{g:FuncId}{xs:List aG}{n d:Nat}{t:aj}{K:aj->Prop}{L:aI->List ag}{e z:Nat}{aV:List (List ag)}(gs:Nat)(h:A_ P g xs L e z aV)(aX:n<=gs)(aw:(t gs).free=true)
  (ak:∀v,K (gG (put t d (.x (.agg (L v)))) gs (.db v e z aV))):@Ey _ P g xs n d t ⟨K⟩:=⟨L,e,z,aV,gs,h,aX,aw,ak⟩
@[congr]def zwi{P:aM}{g:FuncId}{xs ea:List aG}{n d:Nat}{t t':aj}[K:kj (aj->Prop)](h:xs=ea)(ab:t=t'):Ey P g xs n d t=Ey P g ea n d t':=by rw[h,ab]
@[congr]def zwj{P:aM}{n:Nat}{c c':Prop×Option (FuncId×List aG)}{t:aj}{d:Nat}{K:aj->Prop}(h:c=c'):Eo P n c t d K=Eo P n c' t d K:=by rw[h]
variable(lP:aM)(tM:aj->Prop)
@[simp]def zwk:Eo lP bg (dQ,some (wL,jG)) cQ cc tM=(dQ/\@Ey _ lP wL jG bg cc cQ ⟨tM⟩):=(rfl)
@[simp]def zwl(P:aM)(n:Nat)(s:aj)(d:Nat)(f:aW)(args:List aW)(ts:Array aP)(ty:aP)(pos:String)(after:Array Edge)(g:Option (Nat×Bool))(K:aj->Prop) :
  HS P n s ⟨some d,.call ⟨.value f,⟨args⟩,ts⟩,ty,pos,after,g⟩ K=(d<n/\Eo P n (callee s f args) (dy s (de s args)) d K):=rfl
@[simp ↓]def zwm[Hint](id:Nat)(l:List Oper)(ec:Bool):gh P n (.region id ⟨l⟩ ec) Q s=ov (Hint.conv id) (Ex (Hint.cut id) (@b0 _ n (dE s) ⟨wI P n id ⟨l⟩ ec Q⟩) (fun k=>qe P n ⟨l⟩ k l (dE s) (Q .normal))) (wI P n id ⟨l⟩ ec Q s):=by
 show (match (Hint.conv id:Bool)with|true=>Xz P n id ⟨l⟩ ec Q s (Hint.cut id)|false=>_)=_;unfold ov Ex;cases (Hint.conv id:Bool)with
 |false=>rfl
 |true=>cases (Hint.cut id:Nat)<;>rfl
@[simp ↓]def zwn[Hint](c:Code):gh P n (.loop c) Q s=@ck ⟨gh P n c⟩ ⟨Q⟩ s:=(rfl)
@[simp ↓]def zwo:u7 tM Q (.exit bg) s=Q (.exit bg) s:=(rfl)
@[simp ↓]def zwp:u7 tM Q .ret s=Q .ret s:=(rfl)
@[simp ↓]def zwq:u9 bg Q .normal s=Q .normal s:=(rfl)
@[simp ↓]def zwr:u9 bg Q .ret s=Q .ret s:=(rfl)
attribute[simp↓]gh.eq_4 gh.eq_6 gh.eq_8 gh.eq_9 gh.eq_5 u7.eq_1 u9.eq_1
end
@[congr]def zws{c c':Prop×ae}{A B:Prop}(h:c=c'):wG c A B=wG c' A B:=by rw[h]
@[simp high]def zwt(p A B:Prop):wG (p,.x (.one (.bool true))) A B=(p/\A):=by simp[wG]
@[simp high]def zwu(p A B:Prop):wG (p,.x (.one (.bool false))) A B=(p/\B):=by simp[wG]
attribute[simp]wG.eq_1
def aH(P:aM)(g:FuncId)(xs:List aG)[k:kj (bH->Prop)][m:kj Prop][N:kj (List aG->List aG->bH->Prop)]:Prop:=(∃r,az P g xs r/\k.val r)\/(∃ea r,az P g ea r/\N.val xs ea r)\/m.val
def aH.of{P:aM}{g:FuncId}{xs:List aG}{k:bH->Prop}{m:Prop}{N:List aG->List aG->bH->Prop}{r:bH}(h:az P g xs r)(ak:k r):@aH _ P g xs ⟨k⟩ ⟨m⟩ ⟨N⟩:=.inl ⟨r,h,ak⟩
def aH.zid{P:aM}{g:FuncId}{xs:List aG}{k:bH->Prop}{m:Prop}{N:List aG->List aG->bH->Prop}(h:m):@aH _ P g xs ⟨k⟩ ⟨m⟩ ⟨N⟩:=.inr (.inr h)
def aH.named{P:aM}{n:Nat}{s:aj}{g:FuncId}{xs ea:List aG}{k Hq:bH->Prop}{m:Prop}{r:bH}(h:az P g ea r)(aX:xN n s xs ea)(aw:r.flat=true)(ak:Hq r):@aH _ P g xs ⟨k⟩ ⟨m⟩ ⟨fun xs ea r=>xN n s xs ea/\r.flat=true/\Hq r⟩:=.inr (.inl ⟨ea,r,h,aX,aw,ak⟩)
@[congr]def zwv{P:aM}{c c':Prop×Option (FuncId×List aG)}{k:bH->Prop}{m:Prop}(h:c=c'):qV P c k m=qV P c' k m:=by rw[h]
@[simp]def zww(P:aM)(g:FuncId)(p:Prop)(xs:List aG)(k:bH->Prop)(m:Prop):qV P (p,some (g,xs)) k m=(p/\@aH _ P g xs ⟨fun r=>r.flat=true/\k r⟩ ⟨m⟩ ⟨fun _ _ _=>False⟩):=by simp[qV,aH]
variable(lP:aM)(H6:bH->Prop)(oy:Prop)
@[simp]def zwx:qV lP (dQ,none) H6 oy=oy:=(rfl)
def x'(s:aj):Prop×ae->Bool
 |(_,.ptr i _)=>!(s i).told
 |_=>false
@[congr]def zwy{s:aj}{q eI:Prop×ae}(h:q=eI):x' s q=x' s eI:=by rw[h]
@[simp]def zwz:x' cQ (dQ,.x fs)=false:=(rfl)
@[simp]def zwA:x' cQ (dQ,.alias bg)=false:=(rfl)
@[simp]def zwB(s:aj)(p:Prop)(f:FuncId)(caps:List (ag⊕(Nat×Nat))):x' s (p,.df f caps)=false:=(rfl)
attribute[simp]x'.eq_1
@[simp]def zie(s:aj)(x:aW):Kg s x=x' s (aJ s x):=by
 unfold Kg x';cases aJ s x with
 |mk p v=>cases v<;>rfl
def Ez(s:aj):List aW->Bool
 |[]=>false
 |x::r=>x' s (aJ s x) ||Ez s r
attribute[simp]Ez.eq_1 Ez.eq_2
def XL(s:aj):∀l:List aW,l.any (Kg s)=Ez s l
 |[]=>rfl
 |x::r=>by simp only[Bs,XL s r,Ez,zie]
def B6(s:aj)(f:aW)(args:List aW):Bool->Prop×Option (FuncId×List aG)
 |true=>match aJ s f,tw s args with
  |(p,a),(q,some xs)=>match jX a with
   |some (g,caps)=>(p/\q,some (g,xs++caps))
   |none=>(False,none)
  |_,_=>(False,none)
 |false=>(False,none)
@[congr]def zwC{s:aj}{f:aW}{args:List aW}{b br:Bool}(h:b=br):B6 s f args b=B6 s f args br:=by rw[h]
attribute[simp]B6.eq_2
@[simp]def zwD(s:aj)(f:aW)(args:List aW):xu s f args=B6 s f args (Ez s args):=by unfold xu B6;rw[XL];rfl
@[congr]def zwE{P:aM}{c c':Prop×Option (FuncId×List aG)}{k:bH->Prop}{m:Prop}{N:List aG->List aG->bH->Prop}(h:c=c'):nC P c k m N=nC P c' k m N:=by rw[h]
@[simp]def zwF(P:aM)(g:FuncId)(p:Prop)(xs:List aG)(k:bH->Prop)(m:Prop)(N:List aG->List aG->bH->Prop):nC P (p,some (g,xs)) k m N=(p/\@aH _ P g xs ⟨k⟩ ⟨m⟩ ⟨N⟩):=(rfl)
@[simp]def zwG(P:aM)(p:Prop)(k:bH->Prop)(m:Prop)(N:List aG->List aG->bH->Prop):nC P (p,none) k m N=m:=(rfl)
def EA(P:aM)(c:Prop×Option (FuncId×List aG))(k:bH->Prop):Prop:=
 match c with
 |(p,some (g,xs))=>p/\@aH _ P g xs ⟨k⟩ ⟨False⟩ ⟨fun _ _ _=>False⟩
 |_=>False
@[congr]def zwH{P:aM}{c c':Prop×Option (FuncId×List aG)}{k:bH->Prop}(h:c=c'):EA P c k=EA P c' k:=by rw[h]
attribute[simp]EA.eq_1
def zif(P:aM)(s:aj)(f:aW)(args:List aW)(k:bH->Prop):(∃r,p5 P s f args r/\k r)=EA P (callee s f args) k:=by
 unfold p5 EA aH;apply propext;constructor
 ·rintro⟨r,h,ak⟩;split at h
  ·rename_i p g xs e;rw[e];exact⟨h.1,.inl ⟨r,h.2,ak⟩⟩
  ·exact h.elim
 ·intro h;split at h
  ·rename_i p g xs e;obtain⟨am,⟨r,ap,ak⟩|⟨_,_,_,h⟩|h⟩:=h
   ·exact⟨r,by rw[e];exact⟨am,ap⟩,ak⟩
   ·exact h.elim
   ·exact h.elim
  ·exact h.elim
def c6(P:aM)(g:FuncId)(args:List ae)[k:kj (bH->List ae->Prop)]:Prop:=∃r outs,cx P g args r outs/\k.val r outs
def c6.of{P:aM}{g:FuncId}{args:List ae}{k:bH->List ae->Prop}{r:bH}{outs:List ae}(h:cx P g args r outs)(ak:k r outs):@c6 _ P g args ⟨k⟩:=⟨r,outs,h,ak⟩
@[congr]def zwI{P:aM}{s:aj}{c c':Prop×Option (FuncId×List (ae×Option Nat))}{k:List (ae×Option Nat)->bH->List ae->Prop}(h:c=c'):jY P s c k=jY P s c' k:=by rw[h]
@[congr]def zwJ{P:aM}{g:FuncId}{xs:List (ae×Option Nat)}{k:List (ae×Option Nat)->bH->List ae->Prop}{q eI:Option (Nat×List ag)}(h:q=eI):G7 P g xs k q=G7 P g xs k eI:=by rw[h]
def LJ(P:aM)(g:FuncId)(args:Nat->List ae)[k:kj (bH->List ae->List ag->Prop)]:Prop:=∃r outs co,(∀b,cx P g (args b) r (outs++[.cR b co]))/\k.val r outs co
def LJ.of{P:aM}{g:FuncId}{args:Nat->List ae}{k:bH->List ae->List ag->Prop}{r:bH}{outs:List ae}{co:List ag}(h:∀b,cx P g (args b) r (outs++[.cR b co]))(ak:k r outs co):@LJ _ P g args ⟨k⟩:=⟨r,outs,co,h,ak⟩
@[simp]def zwK(P:aM)(g:FuncId)(xs:List (ae×Option Nat))(k:List (ae×Option Nat)->bH->List ae->Prop):G7 P g xs k none=@c6 _ P g (hN xs xs) ⟨fun r outs=>k xs r outs⟩:=(rfl)
@[simp]def zwL(P:aM)(g:FuncId)(xs:List (ae×Option Nat))(k:List (ae×Option Nat)->bH->List ae->Prop)(i:Nat)(cs:List ag):G7 P g xs k (some (i,cs))=((ae.box cs).told=true/\(ej (xs++[(.box cs,some i)])).Nodup/\@LJ _ P g (fun b=>hN (xs++[(.box cs,some i)]) xs++[.cR b cs]) ⟨fun r outs co=>k (xs++[(.box cs,some i)]) r (outs++[.box co])⟩):=(rfl)
def XM(i:Nat):ae->Option (Nat×List ag)
 |.box cs=>some (i,cs)
 |_=>none
attribute[simp]XM.eq_1
def QA(s:aj):List Nat->Option (Nat×List ag)
 |[]=>none
 |i::_=>XM i (s i)
@[simp]def zwM:p' cQ rc=QA cQ (Bg (ej rc) rc):=(rfl)
@[simp]def zwN:ae.p_ (.x fs)=[]:=(rfl)
@[simp]def zwO:ae.p_ (.box dI)=[]:=(rfl)
@[simp]def zwP:ae.p_ (.own bg cc gE)=[]:=(rfl)
attribute[simp]QA.eq_1 QA.eq_2 Bg.eq_1 Bg.eq_2 Bf.eq_1 Bf.eq_2 ae.p_.eq_2
def B7:List (ag⊕(Nat×Nat))->List Nat
 |[]=>[]
 |.inl _::r=>B7 r
 |.inr p::r=>p.1::B7 r
@[simp]def zwQ(i off:Nat)(r:List (ag⊕(Nat×Nat))):B7 (.inr (i,off)::r)=i::B7 r:=(rfl)
attribute[simp]B7.eq_1
@[simp]def zwR(f:FuncId)(caps:List (ag⊕(Nat×Nat))):ae.p_ (.df f caps)=B7 caps:=by
 simp only[ae.p_];induction caps with
 |nil=>rfl
 |cons c r ba=>cases c<;>simp only[tr,o_,B7,ba]
attribute[simp]p9.eq_1 p9.eq_2 p9.eq_3
def XN(a:Option Nat)(off:Nat)(b:Option (List (ag⊕(Nat×Nat)))):Option (List (ag⊕(Nat×Nat))):=match a,b with
 |some j,some cs=>some (.inr (j,off)::cs)
 |_,_=>none
@[simp]def zwS(L:List (ae×Option Nat))(i off:Nat)(r:List (ag⊕(Nat×Nat))):tC L (.inr (i,off)::r)=XN (p9 i L 0) off (tC L r):=(rfl)
attribute[simp]XN.eq_1 tC.eq_1
def XO(f:FuncId):Option (List (ag⊕(Nat×Nat)))->ae
 |some cs=>.df f cs
 |none=>.dead
attribute[simp]XO.eq_1
def XP(off:Nat):Option Nat->ae
 |some j=>.et j off
 |none=>.dead
@[simp]def zwT:k8 rc (.x fs)=.x fs:=(rfl)
@[simp]def zwU:k8 rc (.box dI)=.box dI:=(rfl)
@[simp]def zwV:k8 rc (.own bg cc gE)=.own bg cc gE:=(rfl)
@[simp]def zwW(L:List (ae×Option Nat))(f:FuncId)(caps:List (ag⊕(Nat×Nat))):k8 L (.df f caps)=XO f (tC L caps):=(rfl)
@[simp]def zwX:k8 rc (.et bg cc)=XP cc (p9 bg rc 0):=(rfl)
@[simp]def zwY:ej []=[]:=(rfl)
@[simp]def zwZ:ej ((gt,some bg)::rc)=bg::ej rc:=(rfl)
@[simp]def zxa:ej ((gt,none)::rc)=ej rc:=(rfl)
attribute[simp]XP.eq_1 hN.eq_1 hN.eq_2 jY.eq_1
@[simp]def zxb(s:aj)(outs:List ae):gf s [] outs=s:=by cases outs<;>rfl
@[simp]def zxc:xw cQ bg (.box dI)=gG cQ bg (.box dI):=(rfl)
attribute[simp]gf.eq_1 gf.eq_2
def XQ(s:aj)(i:Nat)(o:ae):(fun j=>if j=i then o else if (s j).refs i then .dead else s j)=gG (wi s i) i o:=by funext j;simp only[gG.eq_1,wi.eq_1]
@[simp]def zxd(s:aj)(i:Nat):xw s i .dead=gG (wi s i) i .dead:=XQ s i _
def QB(p:Prop)(i:Nat):ae->Prop×Option (ae×Option Nat)
 |.own e z xs=>(p,some (.own e z xs,some i))
 |.mp c bs es=>(p,some (.mp c bs es,some i))
 |_=>(False,none)
attribute[simp]QB.eq_1
def QC(p:Prop)(i:Nat):ae->Prop×Option (ae×Option Nat)
 |.box cs=>(p,some (.box cs,some i))
 |_=>(False,none)
attribute[simp]QC.eq_1
def zP(s:aj):Prop×ae->Prop×Option (ae×Option Nat)
 |(p,.x bP)=>(p,some (.x bP,none))
 |(p,.alias i)=>QB p i (s i)
 |(p,.ptr i 0)=>QC p i (s i)
 |(p,.df f caps)=>(p,some (.df f caps,none))
 |(p,.et i off)=>(p,some (.et i off,none))
 |_=>(False,none)
@[congr]def zxe{s:aj}{q eI:Prop×ae}(h:q=eI):zP s q=zP s eI:=by rw[h]
attribute[simp]zP.eq_1 zP.eq_2 zP.eq_3 zP.eq_4
@[simp]def zxf(s:aj)(x:aW):tA s x=zP s (aJ s x):=by unfold tA zP QB QC;rfl
def XR(a:Prop×Option (ae×Option Nat))(b:Prop×Option (List (ae×Option Nat))):Prop×Option (List (ae×Option Nat)):=match a,b with
 |(p,some v),(q,some vs)=>(p/\q,some (v::vs))
 |_,_=>(False,none)
variable(fY:aW)(B8:List aW)
@[simp]def zxg:k7 cQ (fY::B8)=XR (tA cQ fY) (k7 cQ B8):=(rfl)
attribute[simp]XR.eq_1 k7.eq_1
def XS(i:Nat):ae->Option (ae×Option Nat)
 |.box cs=>some (.box cs,some i)
 |_=>none
@[simp]def zxh:uK cQ (.inr (bg,0))=XS bg (cQ bg):=(rfl)
attribute[simp]XS.eq_1
@[simp]def zxi(s:aj)(i off:Nat)(h:1000000<=off):uK s (.inr (i,off))=some (.et i (off-1000000),none):=by
 unfold uK;cases off with
 |zero=>omega
 |succ k=>simp[h]
def XT(a:Option (ae×Option Nat))(b:Option (List (ae×Option Nat))):Option (List (ae×Option Nat)):=match a,b with
 |some v,some vs=>some (v::vs)
 |_,_=>none
@[simp]def zxj(s:aj)(c:ag⊕(Nat×Nat))(r:List (ag⊕(Nat×Nat))):mf s (c::r)=XT (uK s c) (mf s r):=(rfl)
@[simp]def zxk:pc cQ (.x (.one (.atom (.func (.func wL) #[] #[]))))=some (wL,[]):=(rfl)
attribute[simp]XT.eq_1 mf.eq_1 pc.eq_1
def QD(f:Prop×Option (FuncId×List (ae×Option Nat)))(xs:Prop×Option (List (ae×Option Nat))):Prop×Option (FuncId×List (ae×Option Nat)):=
 match f,xs with
 |(p,some (g,caps)),(q,some xs)=>(p/\q,some (g,xs++caps))
 |_,_=>(False,none)
attribute[simp]QD.eq_1
def QE(s:aj):Prop×ae->Prop×Option (FuncId×List (ae×Option Nat))
 |(p,a)=>(p,pc s a)
attribute[simp]QE.eq_1
@[simp]def zxl(s:aj)(f:aW)(args:List aW):gX s f args=QD (QE s (aJ s f)) (k7 s args):=by
 unfold gX QD QE;generalize aJ s f=a;generalize k7 s args=b;obtain⟨p,a⟩:=a;obtain⟨q,b⟩:=b;cases b with
 |none=>dsimp only;cases pc s a<;>rfl
 |some xs=>dsimp only;cases pc s a<;>rfl
def H7:Prop×ae->Prop×Option (FuncId×List aG)
 |(p,a)=>(p,jX a)
attribute[simp]H7.eq_1
def B9(f:Prop×Option (FuncId×List aG))(xs:Prop×Option (List aG)):Prop×Option (FuncId×List aG):=
 match f,xs with
 |(p,some (g,caps)),(q,some xs)=>(p/\q,some (g,xs++caps))
 |_,_=>(False,none)
@[simp]def zxm(f:Prop×Option (FuncId×List aG))(q:Prop):B9 f (q,none)=(False,none):=by obtain⟨p,f⟩:=f;cases f<;>rfl
@[simp]def zxn(p:Prop)(xs:Prop×Option (List aG)):B9 (p,none) xs=(False,none):=(rfl)
@[simp]def zxo(f:FuncId)(caps:List (ag⊕(Nat×Nat))):jX (.df f caps)=none:=(rfl)
attribute[simp]B9.eq_1
@[simp]def zxp(s:aj)(f:aW)(args:List aW):callee s f args=B9 (H7 (aJ s f)) (mO s args):=by
 unfold callee B9 H7;generalize aJ s f=a;generalize mO s args=b;obtain⟨p,a⟩:=a;obtain⟨q,b⟩:=b;cases b with
 |none=>dsimp only;cases jX a<;>rfl
 |some xs=>dsimp only;cases jX a<;>rfl
def b_(P:aM)(e:Bool)(g:FuncId)(xs:List aG)[k:kj (bH->Prop)]:Prop:=Km P e g xs k.val
def b_.of{P:aM}{e:Bool}{g:FuncId}{xs:List aG}{k:bH->Prop}{r:bH}(h:e=true->az P g xs r)(aw:r.flat=true)(ak:k r):@b_ _ P e g xs ⟨k⟩:=⟨r,h,aw,ak⟩
def gH(n:Int){P:aM}{g:FuncId}{xs:List aG}{k:bH->Prop}(ak:k (.x (.one (.int .i64 n)))):@b_ _ P false g xs ⟨k⟩:=⟨_,fun h=>Bool.noConfusion h,rfl,ak⟩
def e7(n:Bool){P:aM}{g:FuncId}{xs:List aG}{k:bH->Prop}(ak:k (.x (.one (.bool n)))):@b_ _ P false g xs ⟨k⟩:=⟨_,fun h=>Bool.noConfusion h,rfl,ak⟩
def ya{P:aM}{g:FuncId}{xs:List aG}{k:bH->Prop}(ak:k (.x (.one (.str [])))):@b_ _ P false g xs ⟨k⟩:=⟨_,fun h=>Bool.noConfusion h,rfl,ak⟩
@[simp]def zxq(s:aj)(f:aW)(args:List aW):B6 s f args true=B9 (H7 (aJ s f)) (tw s args):=by
 unfold B6 B9 H7;generalize tw s args=xs;cases aw:aJ s f with
 |mk p v=>obtain⟨q,xs⟩:=xs;cases xs<;>cases aF:jX v<;>simp_all
@[congr]def zxr{P:aM}{e cg:Bool}{c c':Prop×Option (FuncId×List aG)}{k:bH->Prop}(he:e=cg)(h:c=c'):r4 P e c k=r4 P cg c' k:=by rw[he,h]
@[simp]def zxs:r4 lP eC (dQ,some (wL,jG)) H6=((eC=true->dQ)/\@b_ _ lP eC wL jG ⟨H6⟩):=(rfl)
def EB(P:aM)(e:Bool)(c:Prop×Option (FuncId×List aG))(k:bH->Prop)(m:Prop):Prop:=match c with
 |(p,some x)=>r4 P e (p,some x) k
 |(_,none)=>m
@[congr]def zxt{P:aM}{e cg:Bool}{c c':Prop×Option (FuncId×List aG)}{k:bH->Prop}{m:Prop}(he:e=cg)(h:c=c'):EB P e c k m=EB P cg c' k m:=by rw[he,h]
@[simp]def zxu:EB lP eC (dQ,some (wL,jG)) H6 oy=((eC=true->dQ)/\@b_ _ lP eC wL jG ⟨H6⟩):=(rfl)
attribute[simp]EB.eq_2
end
section
variable [bn]
def B_:Op->Bool
 |.move _=>true
 |.pick _ _ _=>true
 |.load _ _=>true
 |.nilCheck _=>true
 |.binOp _ _ _ _ _=>true
 |.unOp _ _ _=>true
 |.fieldAddr _ _ _=>true
 |.field _ _ _=>true
 |.indexAddr _ _ _=>true
 |.index _ _ _=>true
 |.extract _ _=>true
 |.lookup _ _ _ _=>true
 |.makeFunc _ _ _=>true
 |.slice _ _ _ _ _=>true
 |_=>false
def gu{α:Type}(o:Option α)(k:α->Prop):Prop:=match o with
 |some x=>k x
 |none=>False
@[congr]def zxv{α:Type}{o di:Option α}{k:α->Prop}(h:o=di):gu o k=gu di k:=by rw[h]
attribute[simp]gu.eq_1
def EC(r:Prop×ae)(k:List ag->Prop):Prop:=match r with
 |(p,.x bP)=>p/\k bP.cells
 |_=>False
@[congr]def zxw{r cD:Prop×ae}{k:List ag->Prop}(h:r=cD):EC r k=EC cD k:=by rw[h]
@[simp]def zxx(p:Prop)(c:ag)(k:List ag->Prop):EC (p,.x (.one c)) k=(p/\k [c]):=(rfl)
@[simp]def zxy(p:Prop)(c:List ag)(k:List ag->Prop):EC (p,.x (.agg c)) k=(p/\k c):=(rfl)
def ED(r:Prop×ae)(k:Nat->Nat->Prop)(X:Prop):Prop:=match r with
 |(p,.ptr i off)=>p/\k i off
 |_=>X
@[congr]def zxz{r cD:Prop×ae}{k:Nat->Nat->Prop}{X:Prop}(h:r=cD):ED r k X=ED cD k X:=by rw[h]
@[simp]def zxA(p:Prop)(v:aG)(k:Nat->Nat->Prop)(X:Prop):ED (p,.x v) k X=X:=(rfl)
attribute[simp]ED.eq_1
def B'(r:Prop×aj)(k:aj->Prop):Prop:=r.1/\k r.2
@[congr]def zxB{r cD:Prop×aj}{k:aj->Prop}(h:r=cD):B' r k=B' cD k:=by rw[h]
variable(dQ:Prop)(cQ:aj)(tM:aj->Prop)
@[simp]def zxC:B' (dQ,cQ) tM=(dQ/\tM (dE cQ)):=(rfl)
def LK(r:Prop×aj×ae)(k:aj->ae->Prop):Prop:=r.1/\k r.2.1 r.2.2
@[congr]def zxD{r cD:Prop×aj×ae}{k:aj->ae->Prop}(h:r=cD):LK r k=LK cD k:=by rw[h]
@[simp]def zxE(p:Prop)(s:aj)(v:ae)(k:aj->ae->Prop):LK (p,s,v) k=(p/\k s v):=(rfl)
def yb(b:Bool)(x y:Prop):Prop:=match b with
 |true=>x
 |false=>y
@[congr]def zxF{b br:Bool}{x y:Prop}(h:b=br):yb b x y=yb br x y:=by rw[h]
attribute[simp↓]yb.eq_1 yb.eq_2
def vb(v:ae)(aE aQ:ae->Prop)(bf:Nat->Nat->Nat->Bool->Prop):Prop:=match v with
 |.own e z xs=>aE (.own e z xs)
 |.mp c bs es=>aE (.mp c bs es)
 |.view i aO len wh=>bf i aO len wh
 |v=>aQ v
@[congr]def zxG{v cW:ae}{aE aQ:ae->Prop}{bf:Nat->Nat->Nat->Bool->Prop}(h:v=cW):vb v aE aQ bf=vb cW aE aQ bf:=by rw[h]
section
variable (aE aQ:ae->Prop)(bf:Nat->Nat->Nat->Bool->Prop)
variable(fs:aG)
@[simp]def zxH:vb (.x fs) aE aQ bf=aQ (.x fs):=(rfl)
variable(dI:List ag)
@[simp]def zxI:vb (.box dI) aE aQ bf=aQ (.box dI):=(rfl)
@[simp]def zxJ:vb (.elem dI) aE aQ bf=aQ (.elem dI):=(rfl)
variable(bg:Nat)
@[simp]def zxK:vb (.alias bg) aE aQ bf=aQ (.alias bg):=(rfl)
@[simp]def zxL(f:FuncId)(caps:List (ag⊕(Nat×Nat))):vb (.df f caps) aE aQ bf=aQ (.df f caps):=(rfl)
attribute[simp]vb.eq_1 vb.eq_2
end
def LL(s:aj)(d aO len:Nat)(wh:Bool)(K:aj->Prop):ae->Prop
 |.own e size xs=>yb wh (K (put (put s d .dead) d (.own e size (xs.take len)))) (K (put (freeze s d) d (.x (.one (.list size ((xs.drop aO).take len))))))
 |_=>False
@[congr]def zxM{s:aj}{d aO len:Nat}{wh:Bool}{K:aj->Prop}{v cW:ae}(h:v=cW):LL s d aO len wh K v=LL s d aO len wh K cW:=by rw[h]
@[simp ↓]def zxN(s:aj)(d aO len:Nat)(wh:Bool)(K:aj->Prop):Bu s d aO len wh K=LL s d aO len wh K (s d):=by unfold Bu LL yb;cases s d<;>first|rfl|(cases wh<;>rfl)
section
variable (P:aM)(n:Nat)(ops:Array Oper)(s:aj)(K:aj->Prop)(d:Nat)(ty:aP)(pos:String)(after:Array Edge)(r:List Oper)
attribute[simp↓]bR.eq_1
def sq(op:Op)(h:B_ op=true):bR P n ops (⟨some d,op,ty,pos,after,none⟩::r) s K=fh (bu P s op) (fun v=>d<n/\bR P n ops r (put s d v) K):=by cases op<;>first|rfl|(simp[B_]at h)
@[simp]def zxO(x:aW):bR P n ops (⟨some d,.move x,ty,pos,after,none⟩::r) s K=fh (bu P s (.move x)) (fun v=>d<n/\bR P n ops r (put s d v) K):=sq P n ops s K d ty pos after r _ (by rfl)
@[simp]def zxP(c x y:aW):bR P n ops (⟨some d,.pick c x y,ty,pos,after,none⟩::r) s K=fh (bu P s (.pick c x y)) (fun v=>d<n/\bR P n ops r (put s d v) K):=sq P n ops s K d ty pos after r _ (by rfl)
@[simp]def zxQ(t:aP)(x:aW):bR P n ops (⟨some d,.load t x,ty,pos,after,none⟩::r) s K=fh (bu P s (.load t x)) (fun v=>d<n/\bR P n ops r (put s d v) K):=sq P n ops s K d ty pos after r _ (by rfl)
@[simp]def zxR(x:aW):bR P n ops (⟨some d,.nilCheck x,ty,pos,after,none⟩::r) s K=fh (bu P s (.nilCheck x)) (fun v=>d<n/\bR P n ops r (put s d v) K):=sq P n ops s K d ty pos after r _ (by rfl)
@[simp]def zxS(o:BinOp)(t t':aP)(x y:aW):bR P n ops (⟨some d,.binOp o t x y t',ty,pos,after,none⟩::r) s K=fh (bu P s (.binOp o t x y t')) (fun v=>d<n/\bR P n ops r (put s d v) K):=sq P n ops s K d ty pos after r _ (by rfl)
@[simp]def zxT(o:UnOp)(t:aP)(x:aW):bR P n ops (⟨some d,.unOp o t x,ty,pos,after,none⟩::r) s K=fh (bu P s (.unOp o t x)) (fun v=>d<n/\bR P n ops r (put s d v) K):=sq P n ops s K d ty pos after r _ (by rfl)
@[simp]def zxU(t t':aP)(x:aW):bR P n ops (⟨some d,.convert t t' x,ty,pos,after,none⟩::r) s K=ov (ju P t') (fh (mg P s t t' (aJ s x)) (fun v=>d<n/\bR P n ops r (put s d v) K)) (fh (o4 P s t t' (aJ s x)) (fun v=>d<n/\bR P n ops r (put s d v) K)):=by show (match ju P t' with|true=>_|false=>_)=_;unfold ov;cases ju P t'<;>rfl
@[simp]def zxV(t:aP)(x:aW)(f:Nat):bR P n ops (⟨some d,.fieldAddr t x f,ty,pos,after,none⟩::r) s K=fh (bu P s (.fieldAddr t x f)) (fun v=>d<n/\bR P n ops r (put s d v) K):=sq P n ops s K d ty pos after r _ (by rfl)
@[simp]def zxW(t:aP)(x i:aW):bR P n ops (⟨some d,.indexAddr t x i,ty,pos,after,none⟩::r) s K=fh (bu P s (.indexAddr t x i)) (fun v=>d<n/\bR P n ops r (put s d v) K):=sq P n ops s K d ty pos after r _ (by rfl)
@[simp]def zxX(t:aP)(x i:aW):bR P n ops (⟨some d,.index t x i,ty,pos,after,none⟩::r) s K=fh (bu P s (.index t x i)) (fun v=>d<n/\bR P n ops r (put s d v) K):=sq P n ops s K d ty pos after r _ (by rfl)
@[simp]def zxY(x:aW)(f:Nat):bR P n ops (⟨some d,.extract x f,ty,pos,after,none⟩::r) s K=fh (bu P s (.extract x f)) (fun v=>d<n/\bR P n ops r (put s d v) K):=sq P n ops s K d ty pos after r _ (by rfl)
@[simp]def zxZ(fn:Fn)(fst cap:Array aW):bR P n ops (⟨some d,.makeFunc fn fst cap,ty,pos,after,none⟩::r) s K=fh (bu P s (.makeFunc fn fst cap)) (fun v=>d<n/\bR P n ops r (put s d v) K):=sq P n ops s K d ty pos after r _ (by rfl)
@[simp]def zya(t:aP)(x k:aW)(ok:Bool):bR P n ops (⟨some d,.lookup t x k ok,ty,pos,after,none⟩::r) s K=fh (bu P s (.lookup t x k ok)) (fun v=>d<n/\bR P n ops r (put s d v) K):=sq P n ops s K d ty pos after r _ (by rfl)
@[simp]def zyb(t:aP)(parts:Array (Nat×aW)):bR P n ops (⟨some d,.build t parts,ty,pos,after,none⟩::r) s K=fh (p2 P (jW s) t parts.toList) (fun v=>d<n/\bR P n ops r (put (dy s (de s (parts.toList.map (·.2)))) d v) K):=(rfl)
@[simp]def zyc(t:aP):bR P n ops (⟨some d,.alloc t,ty,pos,after,none⟩::r) s K=gu (hT P t) (fun cs=>d<n/\bR P n ops r (put s d (.box cs)) K):=by show (match hT P t with|some cs=>_|none=>False)=_;cases hT P t<;>rfl
def LM(s:aj)(d i:Nat)(p:Prop)(k:aj->Prop)(X:Prop)(b:Bool):Prop:=match b with
 |true=>p/\i≠d/\(s (ch d 0)).free=true/\k (gG (put s d (.box [.any])) (ch d 0) (.link d 0 i))
 |false=>X
@[congr]def zyd{s:aj}{d i:Nat}{p:Prop}{k:aj->Prop}{X:Prop}{b br:Bool}(h:b=br):LM s d i p k X b=LM s d i p k X br:=by rw[h]
def LN(s:aj)(d i:Nat)(p:Prop)(k:aj->Prop)(X:Prop)(m:ae):Prop:=match m with
 |.res l=>LM s d i p k X (l.contains (d,0)&&(s i).tight)
 |_=>X
@[congr]def zye{s:aj}{d i:Nat}{p:Prop}{k:aj->Prop}{X:Prop}{m iR:ae}(h:m=iR):LN s d i p k X m=LN s d i p k X iR:=by rw[h]
def EE(s:aj)(d:Nat)(r:Prop×ae)(k:aj->Prop)(X:Prop):Prop:=match r with
 |(p,.alias i)=>LN s d i p k X (s cU)
 |_=>X
@[congr]def zyf{s:aj}{d:Nat}{r cD:Prop×ae}{k:aj->Prop}{X:Prop}(h:r=cD):EE s d r k X=EE s d cD k X:=by rw[h]
variable(bg:Nat)(fs:aG)(oy:Prop)
@[simp]def zyg:EE cQ bg (dQ,.x fs) tM oy=oy:=(rfl)
def zig(s:aj)(d:Nat)(r:Prop×ae)(k:aj->Prop)(X:Prop):EE s d r k X=(match Bv s d r with|some (p,i)=>p/\i≠d/\(s (ch d 0)).free=true/\k (Po s d i)|none=>X):=by
 obtain⟨p,r⟩:=r;cases r<;>try rfl
 rename_i i;unfold EE Bv LN;dsimp only;cases s cU<;>try rfl
 rename_i l;dsimp only;unfold LM;cases (l.contains (d,0)&&(s i).tight)<;>rfl
@[simp]def zyh(t:aP)(x:aW):bR P n ops (⟨some d,.box t x,ty,pos,after,none⟩::r) s K=ED (aJ s x) (fun i off=>d<n/\bR P n ops r (put s d (.et i off)) K) (EE s d (aJ s x) (fun s'=>d<n/\bR P n ops r s' K) (EC (jW s x) (fun cs=>d<n/\bR P n ops r (put (dy s (de s [x])) d (.box cs)) K))):=by
 rw[zig];simp only[bR,gq,gg,EC,ED];generalize aJ s x=q;obtain⟨p,q⟩:=q;cases q<;>first
  |rfl
  |(dsimp only
    cases ad:Bv s d _ with
    |none=>rfl
    |some y=>
     obtain⟨p,i⟩:=y;apply propext;constructor
     ·rintro⟨aa,ab,au,aN,bE⟩;exact⟨aa,au,aN,ab,bE⟩
     ·rintro⟨aa,au,aN,ab,bE⟩;exact⟨aa,ab,au,aN,bE⟩)
@[simp]def zyi(t:aP)(len:Nat)(parts:Array (Nat×aW)):bR P n ops (⟨some d,.buildSlice t len parts,ty,pos,after,none⟩::r) s K=fh (lH P (jW s) t len parts.toList) (fun v=>d<n/\bR P n ops r (put (dy s (de s (parts.toList.map (·.2)))) d v) K):=(rfl)
def LO(P:aM)(t:aP)(cN:aW)(x:Prop×ae)(k:aj->Prop)(s:aj):Prop:=B' (lI P s t (aJ s cN) x) k
@[congr]def zyj{P:aM}{t:aP}{cN:aW}{x bJ:Prop×ae}{k:aj->Prop}{s s':aj}(h:s=s')(ai:x=bJ):LO P t cN x k s=LO P t cN bJ k s':=by rw[h,ai]
variable(lP:aM)(gv:aP)(fY:aW)(gt:ae)
@[simp]def zyk:LO lP gv fY (dQ,gt) tM cQ=B' (lI lP cQ gv (aJ cQ fY) (dQ,gt)) tM:=(rfl)
def EF(P:aM)(t:aP)(cN x:aW)(k:aj->Prop)(s:aj)(c2:Option (Prop×Nat×Nat×Nat)):Prop:=
 match c2 with
 |some (p,i,off,d)=>p/\B' (gn P s t i off d) k
 |none=>LO P t cN (jW s x) k (dy s (de s [x]))
@[congr]def zyl{P:aM}{t:aP}{cN x:aW}{k:aj->Prop}{s:aj}{l pN:Option (Prop×Nat×Nat×Nat)}(h:l=pN):EF P t cN x k s l=EF P t cN x k s pN:=by rw[h]
attribute[simp]EF.eq_2 EF.eq_1
def Ca(s:aj)(cN x:aW)(m:ae):Option (Prop×Nat×Nat×Nat):=
 match m with
 |.res _=>lJ s (aJ s cN) (aJ s x)
 |_=>none
@[congr]def zym{s:aj}{cN x:aW}{m iR:ae}(h:m=iR):Ca s cN x m=Ca s cN x iR:=by rw[h]
variable(tN:aW)
@[simp]def zyn:Ca cQ fY tN .dead=none:=(rfl)
attribute[simp]Ca.eq_1
def zih(s:aj)(cN x:aW):lJ s (aJ s cN) (aJ s x)=Ca s cN x (s cU):=by
 unfold Ca;split
 ·rfl
 ·rename_i h;unfold lJ;split
  ·split
   ·split
    ·rename_i e;exact absurd e (h _)
    ·rfl
   ·rfl
  ·rfl
@[simp]def zyo(t:aP)(cN x:aW):bR P n ops (⟨none,.store t cN x,ty,pos,after,none⟩::r) s K=(iU P t=true/\EF P t cN x (fun s'=>bR P n ops r s' K) s (Ca s cN x (s 999999))):=by
 rw[<-zih];simp only[bR,gq,gg,EF];cases lJ s (aJ s cN) (aJ s x)with
 |none=>rfl
 |some y=>obtain⟨p,i,off,d⟩:=y;apply propext;rfl
def QF(q:Prop)(d:Nat)(l:List (Nat×Nat)):Prop×ae->Option (Prop×Nat×Nat×Nat)
 |(p,.ptr i off)=>bif l.contains (i,off)then some (p/\q,i,off,d)else none
 |_=>none
def H8(a:Prop×ae)(q:Prop)(d:Nat):ae->Option (Prop×Nat×Nat×Nat)
 |.res l=>QF q d l a
 |_=>none
@[congr]def zyp{a a':Prop×ae}{q:Prop}{d:Nat}{v cW:ae}(h:v=cW)(ab:a=a'):H8 a q d v=H8 a' q d cW:=by rw[h,ab]
attribute[simp]H8.eq_1 QF.eq_1
@[simp]def zyq(s:aj)(a:Prop×ae)(q:Prop)(d:Nat):lJ s a (q,.alias d)=H8 a q d (s cU):=by unfold lJ H8 QF;obtain⟨p,v⟩:=a;cases v<;>cases s cU<;>first|rfl|(dsimp only;split<;>rename_i h<;>rw[h]<;>rfl)
@[simp]def zyr(s:aj)(a:Prop×ae)(q:Prop)(v:aG):lJ s a (q,.x v)=none:=(rfl)
def H9(s:aj)(i off d:Nat)(k:cf):ae->Prop×aj
 |.box cs=>match k with
  |.one=>(off<cs.length/\(s d).tight=true/\(s (ch i off)).free=true,gG (gG (dc s i off 1) (ch i off) (.link i off d)) i (.box (cs.set off .any)))
  |_=>(False,s)
 |.cR b cs=>match k with
  |.one=>(off<cs.length/\(s d).tight=true/\(s (ch i off)).free=true,gG (gG (dc s i off 1) (ch i off) (.link i off d)) i (.cR b (cs.set off .any)))
  |_=>(False,s)
 |_=>(False,s)
@[congr]def zys{s:aj}{i off d:Nat}{k cq:cf}{v cW:ae}(h:k=cq)(ab:v=cW):H9 s i off d k v=H9 s i off d cq cW:=by rw[h,ab]
attribute[simp]H9.eq_1
@[simp]def zyt(P:aM)(s:aj)(t:aP)(i off d:Nat):gn P s t i off d=H9 s i off d (tk P t) (s i):=by unfold gn H9;cases tk P t<;>cases s i<;>rfl
@[simp]def zyu(t:Nat):bR P n ops (⟨some d,.assign (.tmp t),ty,pos,after,none⟩::r) s K=vb (s t) (fun v=>d<n/\bR P n ops r (put (put s t .dead) d v) K) (fun v=>d<n/\bR P n ops r (put s d (qh t v)) K)
  (fun i aO len wh=>yb (decide (i=d)) (d<n/\Bu s d aO len wh (fun s'=>bR P n ops r s' K)) (d<n/\bR P n ops r (put s d (.view i aO len wh)) K)):=by
 simp only[bR,gq,gg,vb,yb];split<;>rename_i h<;>simp[h,zib]
 ·split<;>split<;>simp_all
def EG(s:aj)(p q r:Prop)(i:Nat)(cn:gA)(cL eL:aG)(c:Nat)(bs:List Nat)(es:List (aG×aG)):Option (Option Nat)->Prop×aj
 |some f=>(p/\q/\r/\kd cn cL=true,gG s i (.mp (ic c bs es cL eL f).1 (ic c bs es cL eL f).2.1 (ic c bs es cL eL f).2.2))
 |none=>(False,s)
@[congr]def zyv{s:aj}{p q r:Prop}{i:Nat}{cn:gA}{cL eL:aG}{c:Nat}{bs:List Nat}{es:List (aG×aG)}{f we:Option (Option Nat)}(h:f=we):EG s p q r i cn cL eL c bs es f=EG s p q r i cn cL eL c bs es we:=by rw[h]
@[simp]def zyw(s:aj)(p q r:Prop)(i:Nat)(cn:gA)(cL eL:aG)(c:Nat)(bs:List Nat)(es:List (aG×aG)):EG s p q r i cn cL eL c bs es (some none)=(p/\q/\r/\kd cn cL=true,gG s i (.mp (c+1) (bs++[c]) (es++[(cL,eL)]))):=(rfl)
@[simp]def zyx(s:aj)(p q r:Prop)(i:Nat)(cn:gA)(cL eL:aG)(c:Nat)(bs:List Nat)(es:List (aG×aG))(j:Nat):EG s p q r i cn cL eL c bs es (some (some j))=(p/\q/\r/\kd cn cL=true,gG s i (.mp c bs (es.set j (cL,eL)))):=(rfl)
def EH(s:aj)(p q r:Prop)(i:Nat)(cn:gA)(cL eL:aG)(b c:Nat)(bs:List Nat)(es:List (aG×aG)):Option (Option Nat)->Prop×aj
 |some f=>(p/\q/\r/\kd cn cL=true,gG s i (.gL b (ic c bs es cL eL f).1 (ic c bs es cL eL f).2.1 (ic c bs es cL eL f).2.2))
 |none=>(False,s)
@[congr]def zyy{s:aj}{p q r:Prop}{i:Nat}{cn:gA}{cL eL:aG}{b c:Nat}{bs:List Nat}{es:List (aG×aG)}{f we:Option (Option Nat)}(h:f=we):EH s p q r i cn cL eL b c bs es f=EH s p q r i cn cL eL b c bs es we:=by rw[h]
@[simp]def zyz(s:aj)(p q r:Prop)(i:Nat)(cn:gA)(cL eL:aG)(b c:Nat)(bs:List Nat)(es:List (aG×aG)):EH s p q r i cn cL eL b c bs es (some none)=(p/\q/\r/\kd cn cL=true,gG s i (.gL b (c+1) (bs++[c]) (es++[(cL,eL)]))):=(rfl)
@[simp]def zyA(s:aj)(p q r:Prop)(i:Nat)(cn:gA)(cL eL:aG)(b c:Nat)(bs:List Nat)(es:List (aG×aG))(j:Nat):EH s p q r i cn cL eL b c bs es (some (some j))=(p/\q/\r/\kd cn cL=true,gG s i (.gL b c bs (es.set j (cL,eL)))):=(rfl)
def EI(s:aj)(p q r:Prop)(i:Nat)(cn:gA)(cL eL:aG):ae->Prop×aj
 |.mp c bs es=>EG s p q r i cn cL eL c bs es (fz cn cL es 0)
 |.gL b c bs es=>EH s p q r i cn cL eL b c bs es (fz cn cL es 0)
 |_=>(False,s)
@[congr]def zyB{s:aj}{p q r:Prop}{i:Nat}{cn:gA}{cL eL:aG}{v cW:ae}(h:v=cW):EI s p q r i cn cL eL v=EI s p q r i cn cL eL cW:=by rw[h]
attribute[simp]EI.eq_2 EI.eq_1
def EJ(s:aj)(ga:Option (gA×aP))(m k x:Prop×ae):Prop×aj:=
 match ga,m,k,x with
 |some (cn,_),(p,.alias i),(q,.x cL),(r,.x eL)=>EI s p q r i cn cL eL (s i)
 |_,_,_,_=>(False,s)
@[congr]def zyC{s:aj}{ga H_:Option (gA×aP)}{m iR k cq x bJ:Prop×ae}(aa:ga=H_)(ab:m=iR)(au:k=cq)(aN:x=bJ):EJ s ga m k x=EJ s H_ iR cq bJ:=by rw[aa,ab,au,aN]
attribute[simp]EJ.eq_1
def zii(P:aM)(s:aj)(t:aP)(m k x:Prop×ae):xK P s t m k x=EJ s (n8 P t) m k x:=by unfold xK EJ EI EG EH;rfl
@[simp]def zyD:bR P n ops (⟨some d,.makeMap gv none,ty,pos,after,none⟩::r) s K=(d<n/\bR P n ops r (put s d (.mp 0 [] [])) K):=(rfl)
@[simp]def zyE(t:aP)(l c:aW):bR P n ops (⟨some d,.makeSlice t l c,ty,pos,after,none⟩::r) s K=fh (xL P t (aJ s l) (aJ s c)) (fun v=>d<n/\bR P n ops r (put s d v) K):=(rfl)
attribute[simp]kd.eq_4 jS.eq_1 jS.eq_3 kd.eq_1 kd.eq_2 xL.eq_1 KN.eq_1 KM.eq_1
@[simp]def zyF(t:aP)(m k x:aW):bR P n ops (⟨none,.mapUpdate t m k x,ty,pos,after,none⟩::r) s K=wu n s (aJ s m) (fun iR=>B' (EJ s (n8 P t) iR (aJ s k) (aJ s x)) (fun s'=>bR P n ops r s' K)):=by simp only[<-zii];rfl
@[simp]def zyG(v:aI):bR P n ops (⟨some d,.assign (.const v),ty,pos,after,none⟩::r) s K=(d<n/\bR P n ops r (put s d (look s (.const v))) K):=by show (True/\_)=_;rw[mX];rfl
@[simp]def zyH(f:FuncId):bR P n ops (⟨some d,.assign (.func f),ty,pos,after,none⟩::r) s K=(d<n/\bR P n ops r (put s d (look s (.func f))) K):=by show (True/\_)=_;rw[mX];rfl
@[simp]def zyI(t:aP)(x:aW)(aO ah mx:Option aW):bR P n ops (⟨some d,.slice t x aO ah mx,ty,pos,after,none⟩::r) s K=fh (bu P s (.slice t x aO ah mx)) (fun v=>d<n/\bR P n ops r (put s d v) K):=sq P n ops s K d ty pos after r _ (by rfl)
@[simp]def zyJ(f:aW)(args:List aW)(ts:Array aP):bR P n ops (⟨some d,.call ⟨.value f,⟨args⟩,ts⟩,ty,pos,after,none⟩::r) s K=nC P (callee s f args) (fun d7=>d<n/\bR P n ops r (put (p6 s args d7) d d7.dj) K) (qV P (xu s f args) (fun d7=>d<n/\bR P n ops r (put s d d7.dj) K) (qU s (tu s args) fun s=>jY P s (gX s f args) (fun xs d7 outs=>d<n/\bR P n ops r (put (gf s xs outs) d d7.dj) K))) (fun xs ea d7=>xN n s xs ea/\d7.flat=true/\d<n/\bR P n ops r (put s d d7.dj) K):=(rfl)
@[simp]def zyK(x y:aW)(t t':aP):bR P n ops (⟨some d,.call ⟨.builtin .append,⟨[x,y]⟩,⟨[t,t']⟩⟩,ty,pos,after,none⟩::r) s K=om n s (aJ s x) (fun bJ=>LK (ff P s t t' bJ (aJ s y)) (fun s1 v=>d<n/\bR P n ops r (put s1 d v) K)):=(rfl)
@[simp]def zyL(args:List aW)(ts:Array aP):bR P n ops (⟨some d,.call ⟨.builtin .len,⟨args⟩,ts⟩,ty,pos,after,none⟩::r) s K=fh (uz P s (.builtin .len) args ts.toList) (fun v=>d<n/\bR P n ops r (put s d v) K):=(rfl)
@[simp]def zyM(args:List aW)(ts:Array aP):bR P n ops (⟨some d,.call ⟨.builtin .max,⟨args⟩,ts⟩,ty,pos,after,none⟩::r) s K=fh (uz P s (.builtin .max) args ts.toList) (fun v=>d<n/\bR P n ops r (put s d v) K):=(rfl)
@[simp]def zyN(args:List aW)(ts:Array aP):bR P n ops (⟨some d,.call ⟨.builtin .min,⟨args⟩,ts⟩,ty,pos,after,none⟩::r) s K=fh (uz P s (.builtin .min) args ts.toList) (fun v=>d<n/\bR P n ops r (put s d v) K):=(rfl)
@[congr]def zyO{n:Nat}{s:aj}{x bJ:Prop×ae}{k:Prop×ae->Prop}(h:x=bJ):wu n s x k=wu n s bJ k:=by rw[h]
@[simp]def zyP(n:Nat)(s:aj)(p:Prop)(i:Nat)(k:Prop×ae->Prop):wu n s (p,.alias i) k=k (p,.alias i):=(rfl)
def LP{n:Nat}{s:aj}{p:Prop}{k:Prop×ae->Prop}(g b c:Nat)(bs:List Nat)(es:List (aG×aG))(aX:n<=g)(ay:s g=.gL b c bs es)(h:k (p,.alias g)):wu n s (p,.x (.one (.atom (.map (some b))))) k:=⟨g,aX,⟨c,bs,es,ay⟩,h⟩
@[congr]def zyQ{n:Nat}{s:aj}{x bJ:Prop×ae}{k:Prop×ae->Prop}(h:x=bJ):om n s x k=om n s bJ k:=by rw[h]
@[simp]def zyR(n:Nat)(s:aj)(p:Prop)(i:Nat)(k:Prop×ae->Prop):om n s (p,.alias i) k=k (p,.alias i):=(rfl)
@[simp]def zyS(n:Nat)(s:aj)(p:Prop)(k:Prop×ae->Prop):om n s (p,.x (.one .nil)) k=k (p,.x (.one .nil)):=(rfl)
def XU{n:Nat}{s:aj}{p:Prop}{v:aI}{k:Prop×ae->Prop}(g e z:Nat)(xs:List (List ag))(aX:n<=g)(ay:s g=.db v e z xs)(h:k (p,.alias g)):om n s (p,.x (.one (.atom v))) k:=⟨g,aX,⟨e,z,xs,ay⟩,h⟩
def jl(e:Bool)(r:Prop×ae)(k:ae->Prop):Prop:=(e=true->r.1)/\r.2.aR=false/\k r.2
end
@[congr]def zyT{e cg:Bool}{r cD:Prop×ae}{k:ae->Prop}(he:e=cg)(h:r=cD):jl e r k=jl cg cD k:=by rw[he,h]
variable(eC:Bool)(gt:ae)(B5:ae->Prop)
@[simp]def zyU:jl eC (dQ,gt) B5=((eC=true->dQ)/\gt.aR=false/\B5 gt):=(rfl)
def EK:Op->Bool
 |.assign _=>true
 |.build _ _=>true
 |.convert _ _ _=>true
 |.call c=>match c.callee with
  |.builtin .append=>false
  |.builtin _=>true
  |_=>false
 |op=>B_ op
section
variable (P:aM)(n:Nat)(ops:Array Oper)(s:aj)(K:aj->Prop)(d:Nat)(ty:aP)(pos:String)(after:Array Edge)(r:List Oper)(g:Nat×Bool)
def tO(op:Op)(h:EK op=true):bR P n ops (⟨some d,op,ty,pos,after,some g⟩::r) s K=gu (dA ops s g) (fun e=>jl e (bu P s op) (fun v=>d<n/\bR P n ops r (put s d (.cond e v)) K)):=by
 simp only[bR,gq,gu];cases dA ops s g with
 |none=>rfl
 |some e=>
  cases op<;>first|rfl|(simp[EK,B_]at h)|skip
  rename_i c;obtain⟨callee,args,ts⟩:=c;cases callee with
  |builtin b=>cases b<;>first|rfl|(simp[EK]at h)
  |_=>cases h
@[simp]def zyV(x:aW):bR P n ops (⟨some d,.move x,ty,pos,after,some g⟩::r) s K=gu (dA ops s g) (fun e=>jl e (bu P s (.move x)) (fun v=>d<n/\bR P n ops r (put s d (.cond e v)) K)):=tO P n ops s K d ty pos after r g _ (by rfl)
@[simp]def zyW(c x y:aW):bR P n ops (⟨some d,.pick c x y,ty,pos,after,some g⟩::r) s K=gu (dA ops s g) (fun e=>jl e (bu P s (.pick c x y)) (fun v=>d<n/\bR P n ops r (put s d (.cond e v)) K)):=tO P n ops s K d ty pos after r g _ (by rfl)
@[simp]def zyX(t:aP)(x:aW):bR P n ops (⟨some d,.load t x,ty,pos,after,some g⟩::r) s K=gu (dA ops s g) (fun e=>jl e (bu P s (.load t x)) (fun v=>d<n/\bR P n ops r (put s d (.cond e v)) K)):=tO P n ops s K d ty pos after r g _ (by rfl)
@[simp]def zyY(o:BinOp)(t t':aP)(x y:aW):bR P n ops (⟨some d,.binOp o t x y t',ty,pos,after,some g⟩::r) s K=gu (dA ops s g) (fun e=>jl e (bu P s (.binOp o t x y t')) (fun v=>d<n/\bR P n ops r (put s d (.cond e v)) K)):=tO P n ops s K d ty pos after r g _ (by rfl)
@[simp]def zyZ(o:UnOp)(t:aP)(x:aW):bR P n ops (⟨some d,.unOp o t x,ty,pos,after,some g⟩::r) s K=gu (dA ops s g) (fun e=>jl e (bu P s (.unOp o t x)) (fun v=>d<n/\bR P n ops r (put s d (.cond e v)) K)):=tO P n ops s K d ty pos after r g _ (by rfl)
@[simp]def zza(t:aP)(x:aW)(f:Nat):bR P n ops (⟨some d,.fieldAddr t x f,ty,pos,after,some g⟩::r) s K=gu (dA ops s g) (fun e=>jl e (bu P s (.fieldAddr t x f)) (fun v=>d<n/\bR P n ops r (put s d (.cond e v)) K)):=tO P n ops s K d ty pos after r g _ (by rfl)
@[simp]def zzb(t:aP)(x i:aW):bR P n ops (⟨some d,.indexAddr t x i,ty,pos,after,some g⟩::r) s K=gu (dA ops s g) (fun e=>jl e (bu P s (.indexAddr t x i)) (fun v=>d<n/\bR P n ops r (put s d (.cond e v)) K)):=tO P n ops s K d ty pos after r g _ (by rfl)
@[simp]def zzc(t:aP)(x i:aW):bR P n ops (⟨some d,.index t x i,ty,pos,after,some g⟩::r) s K=gu (dA ops s g) (fun e=>jl e (bu P s (.index t x i)) (fun v=>d<n/\bR P n ops r (put s d (.cond e v)) K)):=tO P n ops s K d ty pos after r g _ (by rfl)
@[simp]def zzd(fn:Fn)(fst cap:Array aW):bR P n ops (⟨some d,.makeFunc fn fst cap,ty,pos,after,some g⟩::r) s K=gu (dA ops s g) (fun e=>jl e (bu P s (.makeFunc fn fst cap)) (fun v=>d<n/\bR P n ops r (put s d (.cond e v)) K)):=tO P n ops s K d ty pos after r g _ (by rfl)
@[simp]def zze(t:aP)(parts:Array (Nat×aW)):bR P n ops (⟨some d,.build t parts,ty,pos,after,some g⟩::r) s K=gu (dA ops s g) (fun e=>jl e (bu P s (.build t parts)) (fun v=>d<n/\bR P n ops r (put s d (.cond e v)) K)):=tO P n ops s K d ty pos after r g _ (by rfl)
@[simp]def zzf(t:aP)(x:aW)(aO ah mx:Option aW):bR P n ops (⟨some d,.slice t x aO ah mx,ty,pos,after,some g⟩::r) s K=gu (dA ops s g) (fun e=>jl e (bu P s (.slice t x aO ah mx)) (fun v=>d<n/\bR P n ops r (put s d (.cond e v)) K)):=tO P n ops s K d ty pos after r g _ (by rfl)
@[simp]def zzg(args:Array aW)(ts:Array aP):bR P n ops (⟨some d,.call ⟨.builtin .len,args,ts⟩,ty,pos,after,some g⟩::r) s K=gu (dA ops s g) (fun e=>jl e (bu P s (.call ⟨.builtin .len,args,ts⟩)) (fun v=>d<n/\bR P n ops r (put s d (.cond e v)) K)):=tO P n ops s K d ty pos after r g _ (by rfl)
@[simp]def zzh(f:aW)(args:List aW)(ts:Array aP):bR P n ops (⟨some d,.call ⟨.value f,⟨args⟩,ts⟩,ty,pos,after,some g⟩::r) s K=gu (dA ops s g) (fun e=>EB P e (callee s f args) (fun d7=>d<n/\bR P n ops r (put s d (.cond e d7.dj)) K)
  (ov e (jY P s (gX s f args) (fun xs d7 outs=>d<n/\d7.dj.aR=false/\bR P n ops r (put (gf s xs outs) d (.cond true d7.dj)) K)) (d<n/\bR P n ops r (put s d (.cond false (.x (.one (.bool false))))) K))):=by
 simp only[bR,gq,gu,Pq];cases dA ops s g with
 |none=>rfl
 |some e=>
  simp only[EB,wx,wv,ov];rcases ap:callee s f args with⟨p,o⟩
  cases o<;>cases e<;>simp
def Cb(b:Bool):Bool:=b
attribute[simp]Cb.eq_1
def vc(b:Bool)(x y:Prop):Prop:=match b with
 |true=>x
 |false=>y
end
@[congr]def zzi{b br:Bool}{x y:Prop}(h:b=br):vc b x y=vc br x y:=by rw[h]
attribute[simp]vc.eq_1 vc.eq_2
section
variable (P:aM)(n:Nat)(ops:Array Oper)(s:aj)(K:aj->Prop)(d:Nat)(ty:aP)(pos:String)(after:Array Edge)(r:List Oper)(g:Nat×Bool)
attribute[simp↓]iY.eq_1
@[simp]def zzj(o:Oper):iY P n false ops (o::r) s K=vc (Cb (g_ ops o.op)) (dU P n ops o (dE s) (fun s'=>iY P n false ops r (dE s') K)) (vc (Cb (sh o)) (BJ s o.op/\bR P n ops [o] (dE s) (fun s'=>iY P n false ops r (dE s') K)) (bR P n ops [o] (dE s) (fun s'=>iY P n false ops r (dE s') K))):=by
 show (match g_ ops o.op with|true=>_|false=>_)=_;unfold vc;cases g_ ops o.op with
 |true=>apply propext;exact⟨fun h=>h.2,fun h=>⟨fun h=>(by cases h),h⟩⟩
 |false=>dsimp only;cases sh o<;>rfl
@[simp]def zzk(o:Oper):iY P n true ops (o::r) s K=vc (Cb (g_ ops o.op)) (vc (Cb (iF o)) (zC P n o (dE s) (fun s'=>iY P n true ops r (dE s') K)) (hP s o.op/\dU P n ops o (dE s) (fun s'=>iY P n true ops r (dE s') K)))
  (vc (Cb (sh o)) (BJ s o.op/\bR P n ops [o] (dE s) (fun s'=>iY P n true ops r (dE s') K)) (bR P n ops [o] (dE s) (fun s'=>iY P n true ops r (dE s') K))):=by
 show (match g_ ops o.op with|true=>_|false=>_)=_;unfold vc;cases g_ ops o.op with
 |true=>
  dsimp only;cases ap:iF o with
  |true=>rfl
  |false=>apply propext;exact⟨fun h=>⟨h.1 rfl,h.2⟩,fun h=>⟨fun _=>h.1,h.2⟩⟩
 |false=>dsimp only;cases sh o<;>rfl
attribute[simp]BJ.eq_1
def EL(q:Prop×ae):Prop:=match q with
 |(_,.elem _)=>True
 |_=>False
def zij(q:Prop×ae):(∃cs,q.2=.elem cs)=EL q:=by obtain⟨p,q⟩:=q;apply propext;cases q<;>simp[EL]
@[simp]def zzl(t:aP)(x:aW):hP s (.load t x)=EL (aJ s x):=zij _
def H'(op:Op)(h:q5 op=true):hP s op=True:=by simp only[eq_iff_iff,iff_true];exact WL h
@[simp]def zzm(x:aW):hP s (.move x)=True:=H' s _ rfl
@[simp]def zzn(x:aW):hP s (.assign x)=True:=H' s _ rfl
@[simp]def zzo(x:aW):hP s (.nilCheck x)=True:=H' s _ rfl
def zik(v:ae):Bool:=match v with
 |.x (.one (.int _ _))=>true
 |_=>false
@[simp]def zzp(t:aP)(x:aW)(f:Nat):hP s (.fieldAddr t x f)=True:=H' s _ rfl
@[simp]def zzq(t:aP)(parts:Array (Nat×aW)):hP s (.build t parts)=True:=H' s _ rfl
def QG:Op->Bool
 |.assign _=>true
 |.build _ _=>true
 |.call c=>match c.callee with
  |.builtin .append=>false
  |.builtin _=>true
  |_=>false
 |op=>B_ op
def oz(op:Op)(h:QG op=true):dU P n ops ⟨some d,op,ty,pos,after,none⟩ s K=(d<n/\(s d).aR=false/\fh (bu P s op) (fun v=>K (put s d v))):=by
 cases op<;>first|rfl|(simp[QG,B_]at h)|skip
 rename_i c;obtain⟨callee,args,ts⟩:=c;cases callee with
 |builtin b=>cases b<;>first|rfl|(simp[QG]at h)
 |_=>cases h
@[simp]def zzr(x:aW):dU P n ops ⟨some d,.move x,ty,pos,after,none⟩ s K=(d<n/\(s d).aR=false/\fh (bu P s (.move x)) (fun v=>K (put s d v))):=oz P n ops s K d ty pos after _ (by rfl)
@[simp]def zzs(c x y:aW):dU P n ops ⟨some d,.pick c x y,ty,pos,after,none⟩ s K=(d<n/\(s d).aR=false/\fh (bu P s (.pick c x y)) (fun v=>K (put s d v))):=oz P n ops s K d ty pos after _ (by rfl)
@[simp]def zzt(t:aP)(x:aW):dU P n ops ⟨some d,.load t x,ty,pos,after,none⟩ s K=(d<n/\(s d).aR=false/\fh (bu P s (.load t x)) (fun v=>K (put s d v))):=oz P n ops s K d ty pos after _ (by rfl)
@[simp]def zzu(x:aW):dU P n ops ⟨some d,.nilCheck x,ty,pos,after,none⟩ s K=(d<n/\(s d).aR=false/\fh (bu P s (.nilCheck x)) (fun v=>K (put s d v))):=oz P n ops s K d ty pos after _ (by rfl)
@[simp]def zzv(o:BinOp)(t t':aP)(x y:aW):dU P n ops ⟨some d,.binOp o t x y t',ty,pos,after,none⟩ s K=(d<n/\(s d).aR=false/\fh (bu P s (.binOp o t x y t')) (fun v=>K (put s d v))):=oz P n ops s K d ty pos after _ (by rfl)
@[simp]def zzw(o:UnOp)(t:aP)(x:aW):dU P n ops ⟨some d,.unOp o t x,ty,pos,after,none⟩ s K=(d<n/\(s d).aR=false/\fh (bu P s (.unOp o t x)) (fun v=>K (put s d v))):=oz P n ops s K d ty pos after _ (by rfl)
@[simp]def zzx(t t':aP)(x:aW):dU P n ops ⟨some d,.convert t t' x,ty,pos,after,none⟩ s K=(d<n/\(s d).aR=false/\ov (ju P t') (fh (mg P s t t' (aJ s x)) (fun v=>K (put s d v))) (fh (o4 P s t t' (aJ s x)) (fun v=>K (put s d v)))):=by simp only[dU];unfold ov;cases ju P t'<;>rfl
@[simp]def zzy(t:aP)(x:aW)(f:Nat):dU P n ops ⟨some d,.fieldAddr t x f,ty,pos,after,none⟩ s K=(d<n/\(s d).aR=false/\fh (bu P s (.fieldAddr t x f)) (fun v=>K (put s d v))):=oz P n ops s K d ty pos after _ (by rfl)
@[simp]def zzz(t:aP)(x i:aW):dU P n ops ⟨some d,.indexAddr t x i,ty,pos,after,none⟩ s K=(d<n/\(s d).aR=false/\fh (bu P s (.indexAddr t x i)) (fun v=>K (put s d v))):=oz P n ops s K d ty pos after _ (by rfl)
@[simp]def zzA(t:aP)(x i:aW):dU P n ops ⟨some d,.index t x i,ty,pos,after,none⟩ s K=(d<n/\(s d).aR=false/\fh (bu P s (.index t x i)) (fun v=>K (put s d v))):=oz P n ops s K d ty pos after _ (by rfl)
@[simp]def zzB(x:aW)(f:Nat):dU P n ops ⟨some d,.extract x f,ty,pos,after,none⟩ s K=(d<n/\(s d).aR=false/\fh (bu P s (.extract x f)) (fun v=>K (put s d v))):=oz P n ops s K d ty pos after _ (by rfl)
@[simp]def zzC(fn:Fn)(fst cap:Array aW):dU P n ops ⟨some d,.makeFunc fn fst cap,ty,pos,after,none⟩ s K=(d<n/\(s d).aR=false/\fh (bu P s (.makeFunc fn fst cap)) (fun v=>K (put s d v))):=oz P n ops s K d ty pos after _ (by rfl)
@[simp]def zzD(t:aP)(x k:aW)(ok:Bool):dU P n ops ⟨some d,.lookup t x k ok,ty,pos,after,none⟩ s K=(d<n/\(s d).aR=false/\fh (bu P s (.lookup t x k ok)) (fun v=>K (put s d v))):=oz P n ops s K d ty pos after _ (by rfl)
@[simp]def zzE(t:aP)(parts:Array (Nat×aW)):dU P n ops ⟨some d,.build t parts,ty,pos,after,none⟩ s K=(d<n/\(s d).aR=false/\fh (bu P s (.build t parts)) (fun v=>K (put s d v))):=oz P n ops s K d ty pos after _ (by rfl)
@[simp]def zzF(x:aW):dU P n ops ⟨some d,.assign x,ty,pos,after,none⟩ s K=(d<n/\(s d).aR=false/\fh (bu P s (.assign x)) (fun v=>K (put s d v))):=oz P n ops s K d ty pos after _ (by rfl)
@[simp]def zzG(t:aP)(x:aW)(aO ah mx:Option aW):dU P n ops ⟨some d,.slice t x aO ah mx,ty,pos,after,none⟩ s K=(d<n/\(s d).aR=false/\fh (bu P s (.slice t x aO ah mx)) (fun v=>K (put s d v))):=oz P n ops s K d ty pos after _ (by rfl)
@[simp]def zzH(args:Array aW)(ts:Array aP):dU P n ops ⟨some d,.call ⟨.builtin .len,args,ts⟩,ty,pos,after,none⟩ s K=(d<n/\(s d).aR=false/\fh (bu P s (.call ⟨.builtin .len,args,ts⟩)) (fun v=>K (put s d v))):=oz P n ops s K d ty pos after _ (by rfl)
@[simp]def zzI(args:Array aW)(ts:Array aP):dU P n ops ⟨some d,.call ⟨.builtin .min,args,ts⟩,ty,pos,after,none⟩ s K=(d<n/\(s d).aR=false/\fh (bu P s (.call ⟨.builtin .min,args,ts⟩)) (fun v=>K (put s d v))):=oz P n ops s K d ty pos after _ (by rfl)
@[simp]def zzJ(t:aP):dU P n ops ⟨some d,.alloc t,ty,pos,after,none⟩ s K=(d<n/\(s d).aR=false/\gu (hT P t) (fun cs=>K (put s d (.box cs)))):=by simp only[dU,gu];cases hT P t<;>rfl
@[simp]def zzK(t:aP)(len:Nat)(parts:Array (Nat×aW)):dU P n ops ⟨some d,.buildSlice t len parts,ty,pos,after,none⟩ s K=(d<n/\(s d).aR=false/\fh (lH P (aJ s) t len parts.toList) (fun v=>K (put s d v))):=(rfl)
@[simp]def zzL(f:aW)(args:List aW)(ts:Array aP):dU P n ops ⟨some d,.call ⟨.value f,⟨args⟩,ts⟩,ty,pos,after,none⟩ s K=(d<n/\(s d).aR=false/\EA P (callee s f args) (fun d7=>(d7.flat ||(de s args).isEmpty)=true/\K (put s d d7.dj))):=by rw[<-zif];rfl
def wN(op:Op)(h:EK op=true):dU P n ops ⟨some d,op,ty,pos,after,some g⟩ s K=(d<n/\(s d).aR=false/\gu (dA ops s g) (fun e=>jl e (bu P s op) (fun v=>K (put s d (.cond e v))))):=by
 simp only[dU,gu];cases dA ops s g with
 |none=>rfl
 |some e=>
  cases op<;>first|rfl|(simp[EK,B_]at h)|skip
  rename_i c;obtain⟨callee,args,ts⟩:=c;cases callee with
  |builtin b=>cases b<;>first|rfl|(simp[EK]at h)
  |_=>cases h
def EM(e:Bool)(p:Prop×ae)(K:ae->Prop):Prop:=match e with
 |true=>p.1/\K p.2
 |false=>K (.cond false (.x (.one (.bool false))))
@[congr]def zzM{e cg:Bool}{p kz:Prop×ae}{K:ae->Prop}(h:e=cg)(am:p=kz):EM e p K=EM cg kz K:=by rw[h,am]
@[simp]def zzN:EM true (dQ,gt) B5=(dQ/\B5 gt):=(rfl)
attribute[simp]EM.eq_2
@[simp]def zzO(t:aP)(len:Nat)(parts:Array (Nat×aW)):dU P n ops ⟨some d,.buildSlice t len parts,ty,pos,after,some g⟩ s K=(d<n/\(s d).aR=false/\gu (dA ops s g) (fun e=>EM e (lH P (aJ s) t len parts.toList) (fun v=>K (put s d v)))):=by
 simp only[dU,gu,EM];cases dA ops s g with
 |none=>rfl
 |some e=>cases e<;>rfl
@[simp]def zzP(x:aW):dU P n ops ⟨some d,.move x,ty,pos,after,some g⟩ s K=(d<n/\(s d).aR=false/\gu (dA ops s g) (fun e=>jl e (bu P s (.move x)) (fun v=>K (put s d (.cond e v))))):=wN P n ops s K d ty pos after g _ (by rfl)
@[simp]def zzQ(c x y:aW):dU P n ops ⟨some d,.pick c x y,ty,pos,after,some g⟩ s K=(d<n/\(s d).aR=false/\gu (dA ops s g) (fun e=>jl e (bu P s (.pick c x y)) (fun v=>K (put s d (.cond e v))))):=wN P n ops s K d ty pos after g _ (by rfl)
@[simp]def zzR(t:aP)(x:aW):dU P n ops ⟨some d,.load t x,ty,pos,after,some g⟩ s K=(d<n/\(s d).aR=false/\gu (dA ops s g) (fun e=>jl e (bu P s (.load t x)) (fun v=>K (put s d (.cond e v))))):=wN P n ops s K d ty pos after g _ (by rfl)
@[simp]def zzS(x:aW):dU P n ops ⟨some d,.nilCheck x,ty,pos,after,some g⟩ s K=(d<n/\(s d).aR=false/\gu (dA ops s g) (fun e=>jl e (bu P s (.nilCheck x)) (fun v=>K (put s d (.cond e v))))):=wN P n ops s K d ty pos after g _ (by rfl)
@[simp]def zzT(o:BinOp)(t t':aP)(x y:aW):dU P n ops ⟨some d,.binOp o t x y t',ty,pos,after,some g⟩ s K=(d<n/\(s d).aR=false/\gu (dA ops s g) (fun e=>jl e (bu P s (.binOp o t x y t')) (fun v=>K (put s d (.cond e v))))):=wN P n ops s K d ty pos after g _ (by rfl)
@[simp]def zzU(o:UnOp)(t:aP)(x:aW):dU P n ops ⟨some d,.unOp o t x,ty,pos,after,some g⟩ s K=(d<n/\(s d).aR=false/\gu (dA ops s g) (fun e=>jl e (bu P s (.unOp o t x)) (fun v=>K (put s d (.cond e v))))):=wN P n ops s K d ty pos after g _ (by rfl)
@[simp]def zzV(t:aP)(x:aW)(f:Nat):dU P n ops ⟨some d,.fieldAddr t x f,ty,pos,after,some g⟩ s K=(d<n/\(s d).aR=false/\gu (dA ops s g) (fun e=>jl e (bu P s (.fieldAddr t x f)) (fun v=>K (put s d (.cond e v))))):=wN P n ops s K d ty pos after g _ (by rfl)
@[simp]def zzW(t:aP)(x i:aW):dU P n ops ⟨some d,.indexAddr t x i,ty,pos,after,some g⟩ s K=(d<n/\(s d).aR=false/\gu (dA ops s g) (fun e=>jl e (bu P s (.indexAddr t x i)) (fun v=>K (put s d (.cond e v))))):=wN P n ops s K d ty pos after g _ (by rfl)
@[simp]def zzX(fn:Fn)(fst cap:Array aW):dU P n ops ⟨some d,.makeFunc fn fst cap,ty,pos,after,some g⟩ s K=(d<n/\(s d).aR=false/\gu (dA ops s g) (fun e=>jl e (bu P s (.makeFunc fn fst cap)) (fun v=>K (put s d (.cond e v))))):=wN P n ops s K d ty pos after g _ (by rfl)
@[simp]def zzY(t:aP)(x:aW)(aO ah mx:Option aW):dU P n ops ⟨some d,.slice t x aO ah mx,ty,pos,after,some g⟩ s K=(d<n/\(s d).aR=false/\gu (dA ops s g) (fun e=>jl e (bu P s (.slice t x aO ah mx)) (fun v=>K (put s d (.cond e v))))):=wN P n ops s K d ty pos after g _ (by rfl)
@[simp]def zzZ(f:aW)(args:List aW)(ts:Array aP):dU P n ops ⟨some d,.call ⟨.value f,⟨args⟩,ts⟩,ty,pos,after,some g⟩ s K=(d<n/\(s d).aR=false/\gu (dA ops s g) (fun e=>r4 P e (callee s f args) (fun d7=>K (put s d (.cond e d7.dj))))):=by simp only[dU,gu];cases dA ops s g<;>rfl
def LQ(v:ae)(b:Bool):Option Bool:=match v with
 |.x (.one (.bool c))=>some (c==b)
 |.cond e (.x (.one (.bool c)))=>some (e&&(c==b))
 |_=>none
attribute[simp]LQ.eq_1 LQ.eq_2
def QH(s:aj)(d:Option Nat)(b:Bool):Option Bool:=match d with
 |some d=>LQ (s d) b
 |none=>none
attribute[simp]QH.eq_1
@[simp]def zAa(l:List Oper)(j:Nat)(b:Bool):dA ⟨l⟩ s (j,b)=QH s ((l[j]?).bind (·.dst)) b:=by
 simp only[dA,QH,LQ];have:(⟨l⟩:Array Oper)[j]?=l[j]?:=by simp
 rw[this];cases l[j]?.bind fun x=>x.dst<;>rfl
end
def LR(off:Nat):ae->Option (List ag)
 |.box cs=>some (cs.drop off)
 |.cR _ cs=>some (cs.drop off)
 |_=>none
attribute[simp]LR.eq_1 LR.eq_2
def QI(k off:Nat):ae->Option (List ag)
 |.own _ _ xs=>some ((xs.getD k []).drop off)
 |_=>none
attribute[simp]QI.eq_1
@[simp]def zAb(s:aj)(i off:Nat):mem s (.ptr i off)=LR off (s i):=by simp only[mem,LR];cases s i<;>rfl
@[simp]def zAc(s:aj)(i k off:Nat):mem s (.fy i k off)=QI k off (s i):=by simp only[mem,QI];cases s i<;>rfl
attribute[simp]mem.eq_3
def QJ(p:Prop):ae->Prop×Option aG
 |.own _ size xs=>(p,some (.one (.list size xs)))
 |_=>(False,none)
attribute[simp]QJ.eq_1
def XV(p:Prop)(aO len:Nat):ae->Prop×Option aG
 |.own _ size xs=>(p,some (.one (.list size ((xs.drop aO).take len))))
 |_=>(False,none)
def QK(p:Prop)(f:FuncId):Option (List ag)->Prop×Option aG
 |some cs=>(p,some (.one (.jQ f cs)))
 |none=>(False,none)
attribute[simp]QK.eq_1
def XW(off:Nat):ae->Option ag
 |.box cs=>bif decide (off<1000000)then some (.ref (cs.drop off))else none
 |_=>none
attribute[simp]XW.eq_1
def XX(a:Option ag)(b:Option (List ag)):Option (List ag):=match a,b with
 |some x,some xs=>some (x::xs)
 |_,_=>none
@[simp]def zAd(s:aj)(i off:Nat)(r:List (ag⊕(Nat×Nat))):pZ s (.inr (i,off)::r)=XX (XW off (s i)) (pZ s r):=(rfl)
attribute[simp]XX.eq_1 pZ.eq_1
def vd(s:aj):Prop×ae->Prop×Option aG
 |(p,.x bP)=>(p,some bP)
 |(p,.alias i)=>QJ p (s i)
 |(p,.view i aO len _)=>XV p aO len (s i)
 |(p,.elem cs)=>(p,some (.one (.ref cs)))
 |(p,.df f caps)=>QK p f (pZ s caps)
 |_=>(False,none)
@[congr]def zAe{s:aj}{q eI:Prop×ae}(h:q=eI):vd s q=vd s eI:=by rw[h]
variable(bg cc:Nat)
@[simp]def zAf:vd cQ (dQ,.ptr bg cc)=(False,none):=(rfl)
attribute[simp]vd.eq_1 vd.eq_2 vd.eq_5 vd.eq_4
@[simp]def zil(s:aj)(x:aW):o' s x=vd s (aJ s x):=by unfold o' vd QJ XV QK;generalize aJ s x=q;obtain⟨p,q⟩:=q;cases q<;>rfl
def LS(a:Prop×Option aG)(b:Prop×Option (List aG)):Prop×Option (List aG):=match a,b with
 |(p,some v),(q,some vs)=>(p/\q,some (v::vs))
 |_,_=>(False,none)
def QL:ae->ag
 |.own _ z xs=>.list z xs
 |_=>.any
attribute[simp]QL.eq_1
def LU(s:aj)(i o:Nat):ae->ag
 |.link bL di d=>bif bL==i&&di==o then QL (s d)else .any
 |_=>.any
@[congr]def zAg{s:aj}{i o:Nat}{v cW:ae}(h:v=cW):LU s i o v=LU s i o cW:=by rw[h]
attribute[simp]LU.eq_1
@[simp]def zAh(s:aj)(i o:Nat):tt s i o .any=LU s i o (s (ch i o)):=by
 unfold tt;dsimp only;cases s (ch i o)with
 |link bL di d=>
  show (match bL==i&&di==o with|true=>_|false=>_)=bif bL==i&&di==o then QL (s d)else .any
  cases (bL==i&&di==o)
  ·rfl
  ·dsimp only[cond_true];cases s d<;>rfl
 |_=>rfl
variable(eb:IntKind)(fC:Int)
@[simp]def zAi:tt cQ bg cc (.int eb fC)=.int eb fC:=(rfl)
variable(iX:aq)
@[simp]def zAj:tt cQ bg cc (.str iX)=.str iX:=(rfl)
@[simp]def zAk:tt cQ bg cc .nil=.nil:=(rfl)
variable(dR:Nat)(gE:List (List ag))
@[simp]def zAl:tt cQ bg cc (.list dR gE)=.list dR gE:=(rfl)
attribute[simp]xq.eq_1 xq.eq_2
def LV(s:aj)(p:Prop)(i off:Nat):ae->Prop×Option aG
 |.box cs=>(p,some (.one (.ref (xq s i off (cs.drop off)))))
 |_=>(False,none)
@[congr]def zAm{s:aj}{p:Prop}{i off:Nat}{v cW:ae}(h:v=cW):LV s p i off v=LV s p i off cW:=by rw[h]
attribute[simp]LV.eq_1
def EN(s:aj):Prop×ae->Prop×Option aG
 |(p,.ptr i off)=>LV s p i off (s i)
 |q=>vd s q
@[congr]def zAn{s:aj}{q eI:Prop×ae}(h:q=eI):EN s q=EN s eI:=by rw[h]
variable(fs:aG)
@[simp]def zAo:EN cQ (dQ,.x fs)=vd cQ (dQ,.x fs):=(rfl)
attribute[simp]EN.eq_1
@[simp]def zAp(s:aj)(x:aW):DJ s x=EN s (aJ s x):=by
 unfold DJ EN;rcases ai:aJ s x with⟨p,v⟩
 cases v<;>simp only[zil,ai]<;>rfl
def XY(a:Prop×Option aG)(b:Prop×Option (List aG)):Prop×Option (List aG):=match a,b with
 |(p,some v),(q,some vs)=>(p/\q,some (v::vs))
 |_,_=>(False,none)
variable(fY:aW)(B8:List aW)
@[simp]def zAq:tw cQ (fY::B8)=XY (DJ cQ fY) (tw cQ B8):=(rfl)
variable(gR iH:Nat)(dI:List ag)
@[simp]def zAr:Lu cQ bg cc dR (.box dI) (.own gR iH gE)=gG (dc (freeze cQ dR) bg cc 1) bg (.box (dI.set cc (.list iH gE))):=(rfl)
attribute[simp]XY.eq_1 tw.eq_1
def Ia(s:aj)(i off:Nat):ae->aj
 |.link bL o d=>bif bL==i&&o==off then Lu s i off d (s i) (s d)else s
 |_=>s
@[congr]def zAs{s:aj}{i off:Nat}{v cW:ae}(h:v=cW):Ia s i off v=Ia s i off cW:=by rw[h]
@[simp]def zAt:Ia cQ bg cc .dead=cQ:=(rfl)
attribute[simp]Ia.eq_1
@[simp]def zAu(s:aj)(i off:Nat):x6 s i off=Ia s i off (s (ch i off)):=by
 unfold x6 P5;cases s (ch i off)with
 |link bL o d=>
  show (match bL==i&&o==off with|true=>_|false=>_)=bif bL==i&&o==off then _ else _
  cases (bL==i&&o==off)<;>rfl
 |_=>rfl
variable(XZ:Nat×Nat)(qg:List (Nat×Nat))
@[simp]def zAv:sl cQ (XZ::qg)=gG cQ 999999 (.res (XZ::qg)):=(rfl)
@[simp]def zAw(p:Prop)(b:Prop×Option (List aG)):LS (p,none) b=(False,none):=(rfl)
attribute[simp]pq.eq_1 pq.eq_2 LS.eq_1
def X0:Prop×Option aG->Prop×ae
 |(p,some bP)=>(p,.x bP)
 |_=>(False,.dead)
@[simp]def zAx:jW cQ fY=X0 (o' cQ fY):=(rfl)
@[simp]def zAy:mO cQ (fY::B8)=LS (o' cQ fY) (mO cQ B8):=(rfl)
attribute[simp]X0.eq_1 mO.eq_1
def X1:Prop×ae->Prop×Option aG
 |(p,.x bP)=>(p,some bP)
 |_=>(False,none)
variable(lP:aM)(gv:aP)
@[simp]def zAz:Er lP cQ (.cell bg gv)=X1 (k2 (tk lP gv) (eH lP gv) (aJ cQ (.tmp bg)).1 (mem cQ (aJ cQ (.tmp bg)).2)):=(rfl)
@[simp]def zAA(P:aM)(s:aj)(x:ResultVar)(r:List ResultVar):re P s (x::r)=LS (Er P s x) (re P s r):=(rfl)
attribute[simp]X1.eq_1 Er.eq_1 re.eq_1
def QM(p q:Prop)(size j:Nat)(n:Int):ae->Prop×ae
 |.own _ z xs=>(p/\q/\z=size/\0<=n/\n<xs.length,.fy j n.toNat 0)
 |_=>(False,.dead)
attribute[simp]QM.eq_1
def X2(k:Option (Nat×Nat))(x i:Prop×ae):Prop×ae:=
 match k,x,i with
 |some (len,size),(p,.ptr j off),(q,.x (.one (.int _ n)))=>(p/\q/\0<=n/\n<len,.ptr j (off+n.toNat*size))
 |some (len,size),(p,.elem cs),(q,.x (.one (.int _ n)))=>(p/\q/\0<=n/\n<len,.elem (cs.drop (n.toNat*size)))
 |_,_,_=>(False,.dead)
attribute[simp]X2.eq_1
def Cc(P:aM)(t:aP)(s:aj)(k:Option (aP×Nat))(x i:Prop×ae):Prop×ae:=
 match k,x,i with
 |some (_,size),(p,.x (.one (.list z xs))),(q,.x (.one (.int _ n)))=>(p/\q/\z=size/\0<=n/\n<xs.length,.elem (xs.getD n.toNat []))
 |some (_,size),(p,.alias j),(q,.x (.one (.int _ n)))=>QM p q size j n (s j)
 |some (_,size),(p,.view j aO len _),(q,.x (.one (.int _ n)))=>(p/\q/\(s j).size=size/\0<=n/\n<len,.fy j (aO+n.toNat) 0)
 |_,_,_=>AU P t x i
@[congr]def zAB{P:aM}{u:aP}{s:aj}{k cq:Option (aP×Nat)}{x bJ i bL:Prop×ae}(ak:k=cq)(ai:x=bJ)(ah:i=bL):Cc P u s k x i=Cc P u s cq bJ bL:=by rw[ak,ai,ah]
section
variable (P:aM)(u:aP)(s:aj)
@[simp]def zAC(x i:Prop×ae):Cc P u s none x i=X2 (AT P u) x i:=(rfl)
attribute[simp]Cc.eq_1 Cc.eq_2
end
@[simp]def zAD(P:aM)(s:aj)(t:aP)(x i:Prop×ae):l' P s t x i=Cc P t s (gM P t) x i:=by unfold l' Cc QM;rfl
def QN(p q eI:Prop):ae->Prop×ae
 |.own _ _ xs=>(p/\q,.x (.one (.int .i64 xs.length)))
 |.mp _ _ es=>(p/\eI,.x (.one (.int .i64 es.length)))
 |_=>(False,.dead)
attribute[simp]QN.eq_1
section
variable (P:aM)(s:aj)(t:aP)(p:Prop)
attribute[simp]n9.eq_1 n9.eq_2 n9.eq_4
@[simp]def zAE(i:Nat):n9 P s t (p,.alias i)=QN p ((gM P t).isSome=true) ((n8 P t).isSome=true) (s i):=by simp only[n9,QN];cases s i<;>rfl
end
def LW(k:Option (Nat×cf))(x:Prop×ae):Prop×ae:=
 match k,x with
 |some (o,_),(p,.ptr i off)=>(p,.ptr i (off+o))
 |some (o,_),(p,.fy i k off)=>(p,.fy i k (off+o))
 |some (o,_),(p,.elem cs)=>(p,.elem (cs.drop o))
 |_,_=>(False,.dead)
@[simp]def zAF(P:aM)(t:aP)(f:Nat)(x:Prop×ae):ux P t f x=LW (fieldAt P t f) x:=(rfl)
attribute[simp]LW.eq_1 LW.eq_2 LW.eq_3
def QO(x:Prop×ae):Prop×ae:=match N9 x.2 with
 |true=>x
 |false=>(False,.dead)
@[simp]def zAG:QO (dQ,.ptr bg cc)=(dQ,.ptr bg cc):=(rfl)
@[simp]def zAH:QO (dQ,.elem dI)=(dQ,.elem dI):=(rfl)
def X3:Prop×ae->Prop×Option Int
 |(p,.x (.one (.int _ n)))=>(p,some n)
 |_=>(False,none)
@[simp]def zAI:dG cQ (some fY) fC=X3 (aJ cQ fY):=(rfl)
attribute[simp]X3.eq_1 dG.eq_1
def QP(P:aM)(t:aP)(p:Prop)(l:aq)(a b:Prop×Option Int):Prop×ae:=match a,b with
 |(q,some a),(r,some b)=>(p/\q/\r/\k1 P t=true/\0<=a/\a<=b/\b<=l.length,.x (.one (.str (b4 l a b))))
 |_,_=>(False,.dead)
attribute[simp]QP.eq_1
@[simp]def zAJ(P:aM)(s:aj)(t:aP)(p:Prop)(l:aq)(aO ah:Option aW):ky P s t (p,.x (.one (.str l))) aO ah none=QP P t p l (dG s aO 0) (dG s ah l.length):=by simp only[ky,QP];generalize dG s aO 0=u;generalize dG s ah l.length=v;obtain⟨_,u⟩:=u;obtain⟨_,v⟩:=v;cases u<;>cases v<;>rfl
def QQ(p d:Prop)(z:Nat)(xs:List (List ag))(k:Option (aP×Nat))(a b c:Prop×Option Int):Prop×ae:=match k,a,b,c with
 |some (_,size),(q,some a),(r,some b),(u,some c)=>(p/\q/\r/\u/\z=size/\0<=a/\a<=b/\b<=c/\c<=xs.length/\d,.x (.one (.list z (b4 xs a b))))
 |_,_,_,_=>(False,.dead)
attribute[simp]QQ.eq_1
@[simp]def zAK(P:aM)(s:aj)(t:aP)(p:Prop)(z:Nat)(xs:List (List ag))(aO ah mx:Option aW):ky P s t (p,.x (.one (.list z xs))) aO ah mx=QQ p (ah=none->mx=none) z xs (gM P t) (dG s aO 0) (dG s ah xs.length) (dG s mx xs.length):=by simp only[ky,QQ];generalize dG s aO 0=u;generalize dG s ah xs.length=v;generalize dG s mx xs.length=m;generalize gM P t=k;obtain⟨_,u⟩:=u;obtain⟨_,v⟩:=v;obtain⟨_,m⟩:=m;cases u<;>cases v<;>cases m<;>cases k<;>rfl
def X4(k:Option (List ag×List (Nat×Nat)))(parts:List (Nat×(Prop×ae))):Prop×ae:=match k with
 |some (cs,ih)=>((p1 ih cs parts).1,.x (.agg (p1 ih cs parts).2))
 |none=>(False,.dead)
def X5(r:Prop×List ag):Prop×ae:=(r.1,.x (.agg r.2))
@[simp]def zAL:X5 (dQ,dI)=(dQ,.x (.agg dI)):=(rfl)
@[simp]def zAM(cs:List ag)(ih:List (Nat×Nat))(parts:List (Nat×(Prop×ae))):X4 (some (cs,ih)) parts=X5 (p1 ih cs parts):=(rfl)
@[simp]def zAN(P:aM)(f:aW->Prop×ae)(t:aP)(parts:List (Nat×aW)):p2 P f t parts=X4 (nA P t) (parts.map fun x=>(x.1,f x.2)):=(rfl)
def QR(p q:Prop)(r:Prop×List ag):Prop×List ag:=(p/\q/\r.1,r.2)
variable(oy X6:Prop)
@[simp]def zAO:QR dQ oy (X6,dI)=(dQ/\oy/\X6,dI):=(rfl)
def QS(ih:List (Nat×Nat))(cells:List ag)(r:List (Nat×(Prop×ae)))(p:Prop)(vs:List ag):Option (Nat×Nat)->Prop×List ag
 |some (off,size)=>QR p (vs.length=size/\off+size<=cells.length) (p1 ih (cZ cells off vs) r)
 |none=>(False,cells)
attribute[simp]QS.eq_1
@[simp]def zAP(ih:List (Nat×Nat))(cells:List ag):p1 ih cells []=(True,cells):=by simp only[p1]
@[simp]def zAQ(ih:List (Nat×Nat))(cells:List ag)(i:Nat)(p:Prop)(bP:aG)(r:List (Nat×(Prop×ae))):p1 ih cells ((i,(p,.x bP))::r)=QS ih cells r p bP.cells (ih[i]?):=by
 simp only[p1];cases ih[i]? with
 |none=>rfl
 |some x=>simp only[QS,QR,and_assoc]
def QT(len:Nat)(parts:List (Nat×(Prop×ae))):Option (aP×Nat×List ag)->Prop×ae
 |some (e,size,z)=>(len*size<=16777216/\(r3 size (List.replicate len z) parts).1,.own e size (r3 size (List.replicate len z) parts).2)
 |none=>(False,.dead)
attribute[simp]QT.eq_1
@[simp]def zAR(P:aM)(f:aW->Prop×ae)(t:aP)(len:Nat)(parts:List (Nat×aW)):lH P f t len parts=QT len (parts.map fun x=>(x.1,f x.2)) (jy P t):=by unfold lH QT;rfl
def Ib(s:aj)(i off m:Nat):Bool->aj
 |true=>dc s i off m
 |false=>s
@[congr]def zAS{s:aj}{i off m:Nat}{b br:Bool}(h:b=br):Ib s i off m b=Ib s i off m br:=by rw[h]
attribute[simp]Ib.eq_2
def EO(s:aj)(p q:Prop)(i off m:Nat)(vs:List ag):ae->Prop×aj
 |.box cs=>(p/\q/\vs.length=m/\off+m<=cs.length,gG (Ib s i off m (lB cs off m)) i (.box (cZ cs off vs)))
 |.cR b cs=>(p/\q/\vs.length=m/\off+m<=cs.length,gG (Ib s i off m (lB cs off m)) i (.cR b (cZ cs off vs)))
 |_=>(False,s)
@[congr]def zAT{s:aj}{p q:Prop}{i off m:Nat}{vs:List ag}{a a':ae}(h:a=a'):EO s p q i off m vs a=EO s p q i off m vs a':=by rw[h]
attribute[simp]EO.eq_1 EO.eq_2
def Ic(s:aj)(p q:Prop)(i k off m:Nat)(vs:List ag):ae->Prop×aj
 |.own e size xs=>(p/\q/\vs.length=m/\k<xs.length/\off+m<=size,gG s i (.own e size (xs.set k (cZ (xs.getD k []) off vs))))
 |_=>(False,s)
@[congr]def zAU{s:aj}{p q:Prop}{i k off m:Nat}{vs:List ag}{a a':ae}(h:a=a'):Ic s p q i k off m vs a=Ic s p q i k off m vs a':=by rw[h]
attribute[simp]Ic.eq_1
def EP(s:aj)(cN x:Prop×ae)(m:Option Nat):Prop×aj:=
 match cN,x,m with
 |(p,.ptr i off),(q,.x bP),some m=>EO s p q i off m bP.cells (s i)
 |(p,.fy i k off),(q,.x bP),some m=>Ic s p q i k off m bP.cells (s i)
 |_,_,_=>(False,s)
@[congr]def zAV{s:aj}{a a' x bJ:Prop×ae}{m iR:Option Nat}(aa:a=a')(ab:x=bJ)(au:m=iR):EP s a x m=EP s a' bJ iR:=by rw[aa,ab,au]
attribute[simp]EP.eq_1 EP.eq_2
@[simp]def zAW(P:aM)(s:aj)(t:aP)(cN x:Prop×ae):lI P s t cN x=EP s cN x (tk P t).cells:=by
 obtain⟨p,a⟩:=cN;obtain⟨q,v⟩:=x;unfold lI EP EO Ic;generalize (tk P t).cells=m;cases a<;>cases v<;>cases m<;>try rfl
 dsimp only;cases s _<;>try rfl
 ·dsimp only;cases lB _ _ _<;>rfl
 ·dsimp only;cases lB _ _ _<;>rfl
def QU(size:Nat):ae->Option (List (List ag))
 |.own _ z aV=>if z=size then some aV else none
 |_=>none
attribute[simp]QU.eq_1 iQ.eq_2 iQ.eq_3
@[simp]def zAX(s:aj)(size j:Nat):iQ s size (.alias j)=QU size (s j):=by unfold iQ QU;rfl
def LX(i:Nat):ae->Option (Option Nat×Option aP×Nat×List (List ag))
 |.own e size xs=>some (some i,some e,size,xs)
 |.db _ e size xs=>some (some i,some e,size,xs)
 |_=>none
attribute[simp]LX.eq_2 LX.eq_1 hO.eq_1
@[simp]def zAY(s:aj)(i:Nat):hO s (.alias i)=LX i (s i):=by unfold hO LX;rfl
def QV(s:aj)(q:Prop)(k:Option IntKind)(e size:Nat)(d':List ag)(z:Option Int)(bytes:Nat):Prop×aj×ae:=
 match z with
 |some n=>(q/\k.isSome=true/\0<n/\n*bytes<=140737488355328/\n<=maxLen,s,.own e size (List.replicate n.toNat d'))
 |none=>(False,s,.dead)
def Cd(s:aj)(p:Prop)(e size:Nat)(b:Option Nat)(src:Option (Option Nat×Option aP×Nat×List (List ag)))(er:Option (List (List ag)))(LE:Nat->Prop×aj×ae):Prop×aj×ae:=
 match b,src,er with
 |some bytes,some (some i,some cg,fe,xs),some aV=>(p/\cg=e/\fe=size/\(xs.length+aV.length)*bytes<=140737488355328/\xs.length+aV.length<=maxLen,put s i .dead,.own e size (xs++aV))
 |some bytes,some (none,_,_,_),some aV=>(p/\aV.length*bytes<=140737488355328/\aV.length<=maxLen,s,.own e size aV)
 |some bytes,some (none,_,_,_),none=>LE bytes
 |_,_,_=>(False,s,.dead)
@[congr]def zAZ{s:aj}{p:Prop}{e size:Nat}{b br:Option Nat}{src Id:Option (Option Nat×Option aP×Nat×List (List ag))}{er X7:Option (List (List ag))}{LE:Nat->Prop×aj×ae}(aa:b=br)(ab:src=Id)(au:er=X7):Cd s p e size b src er LE=Cd s p e size br Id X7 LE:=by rw[aa,ab,au]
attribute[simp]Cd.eq_1 Cd.eq_2
def X8(P:aM)(s:aj)(p q:Prop)(t':aP)(x y:ae):Option (aP×Nat×List ag)->Prop×aj×ae
 |some (e,size,d')=>Cd s p e size (nB P e) (hO s x) (iQ s size y) (QV s q (pK P t') e size d' (KJ y))
 |none=>(False,s,.dead)
def ER(P:aM)(s:aj)(t t':aP)(x y:Prop×ae)(k:Option (aP×Nat×List ag)):Prop×aj×ae:=X8 P s (x.1/\y.1/\t=t') (x.1/\y.1) t' x.2 y.2 k
@[congr]def zBa{P:aM}{s:aj}{t t':aP}{x bJ y Bh:Prop×ae}{k cq:Option (aP×Nat×List ag)}(aa:x=bJ)(ab:y=Bh)(au:k=cq):ER P s t t' x y k=ER P s t t' bJ Bh cq:=by rw[aa,ab,au]
variable(Ie:aP)(LY:ae)
@[simp]def zBb:ER lP cQ gv Ie (dQ,gt) (oy,LY) (some (bg,cc,dI))=Cd cQ (dQ/\oy/\gv=Ie) bg cc (nB lP bg) (hO cQ gt) (iQ cQ cc LY) (QV cQ (dQ/\oy) (pK lP Ie) bg cc dI (KJ LY)):=(rfl)
def zim(P:aM)(s:aj)(t t':aP)(x y:Prop×ae):wq P s t t' x y=ER P s t t' x y (jy P t):=by
 unfold wq ER X8 Cd QV;split
 ·rename_i e size z h;rw[h];simp only;split
  ·simp_all [and_assoc]
  ·simp_all [and_assoc]
  ·rename_i aa ab au;rw[aa,ab,au];simp only;split<;>simp_all [and_assoc]
  ·rename_i aa ab au;split
   ·rename_i a b c;exact absurd c (aa _ _ _ _ _ _ a b)
   ·rename_i a b c;exact absurd c (ab _ _ _ _ _ a b)
   ·rename_i a b c;exact absurd c (au _ _ _ _ a b)
   ·rfl
 ·rename_i h;rw[h]
def Ce(P:aM)(s:aj)(t':aP)(p q:Prop)(l:aq)(row:Option (aP×Nat×List ag))(src:Option (Option Nat×Option aP×Nat×List (List ag))):Prop×aj×ae:=
 match row,src with
 |some (e,size,_),some (some i,some cg,fe,xs)=>(p/\q/\k1 P t'=true/\vQ P e=true/\cg=e/\fe=size/\size=1/\xs.length+l.length<=140737488355328,put s i .dead,.own e size (xs++bq l))
 |some (e,size,_),some (none,_,_,_)=>(p/\q/\k1 P t'=true/\vQ P e=true/\size=1/\l.length<=140737488355328,s,.own e size (bq l))
 |_,_=>(False,s,.dead)
@[congr]def zBc{P:aM}{s:aj}{t':aP}{p q:Prop}{l:aq}{row X9:Option (aP×Nat×List ag)}{src Id:Option (Option Nat×Option aP×Nat×List (List ag))}(aa:row=X9)(ab:src=Id):Ce P s t' p q l row src=Ce P s t' p q l X9 Id:=by rw[aa,ab]
attribute[simp]Ce.eq_1 Ce.eq_2
def ES(P:aM)(s:aj)(t t':aP)(x y:Prop×ae)(o:Option (aq)):Prop×aj×ae:=match o with
 |some l=>Ce P s t' x.1 y.1 l (jy P t) (hO s x.2)
 |none=>ER P s t t' x y (jy P t)
@[congr]def zBd{P:aM}{s:aj}{t t':aP}{x bJ y Bh:Prop×ae}{o di:Option (aq)}(aa:x=bJ)(ab:y=Bh)(au:o=di):ES P s t t' x y o=ES P s t t' bJ Bh di:=by rw[aa,ab,au]
@[simp]def zBe:ES lP cQ gv Ie (dQ,gt) (oy,LY) (some iX)=Ce lP cQ Ie dQ oy iX (jy lP gv) (hO cQ gt):=(rfl)
attribute[simp]ES.eq_2
@[simp]def zBf(P:aM)(s:aj)(t t':aP)(x y:Prop×ae):ff P s t t' x y=ES P s t t' x y (strOf y.2):=by
 unfold ff ES;cases strOf y.2 with
 |none=>exact zim P s t t' x y
 |some l=>unfold xJ Ce;rfl
@[simp]def zBg:strOf (.x (.one (.empty bg)))=none:=(rfl)
@[simp]def zBh:strOf (.x (.one (.list bg gE)))=none:=(rfl)
@[simp]def zBi:strOf (.alias bg)=none:=(rfl)
attribute[simp]strOf.eq_1
@[simp]def zBj:vS []=True:=by simp[vS]
@[simp]def zBk(n:Int)(r:List (List ag)):vS ([.int .u8 n]::r)=vS r:=by
 apply propext;constructor
 ·intro h x ai;exact h x (by simp[ai])
 ·intro h x ai;rcases fp.1 ai with rfl|ai
  ·exact⟨n,rfl⟩
  ·exact h x ai
@[simp]def zBl(l:aq):vS (bq l)=True:=by apply propext;refine⟨fun _=>trivial,fun _ x ai=>?_⟩;simp only[bq,hx]at ai;obtain⟨b,_,rfl⟩:=ai;exact⟨_,rfl⟩
@[simp]def zBm:o3 []=[]:=(rfl)
@[simp]def zBn:o3 ([.int eb fC]::gE)=UInt8.ofNat fC.toNat::o3 gE:=(rfl)
@[simp]def zBo(l:aq):o3 (bq l)=l:=by
 unfold o3 bq;induction l with
 |nil=>rfl
 |cons b r ba=>simp only[kC,Gw];rw[ba];simp
@[simp]def zBp:bq []=[]:=(rfl)
def Ig(a b:aq):bq (a++b)=bq a++bq b:=by simp[bq]
@[simp]def zin(l:aq)(i:Nat):(bq l)[i]?=(l[i]?).map ie:=by simp[bq]
@[simp]def zBq(l:aq)(k:Nat):(bq l).take k=bq (l.take k):=by simp[bq]
@[simp]def LZ(l:aq)(i:Nat)(b:UInt8):(bq l).set i [.int .u8 b.toNat]=bq (l.set i b):=by simp[bq]
def QW(s:aj)(p:Prop)(i aO len size:Nat)(d':List ag):ae->Prop×aj
 |.own e fe xs=>(p/\fe=size,gG s i (.own e fe (xs.take aO++List.replicate len d'++xs.drop (aO+len))))
 |_=>(False,s)
@[congr]def zBr{s:aj}{p:Prop}{i aO len size:Nat}{d':List ag}{v cW:ae}(h:v=cW):QW s p i aO len size d' v=QW s p i aO len size d' cW:=by rw[h]
def X_(s:aj)(k:Option (aP×Nat×List ag))(x:Prop×ae):Prop×aj:=
 match k,x with
 |some (_,size,d'),(p,.view i aO len _)=>QW s p i aO len size d' (s i)
 |_,_=>(False,s)
@[congr]def zBs{s:aj}{k cq:Option (aP×Nat×List ag)}{x bJ:Prop×ae}(aa:k=cq)(ab:x=bJ):X_ s k x=X_ s cq bJ:=by rw[aa,ab]
def ET(s:aj)(args:List aW):Bool->aj
 |true=>s
 |false=>dy s (de s args)
@[congr]def zBt{s:aj}{args:List aW}{b br:Bool}(h:b=br):ET s args b=ET s args br:=by rw[h]
attribute[simp]ET.eq_1 ET.eq_2
@[simp]def zBu(s:aj)(args:List aW)(r:bH):p6 s args r=ET s args r.flat:=by unfold p6 ET;cases r.flat<;>rfl
def wO:List (ag⊕(Nat×Nat))->List Nat->List Nat
 |[],l=>l
 |.inl _::r,l=>wO r l
 |.inr p::r,l=>p.1::wO r l
attribute[simp]wO.eq_1 wO.eq_2 wO.eq_3
def L0:∀(caps:List (ag⊕(Nat×Nat))) (l:List Nat),wO caps l=caps.filterMap o_++l
 |[],l=>rfl
 |.inl c::r,l=>by rw[wO.eq_2,L0 r l];simp[tr,o_]
 |.inr p::r,l=>by rw[wO.eq_3,L0 r l];simp[o_]
def Ih:ae->List Nat->List Nat
 |.alias i,l=>i::l
 |.view i _ _ _,l=>i::l
 |.df _ caps,l=>wO caps l
 |_,l=>l
attribute[simp]de.eq_1
@[simp]def zBv(s:aj)(x:aW)(r:List aW):de s (x::r)=Ih (aJ s x).2 (de s r):=by simp only[de,Ih,A9];generalize (aJ s x).2=v;cases v<;>first|rfl|(simp only[L0])
variable(e6:List Nat)
@[simp]def zBw:Ih (.elem dI) e6=e6:=(rfl)
@[simp]def zBx:Ih (.x fs) e6=e6:=(rfl)
attribute[simp]Ih.eq_1
def EU:ae->List Nat->List Nat
 |.df _ caps,l=>wO caps l
 |_,l=>l
@[simp]def zBy:DM e6 []=[]:=(rfl)
attribute[simp]tu.eq_1
@[simp]def zBz(l m:List Nat)(i:Nat):DM l (i::m)=bif l.contains i then DM l m else i::DM l m:=by simp only[DM,L1];cases l.contains i<;>rfl
def EV:ae->List Nat->List Nat
 |.ptr i 0,l=>i::l
 |_,l=>l
@[simp]def zBA:EV (.x fs) e6=e6:=(rfl)
@[simp]def zBB:EV (.alias bg) e6=e6:=(rfl)
@[simp]def zBC(f:FuncId)(caps:List (ag⊕(Nat×Nat)))(l:List Nat):EV (.df f caps) l=l:=(rfl)
attribute[simp]EV.eq_1 DL.eq_1
@[simp]def zBD(s:aj)(x:aW)(r:List aW):DL s (x::r)=EV (aJ s x).2 (DL s r):=by
 simp only[DL,EV,Ve];generalize (aJ s x).2=v;cases v<;>first|rfl|skip
 rename_i i o;cases o<;>rfl
attribute[simp]DK.eq_1
@[simp]def zBE(s:aj)(x:aW)(r:List aW):DK s (x::r)=EU (aJ s x).2 (DK s r):=by simp only[DK,EU,Vd];generalize (aJ s x).2=v;cases v<;>first|rfl|(simp only[L0])
@[simp]def zBF:EU (.alias bg) e6=e6:=(rfl)
@[simp]def zBG:EU (.ptr bg cc) e6=e6:=(rfl)
@[simp]def zBH:EU (.x fs) e6=e6:=(rfl)
attribute[simp]EU.eq_1
@[congr]def zBI{s:aj}{l pN:List Nat}{k:aj->Prop}(h:l=pN):qU s l k=qU s pN k:=by rw[h]
@[simp]def zBJ:qU cQ [] tM=tM cQ:=(rfl)
attribute[simp]dy.eq_1 dy.eq_2
def QX(s:aj)(i:Nat)(a:ae):aj:=fun j=>if (s j).refs i then kE a (s j)else s j
@[simp]def zBK:kE (.box dI) (.fy bg cc dR)=.dead:=(rfl)
@[simp]def zBL:kE (.box dI) (.alias bg)=.dead:=(rfl)
@[simp]def zBM:kE (.box dI) (.view bg cc dR eC)=.dead:=(rfl)
attribute[simp]QX.eq_1 kE.eq_1 kE.eq_2
@[simp]def zBN(cs:List ag)(f:FuncId)(c c':ag⊕(Nat×Nat))(r:List (ag⊕(Nat×Nat))):kE (.box cs) (.df f (c::c'::r))=.dead:=by
 rcases DG (.box cs) (.df f (c::c'::r))with e|⟨_,_,_,_,e,_⟩|⟨_,_,_,_,e,_⟩
 ·exact e
 ·cases e
 ·cases e
@[simp]def zBO:kE (.own bg cc gE) gt=.dead:=(rfl)
@[simp]def zBP:kE (.elem dI) gt=.dead:=(rfl)
@[simp]def zBQ:kE (.x fs) gt=.dead:=(rfl)
@[simp]def zBR(s:aj)(i:Nat):freeze s i=gG (QX s i (s i)) i (uG (s i)):=by funext j;simp only[freeze,gG.eq_1,QX.eq_1]
attribute[simp]uG.eq_2 uG.eq_1
def EW(i off:Nat)(p:Prop):ae->Prop×ae
 |.link bL o d=>match bL==i&&o==off with
  |true=>(p,.alias d)
  |false=>(p,.x (.one .any))
 |_=>(p,.x (.one .any))
@[congr]def zBS{i off:Nat}{p:Prop}{v cW:ae}(h:v=cW):EW i off p v=EW i off p cW:=by rw[h]
@[simp]def zBT(i off:Nat)(p:Prop)(d:Nat):EW i off p (.link i off d)=(p,.alias d):=by simp[EW]
@[simp]def zBU(s:aj)(i off:Nat)(p:Prop):jT s (.ptr i off) (p,.x (.one .any))=EW i off p (s (ch i off)):=by unfold jT EW;dsimp only;cases s (ch i off)<;>rfl
attribute [simp] Ux
@[simp]def zBV:jT cQ gt (dQ,.x (.agg dI))=(dQ,.x (.agg dI)):=(rfl)
@[simp]def zBW:jT cQ gt (dQ,.x (.one (.bool eC)))=(dQ,.x (.one (.bool eC))):=(rfl)
@[simp]def zBX:jT cQ gt (dQ,.x (.one (.int eb fC)))=(dQ,.x (.one (.int eb fC))):=(rfl)
@[simp]def zBY:jT cQ gt (dQ,.x (.one (.str iX)))=(dQ,.x (.one (.str iX))):=(rfl)
@[simp]def zBZ:jT cQ gt (dQ,.x (.one .nil))=(dQ,.x (.one .nil)):=(rfl)
@[simp]def zCa:jT cQ gt (dQ,.x (.one (.list bg gE)))=(dQ,.x (.one (.list bg gE))):=(rfl)
variable(ph:aI)
@[simp]def zCb:jT cQ gt (dQ,.x (.one (.atom ph)))=(dQ,.x (.one (.atom ph))):=(rfl)
variable(B4:Bool)(H1:List (List ag))
@[simp]def zCc:jT cQ gt (dQ,.x (.one (.i8 eC B4 gE H1)))=(dQ,.x (.one (.i8 eC B4 gE H1))):=(rfl)
section
variable (P:aM)(s:aj)
@[simp]def zCd:bu P s (.move fY)=aJ s fY:=(rfl)
@[simp]def zCe:bu P s (.assign fY)=(True,look s fY):=(rfl)
variable(tN X':aW)
@[simp]def zCf:bu P s (.pick fY tN X')=Dn (aJ s fY) (aJ s tN) (aJ s X'):=(rfl)
@[simp]def zCg:bu P s (.load gv fY)=pL P s gv (aJ s fY):=(rfl)
def QY(i off:Nat)(p:Prop):cf->Prop×ae
 |.one=>(p,.ptr i off)
 |_=>(False,.dead)
attribute[simp]QY.eq_1
@[simp]def zCh(t:aP)(p:Prop)(i off:Nat):pL P s t (p,.et i off)=QY i off p (tk P t):=by unfold pL QY;dsimp only;cases tk P t<;>rfl
@[simp]def zCi:pL P s gv (dQ,.ptr bg cc)=jT s (.ptr bg cc) (k2 (tk P gv) (eH P gv) dQ (mem s (.ptr bg cc))):=(rfl)
@[simp]def zCj:pL P s gv (dQ,.fy bg cc dR)=jT s (.fy bg cc dR) (k2 (tk P gv) (eH P gv) dQ (mem s (.fy bg cc dR))):=(rfl)
@[simp]def zCk:pL P s gv (dQ,.elem dI)=jT s (.elem dI) (k2 (tk P gv) (eH P gv) dQ (mem s (.elem dI))):=(rfl)
@[simp]def zCl:bu P s (.nilCheck fY)=QO (aJ s fY):=(rfl)
@[simp]def zCm(op:BinOp)(t t':aP)(x y:aW):bu P s (.binOp op t x y t')=td P s op t x y:=(rfl)
@[simp]def zCn(op:BinOp)(t:aP)(x:aW)(i:Nat):td P s op t x (.tmp i)=hL P op t (aJ s x) (aJ s (.tmp i)):=(rfl)
@[simp]def zCo(op:BinOp)(t:aP)(x:aW)(k:IntKind)(i:Int):td P s op t x (.const (.int k i))=hL P op t (aJ s x) (aJ s (.const (.int k i))):=(rfl)
@[simp]def zCp(op:BinOp)(t:aP)(x:aW)(b:ByteArray):td P s op t x (.const (.string b))=hL P op t (aJ s x) (aJ s (.const (.string b))):=(rfl)
@[simp]def zCq(op:BinOp)(t:aP)(x:aW)(b:Option Addr)(l c:Nat):td P s op t x (.const (.slice b l c))=hL P op t (aJ s x) (aJ s (.const (.slice b l c))):=(rfl)
@[simp]def zCr(op:UnOp)(t:aP)(x:aW):bu P s (.unOp op t x)=Ds op (aJ s x):=(rfl)
@[simp]def zCs(t:aP)(x:aW)(aO ah mx:Option aW):bu P s (.slice t x aO ah mx)=ky P s t (aJ s x) aO ah mx:=(rfl)
@[simp]def zCt:bu P s (.fieldAddr gv fY bg)=ux P gv bg (aJ s fY):=(rfl)
@[simp]def zCu:bu P s (.indexAddr gv fY tN)=l' P s gv (aJ s fY) (aJ s tN):=(rfl)
@[simp]def zCv:bu P s (.index gv fY tN)=Dq P gv (aJ s fY) (aJ s tN):=(rfl)
def L2(p q:Prop)(cn:gA)(cL:aG)(es:List (aG×aG))(ok:Bool):Option (Option Nat)->Option aG->Prop×ae
 |some r,some z=>(p/\q/\kd cn cL=true,vP es z ok r)
 |_,_=>(False,.dead)
variable(ml:List (aG×aG))
@[simp]def zCw:vP ml fs false none=.x fs:=(rfl)
@[simp]def zCx:vP ml fs true none=.b2 [fs,.one (.bool false)]:=(rfl)
@[simp]def zCy:vP ml fs false (some bg)=.x ((ml[bg]?).getD (fs,fs)).2:=(rfl)
@[simp]def zCz:vP ml fs true (some bg)=.b2 [((ml[bg]?).getD (fs,fs)).2,.one (.bool true)]:=(rfl)
attribute[simp]L2.eq_1
def Ii(p q:Prop)(cn:gA)(cL:aG)(ok:Bool)(z:Option aG):ae->Prop×ae
 |.mp _ _ es=>L2 p q cn cL es ok (fz cn cL es 0) z
 |_=>(False,.dead)
@[congr]def zCA{p q:Prop}{cn:gA}{cL:aG}{ok:Bool}{z kA:Option aG}{v cW:ae}(h:z=kA)(aF:v=cW):Ii p q cn cL ok z v=Ii p q cn cL ok kA cW:=by rw[h,aF]
attribute[simp]Ii.eq_1
def EX(P:aM)(s:aj)(ga:Option (gA×aP))(x k:Prop×ae)(ok:Bool):Prop×ae:=
 match ga,x,k with
 |some (cn,e),(p,.alias i),(q,.x cL)=>Ii p q cn cL ok (eH P e) (s i)
 |some (cn,e),(p,.x (.one (.i8 gz gT bp vs))),(q,.x cL)=>L2 p q cn cL (hR gz gT bp vs) ok (fz cn cL (hR gz gT bp vs) 0) (eH P e)
 |_,_,_=>(False,.dead)
@[congr]def zCB{P:aM}{s:aj}{ga H_:Option (gA×aP)}{x bJ k cq:Prop×ae}{ok:Bool}(aa:ga=H_)(ab:x=bJ)(au:k=cq):EX P s ga x k ok=EX P s H_ bJ cq ok:=by rw[aa,ab,au]
attribute[simp]EX.eq_2 EX.eq_1
@[simp]def zCC(P:aM)(s:aj)(t:aP)(x k:Prop×ae)(ok:Bool):uy P s t x k ok=EX P s (n8 P t) x k ok:=by unfold uy EX Ii L2;rfl
def Ij(f:FuncId):Prop×Option (List ag)->Prop×Option (List (ag⊕(Nat×Nat)))->Prop×ae
 |(p,some cs),_=>(p,.x (.one (.jQ f cs)))
 |_,(p,some cs)=>(p,.df f cs)
 |_,_=>(False,.dead)
@[congr]def zCD{f:FuncId}{a a':Prop×Option (List ag)}{b:Prop×Option (List (ag⊕(Nat×Nat)))}(h:a=a'):Ij f a b=Ij f a' b:=by rw[h]
def Ya(f:FuncId):Prop×Option (List (ag⊕(Nat×Nat)))->Prop×ae
 |(p,some cs)=>(p,.df f cs)
 |_=>(False,.dead)
attribute[simp]Ya.eq_1
@[simp]def zCE(f:FuncId)(p:Prop)(b:Prop×Option (List (ag⊕(Nat×Nat)))):Ij f (p,none) b=Ya f b:=by obtain⟨q,b⟩:=b;cases b<;>rfl
def L3(a:Prop×ae)(b:Prop×Option (List ag)):Prop×Option (List ag):=match a,b with
 |(p,.x (.one c)),(q,some cs)=>(p/\q,some (c::cs))
 |_,_=>(False,none)
@[simp]def zCF(p:Prop)(i o:Nat)(b:Prop×Option (List ag)):L3 (p,.et i o) b=(False,none):=(rfl)
@[simp]def zCG(p:Prop)(i o:Nat)(b:Prop×Option (List ag)):L3 (p,.ptr i o) b=(False,none):=(rfl)
attribute[simp]tc.eq_1
@[simp]def zCH(x:Prop×ae)(r:List (Prop×ae)):tc (x::r)=L3 x (tc r):=by
 obtain⟨p,x⟩:=x;cases x with
 |x v=>cases v with
  |one c=>simp only[tc,L3];generalize tc r=b;obtain⟨q,b⟩:=b;cases b<;>rfl
  |agg cs=>rfl
 |_=>rfl
def EY(a:Prop×ae)(b:Prop×Option (List (ag⊕(Nat×Nat)))):Prop×Option (List (ag⊕(Nat×Nat))):=match a,b with
 |(p,.x (.one c)),(q,some cs)=>(p/\q,some (.inl c::cs))
 |(p,.ptr i off),(q,some cs)=>(p/\off<1000000/\q,some (.inr (i,off)::cs))
 |(p,.et i off),(q,some cs)=>(p/\q,some (.inr (i,off+1000000)::cs))
 |_,_=>(False,none)
attribute[simp]EY.eq_2 EY.eq_3 lC.eq_1
@[simp]def zCI(x:Prop×ae)(r:List (Prop×ae)):lC (x::r)=EY x (lC r):=by
 obtain⟨p,x⟩:=x;cases x with
 |x v=>cases v with
  |one c=>simp only[lC,EY];generalize lC r=b;obtain⟨q,b⟩:=b;cases b<;>rfl
  |agg cs=>rfl
 |ptr i o=>simp only[lC,EY];generalize lC r=b;obtain⟨q,b⟩:=b;cases b<;>rfl
 |et i o=>simp only[lC,EY];generalize lC r=b;obtain⟨q,b⟩:=b;cases b<;>rfl
 |_=>rfl
@[simp]def zCJ(f:FuncId)(cap:List aW):bu P s (.makeFunc (.func f) ⟨[]⟩ ⟨cap⟩)=Ij f (tc (cap.map (aJ s))) (lC (cap.map (aJ s))):=by
 show xm s (.func f) [] cap=_;unfold xm Ij;dsimp only;split
 ·rename_i e;rw[e]
 ·rename_i bY;generalize tc (cap.map (aJ s))=a at bY;generalize lC (cap.map (aJ s))=b;obtain⟨p,a⟩:=a;obtain⟨q,b⟩:=b;cases a with
  |some cs=>exact absurd rfl (bY _ _)
  |none=>cases b<;>rfl
@[simp]def zCK:bu P s (.lookup gv fY tN eC)=uy P s gv (aJ s fY) (aJ s tN) eC:=(rfl)
@[simp]def zCL:bu P s (.extract fY bg)=y5 (aJ s fY) bg:=(rfl)
variable(Yb:List (Nat×aW))
@[simp]def zCM:bu P s (.build gv ⟨Yb⟩)=p2 P (aJ s) gv Yb:=(rfl)
@[simp]def zCN:bu P s (.call ⟨.builtin .len,⟨[fY]⟩,⟨[gv]⟩⟩)=n9 P s gv (aJ s fY):=(rfl)
variable(Qz:Array aP)
@[simp]def zCO:bu P s (.call ⟨.builtin .min,⟨[fY,tN]⟩,Qz⟩)=Dr (aJ s fY) (aJ s tN):=(rfl)
attribute[simp]uz.eq_1 uz.eq_5 uz.eq_7
end
section
variable (P:aM)(s:aj)(t:aP)(p q r:Prop)
variable(jm:IntKind)(h6:Int)
@[simp]def zCP:hL P .shr t (p,.x (.one (.int eb fC))) (q,.x (.one (.int jm h6)))=(p/\q/\0<=h6,.x (.one (.int eb (fC.fdiv (2^(min h6.toNat eb.bits)))))):=(rfl)
@[simp]def zCQ:hL P .add t (p,.x (.one (.int eb fC))) (q,.x (.one (.int jm h6)))=(p/\q/\eb=jm,.x (.one (.int eb (eb.wrap (fC+h6))))):=(rfl)
@[simp]def zCR:hL P .sub t (p,.x (.one (.int eb fC))) (q,.x (.one (.int jm h6)))=(p/\q/\eb=jm,.x (.one (.int eb (eb.wrap (fC-h6))))):=(rfl)
@[simp]def zCS:hL P .mul t (p,.x (.one (.int eb fC))) (q,.x (.one (.int jm h6)))=(p/\q/\eb=jm,.x (.one (.int eb (eb.wrap (fC*h6))))):=(rfl)
@[simp]def zCT:hL P .quo t (p,.x (.one (.int eb fC))) (q,.x (.one (.int jm h6)))=(p/\q/\(eb=jm/\h6≠0),.x (.one (.int eb (eb.wrap (fC.tdiv h6))))):=(rfl)
@[simp]def zCU:hL P .rem t (p,.x (.one (.int eb fC))) (q,.x (.one (.int jm h6)))=(p/\q/\(eb=jm/\h6≠0),.x (.one (.int eb (fC.tmod h6)))):=(rfl)
@[simp]def zCV:hL P .and t (p,.x (.one (.int eb fC))) (q,.x (.one (.int jm h6)))=(p/\q/\eb=jm,.x (.one (.int eb (xk .and eb fC h6)))):=(rfl)
@[simp]def zCW:hL P .xor t (p,.x (.one (.int eb fC))) (q,.x (.one (.int jm h6)))=(p/\q/\eb=jm,.x (.one (.int eb (xk .xor eb fC h6)))):=(rfl)
@[simp]def zCX:hL P .eql t (p,.x (.one (.int eb fC))) (q,.x (.one (.int jm h6)))=(p/\q/\eb=jm,.x (.one (.bool (fC==h6)))):=(rfl)
@[simp]def zCY:hL P .neq t (p,.x (.one (.int eb fC))) (q,.x (.one (.int jm h6)))=(p/\q/\eb=jm,.x (.one (.bool (fC != h6)))):=(rfl)
@[simp]def zCZ:hL P .lss t (p,.x (.one (.int eb fC))) (q,.x (.one (.int jm h6)))=(p/\q/\eb=jm,.x (.one (.bool (decide (fC<h6))))):=(rfl)
@[simp]def zDa:hL P .leq t (p,.x (.one (.int eb fC))) (q,.x (.one (.int jm h6)))=(p/\q/\eb=jm,.x (.one (.bool (decide (fC<=h6))))):=(rfl)
@[simp]def zDb:hL P .gtr t (p,.x (.one (.int eb fC))) (q,.x (.one (.int jm h6)))=(p/\q/\eb=jm,.x (.one (.bool (decide (h6<fC))))):=(rfl)
@[simp]def zDc:hL P .geq t (p,.x (.one (.int eb fC))) (q,.x (.one (.int jm h6)))=(p/\q/\eb=jm,.x (.one (.bool (decide (h6<=fC))))):=(rfl)
variable(qi:aq)
@[simp]def zDd:hL P .add t (p,.x (.one (.str iX))) (q,.x (.one (.str qi)))=(p/\q/\iX.length+qi.length<=maxLen,.x (.one (.str (iX++qi)))):=(rfl)
@[simp]def zDe:hL P .eql t (p,.x (.one (.str iX))) (q,.x (.one (.str qi)))=(p/\q/\True,.x (.one (.bool (iX==qi)))):=(rfl)
@[simp]def zDf:hL P .neq t (p,.x (.one (.str iX))) (q,.x (.one (.str qi)))=(p/\q/\True,.x (.one (.bool (!(iX==qi))))):=(rfl)
@[simp]def zDg:hL P .lss t (p,.x (.one (.str iX))) (q,.x (.one (.str qi)))=(p/\q/\True,.x (.one (.bool (dD iX qi)))):=(rfl)
@[simp]def zDh:hL P .leq t (p,.x (.one (.str iX))) (q,.x (.one (.str qi)))=(p/\q/\True,.x (.one (.bool (dD iX qi ||iX==qi)))):=(rfl)
@[simp]def zDi:hL P .gtr t (p,.x (.one (.str iX))) (q,.x (.one (.str qi)))=(p/\q/\True,.x (.one (.bool (!(dD iX qi ||iX==qi))))):=(rfl)
@[simp]def zDj(op:BinOp)(a:ag):hL P op t (p,.x (.one a)) (q,.x (.one .nil))=Gt P op t p q (AS a):=by cases a<;>rfl
attribute[simp]Gt.eq_1 AS.eq_1 AS.eq_2 AS.eq_3 hL.eq_2
def QZ(p q:Prop)(neg:Bool)(xs aV:List ag):Option (List hK)->Prop×ae
 |some bp=>(p/\q/\iP bp xs aV,.x (.one (.bool (neg != jt xs aV))))
 |none=>(False,.dead)
attribute[simp]QZ.eq_1
@[simp]def zDk(xs aV:List ag):hL P .eql t (p,.x (.agg xs)) (q,.x (.agg aV))=QZ p q false xs aV (uv P t):=by simp only[hL,QZ];cases uv P t<;>simp
attribute[simp]Ds.eq_1 Gv.eq_1 Dr.eq_1 Dq.eq_1
def Q0(p:Prop):Option aG->Prop×ae
 |some v=>(p,.x v)
 |none=>(False,.dead)
attribute[simp]Q0.eq_1
@[simp]def zDl(vs:List aG)(i:Nat):y5 (p,.b2 vs) i=Q0 p (vs[i]?):=by simp only[y5,Q0];cases vs[i]?<;>rfl
def Q1(P:aM)(t:aP)(p d:Prop)(n:Int):Option IntKind->Prop×ae
 |some k=>(p/\d,.x (.one (.int k (k.wrap n))))
 |none=>(p/\d/\k1 P t=true/\0<=n/\n<128,.x (.one (.str [UInt8.ofNat n.toNat])))
attribute[simp]Q1.eq_1
@[simp]def zDm(t':aP)(k:IntKind)(n:Int):o4 P s t t' (p,.x (.one (.int k n)))=Q1 P t' p ((P.underlying t).isSome=true) n (pK P t'):=by simp only[o4,Q1];cases pK P t'<;>rfl
def Ik(p a b:Prop):Option (List (List ag))->Prop×ae
 |some xs=>(p/\a/\b/\vS xs,.x (.one (.str (o3 xs))))
 |none=>(False,.dead)
attribute[simp]Ik.eq_1
def Yc(t':aP)(v:ae)(h:zik v=false/\strOf v=none):o4 P s t t' (p,v)=Ik p (vR P t=true) (k1 P t'=true) (iQ s 1 v):=by
 unfold o4 Ik;split
 ·rename_i e;injection e with _ e;rw[e]at h;cases h.1
 ·rename_i e;injection e with _ e;rw[e]at h;cases h.2
 ·rename_i e;injection e with ax aK;subst ax;subst aK;rfl
@[simp]def zDn(t':aP)(i:Nat):o4 P s t t' (p,.alias i)=Ik p (vR P t=true) (k1 P t'=true) (iQ s 1 (.alias i)):=Yc P s t p t' _ ⟨rfl,rfl⟩
@[simp]def zDo(t':aP)(z:Nat)(xs:List (List ag)):o4 P s t t' (p,.x (.one (.list z xs)))=Ik p (vR P t=true) (k1 P t'=true) (iQ s 1 (.x (.one (.list z xs)))):=Yc P s t p t' _ ⟨rfl,rfl⟩
def Q2(P:aM)(p:Prop)(t:aP)(l:aq):Option (aP×Nat)->Prop×ae
 |some (e,_)=>(p/\k1 P t=true/\vQ P e=true,.own e 1 (bq l))
 |none=>(False,.dead)
@[simp]def zDp:mg P s t gv (p,.alias bg)=(p/\Hm (s bg)=true/\t=gv/\vR P gv=true,.alias bg):=(rfl)
attribute[simp]Q2.eq_1 Hm.eq_1
@[simp]def zDq(t':aP)(l:aq):mg P s t t' (p,.x (.one (.str l)))=Q2 P p t l (gM P t'):=by unfold mg Hl Q2;simp only[strOf];cases gM P t'<;>rfl
@[simp]def zDr(z:Option aG)(c:ag)(l:List ag):xl .one z p (c::l)=(p,.x (.one c)):=(rfl)
@[simp]def zDs(z:Option aG)(n:Nat)(cs:List ag):xl (.agg n) z p cs=(p/\n<=cs.length,.x (.agg (cs.take n))):=(rfl)
attribute[simp]Dn.eq_1 JU.eq_1 k2.eq_1 xl.eq_1 jX.eq_1 jX.eq_2 cf.cells.eq_1 cf.cells.eq_2 aG.cells.eq_1 aG.cells.eq_2 bH.dj.eq_1 bH.dj.eq_2 cZ.eq_1
end
@[congr]def zDt{q eI:Prop×ae}(h:q=eI):EL q=EL eI:=by rw[h]
attribute[simp]EL.eq_1
section
variable (ops:Array Oper)(dst:Option Nat)(ty:aP)(pos:String)(after:Array Edge)(g:Option (Nat×Bool))
@[simp ↓]def zDu {cM}:g_ ops (.move cM)=true:=(rfl)
@[simp ↓]def zDv {cM}:iF ⟨dst,.move cM,ty,pos,after,g⟩=false:=(rfl)
@[simp ↓]def zDw {cM cH dl}:g_ ops (.pick cM cH dl)=true:=(rfl)
@[simp ↓]def zDx {cM}:g_ ops (.alloc cM)=true:=(rfl)
@[simp ↓]def zDy {cM cH}:g_ ops (.build cM cH)=true:=(rfl)
@[simp ↓]def zDz {cM cH}:iF ⟨dst,.build cM cH,ty,pos,after,g⟩=false:=(rfl)
@[simp ↓]def zDA {cM cH dl}:g_ ops (.buildSlice cM cH dl)=true:=(rfl)
@[simp ↓]def zDB {cM cH}:g_ ops (.load cM cH)=true:=(rfl)
@[simp ↓]def zDC {cM cH}:iF ⟨dst,.load cM cH,ty,pos,after,g⟩=false:=(rfl)
@[simp ↓]def zDD {cM cH dl}:sh ⟨dst,.store cM cH dl,ty,pos,after,g⟩=g.isNone:=(rfl)
@[simp ↓]def zDE {cM}:g_ ops (.nilCheck cM)=true:=(rfl)
@[simp ↓]def zDF {cM}:iF ⟨dst,.nilCheck cM,ty,pos,after,g⟩=false:=(rfl)
@[simp ↓]def zDG {cM cH dl ox pm}:g_ ops (.binOp cM cH dl ox pm)=true:=(rfl)
@[simp ↓]def zDH {cM cH dl}:g_ ops (.unOp cM cH dl)=true:=(rfl)
@[simp ↓]def zDI {cM cH dl}:g_ ops (.convert cM cH dl)=true:=(rfl)
@[simp ↓]def zDJ {cM cH}:iF ⟨dst,.makeMap cM cH,ty,pos,after,g⟩=false:=(rfl)
@[simp ↓]def zDK {cM cH dl ox pm}:g_ ops (.slice cM cH dl ox pm)=true:=(rfl)
@[simp ↓]def zDL {cM cH dl}:g_ ops (.fieldAddr cM cH dl)=true:=(rfl)
@[simp ↓]def zDM {cM cH dl}:iF ⟨dst,.fieldAddr cM cH dl,ty,pos,after,g⟩=false:=(rfl)
@[simp ↓]def zDN {cM cH dl}:g_ ops (.indexAddr cM cH dl)=true:=(rfl)
@[simp ↓]def zDO {cM cH dl}:g_ ops (.index cM cH dl)=true:=(rfl)
@[simp ↓]def zDP {cM cH dl ox}:g_ ops (.lookup cM cH dl ox)=true:=(rfl)
@[simp ↓]def zDQ {cM cH}:g_ ops (.extract cM cH)=true:=(rfl)
@[simp ↓]def zDR {x}:iF ⟨dst,.assign x,ty,pos,after,g⟩=false:=(rfl)
@[simp ↓]def zDS {f a ts}:iF ⟨dst,.call ⟨.value f,a,ts⟩,ty,pos,after,g⟩=g.isNone:=(rfl)
@[simp ↓]def zDT {f a ts}:iF ⟨dst,.call ⟨.builtin f,a,ts⟩,ty,pos,after,g⟩=false:=(rfl)
@[simp ↓]def zDU {f a ts}:g_ ops (.call ⟨.value f,a,ts⟩)=true:=(rfl)
@[simp ↓]def zDV {a ts}:g_ ops (.call ⟨.builtin .len,a,ts⟩)=true:=(rfl)
@[simp ↓]def zDW {a ts}:g_ ops (.call ⟨.builtin .min,a,ts⟩)=true:=(rfl)
@[simp ↓]def zDX {v}:g_ ops (.assign (.const v))=true:=(rfl)
attribute[simp↓]g_.eq_1
end
def tP(t:Nat):List Oper->Bool
 |[]=>false
 |o::r=>(o.dst==some t&&BI o.op) ||tP t r
def Cf(b x y:Bool):Bool:=match b with
 |true=>x
 |false=>y
@[congr]def zDY{b br x y:Bool}(h:b=br):Cf b x y=Cf br x y:=by rw[h]
attribute[simp↓]Cf.eq_1 Cf.eq_2
section
variable (t d:Nat)(op:Op)(ty:aP)(pos:String)(after:Array Edge)(g:Option (Nat×Bool))(r:List Oper)
attribute[simp↓]tP.eq_1
@[simp ↓]def zDZ:tP t (⟨none,op,ty,pos,after,g⟩::r)=tP t r:=by simp[tP]
@[simp ↓]def zEa:tP t (⟨some d,op,ty,pos,after,g⟩::r)=Cf (Cb (decide (d=t))) (BI op ||tP t r) (tP t r):=by
 by_cases h:d=t
 ·subst h;simp[tP,Cf]
 ·have:decide (d=t)=false:=by simpa using h
  simp[tP,Cf,h]
end
@[simp ↓]def zEb{l:List Oper}{t:Nat}:g_ ⟨l⟩ (.assign (.tmp t))=!(tP t l):=by
 show (!((⟨l⟩:Array Oper).toList.any fun o=>o.dst==some t&&BI o.op))=_;congr 1;induction l with
 |nil=>rfl
 |cons o r ba=>show ((o.dst==some t&&BI o.op) ||r.any fun o=>o.dst==some t&&BI o.op)=_;rw[tP,<-ba]
attribute [simp] po BI bH.flat aG.flat ag.flat r3 jt iP
section
variable {dst:Option Nat}{ty:aP}{pos:String}{after:Array Edge}{g:Option (Nat×Bool)}
@[simp ↓]def zEc {a ts}:xW ⟨dst,.call ⟨.builtin .append,a,ts⟩,ty,pos,after,none⟩=true:=(rfl)
end
section
variable (P:aM)(n:Nat)(fl:List Bool)(ops:Array Oper)(s:aj)(K:aj->Prop)
def Q3:ae->Prop
 |.own _ _ _=>True
 |_=>False
attribute[simp]Q3.eq_1
def L4:Option (Option Nat×Option aP×Nat×List (List ag))->Option Nat
 |some (some i,_)=>some i
 |_=>none
@[simp]def zEd(q:Option aP×Nat×List (List ag)):L4 (some (none,q))=none:=(rfl)
attribute[simp]L4.eq_1
@[simp]def zEe(v:ae):jF s v=L4 (hO s v):=by
 unfold jF;cases hO s v with
 |none=>rfl
 |some p=>obtain⟨a,b⟩:=p;cases a<;>rfl
@[simp]def zEf(d:Nat)(c:Callee)(x:aW)(r:List aW)(ts:Array aP) (ty pos after g):zG s fl ops ⟨some d,.call ⟨c,⟨x::r⟩,ts⟩,ty,pos,after,g⟩=D' s d fl ops (jF s (aJ s x).2):=(rfl)
attribute [simp] mh xX wC gr WZ
attribute[simp]D'.eq_1 D'.eq_2
@[simp]def zEg(g:Nat)(fl:List Bool):q' g fl []=true:=by cases fl<;>rfl
@[simp]def zEh(g:Nat)(b6:List Bool)(o:Oper)(r:List Oper):q' g (false::b6) (o::r)=q' g b6 r:=by simp[q']
@[simp]def zEi:xY bg (.load gv fY)=false:=(rfl)
@[simp]def zEj:xY bg (.fieldAddr gv fY cc)=false:=(rfl)
@[simp]def zEk(g:Nat)(t:aP) (uP):xY g (.build t uP)=false:=(rfl)
@[simp]def zEl(g:Nat)(t:aP) (k) (uP):xY g (.buildSlice t k uP)=false:=(rfl)
attribute[simp]xY.eq_1
@[simp]def zEm(g d:Nat)(b6:List Bool)(op:Op) (ty pos after BC) (r:List Oper):q' g (true::b6) (⟨some d,op,ty,pos,after,BC⟩::r)=(!decide (d=g)&&(!xY g op&&q' g b6 r)):=by
 have:((some d:Option Nat) != some g)=!decide (d=g):=by
  by_cases h:d=g
  ·subst h;simp
  ·rw[iI h,Bool.not_false,uY];intro e;injection e with e;exact h e
 simp only[q',Bool.not_true,zm];show (((some d:Option Nat) != some g)&&!xY g op&&q' g b6 r)=_
 rw[this,Bool.and_assoc]
end
def Cg(P:aM)(g:FuncId)(i off:Nat)[k:kj (ae->Prop)]:Prop:=∃bX,BR P g bX/\k.val (.df bX [.inr (i,off+1000000)])
def Cg.of{P:aM}{g bX:FuncId}{i off:Nat}{k:ae->Prop}(h:BR P g bX)(ak:k (.df bX [.inr (i,off+1000000)])):@Cg _ P g i off ⟨k⟩:=⟨bX,h,ak⟩
def EZ(P:aM)(f:Option (FuncId×List aG))(p:Prop)(x:Prop×ae)(k:ae->Prop):Prop:=match f,x with
 |some (g,[]),(q,.ptr i off)=>p/\q/\@Cg _ P g i off ⟨k⟩
 |_,_=>False
@[congr]def zEn{P:aM}{f we:Option (FuncId×List aG)}{p kz:Prop}{x bJ:Prop×ae}{k:ae->Prop}(aa:f=we)(ab:p=kz)(au:x=bJ):EZ P f p x k=EZ P we kz bJ k:=by rw[aa,ab,au]
attribute[simp]EZ.eq_1
def zio{P:aM}{f x:Prop×ae}{k:ae->Prop}:(∃r,HL P f x r/\k r)=EZ P (jX f.2) f.1 x k:=by
 apply propext;unfold HL EZ Cg;generalize jX f.2=q;obtain⟨zdw,v⟩:=x;cases q with
 |none=>exact⟨fun ⟨_,h,_⟩=>h.elim,fun h=>h.elim⟩
 |some ziq=>
  obtain⟨g,l⟩:=ziq;cases l with
  |cons a r=>exact⟨fun ⟨_,h,_⟩=>h.elim,fun h=>h.elim⟩
  |nil=>
   cases v with
   |ptr i off=>exact⟨fun ⟨r,⟨am,bK,bX,hm,ao⟩,ak⟩=>⟨am,bK,bX,hm,by subst ao;exact ak⟩,fun ⟨am,bK,bX,hm,ak⟩=>⟨_,⟨am,bK,bX,hm,rfl⟩,ak⟩⟩
   |_=>exact⟨fun ⟨_,h,_⟩=>h.elim,fun h=>h.elim⟩
section
variable (P:aM)(n:Nat)(ops:Array Oper)(s:aj)(K:aj->Prop)
@[simp]def zEo(d:Nat)(f x:aW)(ts:Array aP) (ty pos after g):x4 P n ops ⟨some d,.call ⟨.value f,⟨[x]⟩,ts⟩,ty,pos,after,some g⟩ s K=(d<n/\(s d).aR=false/\gu (dA ops s g) (fun e=>yb e (EZ P (jX (aJ s f).2) (aJ s f).1 (aJ s x) (fun r=>K (put s d (.cond true r)))) (K (put s d (.cond false (.x (.one (.bool false)))))))):=by
 rw[<-zio];show (d<n/\(s d).aR=false/\(match dA ops s g with|some true=>_|some false=>_|none=>False))=_
 cases dA ops s g with
 |none=>rfl
 |some e=>cases e<;>rfl
@[congr]def zEp{P:aM}{n:Nat}{ops:Array Oper}{o:Oper}{K:aj->Prop}{s s':aj}(h:s=s'):x4 P n ops o s K=x4 P n ops o s' K:=by rw[h]
@[congr]def zEq{P:aM}{n:Nat}{fl b6:List Nat}{ops:Array Oper}{l:List Oper}{K:aj->Prop}{s s':aj}(h:s=s'):e3 P n fl ops b6 l s K=e3 P n fl ops b6 l s' K:=by rw[h]
variable (fl:List Nat)
@[simp ↓]def zEr(b6:List Nat):e3 P n fl ops b6 [] s K=K s:=by simp only[e3]
@[simp]def zEs(b6:List Nat)(o:Oper)(r:List Oper):e3 P n fl ops (0::b6) (o::r) s K=bR P n ops [o] (dE s) (fun s'=>e3 P n fl ops b6 r (dE s') K):=(rfl)
@[simp]def zEt(b6:List Nat)(o:Oper)(r:List Oper):e3 P n fl ops (1::b6) (o::r) s K=dU P n ops o (dE s) (fun s'=>e3 P n fl ops b6 r (dE s') K):=(rfl)
@[simp]def zEu(b6:List Nat)(o:Oper)(r:List Oper):e3 P n fl ops (2::b6) (o::r) s K=x4 P n ops o (dE s) (fun s'=>e3 P n fl ops b6 r (dE s') K):=(rfl)
@[simp]def zEv(b6:List Nat)(o:Oper)(r:List Oper):e3 P n fl ops (4::b6) (o::r) s K=(xW o=true/\zG (dE s) (zJ fl) ops o/\bR P n ops [o] (dE s) (fun s'=>e3 P n fl ops b6 r (dE s') K)):=(rfl)
@[simp]def zEw(b6:List Nat)(o:Oper)(r:List Oper):e3 P n fl ops (5::b6) (o::r) s K=(Eg (dE s) o/\bR P n ops [o] (dE s) (fun s'=>e3 P n fl ops b6 r (dE s') K)):=(rfl)
@[simp]def zEx(b6:List Nat)(o:Oper)(r:List Oper):e3 P n fl ops (6::b6) (o::r) s K=(zI o=true/\mh P (dE s) o.op/\dU P n ops o (dE s) (fun s'=>e3 P n fl ops b6 r (dE s') K)):=(rfl)
@[simp]def zEy(b6:List Nat)(o:Oper)(r:List Oper):e3 P n fl ops (7::b6) (o::r) s K=(mh P (dE s) o.op/\dU P n ops o (dE s) (fun s'=>e3 P n fl ops b6 r (dE s') K)):=(rfl)
@[simp]def zEz(b6:List Nat)(o:Oper)(r:List Oper):e3 P n fl ops (8::b6) (o::r) s K=(sk (dE s) o/\dU P n ops o (dE s) (fun s'=>e3 P n fl ops b6 r (dE s') K)):=(rfl)
@[simp]def zEA(b6:List Nat)(o:Oper)(r:List Oper):e3 P n fl ops (9::b6) (o::r) s K=(xW o=true/\zG (dE s) (x3 fl) ops o/\bR P n ops [o] (dE s) (fun s'=>e3 P n fl ops b6 r (dE s') K)):=(rfl)
@[simp]def zEB:x3 []=[]:=(rfl)
@[simp]def zEC:x3 (bg::e6)=(bg==6 ||bg==7)::x3 e6:=(rfl)
@[simp]def zED(d:Option Nat)(k:Nat) (ty pos after):sk s ⟨d,.move (.tmp k),ty,pos,after,none⟩=Q3 (s k):=by
 unfold sk Q3;apply propext;constructor
 ·rintro⟨cq,e,z,xs,aa,_,au⟩;obtain rfl:k=cq:=by simpa using aa
  simp[au]
 ·intro h;cases hs:s k<;>rw[hs]at h<;>first|(exact⟨k,_,_,_,rfl,rfl,hs⟩)|exact h.elim
@[simp]def zEE:zJ []=[]:=(rfl)
@[simp]def zEF:zJ (bg::e6)=(bg==6 ||bg==7 ||bg==8)::zJ e6:=(rfl)
@[simp]def zEG(d:Option Nat)(x:aW) (ty pos after):zI ⟨d,.move x,ty,pos,after,none⟩=true:=(rfl)
@[simp]def zEH(t:aP)(a x:aW) (ty pos after):Eg s ⟨none,.store t a x,ty,pos,after,none⟩=((lJ s (aJ s a) (aJ s x)).isSome=true):=by simp[Eg]
end
end
section
variable [bn]
def mk:List (Nat×ae)->aj
 |[]=>LH
 |(i,v)::r=>gG (mk r) i v
attribute[simp]mk.eq_1 mk.eq_2
def kk(a v:ae):Prop:=match v with
 |.own _ _ []=>a=v\/a=.x (.one .nil)
 |v=>a=v
def Il(s:aj)(full:List (Nat×ae)):List (ag⊕(Nat×Nat))->Prop
 |[]=>True
 |.inl _::r=>Il s full r
 |.inr p::r=>mk full p.1=s p.1/\Il s full r
def L5(s:aj)(full:List (Nat×ae)):ae->Prop
 |.ptr j _=>mk full j=s j
 |.et j _=>mk full j=s j
 |.fy j _ _=>mk full j=s j
 |.alias j=>mk full j=s j
 |.view j _ _ _=>mk full j=s j
 |.df _ caps=>Il s full caps
 |.cond _ v=>L5 s full v
 |.link i _ d=>mk full i=s i/\mk full d=s d
 |_=>True
def nM(s:aj)(full:List (Nat×ae)):List (Nat×ae)->Prop
 |[]=>True
 |(i,v)::r=>kk (s i) v/\L5 s full v/\nM s full r
def Q4{s:aj}{full:List (Nat×ae)}{j:Nat}:∀{caps:List (ag⊕(Nat×Nat))},Il s full caps->caps.any (l5 j)=true->mk full j=s j
 |.inl _::r,h,ao=>Q4 (caps:=r) h (by simpa using ao)
 |.inr p::r,h,ao=>by
  simp only[Bs,l5.eq_2,gl,fc]at ao;rcases ao with ao|ao
  ·subst ao;exact h.1
  ·exact Q4 (caps:=r) h.2 ao
def zir{s:aj}{full:List (Nat×ae)}{j:Nat}:∀{v:ae},L5 s full v->v.refs j=true->mk full j=s j:=by
 intro v;induction v with
 |ptr i o=>intro h ao;simp at ao;subst ao;exact h
 |et i o=>intro h ao;simp at ao;subst ao;exact h
 |fy i o k=>intro h ao;simp at ao;subst ao;exact h
 |alias i=>intro h ao;simp at ao;subst ao;exact h
 |view i aO len wh=>intro h ao;simp at ao;subst ao;exact h
 |df f caps=>intro h ao;exact Q4 h ao
 |cond e v ba=>intro h ao;simp at ao;exact ba h ao
 |link i o d=>
  intro h ao;simp at ao;rcases ao with rfl|rfl
  ·exact h.1
  ·exact h.2
 |_=>intro h ao;cases ao
def nM.at{s:aj}{full:List (Nat×ae)}:∀{l:List (Nat×ae)},nM s full l->∀i,(mk l i=s i\/mk l i=.dead\/(s i=.x (.one .nil)/\∃e size,mk l i=.own e size []))/\∀j,(mk l i).refs j=true->mk full j=s j
 |[],_,i=>⟨.inr (.inl rfl),fun j h=>by cases h⟩
 |(k,v)::r,h,i=>by
  obtain⟨aa,ab,au⟩:=h;have ba:=nM.at au i;simp only[mk.eq_2,gG.eq_1];split
  ·rename_i ak;subst ak;refine⟨?_,fun j ac=>zir ab ac⟩;unfold kk at aa;split at aa
   ·rcases aa with aa|aa
    ·exact .inl aa.symm
    ·exact .inr (.inr ⟨aa,_,_,rfl⟩)
   ·exact .inl aa.symm
  ·exact ba
def Q5{s:aj}{l:List (Nat×ae)}(h:nM s l l):zM s (mk l):=⟨s,.inl rfl,[],fun i=>(nM.at h i).1,fun i j ac=>(nM.at h i).2 j ac⟩
def zis{s:aj}{l:List (Nat×ae)}{i c:Nat}{bs:List Nat}{es:List (aG×aG)}(jg:List (aG×aG))(ah:s i=.mp c bs es)(he:Ke s es jg)(h:nM (xp s i c bs jg) l l):zM s (mk l):=⟨_,.inr ⟨i,c,bs,es,jg,ah,he,rfl⟩,[],fun i=>(nM.at h i).1,fun i j ac=>(nM.at h i).2 j ac⟩
def b0.fL{n:Nat}{s:aj}{X:aj->Prop}{l:List (Nat×ae)}(ak:nM s l l)(h:X (mk l)):@b0 _ n s ⟨X⟩:=fun _ _ _ _ af=>⟨mk l,af.fL (Q5 ak),h⟩
def b0.share{X:aj->Prop}{ι:Type}(I:ι->List (Nat×ae))(ok:ι->Prop){G:Prop}(main:(∀y,ok y->X (mk (I y)))->G)(rest:∀y,ok y->X (mk (I y))):G:=main rest
attribute [simp] L5 nM Il
section
variable (a:ae)
@[simp]def zEI:kk a .dead=(a=.dead):=(rfl)
variable(fs:aG)
@[simp]def zEJ:kk a (.x fs)=(a=.x fs):=(rfl)
variable(jG:List aG)
@[simp]def zEK:kk a (.b2 jG)=(a=.b2 jG):=(rfl)
variable(dI:List ag)
@[simp]def zEL:kk a (.box dI)=(a=.box dI):=(rfl)
variable(bg cc:Nat)
@[simp]def zEM:kk a (.ptr bg cc)=(a=.ptr bg cc):=(rfl)
@[simp]def zEN:kk a (.et bg cc)=(a=.et bg cc):=(rfl)
@[simp]def zEO:kk a (.cR bg dI)=(a=.cR bg dI):=(rfl)
variable(e6:List Nat)(ml:List (aG×aG))
@[simp]def zEP:kk a (.gL bg cc e6 ml)=(a=.gL bg cc e6 ml):=(rfl)
variable(ph:aI)(gE:List (List ag))
@[simp]def zEQ:kk a (.db ph bg cc gE)=(a=.db ph bg cc gE):=(rfl)
variable(dR:Nat)
@[simp]def zER:kk a (.fy bg cc dR)=(a=.fy bg cc dR):=(rfl)
@[simp]def zES:kk a (.elem dI)=(a=.elem dI):=(rfl)
@[simp]def zET:kk a (.alias bg)=(a=.alias bg):=(rfl)
variable(eC:Bool)
@[simp]def zEU:kk a (.view bg cc dR eC)=(a=.view bg cc dR eC):=(rfl)
@[simp]def zEV(f:FuncId)(caps:List (ag⊕(Nat×Nat))):kk a (.df f caps)=(a=.df f caps):=(rfl)
variable(gt:ae)
@[simp]def zEW:kk a (.cond eC gt)=(a=.cond eC gt):=(rfl)
@[simp]def zEX:kk a (.link bg cc dR)=(a=.link bg cc dR):=(rfl)
variable(qg:List (Nat×Nat))
@[simp]def zEY:kk a (.res qg)=(a=.res qg):=(rfl)
@[simp]def zEZ(e z cg kA:Nat)(xs ea:List (List ag)):kk (.own e z xs) (.own cg kA ea)=(ae.own e z xs=.own cg kA ea):=by
 unfold kk;split
 ·rename_i h;injection h with aa ab au;subst aa;subst ab;subst au;simp
 ·rfl
@[simp]def zFa:kk a (.mp bg e6 ml)=(a=.mp bg e6 ml):=(rfl)
@[simp]def zFb(e z:Nat)(xs:List (List ag)):kk (.x (.one .nil)) (.own e z xs)=(xs=[]):=by
 unfold kk;split
 ·rename_i h;injection h with aa ab au;subst au;simp
 ·rename_i h;have:xs≠[]:=by rintro rfl;exact h _ _ rfl
  simp[this]
end
def bt{ι:Type}[I:kj (ι->List (Nat×ae))][ok:kj (ι->Prop)][μ:kj (ι->Nat)](m:Nat)(s:aj):Prop:=∃y,ok.val y/\μ.val y<m/\zM s (mk (I.val y))
def bt.of{ι:Type}{I:ι->List (Nat×ae)}{ok:ι->Prop}{μ:ι->Nat}{m:Nat}{s:aj}(y:ι)(aa:ok y)(ab:μ y<m)(au:nM s (I y) (I y)):@bt ι ⟨I⟩ ⟨ok⟩ ⟨μ⟩ m s:=⟨y,aa,ab,Q5 au⟩
def ck.of{body:(Exit->aj->Prop)->aj->Prop}{Q:Exit->aj->Prop}{s:aj}(ι:Type)(I:ι->List (Nat×ae))(ok:ι->Prop)(μ:ι->Nat)(x:ι)(ai:ok x)(hs:nM s (I x) (I x))
  (h:∀x,ok x->body (u7 (@bt ι ⟨I⟩ ⟨ok⟩ ⟨μ⟩ (μ x)) Q) (mk (I x))):@ck ⟨body⟩ ⟨Q⟩ s:=⟨ι,fun x=>mk (I x),ok,μ,⟨x,ai,Q5 hs⟩,h⟩
def ve(G e z:Nat):List (aI×List (List ag))->Nat->List (Nat×ae)
 |[],_=>[]
 |x::r,k=>(G+k,.db x.1 e z x.2)::ve G e z r (k+1)
def Q6{G e z i:Nat}:∀{l:List (aI×List (List ag))} {k:Nat},(∀j,j<l.length->i≠G+(k+j))->mk (ve G e z l k) i=.dead
 |[],_,_=>rfl
 |x::r,k,h=>by simp only[ve,mk.eq_2,gG.eq_1];rw[an (by have:=h 0 (by simp);simpa using this)];exact Q6 fun j ac=>by have:=h (j+1) (by simpa using ac);rwa[show k+(j+1)=k+1+j by omega]at this
@[simp]def zFc{G e z i k:Nat}{l:List (aI×List (List ag))}(h:i<G):mk (ve G e z l k) i=.dead:=Q6 fun j _=>by omega
def zit{G e z i k:Nat}{l:List (aI×List (List ag))}(h:G+(k+l.length)<=i):mk (ve G e z l k) i=.dead:=Q6 fun j ac=>by omega
def wP{G e z:Nat}:∀{l:List (aI×List (List ag))} {k j:Nat} {x:aI×List (List ag)},l[j]?=some x->mk (ve G e z l k) (G+(k+j))=.db x.1 e z x.2
 |y::r,k,0,x,h=>by simp at h;subst h;simp[ve]
 |y::r,k,j+1,x,h=>by simp only[ve,mk.eq_2,gG.eq_1];rw[an (by omega),show k+(j+1)=k+1+j by omega];exact wP (by simpa using h)
def zQ{s:aj}{full:List (Nat×ae)}{G e z:Nat}:∀{l:List (aI×List (List ag))} {k:Nat},(∀j x,l[j]?=some x->s (G+(k+j))=.db x.1 e z x.2)->nM s full (ve G e z l k)
 |[],_,_=>trivial
 |x::r,k,h=>⟨by have:=h 0 x rfl;simp only[xg]at this;simp[this],trivial,zQ fun j y ac=>by have:=h (j+1) y (by simpa using ac);rwa[show k+(j+1)=k+1+j by omega]at this⟩
attribute [simp] ae.nz wa
attribute[simp]xp.eq_1
def ck.ziu{body:(Exit->aj->Prop)->aj->Prop}{Q:Exit->aj->Prop}{s:aj}(i:Nat){c:Nat}{bs:List Nat}{es:List (aG×aG)}(jg:List (aG×aG))(ι:Type)(I:ι->List (Nat×ae))(ok:ι->Prop)(μ:ι->Nat)(x:ι)(ai:ok x)
  (ah:s i=.mp c bs es)(he:Ke s es jg)(hs:nM (xp s i c bs jg) (I x) (I x))
  (h:∀x,ok x->body (u7 (@bt ι ⟨I⟩ ⟨ok⟩ ⟨μ⟩ (μ x)) Q) (mk (I x))):@ck ⟨body⟩ ⟨Q⟩ s:=⟨ι,fun x=>mk (I x),ok,μ,⟨x,ai,zis jg ah he hs⟩,h⟩
def E0(P:aM)(rs:List ResultVar)(r:bH)(e:Exit)(s:aj):Prop:=(e=.normal\/e=.ret)/\kM P s rs [] r
@[congr]def zFd{P:aM}{rs:List ResultVar}{r:bH}{e:Exit}{s s':aj}(h:s=s'):E0 P rs r e s=E0 P rs r e s':=by rw[h]
@[congr]def zFe{r:bH}{q eI:Prop×Option (List aG)}(h:q=eI):sn r q=sn r eI:=by rw[h]
@[simp]def zFf(r:bH)(p:Prop):sn r (p,some [])=(p/\xM r (.b2 [])):=(rfl)
@[simp]def zFg(r:bH)(p:Prop)(x y:aG)(l:List aG):sn r (p,some (x::y::l))=(p/\xM r (.b2 (x::y::l))):=(rfl)
attribute[simp]sn.eq_1
@[simp]def zFh(P:aM)(rs:List ResultVar)(r:bH)(s:aj):E0 P rs r .ret s=kM P s rs [] r:=by simp only[E0,or_true,mX]
section
variable (P:aM)(s:aj)(outs:List ae)(e z:Nat)(xs:List (List ag))
variable(yc:List ResultVar)(fs:aG)
@[simp]def zFi:kM P s yc outs (.x fs)=sn (.x fs) (re P s yc):=(rfl)
variable(jG:List aG)
@[simp]def zFj:kM P s yc outs (.b2 jG)=sn (.b2 jG) (re P s yc):=(rfl)
attribute[simp]kM.eq_1
@[congr]def zFk{s:aj}{outs:List ae}{e z:Nat}{xs:List (List ag)}{t:Nat}{v cW:ae}(h:v=cW):B2 s outs e z xs t v=B2 s outs e z xs t cW:=by rw[h]
variable(bg cc dR:Nat)(gE:List (List ag))
@[simp]def zFl:B2 s outs e z xs bg (.own cc dR gE)=(cc=e/\dR=z/\xs=gE/\tL outs bg):=(rfl)
attribute[simp]B2.eq_4
@[congr]def zFm{outs:List ae}{e z:Nat}{xs:List (List ag)}{i:Nat}{len:Option Nat}{v cW:ae}(h:v=cW):x8 outs e z xs i len v=x8 outs e z xs i len cW:=by rw[h]
@[simp]def zFn(i:Nat):tL [] i=True:=by simp only[tL]
attribute[simp]tL.eq_3
end
def zR(P:aM)(rs:List ResultVar)(r:bH)(outs:List ae)(e:Exit)(s:aj):Prop:=(e=.normal\/e=.ret)/\kM P s rs outs r/\j1 (im s rs r) 0 outs
@[congr]def zFo{P:aM}{rs:List ResultVar}{r:bH}{outs:List ae}{e:Exit}{s s':aj}(h:s=s'):zR P rs r outs e s=zR P rs r outs e s':=by rw[h]
@[simp]def zFp(P:aM)(rs:List ResultVar)(r:bH)(outs:List ae)(s:aj):zR P rs r outs .normal s=(kM P s rs outs r/\j1 (im s rs r) 0 outs):=by simp only[zR,true_or,mX]
@[simp]def zFq(P:aM)(rs:List ResultVar)(r:bH)(outs:List ae)(s:aj):zR P rs r outs .ret s=(kM P s rs outs r/\j1 (im s rs r) 0 outs):=by simp only[zR,or_true,mX]
@[congr]def zFr{s s':aj}{k:Nat}{outs:List ae}(h:s=s'):j1 s k outs=j1 s' k outs:=by rw[h]
variable(cQ:aj)(yc:List ResultVar)(fs:aG)
@[simp]def zFs:im cQ yc (.x fs)=dy cQ (de cQ (yc.map qf)):=(rfl)
variable(jG:List aG)
@[simp]def zFt:im cQ yc (.b2 jG)=dy cQ (de cQ (yc.map qf)):=(rfl)
attribute[simp]im.eq_1 qf.eq_1 qf.eq_2 j1.eq_1
@[simp]def zFu(s:aj)(k:Nat)(r:List ae):j1 s k (.dead::r)=j1 s (k+1) r:=by simp only[j1,mX]
variable(bg:Nat)(dI:List ag)(EQ:List ae)
@[simp]def zFv:j1 cQ bg (.box dI::EQ)=(cQ bg=.box dI/\j1 cQ (bg+1) EQ):=(rfl)
variable(cc:Nat)
@[simp]def zFw:j1 cQ bg (.cR cc dI::EQ)=(cQ bg=.cR cc dI/\j1 cQ (bg+1) EQ):=(rfl)
@[simp]def zFx:jk [] bg=LH:=(rfl)
variable(gt:ae)
@[simp]def zFy:jk (gt::EQ) bg=gG (jk EQ (bg+1)) bg gt:=(rfl)
def az.of[Hint]{P:aM}{f:FuncId}{fn:Func}{c:Code}{args:List aG}{r:bH}(hm:P.follows .mixedOrders=true)(aw:P.funcs[f]?=some fn) (fJ:(fn.name== "runtime.NumGoroutine")=false)
  (ad:fn.body=some c)(aD:codeOk c=true)(al:args.length<=fn.ntmps)(h:(∀x∈args,x.ok)->gh P fn.ntmps c (E0 P fn.results.toList r) (u' args 0)):az P f args r:=az.mk hm aw fJ ad aD al h
def cx.of[Hint]{P:aM}{f:FuncId}{fn:Func}{c:Code}{args:List ae}{r:bH}{outs:List ae}(hm:P.follows .mixedOrders=true)(aw:P.funcs[f]?=some fn) (fJ:(fn.name== "runtime.NumGoroutine")=false)
  (ad:fn.body=some c)(aD:codeOk c=true)(dP:lO (mi outs) c=true)(fm:hh args outs=true)(al:args.length<=fn.ntmps)(h:(∀x∈args,x.ok)->gh P fn.ntmps c (zR P fn.results.toList r outs) (jk args 0)):cx P f args r outs:=
 cx.mk hm aw fJ ad aD dP al fm (fun _ _ h=>h) h
def az.bd[Hint]{P:aM}{f:FuncId}{c:Code}{args:List aG}{r:bH}(fn:Func)(hm:P.follows .mixedOrders=true)(h:(∀x∈args,x.ok)->gh P fn.ntmps c (E0 P fn.results.toList r) (u' args 0))(aw:P.funcs[f]?=some fn:=by kernel_rfl)(fJ:(fn.name == "runtime.NumGoroutine")=false:=by kernel_rfl)(ad:fn.body=some c:=by exact rfl)(aD:codeOk c=true:=by kernel_rfl)(al:args.length<=fn.ntmps:=by exact Nat.le_of_ble_eq_true rfl):az P f args r:=az.of hm aw fJ ad aD al h
def cx.bd[Hint]{P:aM}{f:FuncId}{c:Code}{args:List ae}{r:bH}{outs:List ae}(fn:Func)(hm:P.follows .mixedOrders=true)(h:(∀x∈args,x.ok)->gh P fn.ntmps c (zR P fn.results.toList r outs) (jk args 0))(aw:P.funcs[f]?=some fn:=by kernel_rfl)(fJ:(fn.name == "runtime.NumGoroutine")=false:=by kernel_rfl)(ad:fn.body=some c:=by exact rfl)(aD:codeOk c=true:=by kernel_rfl)(dP:lO (mi outs) c=true:=by kernel_rfl)(fm:hh args outs=true:=by exact rfl)(al:args.length<=fn.ntmps:=by exact Nat.le_of_ble_eq_true rfl):cx P f args r outs:=cx.of hm aw fJ ad aD dP fm al h
def E1(P:aM)(rs:List ResultVar)(mj:List (Nat×Nat))(r:bH)(outs:List ae)(e:Exit)(s:aj):Prop:=(e=.normal\/e=.ret)/\kM P (pq s mj) rs outs r/\j1 (im (pq s mj) rs r) 0 outs
@[congr]def zFz{P:aM}{rs:List ResultVar}{mj:List (Nat×Nat)}{r:bH}{outs:List ae}{e:Exit}{s s':aj}(h:s=s'):E1 P rs mj r outs e s=E1 P rs mj r outs e s':=by rw[h]
@[simp]def zFA(P:aM)(rs:List ResultVar)(mj:List (Nat×Nat))(r:bH)(outs:List ae)(s:aj):E1 P rs mj r outs .ret s=(kM P (pq s mj) rs outs r/\j1 (im (pq s mj) rs r) 0 outs):=by simp only[E1,or_true,mX]
def cx.E2[Hint](c2 mj:List (Nat×Nat)){P:aM}{f:FuncId}{fn:Func}{c:Code}{args:List ae}{r:bH}{outs:List ae}(f':args.length<=999999)(hm:P.follows .mixedOrders=true)(aw:P.funcs[f]?=some fn) (fJ:(fn.name== "runtime.NumGoroutine")=false)
  (ad:fn.body=some c)(aD:codeOk c=true)(dP:lO (mi outs) c=true)(fm:hh args outs=true)(al:args.length<=fn.ntmps)(h:(∀x∈args,x.ok)->gh P fn.ntmps c (E1 P fn.results.toList mj r outs) (sl (jk args 0) c2)):cx P f args r outs:=
 cx.Qp hm aw fJ ad aD dP al fm c2 mj (.inr f') (fun _ _ h=>h) h
def az.E2[Hint](c2 mj:List (Nat×Nat)){P:aM}{f:FuncId}{fn:Func}{c:Code}{args:List aG}{r:bH}(f':args.length<=999999)(hm:P.follows .mixedOrders=true)(aw:P.funcs[f]?=some fn) (fJ:(fn.name== "runtime.NumGoroutine")=false)
  (ad:fn.body=some c)(aD:codeOk c=true)(al:args.length<=fn.ntmps)(h:(∀x∈args,x.ok)->gh P fn.ntmps c (E1 P fn.results.toList mj r (args.map fun _=>ae.dead)) (sl (u' args 0) c2)):az P f args r:=by
 refine az.ofM (cx.Qp hm aw fJ ad aD (by rw[H2];exact Ep c) (by simpa using al) (H4 args) c2 mj (.inr (by simpa using f')) (fun _ _ h=>h) (fun ai=>?_));rw[<-LF args 0];exact h (fun x hm=>ai (.x x) (hx.2 ⟨x,hm,rfl⟩))
def cz.ziv{w:bb}{S:Nat->Prop}{v:aI}(size:Nat)(h:cz w S (.one .nil) v):cz w S (.one (.list size [])) v:=by cases h;exact .mF none 0 size (by decide) (fun _=>rfl)
def Q7(c c':ag):Prop:=c=c'\/(c=.nil/\∃size,c'=.list size [])
def Ch:List ag->List ag->Prop
 |[],[]=>True
 |c::r,c'::cD=>Q7 c c'/\Ch r cD
 |_,_=>False
def Ch.at:∀{cs cs':List ag},Ch cs cs'->cs.length=cs'.length/\∀(j:Nat) (c':ag),cs'[j]?=some c'->∃c,cs[j]?=some c/\Q7 c c'
 |[],[],_=>⟨rfl,fun j c' h=>by simp at h⟩
 |c::r,c'::cD,h=>by
  obtain⟨aa,ab⟩:=Ch.at h.2;refine⟨by simp[aa],fun j d ac=>?_⟩;cases j with
  |zero=>simp at ac;subst ac;exact⟨c,rfl,h.1⟩
  |succ j=>simp at ac;exact ab j d ac
def cz.le{w:bb}{S:Nat->Prop}{v:aI}{cs cs':List ag}(h:Ch cs cs')(ao:cz w S (.agg cs) v):cz w S (.agg cs') v:=by
 obtain⟨us,aF,al,ai⟩:=ao;obtain⟨aa,ab⟩:=Ch.at h;refine⟨us,aF,by rw[al,aa],fun j c' ac=>?_⟩;obtain⟨c,ap,cG⟩:=ab j c' ac;obtain⟨u,hu,b8⟩:=ai j c ap;rcases cG with rfl|⟨rfl,size,rfl⟩
 ·exact⟨u,hu,b8⟩
 ·exact⟨u,hu,cz.ziv size b8⟩
def az.Q8{P:aM}{f:FuncId}{cs cs':List ag}{r:bH}(h:Ch cs cs')(ap:az P f [.agg cs'] r):az P f [.agg cs] r:=by
 refine⟨ap.1,fun w S vs bS bj=>ap.2 w S vs bS ⟨bj.1,fun j x ac=>?_⟩⟩;cases j with
 |zero=>simp at ac;subst ac;obtain⟨u,hu,ao⟩:=bj.2 0 _ rfl;exact⟨u,hu,cz.le h ao⟩
 |succ j=>simp at ac
def Q9{P:aM}{hj:Env}{w:bb}{args:List ae}{vs:Array aI}{n m:Nat}(m6:pI hj w)(gF:Ba w hj args vs)(al:args.length<=n) :
  Rel ⟨hj.rd,hj.fb,m,cw vs⟩ w n (jk args 0) {tmps:=vs++Array.replicate (n-vs.size) undef,defers:=[]} w:=by
 have cB:vs.size<=n:=jc gF.size al;have iw:∀i,aL {tmps:=vs++Array.replicate (n-vs.size) undef,defers:=[]} i=cw vs i:=by
  intro i;simp only[aL,cw,s_,Qs];split
  ·rfl
  ·rename_i ah;rw[H3 (by omega:vs.size<=i),Qt];split<;>rfl
 have Qu:aL {tmps:=vs++Array.replicate (n-vs.size) undef,defers:=[]}=cw vs:=funext iw;have eW:pI ⟨hj.rd,hj.fb,m,cw vs⟩ w:=⟨m6.rd,m6.fb,m6.apart,m6.xi,m6.y0⟩
 have B3:∀i,jk args 0 i=eT args i:=fun i=>by rw[H0];simp[eT]
 have Qv:jk args 0=eT args:=funext B3;have kg:∀i,eT args i=.dead\/∃x,args[i]?=some x/\eT args i=x/\qW args x=true/\dp w hj.rd hj.fb (eT args) (cw vs) x (cw vs i):=by
  intro i;cases ai:args[i]? with
  |none=>left;unfold eT;rw[ai];rfl
  |some x=>obtain⟨jp,ao⟩:=gF.rep i x ai;exact .inr ⟨x,rfl,by unfold eT;rw[ai];rfl,jp,ao⟩
 have cv:∀i b,bl (eT args i) (cw vs i)=some b->hj.fb b:=by
  intro i b ew;rcases kg i with h|⟨x,aa,au,aN,bE⟩
  ·rw[h]at ew;cases ew
  ·rw[au]at ew;exact(bE.gU ew).1
 rw[Qv];refine⟨rfl,by simp;omega,Kept.refl _ _,eW,fun i=>?_,fun i j b ah ac=>?_,fun i ah=>?_,fun i j cV=>?_,fun j ac=>iw j⟩
 ·rw[Qu];rcases kg i with h|⟨x,aa,au,aN,bE⟩
  ·rw[h];trivial
  ·rw[au];refine bE.qW aN (fun b ad=>⟨.inl ad,m6.rd b ad,fun k ak=>?_⟩) (fun b _ ad=>.inr ad);exact m6.apart b ad (cv k b ak)
 ·rw[iw]at ah ac;rcases kg i with h|⟨x,aa,au,aN,bE⟩
  ·rw[h]at ah;cases ah
  rcases kg j with h|⟨y,aE,bf,bM,dz⟩
  ·rw[h]at ac;cases ac
  rw[au]at ah;rw[bf]at ac;exact gF.inj i j x y b aa ah aE ac
 ·unfold eT;rw[pW (by omega)];rfl
 ·rcases kg i with h|⟨x,aa,au,aN,bE⟩
  ·rw[h]at cV;cases cV
  ·rw[au]at cV;exact Vm aN cV
def ziw(t:Nat)(g:FuncId)(v:aI)(e:Exit)(s:aj):Prop:=(e=.normal\/e=.ret)/\∃k,s t=.df g [.inr (k,0)]/\s k=.box [.atom v]
def BR.of[Hint]{P:aM}{f g:FuncId}{fn:Func}{c:Code}{t:Nat}(hm:P.follows .mixedOrders=true)(aw:P.funcs[f]?=some fn) (fJ:(fn.name== "runtime.NumGoroutine")=false)
  (ad:fn.body=some c)(aD:codeOk c=true)(al:1<=fn.ntmps)(uB:fn.results.toList=[.tmp t])(h:∀v:aI,gh P fn.ntmps c (ziw t g v) (jk [.x (.one (.atom v))] 0)):BR P f g:=by
 refine⟨⟨fn,aw,fJ,by rw[ad];rfl⟩,fun w v aF tx=>calls_of_wp aw ad ?_⟩;have eW:pI ⟨fun _=>False,fun _=>False,0,fun _=>undef⟩ w:=⟨fun _ h=>h.elim,fun _ h=>h.elim,fun _ h=>h.elim,tx,fun _ _ h=>h.elim⟩
 have gF:Ba w ⟨fun _=>False,fun _=>False,0,fun _=>undef⟩ [.x (.one (.atom v))] #[v]:=by
  refine⟨by simp,fun j x ac=>?_,fun i j x y b aa au=>?_,fun b h=>h.elim⟩
  ·cases j with
   |succ j=>simp at ac
   |zero=>simp at ac;subst ac;exact⟨rfl,bD.atom v aF⟩
  ·cases i with
   |succ i=>simp at aa
   |zero=>simp at aa;subst aa;cases au
 have af:=Q9 (P:=P) (n:=fn.ntmps) (m:=0) eW gF (by simpa using al);refine LC hm c _ _ _ _ _ aD (Ep c) af (h v) (fun e s' a' w' bQ bK=>?_);obtain⟨he,k,aa,ab⟩:=bK;have cP:(results fn a'.tmps).run P w'=.ok (aL a' t) w':=by rw[Qk,<-JP (xs:=fn.results),List.mapM_toArray,uB];simp[HZ]
 have bv:=bQ.rep t;rw[aa]at bv;obtain⟨us,Q_,k3,ap⟩:=bv;obtain⟨u,hu,p0⟩:=ap 0 _ rfl;rw[s8,av (by simp)]at p0;obtain⟨b,rfl,cm⟩:=p0;have ak:=bQ.rep k;rw[ab]at ak cm;obtain⟨br,b3,ty,DX,bo,gB,cY⟩:=ak;rw[DX]at cm;obtain rfl:br=b:=by simpa[bl]using cm
 have p4:b3=#[v]:=by
  obtain⟨mJ,Q'⟩:=gB;obtain⟨u,hu,ao⟩:=Q' 0 _ rfl;cases ao;have:b3.size=1:=by simpa using mJ
  apply Array.ext
  ·simpa using this
  ·intro i au aN;have:i=0:=by simp at aN;omega
   subst this;have:=jb.1 (by simpa using hu:b3[0]?=some v);simpa using this.2
 subst p4;have nv:us=#[.pointer (some ⟨br,0,none⟩)]:=by
  have:us.size=1:=by simpa using k3
  apply Array.ext
  ·simpa using this
  ·intro i au aN;have:i=0:=by simp at aN;omega
   subst this;have:=(jb.1 hu).2;simpa using this
 subst nv;have mN:a'.defers=[]/\∃cW,(results fn a'.tmps).run P w'=.ok cW w'/\∃b t,Ending.returned cW=.returned (.func (.func g) #[] #[.pointer (some ⟨b,0,none⟩)])/\w.heap.size<=b/\w'.heap[b]?=some (.cells #[v] t (0,0))/\Below w.heap.size w w':=by
  refine⟨bQ.defers,_,cP,br,ty,by rw[Q_],?_,bo,bQ.below.below (fun _ h=>h)⟩;rcases cY with h|h
  ·exact h
  ·exact h.elim
 rcases he with rfl|rfl
 ·exact mN
 ·exact mN
def zix(P:aM)(rs:List ResultVar)(L:aI->List ag)(e z:Nat)(aV:List (List ag))(kf:Exit)(s:aj):Prop:=(kf=.normal\/kf=.ret)/\∃v g,kM P s rs [] (.x (.agg (L v)))/\im s rs (.x (.agg (L v))) g=.db v e z aV
def A_.of[Hint](c2:List (Nat×Nat)){P:aM}{f:FuncId}{fn:Func}{c:Code}{args:List aG}{L:aI->List ag}{e z:Nat}{aV:List (List ag)}(f':args.length<=999999)(hm:P.follows .mixedOrders=true)(aw:P.funcs[f]?=some fn) (fJ:(fn.name== "runtime.NumGoroutine")=false)
  (ad:fn.body=some c)(aD:codeOk c=true)(al:args.length<=fn.ntmps)(h:(∀x∈args,x.ok)->gh P fn.ntmps c (zix P fn.results.toList L e z aV) (sl (u' args 0) c2)):A_ P f args L e z aV:=by
 refine⟨⟨fn,aw,fJ,by rw[ad];rfl⟩,fun w S vs bS bj=>calls_of_wp aw ad ?_⟩;have Qx:∀(j:Nat) (x:ae) (u:aI) (b:Nat),(args.map ae.x)[j]?=some x->bl x u=some b->False:=by
  intro j x u b ac ad;rw[eZ]at ac;cases ai:args[j]? with
  |none=>rw[ai]at ac;cases ac
  |some y=>rw[ai]at ac;injection ac with ac;subst ac;cases ad
 have gF:Ba w ⟨S,fun _=>False,0,fun _=>undef⟩ (args.map .x) vs:=by
  refine⟨by simp[bj.1],fun j x ac=>?_,fun i j x y b aa au=>(Qx i x _ b aa au).elim,fun b ad=>ad.elim⟩;rw[eZ]at ac;cases ai:args[j]? with
  |none=>rw[ai]at ac;cases ac
  |some y=>
   rw[ai]at ac;injection ac with ac
   subst ac;obtain⟨u,hu,ao⟩:=bj.2 j y ai;exact⟨rfl,by rw[tz hu];exact ao⟩
 have af:=Q9 (P:=P) (n:=fn.ntmps) (m:=0) bS gF (by simpa using al);have ai:∀x∈args,x.ok:=fun x ai=>by obtain⟨j,ac⟩:=mG ai;exact(gF.rep j (.x x) (by rw[eZ,ac];rfl)).2.ok
 refine LC hm c _ _ _ _ _ aD (Ep c) (af.sl (by rw[H0];simp[show cU=999999 from rfl,f']) c2) (by rw[<-LF args 0];exact h ai) (fun kf s' a' w' bQ bK=>?_);obtain⟨he,v,g,ay,pf⟩:=bK;obtain⟨u,cP,iC,b8,_⟩:=Qn bQ ay;have lL:=iC.rep g;have qj:∀b,v.ownBlock=some b->bl (im s' fn.results.toList (.x (.agg (L v))) g) (aL a' g)=some b:=fun b ad=>by rw[pf];exact ad
 rw[pf]at lL;obtain⟨us,aB,gB,ai,nx,cY⟩:=lL;have hf:∀b,bO ⟨S,fun _=>False,0,cw vs⟩ w.heap.size w' (im s' fn.results.toList (.x (.agg (L v)))) (aL a') b->(S b\/(w.heap.size<=b/\b<w'.heap.size))/\v.ownBlock≠some b:=fun b ad=>⟨by
  rcases ad.1 with h|h|h
  ·exact .inl h
  ·exact .inr ⟨h,ad.2.1⟩
  ·exact h.elim,fun h=>ad.2.2 g (qj b h)⟩
 have jz:∀b,v.ownBlock=some b->w.heap.size<=b:=fun b ad=>by
  rcases cY b ad with h|h
  ·exact h
  ·exact h.elim
 have mN:a'.defers=[]/\∃cW,(results fn a'.tmps).run P w'=.ok cW w'/\∃u v,Ending.returned cW=.returned u/\Below w.heap.size w w'/\cz w' (fun b=>(S b\/(w.heap.size<=b/\b<w'.heap.size))/\v.ownBlock≠some b) (.agg (L v)) u /\
   iT w' (fun b=>S b\/(w.heap.size<=b/\b<w'.heap.size)) (.own e z aV) v/\∀b,v.ownBlock=some b->w.heap.size<=b:=
  ⟨bQ.defers,u,cP,u,v,rfl,bQ.below.below (fun _ h=>h),cz.mono b8 (fun b ad=>hf b (ad.elim id (fun h=>by cases h))) (fun _ _=>rfl),⟨us,aB,cO.mono gB hf (fun _ _=>rfl),ai,nx,fun b ad=>.inr ⟨jz b ad,(iC.rep g |> fun h=>(h.gU (qj b ad)).2)⟩⟩,jz⟩
 rcases he with rfl|rfl
 ·exact mN
 ·exact mN
end
section
variable [bn]
section
variable (P:aM)(n:Nat)(fl:List Nat)(ops:Array Oper)(s:aj)(K:aj->Prop)
variable(Yd:Oper)
@[simp]def zFB:Ew P n ops [Yd] s K=K s:=(rfl)
@[simp]def zFC(o e0:Oper)(r:List Oper):Ew P n ops (o::e0::r) s K=bR P n ops [o] (dE s) (fun s'=>Ew P n ops (e0::r) (dE s') K):=(rfl)
@[simp]def zFD(b6:List Nat)(o:Oper):va P n fl ops b6 [o] s K=K s:=by simp only[va,List.dropLast,e3]
@[simp]def zFE(b6:List Nat)(o e0:Oper)(r:List Oper):va P n fl ops (1::b6) (o::e0::r) s K=dU P n ops o (dE s) (fun s'=>va P n fl ops b6 (e0::r) (dE s') K):=(rfl)
@[simp]def zFF(b6:List Nat)(o e0:Oper)(r:List Oper):va P n fl ops (7::b6) (o::e0::r) s K=(mh P (dE s) o.op/\dU P n ops o (dE s) (fun s'=>va P n fl ops b6 (e0::r) (dE s') K)):=(rfl)
@[simp]def zFG(b6:List Nat)(o e0:Oper)(r:List Oper):va P n fl ops (9::b6) (o::e0::r) s K=(xW o=true/\zG (dE s) (x3 fl) ops o/\bR P n ops [o] (dE s) (fun s'=>va P n fl ops b6 (e0::r) (dE s') K)):=(rfl)
variable(Ye:Oper)(Yf:List Oper)
@[simp]def zFH:x_ P n ops (Yd::Ye::Yf) s K=x_ P n ops (Ye::Yf) s K:=(rfl)
@[simp]def zFI(d:Nat)(f:aW)(args:List aW)(ts:Array aP)(ty:aP)(pos:String)(after:Array Edge):x_ P n ops [⟨some d,.call ⟨.value f,⟨args⟩,ts⟩,ty,pos,after,none⟩] s K=Bl P n d s (gX s f args) K:=by show (_/\Bl P n d s (gX s f args) K)=_;simp
end
def yd(P:aM)(n:Nat)(ops:Array Oper)(o:Oper)(s:aj)[k:kj (aj->Prop)]:Prop:=∃j g e z xs,s j=.own e z xs/\n<=g/\(s g).free=true/\∀v,bR P n ops [o] (r0 s j g v e z xs) k.val
def yd.of{P:aM}{n:Nat}{ops:Array Oper}{o:Oper}{s:aj}{k:aj->Prop}(j g:Nat){e z:Nat}{xs:List (List ag)}(aa:s j=.own e z xs)(ab:n<=g)(au:(s g).free=true)(h:∀v,bR P n ops [o] (r0 s j g v e z xs) k):@yd _ P n ops o s ⟨k⟩:=⟨j,g,e,z,xs,aa,ab,au,h⟩
@[congr]def zFJ{P:aM}{n:Nat}{ops:Array Oper}{o:Oper}{s s':aj}[k:kj (aj->Prop)](h:s=s'):yd P n ops o s=yd P n ops o s':=by rw[h]
section
variable (P:aM)(n:Nat)(ops:Array Oper)(s:aj)(K:aj->Prop)
@[simp]def zFK(t:aP)(m k x:aW)(ty:aP)(pos:String)(after:Array Edge):x_ P n ops [⟨none,.mapUpdate t m k x,ty,pos,after,none⟩] s K=@yd _ P n ops ⟨none,.mapUpdate t m k x,ty,pos,after,none⟩ s ⟨K⟩:=by show (_/\_)=_;simp only[mX];rfl
@[simp]def zFL(t:aP)(m x:aW)(ty:aP)(pos:String)(after:Array Edge):x_ P n ops [⟨none,.store t m x,ty,pos,after,none⟩] s K=@yd _ P n ops ⟨none,.store t m x,ty,pos,after,none⟩ s ⟨K⟩:=by show (_/\_)=_;simp only[mX];rfl
end
attribute[simp]GW.eq_1 i_.eq_1 HT.eq_1 r1.eq_1 P'.eq_1 Qb.eq_1 r0.eq_1
@[congr]def zFM{P:aM}{n d:Nat}{s:aj}{c c':Prop×Option (FuncId×List (ae×Option Nat))}{K:aj->Prop}(h:c=c'):Bl P n d s c K=Bl P n d s c' K:=by rw[h]
attribute[simp]Bl.eq_1
@[congr]def zFN{P:aM}{d:Nat}{s:aj}{g:FuncId}{xs:List (ae×Option Nat)}{K:aj->Prop}{L Yg:List (Nat×Nat×Nat)}(h:L=Yg):Hi P d s g xs K L=Hi P d s g xs K Yg:=by rw[h]
@[simp]def zFO(P:aM)(d:Nat)(s:aj)(g:FuncId)(xs:List (ae×Option Nat))(K:aj->Prop)(l:Nat×Nat×Nat)(L:List (Nat×Nat×Nat)):Hi P d s g xs K (l::L)=DY P d s g xs (l::L) K (tF s (l::L)) (tG xs (l::L)):=(rfl)
@[congr]def zFP{P:aM}{d:Nat}{s:aj}{g:FuncId}{xs:List (ae×Option Nat)}{L:List (Nat×Nat×Nat)}{K:aj->Prop}{fR Yh:Option (List (Nat×Nat×List (List ag)))}{c2 Yi:Option (List (Nat×Nat))}(aa:fR=Yh)(ab:c2=Yi):DY P d s g xs L K fR c2=DY P d s g xs L K Yh Yi:=by rw[aa,ab]
def oA(P:aM)(g:FuncId)(args:List ae)(fR:List (Nat×Nat×List (List ag)))(c2:List (Nat×Nat))[k:kj (bH->List ae->List (Nat×Nat×List (List ag))->Prop)]:Prop:=∃r outs go,xH P g args fR c2 r outs go/\k.val r outs go
def oA.of{P:aM}{g:FuncId}{args:List ae}{fR:List (Nat×Nat×List (List ag))}{c2:List (Nat×Nat)}{k:bH->List ae->List (Nat×Nat×List (List ag))->Prop}{r:bH}{outs:List ae}{go:List (Nat×Nat×List (List ag))}(h:xH P g args fR c2 r outs go)(ak:k r outs go):@oA _ P g args fR c2 ⟨k⟩:=⟨r,outs,go,h,ak⟩
@[simp]def zFQ(P:aM)(d:Nat)(s:aj)(g:FuncId)(xs:List (ae×Option Nat))(L:List (Nat×Nat×Nat))(K:aj->Prop)(fR:List (Nat×Nat×List (List ag)))(c2:List (Nat×Nat)):DY P d s g xs L K (some fR) (some c2)=((ej (xs++fq s L)).Nodup/\(ej (xs++fq s L)).contains d=false/\@oA _ P g (hN (xs++fq s L) xs) fR c2 ⟨fun r outs go=>∀bX,K (q2 (Ab.put (gf (iB s xs) (xs++fq s L) (outs++dv bX 0 go)) d r.dj) L)⟩):=(rfl)
attribute[simp]dv.eq_1 dv.eq_2 sb.eq_1 sb.eq_2 Bk.eq_1
def Ra(i off:Nat)(X:List (Nat×Nat×Nat))(b:Bool)(q:Option Nat):List (Nat×Nat×Nat):=match b with
 |true=>match q with
  |some d=>(i,off,d)::X
  |none=>X
 |false=>X
attribute[simp]Ra.eq_1 tE.eq_1
@[simp]def zFR(s:aj)(i off:Nat)(c:ag)(r:List ag):tE s i off (c::r)=Ra i off (tE s i (off+1) r) c.isAny (Bk i off (s (ch i off))):=by
 simp only[tE,Ra];cases c.isAny with
 |false=>rfl
 |true=>cases Bk i off (s (ch i off))<;>rfl
attribute[simp]ae.gk.eq_1
def Rb(s:aj)(i:Nat)(X:List (Nat×Nat×Nat)):Option (List ag)->List (Nat×Nat×Nat)
 |some cs=>tE s i 0 cs++X
 |none=>X
attribute[simp]Rb.eq_1 sc.eq_1 sc.eq_3
@[simp]def zFS(s:aj)(x:ae)(i:Nat)(r:List (ae×Option Nat)):sc s ((x,some i)::r)=Rb s i (sc s r) x.gk:=by simp only[sc,Rb];cases x.gk<;>rfl
def Rc{α:Type}:Option α->Option (List α)->Option (List α)
 |some x,some l=>some (x::l)
 |_,_=>none
attribute[simp]Rc.eq_1 tF.eq_1
@[simp]def zFT(s:aj)(l:Nat×Nat×Nat)(r:List (Nat×Nat×Nat)):tF s (l::r)=Rc (sb (s l.2.2)) (tF s r):=by simp only[tF];cases sb (s l.2.2)<;>cases tF s r<;>rfl
attribute[simp]tG.eq_1
@[simp]def zFU(xs:List (ae×Option Nat))(l:Nat×Nat×Nat)(r:List (Nat×Nat×Nat)):tG xs (l::r)=Rc ((p9 l.1 xs 0).map fun p=>(p,l.2.1)) (tG xs r):=by simp only[tG];cases p9 l.1 xs 0<;>cases tG xs r<;>rfl
variable(cQ:aj)
@[simp]def zFV:fq cQ []=[]:=(rfl)
@[simp]def zFW(s:aj)(l:Nat×Nat×Nat)(r:List (Nat×Nat×Nat)):fq s (l::r)=(s l.2.2,some l.2.2)::fq s r:=(rfl)
def Rd(s:aj)(i:Nat)(r:List (ae×Option Nat)):Option (List ag)->aj
 |some cs=>iB (dc s i 0 cs.length) r
 |none=>iB s r
attribute[simp]Rd.eq_1 iB.eq_1 iB.eq_3
@[simp]def zFX(s:aj)(x:ae)(i:Nat)(r:List (ae×Option Nat)):iB s ((x,some i)::r)=Rd s i r x.gk:=by simp only[iB,Rd];cases x.gk<;>rfl
@[simp]def zFY(s:aj)(l:Nat×Nat×Nat)(r:List (Nat×Nat×Nat)):q2 s (l::r)=q2 (gG s (ch l.1 l.2.1) (.link l.1 l.2.1 l.2.2)) r:=(rfl)
attribute[simp]q2.eq_1
@[simp]def zFZ(s:aj)(i:Nat)(g:aI)(e z:Nat)(xs:List (List ag)):xw s i (.db g e z xs)=gG (wi s i) i (.db g e z xs):=XQ s i _
def E3:List (Nat×Nat)->Nat->List (Nat×Nat×Nat)
 |[],_=>[]
 |p::r,b=>(p.1,p.2,b)::E3 r (b+1)
attribute[simp]E3.eq_1 E3.eq_2
def Yj:∀{c2:List (Nat×Nat)} {b:Nat} {l:Nat×Nat×Nat},l∈E3 c2 b->∃k,c2[k]?=some (l.1,l.2.1)/\l.2.2=b+k
 |[],b,l,h=>by simp at h
 |p::r,b,l,h=>by
  rcases fp.1 h with rfl|h
  ·exact⟨0,rfl,rfl⟩
  ·obtain⟨k,aa,ab⟩:=Yj h;exact⟨k+1,by simpa using aa,by omega⟩
def vf(s:aj)(outs:List ae):List (Nat×Nat)->List (Nat×Nat×List (List ag))->List Nat->Prop
 |[],[],_=>True
 |p::r,q::go,dJ=>∃d,Bk p.1 p.2 (s (ch p.1 p.2))=some d/\sb (s d)=some q/\outs[p.1]?=some (s p.1)/\(outs[d]?).getD .dead=.dead/\dJ.contains d=false/\vf s outs r go (d::dJ)
 |_,_,_=>False
@[congr]def zGa{s s':aj}{outs:List ae}{c2:List (Nat×Nat)}{go:List (Nat×Nat×List (List ag))}{dJ:List Nat}(h:s=s'):vf s outs c2 go dJ=vf s' outs c2 go dJ:=by rw[h]
@[simp]def zGb(s:aj)(outs:List ae)(dJ:List Nat):vf s outs [] [] dJ=True:=by simp only[vf]
attribute[simp]vf.eq_2
def Yk{s:aj}{outs:List ae}:∀{c2:List (Nat×Nat)} {go:List (Nat×Nat×List (List ag))} {dJ:List Nat},vf s outs c2 go dJ->∃D:List Nat,D.length=c2.length/\go.length=c2.length/\D.Nodup/\(∀d∈D,d∉dJ) /\
  ∀(k i off:Nat),c2[k]?=some (i,off)->∃d q,D[k]?=some d/\go[k]?=some q/\s (ch i off)=.link i off d/\sb (s d)=some q/\outs[i]?=some (s i)/\(outs[d]?).getD .dead=.dead
 |[],[],_,_=>⟨[],rfl,rfl,List.nodup_nil,fun d h=>(by cases h),fun k i off h=>(by simp at h)⟩
 |p::r,q::go,dJ,h=>by
  obtain⟨d,aa,ab,au,aN,bE,cS⟩:=h;obtain⟨D,aE,aQ,bf,bM,dz⟩:=Yk cS;have aA:d∉dJ:=by
   intro hm;have:dJ.contains d=true:=by simpa using hm
   rw[this]at bE;cases bE
  refine⟨d::D,by simp[aE],by simp[aQ],wj.2 ⟨fun hm=>bM d hm (by simp),bf⟩,fun x ai=>?_,fun k i off ak=>?_⟩
  ·rcases fp.1 ai with rfl|ai
   ·exact aA
   ·exact fun hm=>bM x ai (by simp[hm])
  ·cases k with
   |zero=>simp at ak;subst ak;exact⟨d,q,rfl,rfl,VG aa,ab,au,aN⟩
   |succ k=>simp at ak;obtain⟨bG,eI,ax,aK,cd⟩:=dz k i off ak;exact⟨bG,eI,by simpa using ax,by simpa using aK,cd⟩
 |[],_::_,_,h=>by simp[vf]at h
 |_::_,[],_,h=>by simp[vf]at h
def Im(P:aM)(rs:List ResultVar)(c2:List (Nat×Nat))(r:bH)(outs:List ae)(go:List (Nat×Nat×List (List ag)))(e:Exit)(s:aj):Prop:=(e=.normal\/e=.ret)/\kM P s rs outs r/\j1 (im s rs r) 0 outs/\vf (im s rs r) outs c2 go []
@[congr]def zGc{P:aM}{rs:List ResultVar}{c2:List (Nat×Nat)}{r:bH}{outs:List ae}{go:List (Nat×Nat×List (List ag))}{e:Exit}{s s':aj}(h:s=s'):Im P rs c2 r outs go e s=Im P rs c2 r outs go e s':=by rw[h]
@[simp]def zGd(P:aM)(rs:List ResultVar)(c2:List (Nat×Nat))(r:bH)(outs:List ae)(go:List (Nat×Nat×List (List ag)))(s:aj):Im P rs c2 r outs go .normal s=(kM P s rs outs r/\j1 (im s rs r) 0 outs/\vf (im s rs r) outs c2 go []):=by simp only[Im,true_or,mX]
def xH.of[Hint](Yl:List (Nat×Nat)){P:aM}{f:FuncId}{fn:Func}{c:Code}{args:List ae}{fR go:List (Nat×Nat×List (List ag))}{c2:List (Nat×Nat)}{r:bH}{outs:List ae}(Kz:args.length+fR.length<=999999)(hm:P.follows .mixedOrders=true)(aw:P.funcs[f]?=some fn) (fJ:(fn.name== "runtime.NumGoroutine")=false)
  (ad:fn.body=some c)(aD:codeOk c=true)(dP:lO (mi outs) c=true)(fm:hh args outs=true)(al:args.length+fR.length<=fn.ntmps)(Pb:fR.length=c2.length)(lL:go.length=c2.length)(kc:∀v,r.ij v=none)
  (h:∀g:Nat->aI,(∀x∈args,x.ok)->gh P fn.ntmps c (Im P fn.results.toList c2 r outs go) (sl (q2 (jk (args++dv g 0 fR) 0) (E3 c2 args.length)) Yl)):xH P f args fR c2 r outs go:=by
 refine⟨⟨fn,aw,fJ,by rw[ad];rfl⟩,fm,Pb,lL,kc,fun w hj vs g m6 gF ziy=>?_⟩;have Qr:∀x∈args,x.ok:=by intro x ai;obtain⟨j,ac⟩:=mG ai;exact(gF.rep j x (by rw[kx (eQ.1 ac).1];exact ac)).2.ok
 refine calls_of_wp aw ad ?_;have zGe:(args++dv g 0 fR).length=args.length+fR.length:=by simp[KB]
 have af:=Q9 (P:=P) (n:=fn.ntmps) (m:=mi outs) m6 gF (by omega);have cB:vs.size<=fn.ntmps:=jc gF.size (by omega);have iw:∀i,aL {tmps:=vs++Array.replicate (fn.ntmps-vs.size) undef,defers:=[]} i=cw vs i:=by
  intro i;simp only[aL,cw,s_,Qs];split
  ·rfl
  ·rename_i ah;rw[H3 (by omega:vs.size<=i),Qt];split<;>rfl
 have B3:∀i,jk (args++dv g 0 fR) 0 i=eT (args++dv g 0 fR) i:=fun i=>by rw[H0];simp[eT]
 have Ym:∀i,999999<=i->eT (args++dv g 0 fR) i=.dead:=fun i ah=>by unfold eT;rw[pW (by omega)];rfl
 have bU:=af.q2 (E3 c2 args.length) (fun l al=>by obtain⟨k,aa,ab⟩:=Yj al;obtain⟨m1,cs,b,m2,m3,m4,m5⟩:=ziy k l.1 l.2.1 aa;simp only[B3,iw,ab];exact⟨by rw[Ym _ (by unfold ch;omega)];rfl,m1,cs,b,m2,m3,m4,m5⟩)
 have Qw:=bU.sl (by
  have:∀(L:List (Nat×Nat×Nat)) (s:aj),(s cU).free=true->(Ab.q2 s L cU).free=true:=by
   intro L;induction L with
   |nil=>intro s h;exact h
   |cons l r ba=>
    intro s h;refine ba _ ?_;show (if cU=ch l.1 l.2.1 then ae.link l.1 l.2.1 l.2.2 else s cU).free=true
    split
    ·rfl
    ·exact h
  exact this _ _ (by rw[B3,Ym _ (by unfold cU;omega)];rfl)) Yl
 refine LC hm c _ _ _ _ _ aD dP Qw (h g Qr) (fun e s' a' w' bQ bK=>?_);obtain⟨he,ay,mQ,qQ⟩:=bK;obtain⟨v,cP,iC,b8,_⟩:=Qn bQ ay;obtain⟨fH,G'⟩:=p8 fm;generalize im s' fn.results.toList r=s2 at iC b8 mQ qQ;obtain⟨D,Ci,_,ziz,_,hM⟩:=Yk qQ;have ziA:∀{k:Nat} {q:Nat×Nat×List (List ag)},go[k]?=some q->∃i off,c2[k]?=some (i,off):=by
  intro k q ak;have:k<c2.length:=by rw[<-lL];exact(eQ.1 ak).1
  exact⟨c2[k].1,c2[k].2,cr this⟩
 let bX:Nat->aI:=fun k=>(s2 (D.getD k 0)).valOf (aL a' (D.getD k 0))
 have dO:∀{k d:Nat},D[k]?=some d->bX k=(s2 d).valOf (aL a' d):=by
  intro k d ak;show (s2 (D.getD k 0)).valOf (aL a' (D.getD k 0))=_
  rw[lF,ak];rfl
 have KH:∀j,j<outs.length->(outs++dv bX 0 go)[j]?=outs[j]?:=fun j ac=>kx ac;have Bm:∀k,(outs++dv bX 0 go)[outs.length+k]?=(go[k]?).map fun x=>ae.db (bX k) x.1 x.2.1 x.2.2:=by intro k;rw[l_ (by omega),show outs.length+k-outs.length=k by omega,KC,hv]
 have G6:∀j,j<mi outs->aL a' j=cw vs j:=fun j ac=>iC.n6 j ac;have Es:∀(j:Nat) (o:ae),outs[j]?=some o->o≠.dead->s2 j=o/\aL a' j=cw vs j:=by intro j o aa au;have:=Qm mQ j o aa au;rw[hv]at this;exact⟨this,G6 j (Qo aa au)⟩
 have kg:∀(j:Nat) (o:ae),(outs++dv bX 0 go)[j]?=some o->(j<outs.length/\outs[j]?=some o)\/∃k d q,j=outs.length+k/\D[k]?=some d/\go[k]?=some q/\o=.db ((s2 d).valOf (aL a' d)) q.1 q.2.1 q.2.2/\sb (s2 d)=some q/\(outs[d]?).getD .dead=.dead:=by
  intro j o ac;by_cases ar:j<outs.length
  ·rw[KH j ar]at ac;exact .inl ⟨ar,ac⟩
  ·obtain⟨k,rfl⟩:∃k,j=outs.length+k:=⟨j-outs.length,by omega⟩
   rw[Bm]at ac;cases bK:go[k]? with
   |none=>rw[bK]at ac;cases ac
   |some q=>
    rw[bK]at ac;injection ac with ac
    obtain⟨i,off,xF⟩:=ziA bK;obtain⟨d,eI,ax,aK,_,fI,_,tH⟩:=hM k i off xF;rw[bK]at aK;injection aK with aK;subst aK
    exact .inr ⟨k,d,q,rfl,ax,bK,by rw[<-ac,dO ax],fI,tH⟩
 have wl:∀(j:Nat) (o:ae) (b:Nat),(outs++dv bX 0 go)[j]?=some o->bl o (cw vs j)=some b->(j<outs.length/\outs[j]?=some o/\o≠.dead/\bl (s2 j) (aL a' j)=some b)\/∃k d,j=outs.length+k/\D[k]?=some d/\bl (s2 d) (aL a' d)=some b/\(outs[d]?).getD .dead=.dead:=by
  intro j o b ac ad;rcases kg j o ac with⟨aa,ab⟩|⟨k,d,q,rfl,aa,ab,rfl,aN,bE⟩
  ·have bY:o≠.dead:=by rintro rfl;cases ad
   obtain⟨cS,d8⟩:=Es j o ab bY;exact .inl ⟨aa,ab,bY,by rw[cS,d8];exact ad⟩
  ·refine .inr ⟨k,d,rfl,aa,?_,bE⟩;rcases DZ aN with e|⟨u,e⟩<;>rw[e]at ad⊢<;>exact ad
 have xB:∀(i j:Nat) (x y:ae) (b:Nat),(outs++dv bX 0 go)[i]?=some x->bl x (cw vs i)=some b->(outs++dv bX 0 go)[j]?=some y->bl y (cw vs j)=some b->i=j:=by
  intro i j x y b aa ab au aN;rcases wl i x b aa ab with⟨aE,aQ,bf,bM⟩|⟨k,d,rfl,aQ,bf,bM⟩<;>rcases wl j y b au aN with⟨m1,m2,m3,m4⟩|⟨cq,bG,rfl,m2,m3,m4⟩
  ·exact iC.inj i j b bM m4
  ·have:=iC.inj i bG b bM m3;subst this;rw[aQ]at m4;exact absurd m4 bf
  ·have:=iC.inj d j b bf m4;subst this;rw[m2]at bM;exact absurd bM m3
  ·have:=iC.inj d bG b bf m3;subst this;have ak:k<D.length:=(eQ.1 aQ).1;have dx:cq<D.length:=(eQ.1 m2).1;have ax:D[k]=D[cq]:=by
    have c_:=(eQ.1 aQ).2;have a2:=(eQ.1 m2).2;rw[c_,a2]
   have:=(List.getElem_inj ziz).1 ax;omega
 have cl:∀(b:Nat),wg (outs++dv bX 0 go) vs b->∃t,bl (s2 t) (aL a' t)=some b:=by
  rintro b ⟨j,o,aa,au⟩;rcases wl j o b aa au with⟨_,_,_,h⟩|⟨_,d,_,_,h,_⟩
  ·exact⟨j,h⟩
  ·exact⟨d,h⟩
 have qZ:∀b,bO ⟨hj.rd,hj.fb,mi outs,cw vs⟩ w.heap.size w' s2 (aL a') b->jA w w' hj (outs++dv bX 0 go) vs b:=by
  intro b ad;refine⟨?_,fun aB=>?_⟩
  ·rcases ad.1 with h|h|h
   ·exact .inl h
   ·exact .inr (.inr ⟨h,ad.2.1⟩)
   ·exact .inr (.inl h)
  ·obtain⟨t,h⟩:=cl b aB;exact ad.2.2 t h
 have bk:∀b,nq ⟨hj.rd,hj.fb,mi outs,cw vs⟩ w.heap.size b->hj.fb b\/w.heap.size<=b:=fun b ad=>ad.elim .inr .inl;have mN:a'.defers=[]/\∃v,(results fn a'.tmps).run P w'=.ok v w'/\∃v1 bX,Ending.returned v=.returned v1/\Kept hj.fb w w'/\iT w' (jA w w' hj (outs++dv bX 0 go) vs) r v1 /\
   (∀(j:Nat) (o:ae),(outs++dv bX 0 go)[j]?=some o->dp w' (jA w w' hj (outs++dv bX 0 go) vs) (fun b=>hj.fb b\/w.heap.size<=b) zn zo o (cw vs j)) /\
   (∀(i j:Nat) (x y:ae) (b:Nat),(outs++dv bX 0 go)[i]?=some x->bl x (cw vs i)=some b->(outs++dv bX 0 go)[j]?=some y->bl y (cw vs j)=some b->i=j) /\
   KD w' (eT (outs++dv bX 0 go)) (cw vs) c2 args.length:=by
  refine⟨bQ.defers,v,cP,v,bX,rfl,bQ.below,b8.mono (fun b ad=>ad.elim (qZ b) (fun h=>by rw[kc]at h;cases h)) (fun _ _=>rfl),fun j o aa=>?_,xB,fun k i off ak=>?_⟩
  ·rcases kg j o aa with⟨ab,au⟩|⟨k,d,q,rfl,ab,au,rfl,aN,bE⟩
   ·by_cases bY:o=.dead
    ·subst bY;trivial
    obtain⟨aN,bE⟩:=Es j o au bY;have ar:j<args.length:=by rw[fH];exact ab
    obtain⟨x,ai⟩:∃x,args[j]?=some x:=⟨_,cr ar⟩
    have BL:=G' j x o ai au;have ao:=iC.rep j;rw[aN,bE]at ao;have ww:o.bare=true:=by cases x<;>cases o<;>first|rfl|(simp[eB]at BL)
    exact ao.bare ww (fun b ad=>qZ b ad) (fun b _ ad=>bk b ad)
   ·have ao:=iC.rep d;rcases DZ aN with e|⟨u,e⟩
    ·rw[e]at ao⊢;obtain⟨us,aB,dK,ai,eh,cY⟩:=ao;exact⟨us,aB,dK.mono (fun b ad=>qZ b ad) (fun _ _=>rfl),ai,eh,fun b ad=>bk b (cY b ad)⟩
    ·rw[e]at ao⊢;obtain⟨us,aB,dK,ai,eh,cY⟩:=ao;exact⟨us,aB,dK.mono (fun b ad=>qZ b ad) (fun _ _=>rfl),ai,eh,fun b ad=>bk b (cY b ad)⟩
  ·obtain⟨d,q,ax,aK,cd,fI,gp,_⟩:=hM k i off ak;have ao:=iC.rep (ch i off);rw[cd]at ao;obtain⟨_,cs,b,m1,m2,m3,m4⟩:=ao;have bY:s2 i≠.dead:=by intro e;rw[e]at m1;cases m1
   obtain⟨_,bE⟩:=Es i (s2 i) gp bY;have BT:i<outs.length:=(eQ.1 gp).1;have ik:eT (outs++dv bX 0 go) i=s2 i:=by unfold eT;rw[KH i BT,gp];rfl
   have sd:eT (outs++dv bX 0 go) (args.length+k)=.db (bX k) q.1 q.2.1 q.2.2:=by unfold eT;rw[fH,Bm,aK];rfl
   refine⟨by rw[sd];rfl,cs,b,by rw[ik];exact m1,m2,by rw[ik,<-bE];exact m3,?_⟩;rw[sd,m4,<-dO ax];rfl
 rcases he with rfl|rfl
 ·exact mN
 ·exact mN
end
end Go.Ab
