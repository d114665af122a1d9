/- A part of the proof: lemmas and contracts of functions. -/
import Derived.Test.YtaalfcghmjkaeaaGreatDoorAbJ2b
import Derived.Still
import Derived.Deep.LoopGhost
set_option linter.all false
namespace Go.Ab
open Go Go.RowKit
variable [bf]
def Fh:af->Prop
 |.nil=>True
 |.list _ xs=>xs=[]
 |_=>False
@[simp]def zow(z:Nat)(xs:List (List af)):Fh (.list z xs)=(xs=[]):=rfl
def mU(want:af):af->Prop
 |.nil=>Fh want
 |c=>want=c
section
variable (want:af)
@[simp]def zox:mU want .nil=Fh want:=rfl
@[simp]def zoy(b:Bool):mU want (.bool b)=(want=.bool b):=rfl
@[simp]def zoz(k:IntKind)(n:Int):mU want (.int k n)=(want=.int k n):=rfl
@[simp]def zoA(l:List UInt8):mU want (.str l)=(want=.str l):=rfl
@[simp]def zoB(z:Nat)(xs:List (List af)):mU want (.list z xs)=(want=.list z xs):=rfl
@[simp]def zoC(v:Value):mU want (.atom v)=(want=.atom v):=rfl
end
@[simp]def zcx(c:af):mU c c=True:=by cases c<;>simp[mU,Fh]
def xu:List af->List af->Prop
 |[],[]=>True
 |a::r,b::s=>mU a b/\xu r s
 |_,_=>False
@[simp]def zcy(a b:af)(r s:List af):xu (a::r) (b::s)=(mU a b/\xu r s):=rfl
@[simp]def Tg:∀l:List af,xu l l=True
 |[]=>rfl
 |c::r=>by rw[zcy,zcx,Tg r];simp
def Th{a b:List af}(h:a=b):xu a b:=by subst h;rw[Tg];trivial
def Ti:∀{a b:List af},xu a b->a.length=b.length/\∀(j:Nat) (x:af),a[j]?=some x->∃y,b[j]?=some y/\mU x y
 |[],[],_=>⟨rfl,fun j x h=>by simp at h⟩
 |a::r,b::s,h=>by
  obtain⟨aa,ab⟩:=Ti h.2;refine⟨by simp[aa],fun j x ac=>?_⟩;cases j with
  |zero=>simp at ac;subst ac;exact⟨b,rfl,h.1⟩
  |succ j=>simp at ac;exact ab j x ac
def vx:az->az->Prop
 |.one a,.one b=>mU a b
 |.agg a,.agg b=>xu a b
 |_,_=>False
@[simp]def zoD(a b:af):vx (.one a) (.one b)=mU a b:=rfl
@[simp]def zoE(a b:List af):vx (.agg a) (.agg b)=xu a b:=rfl
def zf:List az->List az->Prop
 |[],[]=>True
 |a::r,b::s=>vx a b/\zf r s
 |_,_=>False
@[simp]def zoF:zf [] []=True:=rfl
@[simp]def zoG(a b:az)(r s:List az):zf (a::r) (b::s)=(vx a b/\zf r s):=rfl
def tP:bw->bw->Prop
 |.x a,.x b=>vx a b
 |.b2 a,.b2 b=>zf a b
 |_,_=>False
@[simp]def zoH(a b:az):tP (.x a) (.x b)=vx a b:=rfl
@[simp]def zoI(a b:List az):tP (.b2 a) (.b2 b)=zf a b:=rfl
def Tj{w:World}{S:Nat->Prop}{a b:af}{v:Value}(h:mU a b)(an:bn w S b v):bn w S a v:=by
 cases b<;>simp only[mU]at h<;>try (subst h;exact an)
 cases a<;>simp only[Fh]at h
 ·exact an
 ·subst h;cases an;exact .kH none 0 _ (by decide) (fun _=>rfl)
def Tk{w:World}{S:Nat->Prop}{a b:az}{v:Value}(h:vx a b)(an:cg w S b v):cg w S a v:=by
 cases a<;>cases b<;>simp only[vx]at h
 ·exact Tj (b:=_) h an
 ·obtain⟨us,aH,al,aj⟩:=an;obtain⟨aa,ab⟩:=Ti h;refine⟨us,aH,by rw[al,aa],fun j c ac=>?_⟩;obtain⟨y,aS,aE⟩:=ab j c ac;obtain⟨u,hu,bU⟩:=aj j y aS;exact⟨u,hu,Tj aE bU⟩
def Tl:∀{a b:List az},zf a b->a.length=b.length/\∀(j:Nat) (x:az),a[j]?=some x->∃y,b[j]?=some y/\vx x y
 |[],[],_=>⟨rfl,fun j x h=>by simp at h⟩
 |a::r,b::s,h=>by
  obtain⟨aa,ab⟩:=Tl h.2;refine⟨by simp[aa],fun j x ac=>?_⟩;cases j with
  |zero=>simp at ac;subst ac;exact⟨b,rfl,h.1⟩
  |succ j=>simp at ac;exact ab j x ac
def zcz{w:World}{S:Nat->Prop}{a b:bw}{v:Value}(h:tP a b)(an:iy w S b v):iy w S a v:=by
 cases a<;>cases b<;>simp only[tP]at h
 ·exact Tk h an
 ·obtain⟨us,aH,al,aj⟩:=an;obtain⟨aa,ab⟩:=Tl h;refine⟨us,aH,by rw[al,aa],fun j x ac=>?_⟩;obtain⟨y,aS,aE⟩:=ab j x ac;obtain⟨u,hu,an⟩:=aj j y aS;exact⟨u,hu,Tk aE an⟩
end Go.Ab
namespace Go.Ab
open Go Go.RowKit
variable [bf]
def bb(P:Program)(s:ag)(op:Op):Prop×ad:=
 match op with
 |.build t parts=>nG P (aG s) t parts.toList
 |op=>dP P s op
def cq(s:ag):Prop:=∀i j,(s i).refs j=true->(s j).aM=true
def Na{s:ag}(h:cq s)(x:Operand){j:Nat}(an:(look s x).refs j=true):(s j).aM=true:=by
 cases x with
 |tmp t=>
  simp only[look]at an;split at an
  ·rename_i cs ap;obtain rfl:t=j:=by simpa[ad.refs]using an
   rw[ap];rfl
  ·rename_i e size xs ap;obtain rfl:t=j:=by simpa[ad.refs]using an
   rw[ap];rfl
  ·rename_i c bs es ap;obtain rfl:t=j:=by simpa[ad.refs]using an
   rw[ap];rfl
  ·cases an
  ·cases an
  ·cases an
  ·exact h t j an
 |const v=>
  simp only[look,tp]at an;split at an
  ·split at an<;>cases an
  ·cases an
  ·split at an<;>cases an
 |_=>cases an
def si{s:ag}(h:cq s)(x:Operand){j:Nat}(an:(aG s x).2.refs j=true):(s j).aM=true:=by refine Na h x ?_;exact L1 an
def Tm{k:bZ}{p:Prop}{cs:List af}{j:Nat}:(Br k p cs).2.refs j=false:=by
 cases k with
 |one=>cases cs<;>rfl
 |_=>rfl
def zcA{P:Program}{s:ag}{t:TypeId}{x:Prop×ad}{aK ai mx:Option Operand}{j:Nat}(aj:∀j,x.2.refs j=true->(s j).aM=true)(an:(ir P s t x aK ai mx).2.refs j=true):(s j).aM=true:=by
 unfold ir at an;split at an
 ·split at an<;>cases an
 ·split at an<;>cases an
 ·split at an<;>cases an
 ·split at an
  ·split at an
   ·exact aj j an
   ·cases an
  ·cases an
 ·split at an
  ·exact aj j an
  ·cases an
 ·cases an
def IT{j:Nat}:∀{l:List (Prop×ad)} {p:Prop} {cs:List (af⊕(Nat×Nat))},jM l=(p,some cs)->cs.any (j_ j)=true->∃x∈l,x.2.refs j=true
 |[],p,cs,h,an=>by simp only[jM,cc,bS]at h;obtain⟨_,rfl⟩:=h;cases an
 |(q,v)::l,p,cs,h,an=>by
  unfold jM at h;split at h
  ·rename_i e;cases e
  ·rename_i e;injection e with av aI
   subst aI;split at h
   ·rename_i hO cs' b5;simp only[cc,bS]at h;obtain⟨_,rfl⟩:=h;simp only[zg,j_,va]at an;obtain⟨x,aa,ab⟩:=IT b5 an;exact⟨x,l3 _ aa,ab⟩
   ·simp at h
  ·rename_i dQ i off r e;injection e with av aI
   injection av with av eH;subst eH;subst aI
   split at h
   ·rename_i hO cs' b5;simp only[cc,bS]at h;obtain⟨_,rfl⟩:=h;simp only[zg,eO]at an;rcases an with an|an
    ·exact⟨_,kl,an⟩
    ·obtain⟨x,aa,ab⟩:=IT b5 an;exact⟨x,l3 _ aa,ab⟩
   ·simp at h
  ·rename_i dQ i off r e;injection e with av aI
   injection av with av eH;subst eH;subst aI
   split at h
   ·rename_i hO cs' b5;simp only[cc,bS]at h;obtain⟨_,rfl⟩:=h;simp only[zg,eO]at an;rcases an with an|an
    ·exact⟨_,kl,an⟩
    ·obtain⟨x,aa,ab⟩:=IT b5 an;exact⟨x,l3 _ aa,ab⟩
   ·simp at h
  ·simp at h
def qL{P:Program}{s:ag}(h:cq s)(op:Op){j:Nat}(an:(bb P s op).2.refs j=true):(s j).aM=true:=by
 cases op with
 |move x=>exact si h x an
 |assign x=>exact Na h x an
 |pick c x y=>exfalso;simp only[bb,dP,Bo]at an;split at an<;>cases an
 |load t x=>
  simp only[bb,dP]at an;have io:=si h x (j:=j);unfold nx at an;split at an
  ·rename_i p i off e;rw[e]at io;split at an
   ·exact io an
   ·cases an
  rcases Ep s (aG s x).2 (js (tk P t) (ea P t) (aG s x).1 (mem s (aG s x).2))with e|⟨p,i,off,d,_,_,b5,eH⟩
  ·rw[e]at an;exfalso;simp only[js]at an;split at an
   ·unfold tr at an;split at an
    ·split at an<;>cases an
    ·rw[Tm]at an;cases an
   ·cases an
  ·rw[eH]at an;obtain rfl:d=j:=by simpa[ad.refs]using an
   exact h (b0 i off) d (by rw[b5];simp[ad.refs])
 |nilCheck x=>
  simp only[bb,dP]at an;split at an
  ·exact si h x an
  ·cases an
 |binOp op t x y Ms=>
  exfalso;simp only[bb,dP,qp]at an;cases aS:Eo y with
  |true=>rw[aS,cond_true]at an;rcases ZQ P op t (aG s x)with e|⟨bg,e⟩<;>(rw[e]at an;cases an)
  |false=>
  rw[aS,cond_false]at an;simp only[f']at an;split at an
  ·split at an<;>cases an
  ·unfold Ek at an;split at an<;>cases an
  ·cases an
  ·split at an
   ·split at an<;>cases an
   ·cases an
  ·cases an
 |unOp op t x=>exfalso;simp only[bb,dP,Bv]at an;split at an<;>cases an
 |convert src dst x=>
  exfalso;simp only[bb,dP,mF]at an;split at an
  ·split at an<;>cases an
  ·cases an
  ·split at an<;>cases an
 |slice t x aK ai mx=>exact zcA (fun j ac=>si h x ac) an
 |fieldAddr t x f=>
  simp only[bb,dP,rL]at an;split at an
  ·rename_i i off _ e;exact si h x (by rw[e];exact an)
  ·rename_i i k off _ e;exact si h x (by rw[e];exact an)
  ·cases an
  ·cases an
 |field t x f=>
  exfalso;simp only[bb,dP,wW]at an;split at an
  ·rw[Tm]at an;cases an
  ·cases an
 |indexAddr t x i=>
  simp only[bb,dP,kc]at an;split at an
  ·cases an
  ·split at an
   ·rename_i ap;obtain rfl:=(fB.1 an)
    rw[ap];rfl
   ·cases an
  ·rename_i kj aK len wh q k m _ av aI;exact si h x (by rw[av];exact an)
  ·unfold yO at an;split at an
   ·rename_i av _;exact si h x (by rw[av];exact an)
   ·cases an
   ·cases an
 |index t x i=>exfalso;simp only[bb,dP,Bt]at an;split at an<;>cases an
 |makeFunc fn first captured=>
  simp only[bb,dP,u1]at an;split at an
  ·split at an
   ·cases an
   ·split at an
    ·rename_i e;obtain⟨x,aj,Nb⟩:=IT e an;obtain⟨y,_,rfl⟩:=hh.1 aj;exact si h y Nb
    ·cases an
  ·cases an
 |lookup t x k ok=>
  exfalso;simp only[bb,dP,rN]at an;split at an
  ·split at an
   ·split at an
    ·unfold rM at an;split at an<;>split at an<;>cases an
    ·cases an
   ·cases an
  ·split at an
   ·unfold rM at an;split at an<;>split at an<;>cases an
   ·cases an
  ·cases an
 |extract x i=>
  exfalso;simp only[bb,dP,wX]at an;split at an
  ·split at an<;>cases an
  ·cases an
 |call c=>
  exfalso;simp only[bb,dP,rO,lo,Bu,yP,Em]at an;split at an
  ·split at an
   ·split at an
    ·cases an
    ·cases an
    ·cases an
    ·cases an
    ·split at an<;>cases an
    ·cases an
    ·cases an
   ·cases an
  ·split at an
   ·split at an<;>cases an
   ·cases an
  ·split at an
   ·split at an<;>cases an
   ·cases an
  ·split at an
   ·split at an<;>cases an
   ·cases an
  ·cases an
 |build t parts=>exfalso;simp only[bb,nG]at an;split at an<;>cases an
 |_=>cases an
section
variable {P:Program}{S0:Env}{w0 w:World}{n:Nat}{s:ag}{a:Act}
def Nc(ah:Rel S0 w0 n s a w)(o:Oper)(ak:(bb P s o.op).1) :
  ∃v,(execOp a.eval o).run P w=.ok (.value v) w/\ll S0 w0 s a w (bb P s o.op).2 v/\(bb P s o.op).2.aM=false:=by
 obtain⟨dst,op,type,pos,after,guard⟩:=o;cases op with
 |build t parts=>obtain⟨v,aa,ab,ar⟩:=St (P:=P) (f:=Ab.aG s) (s:=s) (a:=a) (w:=w) (w0:=w0) (S0:=S0) (fun x _=>ah.aG x.2) ak;exact⟨v,mM aa,ab,ar⟩
 |_=>exact zaK ah _ ak
def ly(P:Program)(c:Prop×Option (FuncId×List az))(k:bw->Prop)(m:Prop)(N:List az->List az->bw->Prop:=fun _ _ _=>False):Prop:=
 match c with
 |(p,some (g,xs))=>p/\((∃r,aD P g xs r/\k r)\/(∃dS r,aD P g dS r/\N xs dS r)\/m)
 |_=>m
def IU(n:Nat)(s:ag)(c c':af):Prop:=c=c'\/∃v g e z xs,c=.atom v/\n<=g/\s g=.cT v e z xs/\c'=.list z xs
def Nd(n:Nat)(s:ag):List af->List af->Prop
 |[],[]=>True
 |c::r,c'::ca=>IU n s c c'/\Nd n s r ca
 |_,_=>False
def Nf(n:Nat)(s:ag):az->az->Prop
 |.one c,.one c'=>IU n s c c'
 |.agg cs,.agg cs'=>Nd n s cs cs'
 |_,_=>False
def vy(n:Nat)(s:ag):List az->List az->Prop
 |[],[]=>True
 |x::r,y::ca=>Nf n s x y/\vy n s r ca
 |_,_=>False
def Tn{n:Nat}{s:ag}:∀{a b:List af},Nd n s a b->a.length=b.length/\∀(j:Nat) (y:af),b[j]?=some y->∃x,a[j]?=some x/\IU n s x y
 |[],[],_=>⟨rfl,fun j x h=>by simp at h⟩
 |a::r,b::ca,h=>by
  obtain⟨aa,ab⟩:=Tn h.2;refine⟨by simp[aa],fun j x ac=>?_⟩;cases j with
  |zero=>simp at ac;subst ac;exact⟨a,rfl,h.1⟩
  |succ j=>simp at ac;exact ab j x ac
def To{n:Nat}{s:ag}:∀{a b:List az},vy n s a b->a.length=b.length/\∀(j:Nat) (y:az),b[j]?=some y->∃x,a[j]?=some x/\Nf n s x y
 |[],[],_=>⟨rfl,fun j x h=>by simp at h⟩
 |a::r,b::ca,h=>by
  obtain⟨aa,ab⟩:=To h.2;refine⟨by simp[aa],fun j x ac=>?_⟩;cases j with
  |zero=>simp at ac;subst ac;exact⟨a,rfl,h.1⟩
  |succ j=>simp at ac;exact ab j x ac
def Tp{S0:Env}{w0 w:World}{n m:Nat}{s:ag}{a:Act}{c c':af}{v:Value}(ah:Rel S0 w0 n s a w)(h:IU m s c c')(an:bn w (qB S0 w0.heap.size w) c v):bn w (qB S0 w0.heap.size w) c' v:=by
 rcases h with rfl|⟨cz,g,e,z,xs,rfl,_,aB,rfl⟩
 ·exact an
 ·have ev:v=cz:=by cases an;rfl
  subst ev;have h:=ah.rep g;rw[aB]at h;obtain⟨us,aw,al,aj,hm,bl⟩:=h;exact BL aw (al.mono (fun b ae=>⟨ae.1,ae.2.1⟩) (fun _ _=>rfl)) aj hm (fun b ae=>⟨.inr (bl b ae),(aw.lt b ae).2⟩)
def zcB{S0:Env}{w0 w:World}{n m:Nat}{s:ag}{a:Act}{x y:az}{v:Value}(ah:Rel S0 w0 n s a w)(h:Nf m s x y)(an:cg w (qB S0 w0.heap.size w) x v):cg w (qB S0 w0.heap.size w) y v:=by
 cases x with
 |one c=>
  cases y with
  |one c'=>exact Tp (c:=c) (c':=c') ah h an
  |agg cs=>exact h.elim
 |agg cs=>
  cases y with
  |one c'=>exact h.elim
  |agg cs'=>obtain⟨us,aH,al,aj⟩:=an;obtain⟨aa,ab⟩:=Tn h;refine⟨us,aH,by rw[al,aa],fun j c' ac=>?_⟩;obtain⟨c,ao,aT⟩:=ab j c' ac;obtain⟨u,hu,bU⟩:=aj j c ao;exact⟨u,hu,Tp ah aT bU⟩
def zcC{P:Program}{s:ag}{f:Operand}{args:List Operand}{k:bw->Prop}{m:Prop}(h:ly P (callee s f args) k m):(∃r,nK P s f args r/\k r)\/m:=by
 unfold ly at h;unfold nK;split at h
 ·rename_i e;obtain⟨ak,⟨r,ao,am⟩|⟨_,_,_,ay⟩|hm⟩:=h
  ·exact .inl ⟨r,by rw[e];exact⟨ak,ao⟩,am⟩
  ·exact ay.elim
  ·exact .inr hm
 ·exact .inr h
def IV(P:Program)(n:Nat)(s:ag)(f:Operand)(args:List Operand)(r:bw):Prop:=
 match callee s f args with
 |(p,some (g,xs))=>p/\∃dS,aD P g dS r/\vy n s xs dS/\r.flat=true
 |_=>False
def zcD{P:Program}{n:Nat}{s:ag}{f:Operand}{args:List Operand}{k Fi:bw->Prop}{m:Prop}(h:ly P (callee s f args) k m (fun xs dS r=>vy n s xs dS/\r.flat=true/\Fi r)):(∃r,nK P s f args r/\k r)\/(∃r,IV P n s f args r/\Fi r)\/m:=by
 unfold ly at h;unfold nK IV;split at h
 ·rename_i e;obtain⟨ak,⟨r,ao,am⟩|⟨dS,r,ao,aT,ay,am⟩|hm⟩:=h
  ·exact .inl ⟨r,by rw[e];exact⟨ak,ao⟩,am⟩
  ·exact .inr (.inl ⟨r,⟨ak,dS,ao,aT,ay⟩,am⟩)
  ·exact .inr (.inr hm)
 ·exact .inr (.inr h)
def zcE{P:Program}{S0:Env}{w0 w:World}{n m:Nat}{s:ag}{a:Act}(ah:Rel S0 w0 n s a w){f:Operand}{args:Array Operand}{r:bw}(ao:IV P m s f args.toList r)
  {o:Oper}(aw:∃ts,o.op=.call {callee:=.value f,args:=args,argTypes:=ts}){d:Nat}(ax:S0.m<=d/\d<n)(eu:o.dst=some d){K:Act->World->Prop}{Q:Exit->Act->World->Prop}
  (b6:∀aZ w',Rel S0 w0 n (Ab.put s d r.cP) aZ w'->K aZ w'):o.wp P a w K Q:=by
 obtain⟨ts,cF⟩:=aw;unfold IV at ao;split at ao
 ·rename_i pp g vc ch;obtain⟨qF,dS,⟨⟨fn,hL,fO,r7⟩,oJ⟩,zcF,eh⟩:=ao;obtain⟨caps,xs,p,q,gn,gP,aI,av,rfl,rfl⟩:∃caps xs p q gn,aG s f=(p,gn)/\lx s args.toList=(q,some xs)/\iz gn=some (g,caps)/\pp=(p/\q)/\vc=xs++caps:=by
   unfold callee at ch;split at ch
   ·rename_i p gn q xs gP aI;split at ch
    ·rename_i bQ caps av;simp only[cc,bS]at ch;obtain⟨rfl,rfl,rfl⟩:=ch;exact⟨caps,xs,p,q,gn,gP,aI,av,rfl,rfl⟩
    ·simp at ch
   ·simp at ch
  obtain⟨kS,ak⟩:=qF;have oK:=ah.aG f (by rw[gP];exact kS);rw[gP]at oK;obtain⟨us,nM,gA⟩:=EV oK av;have hm:args.map a.eval=(args.toList.map a.eval).toArray:=by apply qk;simp
  have cx:(execOp a.eval o).run P w=.ok (.enter g (args.map a.eval++us)) w:=by simp only[execOp,cF,resolve,nM,Deferred.ofValue,Sem.run_bind,Sem.run_pure,Result.andThen_ok,invoke,callFunc,run_program,hL,fO,r7,kg,h6];simp
  unfold Oper.wp;rw[cx];simp only[Oper.upon];rw[hm,eu];have tH:=ah.lt.Bk ah.below;have fJ:=(Sx ah aI ak).append (gA.mono (fun b ae=>⟨ae.1,ae.2.1⟩));obtain⟨jw,mV⟩:=To zcF;refine(oJ w (qB S0 w0.heap.size w) _ ⟨fun b ae=>ae.2,fun b ae=>ae.elim,fun b _ ae=>ae.elim,tH,fun b _ ae=>ae.elim⟩ ⟨by rw[fJ.1,jw],fun j y ac=>?_⟩).mono ?_
  ·obtain⟨x,aj,aT⟩:=mV j y ac;obtain⟨u,hu,an⟩:=fJ.2 j x aj;exact⟨u,hu,zcB ah aT an⟩
  rintro e w' ⟨v,rfl,ae,an,fq⟩;exact b6 _ w' (ah.back ax ae (an.flat (S':=fun _=>False) eh) (fun b ae=>ae.elim) fq)
 ·exact ao.elim
def zh(s:ag)(d aK len:Nat)(wh:Bool)(K:ag->Prop):Prop:=
 match s d with
 |.own e size xs=>match wh with
  |true=>K (put (put s d .dead) d (.own e size (xs.take len)))
  |false=>K (put (freeze s d) d (.x (.one (.list size ((xs.drop aK).take len)))))
 |_=>False
def B4(n:Nat)(s:ag)(x bH:Prop×ad):Prop:=
 bH=x\/∃p v g e z xs,x=(p,.x (.one (.atom v)))/\n<=g/\s g=.cT v e z xs/\bH=(p,.alias g)
def l'(n:Nat)(s:ag)(x:Prop×ad)(k:Prop×ad->Prop):Prop:=
 match x with
 |(p,.x (.one (.atom v)))=>∃g,n<=g/\(∃e z xs,s g=.cT v e z xs)/\k (p,.alias g)
 |x=>k x
def IW{n:Nat}{s:ag}{x:Prop×ad}{k:Prop×ad->Prop}(h:l' n s x k):∃bH,B4 n s x bH/\k bH/\∀bu:Prop×ad->Prop,bu bH->l' n s x bu:=by
 unfold l' at h;split at h
 ·rename_i p v;obtain⟨g,aT,⟨e,z,xs,aB⟩,am⟩:=h;exact⟨_,.inr ⟨p,v,g,e,z,xs,rfl,aT,aB,rfl⟩,am,fun bu bE=>⟨g,aT,⟨e,z,xs,aB⟩,bE⟩⟩
 ·rename_i bC;refine⟨_,.inl rfl,h,fun bu bE=>?_⟩;unfold l';split
  ·rename_i p v;exact absurd rfl (bC p v)
  ·exact bE
def zcG{S0:Env}{w0 w:World}{m:Nat}{s:ag}{a:Act}{x bH:Prop×ad}{u:Value}(aj:dM S0 w0 s a w x u)(h:B4 m s x bH):dM S0 w0 s a w bH u:=by
 rcases h with rfl|⟨p,v,g,e,z,xs,rfl,_,aB,rfl⟩
 ·exact aj
 ·intro ak;have aa:bn w (bR S0 w0.heap.size w s (aJ a)) (.atom v) u:=aj ak;cases aa;exact⟨by rw[aB];rfl,by rw[aB];rfl⟩
def Tq(n:Nat)(s:ag)(x bH:Prop×ad):Prop:=
 bH=x\/∃p b g c bs es,x=(p,.x (.one (.atom (.map (some b)))))/\n<=g/\s g=.fc b c bs es/\bH=(p,.alias g)
def tQ(n:Nat)(s:ag)(x:Prop×ad)(k:Prop×ad->Prop):Prop:=
 match x with
 |(p,.x (.one (.atom (.map (some b)))))=>∃g,n<=g/\(∃c bs es,s g=.fc b c bs es)/\k (p,.alias g)
 |x=>k x
def Ng{n:Nat}{s:ag}{x:Prop×ad}{k:Prop×ad->Prop}(h:tQ n s x k):∃bH,Tq n s x bH/\k bH/\∀bu:Prop×ad->Prop,bu bH->tQ n s x bu:=by
 unfold tQ at h;split at h
 ·rename_i p b;obtain⟨g,aT,⟨c,bs,es,aB⟩,am⟩:=h;exact⟨_,.inr ⟨p,b,g,c,bs,es,rfl,aT,aB,rfl⟩,am,fun bu bE=>⟨g,aT,⟨c,bs,es,aB⟩,bE⟩⟩
 ·rename_i bC;refine⟨_,.inl rfl,h,fun bu bE=>?_⟩;unfold tQ;split
  ·rename_i p b;exact absurd rfl (bC p b)
  ·exact bE
def zcH{S0:Env}{w0 w:World}{m:Nat}{s:ag}{a:Act}{x bH:Prop×ad}{u:Value}(aj:dM S0 w0 s a w x u)(h:Tq m s x bH):dM S0 w0 s a w bH u:=by
 rcases h with rfl|⟨p,b,g,c,bs,es,rfl,_,aB,rfl⟩
 ·exact aj
 ·intro ak;have aa:bn w (bR S0 w0.heap.size w s (aJ a)) (.atom (.map (some b))) u:=aj ak;cases aa;exact⟨by rw[aB];rfl,by rw[aB];rfl⟩
def zi(s:ag)(d:Nat)(r:Prop×ad):Option (Prop×Nat):=
 match r with
 |(p,.alias i)=>match s bF with
  |.res l=>match l.contains (d,0)&&(s i).tight with
   |true=>some (p,i)
   |false=>none
  |_=>none
 |_=>none
def Nh(s:ag)(d i:Nat):ag:=fun j=>if j=b0 d 0 then .link d 0 i else put s d (.box [.any]) j
def Tr{s:ag}{d i:Nat}{r:Prop×ad}{p:Prop}(h:zi s d r=some (p,i)):r=(p,.alias i)/\(s i).tight=true:=by
 unfold zi at h;split at h
 ·split at h
  ·split at h
   ·rename_i ae;rw[b4]at ae;simp only[bS,cc]at h;obtain⟨rfl,rfl⟩:=h;exact⟨rfl,ae.2⟩
   ·cases h
  ·cases h
 ·cases h
def fs(P:Program)(n:Nat)(s:ag)(op:Op)(dst:Option Tmp)(K:ag->Prop):Prop:=
 match op,dst with
 |.alloc t,some d=>match zeroOf P t with
  |some cs=>d<n/\K (put s d (.box cs))
  |none=>False
 |.box _ x,some d=>match aG s x with
  |(p,.ptr i off)=>p/\d<n/\K (put s d (.ds i off))
  |r=>match zi s d r with
   |some (p,i)=>p/\d<n/\i≠d/\(s (b0 d 0)).free=true/\K (Nh s d i)
   |none=>match h_ s x with
    |(p,.x bK)=>p/\d<n/\K (put (dt s (dc s [x])) d (.box bK.cells))
    |_=>False
 |.build t parts,some d=>(nG P (h_ s) t parts.toList).1/\d<n/\K (put (dt s (dc s (parts.toList.map (·.2)))) d (nG P (h_ s) t parts.toList).2)
 |.buildSlice t len parts,some d=>(jS P (h_ s) t len parts.toList).1/\d<n/\K (put (dt s (dc s (parts.toList.map (·.2)))) d (jS P (h_ s) t len parts.toList).2)
 |.store t addr x,none=>match jv s (aG s addr) (aG s x)with
  |some (p,i,off,d)=>hS P t=true/\p/\(fr P s t i off d).1/\K (fr P s t i off d).2
  |none=>hS P t=true/\(jU P (dt s (dc s [x])) t (aG (dt s (dc s [x])) addr) (h_ s x)).1/\K (jU P (dt s (dc s [x])) t (aG (dt s (dc s [x])) addr) (h_ s x)).2
 |.makeMap _ none,some d=>d<n/\K (put s d (.mp 0 [] []))
 |.makeSlice t l c,some d=>(vw P t (aG s l) (aG s c)).1/\d<n/\K (put s d (vw P t (aG s l) (aG s c)).2)
 |.convert src dst x,some d=>match h4 P dst with
  |true=>(nQ P src dst (aG s x)).1/\d<n/\K (put s d (nQ P src dst (aG s x)).2)
  |false=>(bb P s (.convert src dst x)).1/\d<n/\K (put s d (bb P s (.convert src dst x)).2)
 |.mapUpdate t m k x,none=>tQ n s (aG s m) fun hz=>(vv P s t hz (aG s k) (aG s x)).1/\K (vv P s t hz (aG s k) (aG s x)).2
 |.assign (.tmp t),some d=>match s t with
  |.own e size xs=>d<n/\K (put (put s t .dead) d (.own e size xs))
  |.mp c bs es=>d<n/\K (put (put s t .dead) d (.mp c bs es))
  |.view i aK len wh=>match decide (i=d)with
   |true=>d<n/\zh s d aK len wh K
   |false=>d<n/\K (put s d (.view i aK len wh))
  |_=>d<n/\K (put s d (look s (.tmp t)))
 |.call c,none=>match c.callee with
  |.builtin .clear=>match c.args.toList,c.argTypes.toList with
   |[x],[t]=>(zd P s t (aG s x)).1/\K (zd P s t (aG s x)).2
   |_,_=>False
  |_=>False
 |.call c,some d=>match c.callee with
  |.value f=>ly P (callee s f c.args.toList) (fun r=>d<n/\K (put (nL s c.args.toList r) d r.cP)) (oI P (vb s f c.args.toList) (fun r=>d<n/\K (put s d r.cP)) (oG s (qD s c.args.toList) fun s=>iA P s (fW s f c.args.toList) (fun xs r outs=>d<n/\K (put (e6 s xs outs) d r.cP)))) (fun xs dS r=>vy n s xs dS/\r.flat=true/\d<n/\K (put s d r.cP))
  |.builtin .append=>match c.args.toList,c.argTypes.toList with
   |[x,y],[t,t']=>l' n s (aG s x) fun bH=>(eK P s t t' bH (aG s y)).1/\d<n/\K (put (eK P s t t' bH (aG s y)).2.1 d (eK P s t t' bH (aG s y)).2.2)
   |_,_=>False
  |_=>(bb P s (.call c)).1/\d<n/\K (put s d (bb P s (.call c)).2)
 |op,some d=>(bb P s op).1/\d<n/\K (put s d (bb P s op).2)
 |_,_=>False
def Fj(ah:Rel S0 w0 n s a w){o:Oper}{d:Nat}{r:ad}(ax:S0.m<=d/\d<n)(eu:o.dst=some d)
  (h:∃v,(execOp a.eval o).run P w=.ok (.value v) w/\ll S0 w0 s a w r v/\r.aM=false)(oA:∀j,r.refs j=true->(s j).aM=true)
  {K:Act->World->Prop}{Q:Exit->Act->World->Prop}(b6:∀aZ w',Rel S0 w0 n (Ab.put s d r) aZ w'->K aZ w'):o.wp P a w K Q:=by
 obtain⟨v,cx,bU,cp⟩:=h;unfold Oper.wp;rw[cx];simp only[Oper.upon,eu];exact b6 _ _ (ah.put ax (World.grownBy.refl w none) oA bU (fun b ae=>by rw[jm cp]at ae;cases ae) (fun b ae=>by rw[jm cp]at ae;cases ae))
def zcI{x:Operand}{p:Prop}{r:ad}(h:aG s x=(p,r))(ak:p):(aG s x).1:=by rw[h];exact ak
def xv(ah:Rel S0 w0 n s a w)(o:Oper)(dV:∀d,o.dst=some d->S0.m<=d){K:ag->Prop}(h:fs P n s o.op o.dst K){bP:Act->World->Prop}{Q:Exit->Act->World->Prop}
  (b6:∀s' aZ w',Rel S0 w0 n s' aZ w'->K s'->bP aZ w'):o.wp P a w bP Q:=by
 have plain:∀d,o.dst=some d->(bb P s o.op).1/\d<n/\K (Ab.put s d (bb P s o.op).2)->o.wp P a w bP Q:=by intro d eu ⟨ak,ax,am⟩;exact Fj ah ⟨dV d eu,ax⟩ eu (Nc ah o ak) (fun j ac=>qL ah.wf _ ac) (fun aZ w' bM=>b6 _ aZ w' bM am)
 obtain⟨dst,op,type,pos,after,guard⟩:=o;dsimp only at h plain dV;cases dst with
 |none=>
  cases op<;>try (exact h.elim)
  case store t addr x=>
   simp only[fs]at h;have fin:∀s' w',(Instr.storeAt t (a.eval addr) (a.eval x)).run P w=.ok () w'->Rel S0 w0 n s' a w'->K s'->({dst:=none,op:=.store t addr x,type:=type,pos:=pos,after:=after,guard:=guard}:Oper).wp P a w bP Q:=by
    intro s' w' cx bM am;unfold Oper.wp;have:(execOp a.eval ({dst:=none,op:=.store t addr x,type:=type,pos:=pos,after:=after,guard:=guard}:Oper)).run P w=.ok .skip w':=by simp only[execOp,Sem.run_bind,cx,Result.andThen_ok,Sem.run_pure]
    rw[this];exact b6 _ _ _ bM am
   split at h
   ·rename_i p i off d e;obtain⟨ba,xo,ak,am⟩:=h;obtain⟨dm,q,av,aI,rfl⟩:=E8 e;have aj:=ah.aG addr;have aS:=ah.aG x;rw[av]at aj;rw[aI]at aS;obtain⟨w',cx,bM⟩:=zbM (P:=P) ah aj aS ba xo ak;exact fin _ w' cx bM am
   ·obtain⟨ba,ak,am⟩:=h;have tR:=tF (dc s [x]) s ah;obtain⟨w',cx,bM⟩:=M3 (P:=P) tR (tR.aG addr) (Io ah [x] (by simp)) ba ak;exact fin _ w' cx bM am
  case call c=>
   obtain⟨callee,args,argTypes⟩:=c;simp only[fs]at h;split at h
   ·obtain⟨args⟩:=args;obtain⟨argTypes⟩:=argTypes;split at h
    ·rename_i x t av aI;have sc:args=[x]:=av;have vo:argTypes=[t]:=aI;subst sc;subst vo;obtain⟨ak,am⟩:=h;obtain⟨r,w',cx,bM⟩:=zcn (P:=P) (ty:=type) ah (ah.aG _) ak;have aj:=mH (fun r=>Result.andThen r fun (a:Value) w'=>Result.ok (Next.value a) w') cx;unfold Oper.wp;simp only[execOp,resolve,Sem.run_bind,Sem.run_pure,Result.andThen_ok,invoke,builtin,map_mk,iw,u6];have eP:((Sem.run P (Builtin.clear_ ⟨[t]⟩ type ⟨[a.eval x]⟩) w).andThen fun (a:Value) w'=>Result.ok (Next.value a) w')=.ok (.value r) w':=aj;rw[eP];exact b6 _ _ _ bM am
    ·exact h.elim
   ·exact h.elim
  case mapUpdate t m k x=>
   simp only[fs]at h;obtain⟨hz,dK,⟨ak,am⟩,_⟩:=Ng h;obtain⟨w',cx,bM⟩:=zck (P:=P) ah (zcH (ah.aG m) dK) (ah.aG k) (ah.aG x) ak;unfold Oper.wp;have:(execOp a.eval ({dst:=none,op:=.mapUpdate t m k x,type:=type,pos:=pos,after:=after,guard:=guard}:Oper)).run P w=.ok .skip w':=by simp only[execOp,Sem.run_bind,cx,Result.andThen_ok,Sem.run_pure]
   rw[this];exact b6 _ _ _ bM am
  case makeMap t r=>cases r<;>exact h.elim
  case assign x=>cases x<;>exact h.elim
  all_goals exact h.elim
 |some d=>
  have ip:=dV d rfl;cases op<;>try (exact plain d rfl h)
  case convert src dst x=>
   simp only[fs]at h;cases fg:h4 P dst with
   |false=>rw[fg]at h;exact plain d rfl h
   |true=>
    rw[fg]at h;obtain⟨ak,ax,am⟩:=h;obtain⟨r,w',cx,bM⟩:=Td (P:=P) ah ⟨dV d rfl,ax⟩ (ah.aG x) ak;unfold Oper.wp;have aj:(execOp a.eval ({dst:=some d,op:=.convert src dst x,type:=type,pos:=pos,after:=after,guard:=guard}:Oper)).run P w=.ok (.value r) w':=by simp only[execOp,Sem.run_bind,cx,Result.andThen_ok,Sem.run_pure]
    rw[aj];exact b6 _ _ _ bM am
  case alloc t=>
   simp only[fs]at h;cases aY:zeroOf P t with
   |none=>rw[aY]at h;exact h.elim
   |some cs=>
    rw[aY]at h;obtain⟨ax,am⟩:=h;obtain⟨z,cx,al⟩:=Mt (P:=P) (w:=w) aY (bR S0 w0.heap.size w s (aJ a));have aj:(execOp a.eval ({dst:=some d,op:=.alloc t,type:=type,pos:=pos,after:=after,guard:=guard}:Oper)).run P w=.ok (.value (.pointer (some ⟨w.heap.size,0,none⟩))) (w.alloc (.cells z.cells t)):=by simp[execOp,Instr.alloc,cx,newVar,newRow]
    unfold Oper.wp;rw[aj];exact b6 _ _ _ (ah.Mu ⟨ip,ax⟩ al) am
  case makeMap t r=>
   cases r with
   |none=>
    obtain⟨ax,am⟩:=h;unfold Oper.wp;have aj:(execOp a.eval ({dst:=some d,op:=.makeMap t none,type:=type,pos:=pos,after:=after,guard:=guard}:Oper)).run P w=.ok (.value (.map (some w.heap.size))) (w.alloc (.map #[] 0)):=by simp[execOp,Instr.makeMap]
    rw[aj];exact b6 _ _ _ (ah.zcp ⟨ip,ax⟩) am
   |some r=>exact plain d rfl h
  case makeSlice t l c=>
   obtain⟨ak,ax,am⟩:=h;obtain⟨v,w',cx,bM⟩:=zcq (P:=P) ah (ah.aG l) (ah.aG c) ⟨ip,ax⟩ ak;unfold Oper.wp;have aj:(execOp a.eval ({dst:=some d,op:=.makeSlice t l c,type:=type,pos:=pos,after:=after,guard:=guard}:Oper)).run P w=.ok (.value v) w':=by simp only[execOp,Sem.run_bind,cx,Result.andThen_ok,Sem.run_pure]
   rw[aj];exact b6 _ _ _ bM am
  case box t x=>
   simp only[fs]at h;split at h
   ·rename_i p i off e;obtain⟨ak,ax,am⟩:=h;have cW:=ah.aG x (by rw[e];exact ak);rw[e]at cW;obtain⟨b,aH,ae⟩:=cW;have aj:(execOp a.eval ({dst:=some d,op:=.box t x,type:=type,pos:=pos,after:=after,guard:=guard}:Oper)).run P w=.ok (.value (.pointer (some ⟨w.heap.size,0,none⟩))) (w.alloc (.cells #[.pointer (some ⟨b,off,none⟩)] t)):=by
     simp[execOp,Instr.box,newVar,newRow,aH,Value.cells]
    unfold Oper.wp;rw[aj];exact b6 _ _ _ (ah.zaM ⟨ip,ax⟩ ae) am
   split at h
   ·rename_i p i e;obtain⟨ak,ax,hid,fq,am⟩:=h;obtain⟨e,pI⟩:=Tr e;have cW:=ah.aG x (by rw[e];exact ak);rw[e]at cW;obtain⟨aH,xw⟩:=cW;have fV:∀u,(s i).valOf u=u:=fun u=>by cases h9:s i<;>rw[h9]at pI<;>first|rfl|cases pI
    rw[fV]at aH;have lV:(a.eval x).oneCell'=true:=by
     have h:=ah.rep i;rw[aH];cases h9:s i<;>rw[h9]at h pI<;>first|(cases pI;done)|skip
     ·obtain⟨b,arr,ty,e,_⟩:=h;rw[e];rfl
     ·obtain⟨us,bq,_⟩:=h;rcases bq.2 with⟨e,_⟩|⟨g,cap,cur,e,_⟩<;>rw[e]<;>rfl
     ·obtain⟨b,ents,e,_⟩:=h;rw[e];rfl
    have vq:(a.eval x).cells=#[a.eval x]:=by generalize a.eval x=u at lV;cases u<;>first|rfl|(simp[Value.oneCell']at lV)
    have aj:(execOp a.eval ({dst:=some d,op:=.box t x,type:=type,pos:=pos,after:=after,guard:=guard}:Oper)).run P w=.ok (.value (.pointer (some ⟨w.heap.size,0,none⟩))) (w.alloc (.cells #[a.eval x] t)):=by simp[execOp,Instr.box,newVar,newRow,vq]
    have al:cj w (bR S0 w0.heap.size w s (aJ a)) [.any] (#[a.eval x]:Array Value).toList:=
     ⟨rfl,fun j c ac=>by
      match j,ac with
      |0,ac=>cases ac;exact⟨_,rfl,bn.any _ lV⟩
      |j+1,ac=>cases ac⟩
    have se:=ah.Mu (t:=t) ⟨ip,ax⟩ al;have l0:Ab.put s d (.box [.any]) d=.box [.any]:=jo rfl;have oC:Ab.put s d (.box [.any]) i=s i:=mD hid xw;have zcJ:aJ (a.put (some d) (.pointer (some ⟨w.heap.size,0,none⟩))) i=aJ a i:=by rw[yK _ _ _ (by rw[ah.size];exact ax),au hid]
    have zcK:aJ (a.put (some d) (.pointer (some ⟨w.heap.size,0,none⟩))) d=.pointer (some ⟨w.heap.size,0,none⟩):=by rw[yK _ _ _ (by rw[ah.size];exact ax),aC rfl]
    have Ni:b0 d 0≠d:=by unfold b0;omega
    have zcL:(Ab.put s d (.box [.any]) (b0 d 0)).free=true:=by
     rcases ou (s:=s) (v:=.box [.any]) Ni with h|⟨_,_,h⟩<;>rw[h]
     ·exact fq
     ·rfl
    have kU:=se.E9 (k:=b0 d 0) (i:=d) (off:=0) (d:=i) (b:=w.heap.size) (cs:=[.any]) zcL (by rw[oC];exact xw) (by rw[l0];rfl) rfl (by rw[l0,zcK];rfl) (by rw[oC,zcJ,fV,cell_of_row _ w.heap.size 0 #[a.eval x] t (0,0) (heap_alloc_new w _)];simp[aH])
    unfold Oper.wp;rw[aj];exact b6 _ _ _ kU am
   split at h
   ·rename_i p bK e;obtain⟨ak,ax,am⟩:=h;have tR:=tF (dc s [x]) s ah;have bU:=Io ah [x] (x:=x) (by simp) (by rw[e];exact ak);rw[e]at bU;have aj:(execOp a.eval ({dst:=some d,op:=.box t x,type:=type,pos:=pos,after:=after,guard:=guard}:Oper)).run P w=.ok (.value (.pointer (some ⟨w.heap.size,0,none⟩))) (w.alloc (.cells (a.eval x).cells t)):=by
     simp[execOp,Instr.box,newVar,newRow]
    unfold Oper.wp;rw[aj];exact b6 _ _ _ (tR.Mu ⟨ip,ax⟩ (cg.cells bU)) am
   ·exact h.elim
  case build t parts=>obtain⟨ak,ax,am⟩:=h;have tR:=tF (dc s (parts.toList.map (·.2))) s ah;obtain⟨v,aa,ab,ar⟩:=St (P:=P) (f:=h_ s) (fun x aj=>Io ah (parts.toList.map (·.2)) (hh.2 ⟨x,aj,rfl⟩)) ak;refine Fj tR ⟨ip,ax⟩ rfl ⟨v,mM aa,ab,ar⟩ (fun j ac=>?_) (fun aZ w' bM=>b6 _ _ _ bM am);unfold nG at ac;split at ac<;>cases ac
  case buildSlice t len parts=>
   obtain⟨ak,ax,am⟩:=h;have tR:=tF (dc s (parts.toList.map (·.2))) s ah;obtain⟨v,w',cx,bM⟩:=MM (P:=P) (f:=h_ s) tR (fun x aj=>Io ah (parts.toList.map (·.2)) (hh.2 ⟨x,aj,rfl⟩)) ⟨ip,ax⟩ ak;unfold Oper.wp;have aj:(execOp a.eval ({dst:=some d,op:=.buildSlice t len parts,type:=type,pos:=pos,after:=after,guard:=guard}:Oper)).run P w=.ok (.value v) w':=by simp only[execOp,Sem.run_bind,cx,Result.andThen_ok,Sem.run_pure]
   rw[aj];exact b6 _ _ _ bM am
  case assign x=>
   cases x with
   |tmp t=>
    simp only[fs]at h;cases ap:s t with
    |own e size xs=>
     rw[ap]at h;obtain⟨ax,am⟩:=h;have ai:=ah.rep t;rw[ap]at ai;obtain⟨us,bq,al,aj,hm,cL⟩:=ai;have ze:a' (s t) (aJ a t)=(aJ a t).ownBlock:=by rw[ap];rfl
     refine b6 _ _ _ (ah.take (r:=.own e size xs) ⟨ip,ax⟩ (by rw[ap];rfl) (World.grownBy.refl w _) (v:=aJ a t) (fun b ae=>.inl (by rw[ze];exact ae)) (fun j=>rfl) (fun s' tm' S bW=>⟨us,bq,al.mono bW (fun _ _=>rfl),aj,hm,cL⟩)) am
    |mp c bs es=>
     rw[ap]at h;obtain⟨ax,am⟩:=h;have ai:=ah.rep t;rw[ap]at ai;obtain⟨b,ents,aH,a1,bl,he⟩:=ai;have ze:a' (s t) (aJ a t)=some b:=by rw[ap,aH];rfl
     refine b6 _ _ _ (ah.take (r:=.mp c bs es) ⟨ip,ax⟩ (by rw[ap];rfl) (World.grownBy.refl w _) (v:=aJ a t) (fun bg ae=>.inl (by rw[ze,<-ae,aH];rfl)) (fun j=>rfl) (fun s' tm' S bW=>⟨b,ents,aH,a1,bl,he.mono bW (fun _ _=>rfl)⟩)) am
    |view i aK len wh=>
     rw[ap]at h;dsimp only at h;cases hid:decide (i=d)with
     |false=>
      rw[hid]at h;refine plain d rfl ⟨trivial,h.1,?_⟩;show K (Ab.put s d (look s (.tmp t)))
      simp only[look,ap];exact h.2
     |true=>
      rw[hid]at h;obtain rfl:=wV hid;obtain⟨ax,am⟩:=h;unfold zh at am;split at am
      ·rename_i e size xs gp;have ba:=ah.rep t;rw[ap]at ba;have ai:=ah.rep i;rw[gp]at ai;obtain⟨us,bq,al,aj,hm,cL⟩:=ai;split at am
       ·have lj:a' (s i) (aJ a i)=(aJ a i).ownBlock:=by rw[gp];rfl
        obtain⟨gS,r5,aq,ED⟩:=MC gp ba bq al aj;refine b6 _ _ _ (ah.take (i:=i) (r:=.own e size (xs.take len)) ⟨ip,ax⟩ (by rw[gp];rfl) (World.grownBy.refl w _) (v:=aJ a t) (fun b ae=>.inl ?_) (fun j=>rfl) (fun s' tm' S bW=>⟨us.take (len*size),gS,aq.mono bW (fun _ _=>rfl),fun x eP=>aj x (rU eP),by rw[d'];omega,fun b ae=>cL b (r5 b ae)⟩)) am;rw[lj];exact r5 b ae
       ·have tR:=ah.freeze (.inl ⟨_,_,_,gp⟩);have cb:∀k b,a' (freeze s i k) (aJ a k)=some b->k≠i/\a' (s k) (aJ a k)=some b:=by
         intro k b ae;by_cases dY:k=i
         ·subst dY;unfold freeze at ae;simp only[aC,gp,r1]at ae;cases ae
         ·refine⟨dY,?_⟩;unfold freeze at ae;simp only[au dY]at ae;split at ae
          ·rw[jm (Mv _ _)]at ae;cases ae
          ·exact ae
        have IR:bn w (bR S0 w0.heap.size w (freeze s i) (aJ a)) (.list size ((xs.drop aK).take len)) (aJ a t):=by refine MA gp ba bq (al.mono (fun b ae=>⟨ae.1,ae.2.1,fun k eV=>ae.2.2 k (cb k b eV).2⟩) (fun _ _=>rfl)) aj (fun b ae=>⟨.inr (cL b ae),(bq.lt b ae).2,fun k eV=>?_⟩);obtain⟨aa,ab⟩:=cb k b eV;exact aa (ah.inj k i b ab (by rw[gp];exact ae))
        exact Fj (r:=.x (.one (.list size ((xs.drop aK).take len)))) tR ⟨ip,ax⟩ rfl ⟨aJ a t,rfl,IR,rfl⟩ (fun j ac=>by cases ac) (fun aZ w' bM=>b6 _ _ _ bM am)
      ·exact am.elim
    |_=>rw[ap]at h;refine plain d rfl ⟨trivial,h.1,?_⟩;exact h.2
   |_=>exact plain d rfl h
  case call c=>
   obtain⟨callee,args,argTypes⟩:=c;simp only[fs]at h;split at h
   ·rename_i f;rcases zcD h with⟨r,ao,ax,am⟩|⟨r,ao,ax,am⟩|ao
    ·exact MO (P:=P) ah ao ⟨argTypes,rfl⟩ ⟨ip,ax⟩ rfl (fun aZ w' bM=>b6 _ _ _ bM am)
    ·exact zcE (P:=P) ah ao ⟨argTypes,rfl⟩ ⟨ip,ax⟩ rfl (fun aZ w' bM=>b6 _ _ _ bM am)
    ·exact zbj (P:=P) ah ao ⟨argTypes,rfl⟩ ip rfl (fun r an=>⟨an.1,fun aZ w' bM=>b6 _ _ _ bM an.2⟩) (fun ao=>MY (P:=P) (tF _ s ah) ao ⟨argTypes,rfl⟩ rfl ip b6)
   ·obtain⟨args⟩:=args;obtain⟨argTypes⟩:=argTypes;split at h
    ·rename_i x y t t' av aI;have sc:args=[x,y]:=av;have vo:argTypes=[t,t']:=aI;subst sc;subst vo;obtain⟨bH,io,⟨ak,ax,am⟩,_⟩:=IW h;obtain⟨r,w',cx,bM⟩:=zcj (P:=P) (ty:=type) ah ⟨ip,ax⟩ (zcG (ah.aG x) io) (ah.aG y) ak;have aj:=mH (fun r=>Result.andThen r fun (a:Value) w'=>Result.ok (Next.value a) w') cx;unfold Oper.wp;simp only[execOp,resolve,Sem.run_bind,Sem.run_pure,Result.andThen_ok,invoke,builtin,map_mk,iw,u6];have eP:((Sem.run P (Builtin.append_ ⟨[t,t']⟩ type ⟨[a.eval x,a.eval y]⟩) w).andThen fun (a:Value) w'=>Result.ok (Next.value a) w')=.ok (.value r) w':=aj;rw[eP];exact b6 _ _ _ bM am
    ·exact h.elim
   ·exact plain d rfl h
end
end Go.Ab
namespace Go.Ab
open Go Go.RowKit
variable [bf]
def c1(ops:Array Oper)(s:ag)(g:Nat×Bool):Option Bool:=
 match (ops[g.1]?).bind (·.dst)with
 |some d=>match s d with
  |.x (.one (.bool b))=>some (b==g.2)
  |.cond e (.x (.one (.bool b)))=>some (e&&(b==g.2))
  |_=>none
 |none=>none
def tS(P:Program)(n:Nat)(s:ag)(e:Bool)(op:Op)(dst:Option Tmp)(K:ag->Prop):Prop:=
 match dst with
 |some d=>match op with
  |.call c=>match c.callee with
   |.value f=>pA P e (callee s f c.args.toList) (fun r=>d<n/\K (put s d (.cond e r.cP)))
   |_=>(e=true->(bb P s (.call c)).1)/\(bb P s (.call c)).2.aM=false/\d<n/\K (put s d (.cond e (bb P s (.call c)).2))
  |.buildSlice t len parts=>match e with
   |true=>(jS P (aG s) t len parts.toList).1/\d<n/\K (put s d (jS P (aG s) t len parts.toList).2)
   |false=>d<n/\K (put s d (.cond false (.x (.one (.bool false)))))
  |op=>(e=true->(bb P s op).1)/\(bb P s op).2.aM=false/\d<n/\K (put s d (.cond e (bb P s op).2))
 |none=>False
def Nj(s:ag)(op:Op):Bool:=match op with
 |.call c=>match c.callee with
  |.value f=>(callee s f c.args.toList).2.isNone
  |_=>false
 |_=>false
def tT(P:Program)(n:Nat)(s:ag)(e:Bool)(op:Op)(dst:Option Tmp)(K:ag->Prop):Prop:=match dst,op with
 |some d,.call c=>match c.callee with
  |.value f=>match e with
   |true=>iA P s (fW s f c.args.toList) (fun xs r outs=>d<n/\r.cP.aM=false/\K (put (e6 s xs outs) d (.cond true r.cP)))
   |false=>d<n/\K (put s d (.cond false (.x (.one (.bool false)))))
  |_=>False
 |_,_=>False
def ft(P:Program)(n:Nat)(ops:Array Oper)(o:Oper)(s:ag)(K:ag->Prop):Prop:=
 match o.guard with
 |none=>fs P n s o.op o.dst K
 |some g=>match c1 ops s g with
  |some e=>match Nj s o.op with
   |true=>tT P n s e o.op o.dst K
   |false=>tS P n s e o.op o.dst K
  |none=>False
def bN(P:Program)(n:Nat)(ops:Array Oper):List Oper->ag->(ag->Prop)->Prop
 |[],s,K=>K s
 |o::r,s,K=>ft P n ops o s (fun s'=>bN P n ops r s' K)
section
variable {P:Program}{S0:Env}{w0 w:World}{n:Nat}{s:ag}{a:Act}
def Rel.Nk{d:Nat}{s':ag}(ah:Rel S0 w0 n s a w)(hdn:d<n)(cp:(s d).aM=false)(h:∀i,s' i=if i=d then .cond true (s d)else s i):Rel S0 w0 n s' a w:=by
 have ax:s' d=.cond true (s d):=by rw[h,aC rfl]
 have aw:∀i,i≠d->s' i=s i:=fun i ai=>by rw[h,au ai]
 have cb:∀i b,a' (s' i) (aJ a i)=some b->a' (s i) (aJ a i)=some b:=by
  intro i b ae;by_cases ai:i=d
  ·subst ai;rw[ax]at ae;cases ae
  ·rw[aw i ai]at ae;exact ae
 have da:∀b,bR S0 w0.heap.size w s (aJ a) b->bR S0 w0.heap.size w s' (aJ a) b:=fun b ae=>⟨ae.1,ae.2.1,fun i ai=>ae.2.2 i (cb i b ai)⟩
 have am:∀k,(s k).aM=true->s' k=s k:=by intro k am;refine aw k ?_;rintro rfl;rw[cp]at am;cases am
 have hrefs:∀k,(aJ a k=aJ a k/\((s k).aM=true->(s' k).aM=true/\(s' k).size=(s k).size/\(s' k).len=(s k).len/\(s' k).valOf=(s k).valOf)/\(∀b,a' (s k) (aJ a k)=some b->a' (s' k) (aJ a k)=some b)):=by
  intro k;refine⟨rfl,fun h=>by rw[am k h];exact⟨h,rfl,rfl,rfl⟩,fun b ae=>?_⟩;have ff:(s k).aM=true:=by
   cases h:(s k).aM with
   |true=>rfl
   |false=>rw[jm h]at ae;cases ae
  rw[am k ff];exact ae
 have fk:∀(bB off:Nat) (cs:List af) (b:Nat),(s bB).fz=some cs->a' (s bB) (aJ a bB)=some b->(∃cs',(s' bB).fz=some cs'/\cs'[off]?=cs[off]?)/\w.cell? ⟨b,off,none⟩=w.cell? ⟨b,off,none⟩:=
  fun bB off cs b cO _=>⟨⟨cs,by rw[am bB (ad.mB cO)];exact cO,rfl⟩,rfl⟩
 refine⟨ah.defers,ah.size,ah.below,ah.lt,fun i=>?_,fun i j b ai ac=>ah.inj i j b (cb i b ai) (cb j b ac),fun i ai=>?_,fun i j ct=>?_,ah.lU⟩
 ·by_cases ai:i=d
  ·subst ai;rw[ax];exact⟨cp,(ah.rep i).mono da (fun _ _=>rfl) (fun _ _=>rfl) (fun k _=>hrefs k) (fun bB off _ cs b _=>fk bB off cs b)⟩
  ·rw[aw i ai];exact(ah.rep i).mono da (fun _ _=>rfl) (fun _ _=>rfl) (fun k _=>hrefs k) (fun bB off _ cs b _=>fk bB off cs b)
 ·by_cases hid:i=d
  ·subst hid;exact absurd ai (by omega)
  ·rw[aw i hid];exact ah.out i ai
 ·have:(s i).refs j=true:=by
   by_cases ai:i=d
   ·subst ai;rw[ax]at ct;exact ct
   ·rw[aw i ai]at ct;exact ct
  have lc:=ah.wf i j this;rw[am j lc];exact lc
def zj(ah:Rel S0 w0 n s a w){ops:Array Oper}{g:Nat×Bool}{e:Bool}(h:c1 ops s g=some e):(yielded ops a.tmps g.1==some g.2)=e:=by
 unfold c1 at h;cases ax:(ops[g.1]?).bind (·.dst)with
 |none=>rw[ax]at h;cases h
 |some d=>
  rw[ax]at h;have bU:=ah.rep d;have aS:yielded ops a.tmps g.1=match a.tmps[d]? with|some (.bool b)=>some b|_=>none:=by unfold yielded;rw[ax];rfl
  have g9:∀b,aJ a d=.bool b->a.tmps[d]?=some (.bool b):=by
   intro b ae;simp only[aJ,lg]at ae;cases aj:a.tmps[d]? with
   |none=>rw[aj]at ae;cases ae
   |some v=>rw[aj]at ae;simp at ae;rw[ae]
  simp only at h;split at h
  ·rename_i b ap;injection h with h
   rw[ap]at bU;rw[aS,g9 b (ny bU),<-h];cases b<;>cases g.2<;>rfl
  ·rename_i bV b ap;injection h with h
   rw[ap]at bU;obtain⟨_,bU⟩:=bU;cases bV with
   |true=>rw[aS,g9 b (ny bU),<-h];cases b<;>cases g.2<;>rfl
   |false=>
    have hu:aJ a d=undef:=bU;have:(match a.tmps[d]? with|some (Value.bool b)=>some b|_=>none)=none:=by
     simp only[aJ,lg]at hu;cases aj:a.tmps[d]? with
     |none=>rfl
     |some v=>rw[aj]at hu;simp at hu;rw[hu];rfl
    rw[aS,this,<-h];rfl
  ·cases h
def Fk(ah:Rel S0 w0 n s a w){d:Nat}{r:ad}(ax:S0.m<=d/\d<n)(cp:r.aM=false)(oA:∀j,r.refs j=true->(s j).aM=true) :
  Rel S0 w0 n (Ab.put s d (.cond false r)) (a.put (some d) undef) w:=
 ah.put ax (World.grownBy.refl w none) oA ⟨cp,by simp⟩ (fun b ae=>by cases ae) (fun b ae=>by cases ae)
def ll.cond{r:ad}{v:Value}(h:ll S0 w0 s a w r v)(cp:r.aM=false):ll S0 w0 s a w (.cond true r) v:=⟨cp,by simpa using h⟩
def Ts(ah:Rel S0 w0 n s a w)(o:Oper)(dV:∀d,o.dst=some d->S0.m<=d){e:Bool}{K:ag->Prop}(h:tS P n s e o.op o.dst K){bP:Act->World->Prop}{Q:Exit->Act->World->Prop}
  (b6:∀s' aZ w',Rel S0 w0 n s' aZ w'->K s'->bP aZ w'):if e then o.wp P a w bP Q else bP (a.put o.dst undef) w:=by
 obtain⟨dst,op,type,pos,after,guard⟩:=o;dsimp only at h dV;cases dst with
 |none=>exact h.elim
 |some d=>
  have hm:=dV d rfl;have plain:(e=true->(bb P s op).1)/\(bb P s op).2.aM=false/\d<n/\K (Ab.put s d (.cond e (bb P s op).2)) ->
    if e then ({dst:=some d,op:=op,type:=type,pos:=pos,after:=after,guard:=guard}:Oper).wp P a w bP Q else bP (a.put (some d) undef) w:=by
   intro ⟨ak,cp,ax,am⟩;cases e with
   |false=>exact b6 _ _ _ (Fk ah ⟨hm,ax⟩ cp (fun j ac=>qL ah.wf _ ac)) am
   |true=>obtain⟨v,aa,ab,ar⟩:=Nc (P:=P) ah {dst:=some d,op:=op,type:=type,pos:=pos,after:=after,guard:=guard} (ak rfl);exact Fj ah ⟨hm,ax⟩ rfl ⟨v,aa,ll.cond ab ar,rfl⟩ (fun j ac=>qL (P:=P) (op:=op) ah.wf ac) (fun aZ w' bM=>b6 _ _ _ bM am)
  cases op<;>try (exact plain h)
  case buildSlice t len parts=>
   cases e with
   |false=>exact b6 _ _ _ (Fk (r:=.x (.one (.bool false))) ah ⟨hm,h.1⟩ rfl (fun j ac=>by cases ac)) h.2
   |true=>
    obtain⟨ak,ax,am⟩:=h;obtain⟨v,w',cx,bM⟩:=MM (P:=P) (f:=Ab.aG s) ah (fun x _=>ah.aG x.2) ⟨hm,ax⟩ ak;simp only[hB];unfold Oper.wp;have aj:(execOp a.eval ({dst:=some d,op:=.buildSlice t len parts,type:=type,pos:=pos,after:=after,guard:=guard}:Oper)).run P w=.ok (.value v) w':=by simp only[execOp,Sem.run_bind,cx,Result.andThen_ok,Sem.run_pure]
    rw[aj];exact b6 _ _ _ bM am
  case call c=>
   obtain⟨callee,args,argTypes⟩:=c;simp only[tS]at h;split at h
   ·rename_i f;obtain⟨r,ao,eh,ax,am⟩:=Sw h;cases e with
    |false=>exact b6 _ _ _ (Fk ah ⟨hm,ax⟩ (by cases r<;>first|rfl|cases eh) (fun j ac=>by cases r<;>cases ac)) am
    |true=>
     refine MO (P:=P) ah (ao rfl) ⟨argTypes,rfl⟩ ⟨hm,ax⟩ rfl (fun aZ w' bM=>?_);have vd:nL s args.toList r=s:=by unfold nL;rw[eh]
     rw[vd]at bM;refine b6 _ _ _ (bM.Nk (d:=d) (hdn:=ax) (s':=Ab.put s d (.cond true r.cP)) (by rw[jo (by cases r<;>rfl)];cases r<;>first|rfl|cases eh) (fun i=>?_)) am;by_cases ai:i=d
     ·subst ai;rw[aC rfl,jo (by cases r<;>rfl),jo (by cases r<;>rfl)]
     ·rw[au ai];unfold Ab.put;cases (s d).aM<;>simp[ai]
   ·exact plain h
def zcM(ah:Rel S0 w0 n s a w)(o:Oper)(dV:∀d,o.dst=some d->S0.m<=d){e:Bool}{K:ag->Prop}(h:tT P n s e o.op o.dst K){bP:Act->World->Prop}{Q:Exit->Act->World->Prop}
  (b6:∀s' aZ w',Rel S0 w0 n s' aZ w'->K s'->bP aZ w'):if e then o.wp P a w bP Q else bP (a.put o.dst undef) w:=by
 obtain⟨dst,op,type,pos,after,guard⟩:=o;dsimp only at h dV;unfold tT at h;split at h
 ·rename_i d c;obtain⟨callee,args,argTypes⟩:=c;have hm:=dV d rfl;dsimp only at h;split at h
  ·rename_i f;cases e with
   |false=>exact b6 _ _ _ (Fk (r:=.x (.one (.bool false))) ah ⟨hm,h.1⟩ rfl (fun j ac=>by cases ac)) h.2
   |true=>
    have ao:iA P s (fW s f args.toList) (fun xs r outs=>d<n/\(fun t=>(t d).aM=false/\d<n/\K (fun i=>if i=d then .cond true (t d)else t i)) (Ab.put (e6 s xs outs) d r.cP)):=by
     dsimp only at h;refine zbF h ?_
     ·rintro aQ r outs ⟨ax,aw,am⟩;have an:∀j,r.cP.refs j=false:=fun j=>by cases r<;>rfl
      refine⟨ax,by rw[jo (an d)];exact aw,ax,?_⟩;have e:(fun i=>if i=d then ad.cond true (Ab.put (e6 s aQ outs) d r.cP d)else Ab.put (e6 s aQ outs) d r.cP i)=Ab.put (e6 s aQ outs) d (.cond true r.cP):=by
       funext i;by_cases ai:i=d
       ·subst ai;rw[aC rfl,jo (an i),jo (show (ad.cond true r.cP).refs i=false from an i)]
       ·rw[au ai];unfold Ab.put;cases (e6 s aQ outs d).aM<;>simp[ai]
      rw[e];exact am
    exact MY (P:=P) (K:=fun t=>(t d).aM=false/\d<n/\K (fun i=>if i=d then .cond true (t d)else t i)) ah ao ⟨argTypes,rfl⟩ rfl hm (fun s' aZ w' bM ap=>b6 _ aZ w' (bM.Nk ap.2.1 ap.1 (fun i=>rfl)) ap.2.2)
  ·exact h.elim
 ·exact h.elim
def IX(ah:Rel S0 w0 n s a w)(o:Oper)(dV:∀d,o.dst=some d->S0.m<=d){e:Bool}{K:ag->Prop}(h:match Nj s o.op with|true=>tT P n s e o.op o.dst K|false=>tS P n s e o.op o.dst K){bP:Act->World->Prop}{Q:Exit->Act->World->Prop}
  (b6:∀s' aZ w',Rel S0 w0 n s' aZ w'->K s'->bP aZ w'):if e then o.wp P a w bP Q else bP (a.put o.dst undef) w:=by
 split at h
 ·exact zcM ah o dV h b6
 ·exact Ts ah o dV h b6
def Tt{ops:Array Oper}{c7:Exit->Act->World->Prop}{K:ag->Prop}:∀(l:List Oper) (s:ag) (a:Act) (w:World),(∀o∈l,∀d,o.dst=some d->S0.m<=d)->Rel S0 w0 n s a w->bN P n ops l s K ->
  (∀s' aZ w',Rel S0 w0 n s' aZ w'->K s'->c7 .normal aZ w')->wpList P ops c7 l a w:=by
 intro l;induction l with
 |nil=>intro s a w _ ah h c8;exact c8 s a w ah h
 |cons o l aX=>
  intro s a w al ah h c8;have du:∀o∈l,∀d,o.dst=some d->S0.m<=d:=fun o aw=>al o (l3 _ aw);have aw:=al o kl;simp only[bN,ft]at h;unfold wpList;cases aB:o.guard with
  |none=>
   rw[aB]at h;have hw:Region.wanted o (yielded ops a.tmps)=true:=by simp[Region.wanted,aB]
   rw[aC hw];exact .inl (xv (P:=P) ah o aw h (fun s' aZ w' bM am=>aX s' aZ w' du bM am c8))
  |some g=>
   rw[aB]at h;simp only at h;cases aH:c1 ops s g with
   |none=>rw[aH]at h;exact h.elim
   |some e=>
    rw[aH]at h;have hw:Region.wanted o (yielded ops a.tmps)=e:=by simp only[Region.wanted,aB];exact zj ah aH
    have:=IX (P:=P) (Q:=c7) ah o aw h (fun s' aZ w' bM am=>aX s' aZ w' du bM am c8);rw[hw];cases e with
    |true=>exact .inl this
    |false=>exact this
end
end Go.Ab
namespace Go.Ab
open Go Go.RowKit
variable [bf]
section
variable {σ:Type}(ops:Array Oper)(step:Nat->σ->σ->Prop)
def chain:List Nat->σ->σ->Prop
 |[],s,s'=>s=s'
 |i::l,s,s'=>∃s1,step i s s1/\chain l s1 s'
inductive sj:Nat->Nat->Prop where
 |Tu {i:Nat} {o:Oper} {e:Edge}:ops[i]?=some o->e∈o.after->Region.binds .any e=true->sj i e.on
 |wS {i j:Nat} {o:Oper} {e:Edge}:ops[i]?=some o->e∈o.after->Region.binds .any e=true->sj e.on j->sj i j
def tU(fin:σ->Prop):Nat->Array Bool->σ->Prop
 |0,listed,s=>Region.ready .any ops listed=[]/\fin s
 |fuel+1,listed,s=>(Region.ready .any ops listed=[]->fin s)/\∀i∈Region.ready .any ops listed,∃s',step i s s'/\tU fin fuel (listed.setIfInBounds i true) s'
def Tv(listed:Array Bool):Prop:=∀(i:Nat) (o:Oper),ops[i]?=some o->listed.getD i true=true->∀e∈o.after,Region.binds .any e=true->listed.getD e.on false=true
variable {ops step}
def zcN{listed:Array Bool}(ao:Tv ops listed){i j:Nat}(h:sj ops i j)(ai:∀(o:Oper),ops[i]?=some o->∀e∈o.after,Region.binds .any e=true->listed.getD e.on false=true):listed.getD j false=true:=by
 induction h with
 |Tu aw he ae=>exact ai _ aw _ he ae
 |@wS i j o e aw he ae _ aX=>
  refine aX (fun cv fX=>?_);have al:=ai o aw e he ae;have du:listed.getD e.on true=true:=by
   simp only[lg]at al⊢;cases aj:listed[e.on]? with
   |none=>rfl
   |some b=>rw[aj]at al;simpa using al
  exact ao _ cv fX du
def front{wf:σ->Prop}{indep:Nat->Nat->Prop}(ka:∀i s s',wf s->step i s s'->wf s')
  (Nl:∀i j s s1 s2,indep i j->wf s->step i s s1->step j s1 s2->∃b7,step j s b7/\step i b7 s2){i:Nat}{l2:List Nat}{s':σ} :
  ∀(ec:List Nat) (s:σ),wf s->(∀j∈ec,indep j i)->chain step (ec++i::l2) s s'->∃s1,step i s s1/\chain step (ec++l2) s1 s':=by
 intro ec;induction ec with
 |nil=>intro s _ _ h;exact h
 |cons j ec aX=>intro s hw ai h;obtain⟨Nm,ac,h⟩:=h;obtain⟨s2,ab,ar⟩:=aX Nm (ka j s Nm hw ac) (fun k am=>ai k (by simp[am])) h;obtain⟨b7,aN,bD⟩:=Nl j i s Nm s2 (ai j (by simp)) hw ac ab;exact⟨b7,aN,s2,bD,ar⟩
def IY{wf:σ->Prop}{indep:Nat->Nat->Prop}{fin:σ->Prop}(ka:∀i s s',wf s->step i s s'->wf s')
  (Nl:∀i j s s1 s2,indep i j->wf s->step i s s1->step j s1 s2->∃b7,step j s b7/\step i b7 s2)
  (zk:∀(i:Nat) (o:Oper),ops[i]?=some o->∀e∈o.after,Region.binds .any e=true->e.on<i)
  (xk:∀j i,j<i->i<ops.size->sj ops i j\/indep j i){s':σ}(kR:fin s') :
  ∀(m:Nat) (l:List Nat) (listed:Array Bool) (s:σ),l.length=m->listed.size=ops.size->Tv ops listed->l.Pairwise (· < ·)->(∀i,i∈l↔i<ops.size/\listed.getD i true=false)->wf s->chain step l s s'->tU ops step fin m listed s:=by
 intro m;induction m with
 |zero=>
  intro l listed s hm b' ao ap al hw h;have u5:l=[]:=ld hm;subst u5;have:s=s':=h;subst this;refine⟨?_,kR⟩;cases an:Region.ready .any ops listed with
  |nil=>rfl
  |cons i r=>
   have ai:i∈Region.ready .any ops listed:=by rw[an];simp
   obtain⟨aa,o,aw,_⟩:=mem_ready.1 ai;have:=(al i).2 ⟨(gM.1 aw).1,aa⟩;cases this
 |succ m aX=>
  intro l listed s hm b' ao ap al hw h;refine⟨fun an=>?_,fun i ai=>?_⟩
  ·-- nothing is ready: but RI least of zoJ zoK have not zoL up is
   exfalso;cases l with
   |nil=>simp at hm
   |cons i r=>
    obtain⟨aq,zcO⟩:=(al i).1 (by simp);have aw:ops[i]?=some ops[i]:=qs aq;have Tw:i∈Region.ready .any ops listed:=by
     refine mem_ready.2 ⟨zcO,ops[i],aw,fun e he ae=>?_⟩;have zoM:=zk i ops[i] aw e he ae;have bC:e.on∉i::r:=by
      intro B5;rcases eT.1 B5 with h|h
      ·omega
      ·have:=(IZ.1 ap).1 e.on h;omega
     have:listed.getD e.on true≠false:=fun h=>bC ((al e.on).2 ⟨by omega,h⟩);simp only[lg]at this⊢;cases aj:listed[e.on]? with
     |none=>
      have:listed.size<=e.on:=by simpa using aj
      omega
     |some b=>rw[aj]at this;simpa using this
    rw[an]at Tw;cases Tw
  ·obtain⟨aa,o,aw,fM⟩:=mem_ready.1 ai;have aq:=(gM.1 aw).1;have B5:=(al i).2 ⟨aq,aa⟩;obtain⟨ec,l2,rfl⟩:=List.append_of_mem B5;have B6:=List.pairwise_append.1 ap;have If:∀j∈ec,indep j i:=by
    intro j ac;have fA:j<i:=B6.2.2 j ac i (by simp);rcases xk j i fA aq with h|h
    ·exfalso;have xx:=zcN ao h (fun cv fX e he ae=>by
      rw[aw]at fX;injection fX with fX;subst fX
      exact fM e he ae)
     have:=((al j).1 (by simp[ac])).2;simp only[lg]at this xx;cases aj:listed[j]? with
     |none=>rw[aj]at xx;cases xx
     |some b=>rw[aj]at xx this;simp at xx this;rw[xx]at this;cases this
    ·exact h
   obtain⟨s1,ab,ar⟩:=front ka Nl ec s hw If h;have zcP:(listed.setIfInBounds i true).size=ops.size:=by simpa using b'
   have tE:∀k d,(listed.setIfInBounds i true).getD k d=if k=i then true else listed.getD k d:=by
    intro k d;simp only[lg];by_cases am:k=i
    ·subst am;simp[b',aq]
    ·rw[LZ (by omega)];simp[am]
   refine⟨s1,ab,aX (ec++l2) _ s1 (by simp at hm⊢;omega) zcP ?_ ?_ ?_ (ka i s s1 hw ab) ar⟩
   ·intro k cv fX am e he ae;rw[tE]at am⊢;by_cases dY:k=i
    ·subst dY;rw[aw]at fX;injection fX with fX;subst fX
     split
     ·rfl
     ·exact fM e he ae
    ·rw[au dY]at am;split
     ·rfl
     ·exact ao k cv fX am e he ae
   ·refine List.pairwise_append.2 ⟨B6.1,(IZ.1 B6.2.1).2,fun x aj y aS=>B6.2.2 x aj y (by simp[aS])⟩
   ·intro k;rw[tE];have am:=al k;simp only[gv,eT]at am⊢;by_cases dY:k=i
    ·subst dY;simp only[aC];constructor
     ·rintro (h|h)
      ·have:=B6.2.2 k h k (by simp);omega
      ·have:=(IZ.1 B6.2.1).1 k h;omega
     ·rintro⟨_,h⟩;cases h
    ·rw[au dY,<-am];constructor
     ·rintro (h|h)
      ·exact .inl h
      ·exact .inr (.inr h)
     ·rintro (h|h|h)
      ·exact .inl h
      ·exact absurd h dY
      ·exact .inr h
end
end Go.Ab
namespace Go.Ab
open Go Go.RowKit
variable [bf]
def dy(s s':ag):Operand->Prop
 |.tmp t=>s' t=s t/\∀b,(s t).refs b=true->s' b=s b
 |_=>True
section
variable {P:Program}{s s':ag}
def Nn{x:Operand}(h:dy s s' x):look s' x=look s x:=by
 cases x with
 |tmp t=>simp only[look,h.1]
 |_=>rfl
def dD{x:Operand}(h:dy s s' x):aG s' x=aG s x:=by simp only[aG,Nn h]
def iO{x:Operand}(h:dy s s' x){b:Nat}(ae:(aG s x).2.refs b=true):s' b=s b:=by
 have al:(look s x).refs b=true:=L1 ae;cases x with
 |tmp t=>
  simp only[look]at al;split at al
  ·obtain rfl:t=b:=by simpa[ad.refs]using al
   exact h.1
  ·obtain rfl:t=b:=by simpa[ad.refs]using al
   exact h.1
  ·obtain rfl:t=b:=by simpa[ad.refs]using al
   exact h.1
  ·cases al
  ·cases al
  ·cases al
  ·exact h.2 b al
 |const v=>
  simp only[look,tp]at al;split at al
  ·split at al<;>cases al
  ·cases al
  ·split at al<;>cases al
 |_=>cases al
def mem_congr{r:ad}(h:∀b,r.refs b=true->s' b=s b):mem s' r=mem s r:=by
 cases r with
 |ptr i off=>simp only[mem,h i (by simp[ad.refs])]
 |dX i k off=>simp only[mem,h i (by simp[ad.refs])]
 |_=>rfl
def zcQ(h:∀i off,s' (b0 i off)=s (b0 i off))(r:ad)(v:Prop×ad):iu s' r v=iu s r v:=by
 unfold iu;split
 ·split
  ·rw[h]
  ·rfl
 ·rfl
def zl(P:Program)(s s':ag)(op:Op):Prop:=match op with
 |.load t x=>iu s' (aG s x).2 (js (tk P t) (ea P t) (aG s x).1 (mem s (aG s x).2))=iu s (aG s x).2 (js (tk P t) (ea P t) (aG s x).1 (mem s (aG s x).2))
 |_=>True
def xy(h:∀i off,s' (b0 i off)=s (b0 i off))(op:Op):zl P s s' op:=by cases op<;>first|trivial|exact zcQ h _ _
def No{o:Option Operand}{z:Int}(h:∀x,o=some x->dy s s' x):cN s' o z=cN s o z:=by
 cases o with
 |none=>rfl
 |some x=>simp only[cN,dD (h x rfl)]
def Tx:∀(parts:List (Nat×Operand)),(∀x∈parts,dy s s' x.2)->(parts.map fun x=>(x.1,aG s' x.2))=(parts.map fun x=>(x.1,aG s x.2)):=by intro parts h;apply I0;intro x aj;rw[dD (h x aj)]
def zcR{t:TypeId}{x i:Prop×ad}(h:∀b,x.2.refs b=true->s' b=s b):kc P s' t x i=kc P s t x i:=by
 unfold kc;split
 ·rfl
 ·simp only[h _ (lW _)]
 ·simp only[h _ (lW _)]
 ·rfl
def zcS{t:TypeId}{x:Prop×ad}{aK ai mx:Option Operand}(h:∀b,x.2.refs b=true->s' b=s b)(aa:∀z,cN s' aK z=cN s aK z)(ab:∀z,cN s' ai z=cN s ai z)(ar:∀z,cN s' mx z=cN s mx z):ir P s' t x aK ai mx=ir P s t x aK ai mx:=by
 unfold ir;split
 ·simp only[aa,ab]
 ·simp only[aa,ab,ar]
 ·simp only[aa,ab]
 ·simp only[h _ (lW _),aa,ab,ar]
 ·simp only[h _ (lW _),aa,ab,ar]
 ·rfl
def zcT{t:TypeId}{x:Prop×ad}(h:∀b,x.2.refs b=true->s' b=s b):lo P s' t x=lo P s t x:=by
 unfold lo;split
 ·rfl
 ·rfl
 ·rfl
 ·rfl
 ·simp only[h _ (lW _)]
 ·rfl
 ·rfl
def zcU{t:TypeId}{x k:Prop×ad}{ok:Bool}(h:∀b,x.2.refs b=true->s' b=s b):rN P s' t x k ok=rN P s t x k ok:=by
 unfold rN;split
 ·simp only[h _ (lW _)]
 ·rfl
 ·rfl
def Fl{v:ad}{size:Nat}(h:∀b,v.refs b=true->s' b=s b):hy s' size v=hy s size v:=by
 unfold hy;split
 ·rfl
 ·rfl
 ·rfl
 ·simp only[h _ (lW _)]
 ·simp only[h _ (lW _)]
 ·rfl
def zcV{src dst:TypeId}{x:Prop×ad}(h:∀b,x.2.refs b=true->s' b=s b):mF P s' src dst x=mF P s src dst x:=by
 unfold mF;split
 ·rfl
 ·rfl
 ·rw[Fl h]
def Fm(op:Op)(h:∀x∈op.operands,dy s s' x)(al:zl P s s' op):bb P s' op=bb P s op:=by
 cases op with
 |move x=>exact dD (h x (by simp[Op.operands]))
 |assign x=>exact zcW (h x (by simp[Op.operands]))
 |pick c x y=>simp only[bb,dP,dD (h c (by simp[Op.operands])),dD (h x (by simp[Op.operands])),dD (h y (by simp[Op.operands]))]
 |load t x=>
  have aj:=h x (by simp[Op.operands]);have hm:=mem_congr (s:=s) (s':=s') (r:=(aG s x).2) (fun b ae=>iO aj ae);simp only[bb,dP,dD aj,nx];split
  ·rfl
  ·rw[hm];exact al
 |nilCheck x=>simp only[bb,dP,dD (h x (by simp[Op.operands]))]
 |binOp op t x y Ms=>simp only[bb,dP,qp,dD (h x (by simp[Op.operands])),dD (h y (by simp[Op.operands]))]
 |unOp op t x=>simp only[bb,dP,dD (h x (by simp[Op.operands]))]
 |convert src dst x=>have aj:=h x (by simp[Op.operands]);simp only[bb,dP,dD aj,zcV (fun b ae=>iO aj ae)]
 |slice t x aK ai mx=>have aj:=h x (by simp[Op.operands]);have aa:∀z,cN s' aK z=cN s aK z:=fun z=>No (fun y aS=>h y (by subst aS;simp[Op.operands]));have ab:∀z,cN s' ai z=cN s ai z:=fun z=>No (fun y aS=>h y (by subst aS;simp[Op.operands]));have ar:∀z,cN s' mx z=cN s mx z:=fun z=>No (fun y aS=>h y (by subst aS;simp[Op.operands]));simp only[bb,dP,dD aj,zcS (fun b ae=>iO aj ae) aa ab ar]
 |fieldAddr t x f=>simp only[bb,dP,dD (h x (by simp[Op.operands]))]
 |field t x f=>simp only[bb,dP,dD (h x (by simp[Op.operands]))]
 |indexAddr t x i=>have aj:=h x (by simp[Op.operands]);simp only[bb,dP,dD aj,dD (h i (by simp[Op.operands])),zcR (fun b ae=>iO aj ae)]
 |index t x i=>simp only[bb,dP,dD (h x (by simp[Op.operands])),dD (h i (by simp[Op.operands]))]
 |makeFunc fn first captured=>
  have:captured.toList.map (Ab.aG s')=captured.toList.map (Ab.aG s):=by apply I0;intro x aj;exact dD (h x (by simp[Op.operands];exact .inr (by simpa using aj)))
  simp only[bb,dP,u1,this]
 |lookup t x k ok=>have aj:=h x (by simp[Op.operands]);simp only[bb,dP,dD aj,dD (h k (by simp[Op.operands])),zcU (fun b ae=>iO aj ae)]
 |extract x i=>simp only[bb,dP,dD (h x (by simp[Op.operands]))]
 |call c=>
  obtain⟨callee,⟨args⟩,ts⟩:=c;have bj:∀x∈args,dy s s' x:=fun x aj=>h x (by simp[Op.operands,Call.operands,aj]);simp only[bb,dP];unfold rO;split
  ·split
   ·rw[dD (bj _ (by simp)),zcT (fun b ae=>iO (bj _ (by simp)) ae)]
   ·rfl
  ·split
   ·rw[dD (bj _ (by simp))]
   ·rfl
  ·split
   ·rw[dD (bj _ (by simp)),dD (bj _ (by simp))]
   ·rfl
  ·split
   ·rw[dD (bj _ (by simp)),dD (bj _ (by simp))]
   ·rfl
  ·rfl
 |build t parts=>have:∀x∈parts.toList,dy s s' x.2:=fun x aj=>h x.2 (by simp only[Op.operands,List.mem_toArray,hh];exact⟨x,aj,rfl⟩);simp only[bb,nG,Tx _ this]
 |_=>rfl
where zcW {x:Operand} (h:dy s s' x):((True,look s' x):Prop×ad)=(True,look s x):=by rw[Nn h]
def Np:∀{caps:List (af⊕(Nat×Nat))},(∀b,caps.any (j_ b)=true->s' b=s b)->mN s' caps=mN s caps
 |[],_=>rfl
 |.inl c::r,h=>by simp only[mN,BM,Np (caps:=r) (fun b ae=>h b (by simp[ae]))]
 |.inr (i,off)::r,h=>by simp only[mN,BM,Np (caps:=r) (fun b ae=>h b (by simp[ae])),h i (by simp[j_])]
def Ty{x:Operand}(h:dy s s' x):l1 s' x=l1 s x:=by
 have ae:=fun b ae=>iO h (b:=b) ae;simp only[l1,dD h];generalize Ab.aG s x=r at ae;obtain⟨p,r⟩:=r;cases r with
 |alias j=>simp only[ae j (by simp[ad.refs])]
 |view j aK len wh=>simp only[ae j (by simp[ad.refs])]
 |cr f caps=>simp only[Np (caps:=caps) (fun b h=>ae b h)]
 |_=>rfl
def Nq:∀(args:List Operand),(∀x∈args,dy s s' x)->lx s' args=lx s args
 |[],_=>rfl
 |x::r,h=>by simp only[lx,Ty (h x (by simp)),Nq r (fun y aS=>h y (by simp[aS]))]
def Nr:∀(args:List Operand),(∀x∈args,dy s s' x)->dc s' args=dc s args
 |[],_=>rfl
 |x::r,h=>by simp only[dc,dD (h x (by simp)),Nr r (fun y aS=>h y (by simp[aS]))]
def zcX{f:Operand}{args:List Operand}{r:bw}(ay:dy s s' f)(h:∀x∈args,dy s s' x):nK P s' f args r=nK P s f args r:=by simp only[nK,callee,dD ay,Nq args h]
end
def fY(P:Program)(s:ag)(op:Op)(r:ad):Prop:=
 match op with
 |.alloc t=>match zeroOf P t with
  |some cs=>r=.box cs
  |none=>False
 |.box _ x=>match aG s x with
  |(p,.x bK)=>p/\r=.box bK.cells
  |_=>False
 |.buildSlice t len parts=>(jS P (aG s) t len parts.toList).1/\r=(jS P (aG s) t len parts.toList).2
 |.convert src dst x=>match h4 P dst with
  |true=>(nQ P src dst (aG s x)).1/\r=(nQ P src dst (aG s x)).2
  |false=>(bb P s (.convert src dst x)).1/\r=(bb P s (.convert src dst x)).2
 |.call c=>match c.callee with
  |.value f=>∃dE:bw,nK P s f c.args.toList dE/\(dE.flat ||(dc s c.args.toList).isEmpty)=true/\r=dE.cP
  |_=>(bb P s (.call c)).1/\r=(bb P s (.call c)).2
 |op=>(bb P s op).1/\r=(bb P s op).2
def zm{P:Program}{s s':ag}(op:Op)(r:ad)(h:∀x∈op.operands,dy s s' x)(al:zl P s s' op):fY P s' op r↔fY P s op r:=by
 cases op with
 |alloc t=>exact iB
 |box t x=>simp only[fY,dD (h x (by simp[Op.operands]))]
 |convert src dst x=>simp only[fY,dD (h x (by simp[Op.operands])),Fm _ h al]
 |buildSlice t len parts=>have:∀x∈parts.toList,dy s s' x.2:=fun x aj=>h x.2 (by simp only[Op.operands,List.mem_toArray,hh];exact⟨x,aj,rfl⟩);simp only[fY,jS,Tx _ this]
 |call c=>
  obtain⟨callee,⟨args⟩,ts⟩:=c;have bj:∀x∈args,dy s s' x:=fun x aj=>h x (by simp[Op.operands,Call.operands,aj]);cases callee with
  |value f=>have ay:dy s s' f:=h f (by simp[Op.operands,Call.operands]);simp only[fY,zcX ay bj,Nr args bj]
  |_=>simp only[fY,Fm _ h al]
 |_=>simp only[fY,Fm _ h al]
def kV(P:Program)(s:ag)(e:Bool)(op:Op)(r:ad):Prop:=
 match op with
 |.call c=>match c.callee with
  |.value f=>pA P e (callee s f c.args.toList) (fun dE=>r=.cond e dE.cP)
  |_=>(e=true->(bb P s (.call c)).1)/\(bb P s (.call c)).2.aM=false/\r=.cond e (bb P s (.call c)).2
 |.buildSlice t len parts=>match e with
  |true=>fY P s (.buildSlice t len parts) r
  |false=>r=.cond false (.x (.one (.bool false)))
 |op=>(e=true->(bb P s op).1)/\(bb P s op).2.aM=false/\r=.cond e (bb P s op).2
def B7{P:Program}{s s':ag}{e:Bool}(op:Op)(r:ad)(h:∀x∈op.operands,dy s s' x)(al:zl P s s' op):kV P s' e op r↔kV P s e op r:=by
 cases op with
 |call c=>
  obtain⟨callee,⟨args⟩,ts⟩:=c;have bj:∀x∈args,dy s s' x:=fun x aj=>h x (by simp[Op.operands,Call.operands,aj]);cases callee with
  |value f=>have ay:dy s s' f:=h f (by simp[Op.operands,Call.operands]);simp only[kV,callee,dD ay,Nq args bj]
  |_=>simp only[kV,Fm _ h al]
 |buildSlice t len parts=>
  cases e with
  |true=>exact zm (.buildSlice t len parts) r h trivial
  |false=>exact iB
 |_=>simp only[kV,Fm _ h al]
def gE(P:Program)(n:Nat)(ops:Array Oper)(o:Oper)(s s':ag):Prop:=
 ∃d r,o.dst=some d/\d<n/\(s d).aM=false/\s'=put s d r /\
  match o.guard with
  |none=>fY P s o.op r
  |some g=>∃e,c1 ops s g=some e/\kV P s e o.op r
def B8{ops:Array Oper}{s s':ag}{g:Nat×Bool}(h:∀d,(ops[g.1]?).bind (·.dst)=some d->s' d=s d):c1 ops s' g=c1 ops s g:=by
 unfold c1;cases ax:(ops[g.1]?).bind (·.dst)with
 |none=>rfl
 |some d=>simp only[h d ax]
def d_{s:ag}{d:Nat}{r:ad}(h:(s d).aM=false)(i:Nat):put s d r i=if i=d then (match r.refs d with|true=>.dead|false=>r)else s i:=by unfold put;rw[h];rfl
def ma{s:ag}{d:Nat}{r:ad}(hw:cq s)(h:(s d).aM=false){x:Operand}(aj:x≠.tmp d):dy s (put s d r) x:=by
 cases x with
 |tmp t=>
  have ba:t≠d:=fun e=>aj (by rw[e]);refine⟨by rw[d_ h,au ba],fun b ae=>?_⟩;have zcY:b≠d:=by rintro rfl;have:=hw t b ae;rw[h]at this;cases this
  rw[d_ h,au zcY]
 |_=>trivial
def vz{s:ag}{d:Nat}{r:ad}(h:(s d).aM=false)(ax:d<bF)(i off:Nat):put s d r (b0 i off)=s (b0 i off):=by rw[d_ h,au (by unfold b0;unfold bF at ax;omega)]
def Ns{P:Program}{n:Nat}{ops:Array Oper}{bz bh:Oper}{s s1 s2:ag}(gC:∀d,bz.dst=some d->d<bF)(gB:∀d,bh.dst=some d->d<bF)(jb:bz.apart ops bh=true)(hw:cq s)
  (ai:gE P n ops bz s s1)(ac:gE P n ops bh s1 s2):∃b7,gE P n ops bh s b7/\gE P n ops bz b7 s2:=by
 obtain⟨iC,Fo,l9,fH,fF,rfl,vA⟩:=ai;obtain⟨a_,vB,ed,e5,cZ,rfl,gT⟩:=ac;obtain⟨aa,ab,ar⟩:=Oper.apart_spec jb;have bC:a_≠iC:=fun e=>ab iC l9 (by rw[ed,e]);have nR:(s a_).aM=false:=by rw[d_ fF,au bC]at cZ;exact cZ
 have Fp:(put s a_ vB iC).aM=false:=by rw[d_ nR,au (mW bC)];exact fF
 have mX:∀(o:Oper) (d:Nat),d∉o.looksAt ops->∀x∈o.op.operands,x≠.tmp d:=by intro o d ax x aj e;subst e;exact ax (by simp only[Oper.looksAt,gv,vh];exact .inl ⟨.tmp d,by simpa using aj,rfl⟩)
 have zn:∀(o:Oper) (d:Nat) (g:Nat×Bool),d∉o.looksAt ops->o.guard=some g->∀bt,(ops[g.1]?).bind (·.dst)=some bt->bt≠d:=by intro o d g ax aB bt e8 e;subst e;refine ax ?_;simp only[Oper.looksAt,gv,aB,e8];exact .inr (by simp)
 refine⟨put s a_ vB,⟨a_,vB,ed,e5,nR,rfl,?_⟩,⟨iC,Fo,l9,fH,Fp,?_,?_⟩⟩
 ·have eU:∀x∈bh.op.operands,dy s (put s iC Fo) x:=fun x aj=>ma hw fF (mX bh iC (aa iC l9) x aj);cases aB:bh.guard with
  |none=>rw[aB]at gT;exact(zm _ _ eU (xy (vz fF (gC iC l9)) _)).1 gT
  |some g=>rw[aB]at gT;obtain⟨e,he,aH⟩:=gT;refine⟨e,?_,(B7 _ _ eU (xy (vz fF (gC iC l9)) _)).1 aH⟩;rw[<-he];exact(B8 (fun bt e8=>by rw[d_ fF,au (zn bh iC g (aa iC l9) aB bt e8)])).symm
 ·funext k;rw[d_ cZ,d_ fF,d_ Fp,d_ nR];by_cases h8:k=a_
  ·subst h8;simp[bC]
  ·by_cases dY:k=iC
   ·subst dY;simp[h8]
   ·simp[h8,dY]
 ·have eU:∀x∈bz.op.operands,dy s (put s a_ vB) x:=fun x aj=>ma hw nR (mX bz a_ (ar a_ ed) x aj);cases aB:bz.guard with
  |none=>rw[aB]at vA;exact(zm _ _ eU (xy (vz nR (gB a_ ed)) _)).2 vA
  |some g=>rw[aB]at vA;obtain⟨e,he,aH⟩:=vA;refine⟨e,?_,(B7 _ _ eU (xy (vz nR (gB a_ ed)) _)).2 aH⟩;rw[<-he];exact B8 (fun bt e8=>by rw[d_ nR,au (zn bz a_ g (ar a_ ed) aB bt e8)])
end Go.Ab
namespace Go.Ab
open Go Go.RowKit
variable [bf]
def jx(a b:ad):Prop:=b=a\/(∃cs cs',a=.box cs/\b=.box cs')\/(∃e z xs dS,a=.own e z xs/\b=.own e z dS/\dS.length=xs.length)\/(∃k cs cs',a=.cf k cs/\b=.cf k cs')
def jx.owner{a b:ad}(h:jx a b):b.aM=a.aM:=by rcases h with rfl|⟨_,_,rfl,rfl⟩|⟨_,_,_,_,rfl,rfl,_⟩|⟨_,_,_,rfl,rfl⟩<;>rfl
def jx.refs{a b:ad}(h:jx a b)(j:Nat):b.refs j=a.refs j:=by rcases h with rfl|⟨_,_,rfl,rfl⟩|⟨_,_,_,_,rfl,rfl,_⟩|⟨_,_,_,rfl,rfl⟩<;>rfl
def mY(s s':ag):Operand->Prop
 |.tmp t=>jx (s t) (s' t)/\∀b,(s t).refs b=true->jx (s b) (s' b)
 |_=>True
section
variable {P:Program}{s s':ag}
def Nt{x:Operand}(h:mY s s' x):look s' x=look s x:=by
 cases x with
 |tmp t=>
  obtain⟨aa,_⟩:=h;simp only[look];rcases aa with aa|⟨_,_,aa,ab⟩|⟨_,_,_,_,aa,ab,_⟩|⟨_,_,_,aa,ab⟩
  ·rw[aa]
  ·rw[aa,ab]
  ·rw[aa,ab]
  ·rw[aa,ab]
 |_=>rfl
def hb{x:Operand}(h:mY s s' x):aG s' x=aG s x:=by simp only[aG,Nt h]
def Nu{x:Operand}(h:mY s s' x){b:Nat}(ae:(aG s x).2.refs b=true):jx (s b) (s' b):=by
 have al:(look s x).refs b=true:=L1 ae;cases x with
 |tmp t=>
  simp only[look]at al;split at al
  ·obtain rfl:t=b:=by simpa[ad.refs]using al
   exact h.1
  ·obtain rfl:t=b:=by simpa[ad.refs]using al
   exact h.1
  ·obtain rfl:t=b:=by simpa[ad.refs]using al
   exact h.1
  ·cases al
  ·cases al
  ·cases al
  ·exact h.2 b al
 |const v=>
  simp only[look,tp]at al;split at al
  ·split at al<;>cases al
  ·cases al
  ·split at al<;>cases al
 |_=>cases al
def Nv{o:Option Operand}{z:Int}(h:∀x,o=some x->mY s s' x):cN s' o z=cN s o z:=by
 cases o with
 |none=>rfl
 |some x=>simp only[cN,hb (h x rfl)]
def zcZ{t:TypeId}{x i:Prop×ad}(h:∀b,x.2.refs b=true->jx (s b) (s' b)):kc P s' t x i=kc P s t x i:=by
 unfold kc;split
 ·rfl
 ·rcases h _ (lW _)with e|⟨_,_,av,aI⟩|⟨_,_,_,_,av,aI,b5⟩|⟨_,_,_,av,aI⟩
  ·rw[e]
  ·rw[av,aI]
  ·rw[av,aI];simp only[b5]
  ·rw[av,aI]
 ·rcases h _ (lW _)with e|⟨_,_,av,aI⟩|⟨_,_,_,_,av,aI,b5⟩|⟨_,_,_,av,aI⟩
  ·rw[e]
  ·rw[av,aI];rfl
  ·rw[av,aI];rfl
  ·rw[av,aI];rfl
 ·rfl
def zda{t:TypeId}{x:Prop×ad}{aK ai mx:Option Operand}(h:∀b,x.2.refs b=true->jx (s b) (s' b))(aa:∀z,cN s' aK z=cN s aK z)(ab:∀z,cN s' ai z=cN s ai z)(ar:∀z,cN s' mx z=cN s mx z):ir P s' t x aK ai mx=ir P s t x aK ai mx:=by
 unfold ir;split
 ·simp only[aa,ab]
 ·simp only[aa,ab,ar]
 ·simp only[aa,ab]
 ·rcases h _ (lW _)with e|⟨_,_,av,aI⟩|⟨_,_,_,_,av,aI,b5⟩|⟨_,_,_,av,aI⟩
  ·rw[e];simp only[aa,ab,ar]
  ·rw[av,aI]
  ·rw[av,aI];simp only[b5,aa,ab,ar]
  ·rw[av,aI]
 ·rcases h _ (lW _)with e|⟨_,_,av,aI⟩|⟨_,_,_,_,av,aI,b5⟩|⟨_,_,_,av,aI⟩
  ·rw[e];simp only[aa,ab,ar]
  ·rw[av,aI];simp only[aa,ab,ar];rfl
  ·rw[av,aI];simp only[aa,ab,ar];rfl
  ·rw[av,aI];simp only[aa,ab,ar];rfl
 ·rfl
def zdb{t:TypeId}{x:Prop×ad}(h:∀b,x.2.refs b=true->jx (s b) (s' b)):lo P s' t x=lo P s t x:=by
 unfold lo;split
 ·rfl
 ·rfl
 ·rfl
 ·rfl
 ·rcases h _ (lW _)with e|⟨_,_,av,aI⟩|⟨_,_,_,_,av,aI,b5⟩|⟨_,_,_,av,aI⟩
  ·rw[e]
  ·rw[av,aI]
  ·rw[av,aI];simp only[b5]
  ·rw[av,aI]
 ·rfl
 ·rfl
def mZ:Op->Bool
 |.move _=>true
 |.assign _=>true
 |.pick _ _ _=>true
 |.nilCheck _=>true
 |.binOp _ _ _ _ _=>true
 |.unOp _ _ _=>true
 |.slice _ _ _ _ _=>true
 |.fieldAddr _ _ _=>true
 |.field _ _ _=>true
 |.indexAddr _ _ _=>true
 |.index _ _ _=>true
 |.makeFunc _ _ _=>true
 |.extract _ _=>true
 |.build _ _=>true
 |.call c=>match c.callee with
  |.builtin .len=>true
  |.builtin .max=>true
  |.builtin .min=>true
  |_=>false
 |_=>false
def gf(s:ag)(op:Op):Prop:=match op with
 |.load _ x=>∃cs,(aG s x).2=.elem cs
 |.convert _ _ x=>∃k m,(aG s x).2=.x (.one (.int k m))
 |op=>mZ op=true
def Tz(op:Op)(al:gf s op)(h:∀x∈op.operands,mY s s' x):bb P s' op=bb P s op:=by
 cases op with
 |move x=>exact hb (h x (by simp[Op.operands]))
 |assign x=>simp only[bb,dP,Nt (h x (by simp[Op.operands]))]
 |pick c x y=>simp only[bb,dP,hb (h c (by simp[Op.operands])),hb (h x (by simp[Op.operands])),hb (h y (by simp[Op.operands]))]
 |load t x=>
  obtain⟨cs,en⟩:=al;have aj:=hb (h x (by simp[Op.operands]));have av:nx P s' t (aG s x)=nx P s t (aG s x):=by
   unfold nx;split
   ·rfl
   ·simp only[en,mem,RO]
  simp only[bb,dP,aj,av]
 |nilCheck x=>simp only[bb,dP,hb (h x (by simp[Op.operands]))]
 |binOp op t x y Ms=>simp only[bb,dP,qp,hb (h x (by simp[Op.operands])),hb (h y (by simp[Op.operands]))]
 |unOp op t x=>simp only[bb,dP,hb (h x (by simp[Op.operands]))]
 |convert src dst x=>obtain⟨k,m,en⟩:=al;have aj:=hb (h x (by simp[Op.operands]));simp only[bb,dP,aj];generalize Ab.aG s x=q at en⊢;obtain⟨p,v⟩:=q;dsimp only at en;subst en;rfl
 |slice t x aK ai mx=>have aj:=h x (by simp[Op.operands]);have aa:∀z,cN s' aK z=cN s aK z:=fun z=>Nv (fun y aS=>h y (by subst aS;simp[Op.operands]));have ab:∀z,cN s' ai z=cN s ai z:=fun z=>Nv (fun y aS=>h y (by subst aS;simp[Op.operands]));have ar:∀z,cN s' mx z=cN s mx z:=fun z=>Nv (fun y aS=>h y (by subst aS;simp[Op.operands]));simp only[bb,dP,hb aj,zda (fun b ae=>Nu aj ae) aa ab ar]
 |fieldAddr t x f=>simp only[bb,dP,hb (h x (by simp[Op.operands]))]
 |field t x f=>simp only[bb,dP,hb (h x (by simp[Op.operands]))]
 |indexAddr t x i=>have aj:=h x (by simp[Op.operands]);simp only[bb,dP,hb aj,hb (h i (by simp[Op.operands])),zcZ (fun b ae=>Nu aj ae)]
 |index t x i=>simp only[bb,dP,hb (h x (by simp[Op.operands])),hb (h i (by simp[Op.operands]))]
 |makeFunc fn first captured=>
  have:captured.toList.map (Ab.aG s')=captured.toList.map (Ab.aG s):=by apply I0;intro x aj;exact hb (h x (by simp[Op.operands];exact .inr (by simpa using aj)))
  simp only[bb,dP,u1,this]
 |extract x i=>simp only[bb,dP,hb (h x (by simp[Op.operands]))]
 |call c=>
  obtain⟨callee,⟨args⟩,ts⟩:=c;have bj:∀x∈args,mY s s' x:=fun x aj=>h x (by simp[Op.operands,Call.operands,aj]);simp only[bb,dP];unfold rO;split
  ·split
   ·rw[hb (bj _ (by simp)),zdb (fun b ae=>Nu (bj _ (by simp)) ae)]
   ·rfl
  ·split
   ·rw[hb (bj _ (by simp))]
   ·rfl
  ·split
   ·rw[hb (bj _ (by simp)),hb (bj _ (by simp))]
   ·rfl
  ·split
   ·rw[hb (bj _ (by simp)),hb (bj _ (by simp))]
   ·rfl
  ·rfl
 |build t parts=>
  have:(parts.toList.map fun x=>(x.1,aG s' x.2))=(parts.toList.map fun x=>(x.1,aG s x.2)):=by apply I0;intro x aj;rw[hb (h x.2 (by simp only[Op.operands,List.mem_toArray,hh];exact⟨x,aj,rfl⟩))]
  simp only[bb,nG,this]
 |_=>simp[gf,mZ]at al
def B9{op:Op}(al:gf s op)(h:∀x∈op.operands,mY s s' x):gf s' op:=by
 cases op with
 |load t x=>obtain⟨cs,en⟩:=al;exact⟨cs,by rw[hb (h x (by simp[Op.operands]))];exact en⟩
 |convert src dst x=>obtain⟨k,m,en⟩:=al;exact⟨k,m,by rw[hb (h x (by simp[Op.operands]))];exact en⟩
 |_=>exact al
def TA{op:Op}{r:ad}(al:gf s op)(h:∀x∈op.operands,mY s s' x)(ao:fY P s op r):fY P s' op r:=by
 have key:=Tz (P:=P) op al h;cases op with
 |call c=>
  obtain⟨callee,args,ts⟩:=c;cases callee with
  |value f=>simp[gf,mZ]at al
  |_=>simp only[fY]at ao⊢;rw[key];exact ao
 |alloc t=>simp[gf,mZ]at al
 |box t x=>simp[gf,mZ]at al
 |buildSlice t len parts=>simp[gf,mZ]at al
 |convert src dst x=>simp only[fY]at ao⊢;rw[key,hb (h x (by simp[Op.operands]))];exact ao
 |_=>simp only[fY]at ao⊢;rw[key];exact ao
def TB{e:Bool}{op:Op}{r:ad}(al:gf s op)(h:∀x∈op.operands,mY s s' x)(ao:kV P s e op r):kV P s' e op r:=by
 have key:=Tz (P:=P) op al h;cases op with
 |call c=>
  obtain⟨callee,args,ts⟩:=c;cases callee with
  |value f=>simp[gf,mZ]at al
  |_=>simp only[kV]at ao⊢;rw[key];exact ao
 |buildSlice t len parts=>simp[gf,mZ]at al
 |_=>simp only[kV]at ao⊢;rw[key];exact ao
end
def e0(s:ag)(W:List (Nat×ad)):ag:=fun i=>match W.find? (fun p=>p.1==i)with
 |some p=>p.2
 |none=>s i
def vC(P:Program)(s:ag)(t:TypeId)(addr x:Prop×ad):Option (Prop×Nat×ad):=
 match addr,x,(tk P t).cells with
 |(p,.ptr i off),(q,.x bK),some m=>match s i with
  |.box cs=>some ((p/\q/\bK.cells.length=m/\off+m<=cs.length)/\i_ cs off m=false,i,.box (cl cs off bK.cells))
  |.cf b cs=>some ((p/\q/\bK.cells.length=m/\off+m<=cs.length)/\i_ cs off m=false,i,.cf b (cl cs off bK.cells))
  |_=>none
 |(p,.dX i k off),(q,.x bK),some m=>match s i with
  |.own e size xs=>some (p/\q/\bK.cells.length=m/\k<xs.length/\off+m<=size,i,.own e size (xs.set k (cl (xs.getD k []) off bK.cells)))
  |_=>none
 |_,_,_=>none
def Fq(s:ag):ad->Bool
 |.ptr i _=>(s i).told
 |_=>true
def TC{cs:List af}(h:(ad.box cs).told=true)(off m:Nat):i_ cs off m=false:=by unfold i_;rw[Bm];simp only[ad.told,vf]at h;rw[Bm]at h;intro x aj;exact h x (tw (rU aj))
def zdc{P:Program}{s:ag}{t:TypeId}{addr x:Prop×ad}(h:(jU P s t addr x).1)(ba:Fq s addr.2=true):∃p i v,vC P s t addr x=some (p,i,v)/\p/\(jU P s t addr x).2=e0 s [(i,v)]/\jx (s i) v/\(s i).aM=true/\addr.2.refs i=true:=by
 have l8:∀i v,(fun j=>if j=i then v else s j)=e0 s [(i,v)]:=by
  intro i v;funext j;unfold e0;by_cases ac:j=i
  ·subst ac;simp
  ·have:(i==j)=false:=by simpa using fun e=>ac e.symm
   simp[ac,this]
 unfold jU at h⊢;unfold vC;split at h
 ·rename_i p i off q bK m e;split at h
  ·rename_i cs ap;have l7:i_ cs off m=false:=TC (by rw[<-ap];exact ba) off m;refine⟨(p/\q/\bK.cells.length=m/\off+m<=cs.length)/\i_ cs off m=false,i,.box (cl cs off bK.cells),by simp only[e,ap],⟨h,l7⟩,by simp only[l7];exact l8 i _,by rw[ap];exact .inr (.inl ⟨_,_,rfl,rfl⟩),by rw[ap];rfl,by simp[ad.refs]⟩
  ·rename_i b cs ap;have l7:i_ cs off m=false:=TC (cs:=cs) (show (ad.cf b cs).told=true by rw[<-ap];exact ba) off m;refine⟨(p/\q/\bK.cells.length=m/\off+m<=cs.length)/\i_ cs off m=false,i,.cf b (cl cs off bK.cells),by simp only[e,ap],⟨h,l7⟩,by simp only[l7];exact l8 i _,by rw[ap];exact .inr (.inr (.inr ⟨_,_,_,rfl,rfl⟩)),by rw[ap];rfl,by simp[ad.refs]⟩
  ·exact h.elim
 ·rename_i p i k off q bK m e;split at h
  ·rename_i bV size xs ap;refine⟨_,i,_,by simp only[e,ap];rfl,h,by simp only[ap];exact l8 i _,by rw[ap];exact .inr (.inr (.inl ⟨_,_,_,_,rfl,rfl,by simp⟩)),by rw[ap];rfl,by simp[ad.refs]⟩
  ·exact h.elim
 ·exact h.elim
def m_:List (ad×Option Nat)->List ad->Bool
 |(_,some _)::l,.box _::outs=>m_ l outs
 |(_,none)::l,_::outs=>m_ l outs
 |[],_=>true
 |_,_=>false
def writes(P:Program)(n:Nat)(o:Oper)(s:ag)(W:List (Nat×ad))(dz:Option (Nat×ad)):Prop:=
 o.guard=none/\match o.op with
 |.store t addr x=>o.dst=none/\dz=none/\hS P t=true/\dc s [x]=[]/\∃p i v,vC P s t (aG s addr) (h_ s x)=some (p,i,v)/\p/\W=[(i,v)]
 |.call c=>match c.callee with
  |.value f=>∃d aQ r outs,o.dst=some d/\d<n/\sa P s (fW s f c.args.toList) aQ r outs/\m_ aQ outs=true/\r.cP.aM=false/\W=dC aQ outs/\dz=some (d,r.cP)
  |_=>False
 |_=>False
def sk(s:ag)(W:List (Nat×ad)):Option (Nat×ad)->ag
 |none=>e0 s W
 |some (d,r)=>put (e0 s W) d r
def sl(P:Program)(n:Nat)(o:Oper)(s s':ag):Prop:=
 ∃W dz,writes P n o s W dz/\(∀d r,dz=some (d,r)->o.dst=some d/\(s d).aM=false/\r.aM=false/\∀j,r.refs j=false)/\(dz=none->o.dst=none)/\s'=sk s W dz
section
variable {P:Program}{s s':ag}
def zdd(W:List (Nat×ad))(i:Nat):(∃v,(i,v)∈W/\e0 s W i=v)\/((∀v,(i,v)∉W)/\e0 s W i=s i):=by
 unfold e0;cases ay:W.find? (fun p=>p.1==i)with
 |none=>refine .inr ⟨fun v aH=>?_,rfl⟩;have:=I1.1 ay (i,v) aH;simp at this
 |some p=>have aa:=List.mem_of_find?_eq_some ay;have ab:=List.find?_some ay;simp at ab;refine .inl ⟨p.2,?_,rfl⟩;rw[<-ab];exact aa
def qM{W:List (Nat×ad)}{i:Nat}(h:∀v,(i,v)∉W):e0 s W i=s i:=by
 unfold e0;cases ay:W.find? (fun p=>p.1==i)with
 |none=>rfl
 |some p=>have aa:=List.mem_of_find?_eq_some ay;have ab:=List.find?_some ay;simp at ab;exact absurd (by rw[<-ab];exact aa) (h p.2)
def TD(t t':ag){W:List (Nat×ad)}{i:Nat}{v:ad}(h:(i,v)∈W):e0 t W i=e0 t' W i:=by
 unfold e0;cases ay:W.find? (fun p=>p.1==i)with
 |none=>have:=I1.1 ay (i,v) h;simp at this
 |some p=>rfl
def tV{W:List (Nat×ad)}(h:∀i v,(i,v)∈W->jx (s i) v/\(s i).aM=true)(i:Nat):jx (s i) (e0 s W i):=by
 rcases zdd (s:=s) W i with⟨v,aH,e⟩|⟨_,e⟩
 ·rw[e];exact(h i v aH).1
 ·rw[e];exact .inl rfl
def zde{x:Operand}(h:dy s s' x):qG s' x=qG s x:=by
 have ae:=fun b ae=>iO h (b:=b) ae;simp only[qG,dD h];generalize Ab.aG s x=r at ae;obtain⟨p,r⟩:=r;cases r with
 |alias j=>simp only[ae j (by simp[ad.refs])]
 |ptr j off=>
  cases off with
  |zero=>simp only[ae j (by simp[ad.refs])]
  |succ k=>rfl
 |_=>rfl
def TE:∀(args:List Operand),(∀x∈args,dy s s' x)->jt s' args=jt s args
 |[],_=>rfl
 |x::r,h=>by simp only[jt,zde (h x (by simp)),TE r (fun y aS=>h y (by simp[aS]))]
def TF:∀(caps:List (af⊕(Nat×Nat))),(∀b,caps.any (j_ b)=true->s' b=s b)->jT s' caps=jT s caps
 |[],_=>rfl
 |c::r,h=>by
  have aa:r_ s' c=r_ s c:=by
   unfold r_;split
   ·rfl
   ·rename_i i;rw[h i (by simp[j_])]
   ·rfl
  simp only[jT,aa,TF r (fun b ae=>h b (by simp[ae]))]
def zdf{f:Operand}{args:List Operand}(ay:dy s s' f)(h:∀x∈args,dy s s' x):fW s' f args=fW s f args:=by
 have ae:=fun b ae=>iO ay (b:=b) ae;simp only[fW,dD ay,TE args h];generalize Ab.aG s f=r at ae;obtain⟨p,r⟩:=r;have:l6 s' r=l6 s r:=by
  cases r with
  |cr g caps=>simp only[l6,TF caps (fun b ao=>ae b (by simpa[ad.refs]using ao))]
  |_=>rfl
 generalize jt s args=b;obtain⟨q,b⟩:=b;cases b with
 |none=>rfl
 |some xs=>dsimp only;rw[this]
def TG{s:ag}:∀{l:List Operand} {p:Prop} {aQ:List (ad×Option Nat)},jt s l=(p,some aQ)->∀y∈aQ,∀i∈y.1.mR,∃x∈l,(aG s x).2.refs i=true
 |[],p,aQ,h,y,hm=>by simp only[jt,cc,bS]at h;obtain⟨_,rfl⟩:=h;cases hm
 |x::l,p,aQ,h,y,hm=>by
  intro i ai;simp only[jt]at h;split at h
  ·rename_i q v dQ vs av aI;simp only[cc,bS]at h;obtain⟨_,rfl⟩:=h;rcases eT.1 hm with e|e
   ·subst e;refine⟨x,by simp,?_⟩;unfold qG at av;split at av
    ·simp only[cc,bS]at av;obtain⟨_,rfl⟩:=av;cases ai
    ·split at av<;>first|(simp only[cc,bS]at av;obtain⟨_,rfl⟩:=av;cases ai;done)|(simp at av)
    ·split at av<;>first|(simp only[cc,bS]at av;obtain⟨_,rfl⟩:=av;cases ai;done)|(simp at av)
    ·rename_i ch;simp only[cc,bS]at av;obtain⟨_,rfl⟩:=av;rw[ch];simp only[ad.mR,vh]at ai;obtain⟨c,ao,Nw⟩:=ai;simp only[ad.refs];refine Ee.2 ⟨c,ao,?_⟩;cases c with
     |inl c=>cases Nw
     |inr p=>simp only[mO,bS]at Nw;simp[j_,Nw]
    ·rename_i ch;simp only[cc,bS]at av;obtain⟨_,rfl⟩:=av;rw[ch];simp only[ad.mR,qN]at ai;simp[ad.refs,ai]
    ·simp at av
   ·obtain⟨bH,aa,ab⟩:=TG aI y e i ai;exact⟨bH,l3 _ aa,ab⟩
  ·simp at h
def TH{s:ag}:∀{l:List (af⊕(Nat×Nat))} {aQ:List (ad×Option Nat)},jT s l=some aQ->∀y∈aQ,∀i∈y.1.mR,l.any (j_ i)=true
 |[],aQ,h,y,hm=>by simp only[jT,bS]at h;subst h;cases hm
 |c::l,aQ,h,y,hm=>by
  intro i ai;simp only[jT]at h;split at h
  ·rename_i x xs av aI;injection h with h
   subst h;rcases eT.1 hm with e|e
   ·subst e;unfold r_ at av;split at av
    ·injection av with av;subst av;cases ai
    ·split at av
     ·injection av with av;subst av;cases ai
     ·cases av
    ·rename_i k off _;by_cases jP:1000000<=off
     ·simp only[jP,decide_true,cond_true,bS]at av;subst av;simp only[ad.mR,qN]at ai;simp[j_,ai]
     ·simp[jP]at av
   ·simp[TH aI y e i ai]
  ·cases h
def zdg{s:ag}{f:Operand}{args:List Operand}{p:Prop}{g:FuncId}{aQ:List (ad×Option Nat)}(h:fW s f args=(p,some (g,aQ))):∀y∈aQ,∀i∈y.1.mR,(aG s f).2.refs i=true\/∃x∈args,(aG s x).2.refs i=true:=by
 intro y hm i ai;unfold fW at h;split at h
 ·rename_i i6 gn q xs gP aI;split at h
  ·rename_i bQ caps av;simp only[cc,bS]at h;obtain⟨_,rfl,rfl⟩:=h;rcases gv.1 hm with hm|hm
   ·exact .inr (TG aI y hm i ai)
   ·left;rw[gP];unfold l6 at av;split at av
    ·cases ao:jT s _ with
     |none=>rw[ao]at av;cases av
     |some cC=>rw[ao]at av;simp only[tC,bS,cc]at av;obtain⟨_,rfl⟩:=av;exact TH ao y hm i ai
    ·cases ao:iz _ with
     |none=>rw[ao]at av;cases av
     |some cC=>rw[ao]at av;simp only[tC,bS,cc]at av;obtain⟨_,rfl⟩:=av;obtain⟨z,_,e⟩:=hh.1 hm;subst e;cases ai
  ·simp at h
 ·simp at h
def Nx{l:List Nat}{i:Nat}:∀{t r:List Nat},i∈addN l t r->i∈t\/i∈r
 |[],r,h=>.inr h
 |k::t,r,h=>by
  simp only[addN]at h;cases ao:l.contains k<;>rw[ao]at h
  ·rcases eT.1 h with e|e
   ·exact .inl (by simp[e])
   ·rcases Nx e with e|e
    ·exact .inl (l3 _ e)
    ·exact .inr e
  ·rcases Nx h with e|e
   ·exact .inl (l3 _ e)
   ·exact .inr e
def TI{l:List Nat}{i:Nat}:∀{xs:List (ad×Option Nat)},i∈xl l xs->∃y∈xs,i∈y.1.mR
 |[],h=>by cases h
 |(x,q)::r,h=>by
  simp only[xl]at h;rcases Nx h with e|e
  ·exact⟨_,kl,e⟩
  ·obtain⟨y,aa,ab⟩:=TI e;exact⟨y,l3 _ aa,ab⟩
def zdh{xs:List (ad×Option Nat)}(h:∀y∈xs,∀i∈y.1.mR,s' i=s i):ghost s' xs=ghost s xs:=by
 unfold ghost;split
 ·rfl
 ·rename_i i r e;obtain⟨y,aa,ab⟩:=TI (l:=slotsOf xs) (i:=i) (xs:=xs) (by rw[e];simp);simp only[h y aa i ab]
def zdi{f:Operand}{args:List Operand}(ay:dy s s' f)(h:∀x∈args,dy s s' x){aQ:List (ad×Option Nat)}{r:bw}{outs:List ad}:sa P s' (fW s f args) aQ r outs↔sa P s (fW s f args) aQ r outs:=by
 unfold sa;split
 ·rename_i p g xs e;have aB:ghost s' xs=ghost s xs:=zdh (fun y aS i ai=>by
   rcases zdg e y aS i ai with k|⟨x,aj,k⟩
   ·exact iO ay k
   ·exact iO (h x aj) k)
  rw[aB]
 ·exact iB
def TJ{n:Nat}{o:Oper}{W:List (Nat×ad)}{dz:Option (Nat×ad)}(h:∀x∈o.op.operands,dy s s' x):writes P n o s' W dz↔writes P n o s W dz:=by
 unfold writes;cases cF:o.op with
 |store t addr x=>
  rw[cF]at h;have bj:=h addr (by simp[Op.operands]);have aj:=h x (by simp[Op.operands]);have tK:h_ s' x=h_ s x:=by simp only[h_,Ty aj]
  have al:dc s' [x]=dc s [x]:=Nr [x] (fun y aS=>by simp at aS;subst aS;exact aj);have b3:vC P s' t (aG s addr) (h_ s x)=vC P s t (aG s addr) (h_ s x):=by
   unfold vC;split
   ·rename_i e _ _;rw[iO bj (by rw[e];simp[ad.refs])]
   ·rename_i e _ _;rw[iO bj (by rw[e];simp[ad.refs])]
   ·rfl
  simp only[tK,al,dD bj,b3]
 |call c=>
  rw[cF]at h;obtain⟨callee,⟨args⟩,ts⟩:=c;cases callee with
  |value f=>
   have ay:dy s s' f:=h f (by simp[Op.operands,Call.operands]);have bj:∀x∈args,dy s s' x:=fun x aj=>h x (by simp[Op.operands,Call.operands,aj]);have:∀aQ r outs,sa P s' (fW s' f args) aQ r outs↔sa P s (fW s f args) aQ r outs:=fun aQ r outs=>by rw[zdf ay bj];exact zdi ay bj
   simp only[this]
  |_=>rfl
 |_=>rfl
end
def TK{ops:Array Oper}{s s':ag}{g:Nat×Bool}{e:Bool}(he:c1 ops s g=some e)(h:∀d,(ops[g.1]?).bind (·.dst)=some d->(s d).aM=false->s' d=s d):c1 ops s' g=c1 ops s g:=by
 unfold c1 at he⊢;cases ax:(ops[g.1]?).bind (·.dst)with
 |none=>rfl
 |some d=>rw[ax]at he;simp only at he⊢;rw[h d ax];cases ap:s d<;>rw[ap]at he<;>first|rfl|cases he
def Ny:∀(l:List (ad×Option Nat)) (outs:List ad),((dC l outs).map (·.1)).Sublist (slotsOf l)
 |[],_=>by simp[dC]
 |(x,none)::l,[]=>by simp[dC]
 |(x,some i)::l,[]=>by simp[dC]
 |(x,none)::l,o::outs=>by simpa[dC,slotsOf]using Ny l outs
 |(x,some i)::l,o::outs=>by have:=Ny l outs;simp only[dC,slotsOf,iw,qC];exact this.cons_cons i
def Nz:∀{l:List (ad×Option Nat)} {outs:List ad},m_ l outs=true->∀i o,(i,o)∈dC l outs->∃cs,o=.box cs
 |[],_,_,i,o,h=>by simp[dC]at h
 |(x,none)::l,[],ae,i,o,h=>by simp[dC]at h
 |(x,some k)::l,[],ae,i,o,h=>by simp[dC]at h
 |(x,none)::l,q::outs,ae,i,o,h=>by simp only[dC]at h;exact Nz (l:=l) (outs:=outs) (by simpa[m_]using ae) i o h
 |(x,some k)::l,q::outs,ae,i,o,h=>by
  cases q with
  |box cs=>
   simp only[dC]at h;rcases eT.1 h with e|e
   ·injection e with av aI;exact⟨cs,aI⟩
   ·exact Nz (l:=l) (outs:=outs) (by simpa[m_]using ae) i o e
  |_=>simp[m_]at ae
def zdj{s:ag}{x:Operand}{p:Prop}{y:ad}{i:Nat}(h:qG s x=(p,some (y,some i))):s i=y/\y.aM=true:=by
 unfold qG at h;split at h
 ·simp at h
 ·split at h
  ·rename_i ap;simp only[cc,bS]at h;obtain⟨_,rfl,rfl⟩:=h;exact⟨ap,rfl⟩
  ·rename_i ap;simp only[cc,bS]at h;obtain⟨_,rfl,rfl⟩:=h;exact⟨ap,rfl⟩
  ·simp at h
 ·split at h
  ·rename_i ap;simp only[cc,bS]at h;obtain⟨_,rfl,rfl⟩:=h;exact⟨ap,rfl⟩
  ·simp at h
 ·simp at h
 ·simp at h
 ·simp at h
def TL{s:ag}:∀{l:List Operand} {p:Prop} {aQ:List (ad×Option Nat)},jt s l=(p,some aQ)->∀(y:ad) (i:Nat),(y,some i)∈aQ->s i=y/\y.aM=true
 |[],p,aQ,h,y,i,hm=>by simp only[jt,cc,bS]at h;obtain⟨_,rfl⟩:=h;cases hm
 |x::l,p,aQ,h,y,i,hm=>by
  simp only[jt]at h;split at h
  ·rename_i q v dQ vs av aI;simp only[cc,bS]at h;obtain⟨_,rfl⟩:=h;rcases eT.1 hm with e|e
   ·subst e;exact zdj av
   ·exact TL aI y i e
  ·simp at h
def TM{s:ag}:∀{l:List (af⊕(Nat×Nat))} {aQ:List (ad×Option Nat)},jT s l=some aQ->∀(y:ad) (i:Nat),(y,some i)∈aQ->s i=y/\y.aM=true
 |[],aQ,h,y,i,hm=>by simp only[jT,bS]at h;subst h;cases hm
 |c::l,aQ,h,y,i,hm=>by
  simp only[jT]at h;split at h
  ·rename_i x xs av aI;injection h with h
   subst h;rcases eT.1 hm with e|e
   ·subst e;unfold r_ at av;split at av
    ·injection av with av;simp at av
    ·split at av
     ·rename_i ap;injection av with av;simp only[cc,bS]at av;obtain⟨rfl,rfl⟩:=av;exact⟨ap,rfl⟩
     ·cases av
    ·rename_i off _;by_cases jP:1000000<=off
     ·simp[jP]at av
     ·simp[jP]at av
   ·exact TM aI y i e
  ·cases h
def TN{s:ag}{f:Operand}{args:List Operand}{p:Prop}{g:FuncId}{aQ:List (ad×Option Nat)}(h:fW s f args=(p,some (g,aQ)))(y:ad)(i:Nat)(hm:(y,some i)∈aQ):s i=y/\y.aM=true:=by
 unfold fW at h;split at h
 ·rename_i i6 gn q xs gP aI;split at h
  ·rename_i bQ caps av;simp only[cc,bS]at h;obtain⟨_,rfl,rfl⟩:=h;rcases gv.1 hm with hm|hm
   ·exact TL aI y i hm
   ·unfold l6 at av;split at av
    ·cases ao:jT s _ with
     |none=>rw[ao]at av;cases av
     |some cC=>rw[ao]at av;simp only[tC,bS,cc]at av;obtain⟨_,rfl⟩:=av;exact TM ao y i hm
    ·cases ao:iz _ with
     |none=>rw[ao]at av;cases av
     |some cC=>rw[ao]at av;simp only[tC,bS,cc]at av;obtain⟨_,rfl⟩:=av;obtain⟨z,_,e⟩:=hh.1 hm;simp at e
  ·simp at h
 ·simp at h
def TO{s:ag}{f:Operand}{args:List Operand}{p:Prop}{g:FuncId}{xs cC:List (ad×Option Nat)}(h:fW s f args=(p,some (g,xs)))(aY:cC=xs\/∃i cs,ghost s xs=some (i,cs)/\cC=xs++[(.box cs,some i)])(y:ad)(i:Nat)(hm:(y,some i)∈cC):s i=y/\y.aM=true:=by
 rcases aY with rfl|⟨k,cs,aB,rfl⟩
 ·exact TN h y i hm
 ·rcases gv.1 hm with hm|hm
  ·exact TN h y i hm
  ·simp only[qN,cc,bS]at hm;obtain⟨rfl,rfl⟩:=hm;exact⟨SO aB,rfl⟩
def I2{P:Program}{n:Nat}{o:Oper}{s:ag}{W:List (Nat×ad)}{dz:Option (Nat×ad)}(h:writes P n o s W dz):(∀i v,(i,v)∈W->jx (s i) v/\(s i).aM=true)/\(W.map (·.1)).Nodup:=by
 unfold writes at h;obtain⟨_,h⟩:=h;split at h
 ·rename_i t addr x cF;obtain⟨_,_,_,_,p,i,v,b3,_,rfl⟩:=h;refine⟨fun j u ac=>?_,by simp⟩;simp only[qN,cc]at ac;obtain⟨rfl,rfl⟩:=ac;unfold vC at b3;split at b3
  ·split at b3
   ·rename_i cs ap;simp only[bS,cc]at b3;obtain⟨_,rfl,rfl⟩:=b3;rw[ap];exact⟨.inr (.inl ⟨_,_,rfl,rfl⟩),rfl⟩
   ·rename_i b cs ap;simp only[bS,cc]at b3;obtain⟨_,rfl,rfl⟩:=b3;rw[ap];exact⟨.inr (.inr (.inr ⟨_,_,_,rfl,rfl⟩)),rfl⟩
   ·cases b3
  ·split at b3
   ·rename_i e size xs ap;simp only[bS,cc]at b3;obtain⟨_,rfl,rfl⟩:=b3;rw[ap];exact⟨.inr (.inr (.inl ⟨_,_,_,_,rfl,rfl,by simp⟩)),rfl⟩
   ·cases b3
  ·cases b3
 ·split at h
  ·obtain⟨d,aQ,r,outs,_,_,cY,tW,_,rfl,_⟩:=h;obtain⟨eF,fP,p,g,xs,ao,aY⟩:=IB cY;refine⟨fun i v vD=>?_,(Ny aQ outs).nodup fP⟩;obtain⟨cs,rfl⟩:=Nz tW i v vD;obtain⟨j,x,aa,ab⟩:=vg vD;obtain⟨ap,aw⟩:=TO ao aY x i (iq aa);have ay:=(nN eF).2 j x (.box cs) (by rw[dO,aa];rfl) ab;rw[ap];cases x<;>first|exact⟨.inr (.inl ⟨_,_,rfl,rfl⟩),rfl⟩|(simp[dR]at ay)
  ·exact h.elim
 ·exact h.elim
def kW{ops:Array Oper}(o:Oper)(d:Nat)(ax:d∉o.looksAt ops):∀x∈o.op.operands,x≠.tmp d:=by intro x aj e;subst e;exact ax (by simp only[Oper.looksAt,gv,vh];exact .inl ⟨.tmp d,by simpa using aj,rfl⟩)
def I3{ops:Array Oper}(o:Oper)(d:Nat)(g:Nat×Bool)(ax:d∉o.looksAt ops)(aB:o.guard=some g):∀bt,(ops[g.1]?).bind (·.dst)=some bt->bt≠d:=by intro bt e8 e;subst e;refine ax ?_;simp only[Oper.looksAt,gv,aB,e8];exact .inr (by simp)
def NA(s:ag)(W:List (Nat×ad))(i:Nat):Option (Nat×ad)->ad
 |some (d,r)=>if i=d then r else e0 s W i
 |none=>e0 s W i
@[simp]def NB(s:ag)(W:List (Nat×ad))(i:Nat):NA s W i none=e0 s W i:=rfl
@[simp]def xz(s:ag)(W:List (Nat×ad))(i d:Nat)(r:ad):NA s W i (some (d,r))=if i=d then r else e0 s W i:=rfl
def tX{s:ag}{W:List (Nat×ad)}{dz:Option (Nat×ad)}(ax:∀d r,dz=some (d,r)->(e0 s W d).aM=false/\∀j,r.refs j=false)(i:Nat):sk s W dz i=NA s W i dz:=by
 cases dz with
 |none=>rfl
 |some p=>
  obtain⟨d,r⟩:=p;obtain⟨aa,ab⟩:=ax d r rfl;show put (e0 s W) d r i=_
  rw[d_ aa];by_cases ai:i=d
  ·simp[ai,ab]
  ·simp[ai]
def TP{P:Program}{n:Nat}{ops:Array Oper}{ol ow:Oper}{s s1 s2:ag}(NC:∀d,ol.dst=some d->d∉ow.looksAt ops)(Fr:∀d,ow.dst=some d->d∉ol.looksAt ops)(Fs:∀d,ol.dst=some d->ow.dst≠some d)(hw:cq s)
  (al:gE P n ops ol s s1)(aq:gf s ol.op)(ai:sl P n ow s1 s2):∃b7,sl P n ow s b7/\gE P n ops ol b7 s2/\gf b7 ol.op:=by
 obtain⟨d,r,ax,hdn,cp,rfl,aH⟩:=al;obtain⟨W,dz,bG,fQ,zo,rfl⟩:=ai;have eU:∀x∈ow.op.operands,dy s (put s d r) x:=fun x aj=>ma hw cp (kW ow d (NC d ax) x aj);have ak:∀i,i≠d->put s d r i=s i:=fun i ai=>by rw[d_ cp,au ai]
 have TQ:=(TJ eU).1 bG;obtain⟨ia,_⟩:=I2 TQ;have Ft:∀i v,(i,v)∈W->i≠d:=by rintro i v vD rfl;have:=(ia i v vD).2;rw[cp]at this;cases this
 have dq:∀i v,(i,v)∈W->(put s d r i).aM=true:=by intro i v vD;rw[ak i (Ft i v vD)];exact(ia i v vD).2
 have zp:∀bt ca,dz=some (bt,ca)->ow.dst=some bt/\(s bt).aM=false/\ca.aM=false/\∀j,ca.refs j=false:=by intro bt ca h;obtain⟨aa,ab,ar,aN⟩:=fQ bt ca h;have bC:bt≠d:=fun e=>Fs d ax (by rw[aa,e]);rw[ak bt bC]at ab;exact⟨aa,ab,ar,aN⟩
 have h9:∀(t:ag) (bt:Nat),(t bt).aM=false->(∀i v,(i,v)∈W->(t i).aM=true)->e0 t W bt=t bt:=by intro t bt aa ab;exact qM (fun v aH=>by have:=ab bt v aH;rw[aa]at this;cases this)
 have ko:∀bt ca,dz=some (bt,ca)->(e0 s W bt).aM=false/\∀j,ca.refs j=false:=fun bt ca h=>by obtain⟨_,ab,_,aN⟩:=zp bt ca h;exact⟨by rw[h9 s bt ab (fun i v aH=>(ia i v aH).2)];exact ab,aN⟩
 have oT:∀bt ca,dz=some (bt,ca)->(e0 (put s d r) W bt).aM=false/\∀j,ca.refs j=false:=fun bt ca h=>by obtain⟨_,ab,_,aN⟩:=fQ bt ca h;exact⟨by rw[h9 _ bt ab (fun i v aH=>dq i v aH)];exact ab,aN⟩
 have TR:e0 s W d=s d:=h9 s d cp (fun i v aH=>(ia i v aH).2);have zdk:(sk s W dz d)=s d:=by
  rw[tX ko];cases dz with
  |none=>exact TR
  |some p=>obtain⟨bt,ca⟩:=p;have bC:d≠bt:=fun e=>Fs d ax (by rw[e];exact(zp bt ca rfl).1);simp only[xz,au bC];exact TR
 have BT:(sk s W dz d).aM=false:=by rw[zdk];exact cp
 have i7:∀i,(∀bt,ow.dst=some bt->i≠bt)->jx (s i) (sk s W dz i):=by
  intro i hid;rw[tX ko];cases dz with
  |none=>exact tV ia i
  |some p=>obtain⟨bt,ca⟩:=p;simp only[xz,au (hid bt (zp bt ca rfl).1)];exact tV ia i
 have zq:∀x∈ol.op.operands,mY s (sk s W dz) x:=by
  intro x aj;cases x with
  |tmp t=>
   refine⟨i7 t (fun bt e8 e=>?_),fun b ae=>i7 b (fun bt e8 e=>?_)⟩
   ·subst e;exact kW ol t (Fr t e8) _ aj rfl
   ·subst e;obtain⟨aa,ab,_⟩:ow.dst=some b/\(s b).aM=false/\True:=by
     cases e1:dz with
     |none=>rw[zo e1]at e8;cases e8
     |some p=>
      obtain⟨bt,ca⟩:=p;obtain⟨aF,aP,_⟩:=zp bt ca e1;rw[e8]at aF;injection aF with aF;subst aF
      exact⟨e8,aP,trivial⟩
    have:=hw t b ae;rw[ab]at this;cases this
  |_=>trivial
 refine⟨sk s W dz,⟨W,dz,TQ,zp,zo,rfl⟩,⟨d,r,ax,hdn,BT,?_,?_⟩,B9 aq zq⟩
 ·funext i;rw[tX oT,d_ BT,tX ko];by_cases ai:i=d
  ·subst ai;have av:e0 (put s i r) W i=put s i r i:=qM (fun v aH=>Ft i v aH rfl);cases dz with
   |none=>simp[av,d_ cp]
   |some p=>obtain⟨bt,ca⟩:=p;have bC:i≠bt:=fun e=>Fs i ax (by rw[e];exact(zp bt ca rfl).1);simp[bC,av,d_ cp]
  ·have av:e0 (put s d r) W i=e0 s W i:=by
    by_cases zr:∃v,(i,v)∈W
    ·obtain⟨v,aH⟩:=zr;exact TD _ _ aH
    ·have qO:∀v,(i,v)∉W:=fun v aH=>zr ⟨v,aH⟩;rw[qM qO,qM qO,ak i ai]
   cases dz with
   |none=>simp only[NB,au ai,av]
   |some p=>obtain⟨bt,ca⟩:=p;simp only[xz,au ai,av]
 ·cases aB:ol.guard with
  |none=>rw[aB]at aH;exact TA aq zq aH
  |some g=>
   rw[aB]at aH;obtain⟨e,he,aH⟩:=aH;refine⟨e,?_,TB aq zq aH⟩;rw[<-he];refine TK he (fun bt e8 aw=>?_);rw[tX ko];have qO:∀v,(bt,v)∉W:=fun v aH=>by have:=(ia bt v aH).2;rw[aw]at this;cases this
   cases e1:dz with
   |none=>exact qM qO
   |some p=>obtain⟨d2,iK⟩:=p;have bC:bt≠d2:=I3 ol d2 g (Fr d2 (zp d2 iK e1).1) aB bt e8;simp only[xz,au bC];exact qM qO
def jx.symm{a b:ad}(h:jx a b):jx b a:=by
 rcases h with rfl|⟨_,_,rfl,rfl⟩|⟨_,_,_,_,rfl,rfl,h⟩|⟨_,_,_,rfl,rfl⟩
 ·exact .inl rfl
 ·exact .inr (.inl ⟨_,_,rfl,rfl⟩)
 ·exact .inr (.inr (.inl ⟨_,_,_,_,rfl,rfl,h.symm⟩))
 ·exact .inr (.inr (.inr ⟨_,_,_,rfl,rfl⟩))
def mY.symm{s s':ag}{x:Operand}(h:mY s s' x):mY s' s x:=by
 cases x with
 |tmp t=>exact⟨h.1.symm,fun b ae=>(h.2 b (by rw[<-h.1.refs b];exact ae)).symm⟩
 |_=>trivial
def TS{P:Program}{n:Nat}{ops:Array Oper}{ol ow:Oper}{s s1 s2:ag}(NC:∀d,ol.dst=some d->d∉ow.looksAt ops)(Fr:∀d,ow.dst=some d->d∉ol.looksAt ops)(Fs:∀d,ol.dst=some d->ow.dst≠some d)(hw:cq s)
  (ai:sl P n ow s s1)(al:gE P n ops ol s1 s2)(aq:gf s1 ol.op):∃b7,gE P n ops ol s b7/\gf s ol.op/\sl P n ow b7 s2:=by
 obtain⟨W,dz,bG,fQ,zo,rfl⟩:=ai;obtain⟨dq,_⟩:=I2 bG;obtain⟨d,r,ax,hdn,TT,rfl,aH⟩:=al;have h9:∀(t:ag) (bt:Nat),(t bt).aM=false->(∀i v,(i,v)∈W->(t i).aM=true)->e0 t W bt=t bt:=by intro t bt aa ab;exact qM (fun v aH=>by have:=ab bt v aH;rw[aa]at this;cases this)
 have ko:∀bt ca,dz=some (bt,ca)->(e0 s W bt).aM=false/\∀j,ca.refs j=false:=fun bt ca h=>by obtain⟨_,ab,_,aN⟩:=fQ bt ca h;exact⟨by rw[h9 s bt ab (fun i v aH=>(dq i v aH).2)];exact ab,aN⟩
 have bC:∀bt ca,dz=some (bt,ca)->d≠bt:=fun bt ca h e=>Fs d ax (by rw[e];exact(fQ bt ca h).1);have zdl:sk s W dz d=e0 s W d:=by
  rw[tX ko];cases e1:dz with
  |none=>rfl
  |some p=>obtain⟨bt,ca⟩:=p;simp only[xz,au (bC bt ca e1)]
 have cp:(s d).aM=false:=by have:=(tV (s:=s) dq d).owner;rw[<-zdl,TT]at this;exact this.symm
 have Ft:∀i v,(i,v)∈W->i≠d:=by rintro i v vD rfl;have:=(dq i v vD).2;rw[cp]at this;cases this
 have i7:∀i,(∀bt,ow.dst=some bt->i≠bt)->jx (s i) (sk s W dz i):=by
  intro i hid;rw[tX ko];cases e1:dz with
  |none=>exact tV dq i
  |some p=>obtain⟨bt,ca⟩:=p;simp only[xz,au (hid bt (fQ bt ca e1).1)];exact tV dq i
 have zq:∀x∈ol.op.operands,mY s (sk s W dz) x:=by
  intro x aj;cases x with
  |tmp t=>
   refine⟨i7 t (fun bt e8 e=>?_),fun b ae=>i7 b (fun bt e8 e=>?_)⟩
   ·subst e;exact kW ol t (Fr t e8) _ aj rfl
   ·subst e;have ab:(s b).aM=false:=by
     cases e1:dz with
     |none=>rw[zo e1]at e8;cases e8
     |some p=>
      obtain⟨bt,ca⟩:=p;obtain⟨aF,aP,_⟩:=fQ bt ca e1;rw[e8]at aF;injection aF with aF;subst aF
      exact aP
    have:=hw t b ae;rw[ab]at this;cases this
  |_=>trivial
 have ak:∀i,i≠d->put s d r i=s i:=fun i ai=>by rw[d_ cp,au ai]
 have eU:∀x∈ow.op.operands,dy s (put s d r) x:=fun x aj=>ma hw cp (kW ow d (NC d ax) x aj);have aO:=B9 aq (fun x aj=>(zq x aj).symm);have TU:∀bt ca,dz=some (bt,ca)->ow.dst=some bt/\(put s d r bt).aM=false/\ca.aM=false/\∀j,ca.refs j=false:=by intro bt ca h;obtain⟨aa,ab,ar,aN⟩:=fQ bt ca h;rw[<-ak bt (mW (bC bt ca h))]at ab;exact⟨aa,ab,ar,aN⟩
 have oT:∀bt ca,dz=some (bt,ca)->(e0 (put s d r) W bt).aM=false/\∀j,ca.refs j=false:=fun bt ca h=>by obtain⟨_,ab,_,aN⟩:=TU bt ca h;refine⟨?_,aN⟩;rw[h9 _ bt ab (fun i v aH=>by rw[ak i (Ft i v aH)];exact(dq i v aH).2)];exact ab
 refine⟨put s d r,⟨d,r,ax,hdn,cp,rfl,?_⟩,aO,⟨W,dz,(TJ eU).2 bG,TU,zo,?_⟩⟩
 ·cases aB:ol.guard with
  |none=>rw[aB]at aH;exact TA aq (fun x aj=>(zq x aj).symm) aH
  |some g=>
   rw[aB]at aH;obtain⟨e,he,aH⟩:=aH;refine⟨e,?_,TB aq (fun x aj=>(zq x aj).symm) aH⟩;rw[<-he];refine TK he (fun bt e8 aw=>?_);rw[tX ko]at aw⊢;cases e1:dz with
   |none=>
    rw[e1]at aw;have qO:∀v,(bt,v)∉W:=fun v aH=>by have:=(tV (s:=s) dq bt).owner;rw[(dq bt v aH).2]at this;simp only[NB]at aw;rw[aw]at this;cases this
    exact(qM qO).symm
   |some p=>
    obtain⟨d2,iK⟩:=p;have R9:bt≠d2:=I3 ol d2 g (Fr d2 (fQ d2 iK e1).1) aB bt e8;rw[e1]at aw;simp only[xz,au R9]at aw⊢;have qO:∀v,(bt,v)∉W:=fun v aH=>by have:=(tV (s:=s) dq bt).owner;rw[(dq bt v aH).2,aw]at this;cases this
    exact(qM qO).symm
 ·funext i;rw[tX oT,d_ TT,tX ko];by_cases ai:i=d
  ·subst ai;have av:e0 (put s i r) W i=put s i r i:=qM (fun v aH=>Ft i v aH rfl);cases e1:dz with
   |none=>simp[av,d_ cp]
   |some p=>obtain⟨bt,ca⟩:=p;simp[bC bt ca e1,av,d_ cp]
  ·have av:e0 (put s d r) W i=e0 s W i:=by
    by_cases zr:∃v,(i,v)∈W
    ·obtain⟨v,aH⟩:=zr;exact TD _ _ aH
    ·have qO:∀v,(i,v)∉W:=fun v aH=>zr ⟨v,aH⟩;rw[qM qO,qM qO,ak i ai]
   cases e1:dz with
   |none=>simp only[NB,au ai,av]
   |some p=>obtain⟨bt,ca⟩:=p;simp only[xz,au ai,av]
def TV{s:ag}{op:Op}(h:mZ op=true):gf s op:=by cases op<;>first|exact h|(simp[mZ]at h)
def zdm{P:Program}{s:ag}{t:TypeId}{addr x:Prop×ad}{p:Prop}{i:Nat}{v:ad}(h:vC P s t addr x=some (p,i,v))(ak:p):(jU P s t addr x).1/\(jU P s t addr x).2=e0 s [(i,v)]:=by
 have l8:∀i v,(fun j=>if j=i then v else s j)=e0 s [(i,v)]:=by
  intro i v;funext j;unfold e0;by_cases ac:j=i
  ·subst ac;simp
  ·have:(i==j)=false:=by simpa using fun e=>ac e.symm
   simp[ac,this]
 unfold vC at h;unfold jU;split at h
 ·rename_i e;split at h
  ·rename_i ap;simp only[bS,cc]at h;obtain⟨rfl,rfl,rfl⟩:=h;simp only[e,ap,ak.2];exact⟨ak.1,l8 _ _⟩
  ·rename_i ap;simp only[bS,cc]at h;obtain⟨rfl,rfl,rfl⟩:=h;simp only[e,ap,ak.2];exact⟨ak.1,l8 _ _⟩
  ·cases h
 ·rename_i e;split at h
  ·rename_i ap;simp only[bS,cc]at h;obtain⟨rfl,rfl,rfl⟩:=h;simp only[e,ap];exact⟨ak,l8 _ _⟩
  ·cases h
 ·cases h
def I4:∀(l:List (ad×Option Nat)) (outs:List ad) (s:ag),m_ l outs=true->(slotsOf l).Nodup->e6 s l outs=e0 s (dC l outs)
 |[],outs,s,_,_=>by cases outs<;>(funext i;rfl)
 |(x,none)::l,[],s,h,_=>by simp[m_]at h
 |(x,some k)::l,[],s,h,_=>by simp[m_]at h
 |(x,none)::l,o::outs,s,h,aT=>by simp only[e6,dC];exact I4 l outs s (by simpa[m_]using h) (by simpa[slotsOf]using aT)
 |(x,some k)::l,o::outs,s,h,aT=>by
  cases o with
  |box cs=>
   simp only[e6,dC];simp only[slotsOf,qC]at aT;have Iy:=(vi.1 aT).1;rw[I4 l outs _ (by simpa[m_]using h) (vi.1 aT).2];funext i;unfold e0;simp only[List.find?_cons];by_cases vp:k=i
   ·subst vp;simp only[lW];have:(dC l outs).find? (fun p=>p.1==k)=none:=by
     rw[I1];rintro⟨j,v⟩ ac;simp only[fB];rintro rfl;obtain⟨m,y,aa,_⟩:=vg ac;exact Iy (xj aa)
    rw[this];simp[r']
   ·have:(k==i)=false:=by simpa using vp
    simp only[this];cases (dC l outs).find? (fun p=>p.1==i)with
    |some p=>rfl
    |none=>simp[r',mW vp]
  |_=>simp[m_]at h
section
variable {P:Program}{S0:Env}{w0 w:World}{n:Nat}{s:ag}{a:Act}
def zdn(ah:Rel S0 w0 n s a w)(o:Oper)(dV:∀d,o.dst=some d->S0.m<=d){s':ag}(h:sl P n o s s'){bP:Act->World->Prop}{Q:Exit->Act->World->Prop}
  (b6:∀aZ w',Rel S0 w0 n s' aZ w'->bP aZ w'):o.wp P a w bP Q:=by
 obtain⟨W,dz,hw,fQ,hdn,rfl⟩:=h;unfold writes at hw;obtain⟨aB,hw⟩:=hw;split at hw
 ·rename_i t addr x cF;obtain⟨eu,rfl,aw,al,p,i,v,b3,ak,rfl⟩:=hw;obtain⟨aa,ab⟩:=zdm b3 ak;refine xv (P:=P) (K:=fun t=>t=e0 s [(i,v)]) ah o dV ?_ (fun s1 aZ w' bM cO=>by subst cO;exact b6 aZ w' bM);rw[cF,eu];have kh:jv s (aG s addr) (aG s x)=none:=by
   cases fk:jv s (aG s addr) (aG s x)with
   |none=>rfl
   |some y=>obtain⟨i6,bB,off,d⟩:=y;obtain⟨_,_,_,aI,_⟩:=E8 fk;simp[dc,aI,y0]at al
  simp only[fs,kh,al,dt];exact⟨aw,aa,ab⟩
 ·rename_i c cF;split at hw
  ·rename_i f ay;obtain⟨d,aQ,r,outs,eu,zo,cY,tW,xd,rfl,rfl⟩:=hw;have fP:=(IB cY).2.1;refine MY (P:=P) (f:=f) (args:=c.args) (K:=fun t=>t=sk s (dC aQ outs) (some (d,r.cP))) ah ?_ ⟨c.argTypes,by rw[cF];cases c;simp at ay;simp[ay]⟩ eu (dV d eu) (fun s1 aZ w' bM cO=>by subst cO;exact b6 aZ w' bM);refine tJ.2 ⟨aQ,r,outs,cY,zo,?_⟩;show put (e6 s aQ outs) d r.cP=put (e0 s (dC aQ outs)) d r.cP
   rw[I4 aQ outs s tW fP]
  ·exact hw.elim
 ·exact hw.elim
def TW{o:Oper}{s':ag}(hw:cq s)(h:sl P n o s s'):cq s':=by
 obtain⟨W,dz,bG,fQ,_,rfl⟩:=h;obtain⟨dq,_⟩:=I2 bG;have aa:cq (e0 s W):=by intro i j ct;have ai:=tV (s:=s) dq i;rw[ai.refs]at ct;rw[(tV (s:=s) dq j).owner];exact hw i j ct
 cases dz with
 |none=>exact aa
 |some p=>obtain⟨d,r⟩:=p;exact fe aa (fun j ac=>by rw[(fQ d r rfl).2.2.2 j]at ac;cases ac)
end
end Go.Ab
namespace Go.Ab
open Go Go.RowKit
variable [bf]
def zs:Op->Bool
 |.buildSlice _ _ _=>true
 |.makeMap _ _=>true
 |.makeSlice _ _ _=>true
 |.call c=>match c.callee with
  |.builtin .append=>true
  |_=>false
 |_=>false
def eX(ops:Array Oper)(op:Op):Bool:=
 match op with
 |.store _ _ _=>false
 |.makeMap _ _=>false
 |.mapUpdate _ _ _ _=>false
 |.assign (.tmp t)=>!(ops.toList.any fun o=>o.dst==some t&&zs o.op)
 |.call c=>match c.callee with
  |.builtin .append=>false
  |_=>true
 |_=>true
def dn(P:Program)(n:Nat)(ops:Array Oper)(o:Oper)(s:ag)(K:ag->Prop):Prop:=
 match o.dst with
 |none=>False
 |some d=>d<n/\(s d).aM=false /\
  match o.guard with
  |none=>match o.op with
   |.alloc t=>match zeroOf P t with
    |some cs=>K (put s d (.box cs))
    |none=>False
   |.box _ x=>match aG s x with
    |(p,.x bK)=>p/\K (put s d (.box bK.cells))
    |_=>False
   |.buildSlice t len parts=>(jS P (aG s) t len parts.toList).1/\K (put s d (jS P (aG s) t len parts.toList).2)
   |.convert src dst x=>match h4 P dst with
    |true=>(nQ P src dst (aG s x)).1/\K (put s d (nQ P src dst (aG s x)).2)
    |false=>(bb P s (.convert src dst x)).1/\K (put s d (bb P s (.convert src dst x)).2)
   |.call c=>match c.callee with
    |.value f=>∃dE:bw,nK P s f c.args.toList dE/\(dE.flat ||(dc s c.args.toList).isEmpty)=true/\K (put s d dE.cP)
    |_=>(bb P s (.call c)).1/\K (put s d (bb P s (.call c)).2)
   |op=>(bb P s op).1/\K (put s d (bb P s op).2)
  |some g=>match c1 ops s g with
   |some e=>match o.op with
    |.call c=>match c.callee with
     |.value f=>pA P e (callee s f c.args.toList) (fun dE=>K (put s d (.cond e dE.cP)))
     |_=>(e=true->(bb P s (.call c)).1)/\(bb P s (.call c)).2.aM=false/\K (put s d (.cond e (bb P s (.call c)).2))
    |.buildSlice t len parts=>match e with
     |true=>(jS P (aG s) t len parts.toList).1/\K (put s d (jS P (aG s) t len parts.toList).2)
     |false=>K (put s d (.cond false (.x (.one (.bool false)))))
    |op=>(e=true->(bb P s op).1)/\(bb P s op).2.aM=false/\K (put s d (.cond e (bb P s op).2))
   |none=>False
def B_{P:Program}{n:Nat}{ops:Array Oper}{o:Oper}{s:ag}{K:ag->Prop}(h:dn P n ops o s K):∃s',gE P n ops o s s'/\K s':=by
 unfold dn at h;cases ax:o.dst with
 |none=>rw[ax]at h;exact h.elim
 |some d=>
  rw[ax]at h;obtain⟨aT,aw,h⟩:=h;unfold gE;cases aB:o.guard with
  |none=>
   rw[aB]at h;simp only at h⊢;cases cF:o.op with
   |alloc t=>
    rw[cF]at h;simp only at h;cases aY:zeroOf P t with
    |none=>rw[aY]at h;exact h.elim
    |some cs=>rw[aY]at h;exact⟨_,⟨d,_,ax,aT,aw,rfl,by simp only[fY,aY]⟩,h⟩
   |box t x=>
    rw[cF]at h;simp only at h;split at h
    ·rename_i p bK e;exact⟨_,⟨d,_,ax,aT,aw,rfl,by simp only[fY,e];first|exact⟨h.1,rfl⟩|exact⟨h.1,trivial⟩⟩,h.2⟩
    ·exact h.elim
   |buildSlice t len parts=>rw[cF]at h;exact⟨_,⟨d,_,ax,aT,aw,rfl,h.1,rfl⟩,h.2⟩
   |convert src dst x=>
    rw[cF]at h;simp only at h;cases fg:h4 P dst with
    |true=>rw[fg]at h;exact⟨_,⟨d,_,ax,aT,aw,rfl,by simp only[fY,fg];first|exact⟨h.1,rfl⟩|exact⟨h.1,trivial⟩⟩,h.2⟩
    |false=>rw[fg]at h;exact⟨_,⟨d,_,ax,aT,aw,rfl,by simp only[fY,fg];first|exact⟨h.1,rfl⟩|exact⟨h.1,trivial⟩⟩,h.2⟩
   |call c=>
    rw[cF]at h;simp only at h;cases ao:c.callee with
    |value f=>rw[ao]at h;obtain⟨dE,aa,ab,ar⟩:=h;exact⟨_,⟨d,_,ax,aT,aw,rfl,by simp only[fY,ao];exact⟨dE,aa,ab,rfl⟩⟩,ar⟩
    |_=>rw[ao]at h;exact⟨_,⟨d,_,ax,aT,aw,rfl,by simp only[fY,ao];first|exact⟨h.1,rfl⟩|exact⟨h.1,trivial⟩⟩,h.2⟩
   |_=>rw[cF]at h;exact⟨_,⟨d,_,ax,aT,aw,rfl,h.1,rfl⟩,h.2⟩
  |some g=>
   rw[aB]at h;simp only at h⊢;cases he:c1 ops s g with
   |none=>rw[he]at h;exact h.elim
   |some e=>
    rw[he]at h;simp only at h;cases cF:o.op with
    |call c=>
     rw[cF]at h;simp only at h;cases ao:c.callee with
     |value f=>rw[ao]at h;obtain⟨dE,aa,ar⟩:=EU h;exact⟨_,⟨d,.cond e dE.cP,ax,aT,aw,rfl,e,rfl,by simp only[kV,ao];exact aa _ rfl⟩,ar⟩
     |_=>rw[ao]at h;exact⟨_,⟨d,_,ax,aT,aw,rfl,e,rfl,by simp only[kV,ao];first|exact⟨h.1,h.2.1,rfl⟩|exact⟨h.1,h.2.1,trivial⟩⟩,h.2.2⟩
    |buildSlice t len parts=>
     rw[cF]at h;cases e with
     |true=>exact⟨_,⟨d,_,ax,aT,aw,rfl,true,rfl,h.1,rfl⟩,h.2⟩
     |false=>exact⟨_,⟨d,_,ax,aT,aw,rfl,false,rfl,rfl⟩,h⟩
    |_=>rw[cF]at h;exact⟨_,⟨d,_,ax,aT,aw,rfl,e,rfl,h.1,h.2.1,rfl⟩,h.2.2⟩
def ib(o:Oper):Bool:=match o.op with
 |.call c=>match c.callee with
  |.value _=>o.guard.isNone
  |_=>false
 |_=>false
def kX(o:Oper):Bool:=match o.op with
 |.store _ _ _=>o.guard.isNone
 |_=>false
def xA(P:Program)(n:Nat)(o:Oper)(s:ag)(K:ag->Prop):Prop:=
 match o.dst,o.op with
 |some d,.call c=>match c.callee with
  |.value f=>d<n/\(s d).aM=false/\ly P (callee s f c.args.toList) (fun dE=>(dE.flat ||(dc s c.args.toList).isEmpty)=true/\K (put s d dE.cP)) (iA P s (fW s f c.args.toList) (fun aQ dE outs=>m_ aQ outs=true/\dE.cP.aM=false/\K (put (e6 s aQ outs) d dE.cP)))
  |_=>False
 |_,_=>False
def zt(s:ag)(op:Op):Prop:=match op with
 |.store _ a x=>dc s [x]=[]/\Fq s (aG s a).2=true
 |_=>True
def gU(P:Program)(n:Nat)(m:Bool)(ops:Array Oper):List Oper->ag->(ag->Prop)->Prop
 |[],s,K=>K s
 |o::r,s,K=>match eX ops o.op with
  |true=>match m&&ib o with
   |true=>xA P n o s (fun s'=>gU P n m ops r s' K)
   |false=>(m=true->gf s o.op)/\dn P n ops o s (fun s'=>gU P n m ops r s' K)
  |false=>match kX o with
   |true=>zt s o.op/\ft P n ops o s (fun s'=>gU P n m ops r s' K)
   |false=>ft P n ops o s (fun s'=>gU P n m ops r s' K)
def TX{P:Program}{src dst:TypeId}{x:Prop×ad}{j:Nat}:(nQ P src dst x).2.refs j=false:=by unfold nQ;split<;>rfl
def I5{P:Program}{s:ag}(hw:cq s){op:Op}{r:ad}(h:fY P s op r){j:Nat}(an:r.refs j=true):(s j).aM=true:=by
 cases op with
 |convert src dst x=>
  simp only[fY]at h;split at h
  ·obtain⟨_,rfl⟩:=h;rw[TX]at an;cases an
  ·obtain⟨_,rfl⟩:=h;exact qL hw _ an
 |alloc t=>
  simp only[fY]at h;split at h
  ·subst h;cases an
  ·exact h.elim
 |box t x=>
  simp only[fY]at h;split at h
  ·obtain⟨_,rfl⟩:=h;cases an
  ·exact h.elim
 |buildSlice t len parts=>obtain⟨_,rfl⟩:=h;simp only[jS]at an;split at an<;>cases an
 |call c=>
  simp only[fY]at h;split at h
  ·obtain⟨dE,_,_,rfl⟩:=h;cases dE<;>cases an
  ·obtain⟨_,rfl⟩:=h;exact qL hw _ an
 |_=>obtain⟨_,rfl⟩:=h;exact qL hw _ an
def TY{P:Program}{s:ag}(hw:cq s){e:Bool}{op:Op}{r:ad}(h:kV P s e op r){j:Nat}(an:r.refs j=true):(s j).aM=true:=by
 cases op with
 |call c=>
  simp only[kV]at h;split at h
  ·obtain⟨dE,_,_,rfl⟩:=Sw h;cases dE<;>cases an
  ·obtain⟨_,_,rfl⟩:=h;exact qL (P:=P) (op:=.call c) hw an
 |buildSlice t len parts=>
  cases e with
  |true=>exact I5 (op:=.buildSlice t len parts) hw h an
  |false=>obtain rfl:=h;cases an
 |_=>obtain⟨_,_,rfl⟩:=h;exact qL hw _ an
def B'{P:Program}{n:Nat}{ops:Array Oper}{o:Oper}{s s':ag}(hw:cq s)(h:gE P n ops o s s'):cq s':=by
 obtain⟨d,r,_,_,_,rfl,aH⟩:=h;refine fe hw (fun j ac=>?_);cases aB:o.guard with
 |none=>rw[aB]at aH;exact I5 hw aH ac
 |some g=>rw[aB]at aH;obtain⟨e,_,aH⟩:=aH;exact TY hw aH ac
def TZ{s:ag}(hw:cq s)(i:Nat):cq (freeze s i):=by
 intro j k bY;have eI:(s j).refs k=true:=by
  unfold freeze at bY;by_cases ac:j=i
  ·subst ac;simp only[aC]at bY;rcases MG (a:=s j)with (⟨e,size,xs,ap⟩|⟨cs,ap⟩)|ap
   ·rw[ap]at bY;cases bY
   ·rw[ap]at bY;cases bY
   ·rw[ap]at bY;exact bY
  ·simp only[au ac]at bY;cases an:(s j).refs i with
   |true=>rw[an]at bY;simp only[hB]at bY;rw[BK]at bY;cases bY
   |false=>rw[an]at bY;exact bY
 have ff:=hw j k eI;have dY:k≠i:=by
  rintro rfl;unfold freeze at bY;by_cases ac:j=k
  ·subst ac;have:=kI eI;rw[this]at ff;cases ff
  ·simp only[au ac,eI,hB,BK]at bY;cases bY
 have:freeze s i k=s k:=by
  unfold freeze;cases an:(s k).refs i with
  |true=>rw[kI an]at ff;cases ff
  |false=>simp[dY]
 rw[this];exact ff
def zu:∀(l:List Nat) {s:ag},cq s->cq (dt s l)
 |[],_,h=>h
 |i::r,_,h=>zu r (TZ h i)
def xB{s:ag}(hw:cq s){i:Nat}{r:ad}(aw:(s i).aM=true)(an:r.aM=true):cq (fun j=>if j=i then r else s j):=by
 intro j k bY;have eI:(s j).refs k=true:=by
  by_cases ac:j=i
  ·subst ac;simp only[aC]at bY;have:=kI bY;rw[an]at this;cases this
  ·simpa only[au ac]using bY
 have:=hw j k eI;by_cases am:k=i
 ·simp only[aC am];exact an
 ·simp only[au am];exact this
def I6{s:ag}(hw:cq s)(i off m:Nat):cq (unlink s i off m):=by
 intro j k bY;rcases hi s i off m j with e|e<;>rw[e]at bY
 ·have:=hw j k bY;rw[jq this];exact this
 ·cases bY
def zdo{P:Program}{s:ag}(hw:cq s){t:TypeId}{i off d:Nat}(h:(fr P s t i off d).1):cq (fr P s t i off d).2:=by
 unfold fr at h⊢;split at h
 ·rename_i cs am ap;obtain⟨_,ax,ay⟩:=h;have r0:(s i).aM=true:=by rw[ap];rfl
  have hu:=I6 hw i off 1;have bq:∀k,(s k).aM=true->(if k=i then ad.box (cs.set off .any)else if k=b0 i off then ad.link i off d else unlink s i off 1 k).aM=true:=by
   intro k am;by_cases aa:k=i
   ·simp only[aC aa];rfl
   ·have ab:k≠b0 i off:=by rintro rfl;rw[wP ay]at am;cases am
    simp only[au aa,au ab];rw[jq am];exact am
  intro j k bY;refine bq k ?_;by_cases aa:j=i
  ·simp only[aC aa]at bY;cases bY
  ·by_cases ab:j=b0 i off
   ·simp only[au aa,aC ab,ad.refs,eO,fB]at bY;rcases bY with rfl|rfl
    ·exact r0
    ·exact ad.y9 ax
   ·simp only[au aa,au ab]at bY;rcases hi s i off 1 j with e|e<;>rw[e]at bY
    ·exact hw j k bY
    ·cases bY
 ·rename_i b cs am ap;obtain⟨_,ax,ay⟩:=h;have r0:(s i).aM=true:=by rw[ap];rfl
  have hu:=I6 hw i off 1;have bq:∀k,(s k).aM=true->(if k=i then ad.cf b (cs.set off .any)else if k=b0 i off then ad.link i off d else unlink s i off 1 k).aM=true:=by
   intro k am;by_cases aa:k=i
   ·simp only[aC aa];rfl
   ·have ab:k≠b0 i off:=by rintro rfl;rw[wP ay]at am;cases am
    simp only[au aa,au ab];rw[jq am];exact am
  intro j k bY;refine bq k ?_;by_cases aa:j=i
  ·simp only[aC aa]at bY;cases bY
  ·by_cases ab:j=b0 i off
   ·simp only[au aa,aC ab,ad.refs,eO,fB]at bY;rcases bY with rfl|rfl
    ·exact r0
    ·exact ad.y9 ax
   ·simp only[au aa,au ab]at bY;rcases hi s i off 1 j with e|e<;>rw[e]at bY
    ·exact hw j k bY
    ·cases bY
 ·exact h.elim
def zdp{P:Program}{s:ag}(hw:cq s){t:TypeId}{x y:Prop×ad}:cq (jU P s t x y).2:=by
 unfold jU;split
 ·split
  ·rename_i ap;dsimp only;split
   ·exact xB hw (by rw[ap];rfl) rfl
   ·exact xB (I6 hw _ _ _) (by rw[jq (by rw[ap];rfl),ap];rfl) rfl
  ·rename_i ap;dsimp only;split
   ·exact xB hw (by rw[ap];rfl) rfl
   ·exact xB (I6 hw _ _ _) (by rw[jq (by rw[ap];rfl),ap];rfl) rfl
  ·exact hw
 ·split
  ·rename_i ap;exact xB hw (by rw[ap];rfl) rfl
  ·exact hw
 ·exact hw
def ND{P:Program}{s:ag}(hw:cq s){t t':TypeId}{x y:Prop×ad}:cq (eK P s t t' x y).2.1/\∀j,(eK P s t t' x y).2.2.refs j=false:=by
 unfold eK;split
 ·unfold vu;split
  ·exact⟨fe (v:=.dead) hw (fun j h=>(by cases h)),fun _=>rfl⟩
  ·exact⟨hw,fun _=>rfl⟩
  ·exact⟨hw,fun _=>rfl⟩
 unfold tO;split
 ·split
  ·exact⟨fe (v:=.dead) hw (fun j h=>(by cases h)),fun _=>rfl⟩
  ·exact⟨hw,fun _=>rfl⟩
  ·split<;>exact⟨hw,fun _=>rfl⟩
  ·exact⟨hw,fun _=>rfl⟩
 ·exact⟨hw,fun _=>rfl⟩
def zdq{P:Program}{s:ag}(hw:cq s){t:TypeId}{x:Prop×ad}:cq (zd P s t x).2:=by
 unfold zd;split
 ·split
  ·rename_i ap;exact xB hw (by rw[ap];rfl) rfl
  ·exact hw
 ·exact hw
def zdr{P:Program}{s:ag}(hw:cq s){t:TypeId}{m k x:Prop×ad}:cq (vv P s t m k x).2:=by
 unfold vv;split
 ·split
  ·rename_i ap;split
   ·exact xB hw (by rw[ap];rfl) rfl
   ·exact hw
  ·rename_i ap;split
   ·exact xB hw (by rw[ap];rfl) rfl
   ·exact hw
  ·exact hw
 ·exact hw
def T0{P:Program}{s:ag}(hw:cq s){f:Operand}{args:List Operand}{aQ:List (ad×Option Nat)}{r:bw}{outs:List ad}(bc:sa P s (fW s f args) aQ r outs):cq (e6 s aQ outs):=by obtain⟨ay,fP,p,g,xs,h,aY⟩:=IB bc;obtain⟨al,eF⟩:=nN ay;refine(EW aQ outs s hw fP (by simpa using al) (fun j x i o aa ab=>?_)).wf hw;obtain⟨ap,aw⟩:=TO h aY x i (iq aa);have zv:=eF j x o (by rw[dO,aa];rfl) ab;rw[ap];refine⟨Iw zv,aw,?_⟩;cases x<;>cases o<;>first|rfl|(simp[dR]at zv)
def zds{P:Program}{n:Nat}{s:ag}{op:Op}{dst:Option Tmp}{K:ag->Prop}(hw:cq s)(h:fs P n s op dst K) :
  ∃s',fs P n s op dst (fun t=>t=s')/\K s'/\cq s':=by
 have qP:∀j,ad.refs j .dead=true->(s j).aM=true:=fun j h=>by cases h
 have plain:∀d,(bb P s op).1/\d<n/\K (put s d (bb P s op).2)->∃s',((bb P s op).1/\d<n/\put s d (bb P s op).2=s')/\K s'/\cq s':=
  fun d h=>⟨_,⟨h.1,h.2.1,rfl⟩,h.2.2,fe hw (fun j ac=>qL hw _ ac)⟩
 cases dst with
 |none=>
  cases op<;>try (exact h.elim)
  case store t addr x=>
   simp only[fs]at h⊢;split at h
   ·rename_i e;exact⟨_,⟨h.1,h.2.1,h.2.2.1,rfl⟩,h.2.2.2,zdo hw h.2.2.1⟩
   ·rename_i e;exact⟨_,⟨h.1,h.2.1,rfl⟩,h.2.2,zdp (zu _ hw)⟩
  case mapUpdate t m k x=>simp only[fs]at h⊢;obtain⟨bH,_,bE,has⟩:=Ng h;exact⟨_,has _ ⟨bE.1,rfl⟩,bE.2,zdr hw⟩
  case call c=>
   simp only[fs]at h⊢;split at h
   ·split at h
    ·exact⟨_,⟨h.1,rfl⟩,h.2,zdq hw⟩
    ·exact h.elim
   ·exact h.elim
  case makeMap t r=>cases r<;>exact h.elim
  case assign x=>cases x<;>exact h.elim
  all_goals exact h.elim
 |some d=>
  cases op<;>try (exact plain d h)
  case alloc t=>
   simp only[fs]at h⊢;cases aY:zeroOf P t with
   |none=>rw[aY]at h;exact h.elim
   |some cs=>rw[aY]at h;exact⟨_,⟨h.1,rfl⟩,h.2,fe hw (fun j ac=>by cases ac)⟩
  case makeMap t r=>
   cases r with
   |none=>exact⟨_,⟨h.1,rfl⟩,h.2,fe hw (fun j ac=>by cases ac)⟩
   |some r=>exact plain d h
  case makeSlice t l c=>refine⟨_,⟨h.1,h.2.1,rfl⟩,h.2.2,fe hw (fun j ac=>?_)⟩;rw[zcw]at ac;cases ac
  case convert src dst x=>
   simp only[fs]at h⊢;cases fg:h4 P dst with
   |false=>rw[fg]at h;exact plain d h
   |true=>rw[fg]at h;exact⟨_,⟨h.1,h.2.1,rfl⟩,h.2.2,fe hw (fun j ac=>by rw[TX]at ac;cases ac)⟩
  case box t x=>
   simp only[fs]at h⊢;split at h
   ·rename_i p i off e;refine⟨_,⟨h.1,h.2.1,rfl⟩,h.2.2,fe hw (fun j ac=>?_)⟩;exact si hw x (by rw[e];exact ac)
   split at h
   ·rename_i p i e;obtain⟨e,pI⟩:=Tr e;refine⟨_,⟨h.1,h.2.1,h.2.2.1,h.2.2.2.1,rfl⟩,h.2.2.2.2,?_⟩;have xw:(s i).aM=true:=ad.y9 pI;have ic:cq (put s d (.box [.any])):=fe hw (fun j ac=>by cases ac);have fq:=h.2.2.2.1;have ff:∀j,(put s d (.box [.any]) j).aM=true->j≠b0 d 0:=by
     rintro j ac rfl;have Ni:b0 d 0≠d:=by unfold b0;omega
     rcases ou (s:=s) (v:=.box [.any]) Ni with bE|⟨_,_,bE⟩<;>rw[bE]at ac
     ·rw[wP fq]at ac;cases ac
     ·cases ac
    intro j m gq;unfold Nh at gq⊢;have aw:(put s d (.box [.any]) m).aM=true:=by
     by_cases bY:j=b0 d 0
     ·rw[aC bY]at gq;simp only[ad.refs,eO,fB]at gq;rcases gq with rfl|rfl
      ·rw[jo rfl];rfl
      ·rw[mD h.2.2.1 xw];exact xw
     ·rw[au bY]at gq;exact ic j m gq
    rw[au (ff m aw)];exact aw
   split at h
   ·exact⟨_,⟨h.1,h.2.1,rfl⟩,h.2.2,fe (zu _ hw) (fun j ac=>by cases ac)⟩
   ·exact h.elim
  case build t parts=>refine⟨_,⟨h.1,h.2.1,rfl⟩,h.2.2,fe (zu _ hw) (fun j ac=>?_)⟩;simp only[nG]at ac;split at ac<;>cases ac
  case buildSlice t len parts=>refine⟨_,⟨h.1,h.2.1,rfl⟩,h.2.2,fe (zu _ hw) (fun j ac=>?_)⟩;simp only[jS]at ac;split at ac<;>cases ac
  case assign x=>
   cases x with
   |tmp t=>
    simp only[fs]at h⊢;cases ap:s t with
    |own e size xs=>rw[ap]at h;exact⟨_,⟨h.1,rfl⟩,h.2,fe (fe hw qP) (fun j ac=>by cases ac)⟩
    |mp c bs es=>rw[ap]at h;exact⟨_,⟨h.1,rfl⟩,h.2,fe (fe hw qP) (fun j ac=>by cases ac)⟩
    |view i aK len wh=>
     rw[ap]at h;dsimp only at h⊢;have rJ:∀j,(ad.view i aK len wh).refs j=true->(s j).aM=true:=fun j ac=>hw t j (by rw[ap];exact ac);cases hid:decide (i=d)with
     |false=>rw[hid]at h;exact⟨_,⟨h.1,rfl⟩,h.2,fe hw rJ⟩
     |true=>
      rw[hid]at h;obtain⟨ax,h⟩:=h;dsimp only;unfold zh at h⊢;split at h
      ·split at h
       ·exact⟨_,⟨ax,rfl⟩,h,fe (fe hw qP) (fun j ac=>by cases ac)⟩
       ·exact⟨_,⟨ax,rfl⟩,h,fe (TZ hw _) (fun j ac=>by cases ac)⟩
      ·exact h.elim
    |_=>rw[ap]at h;exact⟨_,⟨h.1,rfl⟩,h.2,fe hw (fun j ac=>Na hw _ ac)⟩
   |_=>exact plain d h
  case call c=>
   simp only[fs]at h⊢;split at h
   ·rename_i f zdt;have ho:(oG s (qD s c.args.toList) fun s=>iA P s (fW s f c.args.toList) (fun xs r outs=>d<n/\K (put (e6 s xs outs) d r.cP)))->∃s',(oG s (qD s c.args.toList) fun s=>iA P s (fW s f c.args.toList) (fun xs r outs=>d<n/\put (e6 s xs outs) d r.cP=s'))/\K s'/\cq s':=by
     intro h;have hw:=zu (qD s c.args.toList) hw;unfold oG at h⊢;generalize dt s (qD s c.args.toList)=s at hw h⊢;obtain⟨cC,r,outs,bc,ax,am⟩:=tJ.1 h;exact⟨_,tJ.2 ⟨cC,r,outs,bc,ax,rfl⟩,am,fe (T0 hw bc) (fun j ac=>by cases r<;>cases ac)⟩
    replace ho:(oI P (vb s f c.args.toList) (fun r=>d<n/\K (put s d r.cP)) (oG s (qD s c.args.toList) fun s=>iA P s (fW s f c.args.toList) (fun xs r outs=>d<n/\K (put (e6 s xs outs) d r.cP))))->∃s',(oI P (vb s f c.args.toList) (fun r=>d<n/\put s d r.cP=s') (oG s (qD s c.args.toList) fun s=>iA P s (fW s f c.args.toList) (fun xs r outs=>d<n/\put (e6 s xs outs) d r.cP=s')))/\K s'/\cq s':=by
     intro h;unfold oI at h⊢;split at h
     ·obtain⟨ak,⟨r,aa,eh,ab,ar⟩|h⟩:=h
      ·exact⟨_,⟨ak,.inl ⟨r,aa,eh,ab,rfl⟩⟩,ar,fe hw (fun j ac=>by cases r<;>cases ac)⟩
      ·obtain⟨s',aa,ab,ar⟩:=ho h;exact⟨s',⟨ak,.inr aa⟩,ab,ar⟩
     ·exact ho h
    unfold ly at h⊢;split at h
    ·obtain⟨ak,⟨r,aa,ab,ar⟩|⟨dS,r,aa,aN,bD,ab,ar⟩|h⟩:=h
     ·have vd:cq (nL s c.args.toList r):=by
       unfold nL;cases r.flat with
       |true=>exact hw
       |false=>exact zu _ hw
      exact⟨_,⟨ak,.inl ⟨r,aa,ab,rfl⟩⟩,ar,fe vd (fun j ac=>by cases r<;>cases ac)⟩
     ·exact⟨_,⟨ak,.inr (.inl ⟨dS,r,aa,aN,bD,ab,rfl⟩)⟩,ar,fe hw (fun j ac=>by cases r<;>cases ac)⟩
     ·obtain⟨s',aa,ab,ar⟩:=ho h;exact⟨s',⟨ak,.inr (.inr aa)⟩,ab,ar⟩
    ·exact ho h
   ·split at h
    ·obtain⟨bH,_,bE,has⟩:=IW h;exact⟨_,has _ ⟨bE.1,bE.2.1,rfl⟩,bE.2.2,fe (ND hw).1 (fun j ac=>by rw[(ND hw).2 j]at ac;cases ac)⟩
    ·exact h.elim
   ·exact plain d h
def zdu{P:Program}{n:Nat}{s:ag}{e:Bool}{op:Op}{dst:Option Tmp}{K:ag->Prop}(hw:cq s)(h:tS P n s e op dst K) :
  ∃s',tS P n s e op dst (fun t=>t=s')/\K s'/\cq s':=by
 cases dst with
 |none=>exact h.elim
 |some d=>
  cases op<;>try (exact⟨_,⟨h.1,h.2.1,h.2.2.1,rfl⟩,h.2.2.2,fe hw (fun j ac=>qL hw _ ac)⟩)
  case buildSlice t len parts=>
   cases e with
   |true=>exact⟨_,⟨h.1,h.2.1,rfl⟩,h.2.2,fe hw (fun j ac=>I5 (P:=P) (op:=.buildSlice t len parts) hw ⟨h.1,rfl⟩ ac)⟩
   |false=>exact⟨_,⟨h.1,rfl⟩,h.2,fe hw (fun j ac=>by cases ac)⟩
  case call c=>
   simp only[tS]at h⊢;split at h
   ·obtain⟨r,aa,ar,aN⟩:=EU h;exact⟨_,aa _ ⟨ar,rfl⟩,aN,fe hw (fun j ac=>by cases r<;>cases ac)⟩
   ·exact⟨_,⟨h.1,h.2.1,h.2.2.1,rfl⟩,h.2.2.2,fe hw (fun j ac=>qL (P:=P) (op:=.call c) hw ac)⟩
def zdv{P:Program}{n:Nat}{s:ag}{e:Bool}{op:Op}{dst:Option Tmp}{K:ag->Prop}(hw:cq s)(h:tT P n s e op dst K) :
  ∃s',tT P n s e op dst (fun t=>t=s')/\K s'/\cq s':=by
 unfold tT at h⊢;split at h
 ·rename_i d c;dsimp only at h⊢;split at h
  ·rename_i f ay;cases e with
   |false=>exact⟨_,⟨h.1,rfl⟩,h.2,fe hw (fun j ac=>by cases ac)⟩
   |true=>dsimp only at h⊢;obtain⟨cC,r,outs,bc,ax,aw,am⟩:=tJ.1 h;exact⟨_,tJ.2 ⟨cC,r,outs,bc,ax,aw,rfl⟩,am,fe (T0 hw bc) (fun j ac=>by cases r<;>cases ac)⟩
  ·exact h.elim
 ·exact h.elim
def Fu{P:Program}{n:Nat}{ops:Array Oper}{o:Oper}{s:ag}{K:ag->Prop}(hw:cq s)(h:ft P n ops o s K) :
  ∃s',ft P n ops o s (fun t=>t=s')/\K s'/\cq s':=by
 unfold ft at h⊢;cases aB:o.guard with
 |none=>rw[aB]at h;exact zds hw h
 |some g=>
  rw[aB]at h;simp only at h⊢;cases he:c1 ops s g with
  |none=>rw[he]at h;exact h.elim
  |some e=>
   rw[he]at h;simp only at h⊢;split at h
   ·exact zdv hw h
   ·exact zdu hw h
def m'(P:Program)(n:Nat)(m:Bool)(ops:Array Oper)(i:Nat)(s s':ag):Prop:=
 ∃o,ops[i]?=some o/\match eX ops o.op with
  |true=>match m&&ib o with
   |true=>gE P n ops o s s'\/sl P n o s s'
   |false=>gE P n ops o s s'/\(m=true->gf s o.op)
  |false=>match kX o with
   |true=>sl P n o s s'
   |false=>ft P n ops o s (fun t=>t=s')
def NF{P:Program}{n:Nat}{m:Bool}{ops:Array Oper}{i:Nat}{s s':ag}(hw:cq s)(h:m' P n m ops i s s'):cq s':=by
 obtain⟨o,_,h⟩:=h;split at h
 ·split at h
  ·exact h.elim (B' hw) (TW hw)
  ·exact B' hw h.1
 ·split at h
  ·exact TW hw h
  ·obtain⟨s1,_,ab,ar⟩:=Fu hw h;rw[<-ab];exact ar
def NG{o:Oper}(h:kX o=true):∃t addr x,o.op=.store t addr x/\o.guard=none:=by
 unfold kX at h;split at h
 ·rename_i t addr x e;exact⟨t,addr,x,e,by simpa using h⟩
 ·cases h
def zdw{o:Oper}(h:ib o=true):∃c f,o.op=.call c/\c.callee=.value f/\o.guard=none:=by
 unfold ib at h;split at h
 ·rename_i c e;split at h
  ·rename_i f ay;exact⟨c,f,e,ay,by simpa using h⟩
  ·cases h
 ·cases h
def T1{P:Program}{n:Nat}{ops:Array Oper}{o:Oper}{s:ag}{K:ag->Prop}(hu:kX o=true)(al:zt s o.op)(h:ft P n ops o s K):∃s',sl P n o s s'/\K s':=by
 obtain⟨t,addr,x,cF,aB⟩:=NG hu;unfold ft at h;rw[aB]at h;rw[cF]at h al;have du:dc s [x]=[]:=al.1;cases ax:o.dst with
 |some d=>rw[ax]at h;exact h.1.elim
 |none=>
  rw[ax]at h;have kh:jv s (aG s addr) (aG s x)=none:=by
   cases fk:jv s (aG s addr) (aG s x)with
   |none=>rfl
   |some y=>obtain⟨i6,bB,off,d⟩:=y;obtain⟨_,_,_,aI,_⟩:=E8 fk;simp[dc,aI,y0]at du
  simp only[fs,kh,du,dt]at h;obtain⟨aa,ab,ar⟩:=h;obtain⟨p,i,v,aF,aP,a7,_⟩:=zdc ab al.2;refine⟨_,⟨[(i,v)],none,⟨aB,?_⟩,fun d r h=>(by cases h),fun _=>ax,rfl⟩,?_⟩
  ·rw[cF];exact⟨ax,rfl,aa,du,p,i,v,aF,aP,rfl⟩
  ·rw[a7]at ar;exact ar
def zdx{P:Program}{n:Nat}{ops:Array Oper}{o:Oper}{s:ag}{K:ag->Prop}(ao:ib o=true)(h:xA P n o s K):∃s',(gE P n ops o s s'\/sl P n o s s')/\K s':=by
 obtain⟨c,f,cF,ay,aB⟩:=zdw ao;unfold xA at h;rw[cF]at h;cases ax:o.dst with
 |none=>rw[ax]at h;exact h.elim
 |some d=>
  rw[ax]at h;simp only[ay]at h;obtain⟨hdn,cp,h⟩:=h;rcases zcC h with⟨r,aa,ab,ar⟩|h
  ·refine⟨_,.inl ⟨d,r.cP,ax,hdn,cp,rfl,?_⟩,ar⟩;rw[aB,cF];simp only[fY,ay];exact⟨r,aa,ab,rfl⟩
  ·obtain⟨aQ,r,outs,cY,tW,xd,am⟩:=tJ.1 h;have fP:=(IB cY).2.1
   ·refine⟨_,.inr ⟨dC aQ outs,some (d,r.cP),⟨aB,?_⟩,fun bt ca bE=>?_,fun bE=>(by cases bE),rfl⟩,?_⟩
    ·rw[cF];simp only[ay];exact⟨d,aQ,r,outs,ax,hdn,cY,tW,xd,rfl,rfl⟩
    ·simp only[bS,cc]at bE;obtain⟨rfl,rfl⟩:=bE;exact⟨ax,cp,xd,fun j=>by cases r<;>rfl⟩
    ·show K (put (e0 s (dC aQ outs)) d r.cP);rw[<-I4 aQ outs s tW fP];exact am
def T2{P:Program}{n:Nat}{m:Bool}{ops:Array Oper}{K:ag->Prop}:∀(l:List Oper) (k:Nat) (s:ag),cq s->(∀j,l[j]?=ops[k+j]?)->gU P n m ops l s K ->
  ∃s',chain (m' P n m ops) (List.range' k l.length) s s'/\K s'
 |[],_,s,_,_,h=>⟨s,rfl,h⟩
 |o::l,k,s,hw,al,h=>by
  have aW:ops[k]?=some o:=by simpa using (al 0).symm
  have l4:∀j,l[j]?=ops[(k+1)+j]?:=fun j=>by have:=al (j+1);simpa[rG,Ca 1 j]using this
  simp only[gU]at h;have:∃s1,m' P n m ops k s s1/\gU P n m ops l s1 K:=by
   split at h
   ·rename_i ao;split at h
    ·rename_i hm;obtain⟨s1,aa,ab⟩:=zdx (ops:=ops) (by simp only[b4]at hm;exact hm.2) h;exact⟨s1,⟨o,aW,by rw[ao];simp only[hm];exact aa⟩,ab⟩
    ·rename_i hm;obtain⟨s1,aa,ab⟩:=B_ h.2;exact⟨s1,⟨o,aW,by rw[ao];simp only[hm];exact⟨aa,h.1⟩⟩,ab⟩
   ·rename_i ao;split at h
    ·rename_i hu;obtain⟨s1,aa,ab⟩:=T1 hu h.1 h.2;exact⟨s1,⟨o,aW,by rw[ao];simp only[hu];exact aa⟩,ab⟩
    ·rename_i hu;obtain⟨s1,aa,ab,_⟩:=Fu hw h;exact⟨s1,⟨o,aW,by rw[ao];simp only[hu];exact aa⟩,ab⟩
  obtain⟨s1,aa,ab⟩:=this;obtain⟨s',ar,aN⟩:=T2 l (k+1) s1 (NF hw aa) l4 ab;exact⟨s',⟨s1,aa,ar⟩,aN⟩
def vE(m:Bool)(ops:Array Oper)(bz bh:Oper):Bool:=
 (eX ops bz.op&&eX ops bh.op&&!(m&&ib bz&&ib bh)) ||(kX bz&&!eX ops bz.op&&(m ||mZ bh.op)&&eX ops bh.op&&!ib bh) ||(kX bh&&!eX ops bh.op&&(m ||mZ bz.op)&&eX ops bz.op&&!ib bz)
def NH(m:Bool)(ops:Array Oper)(b:Array Nat)(i j:Nat):Bool:=
 (b.getD i 0).testBit j ||
 match ops[i]?,ops[j]? with
 |some bz,some bh=>vE m ops bz bh&&bh.apart ops bz
 |_,_=>false
def Fv(o:Oper):Bool:=match o.dst with
 |some d=>decide (d<bF)
 |none=>true
def I7{o:Oper}(h:Fv o=true):∀d,o.dst=some d->d<bF:=by intro d ax;unfold Fv at h;rw[ax]at h;exact wV h
def xC(m:Bool)(ops:Array Oper):Bool:=
 let b:=Region.before ops
 ops.toList.all Fv&&(List.range ops.size).all fun i=>
  (match ops[i]? with
   |some o=>o.after.toList.all fun e=>!Region.binds .any e ||decide (e.on<i)
   |none=>false) &&
  (List.range i).all fun j=>NH m ops b i j
def vF(ops:Array Oper):Bool:=ops.toList.any fun o=>match o.op with
 |.call c=>match c.callee with
  |.value (.tmp _)=>ib o
  |_=>false
 |.store _ _ _=>kX o
 |_=>false
def T3{m:Bool}{s:ag}{op:Op}(h:m=true->gf s op)(al:(m ||mZ op)=true):gf s op:=by
 cases m with
 |true=>exact h rfl
 |false=>exact TV (by simpa using al)
def T4{P:Program}{n:Nat}{m:Bool}{ops:Array Oper}{i j:Nat}{bz bh:Oper}{s s1 s2:ag}(vG:∀d,bz.dst=some d->d<bF)(nS:∀d,bh.dst=some d->d<bF)(ai:ops[i]?=some bz)(ac:ops[j]?=some bh)(iD:vE m ops bz bh=true)(jb:bh.apart ops bz=true)(hw:cq s)
  (aa:m' P n m ops j s s1)(ab:m' P n m ops i s1 s2):∃b7,m' P n m ops i s b7/\m' P n m ops j b7 s2:=by
 obtain⟨gz,gw,aa⟩:=aa;rw[ac]at gw;injection gw with gw;subst gw
 obtain⟨e4,gS,ab⟩:=ab;rw[ai]at gS;injection gS with gS;subst gS
 obtain⟨de,a2,a3⟩:=Oper.apart_spec jb;have jy:∀d,bz.dst=some d->bh.dst≠some d:=fun d h bE=>a2 d bE h;unfold vE at iD;rw[eO,eO]at iD;rcases iD with (iD|iD)|iD
 ·simp only[b4,vf]at iD;obtain⟨⟨ci,jW⟩,mb⟩:=iD;rw[jW]at aa;rw[ci]at ab;cases gC:m&&ib bz with
  |false=>
   rw[gC]at ab;obtain⟨ab,l2⟩:=ab;cases gB:m&&ib bh with
   |false=>
    rw[gB]at aa;obtain⟨aa,ec⟩:=aa;obtain⟨b7,aF,aP⟩:=Ns nS vG jb hw aa ab;have mX:∀{t t':ag} {o cv:Oper} {x:Operand},cq t->gE P n ops o t t'->(∀d,o.dst=some d->d<bF)->(∀d,o.dst=some d->d∉cv.looksAt ops)->x∈cv.op.operands->mY t t' x:=by
     rintro t t' o cv x tY ⟨d,r,ax,hdn,cp,rfl,_⟩ rY bj aj;have:=ma (r:=r) tY cp (kW cv d (bj d ax) x aj);cases x with
     |tmp u=>exact⟨.inl this.1,fun b ae=>.inl (this.2 b ae)⟩
     |_=>trivial
    refine⟨b7,⟨bz,ai,?_⟩,⟨bh,ac,?_⟩⟩
    ·rw[ci,gC];exact⟨aF,fun hm=>B9 (l2 hm) (fun x aj=>(mX hw aa nS de aj).symm)⟩
    ·rw[jW,gB];exact⟨aP,fun hm=>B9 (ec hm) (fun x aj=>mX hw aF vG a3 aj)⟩
   |true=>
    have hm:m=true:=by rw[b4]at gB;exact gB.1
    rw[gB]at aa;rcases aa with aa|aa
    ·obtain⟨b7,aF,aP⟩:=Ns nS vG jb hw aa ab;have NE:gf s bz.op:=by
      obtain⟨d,r,ax,hdn,cp,rfl,_⟩:=aa;refine B9 (l2 hm) (fun x aj=>?_);have:=ma (r:=r) hw cp (kW bz d (de d ax) x aj);refine mY.symm ?_;cases x with
      |tmp u=>exact⟨.inl this.1,fun b ae=>.inl (this.2 b ae)⟩
      |_=>trivial
     exact⟨b7,⟨bz,ai,by rw[ci,gC];exact⟨aF,fun _=>NE⟩⟩,⟨bh,ac,by rw[jW,gB];exact .inl aP⟩⟩
    ·obtain⟨b7,aF,aP,a7⟩:=TS (ol:=bz) (ow:=bh) a3 de jy hw aa ab (l2 hm);exact⟨b7,⟨bz,ai,by rw[ci,gC];exact⟨aF,fun _=>aP⟩⟩,⟨bh,ac,by rw[jW,gB];exact .inr a7⟩⟩
  |true=>
   have hm:m=true:=by rw[b4]at gC;exact gC.1
   have gB:(m&&ib bh)=false:=by rw[gC,kL]at mb;rw[mb,vH]
   rw[gC]at ab;rw[gB]at aa;obtain⟨aa,ec⟩:=aa;rcases ab with ab|ab
   ·obtain⟨b7,aF,aP⟩:=Ns nS vG jb hw aa ab;have NE:gf b7 bh.op:=by
     obtain⟨d,r,ax,hdn,cp,rfl,_⟩:=aF;refine B9 (ec hm) (fun x aj=>?_);have:=ma (r:=r) hw cp (kW bh d (a3 d ax) x aj);cases x with
     |tmp u=>exact⟨.inl this.1,fun b ae=>.inl (this.2 b ae)⟩
     |_=>trivial
    exact⟨b7,⟨bz,ai,by rw[ci,gC];exact .inl aF⟩,⟨bh,ac,by rw[jW,gB];exact⟨aP,fun _=>NE⟩⟩⟩
   ·obtain⟨b7,aF,aP,a7⟩:=TP (ol:=bh) (ow:=bz) de a3 a2 hw aa (ec hm) ab;exact⟨b7,⟨bz,ai,by rw[ci,gC];exact .inr aF⟩,⟨bh,ac,by rw[jW,gB];exact⟨aP,fun _=>a7⟩⟩⟩
 ·simp only[b4,vf]at iD;obtain⟨⟨⟨⟨pJ,ci⟩,NI⟩,jW⟩,pK⟩:=iD;rw[jW]at aa;rw[ci]at ab;simp only[pJ]at ab;have gB:(m&&ib bh)=false:=by rw[pK,vH]
  simp only[gB]at aa;obtain⟨b7,aF,aP,a7⟩:=TP (ol:=bh) (ow:=bz) de a3 a2 hw aa.1 (T3 aa.2 NI) ab;exact⟨b7,⟨bz,ai,by rw[ci];simp only[pJ];exact aF⟩,⟨bh,ac,by rw[jW];simp only[gB];exact⟨aP,fun _=>a7⟩⟩⟩
 ·simp only[b4,vf]at iD;obtain⟨⟨⟨⟨pL,jW⟩,li⟩,ci⟩,pK⟩:=iD;rw[jW]at aa;rw[ci]at ab;simp only[pL]at aa;have gC:(m&&ib bz)=false:=by rw[pK,vH]
  simp only[gC]at ab;obtain⟨b7,aF,aP,a7⟩:=TS (ol:=bz) (ow:=bh) a3 de jy hw aa ab.1 (T3 ab.2 li);exact⟨b7,⟨bz,ai,by rw[ci];simp only[gC];exact⟨aF,fun _=>aP⟩⟩,⟨bh,ac,by rw[jW];simp only[pL];exact a7⟩⟩
def T5(ops:Array Oper)(acc:Array Nat)(k:Nat)(wZ:∀i j,(acc.getD i 0).testBit j=true->sj ops i j){o:Oper}(aw:ops[k]?=some o) :
  ∀(l:List Edge) (s:Nat),(∀e∈l,e∈o.after)->(∀j,s.testBit j=true->sj ops k j) ->
   ∀j,(l.foldl (fun s e=>if Region.binds .any e then s |||2^e.on |||acc.getD e.on 0 else s) s).testBit j=true->sj ops k j
 |[],s,_,ap,j,h=>ap j h
 |e::l,s,al,ap,j,h=>by
  refine T5 ops acc k wZ aw l _ (fun x aj=>al x (by simp[aj])) (fun j ac=>?_) j h;dsimp only at ac;split at ac
  ·rename_i ae;rw[Nat.testBit_or,Nat.testBit_or,eO,eO]at ac;rcases ac with (ac|ac)|ac
   ·exact ap j ac
   ·rw[Nat.testBit_two_pow]at ac;obtain rfl:=wV ac;exact .Tu aw (al e (by simp)) ae
   ·exact .wS aw (al e (by simp)) ae (wZ _ _ ac)
  ·exact ap j ac
def zdy(acc:Array Nat)(v i:Nat):(acc.push v).getD i 0=if i=acc.size then v else acc.getD i 0:=by simp only[lg,Array.getElem?_push];split<;>simp
def I8(ops:Array Oper)(i j:Nat)(h:((Region.before ops).getD i 0).testBit j=true):sj ops i j:=by
 have key:∀(l:List Oper) (acc:Array Nat),(∀m,l[m]?=ops[acc.size+m]?)->(∀i j,(acc.getD i 0).testBit j=true->sj ops i j) ->
   ∀i j,((l.foldl (fun acc o=>acc.push (o.after.foldl (fun s e=>if Region.binds .any e then s |||2^e.on |||acc.getD e.on 0 else s) 0)) acc).getD i 0).testBit j=true->sj ops i j:=by
  intro l;induction l with
  |nil=>intro acc _ wZ i j h;exact wZ i j h
  |cons o l aX=>
   intro acc al wZ i j h;have aW:ops[acc.size]?=some o:=by simpa using (al 0).symm
   refine aX _ (fun m=>by have:=al (m+1);simpa[rG,Ca 1 m]using this) (fun i j ct=>?_) i j h;rw[zdy]at ct;split at ct
   ·rename_i ai;subst ai;rw[<-Ip]at ct;exact T5 ops acc acc.size wZ aW o.after.toList 0 (fun e he=>by simpa using he) (fun j ac=>by simp at ac) j ct
   ·exact wZ i j ct
 unfold Region.before at h;rw[<-Ip]at h;exact key ops.toList #[] (fun m=>by simp) (fun i j ct=>by simp at ct) i j h
end Go.Ab
