/- Lemmas. -/
import Derived.Test.YtmlnbemjmlogiaaGreatDoorAbJ2b
import Derived.Still
import Derived.Deep.LoopGhost
set_option linter.all false
namespace Go.Ab
open Go Go.RowKit
section
variable [bn]
def KO:ag->Prop
 |.nil=>True
 |.list _ xs=>xs=[]
 |_=>False
attribute[simp]KO.eq_2
def q4(sf:ag):ag->Prop
 |.nil=>KO sf
 |c=>sf=c
section
variable (sf:ag)
variable(eC:Bool)
@[simp]def zsK:q4 sf (.bool eC)=(sf=.bool eC):=(rfl)
variable(eb:IntKind)(fC:Int)
@[simp]def zsL:q4 sf (.int eb fC)=(sf=.int eb fC):=(rfl)
variable(iX:aq)
@[simp]def zsM:q4 sf (.str iX)=(sf=.str iX):=(rfl)
variable(bg:Nat)(gE:List (List ag))
@[simp]def zsN:q4 sf (.list bg gE)=(sf=.list bg gE):=(rfl)
variable(ph:aI)
@[simp]def zsO:q4 sf (.atom ph)=(sf=.atom ph):=(rfl)
attribute[simp]q4.eq_1
end
@[simp]def zfR(c:ag):q4 c c=True:=by cases c<;>simp[q4,KO]
def Bq:List ag->List ag->Prop
 |[],[]=>True
 |a::r,b::s=>q4 a b/\Bq r s
 |_,_=>False
attribute[simp]Bq.eq_2
@[simp]def V5:∀l:List ag,Bq l l=True
 |[]=>rfl
 |c::r=>by rw[Bq.eq_2,zfR,V5 r];simp
def zfS{a b:List ag}(h:a=b):Bq a b:=by subst h;rw[V5];trivial
def V6:∀{a b:List ag},Bq a b->a.length=b.length/\∀(j:Nat) (x:ag),a[j]?=some x->∃y,b[j]?=some y/\q4 x y
 |[],[],_=>⟨rfl,fun j x h=>by simp at h⟩
 |a::r,b::s,h=>by
  obtain⟨aa,ab⟩:=V6 h.2;refine⟨by simp[aa],fun j x ac=>?_⟩;cases j with
  |zero=>simp at ac;subst ac;exact⟨b,rfl,h.1⟩
  |succ j=>simp at ac;exact ab j x ac
def Br:aG->aG->Prop
 |.one a,.one b=>q4 a b
 |.agg a,.agg b=>Bq a b
 |_,_=>False
attribute[simp]Br.eq_1 Br.eq_2
def Hp:List aG->List aG->Prop
 |[],[]=>True
 |a::r,b::s=>Br a b/\Hp r s
 |_,_=>False
attribute[simp]Hp.eq_1 Hp.eq_2
def xM:bH->bH->Prop
 |.x a,.x b=>Br a b
 |.b2 a,.b2 b=>Hp a b
 |_,_=>False
attribute[simp]xM.eq_1 xM.eq_2
def V7{w:bb}{S:Nat->Prop}{a b:ag}{v:aI}(h:q4 a b)(ao:bD w S b v):bD w S a v:=by
 cases b<;>simp only[q4]at h<;>try (subst h;exact ao)
 cases a<;>simp only[KO]at h
 ·exact ao
 ·subst h;cases ao;exact .mF none 0 _ (by decide) (fun _=>rfl)
def V8{w:bb}{S:Nat->Prop}{a b:aG}{v:aI}(h:Br a b)(ao:cz w S b v):cz w S a v:=by
 cases a<;>cases b<;>simp only[Br]at h
 ·exact V7 (b:=_) h ao
 ·obtain⟨us,aF,al,ai⟩:=ao;obtain⟨aa,ab⟩:=V6 h;refine⟨us,aF,by rw[al,aa],fun j c ac=>?_⟩;obtain⟨y,aU,aD⟩:=ab j c ac;obtain⟨u,hu,b8⟩:=ai j y aU;exact⟨u,hu,V7 aD b8⟩
def V9:∀{a b:List aG},Hp a b->a.length=b.length/\∀(j:Nat) (x:aG),a[j]?=some x->∃y,b[j]?=some y/\Br x y
 |[],[],_=>⟨rfl,fun j x h=>by simp at h⟩
 |a::r,b::s,h=>by
  obtain⟨aa,ab⟩:=V9 h.2;refine⟨by simp[aa],fun j x ac=>?_⟩;cases j with
  |zero=>simp at ac;subst ac;exact⟨b,rfl,h.1⟩
  |succ j=>simp at ac;exact ab j x ac
def zfT{w:bb}{S:Nat->Prop}{a b:bH}{v:aI}(h:xM a b)(ao:iT w S b v):iT w S a v:=by
 cases a<;>cases b<;>simp only[xM]at h
 ·exact V8 h ao
 ·obtain⟨us,aF,al,ai⟩:=ao;obtain⟨aa,ab⟩:=V9 h;refine⟨us,aF,by rw[al,aa],fun j x ac=>?_⟩;obtain⟨y,aU,aD⟩:=ab j x ac;obtain⟨u,hu,ao⟩:=ai j y aU;exact⟨u,hu,V8 aD ao⟩
end
section
variable [bn]
def bu(P:aM)(s:aj)(op:Op):Prop×ae:=
 match op with
 |.build t parts=>p2 P (aJ s) t parts.toList
 |op=>eA P s op
def c5(s:aj):Prop:=∀i j,(s i).refs j=true->(s j).aR=true
def Pj{s:aj}(h:c5 s)(x:aW){j:Nat}(ao:(look s x).refs j=true):(s j).aR=true:=by
 cases x with
 |tmp t=>
  simp only[look]at ao;split at ao
  ·rename_i cs hs;obtain rfl:t=j:=by simpa[ae.refs]using ao
   rw[hs];rfl
  ·rename_i e size xs hs;obtain rfl:t=j:=by simpa[ae.refs]using ao
   rw[hs];rfl
  ·rename_i c bs es hs;obtain rfl:t=j:=by simpa[ae.refs]using ao
   rw[hs];rfl
  ·cases ao
  ·cases ao
  ·cases ao
  ·exact h t j ao
 |const v=>
  simp only[look,vL]at ao;split at ao
  ·split at ao<;>cases ao
  ·cases ao
  ·split at ao<;>cases ao
 |_=>cases ao
def uT{s:aj}(h:c5 s)(x:aW){j:Nat}(ao:(aJ s x).2.refs j=true):(s j).aR=true:=by refine Pj h x ?_;exact N7 ao
def V_{k:cf}{p:Prop}{cs:List ag}{j:Nat}:(Dp k p cs).2.refs j=false:=by
 cases k with
 |one=>cases cs<;>rfl
 |_=>rfl
def zfU{P:aM}{s:aj}{t:aP}{x:Prop×ae}{aO ah mx:Option aW}{j:Nat}(ai:∀j,x.2.refs j=true->(s j).aR=true)(ao:(ky P s t x aO ah mx).2.refs j=true):(s j).aR=true:=by
 unfold ky at ao;split at ao
 ·split at ao<;>cases ao
 ·split at ao<;>cases ao
 ·split at ao<;>cases ao
 ·split at ao
  ·split at ao
   ·exact ai j ao
   ·cases ao
  ·cases ao
 ·split at ao
  ·exact ai j ao
  ·cases ao
 ·cases ao
def KP{j:Nat}:∀{l:List (Prop×ae)} {p:Prop} {cs:List (ag⊕(Nat×Nat))},lC l=(p,some cs)->cs.any (l5 j)=true->∃x∈l,x.2.refs j=true
 |[],p,cs,h,ao=>by simp only[lC,cA,b9]at h;obtain⟨_,rfl⟩:=h;cases ao
 |(q,v)::l,p,cs,h,ao=>by
  unfold lC at h;split at h
  ·rename_i e;cases e
  ·rename_i e;injection e with ax aK
   subst aK;split at h
   ·rename_i dt cs' cd;simp only[cA,b9]at h;obtain⟨_,rfl⟩:=h;simp only[Bs,l5,zm]at ao;obtain⟨x,aa,ab⟩:=KP cd ao;exact⟨x,oc _ aa,ab⟩
   ·simp at h
  ·rename_i eI i off r e;injection e with ax aK
   injection ax with ax fI;subst fI;subst aK
   split at h
   ·rename_i dt cs' cd;simp only[cA,b9]at h;obtain⟨_,rfl⟩:=h;simp only[Bs,gl]at ao;rcases ao with ao|ao
    ·exact⟨_,kH,ao⟩
    ·obtain⟨x,aa,ab⟩:=KP cd ao;exact⟨x,oc _ aa,ab⟩
   ·simp at h
  ·rename_i eI i off r e;injection e with ax aK
   injection ax with ax fI;subst fI;subst aK
   split at h
   ·rename_i dt cs' cd;simp only[cA,b9]at h;obtain⟨_,rfl⟩:=h;simp only[Bs,gl]at ao;rcases ao with ao|ao
    ·exact⟨_,kH,ao⟩
    ·obtain⟨x,aa,ab⟩:=KP cd ao;exact⟨x,oc _ aa,ab⟩
   ·simp at h
  ·simp at h
def tI{P:aM}{s:aj}(h:c5 s)(op:Op){j:Nat}(ao:(bu P s op).2.refs j=true):(s j).aR=true:=by
 cases op with
 |move x=>exact uT h x ao
 |assign x=>exact Pj h x ao
 |pick c x y=>exfalso;simp only[bu,eA,Dn]at ao;split at ao<;>cases ao
 |load t x=>
  simp only[bu,eA]at ao;have mT:=uT h x (j:=j);unfold pL at ao;split at ao
  ·rename_i p i off e;rw[e]at mT;split at ao
   ·exact mT ao
   ·cases ao
  rcases Gy s (aJ s x).2 (k2 (tk P t) (eH P t) (aJ s x).1 (mem s (aJ s x).2))with e|⟨p,i,off,d,_,_,cd,fI⟩
  ·rw[e]at ao;exfalso;simp only[k2]at ao;split at ao
   ·unfold xl at ao;split at ao
    ·split at ao<;>cases ao
    ·rw[V_]at ao;cases ao
   ·cases ao
  ·rw[fI]at ao;obtain rfl:d=j:=by simpa[ae.refs]using ao
   exact h (ch i off) d (by rw[cd];simp[ae.refs])
 |nilCheck x=>
  simp only[bu,eA]at ao;split at ao
  ·exact uT h x ao
  ·cases ao
 |binOp op t x y Ox=>
  exfalso;simp only[bu,eA,td]at ao;cases aU:Gx y with
  |true=>rw[aU,cond_true]at ao;rcases zcZ P op t (aJ s x)with e|⟨br,e⟩<;>(rw[e]at ao;cases ao)
  |false=>
  rw[aU,cond_false]at ao;simp only[hL]at ao;split at ao
  ·split at ao<;>cases ao
  ·unfold Gt at ao;split at ao<;>cases ao
  ·cases ao
  ·split at ao
   ·split at ao<;>cases ao
   ·cases ao
  ·cases ao
 |unOp op t x=>exfalso;simp only[bu,eA,Ds]at ao;split at ao<;>cases ao
 |convert src dst x=>
  exfalso;simp only[bu,eA,o4]at ao;split at ao
  ·split at ao<;>cases ao
  ·cases ao
  ·split at ao<;>cases ao
 |slice t x aO ah mx=>exact zfU (fun j ac=>uT h x ac) ao
 |fieldAddr t x f=>
  simp only[bu,eA,ux]at ao;split at ao
  ·rename_i i off _ e;exact uT h x (by rw[e];exact ao)
  ·rename_i i k off _ e;exact uT h x (by rw[e];exact ao)
  ·cases ao
  ·cases ao
 |field t x f=>
  exfalso;simp only[bu,eA,y4]at ao;split at ao
  ·rw[V_]at ao;cases ao
  ·cases ao
 |indexAddr t x i=>
  simp only[bu,eA,l']at ao;split at ao
  ·cases ao
  ·split at ao
   ·rename_i hs;obtain rfl:=(fc.1 ao)
    rw[hs];rfl
   ·cases ao
  ·rename_i mb aO len wh q k m _ ax aK;exact uT h x (by rw[ax];exact ao)
  ·unfold AU at ao;split at ao
   ·rename_i ax _;exact uT h x (by rw[ax];exact ao)
   ·cases ao
   ·cases ao
 |index t x i=>exfalso;simp only[bu,eA,Dq]at ao;split at ao<;>cases ao
 |makeFunc fn first jd=>
  simp only[bu,eA,xm]at ao;split at ao
  ·split at ao
   ·cases ao
   ·split at ao
    ·rename_i e;obtain⟨x,ai,Bt⟩:=KP e ao;obtain⟨y,_,rfl⟩:=hx.1 ai;exact uT h y Bt
    ·cases ao
  ·cases ao
 |lookup t x k ok=>
  exfalso;simp only[bu,eA,uy]at ao;split at ao
  ·split at ao
   ·split at ao
    ·unfold vP at ao;split at ao<;>split at ao<;>cases ao
    ·cases ao
   ·cases ao
  ·split at ao
   ·unfold vP at ao;split at ao<;>split at ao<;>cases ao
   ·cases ao
  ·cases ao
 |extract x i=>
  exfalso;simp only[bu,eA,y5]at ao;split at ao
  ·split at ao<;>cases ao
  ·cases ao
 |call c=>
  exfalso;simp only[bu,eA,uz,n9,Gv,Dr,Gu]at ao;split at ao
  ·split at ao
   ·split at ao
    ·cases ao
    ·cases ao
    ·cases ao
    ·cases ao
    ·split at ao<;>cases ao
    ·cases ao
    ·cases ao
   ·cases ao
  ·split at ao
   ·split at ao<;>cases ao
   ·cases ao
  ·split at ao
   ·split at ao<;>cases ao
   ·cases ao
  ·split at ao
   ·split at ao<;>cases ao
   ·cases ao
  ·cases ao
 |build t parts=>exfalso;simp only[bu,p2]at ao;split at ao<;>cases ao
 |_=>cases ao
section
variable {P:aM}{S0:Env}{w0 w:bb}{n:Nat}{s:aj}{a:Act}
def Pk(af:Rel S0 w0 n s a w)(o:Oper)(am:(bu P s o.op).1) :
  ∃v,(execOp a.eval o).run P w=.ok (.value v) w/\mI S0 w0 s a w (bu P s o.op).2 v/\(bu P s o.op).2.aR=false:=by
 obtain⟨dst,op,type,pos,after,guard⟩:=o;cases op with
 |build t parts=>obtain⟨v,aa,ab,au⟩:=Vg (P:=P) (f:=Ab.aJ s) (s:=s) (a:=a) (w:=w) (w0:=w0) (S0:=S0) (fun x _=>af.aJ x.2) am;exact⟨v,o9 aa,ab,au⟩
 |_=>exact zee af _ am
def nC(P:aM)(c:Prop×Option (FuncId×List aG))(k:bH->Prop)(m:Prop)(N:List aG->List aG->bH->Prop:=fun _ _ _=>False):Prop:=
 match c with
 |(p,some (g,xs))=>p/\((∃r,az P g xs r/\k r)\/(∃ea r,az P g ea r/\N xs ea r)\/m)
 |_=>m
def KQ(n:Nat)(s:aj)(c c':ag):Prop:=c=c'\/∃v g e z xs,c=.atom v/\n<=g/\s g=.db v e z xs/\c'=.list z xs
def Pl(n:Nat)(s:aj):List ag->List ag->Prop
 |[],[]=>True
 |c::r,c'::cD=>KQ n s c c'/\Pl n s r cD
 |_,_=>False
def Pm(n:Nat)(s:aj):aG->aG->Prop
 |.one c,.one c'=>KQ n s c c'
 |.agg cs,.agg cs'=>Pl n s cs cs'
 |_,_=>False
def xN(n:Nat)(s:aj):List aG->List aG->Prop
 |[],[]=>True
 |x::r,y::cD=>Pm n s x y/\xN n s r cD
 |_,_=>False
def V'{n:Nat}{s:aj}:∀{a b:List ag},Pl n s a b->a.length=b.length/\∀(j:Nat) (y:ag),b[j]?=some y->∃x,a[j]?=some x/\KQ n s x y
 |[],[],_=>⟨rfl,fun j x h=>by simp at h⟩
 |a::r,b::cD,h=>by
  obtain⟨aa,ab⟩:=V' h.2;refine⟨by simp[aa],fun j x ac=>?_⟩;cases j with
  |zero=>simp at ac;subst ac;exact⟨a,rfl,h.1⟩
  |succ j=>simp at ac;exact ab j x ac
def Wa{n:Nat}{s:aj}:∀{a b:List aG},xN n s a b->a.length=b.length/\∀(j:Nat) (y:aG),b[j]?=some y->∃x,a[j]?=some x/\Pm n s x y
 |[],[],_=>⟨rfl,fun j x h=>by simp at h⟩
 |a::r,b::cD,h=>by
  obtain⟨aa,ab⟩:=Wa h.2;refine⟨by simp[aa],fun j x ac=>?_⟩;cases j with
  |zero=>simp at ac;subst ac;exact⟨a,rfl,h.1⟩
  |succ j=>simp at ac;exact ab j x ac
def Wb{S0:Env}{w0 w:bb}{n m:Nat}{s:aj}{a:Act}{c c':ag}{v:aI}(af:Rel S0 w0 n s a w)(h:KQ m s c c')(ao:bD w (tq S0 w0.heap.size w) c v):bD w (tq S0 w0.heap.size w) c' v:=by
 rcases h with rfl|⟨cW,g,e,z,xs,rfl,_,ay,rfl⟩
 ·exact ao
 ·have ev:v=cW:=by cases ao;rfl
  subst ev;have h:=af.rep g;rw[ay]at h;obtain⟨us,aB,al,ai,hm,bk⟩:=h;exact A4 aB (al.mono (fun b ad=>⟨ad.1,ad.2.1⟩) (fun _ _=>rfl)) ai hm (fun b ad=>⟨.inr (bk b ad),(aB.lt b ad).2⟩)
def zfV{S0:Env}{w0 w:bb}{n m:Nat}{s:aj}{a:Act}{x y:aG}{v:aI}(af:Rel S0 w0 n s a w)(h:Pm m s x y)(ao:cz w (tq S0 w0.heap.size w) x v):cz w (tq S0 w0.heap.size w) y v:=by
 cases x with
 |one c=>
  cases y with
  |one c'=>exact Wb (c:=c) (c':=c') af h ao
  |agg cs=>exact h.elim
 |agg cs=>
  cases y with
  |one c'=>exact h.elim
  |agg cs'=>obtain⟨us,aF,al,ai⟩:=ao;obtain⟨aa,ab⟩:=V' h;refine⟨us,aF,by rw[al,aa],fun j c' ac=>?_⟩;obtain⟨c,ap,aX⟩:=ab j c' ac;obtain⟨u,hu,b8⟩:=ai j c ap;exact⟨u,hu,Wb af aX b8⟩
def zfW{P:aM}{s:aj}{f:aW}{args:List aW}{k:bH->Prop}{m:Prop}(h:nC P (callee s f args) k m):(∃r,p5 P s f args r/\k r)\/m:=by
 unfold nC at h;unfold p5;split at h
 ·rename_i e;obtain⟨am,⟨r,ap,ak⟩|⟨_,_,_,aw⟩|hm⟩:=h
  ·exact .inl ⟨r,by rw[e];exact⟨am,ap⟩,ak⟩
  ·exact aw.elim
  ·exact .inr hm
 ·exact .inr h
def KR(P:aM)(n:Nat)(s:aj)(f:aW)(args:List aW)(r:bH):Prop:=
 match callee s f args with
 |(p,some (g,xs))=>p/\∃ea,az P g ea r/\xN n s xs ea/\r.flat=true
 |_=>False
def zfX{P:aM}{n:Nat}{s:aj}{f:aW}{args:List aW}{k Hq:bH->Prop}{m:Prop}(h:nC P (callee s f args) k m (fun xs ea r=>xN n s xs ea/\r.flat=true/\Hq r)):(∃r,p5 P s f args r/\k r)\/(∃r,KR P n s f args r/\Hq r)\/m:=by
 unfold nC at h;unfold p5 KR;split at h
 ·rename_i e;obtain⟨am,⟨r,ap,ak⟩|⟨ea,r,ap,aX,aw,ak⟩|hm⟩:=h
  ·exact .inl ⟨r,by rw[e];exact⟨am,ap⟩,ak⟩
  ·exact .inr (.inl ⟨r,⟨am,ea,ap,aX,aw⟩,ak⟩)
  ·exact .inr (.inr hm)
 ·exact .inr (.inr h)
def zfY{P:aM}{S0:Env}{w0 w:bb}{n m:Nat}{s:aj}{a:Act}(af:Rel S0 w0 n s a w){f:aW}{args:Array aW}{r:bH}(ap:KR P m s f args.toList r)
  {o:Oper}(aB:∃ts,o.op=.call {callee:=.value f,args:=args,argTypes:=ts}){d:Nat}(aA:S0.m<=d/\d<n)(eS:o.dst=some d){K:Act->bb->Prop}{Q:Exit->Act->bb->Prop}
  (ct:∀a' w',Rel S0 w0 n (Ab.put s d r.dj) a' w'->K a' w'):o.wp P a w K Q:=by
 obtain⟨ts,c4⟩:=aB;unfold KR at ap;split at ap
 ·rename_i pp g r5 cC;obtain⟨r6,ea,⟨⟨fn,ix,fJ,r7⟩,pb⟩,Wc,fH⟩:=ap;obtain⟨caps,xs,p,q,gd,hV,aK,ax,rfl,rfl⟩:∃caps xs p q gd,aJ s f=(p,gd)/\mO s args.toList=(q,some xs)/\jX gd=some (g,caps)/\pp=(p/\q)/\r5=xs++caps:=by
   unfold callee at cC;split at cC
   ·rename_i p gd q xs hV aK;split at cC
    ·rename_i bX caps ax;simp only[cA,b9]at cC;obtain⟨rfl,rfl,rfl⟩:=cC;exact⟨caps,xs,p,q,gd,hV,aK,ax,rfl,rfl⟩
    ·simp at cC
   ·simp at cC
  obtain⟨p7,am⟩:=r6;have oe:=af.aJ f (by rw[hV];exact p7);rw[hV]at oe;obtain⟨us,mP,hA⟩:=DP oe ax;have hm:args.map a.eval=(args.toList.map a.eval).toArray:=by apply rQ;simp
  have cP:(execOp a.eval o).run P w=.ok (.enter g (args.map a.eval++us)) w:=by simp only[execOp,c4,resolve,mP,Deferred.ofValue,Sem.run_bind,Sem.run_pure,Result.andThen_ok,invoke,callFunc,run_program,ix,fJ,r7,pP,hy];simp
  unfold Oper.wp;rw[cP];simp only[Oper.upon];rw[hm,eS];have tx:=af.lt.AO af.below;have gF:=(Vk af aK am).append (hA.mono (fun b ad=>⟨ad.1,ad.2.1⟩));obtain⟨kI,jE⟩:=Wa Wc;refine(pb w (tq S0 w0.heap.size w) _ ⟨fun b ad=>ad.2,fun b ad=>ad.elim,fun b _ ad=>ad.elim,tx,fun b _ ad=>ad.elim⟩ ⟨by rw[gF.1,kI],fun j y ac=>?_⟩).mono ?_
  ·obtain⟨x,ai,aX⟩:=jE j y ac;obtain⟨u,hu,ao⟩:=gF.2 j x ai;exact⟨u,hu,zfV af aX ao⟩
  rintro e w' ⟨v,rfl,ad,ao,jz⟩;exact ct _ w' (af.back aA ad (ao.flat (S':=fun _=>False) fH) (fun b ad=>ad.elim) jz)
 ·exact ap.elim
def Bu(s:aj)(d aO len:Nat)(wh:Bool)(K:aj->Prop):Prop:=
 match s d with
 |.own e size xs=>match wh with
  |true=>K (put (put s d .dead) d (.own e size (xs.take len)))
  |false=>K (put (freeze s d) d (.x (.one (.list size ((xs.drop aO).take len)))))
 |_=>False
def D3(n:Nat)(s:aj)(x bJ:Prop×ae):Prop:=
 bJ=x\/∃p v g e z xs,x=(p,.x (.one (.atom v)))/\n<=g/\s g=.db v e z xs/\bJ=(p,.alias g)
def om(n:Nat)(s:aj)(x:Prop×ae)(k:Prop×ae->Prop):Prop:=
 match x with
 |(p,.x (.one (.atom v)))=>∃g,n<=g/\(∃e z xs,s g=.db v e z xs)/\k (p,.alias g)
 |x=>k x
def KS{n:Nat}{s:aj}{x:Prop×ae}{k:Prop×ae->Prop}(h:om n s x k):∃bJ,D3 n s x bJ/\k bJ/\∀cq:Prop×ae->Prop,cq bJ->om n s x cq:=by
 unfold om at h;split at h
 ·rename_i p v;obtain⟨g,aX,⟨e,z,xs,ay⟩,ak⟩:=h;exact⟨_,.inr ⟨p,v,g,e,z,xs,rfl,aX,ay,rfl⟩,ak,fun cq bx=>⟨g,aX,⟨e,z,xs,ay⟩,bx⟩⟩
 ·rename_i bY;refine⟨_,.inl rfl,h,fun cq bx=>?_⟩;unfold om;split
  ·rename_i p v;exact absurd rfl (bY p v)
  ·exact bx
def zfZ{S0:Env}{w0 w:bb}{m:Nat}{s:aj}{a:Act}{x bJ:Prop×ae}{u:aI}(ai:eu S0 w0 s a w x u)(h:D3 m s x bJ):eu S0 w0 s a w bJ u:=by
 rcases h with rfl|⟨p,v,g,e,z,xs,rfl,_,ay,rfl⟩
 ·exact ai
 ·intro am;have aa:bD w (bO S0 w0.heap.size w s (aL a)) (.atom v) u:=ai am;cases aa;exact⟨by rw[ay];rfl,by rw[ay];rfl⟩
def Wd(n:Nat)(s:aj)(x bJ:Prop×ae):Prop:=
 bJ=x\/∃p b g c bs es,x=(p,.x (.one (.atom (.map (some b)))))/\n<=g/\s g=.gL b c bs es/\bJ=(p,.alias g)
def wu(n:Nat)(s:aj)(x:Prop×ae)(k:Prop×ae->Prop):Prop:=
 match x with
 |(p,.x (.one (.atom (.map (some b)))))=>∃g,n<=g/\(∃c bs es,s g=.gL b c bs es)/\k (p,.alias g)
 |x=>k x
def Pn{n:Nat}{s:aj}{x:Prop×ae}{k:Prop×ae->Prop}(h:wu n s x k):∃bJ,Wd n s x bJ/\k bJ/\∀cq:Prop×ae->Prop,cq bJ->wu n s x cq:=by
 unfold wu at h;split at h
 ·rename_i p b;obtain⟨g,aX,⟨c,bs,es,ay⟩,ak⟩:=h;exact⟨_,.inr ⟨p,b,g,c,bs,es,rfl,aX,ay,rfl⟩,ak,fun cq bx=>⟨g,aX,⟨c,bs,es,ay⟩,bx⟩⟩
 ·rename_i bY;refine⟨_,.inl rfl,h,fun cq bx=>?_⟩;unfold wu;split
  ·rename_i p b;exact absurd rfl (bY p b)
  ·exact bx
def zga{S0:Env}{w0 w:bb}{m:Nat}{s:aj}{a:Act}{x bJ:Prop×ae}{u:aI}(ai:eu S0 w0 s a w x u)(h:Wd m s x bJ):eu S0 w0 s a w bJ u:=by
 rcases h with rfl|⟨p,b,g,c,bs,es,rfl,_,ay,rfl⟩
 ·exact ai
 ·intro am;have aa:bD w (bO S0 w0.heap.size w s (aL a)) (.atom (.map (some b))) u:=ai am;cases aa;exact⟨by rw[ay];rfl,by rw[ay];rfl⟩
def Bv(s:aj)(d:Nat)(r:Prop×ae):Option (Prop×Nat):=
 match r with
 |(p,.alias i)=>match s cU with
  |.res l=>match l.contains (d,0)&&(s i).tight with
   |true=>some (p,i)
   |false=>none
  |_=>none
 |_=>none
def Po(s:aj)(d i:Nat):aj:=fun j=>if j=ch d 0 then .link d 0 i else put s d (.box [.any]) j
def We{s:aj}{d i:Nat}{r:Prop×ae}{p:Prop}(h:Bv s d r=some (p,i)):r=(p,.alias i)/\(s i).tight=true:=by
 unfold Bv at h;split at h
 ·split at h
  ·split at h
   ·rename_i ad;rw[b7]at ad;simp only[b9,cA]at h;obtain⟨rfl,rfl⟩:=h;exact⟨rfl,ad.2⟩
   ·cases h
  ·cases h
 ·cases h
def gg(P:aM)(n:Nat)(s:aj)(op:Op)(dst:Option Tmp)(K:aj->Prop):Prop:=
 match op,dst with
 |.alloc t,some d=>match hT P t with
  |some cs=>d<n/\K (put s d (.box cs))
  |none=>False
 |.box _ x,some d=>match aJ s x with
  |(p,.ptr i off)=>p/\d<n/\K (put s d (.et i off))
  |r=>match Bv s d r with
   |some (p,i)=>p/\d<n/\i≠d/\(s (ch d 0)).free=true/\K (Po s d i)
   |none=>match jW s x with
    |(p,.x bP)=>p/\d<n/\K (put (dy s (de s [x])) d (.box bP.cells))
    |_=>False
 |.build t parts,some d=>(p2 P (jW s) t parts.toList).1/\d<n/\K (put (dy s (de s (parts.toList.map (·.2)))) d (p2 P (jW s) t parts.toList).2)
 |.buildSlice t len parts,some d=>(lH P (jW s) t len parts.toList).1/\d<n/\K (put (dy s (de s (parts.toList.map (·.2)))) d (lH P (jW s) t len parts.toList).2)
 |.store t cN x,none=>match lJ s (aJ s cN) (aJ s x)with
  |some (p,i,off,d)=>iU P t=true/\p/\(gn P s t i off d).1/\K (gn P s t i off d).2
  |none=>iU P t=true/\(lI P (dy s (de s [x])) t (aJ (dy s (de s [x])) cN) (jW s x)).1/\K (lI P (dy s (de s [x])) t (aJ (dy s (de s [x])) cN) (jW s x)).2
 |.makeMap _ none,some d=>d<n/\K (put s d (.mp 0 [] []))
 |.makeSlice t l c,some d=>(xL P t (aJ s l) (aJ s c)).1/\d<n/\K (put s d (xL P t (aJ s l) (aJ s c)).2)
 |.convert src dst x,some d=>match ju P dst with
  |true=>(mg P s src dst (aJ s x)).1/\d<n/\K (put s d (mg P s src dst (aJ s x)).2)
  |false=>(bu P s (.convert src dst x)).1/\d<n/\K (put s d (bu P s (.convert src dst x)).2)
 |.mapUpdate t m k x,none=>wu n s (aJ s m) fun iR=>(xK P s t iR (aJ s k) (aJ s x)).1/\K (xK P s t iR (aJ s k) (aJ s x)).2
 |.assign (.tmp t),some d=>match s t with
  |.own e size xs=>d<n/\K (put (put s t .dead) d (.own e size xs))
  |.mp c bs es=>d<n/\K (put (put s t .dead) d (.mp c bs es))
  |.view i aO len wh=>match decide (i=d)with
   |true=>d<n/\Bu s d aO len wh K
   |false=>d<n/\K (put s d (.view i aO len wh))
  |_=>d<n/\K (put s d (look s (.tmp t)))
 |.call c,none=>match c.callee with
  |.builtin .clear=>match c.args.toList,c.argTypes.toList with
   |[x],[t]=>(Bo P s t (aJ s x)).1/\K (Bo P s t (aJ s x)).2
   |_,_=>False
  |_=>False
 |.call c,some d=>match c.callee with
  |.value f=>nC P (callee s f c.args.toList) (fun r=>d<n/\K (put (p6 s c.args.toList r) d r.dj)) (qV P (xu s f c.args.toList) (fun r=>d<n/\K (put s d r.dj)) (qU s (tu s c.args.toList) fun s=>jY P s (gX s f c.args.toList) (fun xs r outs=>d<n/\K (put (gf s xs outs) d r.dj)))) (fun xs ea r=>xN n s xs ea/\r.flat=true/\d<n/\K (put s d r.dj))
  |.builtin .append=>match c.args.toList,c.argTypes.toList with
   |[x,y],[t,t']=>om n s (aJ s x) fun bJ=>(ff P s t t' bJ (aJ s y)).1/\d<n/\K (put (ff P s t t' bJ (aJ s y)).2.1 d (ff P s t t' bJ (aJ s y)).2.2)
   |_,_=>False
  |_=>(bu P s (.call c)).1/\d<n/\K (put s d (bu P s (.call c)).2)
 |op,some d=>(bu P s op).1/\d<n/\K (put s d (bu P s op).2)
 |_,_=>False
def Hr(af:Rel S0 w0 n s a w){o:Oper}{d:Nat}{r:ae}(aA:S0.m<=d/\d<n)(eS:o.dst=some d)
  (h:∃v,(execOp a.eval o).run P w=.ok (.value v) w/\mI S0 w0 s a w r v/\r.aR=false)(qS:∀j,r.refs j=true->(s j).aR=true)
  {K:Act->bb->Prop}{Q:Exit->Act->bb->Prop}(ct:∀a' w',Rel S0 w0 n (Ab.put s d r) a' w'->K a' w'):o.wp P a w K Q:=by
 obtain⟨v,cP,b8,cl⟩:=h;unfold Oper.wp;rw[cP];simp only[Oper.upon,eS];exact ct _ _ (af.put aA (World.grownBy.refl w none) qS b8 (fun b ad=>by rw[ks cl]at ad;cases ad) (fun b ad=>by rw[ks cl]at ad;cases ad))
def zgb{x:aW}{p:Prop}{r:ae}(h:aJ s x=(p,r))(am:p):(aJ s x).1:=by rw[h];exact am
def zy(af:Rel S0 w0 n s a w)(o:Oper)(eX:∀d,o.dst=some d->S0.m<=d){K:aj->Prop}(h:gg P n s o.op o.dst K){bT:Act->bb->Prop}{Q:Exit->Act->bb->Prop}
  (ct:∀s' a' w',Rel S0 w0 n s' a' w'->K s'->bT a' w'):o.wp P a w bT Q:=by
 have plain:∀d,o.dst=some d->(bu P s o.op).1/\d<n/\K (Ab.put s d (bu P s o.op).2)->o.wp P a w bT Q:=by intro d eS ⟨am,aA,ak⟩;exact Hr af ⟨eX d eS,aA⟩ eS (Pk af o am) (fun j ac=>tI af.wf _ ac) (fun a' w' bQ=>ct _ a' w' bQ ak)
 obtain⟨dst,op,type,pos,after,guard⟩:=o;dsimp only at h plain eX;cases dst with
 |none=>
  cases op<;>try (exact h.elim)
  case store t cN x=>
   simp only[gg]at h;have fin:∀s' w',(Instr.storeAt t (a.eval cN) (a.eval x)).run P w=.ok () w'->Rel S0 w0 n s' a w'->K s'->({dst:=none,op:=.store t cN x,type:=type,pos:=pos,after:=after,guard:=guard}:Oper).wp P a w bT Q:=by
    intro s' w' cP bQ ak;unfold Oper.wp;have:(execOp a.eval ({dst:=none,op:=.store t cN x,type:=type,pos:=pos,after:=after,guard:=guard}:Oper)).run P w=.ok .skip w':=by simp only[execOp,Sem.run_bind,cP,Result.andThen_ok,Sem.run_pure]
    rw[this];exact ct _ _ _ bQ ak
   split at h
   ·rename_i p i off d e;obtain⟨bv,zu,am,ak⟩:=h;obtain⟨dr,q,ax,aK,rfl⟩:=He e;have ai:=af.aJ cN;have aU:=af.aJ x;rw[ax]at ai;rw[aK]at aU;obtain⟨w',cP,bQ⟩:=zfe (P:=P) af ai aU bv zu am;exact fin _ w' cP bQ ak
   ·obtain⟨bv,am,ak⟩:=h;have pi:=uI (de s [x]) s af;obtain⟨w',cP,bQ⟩:=O9 (P:=P) pi (pi.aJ cN) (Kj af [x] (by simp)) bv am;exact fin _ w' cP bQ ak
  case call c=>
   obtain⟨callee,args,argTypes⟩:=c;simp only[gg]at h;split at h
   ·obtain⟨args⟩:=args;obtain⟨argTypes⟩:=argTypes;split at h
    ·rename_i x t ax aK;have wo:args=[x]:=ax;have xE:argTypes=[t]:=aK;subst wo;subst xE;obtain⟨am,ak⟩:=h;obtain⟨r,w',cP,bQ⟩:=zfH (P:=P) (ty:=type) af (af.aJ _) am;have ai:=pR (fun r=>Result.andThen r fun (a:aI) w'=>Result.ok (Next.value a) w') cP;unfold Oper.wp;simp only[execOp,resolve,Sem.run_bind,Sem.run_pure,Result.andThen_ok,invoke,builtin,map_mk,kC,zb];have fo:((Sem.run P (Builtin.clear_ ⟨[t]⟩ type ⟨[a.eval x]⟩) w).andThen fun (a:aI) w'=>Result.ok (Next.value a) w')=.ok (.value r) w':=ai;rw[fo];exact ct _ _ _ bQ ak
    ·exact h.elim
   ·exact h.elim
  case mapUpdate t m k x=>
   simp only[gg]at h;obtain⟨iR,eh,⟨am,ak⟩,_⟩:=Pn h;obtain⟨w',cP,bQ⟩:=zfE (P:=P) af (zga (af.aJ m) eh) (af.aJ k) (af.aJ x) am;unfold Oper.wp;have:(execOp a.eval ({dst:=none,op:=.mapUpdate t m k x,type:=type,pos:=pos,after:=after,guard:=guard}:Oper)).run P w=.ok .skip w':=by simp only[execOp,Sem.run_bind,cP,Result.andThen_ok,Sem.run_pure]
   rw[this];exact ct _ _ _ bQ ak
  case makeMap t r=>cases r<;>exact h.elim
  case assign x=>cases x<;>exact h.elim
  all_goals exact h.elim
 |some d=>
  have ji:=eX d rfl;cases op<;>try (exact plain d rfl h)
  case convert src dst x=>
   simp only[gg]at h;cases gQ:ju P dst with
   |false=>rw[gQ]at h;exact plain d rfl h
   |true=>
    rw[gQ]at h;obtain⟨am,aA,ak⟩:=h;obtain⟨r,w',cP,bQ⟩:=V2 (P:=P) af ⟨eX d rfl,aA⟩ (af.aJ x) am;unfold Oper.wp;have ai:(execOp a.eval ({dst:=some d,op:=.convert src dst x,type:=type,pos:=pos,after:=after,guard:=guard}:Oper)).run P w=.ok (.value r) w':=by simp only[execOp,Sem.run_bind,cP,Result.andThen_ok,Sem.run_pure]
    rw[ai];exact ct _ _ _ bQ ak
  case alloc t=>
   simp only[gg]at h;cases aZ:hT P t with
   |none=>rw[aZ]at h;exact h.elim
   |some cs=>
    rw[aZ]at h;obtain⟨aA,ak⟩:=h;obtain⟨z,cP,al⟩:=Oy (P:=P) (w:=w) aZ (bO S0 w0.heap.size w s (aL a));have ai:(execOp a.eval ({dst:=some d,op:=.alloc t,type:=type,pos:=pos,after:=after,guard:=guard}:Oper)).run P w=.ok (.value (.pointer (some ⟨w.heap.size,0,none⟩))) (w.alloc (.cells z.cells t)):=by simp[execOp,Instr.alloc,cP,newVar,newRow]
    unfold Oper.wp;rw[ai];exact ct _ _ _ (af.Oz ⟨ji,aA⟩ al) ak
  case makeMap t r=>
   cases r with
   |none=>
    obtain⟨aA,ak⟩:=h;unfold Oper.wp;have ai:(execOp a.eval ({dst:=some d,op:=.makeMap t none,type:=type,pos:=pos,after:=after,guard:=guard}:Oper)).run P w=.ok (.value (.map (some w.heap.size))) (w.alloc (.map #[] 0)):=by simp[execOp,Instr.makeMap]
    rw[ai];exact ct _ _ _ (af.zfJ ⟨ji,aA⟩) ak
   |some r=>exact plain d rfl h
  case makeSlice t l c=>
   obtain⟨am,aA,ak⟩:=h;obtain⟨v,w',cP,bQ⟩:=zfK (P:=P) af (af.aJ l) (af.aJ c) ⟨ji,aA⟩ am;unfold Oper.wp;have ai:(execOp a.eval ({dst:=some d,op:=.makeSlice t l c,type:=type,pos:=pos,after:=after,guard:=guard}:Oper)).run P w=.ok (.value v) w':=by simp only[execOp,Sem.run_bind,cP,Result.andThen_ok,Sem.run_pure]
   rw[ai];exact ct _ _ _ bQ ak
  case box t x=>
   simp only[gg]at h;split at h
   ·rename_i p i off e;obtain⟨am,aA,ak⟩:=h;have dq:=af.aJ x (by rw[e];exact am);rw[e]at dq;obtain⟨b,aF,ad⟩:=dq;have ai:(execOp a.eval ({dst:=some d,op:=.box t x,type:=type,pos:=pos,after:=after,guard:=guard}:Oper)).run P w=.ok (.value (.pointer (some ⟨w.heap.size,0,none⟩))) (w.alloc (.cells #[.pointer (some ⟨b,off,none⟩)] t)):=by
     simp[execOp,Instr.box,newVar,newRow,aF,Value.cells]
    unfold Oper.wp;rw[ai];exact ct _ _ _ (af.zeg ⟨ji,aA⟩ ad) ak
   split at h
   ·rename_i p i e;obtain⟨am,aA,hid,jz,ak⟩:=h;obtain⟨e,wt⟩:=We e;have dq:=af.aJ x (by rw[e];exact am);rw[e]at dq;obtain⟨aF,zz⟩:=dq;have gV:∀u,(s i).valOf u=u:=fun u=>by cases jx:s i<;>rw[jx]at wt<;>first|rfl|cases wt
    rw[gV]at aF;have n':(a.eval x).oneCell'=true:=by
     have h:=af.rep i;rw[aF];cases jx:s i<;>rw[jx]at h wt<;>first|(cases wt;done)|skip
     ·obtain⟨b,b3,ty,e,_⟩:=h;rw[e];rfl
     ·obtain⟨us,bB,_⟩:=h;rcases bB.2 with⟨e,_⟩|⟨g,cap,bN,e,_⟩<;>rw[e]<;>rfl
     ·obtain⟨b,ents,e,_⟩:=h;rw[e];rfl
    have xG:(a.eval x).cells=#[a.eval x]:=by generalize a.eval x=u at n';cases u<;>first|rfl|(simp[Value.oneCell']at n')
    have ai:(execOp a.eval ({dst:=some d,op:=.box t x,type:=type,pos:=pos,after:=after,guard:=guard}:Oper)).run P w=.ok (.value (.pointer (some ⟨w.heap.size,0,none⟩))) (w.alloc (.cells #[a.eval x] t)):=by simp[execOp,Instr.box,newVar,newRow,xG]
    have al:cO w (bO S0 w0.heap.size w s (aL a)) [.any] (#[a.eval x]:Array aI).toList:=
     ⟨rfl,fun j c ac=>by
      match j,ac with
      |0,ac=>cases ac;exact⟨_,rfl,bD.any _ n'⟩
      |j+1,ac=>cases ac⟩
    have r':=af.Oz (t:=t) ⟨ji,aA⟩ al;have ob:Ab.put s d (.box [.any]) d=.box [.any]:=jR rfl;have xo:Ab.put s d (.box [.any]) i=s i:=o2 hid zz;have zgc:aL (a.put (some d) (.pointer (some ⟨w.heap.size,0,none⟩))) i=aL a i:=by rw[xj _ _ _ (by rw[af.size];exact aA),an hid]
    have zgd:aL (a.put (some d) (.pointer (some ⟨w.heap.size,0,none⟩))) d=.pointer (some ⟨w.heap.size,0,none⟩):=by rw[xj _ _ _ (by rw[af.size];exact aA),av rfl]
    have Pp:ch d 0≠d:=by unfold ch;omega
    have zge:(Ab.put s d (.box [.any]) (ch d 0)).free=true:=by
     rcases qM (s:=s) (v:=.box [.any]) Pp with h|⟨_,_,h⟩<;>rw[h]
     ·exact jz
     ·rfl
    have iC:=r'.Hf (k:=ch d 0) (i:=d) (off:=0) (d:=i) (b:=w.heap.size) (cs:=[.any]) zge (by rw[xo];exact zz) (by rw[ob];rfl) rfl (by rw[ob,zgd];rfl) (by rw[xo,zgc,gV,cell_of_row _ w.heap.size 0 #[a.eval x] t (0,0) (heap_alloc_new w _)];simp[aF])
    unfold Oper.wp;rw[ai];exact ct _ _ _ iC ak
   split at h
   ·rename_i p bP e;obtain⟨am,aA,ak⟩:=h;have pi:=uI (de s [x]) s af;have b8:=Kj af [x] (x:=x) (by simp) (by rw[e];exact am);rw[e]at b8;have ai:(execOp a.eval ({dst:=some d,op:=.box t x,type:=type,pos:=pos,after:=after,guard:=guard}:Oper)).run P w=.ok (.value (.pointer (some ⟨w.heap.size,0,none⟩))) (w.alloc (.cells (a.eval x).cells t)):=by
     simp[execOp,Instr.box,newVar,newRow]
    unfold Oper.wp;rw[ai];exact ct _ _ _ (pi.Oz ⟨ji,aA⟩ (cz.cells b8)) ak
   ·exact h.elim
  case build t parts=>obtain⟨am,aA,ak⟩:=h;have pi:=uI (de s (parts.toList.map (·.2))) s af;obtain⟨v,aa,ab,au⟩:=Vg (P:=P) (f:=jW s) (fun x ai=>Kj af (parts.toList.map (·.2)) (hx.2 ⟨x,ai,rfl⟩)) am;refine Hr pi ⟨ji,aA⟩ rfl ⟨v,o9 aa,ab,au⟩ (fun j ac=>?_) (fun a' w' bQ=>ct _ _ _ bQ ak);unfold p2 at ac;split at ac<;>cases ac
  case buildSlice t len parts=>
   obtain⟨am,aA,ak⟩:=h;have pi:=uI (de s (parts.toList.map (·.2))) s af;obtain⟨v,w',cP,bQ⟩:=OR (P:=P) (f:=jW s) pi (fun x ai=>Kj af (parts.toList.map (·.2)) (hx.2 ⟨x,ai,rfl⟩)) ⟨ji,aA⟩ am;unfold Oper.wp;have ai:(execOp a.eval ({dst:=some d,op:=.buildSlice t len parts,type:=type,pos:=pos,after:=after,guard:=guard}:Oper)).run P w=.ok (.value v) w':=by simp only[execOp,Sem.run_bind,cP,Result.andThen_ok,Sem.run_pure]
   rw[ai];exact ct _ _ _ bQ ak
  case assign x=>
   cases x with
   |tmp t=>
    simp only[gg]at h;cases hs:s t with
    |own e size xs=>
     rw[hs]at h;obtain⟨aA,ak⟩:=h;have ah:=af.rep t;rw[hs]at ah;obtain⟨us,bB,al,ai,hm,cY⟩:=ah;have Bp:bl (s t) (aL a t)=(aL a t).ownBlock:=by rw[hs];rfl
     refine ct _ _ _ (af.take (r:=.own e size xs) ⟨ji,aA⟩ (by rw[hs];rfl) (World.grownBy.refl w _) (v:=aL a t) (fun b ad=>.inl (by rw[Bp];exact ad)) (fun j=>rfl) (fun s' tm' S bS=>⟨us,bB,al.mono bS (fun _ _=>rfl),ai,hm,cY⟩)) ak
    |mp c bs es=>
     rw[hs]at h;obtain⟨aA,ak⟩:=h;have ah:=af.rep t;rw[hs]at ah;obtain⟨b,ents,aF,bo,bk,he⟩:=ah;have Bp:bl (s t) (aL a t)=some b:=by rw[hs,aF];rfl
     refine ct _ _ _ (af.take (r:=.mp c bs es) ⟨ji,aA⟩ (by rw[hs];rfl) (World.grownBy.refl w _) (v:=aL a t) (fun br ad=>.inl (by rw[Bp,<-ad,aF];rfl)) (fun j=>rfl) (fun s' tm' S bS=>⟨b,ents,aF,bo,bk,he.mono bS (fun _ _=>rfl)⟩)) ak
    |view i aO len wh=>
     rw[hs]at h;dsimp only at h;cases hid:decide (i=d)with
     |false=>
      rw[hid]at h;refine plain d rfl ⟨trivial,h.1,?_⟩;show K (Ab.put s d (look s (.tmp t)))
      simp only[look,hs];exact h.2
     |true=>
      rw[hid]at h;obtain rfl:=vM hid;obtain⟨aA,ak⟩:=h;unfold Bu at ak;split at ak
      ·rename_i e size xs gY;have bv:=af.rep t;rw[hs]at bv;have ah:=af.rep i;rw[gY]at ah;obtain⟨us,bB,al,ai,hm,cY⟩:=ah;split at ak
       ·have l9:bl (s i) (aL a i)=(aL a i).ownBlock:=by rw[gY];rfl
        obtain⟨jD,r2,ar,pV⟩:=OH gY bv bB al ai;refine ct _ _ _ (af.take (i:=i) (r:=.own e size (xs.take len)) ⟨ji,aA⟩ (by rw[gY];rfl) (World.grownBy.refl w _) (v:=aL a t) (fun b ad=>.inl ?_) (fun j=>rfl) (fun s' tm' S bS=>⟨us.take (len*size),jD,ar.mono bS (fun _ _=>rfl),fun x fo=>ai x (v7 fo),by rw[e'];omega,fun b ad=>cY b (r2 b ad)⟩)) ak;rw[l9];exact r2 b ad
       ·have pi:=af.freeze (.inl ⟨_,_,_,gY⟩);have cv:∀k b,bl (freeze s i k) (aL a k)=some b->k≠i/\bl (s k) (aL a k)=some b:=by
         intro k b ad;by_cases eK:k=i
         ·subst eK;unfold freeze at ad;simp only[av,gY,uG]at ad;cases ad
         ·refine⟨eK,?_⟩;unfold freeze at ad;simp only[an eK]at ad;split at ad
          ·rw[ks (OB _ _)]at ad;cases ad
          ·exact ad
        have KT:bD w (bO S0 w0.heap.size w (freeze s i) (aL a)) (.list size ((xs.drop aO).take len)) (aL a t):=by refine OF gY bv bB (al.mono (fun b ad=>⟨ad.1,ad.2.1,fun k dx=>ad.2.2 k (cv k b dx).2⟩) (fun _ _=>rfl)) ai (fun b ad=>⟨.inr (cY b ad),(bB.lt b ad).2,fun k dx=>?_⟩);obtain⟨aa,ab⟩:=cv k b dx;exact aa (af.inj k i b ab (by rw[gY];exact ad))
        exact Hr (r:=.x (.one (.list size ((xs.drop aO).take len)))) pi ⟨ji,aA⟩ rfl ⟨aL a t,rfl,KT,rfl⟩ (fun j ac=>by cases ac) (fun a' w' bQ=>ct _ _ _ bQ ak)
      ·exact ak.elim
    |_=>rw[hs]at h;refine plain d rfl ⟨trivial,h.1,?_⟩;exact h.2
   |_=>exact plain d rfl h
  case call c=>
   obtain⟨callee,args,argTypes⟩:=c;simp only[gg]at h;split at h
   ·rename_i f;rcases zfX h with⟨r,ap,aA,ak⟩|⟨r,ap,aA,ak⟩|ap
    ·exact OT (P:=P) af ap ⟨argTypes,rfl⟩ ⟨ji,aA⟩ rfl (fun a' w' bQ=>ct _ _ _ bQ ak)
    ·exact zfY (P:=P) af ap ⟨argTypes,rfl⟩ ⟨ji,aA⟩ rfl (fun a' w' bQ=>ct _ _ _ bQ ak)
    ·exact zeD (P:=P) af ap ⟨argTypes,rfl⟩ ji rfl (fun r ao=>⟨ao.1,fun a' w' bQ=>ct _ _ _ bQ ao.2⟩) (fun ap=>O4 (P:=P) (uI _ s af) ap ⟨argTypes,rfl⟩ rfl ji ct)
   ·obtain⟨args⟩:=args;obtain⟨argTypes⟩:=argTypes;split at h
    ·rename_i x y t t' ax aK;have wo:args=[x,y]:=ax;have xE:argTypes=[t,t']:=aK;subst wo;subst xE;obtain⟨bJ,mT,⟨am,aA,ak⟩,_⟩:=KS h;obtain⟨r,w',cP,bQ⟩:=zfB (P:=P) (ty:=type) af ⟨ji,aA⟩ (zfZ (af.aJ x) mT) (af.aJ y) am;have ai:=pR (fun r=>Result.andThen r fun (a:aI) w'=>Result.ok (Next.value a) w') cP;unfold Oper.wp;simp only[execOp,resolve,Sem.run_bind,Sem.run_pure,Result.andThen_ok,invoke,builtin,map_mk,kC,zb];have fo:((Sem.run P (Builtin.append_ ⟨[t,t']⟩ type ⟨[a.eval x,a.eval y]⟩) w).andThen fun (a:aI) w'=>Result.ok (Next.value a) w')=.ok (.value r) w':=ai;rw[fo];exact ct _ _ _ bQ ak
    ·exact h.elim
   ·exact plain d rfl h
end
end
section
variable [bn]
def dA(ops:Array Oper)(s:aj)(g:Nat×Bool):Option Bool:=
 match (ops[g.1]?).bind (·.dst)with
 |some d=>match s d with
  |.x (.one (.bool b))=>some (b==g.2)
  |.cond e (.x (.one (.bool b)))=>some (e&&(b==g.2))
  |_=>none
 |none=>none
def wv(P:aM)(n:Nat)(s:aj)(e:Bool)(op:Op)(dst:Option Tmp)(K:aj->Prop):Prop:=
 match dst with
 |some d=>match op with
  |.call c=>match c.callee with
   |.value f=>r4 P e (callee s f c.args.toList) (fun r=>d<n/\K (put s d (.cond e r.dj)))
   |_=>(e=true->(bu P s (.call c)).1)/\(bu P s (.call c)).2.aR=false/\d<n/\K (put s d (.cond e (bu P s (.call c)).2))
  |.buildSlice t len parts=>match e with
   |true=>(lH P (aJ s) t len parts.toList).1/\d<n/\K (put s d (lH P (aJ s) t len parts.toList).2)
   |false=>d<n/\K (put s d (.cond false (.x (.one (.bool false)))))
  |op=>(e=true->(bu P s op).1)/\(bu P s op).2.aR=false/\d<n/\K (put s d (.cond e (bu P s op).2))
 |none=>False
def Pq(s:aj)(op:Op):Bool:=match op with
 |.call c=>match c.callee with
  |.value f=>(callee s f c.args.toList).2.isNone
  |_=>false
 |_=>false
def wx(P:aM)(n:Nat)(s:aj)(e:Bool)(op:Op)(dst:Option Tmp)(K:aj->Prop):Prop:=match dst,op with
 |some d,.call c=>match c.callee with
  |.value f=>match e with
   |true=>jY P s (gX s f c.args.toList) (fun xs r outs=>d<n/\r.dj.aR=false/\K (put (gf s xs outs) d (.cond true r.dj)))
   |false=>d<n/\K (put s d (.cond false (.x (.one (.bool false)))))
  |_=>False
 |_,_=>False
def gq(P:aM)(n:Nat)(ops:Array Oper)(o:Oper)(s:aj)(K:aj->Prop):Prop:=
 match o.guard with
 |none=>gg P n s o.op o.dst K
 |some g=>match dA ops s g with
  |some e=>match Pq s o.op with
   |true=>wx P n s e o.op o.dst K
   |false=>wv P n s e o.op o.dst K
  |none=>False
def bR(P:aM)(n:Nat)(ops:Array Oper):List Oper->aj->(aj->Prop)->Prop
 |[],s,K=>K s
 |o::r,s,K=>gq P n ops o s (fun s'=>bR P n ops r s' K)
section
variable {P:aM}{S0:Env}{w0 w:bb}{n:Nat}{s:aj}{a:Act}
def Rel.Pr{d:Nat}{s':aj}(af:Rel S0 w0 n s a w)(hdn:d<n)(cl:(s d).aR=false)(h:∀i,s' i=if i=d then .cond true (s d)else s i):Rel S0 w0 n s' a w:=by
 have aA:s' d=.cond true (s d):=by rw[h,av rfl]
 have aB:∀i,i≠d->s' i=s i:=fun i ah=>by rw[h,an ah]
 have cv:∀i b,bl (s' i) (aL a i)=some b->bl (s i) (aL a i)=some b:=by
  intro i b ad;by_cases ah:i=d
  ·subst ah;rw[aA]at ad;cases ad
  ·rw[aB i ah]at ad;exact ad
 have dg:∀b,bO S0 w0.heap.size w s (aL a) b->bO S0 w0.heap.size w s' (aL a) b:=fun b ad=>⟨ad.1,ad.2.1,fun i ah=>ad.2.2 i (cv i b ah)⟩
 have ak:∀k,(s k).aR=true->s' k=s k:=by intro k ak;refine aB k ?_;rintro rfl;rw[cl]at ak;cases ak
 have Gn:∀k,(aL a k=aL a k/\((s k).aR=true->(s' k).aR=true/\(s' k).size=(s k).size/\(s' k).len=(s k).len/\(s' k).valOf=(s k).valOf)/\(∀b,bl (s k) (aL a k)=some b->bl (s' k) (aL a k)=some b)):=by
  intro k;refine⟨rfl,fun h=>by rw[ak k h];exact⟨h,rfl,rfl,rfl⟩,fun b ad=>?_⟩;have fV:(s k).aR=true:=by
   cases h:(s k).aR with
   |true=>rfl
   |false=>rw[ks h]at ad;cases ad
  rw[ak k fV];exact ad
 have f':∀(bL off:Nat) (cs:List ag) (b:Nat),(s bL).gk=some cs->bl (s bL) (aL a bL)=some b->(∃cs',(s' bL).gk=some cs'/\cs'[off]?=cs[off]?)/\w.cell? ⟨b,off,none⟩=w.cell? ⟨b,off,none⟩:=
  fun bL off cs b cT _=>⟨⟨cs,by rw[ak bL (ae.o0 cT)];exact cT,rfl⟩,rfl⟩
 refine⟨af.defers,af.size,af.below,af.lt,fun i=>?_,fun i j b ah ac=>af.inj i j b (cv i b ah) (cv j b ac),fun i ah=>?_,fun i j cV=>?_,af.n6⟩
 ·by_cases ah:i=d
  ·subst ah;rw[aA];exact⟨cl,(af.rep i).mono dg (fun _ _=>rfl) (fun _ _=>rfl) (fun k _=>Gn k) (fun bL off _ cs b _=>f' bL off cs b)⟩
  ·rw[aB i ah];exact(af.rep i).mono dg (fun _ _=>rfl) (fun _ _=>rfl) (fun k _=>Gn k) (fun bL off _ cs b _=>f' bL off cs b)
 ·by_cases hid:i=d
  ·subst hid;exact absurd ah (by omega)
  ·rw[aB i hid];exact af.out i ah
 ·have:(s i).refs j=true:=by
   by_cases ah:i=d
   ·subst ah;rw[aA]at cV;exact cV
   ·rw[aB i ah]at cV;exact cV
  have nr:=af.wf i j this;rw[ak j nr];exact nr
def Bw(af:Rel S0 w0 n s a w){ops:Array Oper}{g:Nat×Bool}{e:Bool}(h:dA ops s g=some e):(yielded ops a.tmps g.1==some g.2)=e:=by
 unfold dA at h;cases aA:(ops[g.1]?).bind (·.dst)with
 |none=>rw[aA]at h;cases h
 |some d=>
  rw[aA]at h;have b8:=af.rep d;have aU:yielded ops a.tmps g.1=match a.tmps[d]? with|some (.bool b)=>some b|_=>none:=by unfold yielded;rw[aA];rfl
  have iw:∀b,aL a d=.bool b->a.tmps[d]?=some (.bool b):=by
   intro b ad;simp only[aL,s_]at ad;cases ai:a.tmps[d]? with
   |none=>rw[ai]at ad;cases ad
   |some v=>rw[ai]at ad;simp at ad;rw[ad]
  simp only at h;split at h
  ·rename_i b hs;injection h with h
   rw[hs]at b8;rw[aU,iw b (pM b8),<-h];cases b<;>cases g.2<;>rfl
  ·rename_i cg b hs;injection h with h
   rw[hs]at b8;obtain⟨_,b8⟩:=b8;cases cg with
   |true=>rw[aU,iw b (pM b8),<-h];cases b<;>cases g.2<;>rfl
   |false=>
    have hu:aL a d=undef:=b8;have:(match a.tmps[d]? with|some (Value.bool b)=>some b|_=>none)=none:=by
     simp only[aL,s_]at hu;cases ai:a.tmps[d]? with
     |none=>rfl
     |some v=>rw[ai]at hu;simp at hu;rw[hu];rfl
    rw[aU,this,<-h];rfl
  ·cases h
def Hs(af:Rel S0 w0 n s a w){d:Nat}{r:ae}(aA:S0.m<=d/\d<n)(cl:r.aR=false)(qS:∀j,r.refs j=true->(s j).aR=true) :
  Rel S0 w0 n (Ab.put s d (.cond false r)) (a.put (some d) undef) w:=
 af.put aA (World.grownBy.refl w none) qS ⟨cl,by simp⟩ (fun b ad=>by cases ad) (fun b ad=>by cases ad)
def mI.cond{r:ae}{v:aI}(h:mI S0 w0 s a w r v)(cl:r.aR=false):mI S0 w0 s a w (.cond true r) v:=⟨cl,by simpa using h⟩
def Wf(af:Rel S0 w0 n s a w)(o:Oper)(eX:∀d,o.dst=some d->S0.m<=d){e:Bool}{K:aj->Prop}(h:wv P n s e o.op o.dst K){bT:Act->bb->Prop}{Q:Exit->Act->bb->Prop}
  (ct:∀s' a' w',Rel S0 w0 n s' a' w'->K s'->bT a' w'):if e then o.wp P a w bT Q else bT (a.put o.dst undef) w:=by
 obtain⟨dst,op,type,pos,after,guard⟩:=o;dsimp only at h eX;cases dst with
 |none=>exact h.elim
 |some d=>
  have hm:=eX d rfl;have plain:(e=true->(bu P s op).1)/\(bu P s op).2.aR=false/\d<n/\K (Ab.put s d (.cond e (bu P s op).2)) ->
    if e then ({dst:=some d,op:=op,type:=type,pos:=pos,after:=after,guard:=guard}:Oper).wp P a w bT Q else bT (a.put (some d) undef) w:=by
   intro ⟨am,cl,aA,ak⟩;cases e with
   |false=>exact ct _ _ _ (Hs af ⟨hm,aA⟩ cl (fun j ac=>tI af.wf _ ac)) ak
   |true=>obtain⟨v,aa,ab,au⟩:=Pk (P:=P) af {dst:=some d,op:=op,type:=type,pos:=pos,after:=after,guard:=guard} (am rfl);exact Hr af ⟨hm,aA⟩ rfl ⟨v,aa,mI.cond ab au,rfl⟩ (fun j ac=>tI (P:=P) (op:=op) af.wf ac) (fun a' w' bQ=>ct _ _ _ bQ ak)
  cases op<;>try (exact plain h)
  case buildSlice t len parts=>
   cases e with
   |false=>exact ct _ _ _ (Hs (r:=.x (.one (.bool false))) af ⟨hm,h.1⟩ rfl (fun j ac=>by cases ac)) h.2
   |true=>
    obtain⟨am,aA,ak⟩:=h;obtain⟨v,w',cP,bQ⟩:=OR (P:=P) (f:=Ab.aJ s) af (fun x _=>af.aJ x.2) ⟨hm,aA⟩ am;simp only[gW];unfold Oper.wp;have ai:(execOp a.eval ({dst:=some d,op:=.buildSlice t len parts,type:=type,pos:=pos,after:=after,guard:=guard}:Oper)).run P w=.ok (.value v) w':=by simp only[execOp,Sem.run_bind,cP,Result.andThen_ok,Sem.run_pure]
    rw[ai];exact ct _ _ _ bQ ak
  case call c=>
   obtain⟨callee,args,argTypes⟩:=c;simp only[wv]at h;split at h
   ·rename_i f;obtain⟨r,ap,fH,aA,ak⟩:=Vj h;cases e with
    |false=>exact ct _ _ _ (Hs af ⟨hm,aA⟩ (by cases r<;>first|rfl|cases fH) (fun j ac=>by cases r<;>cases ac)) ak
    |true=>
     refine OT (P:=P) af (ap rfl) ⟨argTypes,rfl⟩ ⟨hm,aA⟩ rfl (fun a' w' bQ=>?_);have xv:p6 s args.toList r=s:=by unfold p6;rw[fH]
     rw[xv]at bQ;refine ct _ _ _ (bQ.Pr (d:=d) (hdn:=aA) (s':=Ab.put s d (.cond true r.dj)) (by rw[jR (by cases r<;>rfl)];cases r<;>first|rfl|cases fH) (fun i=>?_)) ak;by_cases ah:i=d
     ·subst ah;rw[av rfl,jR (by cases r<;>rfl),jR (by cases r<;>rfl)]
     ·rw[an ah];unfold Ab.put;cases (s d).aR<;>simp[ah]
   ·exact plain h
def zgf(af:Rel S0 w0 n s a w)(o:Oper)(eX:∀d,o.dst=some d->S0.m<=d){e:Bool}{K:aj->Prop}(h:wx P n s e o.op o.dst K){bT:Act->bb->Prop}{Q:Exit->Act->bb->Prop}
  (ct:∀s' a' w',Rel S0 w0 n s' a' w'->K s'->bT a' w'):if e then o.wp P a w bT Q else bT (a.put o.dst undef) w:=by
 obtain⟨dst,op,type,pos,after,guard⟩:=o;dsimp only at h eX;unfold wx at h;split at h
 ·rename_i d c;obtain⟨callee,args,argTypes⟩:=c;have hm:=eX d rfl;dsimp only at h;split at h
  ·rename_i f;cases e with
   |false=>exact ct _ _ _ (Hs (r:=.x (.one (.bool false))) af ⟨hm,h.1⟩ rfl (fun j ac=>by cases ac)) h.2
   |true=>
    have ap:jY P s (gX s f args.toList) (fun xs r outs=>d<n/\(fun t=>(t d).aR=false/\d<n/\K (fun i=>if i=d then .cond true (t d)else t i)) (Ab.put (gf s xs outs) d r.dj)):=by
     dsimp only at h;refine zeX h ?_
     ·rintro aV r outs ⟨aA,aB,ak⟩;have ao:∀j,r.dj.refs j=false:=fun j=>by cases r<;>rfl
      refine⟨aA,by rw[jR (ao d)];exact aB,aA,?_⟩;have e:(fun i=>if i=d then ae.cond true (Ab.put (gf s aV outs) d r.dj d)else Ab.put (gf s aV outs) d r.dj i)=Ab.put (gf s aV outs) d (.cond true r.dj):=by
       funext i;by_cases ah:i=d
       ·subst ah;rw[av rfl,jR (ao i),jR (show (ae.cond true r.dj).refs i=false from ao i)]
       ·rw[an ah];unfold Ab.put;cases (gf s aV outs d).aR<;>simp[ah]
      rw[e];exact ak
    exact O4 (P:=P) (K:=fun t=>(t d).aR=false/\d<n/\K (fun i=>if i=d then .cond true (t d)else t i)) af ap ⟨argTypes,rfl⟩ rfl hm (fun s' a' w' bQ hs=>ct _ a' w' (bQ.Pr hs.2.1 hs.1 (fun i=>rfl)) hs.2.2)
  ·exact h.elim
 ·exact h.elim
def KU(af:Rel S0 w0 n s a w)(o:Oper)(eX:∀d,o.dst=some d->S0.m<=d){e:Bool}{K:aj->Prop}(h:match Pq s o.op with|true=>wx P n s e o.op o.dst K|false=>wv P n s e o.op o.dst K){bT:Act->bb->Prop}{Q:Exit->Act->bb->Prop}
  (ct:∀s' a' w',Rel S0 w0 n s' a' w'->K s'->bT a' w'):if e then o.wp P a w bT Q else bT (a.put o.dst undef) w:=by
 split at h
 ·exact zgf af o eX h ct
 ·exact Wf af o eX h ct
def Wg{ops:Array Oper}{du:Exit->Act->bb->Prop}{K:aj->Prop}:∀(l:List Oper) (s:aj) (a:Act) (w:bb),(∀o∈l,∀d,o.dst=some d->S0.m<=d)->Rel S0 w0 n s a w->bR P n ops l s K ->
  (∀s' a' w',Rel S0 w0 n s' a' w'->K s'->du .normal a' w')->wpList P ops du l a w:=by
 intro l;induction l with
 |nil=>intro s a w _ af h dL;exact dL s a w af h
 |cons o l ba=>
  intro s a w al af h dL;have dK:∀o∈l,∀d,o.dst=some d->S0.m<=d:=fun o aB=>al o (oc _ aB);have aB:=al o kH;simp only[bR,gq]at h;unfold wpList;cases ay:o.guard with
  |none=>
   rw[ay]at h;have hw:Region.wanted o (yielded ops a.tmps)=true:=by simp[Region.wanted,ay]
   rw[av hw];exact .inl (zy (P:=P) af o aB h (fun s' a' w' bQ ak=>ba s' a' w' dK bQ ak dL))
  |some g=>
   rw[ay]at h;simp only at h;cases aF:dA ops s g with
   |none=>rw[aF]at h;exact h.elim
   |some e=>
    rw[aF]at h;have hw:Region.wanted o (yielded ops a.tmps)=e:=by simp only[Region.wanted,ay];exact Bw af aF
    have:=KU (P:=P) (Q:=du) af o aB h (fun s' a' w' bQ ak=>ba s' a' w' dK bQ ak dL);rw[hw];cases e with
    |true=>exact .inl this
    |false=>exact this
end
end
section
variable [bn]
section
variable {σ:Type}(ops:Array Oper)(step:Nat->σ->σ->Prop)
def wy:List Nat->σ->σ->Prop
 |[],s,s'=>s=s'
 |i::l,s,s'=>∃s1,step i s s1/\wy l s1 s'
inductive uU:Nat->Nat->Prop where
 |Wh {i:Nat} {o:Oper} {e:Edge}:ops[i]?=some o->e∈o.after->Region.binds .any e=true->uU i e.on
 |y0 {i j:Nat} {o:Oper} {e:Edge}:ops[i]?=some o->e∈o.after->Region.binds .any e=true->uU e.on j->uU i j
def Bx(fin:σ->Prop):Nat->Array Bool->σ->Prop
 |0,fr,s=>Region.ready .any ops fr=[]/\fin s
 |fuel+1,fr,s=>(Region.ready .any ops fr=[]->fin s)/\∀i∈Region.ready .any ops fr,∃s',step i s s'/\Bx fin fuel (fr.setIfInBounds i true) s'
def Wi(fr:Array Bool):Prop:=∀(i:Nat) (o:Oper),ops[i]?=some o->fr.getD i true=true->∀e∈o.after,Region.binds .any e=true->fr.getD e.on false=true
variable {ops step}
def zgg{fr:Array Bool}(ap:Wi ops fr){i j:Nat}(h:uU ops i j)(ah:∀(o:Oper),ops[i]?=some o->∀e∈o.after,Region.binds .any e=true->fr.getD e.on false=true):fr.getD j false=true:=by
 induction h with
 |Wh aB he ad=>exact ah _ aB _ he ad
 |@y0 i j o e aB he ad _ ba=>
  refine ba (fun di ii=>?_);have al:=ah o aB e he ad;have dK:fr.getD e.on true=true:=by
   simp only[s_]at al⊢;cases ai:fr[e.on]? with
   |none=>rfl
   |some b=>rw[ai]at al;simpa using al
  exact ap _ di ii dK
def front{wf:σ->Prop}{indep:Nat->Nat->Prop}(l8:∀i s s',wf s->step i s s'->wf s')
  (Ps:∀i j s s1 s2,indep i j->wf s->step i s s1->step j s1 s2->∃cI,step j s cI/\step i cI s2){i:Nat}{l2:List Nat}{s':σ} :
  ∀(eo:List Nat) (s:σ),wf s->(∀j∈eo,indep j i)->wy step (eo++i::l2) s s'->∃s1,step i s s1/\wy step (eo++l2) s1 s':=by
 intro eo;induction eo with
 |nil=>intro s _ _ h;exact h
 |cons j eo ba=>intro s hw ah h;obtain⟨Pt,ac,h⟩:=h;obtain⟨s2,ab,au⟩:=ba Pt (l8 j s Pt hw ac) (fun k ak=>ah k (by simp[ak])) h;obtain⟨cI,aN,bE⟩:=Ps j i s Pt s2 (ah j (by simp)) hw ac ab;exact⟨cI,aN,s2,bE,au⟩
def Pu{wf:σ->Prop}{indep:Nat->Nat->Prop}{fin:σ->Prop}(l8:∀i s s',wf s->step i s s'->wf s')
  (Ps:∀i j s s1 s2,indep i j->wf s->step i s s1->step j s1 s2->∃cI,step j s cI/\step i cI s2)
  (By:∀(i:Nat) (o:Oper),ops[i]?=some o->∀e∈o.after,Region.binds .any e=true->e.on<i)
  (zr:∀j i,j<i->i<ops.size->uU ops i j\/indep j i){s':σ}(mN:fin s') :
  ∀(m:Nat) (l:List Nat) (fr:Array Bool) (s:σ),l.length=m->fr.size=ops.size->Wi ops fr->l.Pairwise (· < ·)->(∀i,i∈l↔i<ops.size/\fr.getD i true=false)->wf s->wy step l s s'->Bx ops step fin m fr s:=by
 intro m;induction m with
 |zero=>
  intro l fr s hm cB ap hs al hw h;have pX:l=[]:=n5 hm;subst pX;have:s=s':=h;subst this;refine⟨?_,mN⟩;cases ao:Region.ready .any ops fr with
  |nil=>rfl
  |cons i r=>
   have ah:i∈Region.ready .any ops fr:=by rw[ao];simp
   obtain⟨aa,o,aB,_⟩:=mem_ready.1 ah;have:=(al i).2 ⟨(jb.1 aB).1,aa⟩;cases this
 |succ m ba=>
  intro l fr s hm cB ap hs al hw h;refine⟨fun ao=>?_,fun i ah=>?_⟩
  ·-- nothing is ready: but Dl least of zsP zsQ have not zsR up is
   exfalso;cases l with
   |nil=>simp at hm
   |cons i r=>
    obtain⟨ar,zgh⟩:=(al i).1 (by simp);have aB:ops[i]?=some ops[i]:=vT ar;have Wj:i∈Region.ready .any ops fr:=by
     refine mem_ready.2 ⟨zgh,ops[i],aB,fun e he ad=>?_⟩;have zsS:=By i ops[i] aB e he ad;have bY:e.on∉i::r:=by
      intro Bz;rcases fp.1 Bz with h|h
      ·omega
      ·have:=(D4.1 hs).1 e.on h;omega
     have:fr.getD e.on true≠false:=fun h=>bY ((al e.on).2 ⟨by omega,h⟩);simp only[s_]at this⊢;cases ai:fr[e.on]? with
     |none=>
      have:fr.size<=e.on:=by simpa using ai
      omega
     |some b=>rw[ai]at this;simpa using this
    rw[ao]at Wj;cases Wj
  ·obtain⟨aa,o,aB,kv⟩:=mem_ready.1 ah;have ar:=(jb.1 aB).1;have Bz:=(al i).2 ⟨ar,aa⟩;obtain⟨eo,l2,rfl⟩:=List.append_of_mem Bz;have D5:=KV.1 hs;have Kc:∀j∈eo,indep j i:=by
    intro j ac;have fU:j<i:=D5.2.2 j ac i (by simp);rcases zr j i fU ar with h|h
    ·exfalso;have zA:=zgg ap h (fun di ii e he ad=>by
      rw[aB]at ii;injection ii with ii;subst ii
      exact kv e he ad)
     have:=((al j).1 (by simp[ac])).2;simp only[s_]at this zA;cases ai:fr[j]? with
     |none=>rw[ai]at zA;cases zA
     |some b=>rw[ai]at zA this;simp at zA this;rw[zA]at this;cases this
    ·exact h
   obtain⟨s1,ab,au⟩:=front l8 Ps eo s hw Kc h;have zgi:(fr.setIfInBounds i true).size=ops.size:=by simpa using cB
   have wb:∀k d,(fr.setIfInBounds i true).getD k d=if k=i then true else fr.getD k d:=by
    intro k d;simp only[s_];by_cases ak:k=i
    ·subst ak;simp[cB,ar]
    ·rw[N5 (by omega)];simp[ak]
   refine⟨s1,ab,ba (eo++l2) _ s1 (by simp at hm⊢;omega) zgi ?_ ?_ ?_ (l8 i s s1 hw ab) au⟩
   ·intro k di ii ak e he ad;rw[wb]at ak⊢;by_cases eK:k=i
    ·subst eK;rw[aB]at ii;injection ii with ii;subst ii
     split
     ·rfl
     ·exact kv e he ad
    ·rw[an eK]at ak;split
     ·rfl
     ·exact ap k di ii ak e he ad
   ·refine KV.2 ⟨D5.1,(D4.1 D5.2.1).2,fun x ai y aU=>D5.2.2 x ai y (by simp[aU])⟩
   ·intro k;rw[wb];have ak:=al k;simp only[hg,fp]at ak⊢;by_cases eK:k=i
    ·subst eK;simp only[av];constructor
     ·rintro (h|h)
      ·have:=D5.2.2 k h k (by simp);omega
      ·have:=(D4.1 D5.2.1).1 k h;omega
     ·rintro⟨_,h⟩;cases h
    ·rw[an eK,<-ak];constructor
     ·rintro (h|h)
      ·exact .inl h
      ·exact .inr (.inr h)
     ·rintro (h|h|h)
      ·exact .inl h
      ·exact absurd h eK
      ·exact .inr h
end
end
section
variable [bn]
def dY(s s':aj):aW->Prop
 |.tmp t=>s' t=s t/\∀b,(s t).refs b=true->s' b=s b
 |_=>True
section
variable {P:aM}{s s':aj}
def Pv{x:aW}(h:dY s s' x):look s' x=look s x:=by
 cases x with
 |tmp t=>simp only[look,h.1]
 |_=>rfl
def dZ{x:aW}(h:dY s s' x):aJ s' x=aJ s x:=by simp only[aJ,Pv h]
def jZ{x:aW}(h:dY s s' x){b:Nat}(ad:(aJ s x).2.refs b=true):s' b=s b:=by
 have al:(look s x).refs b=true:=N7 ad;cases x with
 |tmp t=>
  simp only[look]at al;split at al
  ·obtain rfl:t=b:=by simpa[ae.refs]using al
   exact h.1
  ·obtain rfl:t=b:=by simpa[ae.refs]using al
   exact h.1
  ·obtain rfl:t=b:=by simpa[ae.refs]using al
   exact h.1
  ·cases al
  ·cases al
  ·cases al
  ·exact h.2 b al
 |const v=>
  simp only[look,vL]at al;split at al
  ·split at al<;>cases al
  ·cases al
  ·split at al<;>cases al
 |_=>cases al
def Wk{r:ae}(h:∀b,r.refs b=true->s' b=s b):mem s' r=mem s r:=by
 cases r with
 |ptr i off=>simp only[mem,h i (by simp[ae.refs])]
 |fy i k off=>simp only[mem,h i (by simp[ae.refs])]
 |_=>rfl
def zgj(h:∀i off,s' (ch i off)=s (ch i off))(r:ae)(v:Prop×ae):jT s' r v=jT s r v:=by
 unfold jT;split
 ·split
  ·rw[h]
  ·rfl
 ·rfl
def BA(P:aM)(s s':aj)(op:Op):Prop:=match op with
 |.load t x=>jT s' (aJ s x).2 (k2 (tk P t) (eH P t) (aJ s x).1 (mem s (aJ s x).2))=jT s (aJ s x).2 (k2 (tk P t) (eH P t) (aJ s x).1 (mem s (aJ s x).2))
 |_=>True
def zB(h:∀i off,s' (ch i off)=s (ch i off))(op:Op):BA P s s' op:=by cases op<;>first|trivial|exact zgj h _ _
def Pw{o:Option aW}{z:Int}(h:∀x,o=some x->dY s s' x):dG s' o z=dG s o z:=by
 cases o with
 |none=>rfl
 |some x=>simp only[dG,dZ (h x rfl)]
def Wl:∀(parts:List (Nat×aW)),(∀x∈parts,dY s s' x.2)->(parts.map fun x=>(x.1,aJ s' x.2))=(parts.map fun x=>(x.1,aJ s x.2)):=by intro parts h;apply Ht;intro x ai;rw[dZ (h x ai)]
def zgk{t:aP}{x i:Prop×ae}(h:∀b,x.2.refs b=true->s' b=s b):l' P s' t x i=l' P s t x i:=by
 unfold l';split
 ·rfl
 ·simp only[h _ (nw _)]
 ·simp only[h _ (nw _)]
 ·rfl
def zgl{t:aP}{x:Prop×ae}{aO ah mx:Option aW}(h:∀b,x.2.refs b=true->s' b=s b)(aa:∀z,dG s' aO z=dG s aO z)(ab:∀z,dG s' ah z=dG s ah z)(au:∀z,dG s' mx z=dG s mx z):ky P s' t x aO ah mx=ky P s t x aO ah mx:=by
 unfold ky;split
 ·simp only[aa,ab]
 ·simp only[aa,ab,au]
 ·simp only[aa,ab]
 ·simp only[h _ (nw _),aa,ab,au]
 ·simp only[h _ (nw _),aa,ab,au]
 ·rfl
def zgm{t:aP}{x:Prop×ae}(h:∀b,x.2.refs b=true->s' b=s b):n9 P s' t x=n9 P s t x:=by
 unfold n9;split
 ·rfl
 ·rfl
 ·rfl
 ·rfl
 ·simp only[h _ (nw _)]
 ·rfl
 ·rfl
def zgn{t:aP}{x k:Prop×ae}{ok:Bool}(h:∀b,x.2.refs b=true->s' b=s b):uy P s' t x k ok=uy P s t x k ok:=by
 unfold uy;split
 ·simp only[h _ (nw _)]
 ·rfl
 ·rfl
def Hu{v:ae}{size:Nat}(h:∀b,v.refs b=true->s' b=s b):iQ s' size v=iQ s size v:=by
 unfold iQ;split
 ·rfl
 ·rfl
 ·rfl
 ·simp only[h _ (nw _)]
 ·simp only[h _ (nw _)]
 ·rfl
def zgo{src dst:aP}{x:Prop×ae}(h:∀b,x.2.refs b=true->s' b=s b):o4 P s' src dst x=o4 P s src dst x:=by
 unfold o4;split
 ·rfl
 ·rfl
 ·rw[Hu h]
def Hv(op:Op)(h:∀x∈op.operands,dY s s' x)(al:BA P s s' op):bu P s' op=bu P s op:=by
 cases op with
 |move x=>exact dZ (h x (by simp[Op.operands]))
 |assign x=>exact zgp (h x (by simp[Op.operands]))
 |pick c x y=>simp only[bu,eA,dZ (h c (by simp[Op.operands])),dZ (h x (by simp[Op.operands])),dZ (h y (by simp[Op.operands]))]
 |load t x=>
  have ai:=h x (by simp[Op.operands]);have hm:=Wk (s:=s) (s':=s') (r:=(aJ s x).2) (fun b ad=>jZ ai ad);simp only[bu,eA,dZ ai,pL];split
  ·rfl
  ·rw[hm];exact al
 |nilCheck x=>simp only[bu,eA,dZ (h x (by simp[Op.operands]))]
 |binOp op t x y Ox=>simp only[bu,eA,td,dZ (h x (by simp[Op.operands])),dZ (h y (by simp[Op.operands]))]
 |unOp op t x=>simp only[bu,eA,dZ (h x (by simp[Op.operands]))]
 |convert src dst x=>have ai:=h x (by simp[Op.operands]);simp only[bu,eA,dZ ai,zgo (fun b ad=>jZ ai ad)]
 |slice t x aO ah mx=>have ai:=h x (by simp[Op.operands]);have aa:∀z,dG s' aO z=dG s aO z:=fun z=>Pw (fun y aU=>h y (by subst aU;simp[Op.operands]));have ab:∀z,dG s' ah z=dG s ah z:=fun z=>Pw (fun y aU=>h y (by subst aU;simp[Op.operands]));have au:∀z,dG s' mx z=dG s mx z:=fun z=>Pw (fun y aU=>h y (by subst aU;simp[Op.operands]));simp only[bu,eA,dZ ai,zgl (fun b ad=>jZ ai ad) aa ab au]
 |fieldAddr t x f=>simp only[bu,eA,dZ (h x (by simp[Op.operands]))]
 |field t x f=>simp only[bu,eA,dZ (h x (by simp[Op.operands]))]
 |indexAddr t x i=>have ai:=h x (by simp[Op.operands]);simp only[bu,eA,dZ ai,dZ (h i (by simp[Op.operands])),zgk (fun b ad=>jZ ai ad)]
 |index t x i=>simp only[bu,eA,dZ (h x (by simp[Op.operands])),dZ (h i (by simp[Op.operands]))]
 |makeFunc fn first jd=>
  have:jd.toList.map (Ab.aJ s')=jd.toList.map (Ab.aJ s):=by apply Ht;intro x ai;exact dZ (h x (by simp[Op.operands];exact .inr (by simpa using ai)))
  simp only[bu,eA,xm,this]
 |lookup t x k ok=>have ai:=h x (by simp[Op.operands]);simp only[bu,eA,dZ ai,dZ (h k (by simp[Op.operands])),zgn (fun b ad=>jZ ai ad)]
 |extract x i=>simp only[bu,eA,dZ (h x (by simp[Op.operands]))]
 |call c=>
  obtain⟨callee,⟨args⟩,ts⟩:=c;have bj:∀x∈args,dY s s' x:=fun x ai=>h x (by simp[Op.operands,Call.operands,ai]);simp only[bu,eA];unfold uz;split
  ·split
   ·rw[dZ (bj _ (by simp)),zgm (fun b ad=>jZ (bj _ (by simp)) ad)]
   ·rfl
  ·split
   ·rw[dZ (bj _ (by simp))]
   ·rfl
  ·split
   ·rw[dZ (bj _ (by simp)),dZ (bj _ (by simp))]
   ·rfl
  ·split
   ·rw[dZ (bj _ (by simp)),dZ (bj _ (by simp))]
   ·rfl
  ·rfl
 |build t parts=>have:∀x∈parts.toList,dY s s' x.2:=fun x ai=>h x.2 (by simp only[Op.operands,List.mem_toArray,hx];exact⟨x,ai,rfl⟩);simp only[bu,p2,Wl _ this]
 |_=>rfl
where zgp {x:aW} (h:dY s s' x):((True,look s' x):Prop×ae)=(True,look s x):=by rw[Pv h]
def Px:∀{caps:List (ag⊕(Nat×Nat))},(∀b,caps.any (l5 b)=true->s' b=s b)->pZ s' caps=pZ s caps
 |[],_=>rfl
 |.inl c::r,h=>by simp only[pZ,DI,Px (caps:=r) (fun b ad=>h b (by simp[ad]))]
 |.inr (i,off)::r,h=>by simp only[pZ,DI,Px (caps:=r) (fun b ad=>h b (by simp[ad])),h i (by simp[l5])]
def Wm{x:aW}(h:dY s s' x):o' s' x=o' s x:=by
 have ad:=fun b ad=>jZ h (b:=b) ad;simp only[o',dZ h];generalize Ab.aJ s x=r at ad;obtain⟨p,r⟩:=r;cases r with
 |alias j=>simp only[ad j (by simp[ae.refs])]
 |view j aO len wh=>simp only[ad j (by simp[ae.refs])]
 |df f caps=>simp only[Px (caps:=caps) (fun b h=>ad b h)]
 |_=>rfl
def Py:∀(args:List aW),(∀x∈args,dY s s' x)->mO s' args=mO s args
 |[],_=>rfl
 |x::r,h=>by simp only[mO,Wm (h x (by simp)),Py r (fun y aU=>h y (by simp[aU]))]
def Pz:∀(args:List aW),(∀x∈args,dY s s' x)->de s' args=de s args
 |[],_=>rfl
 |x::r,h=>by simp only[de,dZ (h x (by simp)),Pz r (fun y aU=>h y (by simp[aU]))]
def zgq{f:aW}{args:List aW}{r:bH}(aw:dY s s' f)(h:∀x∈args,dY s s' x):p5 P s' f args r=p5 P s f args r:=by simp only[p5,callee,dZ aw,Py args h]
end
def Wn{P:aM}{s s':aj}{src dst:aP}{x:Prop×ae}(h:∀b,x.2.refs b=true->s' b=s b):mg P s' src dst x=mg P s src dst x:=by
 unfold mg;split
 ·rename_i i e;rw[h i (by rw[e];simp[ae.refs])]
 ·rfl
def gZ(P:aM)(s:aj)(op:Op)(r:ae):Prop:=
 match op with
 |.alloc t=>match hT P t with
  |some cs=>r=.box cs
  |none=>False
 |.box _ x=>match aJ s x with
  |(p,.x bP)=>p/\r=.box bP.cells
  |_=>False
 |.buildSlice t len parts=>(lH P (aJ s) t len parts.toList).1/\r=(lH P (aJ s) t len parts.toList).2
 |.convert src dst x=>match ju P dst with
  |true=>(mg P s src dst (aJ s x)).1/\r=(mg P s src dst (aJ s x)).2
  |false=>(bu P s (.convert src dst x)).1/\r=(bu P s (.convert src dst x)).2
 |.call c=>match c.callee with
  |.value f=>∃d7:bH,p5 P s f c.args.toList d7/\(d7.flat ||(de s c.args.toList).isEmpty)=true/\r=d7.dj
  |_=>(bu P s (.call c)).1/\r=(bu P s (.call c)).2
 |op=>(bu P s op).1/\r=(bu P s op).2
def BB{P:aM}{s s':aj}(op:Op)(r:ae)(h:∀x∈op.operands,dY s s' x)(al:BA P s s' op):gZ P s' op r↔gZ P s op r:=by
 cases op with
 |alloc t=>exact jB
 |box t x=>simp only[gZ,dZ (h x (by simp[Op.operands]))]
 |convert src dst x=>have ai:=h x (by simp[Op.operands]);simp only[gZ,dZ ai,Hv _ h al,Wn (fun b ad=>jZ ai ad)]
 |buildSlice t len parts=>have:∀x∈parts.toList,dY s s' x.2:=fun x ai=>h x.2 (by simp only[Op.operands,List.mem_toArray,hx];exact⟨x,ai,rfl⟩);simp only[gZ,lH,Wl _ this]
 |call c=>
  obtain⟨callee,⟨args⟩,ts⟩:=c;have bj:∀x∈args,dY s s' x:=fun x ai=>h x (by simp[Op.operands,Call.operands,ai]);cases callee with
  |value f=>have aw:dY s s' f:=h f (by simp[Op.operands,Call.operands]);simp only[gZ,zgq aw bj,Pz args bj]
  |_=>simp only[gZ,Hv _ h al]
 |_=>simp only[gZ,Hv _ h al]
def mU(P:aM)(s:aj)(e:Bool)(op:Op)(r:ae):Prop:=
 match op with
 |.call c=>match c.callee with
  |.value f=>r4 P e (callee s f c.args.toList) (fun d7=>r=.cond e d7.dj)
  |_=>(e=true->(bu P s (.call c)).1)/\(bu P s (.call c)).2.aR=false/\r=.cond e (bu P s (.call c)).2
 |.buildSlice t len parts=>match e with
  |true=>gZ P s (.buildSlice t len parts) r
  |false=>r=.cond false (.x (.one (.bool false)))
 |op=>(e=true->(bu P s op).1)/\(bu P s op).2.aR=false/\r=.cond e (bu P s op).2
def D6{P:aM}{s s':aj}{e:Bool}(op:Op)(r:ae)(h:∀x∈op.operands,dY s s' x)(al:BA P s s' op):mU P s' e op r↔mU P s e op r:=by
 cases op with
 |call c=>
  obtain⟨callee,⟨args⟩,ts⟩:=c;have bj:∀x∈args,dY s s' x:=fun x ai=>h x (by simp[Op.operands,Call.operands,ai]);cases callee with
  |value f=>have aw:dY s s' f:=h f (by simp[Op.operands,Call.operands]);simp only[mU,callee,dZ aw,Py args bj]
  |_=>simp only[mU,Hv _ h al]
 |buildSlice t len parts=>
  cases e with
  |true=>exact BB (.buildSlice t len parts) r h trivial
  |false=>exact jB
 |_=>simp only[mU,Hv _ h al]
def iD(P:aM)(n:Nat)(ops:Array Oper)(o:Oper)(s s':aj):Prop:=
 ∃d r,o.dst=some d/\d<n/\(s d).aR=false/\s'=put s d r /\
  match o.guard with
  |none=>gZ P s o.op r
  |some g=>∃e,dA ops s g=some e/\mU P s e o.op r
def D7{ops:Array Oper}{s s':aj}{g:Nat×Bool}(h:∀d,(ops[g.1]?).bind (·.dst)=some d->s' d=s d):dA ops s' g=dA ops s g:=by
 unfold dA;cases aA:(ops[g.1]?).bind (·.dst)with
 |none=>rfl
 |some d=>simp only[h d aA]
def eM{s:aj}{d:Nat}{r:ae}(h:(s d).aR=false)(i:Nat):put s d r i=if i=d then (match r.refs d with|true=>.dead|false=>r)else s i:=by unfold put;rw[h];rfl
def pj{s:aj}{d:Nat}{r:ae}(hw:c5 s)(h:(s d).aR=false){x:aW}(ai:x≠.tmp d):dY s (put s d r) x:=by
 cases x with
 |tmp t=>
  have bv:t≠d:=fun e=>ai (by rw[e]);refine⟨by rw[eM h,an bv],fun b ad=>?_⟩;have zgr:b≠d:=by rintro rfl;have:=hw t b ad;rw[h]at this;cases this
  rw[eM h,an zgr]
 |_=>trivial
def xO{s:aj}{d:Nat}{r:ae}(h:(s d).aR=false)(aA:d<cU)(i off:Nat):put s d r (ch i off)=s (ch i off):=by rw[eM h,an (by unfold ch;unfold cU at aA;omega)]
def PA{P:aM}{n:Nat}{ops:Array Oper}{bZ bI:Oper}{s s1 s2:aj}(h3:∀d,bZ.dst=some d->d<cU)(fW:∀d,bI.dst=some d->d<cU)(nD:bZ.apart ops bI=true)(hw:c5 s)
  (ah:iD P n ops bZ s s1)(ac:iD P n ops bI s1 s2):∃cI,iD P n ops bI s cI/\iD P n ops bZ cI s2:=by
 obtain⟨j0,Hw,q0,d9,hB,rfl,xP⟩:=ah;obtain⟨bm,xQ,fg,fQ,dH,rfl,h4⟩:=ac;obtain⟨aa,ab,au⟩:=Oper.apart_spec nD;have bY:bm≠j0:=fun e=>ab j0 q0 (by rw[fg,e]);have qc:(s bm).aR=false:=by rw[eM hB,an bY]at dH;exact dH
 have Hx:(put s bm xQ j0).aR=false:=by rw[eM qc,an (pk bY)];exact hB
 have sg:∀(o:Oper) (d:Nat),d∉o.looksAt ops->∀x∈o.op.operands,x≠.tmp d:=by intro o d aA x ai e;subst e;exact aA (by simp only[Oper.looksAt,hg,xz];exact .inl ⟨.tmp d,by simpa using ai,rfl⟩)
 have BC:∀(o:Oper) (d:Nat) (g:Nat×Bool),d∉o.looksAt ops->o.guard=some g->∀bG,(ops[g.1]?).bind (·.dst)=some bG->bG≠d:=by intro o d g aA ay bG e2 e;subst e;refine aA ?_;simp only[Oper.looksAt,hg,ay,e2];exact .inr (by simp)
 refine⟨put s bm xQ,⟨bm,xQ,fg,fQ,qc,rfl,?_⟩,⟨j0,Hw,q0,d9,Hx,?_,?_⟩⟩
 ·have gb:∀x∈bI.op.operands,dY s (put s j0 Hw) x:=fun x ai=>pj hw hB (sg bI j0 (aa j0 q0) x ai);cases ay:bI.guard with
  |none=>rw[ay]at h4;exact(BB _ _ gb (zB (xO hB (h3 j0 q0)) _)).1 h4
  |some g=>rw[ay]at h4;obtain⟨e,he,aF⟩:=h4;refine⟨e,?_,(D6 _ _ gb (zB (xO hB (h3 j0 q0)) _)).1 aF⟩;rw[<-he];exact(D7 (fun bG e2=>by rw[eM hB,an (BC bI j0 g (aa j0 q0) ay bG e2)])).symm
 ·funext k;rw[eM dH,eM hB,eM Hx,eM qc];by_cases kF:k=bm
  ·subst kF;simp[bY]
  ·by_cases eK:k=j0
   ·subst eK;simp[kF]
   ·simp[kF,eK]
 ·have gb:∀x∈bZ.op.operands,dY s (put s bm xQ) x:=fun x ai=>pj hw qc (sg bZ bm (au bm fg) x ai);cases ay:bZ.guard with
  |none=>rw[ay]at xP;exact(BB _ _ gb (zB (xO qc (fW bm fg)) _)).2 xP
  |some g=>rw[ay]at xP;obtain⟨e,he,aF⟩:=xP;refine⟨e,?_,(D6 _ _ gb (zB (xO qc (fW bm fg)) _)).2 aF⟩;rw[<-he];exact D7 (fun bG e2=>by rw[eM qc,an (BC bZ bm g (au bm fg) ay bG e2)])
end
section
variable [bn]
def mV(a b:ae):Prop:=b=a\/(∃cs cs',a=.box cs/\b=.box cs')\/(∃e z xs ea,a=.own e z xs/\b=.own e z ea/\ea.length=xs.length)\/(∃k cs cs',a=.cR k cs/\b=.cR k cs')
def mV.owner{a b:ae}(h:mV a b):b.aR=a.aR:=by rcases h with rfl|⟨_,_,rfl,rfl⟩|⟨_,_,_,_,rfl,rfl,_⟩|⟨_,_,_,rfl,rfl⟩<;>rfl
def mV.refs{a b:ae}(h:mV a b)(j:Nat):b.refs j=a.refs j:=by rcases h with rfl|⟨_,_,rfl,rfl⟩|⟨_,_,_,_,rfl,rfl,_⟩|⟨_,_,_,rfl,rfl⟩<;>rfl
def pn(s s':aj):aW->Prop
 |.tmp t=>mV (s t) (s' t)/\∀b,(s t).refs b=true->mV (s b) (s' b)
 |_=>True
section
variable {P:aM}{s s':aj}
def Wo{x:aW}(h:pn s s' x):look s' x=look s x:=by
 cases x with
 |tmp t=>
  obtain⟨aa,_⟩:=h;simp only[look];rcases aa with aa|⟨_,_,aa,ab⟩|⟨_,_,_,_,aa,ab,_⟩|⟨_,_,_,aa,ab⟩
  ·rw[aa]
  ·rw[aa,ab]
  ·rw[aa,ab]
  ·rw[aa,ab]
 |_=>rfl
def il{x:aW}(h:pn s s' x):aJ s' x=aJ s x:=by simp only[aJ,Wo h]
def PB{x:aW}(h:pn s s' x){b:Nat}(ad:(aJ s x).2.refs b=true):mV (s b) (s' b):=by
 have al:(look s x).refs b=true:=N7 ad;cases x with
 |tmp t=>
  simp only[look]at al;split at al
  ·obtain rfl:t=b:=by simpa[ae.refs]using al
   exact h.1
  ·obtain rfl:t=b:=by simpa[ae.refs]using al
   exact h.1
  ·obtain rfl:t=b:=by simpa[ae.refs]using al
   exact h.1
  ·cases al
  ·cases al
  ·cases al
  ·exact h.2 b al
 |const v=>
  simp only[look,vL]at al;split at al
  ·split at al<;>cases al
  ·cases al
  ·split at al<;>cases al
 |_=>cases al
def PC{o:Option aW}{z:Int}(h:∀x,o=some x->pn s s' x):dG s' o z=dG s o z:=by
 cases o with
 |none=>rfl
 |some x=>simp only[dG,il (h x rfl)]
def zgs{t:aP}{x i:Prop×ae}(h:∀b,x.2.refs b=true->mV (s b) (s' b)):l' P s' t x i=l' P s t x i:=by
 unfold l';split
 ·rfl
 ·rcases h _ (nw _)with e|⟨_,_,ax,aK⟩|⟨_,_,_,_,ax,aK,cd⟩|⟨_,_,_,ax,aK⟩
  ·rw[e]
  ·rw[ax,aK]
  ·rw[ax,aK];simp only[cd]
  ·rw[ax,aK]
 ·rcases h _ (nw _)with e|⟨_,_,ax,aK⟩|⟨_,_,_,_,ax,aK,cd⟩|⟨_,_,_,ax,aK⟩
  ·rw[e]
  ·rw[ax,aK];rfl
  ·rw[ax,aK];rfl
  ·rw[ax,aK];rfl
 ·rfl
def zgt{t:aP}{x:Prop×ae}{aO ah mx:Option aW}(h:∀b,x.2.refs b=true->mV (s b) (s' b))(aa:∀z,dG s' aO z=dG s aO z)(ab:∀z,dG s' ah z=dG s ah z)(au:∀z,dG s' mx z=dG s mx z):ky P s' t x aO ah mx=ky P s t x aO ah mx:=by
 unfold ky;split
 ·simp only[aa,ab]
 ·simp only[aa,ab,au]
 ·simp only[aa,ab]
 ·rcases h _ (nw _)with e|⟨_,_,ax,aK⟩|⟨_,_,_,_,ax,aK,cd⟩|⟨_,_,_,ax,aK⟩
  ·rw[e];simp only[aa,ab,au]
  ·rw[ax,aK]
  ·rw[ax,aK];simp only[cd,aa,ab,au]
  ·rw[ax,aK]
 ·rcases h _ (nw _)with e|⟨_,_,ax,aK⟩|⟨_,_,_,_,ax,aK,cd⟩|⟨_,_,_,ax,aK⟩
  ·rw[e];simp only[aa,ab,au]
  ·rw[ax,aK];simp only[aa,ab,au];rfl
  ·rw[ax,aK];simp only[aa,ab,au];rfl
  ·rw[ax,aK];simp only[aa,ab,au];rfl
 ·rfl
def zgu{t:aP}{x:Prop×ae}(h:∀b,x.2.refs b=true->mV (s b) (s' b)):n9 P s' t x=n9 P s t x:=by
 unfold n9;split
 ·rfl
 ·rfl
 ·rfl
 ·rfl
 ·rcases h _ (nw _)with e|⟨_,_,ax,aK⟩|⟨_,_,_,_,ax,aK,cd⟩|⟨_,_,_,ax,aK⟩
  ·rw[e]
  ·rw[ax,aK]
  ·rw[ax,aK];simp only[cd]
  ·rw[ax,aK]
 ·rfl
 ·rfl
def q5:Op->Bool
 |.move _=>true
 |.assign _=>true
 |.pick _ _ _=>true
 |.nilCheck _=>true
 |.binOp _ _ _ _ _=>true
 |.unOp _ _ _=>true
 |.slice _ _ _ _ _=>true
 |.fieldAddr _ _ _=>true
 |.field _ _ _=>true
 |.indexAddr _ _ _=>true
 |.index _ _ _=>true
 |.makeFunc _ _ _=>true
 |.extract _ _=>true
 |.build _ _=>true
 |.call c=>match c.callee with
  |.builtin .len=>true
  |.builtin .max=>true
  |.builtin .min=>true
  |_=>false
 |_=>false
def hP(s:aj)(op:Op):Prop:=match op with
 |.load _ x=>∃cs,(aJ s x).2=.elem cs
 |.convert _ _ x=>∃k m,(aJ s x).2=.x (.one (.int k m))
 |op=>q5 op=true
def Wp(op:Op)(al:hP s op)(h:∀x∈op.operands,pn s s' x):bu P s' op=bu P s op:=by
 cases op with
 |move x=>exact il (h x (by simp[Op.operands]))
 |assign x=>simp only[bu,eA,Wo (h x (by simp[Op.operands]))]
 |pick c x y=>simp only[bu,eA,il (h c (by simp[Op.operands])),il (h x (by simp[Op.operands])),il (h y (by simp[Op.operands]))]
 |load t x=>
  obtain⟨cs,eD⟩:=al;have ai:=il (h x (by simp[Op.operands]));have ax:pL P s' t (aJ s x)=pL P s t (aJ s x):=by
   unfold pL;split
   ·rfl
   ·simp only[eD,mem,Ux]
  simp only[bu,eA,ai,ax]
 |nilCheck x=>simp only[bu,eA,il (h x (by simp[Op.operands]))]
 |binOp op t x y Ox=>simp only[bu,eA,td,il (h x (by simp[Op.operands])),il (h y (by simp[Op.operands]))]
 |unOp op t x=>simp only[bu,eA,il (h x (by simp[Op.operands]))]
 |convert src dst x=>obtain⟨k,m,eD⟩:=al;have ai:=il (h x (by simp[Op.operands]));simp only[bu,eA,ai];generalize Ab.aJ s x=q at eD⊢;obtain⟨p,v⟩:=q;dsimp only at eD;subst eD;rfl
 |slice t x aO ah mx=>have ai:=h x (by simp[Op.operands]);have aa:∀z,dG s' aO z=dG s aO z:=fun z=>PC (fun y aU=>h y (by subst aU;simp[Op.operands]));have ab:∀z,dG s' ah z=dG s ah z:=fun z=>PC (fun y aU=>h y (by subst aU;simp[Op.operands]));have au:∀z,dG s' mx z=dG s mx z:=fun z=>PC (fun y aU=>h y (by subst aU;simp[Op.operands]));simp only[bu,eA,il ai,zgt (fun b ad=>PB ai ad) aa ab au]
 |fieldAddr t x f=>simp only[bu,eA,il (h x (by simp[Op.operands]))]
 |field t x f=>simp only[bu,eA,il (h x (by simp[Op.operands]))]
 |indexAddr t x i=>have ai:=h x (by simp[Op.operands]);simp only[bu,eA,il ai,il (h i (by simp[Op.operands])),zgs (fun b ad=>PB ai ad)]
 |index t x i=>simp only[bu,eA,il (h x (by simp[Op.operands])),il (h i (by simp[Op.operands]))]
 |makeFunc fn first jd=>
  have:jd.toList.map (Ab.aJ s')=jd.toList.map (Ab.aJ s):=by apply Ht;intro x ai;exact il (h x (by simp[Op.operands];exact .inr (by simpa using ai)))
  simp only[bu,eA,xm,this]
 |extract x i=>simp only[bu,eA,il (h x (by simp[Op.operands]))]
 |call c=>
  obtain⟨callee,⟨args⟩,ts⟩:=c;have bj:∀x∈args,pn s s' x:=fun x ai=>h x (by simp[Op.operands,Call.operands,ai]);simp only[bu,eA];unfold uz;split
  ·split
   ·rw[il (bj _ (by simp)),zgu (fun b ad=>PB (bj _ (by simp)) ad)]
   ·rfl
  ·split
   ·rw[il (bj _ (by simp))]
   ·rfl
  ·split
   ·rw[il (bj _ (by simp)),il (bj _ (by simp))]
   ·rfl
  ·split
   ·rw[il (bj _ (by simp)),il (bj _ (by simp))]
   ·rfl
  ·rfl
 |build t parts=>
  have:(parts.toList.map fun x=>(x.1,aJ s' x.2))=(parts.toList.map fun x=>(x.1,aJ s x.2)):=by apply Ht;intro x ai;rw[il (h x.2 (by simp only[Op.operands,List.mem_toArray,hx];exact⟨x,ai,rfl⟩))]
  simp only[bu,p2,this]
 |_=>simp[hP,q5]at al
def D8{op:Op}(al:hP s op)(h:∀x∈op.operands,pn s s' x):hP s' op:=by
 cases op with
 |load t x=>obtain⟨cs,eD⟩:=al;exact⟨cs,by rw[il (h x (by simp[Op.operands]))];exact eD⟩
 |convert src dst x=>obtain⟨k,m,eD⟩:=al;exact⟨k,m,by rw[il (h x (by simp[Op.operands]))];exact eD⟩
 |_=>exact al
def Wq{op:Op}{r:ae}(al:hP s op)(h:∀x∈op.operands,pn s s' x)(ap:gZ P s op r):gZ P s' op r:=by
 have key:=Wp (P:=P) op al h;cases op with
 |call c=>
  obtain⟨callee,args,ts⟩:=c;cases callee with
  |value f=>simp[hP,q5]at al
  |_=>simp only[gZ]at ap⊢;rw[key];exact ap
 |alloc t=>simp[hP,q5]at al
 |box t x=>simp[hP,q5]at al
 |buildSlice t len parts=>simp[hP,q5]at al
 |convert src dst x=>simp only[gZ]at ap⊢;rw[key,il (h x (by simp[Op.operands]))];obtain⟨k,m,eD⟩:=al;rwa[Wn (s':=s') (s:=s) (fun b ad=>by rw[eD]at ad;cases ad)]
 |_=>simp only[gZ]at ap⊢;rw[key];exact ap
def Wr{e:Bool}{op:Op}{r:ae}(al:hP s op)(h:∀x∈op.operands,pn s s' x)(ap:mU P s e op r):mU P s' e op r:=by
 have key:=Wp (P:=P) op al h;cases op with
 |call c=>
  obtain⟨callee,args,ts⟩:=c;cases callee with
  |value f=>simp[hP,q5]at al
  |_=>simp only[mU]at ap⊢;rw[key];exact ap
 |buildSlice t len parts=>simp[hP,q5]at al
 |_=>simp only[mU]at ap⊢;rw[key];exact ap
end
def fX(s:aj)(W:List (Nat×ae)):aj:=fun i=>match W.find? (fun p=>p.1==i)with
 |some p=>p.2
 |none=>s i
def xR(P:aM)(s:aj)(t:aP)(cN x:Prop×ae):Option (Prop×Nat×ae):=
 match cN,x,(tk P t).cells with
 |(p,.ptr i off),(q,.x bP),some m=>match s i with
  |.box cs=>some ((p/\q/\bP.cells.length=m/\off+m<=cs.length)/\lB cs off m=false,i,.box (cZ cs off bP.cells))
  |.cR b cs=>some ((p/\q/\bP.cells.length=m/\off+m<=cs.length)/\lB cs off m=false,i,.cR b (cZ cs off bP.cells))
  |_=>none
 |(p,.fy i k off),(q,.x bP),some m=>match s i with
  |.own e size xs=>some (p/\q/\bP.cells.length=m/\k<xs.length/\off+m<=size,i,.own e size (xs.set k (cZ (xs.getD k []) off bP.cells)))
  |_=>none
 |_,_,_=>none
def PD(s:aj):ae->Bool
 |.ptr i _=>(s i).told
 |_=>true
def Ws{cs:List ag}(h:(ae.box cs).told=true)(off m:Nat):lB cs off m=false:=by unfold lB;rw[y3];simp only[ae.told,xx]at h;rw[y3]at h;intro x ai;exact h x (vZ (v7 ai))
def zgv{P:aM}{s:aj}{t:aP}{cN x:Prop×ae}(h:(lI P s t cN x).1)(bv:PD s cN.2=true):∃p i v,xR P s t cN x=some (p,i,v)/\p/\(lI P s t cN x).2=fX s [(i,v)]/\mV (s i) v/\(s i).aR=true/\cN.2.refs i=true:=by
 have qb:∀i v,(fun j=>if j=i then v else s j)=fX s [(i,v)]:=by
  intro i v;funext j;unfold fX;by_cases ac:j=i
  ·subst ac;simp
  ·have:(i==j)=false:=by simpa using fun e=>ac e.symm
   simp[ac,this]
 unfold lI at h⊢;unfold xR;split at h
 ·rename_i p i off q bP m e;split at h
  ·rename_i cs hs;have oj:lB cs off m=false:=Ws (by rw[<-hs];exact bv) off m;refine⟨(p/\q/\bP.cells.length=m/\off+m<=cs.length)/\lB cs off m=false,i,.box (cZ cs off bP.cells),by simp only[e,hs],⟨h,oj⟩,by simp only[oj];exact qb i _,by rw[hs];exact .inr (.inl ⟨_,_,rfl,rfl⟩),by rw[hs];rfl,by simp[ae.refs]⟩
  ·rename_i b cs hs;have oj:lB cs off m=false:=Ws (cs:=cs) (show (ae.cR b cs).told=true by rw[<-hs];exact bv) off m;refine⟨(p/\q/\bP.cells.length=m/\off+m<=cs.length)/\lB cs off m=false,i,.cR b (cZ cs off bP.cells),by simp only[e,hs],⟨h,oj⟩,by simp only[oj];exact qb i _,by rw[hs];exact .inr (.inr (.inr ⟨_,_,_,rfl,rfl⟩)),by rw[hs];rfl,by simp[ae.refs]⟩
  ·exact h.elim
 ·rename_i p i k off q bP m e;split at h
  ·rename_i cg size xs hs;refine⟨_,i,_,by simp only[e,hs];rfl,h,by simp only[hs];exact qb i _,by rw[hs];exact .inr (.inr (.inl ⟨_,_,_,_,rfl,rfl,by simp⟩)),by rw[hs];rfl,by simp[ae.refs]⟩
  ·exact h.elim
 ·exact h.elim
def po:List (ae×Option Nat)->List ae->Bool
 |(_,some _)::l,.box _::outs=>po l outs
 |(_,none)::l,_::outs=>po l outs
 |[],_=>true
 |_,_=>false
def BD(P:aM)(n:Nat)(o:Oper)(s:aj)(W:List (Nat×ae))(ec:Option (Nat×ae)):Prop:=
 o.guard=none/\match o.op with
 |.store t cN x=>o.dst=none/\ec=none/\iU P t=true/\de s [x]=[]/\∃p i v,xR P s t (aJ s cN) (jW s x)=some (p,i,v)/\p/\W=[(i,v)]
 |.call c=>match c.callee with
  |.value f=>∃d aV r outs,o.dst=some d/\d<n/\uM P s (gX s f c.args.toList) aV r outs/\po aV outs=true/\r.dj.aR=false/\W=dX aV outs/\ec=some (d,r.dj)
  |_=>False
 |_=>False
def uV(s:aj)(W:List (Nat×ae)):Option (Nat×ae)->aj
 |none=>fX s W
 |some (d,r)=>put (fX s W) d r
def uW(P:aM)(n:Nat)(o:Oper)(s s':aj):Prop:=
 ∃W ec,BD P n o s W ec/\(∀d r,ec=some (d,r)->o.dst=some d/\(s d).aR=false/\r.aR=false/\∀j,r.refs j=false)/\(ec=none->o.dst=none)/\s'=uV s W ec
section
variable {P:aM}{s s':aj}
def zgw(W:List (Nat×ae))(i:Nat):(∃v,(i,v)∈W/\fX s W i=v)\/((∀v,(i,v)∉W)/\fX s W i=s i):=by
 unfold fX;cases aw:W.find? (fun p=>p.1==i)with
 |none=>refine .inr ⟨fun v aF=>?_,rfl⟩;have:=KW.1 aw (i,v) aF;simp at this
 |some p=>have aa:=PE aw;have ab:=List.find?_some aw;simp at ab;refine .inl ⟨p.2,?_,rfl⟩;rw[<-ab];exact aa
def tJ{W:List (Nat×ae)}{i:Nat}(h:∀v,(i,v)∉W):fX s W i=s i:=by
 unfold fX;cases aw:W.find? (fun p=>p.1==i)with
 |none=>rfl
 |some p=>have aa:=PE aw;have ab:=List.find?_some aw;simp at ab;exact absurd (by rw[<-ab];exact aa) (h p.2)
def Wt(t t':aj){W:List (Nat×ae)}{i:Nat}{v:ae}(h:(i,v)∈W):fX t W i=fX t' W i:=by
 unfold fX;cases aw:W.find? (fun p=>p.1==i)with
 |none=>have:=KW.1 aw (i,v) h;simp at this
 |some p=>rfl
def xS{W:List (Nat×ae)}(h:∀i v,(i,v)∈W->mV (s i) v/\(s i).aR=true)(i:Nat):mV (s i) (fX s W i):=by
 rcases zgw (s:=s) W i with⟨v,aF,e⟩|⟨_,e⟩
 ·rw[e];exact(h i v aF).1
 ·rw[e];exact .inl rfl
def zgx{x:aW}(h:dY s s' x):tA s' x=tA s x:=by
 have ad:=fun b ad=>jZ h (b:=b) ad;simp only[tA,dZ h];generalize Ab.aJ s x=r at ad;obtain⟨p,r⟩:=r;cases r with
 |alias j=>simp only[ad j (by simp[ae.refs])]
 |ptr j off=>
  cases off with
  |zero=>simp only[ad j (by simp[ae.refs])]
  |succ k=>rfl
 |_=>rfl
def Wu:∀(args:List aW),(∀x∈args,dY s s' x)->k7 s' args=k7 s args
 |[],_=>rfl
 |x::r,h=>by simp only[k7,zgx (h x (by simp)),Wu r (fun y aU=>h y (by simp[aU]))]
def Wv:∀(caps:List (ag⊕(Nat×Nat))),(∀b,caps.any (l5 b)=true->s' b=s b)->mf s' caps=mf s caps
 |[],_=>rfl
 |c::r,h=>by
  have aa:uK s' c=uK s c:=by
   unfold uK;split
   ·rfl
   ·rename_i i;rw[h i (by simp[l5])]
   ·rfl
  simp only[mf,aa,Wv r (fun b ad=>h b (by simp[ad]))]
def zgy{f:aW}{args:List aW}(aw:dY s s' f)(h:∀x∈args,dY s s' x):gX s' f args=gX s f args:=by
 have ad:=fun b ad=>jZ aw (b:=b) ad;simp only[gX,dZ aw,Wu args h];generalize Ab.aJ s f=r at ad;obtain⟨p,r⟩:=r;have:pc s' r=pc s r:=by
  cases r with
  |df g caps=>simp only[pc,Wv caps (fun b ap=>ad b (by simpa[ae.refs]using ap))]
  |_=>rfl
 generalize k7 s args=b;obtain⟨q,b⟩:=b;cases b with
 |none=>rfl
 |some xs=>dsimp only;rw[this]
def Ww{s:aj}:∀{l:List aW} {p:Prop} {aV:List (ae×Option Nat)},k7 s l=(p,some aV)->∀y∈aV,∀i∈y.1.p_,∃x∈l,(aJ s x).2.refs i=true
 |[],p,aV,h,y,hm=>by simp only[k7,cA,b9]at h;obtain⟨_,rfl⟩:=h;cases hm
 |x::l,p,aV,h,y,hm=>by
  intro i ah;simp only[k7]at h;split at h
  ·rename_i q v eI vs ax aK;simp only[cA,b9]at h;obtain⟨_,rfl⟩:=h;rcases fp.1 hm with e|e
   ·subst e;refine⟨x,by simp,?_⟩;unfold tA at ax;split at ax
    ·simp only[cA,b9]at ax;obtain⟨_,rfl⟩:=ax;cases ah
    ·split at ax<;>first|(simp only[cA,b9]at ax;obtain⟨_,rfl⟩:=ax;cases ah;done)|(simp at ax)
    ·split at ax<;>first|(simp only[cA,b9]at ax;obtain⟨_,rfl⟩:=ax;cases ah;done)|(simp at ax)
    ·rename_i cC;simp only[cA,b9]at ax;obtain⟨_,rfl⟩:=ax;rw[cC];simp only[ae.p_,xz]at ah;obtain⟨c,ap,PF⟩:=ah;simp only[ae.refs];refine AP.2 ⟨c,ap,?_⟩;cases c with
     |inl c=>cases PF
     |inr p=>simp only[o_,b9]at PF;simp[l5,PF]
    ·rename_i cC;simp only[cA,b9]at ax;obtain⟨_,rfl⟩:=ax;rw[cC];simp only[ae.p_,nE]at ah;simp[ae.refs,ah]
    ·simp at ax
   ·obtain⟨bJ,aa,ab⟩:=Ww aK y e i ah;exact⟨bJ,oc _ aa,ab⟩
  ·simp at h
def Wx{s:aj}:∀{l:List (ag⊕(Nat×Nat))} {aV:List (ae×Option Nat)},mf s l=some aV->∀y∈aV,∀i∈y.1.p_,l.any (l5 i)=true
 |[],aV,h,y,hm=>by simp only[mf,b9]at h;subst h;cases hm
 |c::l,aV,h,y,hm=>by
  intro i ah;simp only[mf]at h;split at h
  ·rename_i x xs ax aK;injection h with h
   subst h;rcases fp.1 hm with e|e
   ·subst e;unfold uK at ax;split at ax
    ·injection ax with ax;subst ax;cases ah
    ·split at ax
     ·injection ax with ax;subst ax;cases ah
     ·cases ax
    ·rename_i k off _;by_cases lE:1000000<=off
     ·simp only[lE,decide_true,cond_true,b9]at ax;subst ax;simp only[ae.p_,nE]at ah;simp[l5,ah]
     ·simp[lE]at ax
   ·simp[Wx aK y e i ah]
  ·cases h
def zgz{s:aj}{f:aW}{args:List aW}{p:Prop}{g:FuncId}{aV:List (ae×Option Nat)}(h:gX s f args=(p,some (g,aV))):∀y∈aV,∀i∈y.1.p_,(aJ s f).2.refs i=true\/∃x∈args,(aJ s x).2.refs i=true:=by
 intro y hm i ah;unfold gX at h;split at h
 ·rename_i kz gd q xs hV aK;split at h
  ·rename_i bX caps ax;simp only[cA,b9]at h;obtain⟨_,rfl,rfl⟩:=h;rcases hg.1 hm with hm|hm
   ·exact .inr (Ww aK y hm i ah)
   ·left;rw[hV];unfold pc at ax;split at ax
    ·cases ap:mf s _ with
     |none=>rw[ap]at ax;cases ax
     |some c3=>rw[ap]at ax;simp only[uF,b9,cA]at ax;obtain⟨_,rfl⟩:=ax;exact Wx ap y hm i ah
    ·cases ap:jX _ with
     |none=>rw[ap]at ax;cases ax
     |some c3=>rw[ap]at ax;simp only[uF,b9,cA]at ax;obtain⟨_,rfl⟩:=ax;obtain⟨z,_,e⟩:=hx.1 hm;subst e;cases ah
  ·simp at h
 ·simp at h
def PG{l:List Nat}{i:Nat}:∀{t r:List Nat},i∈Bf l t r->i∈t\/i∈r
 |[],r,h=>.inr h
 |k::t,r,h=>by
  simp only[Bf]at h;cases ap:l.contains k<;>rw[ap]at h
  ·rcases fp.1 h with e|e
   ·exact .inl (by simp[e])
   ·rcases PG e with e|e
    ·exact .inl (oc _ e)
    ·exact .inr e
  ·rcases PG h with e|e
   ·exact .inl (oc _ e)
   ·exact .inr e
def Wy{l:List Nat}{i:Nat}:∀{xs:List (ae×Option Nat)},i∈Bg l xs->∃y∈xs,i∈y.1.p_
 |[],h=>by cases h
 |(x,q)::r,h=>by
  simp only[Bg]at h;rcases PG h with e|e
  ·exact⟨_,kH,e⟩
  ·obtain⟨y,aa,ab⟩:=Wy e;exact⟨y,oc _ aa,ab⟩
def zgA{xs:List (ae×Option Nat)}(h:∀y∈xs,∀i∈y.1.p_,s' i=s i):p' s' xs=p' s xs:=by
 unfold p';split
 ·rfl
 ·rename_i i r e;obtain⟨y,aa,ab⟩:=Wy (l:=ej xs) (i:=i) (xs:=xs) (by rw[e];simp);simp only[h y aa i ab]
def zgB{f:aW}{args:List aW}(aw:dY s s' f)(h:∀x∈args,dY s s' x){aV:List (ae×Option Nat)}{r:bH}{outs:List ae}:uM P s' (gX s f args) aV r outs↔uM P s (gX s f args) aV r outs:=by
 unfold uM;split
 ·rename_i p g xs e;have ay:p' s' xs=p' s xs:=zgA (fun y aU i ah=>by
   rcases zgz e y aU i ah with k|⟨x,ai,k⟩
   ·exact jZ aw k
   ·exact jZ (h x ai) k)
  rw[ay]
 ·exact jB
def Wz{n:Nat}{o:Oper}{W:List (Nat×ae)}{ec:Option (Nat×ae)}(h:∀x∈o.op.operands,dY s s' x):BD P n o s' W ec↔BD P n o s W ec:=by
 unfold BD;cases c4:o.op with
 |store t cN x=>
  rw[c4]at h;have bj:=h cN (by simp[Op.operands]);have ai:=h x (by simp[Op.operands]);have tD:jW s' x=jW s x:=by simp only[jW,Wm ai]
  have al:de s' [x]=de s [x]:=Pz [x] (fun y aU=>by simp at aU;subst aU;exact ai);have cu:xR P s' t (aJ s cN) (jW s x)=xR P s t (aJ s cN) (jW s x):=by
   unfold xR;split
   ·rename_i e _ _;rw[jZ bj (by rw[e];simp[ae.refs])]
   ·rename_i e _ _;rw[jZ bj (by rw[e];simp[ae.refs])]
   ·rfl
  simp only[tD,al,dZ bj,cu]
 |call c=>
  rw[c4]at h;obtain⟨callee,⟨args⟩,ts⟩:=c;cases callee with
  |value f=>
   have aw:dY s s' f:=h f (by simp[Op.operands,Call.operands]);have bj:∀x∈args,dY s s' x:=fun x ai=>h x (by simp[Op.operands,Call.operands,ai]);have:∀aV r outs,uM P s' (gX s' f args) aV r outs↔uM P s (gX s f args) aV r outs:=fun aV r outs=>by rw[zgy aw bj];exact zgB aw bj
   simp only[this]
  |_=>rfl
 |_=>rfl
end
def WA{ops:Array Oper}{s s':aj}{g:Nat×Bool}{e:Bool}(he:dA ops s g=some e)(h:∀d,(ops[g.1]?).bind (·.dst)=some d->(s d).aR=false->s' d=s d):dA ops s' g=dA ops s g:=by
 unfold dA at he⊢;cases aA:(ops[g.1]?).bind (·.dst)with
 |none=>rfl
 |some d=>rw[aA]at he;simp only at he⊢;rw[h d aA];cases hs:s d<;>rw[hs]at he<;>first|rfl|cases he
def PH:∀(l:List (ae×Option Nat)) (outs:List ae),((dX l outs).map (·.1)).Sublist (ej l)
 |[],_=>by simp[dX]
 |(x,none)::l,[]=>by simp[dX]
 |(x,some i)::l,[]=>by simp[dX]
 |(x,none)::l,o::outs=>by simpa[dX,ej]using PH l outs
 |(x,some i)::l,o::outs=>by have:=PH l outs;simp only[dX,ej,kC,tr];exact this.cons_cons i
def PI:∀{l:List (ae×Option Nat)} {outs:List ae},po l outs=true->∀i o,(i,o)∈dX l outs->∃cs,o=.box cs
 |[],_,_,i,o,h=>by simp[dX]at h
 |(x,none)::l,[],ad,i,o,h=>by simp[dX]at h
 |(x,some k)::l,[],ad,i,o,h=>by simp[dX]at h
 |(x,none)::l,q::outs,ad,i,o,h=>by simp only[dX]at h;exact PI (l:=l) (outs:=outs) (by simpa[po]using ad) i o h
 |(x,some k)::l,q::outs,ad,i,o,h=>by
  cases q with
  |box cs=>
   simp only[dX]at h;rcases fp.1 h with e|e
   ·injection e with ax aK;exact⟨cs,aK⟩
   ·exact PI (l:=l) (outs:=outs) (by simpa[po]using ad) i o e
  |_=>simp[po]at ad
def zgC{s:aj}{x:aW}{p:Prop}{y:ae}{i:Nat}(h:tA s x=(p,some (y,some i))):s i=y/\y.aR=true:=by
 unfold tA at h;split at h
 ·simp at h
 ·split at h
  ·rename_i hs;simp only[cA,b9]at h;obtain⟨_,rfl,rfl⟩:=h;exact⟨hs,rfl⟩
  ·rename_i hs;simp only[cA,b9]at h;obtain⟨_,rfl,rfl⟩:=h;exact⟨hs,rfl⟩
  ·simp at h
 ·split at h
  ·rename_i hs;simp only[cA,b9]at h;obtain⟨_,rfl,rfl⟩:=h;exact⟨hs,rfl⟩
  ·simp at h
 ·simp at h
 ·simp at h
 ·simp at h
def WB{s:aj}:∀{l:List aW} {p:Prop} {aV:List (ae×Option Nat)},k7 s l=(p,some aV)->∀(y:ae) (i:Nat),(y,some i)∈aV->s i=y/\y.aR=true
 |[],p,aV,h,y,i,hm=>by simp only[k7,cA,b9]at h;obtain⟨_,rfl⟩:=h;cases hm
 |x::l,p,aV,h,y,i,hm=>by
  simp only[k7]at h;split at h
  ·rename_i q v eI vs ax aK;simp only[cA,b9]at h;obtain⟨_,rfl⟩:=h;rcases fp.1 hm with e|e
   ·subst e;exact zgC ax
   ·exact WB aK y i e
  ·simp at h
def WC{s:aj}:∀{l:List (ag⊕(Nat×Nat))} {aV:List (ae×Option Nat)},mf s l=some aV->∀(y:ae) (i:Nat),(y,some i)∈aV->s i=y/\y.aR=true
 |[],aV,h,y,i,hm=>by simp only[mf,b9]at h;subst h;cases hm
 |c::l,aV,h,y,i,hm=>by
  simp only[mf]at h;split at h
  ·rename_i x xs ax aK;injection h with h
   subst h;rcases fp.1 hm with e|e
   ·subst e;unfold uK at ax;split at ax
    ·injection ax with ax;simp at ax
    ·split at ax
     ·rename_i hs;injection ax with ax;simp only[cA,b9]at ax;obtain⟨rfl,rfl⟩:=ax;exact⟨hs,rfl⟩
     ·cases ax
    ·rename_i off _;by_cases lE:1000000<=off
     ·simp[lE]at ax
     ·simp[lE]at ax
   ·exact WC aK y i e
  ·cases h
def WD{s:aj}{f:aW}{args:List aW}{p:Prop}{g:FuncId}{aV:List (ae×Option Nat)}(h:gX s f args=(p,some (g,aV)))(y:ae)(i:Nat)(hm:(y,some i)∈aV):s i=y/\y.aR=true:=by
 unfold gX at h;split at h
 ·rename_i kz gd q xs hV aK;split at h
  ·rename_i bX caps ax;simp only[cA,b9]at h;obtain⟨_,rfl,rfl⟩:=h;rcases hg.1 hm with hm|hm
   ·exact WB aK y i hm
   ·unfold pc at ax;split at ax
    ·cases ap:mf s _ with
     |none=>rw[ap]at ax;cases ax
     |some c3=>rw[ap]at ax;simp only[uF,b9,cA]at ax;obtain⟨_,rfl⟩:=ax;exact WC ap y i hm
    ·cases ap:jX _ with
     |none=>rw[ap]at ax;cases ax
     |some c3=>rw[ap]at ax;simp only[uF,b9,cA]at ax;obtain⟨_,rfl⟩:=ax;obtain⟨z,_,e⟩:=hx.1 hm;simp at e
  ·simp at h
 ·simp at h
def WE{s:aj}{f:aW}{args:List aW}{p:Prop}{g:FuncId}{xs c3:List (ae×Option Nat)}(h:gX s f args=(p,some (g,xs)))(aZ:c3=xs\/∃i cs,p' s xs=some (i,cs)/\c3=xs++[(.box cs,some i)])(y:ae)(i:Nat)(hm:(y,some i)∈c3):s i=y/\y.aR=true:=by
 rcases aZ with rfl|⟨k,cs,ay,rfl⟩
 ·exact WD h y i hm
 ·rcases hg.1 hm with hm|hm
  ·exact WD h y i hm
  ·simp only[nE,cA,b9]at hm;obtain⟨rfl,rfl⟩:=hm;exact⟨VD ay,rfl⟩
def PJ{P:aM}{n:Nat}{o:Oper}{s:aj}{W:List (Nat×ae)}{ec:Option (Nat×ae)}(h:BD P n o s W ec):(∀i v,(i,v)∈W->mV (s i) v/\(s i).aR=true)/\(W.map (·.1)).Nodup:=by
 unfold BD at h;obtain⟨_,h⟩:=h;split at h
 ·rename_i t cN x c4;obtain⟨_,_,_,_,p,i,v,cu,_,rfl⟩:=h;refine⟨fun j u ac=>?_,by simp⟩;simp only[nE,cA]at ac;obtain⟨rfl,rfl⟩:=ac;unfold xR at cu;split at cu
  ·split at cu
   ·rename_i cs hs;simp only[b9,cA]at cu;obtain⟨_,rfl,rfl⟩:=cu;rw[hs];exact⟨.inr (.inl ⟨_,_,rfl,rfl⟩),rfl⟩
   ·rename_i b cs hs;simp only[b9,cA]at cu;obtain⟨_,rfl,rfl⟩:=cu;rw[hs];exact⟨.inr (.inr (.inr ⟨_,_,_,rfl,rfl⟩)),rfl⟩
   ·cases cu
  ·split at cu
   ·rename_i e size xs hs;simp only[b9,cA]at cu;obtain⟨_,rfl,rfl⟩:=cu;rw[hs];exact⟨.inr (.inr (.inl ⟨_,_,_,_,rfl,rfl,by simp⟩)),rfl⟩
   ·cases cu
  ·cases cu
 ·split at h
  ·obtain⟨d,aV,r,outs,_,_,c0,ww,_,rfl,_⟩:=h;obtain⟨fm,hi,p,g,xs,ap,aZ⟩:=Kw c0;refine⟨fun i v xT=>?_,(PH aV outs).nodup hi⟩;obtain⟨cs,rfl⟩:=PI ww i v xT;obtain⟨j,x,aa,ab⟩:=xy xT;obtain⟨hs,aB⟩:=WE ap aZ x i (kt aa);have aw:=(p8 fm).2 j x (.box cs) (by rw[eZ,aa];rfl) ab;rw[hs];cases x<;>first|exact⟨.inr (.inl ⟨_,_,rfl,rfl⟩),rfl⟩|(simp[eB]at aw)
  ·exact h.elim
 ·exact h.elim
def nF{ops:Array Oper}(o:Oper)(d:Nat)(aA:d∉o.looksAt ops):∀x∈o.op.operands,x≠.tmp d:=by intro x ai e;subst e;exact aA (by simp only[Oper.looksAt,hg,xz];exact .inl ⟨.tmp d,by simpa using ai,rfl⟩)
def KX{ops:Array Oper}(o:Oper)(d:Nat)(g:Nat×Bool)(aA:d∉o.looksAt ops)(ay:o.guard=some g):∀bG,(ops[g.1]?).bind (·.dst)=some bG->bG≠d:=by intro bG e2 e;subst e;refine aA ?_;simp only[Oper.looksAt,hg,ay,e2];exact .inr (by simp)
def q6(s:aj)(W:List (Nat×ae))(i:Nat):Option (Nat×ae)->ae
 |some (d,r)=>if i=d then r else fX s W i
 |none=>fX s W i
attribute[simp]q6.eq_2 q6.eq_1
def wz{s:aj}{W:List (Nat×ae)}{ec:Option (Nat×ae)}(aA:∀d r,ec=some (d,r)->(fX s W d).aR=false/\∀j,r.refs j=false)(i:Nat):uV s W ec i=q6 s W i ec:=by
 cases ec with
 |none=>rfl
 |some p=>
  obtain⟨d,r⟩:=p;obtain⟨aa,ab⟩:=aA d r rfl;show put (fX s W) d r i=_
  rw[eM aa];by_cases ah:i=d
  ·simp[ah,ab]
  ·simp[ah]
def WG{P:aM}{n:Nat}{ops:Array Oper}{ol ow:Oper}{s s1 s2:aj}(PK:∀d,ol.dst=some d->d∉ow.looksAt ops)(Hy:∀d,ow.dst=some d->d∉ol.looksAt ops)(Hz:∀d,ol.dst=some d->ow.dst≠some d)(hw:c5 s)
  (al:iD P n ops ol s s1)(ar:hP s ol.op)(ah:uW P n ow s1 s2):∃cI,uW P n ow s cI/\iD P n ops ol cI s2/\hP cI ol.op:=by
 obtain⟨d,r,aA,hdn,cl,rfl,aF⟩:=al;obtain⟨W,ec,bC,iE,BE,rfl⟩:=ah;have gb:∀x∈ow.op.operands,dY s (put s d r) x:=fun x ai=>pj hw cl (nF ow d (PK d aA) x ai);have am:∀i,i≠d->put s d r i=s i:=fun i ah=>by rw[eM cl,an ah]
 have WF:=(Wz gb).1 bC;obtain⟨wA,_⟩:=PJ WF;have HA:∀i v,(i,v)∈W->i≠d:=by rintro i v xT rfl;have:=(wA i v xT).2;rw[cl]at this;cases this
 have g9:∀i v,(i,v)∈W->(put s d r i).aR=true:=by intro i v xT;rw[am i (HA i v xT)];exact(wA i v xT).2
 have BF:∀bG cD,ec=some (bG,cD)->ow.dst=some bG/\(s bG).aR=false/\cD.aR=false/\∀j,cD.refs j=false:=by intro bG cD h;obtain⟨aa,ab,au,aN⟩:=iE bG cD h;have bY:bG≠d:=fun e=>Hz d aA (by rw[aa,e]);rw[am bG bY]at ab;exact⟨aa,ab,au,aN⟩
 have jx:∀(t:aj) (bG:Nat),(t bG).aR=false->(∀i v,(i,v)∈W->(t i).aR=true)->fX t W bG=t bG:=by intro t bG aa ab;exact tJ (fun v aF=>by have:=ab bG v aF;rw[aa]at this;cases this)
 have k_:∀bG cD,ec=some (bG,cD)->(fX s W bG).aR=false/\∀j,cD.refs j=false:=fun bG cD h=>by obtain⟨_,ab,_,aN⟩:=BF bG cD h;exact⟨by rw[jx s bG ab (fun i v aF=>(wA i v aF).2)];exact ab,aN⟩
 have q7:∀bG cD,ec=some (bG,cD)->(fX (put s d r) W bG).aR=false/\∀j,cD.refs j=false:=fun bG cD h=>by obtain⟨_,ab,_,aN⟩:=iE bG cD h;exact⟨by rw[jx _ bG ab (fun i v aF=>g9 i v aF)];exact ab,aN⟩
 have WH:fX s W d=s d:=jx s d cl (fun i v aF=>(wA i v aF).2);have zgD:(uV s W ec d)=s d:=by
  rw[wz k_];cases ec with
  |none=>exact WH
  |some p=>obtain⟨bG,cD⟩:=p;have bY:d≠bG:=fun e=>Hz d aA (by rw[e];exact(BF bG cD rfl).1);simp only[q6.eq_1,an bY];exact WH
 have DR:(uV s W ec d).aR=false:=by rw[zgD];exact cl
 have hf:∀i,(∀bG,ow.dst=some bG->i≠bG)->mV (s i) (uV s W ec i):=by
  intro i hid;rw[wz k_];cases ec with
  |none=>exact xS wA i
  |some p=>obtain⟨bG,cD⟩:=p;simp only[q6.eq_1,an (hid bG (BF bG cD rfl).1)];exact xS wA i
 have BG:∀x∈ol.op.operands,pn s (uV s W ec) x:=by
  intro x ai;cases x with
  |tmp t=>
   refine⟨hf t (fun bG e2 e=>?_),fun b ad=>hf b (fun bG e2 e=>?_)⟩
   ·subst e;exact nF ol t (Hy t e2) _ ai rfl
   ·subst e;obtain⟨aa,ab,_⟩:ow.dst=some b/\(s b).aR=false/\True:=by
     cases hX:ec with
     |none=>rw[BE hX]at e2;cases e2
     |some p=>
      obtain⟨bG,cD⟩:=p;obtain⟨aE,aQ,_⟩:=BF bG cD hX;rw[e2]at aE;injection aE with aE;subst aE
      exact⟨e2,aQ,trivial⟩
    have:=hw t b ad;rw[ab]at this;cases this
  |_=>trivial
 refine⟨uV s W ec,⟨W,ec,WF,BF,BE,rfl⟩,⟨d,r,aA,hdn,DR,?_,?_⟩,D8 ar BG⟩
 ·funext i;rw[wz q7,eM DR,wz k_];by_cases ah:i=d
  ·subst ah;have ax:fX (put s i r) W i=put s i r i:=tJ (fun v aF=>HA i v aF rfl);cases ec with
   |none=>simp[ax,eM cl]
   |some p=>obtain⟨bG,cD⟩:=p;have bY:i≠bG:=fun e=>Hz i aA (by rw[e];exact(BF bG cD rfl).1);simp[bY,ax,eM cl]
  ·have ax:fX (put s d r) W i=fX s W i:=by
    by_cases BH:∃v,(i,v)∈W
    ·obtain⟨v,aF⟩:=BH;exact Wt _ _ aF
    ·have q8:∀v,(i,v)∉W:=fun v aF=>BH ⟨v,aF⟩;rw[tJ q8,tJ q8,am i ah]
   cases ec with
   |none=>simp only[q6.eq_2,an ah,ax]
   |some p=>obtain⟨bG,cD⟩:=p;simp only[q6.eq_1,an ah,ax]
 ·cases ay:ol.guard with
  |none=>rw[ay]at aF;exact Wq ar BG aF
  |some g=>
   rw[ay]at aF;obtain⟨e,he,aF⟩:=aF;refine⟨e,?_,Wr ar BG aF⟩;rw[<-he];refine WA he (fun bG e2 aB=>?_);rw[wz k_];have q8:∀v,(bG,v)∉W:=fun v aF=>by have:=(wA bG v aF).2;rw[aB]at this;cases this
   cases hX:ec with
   |none=>exact tJ q8
   |some p=>obtain⟨d2,mL⟩:=p;have bY:bG≠d2:=KX ol d2 g (Hy d2 (BF d2 mL hX).1) ay bG e2;simp only[q6.eq_1,an bY];exact tJ q8
def mV.symm{a b:ae}(h:mV a b):mV b a:=by
 rcases h with rfl|⟨_,_,rfl,rfl⟩|⟨_,_,_,_,rfl,rfl,h⟩|⟨_,_,_,rfl,rfl⟩
 ·exact .inl rfl
 ·exact .inr (.inl ⟨_,_,rfl,rfl⟩)
 ·exact .inr (.inr (.inl ⟨_,_,_,_,rfl,rfl,h.symm⟩))
 ·exact .inr (.inr (.inr ⟨_,_,_,rfl,rfl⟩))
def pn.symm{s s':aj}{x:aW}(h:pn s s' x):pn s' s x:=by
 cases x with
 |tmp t=>exact⟨h.1.symm,fun b ad=>(h.2 b (by rw[<-h.1.refs b];exact ad)).symm⟩
 |_=>trivial
def WI{P:aM}{n:Nat}{ops:Array Oper}{ol ow:Oper}{s s1 s2:aj}(PK:∀d,ol.dst=some d->d∉ow.looksAt ops)(Hy:∀d,ow.dst=some d->d∉ol.looksAt ops)(Hz:∀d,ol.dst=some d->ow.dst≠some d)(hw:c5 s)
  (ah:uW P n ow s s1)(al:iD P n ops ol s1 s2)(ar:hP s1 ol.op):∃cI,iD P n ops ol s cI/\hP s ol.op/\uW P n ow cI s2:=by
 obtain⟨W,ec,bC,iE,BE,rfl⟩:=ah;obtain⟨g9,_⟩:=PJ bC;obtain⟨d,r,aA,hdn,WJ,rfl,aF⟩:=al;have jx:∀(t:aj) (bG:Nat),(t bG).aR=false->(∀i v,(i,v)∈W->(t i).aR=true)->fX t W bG=t bG:=by intro t bG aa ab;exact tJ (fun v aF=>by have:=ab bG v aF;rw[aa]at this;cases this)
 have k_:∀bG cD,ec=some (bG,cD)->(fX s W bG).aR=false/\∀j,cD.refs j=false:=fun bG cD h=>by obtain⟨_,ab,_,aN⟩:=iE bG cD h;exact⟨by rw[jx s bG ab (fun i v aF=>(g9 i v aF).2)];exact ab,aN⟩
 have bY:∀bG cD,ec=some (bG,cD)->d≠bG:=fun bG cD h e=>Hz d aA (by rw[e];exact(iE bG cD h).1);have zgE:uV s W ec d=fX s W d:=by
  rw[wz k_];cases hX:ec with
  |none=>rfl
  |some p=>obtain⟨bG,cD⟩:=p;simp only[q6.eq_1,an (bY bG cD hX)]
 have cl:(s d).aR=false:=by have:=(xS (s:=s) g9 d).owner;rw[<-zgE,WJ]at this;exact this.symm
 have HA:∀i v,(i,v)∈W->i≠d:=by rintro i v xT rfl;have:=(g9 i v xT).2;rw[cl]at this;cases this
 have hf:∀i,(∀bG,ow.dst=some bG->i≠bG)->mV (s i) (uV s W ec i):=by
  intro i hid;rw[wz k_];cases hX:ec with
  |none=>exact xS g9 i
  |some p=>obtain⟨bG,cD⟩:=p;simp only[q6.eq_1,an (hid bG (iE bG cD hX).1)];exact xS g9 i
 have BG:∀x∈ol.op.operands,pn s (uV s W ec) x:=by
  intro x ai;cases x with
  |tmp t=>
   refine⟨hf t (fun bG e2 e=>?_),fun b ad=>hf b (fun bG e2 e=>?_)⟩
   ·subst e;exact nF ol t (Hy t e2) _ ai rfl
   ·subst e;have ab:(s b).aR=false:=by
     cases hX:ec with
     |none=>rw[BE hX]at e2;cases e2
     |some p=>
      obtain⟨bG,cD⟩:=p;obtain⟨aE,aQ,_⟩:=iE bG cD hX;rw[e2]at aE;injection aE with aE;subst aE
      exact aQ
    have:=hw t b ad;rw[ab]at this;cases this
  |_=>trivial
 have am:∀i,i≠d->put s d r i=s i:=fun i ah=>by rw[eM cl,an ah]
 have gb:∀x∈ow.op.operands,dY s (put s d r) x:=fun x ai=>pj hw cl (nF ow d (PK d aA) x ai);have aS:=D8 ar (fun x ai=>(BG x ai).symm);have WK:∀bG cD,ec=some (bG,cD)->ow.dst=some bG/\(put s d r bG).aR=false/\cD.aR=false/\∀j,cD.refs j=false:=by intro bG cD h;obtain⟨aa,ab,au,aN⟩:=iE bG cD h;rw[<-am bG (pk (bY bG cD h))]at ab;exact⟨aa,ab,au,aN⟩
 have q7:∀bG cD,ec=some (bG,cD)->(fX (put s d r) W bG).aR=false/\∀j,cD.refs j=false:=fun bG cD h=>by obtain⟨_,ab,_,aN⟩:=WK bG cD h;refine⟨?_,aN⟩;rw[jx _ bG ab (fun i v aF=>by rw[am i (HA i v aF)];exact(g9 i v aF).2)];exact ab
 refine⟨put s d r,⟨d,r,aA,hdn,cl,rfl,?_⟩,aS,⟨W,ec,(Wz gb).2 bC,WK,BE,?_⟩⟩
 ·cases ay:ol.guard with
  |none=>rw[ay]at aF;exact Wq ar (fun x ai=>(BG x ai).symm) aF
  |some g=>
   rw[ay]at aF;obtain⟨e,he,aF⟩:=aF;refine⟨e,?_,Wr ar (fun x ai=>(BG x ai).symm) aF⟩;rw[<-he];refine WA he (fun bG e2 aB=>?_);rw[wz k_]at aB⊢;cases hX:ec with
   |none=>
    rw[hX]at aB;have q8:∀v,(bG,v)∉W:=fun v aF=>by have:=(xS (s:=s) g9 bG).owner;rw[(g9 bG v aF).2]at this;simp only[q6.eq_2]at aB;rw[aB]at this;cases this
    exact(tJ q8).symm
   |some p=>
    obtain⟨d2,mL⟩:=p;have UT:bG≠d2:=KX ol d2 g (Hy d2 (iE d2 mL hX).1) ay bG e2;rw[hX]at aB;simp only[q6.eq_1,an UT]at aB⊢;have q8:∀v,(bG,v)∉W:=fun v aF=>by have:=(xS (s:=s) g9 bG).owner;rw[(g9 bG v aF).2,aB]at this;cases this
    exact(tJ q8).symm
 ·funext i;rw[wz q7,eM WJ,wz k_];by_cases ah:i=d
  ·subst ah;have ax:fX (put s i r) W i=put s i r i:=tJ (fun v aF=>HA i v aF rfl);cases hX:ec with
   |none=>simp[ax,eM cl]
   |some p=>obtain⟨bG,cD⟩:=p;simp[bY bG cD hX,ax,eM cl]
  ·have ax:fX (put s d r) W i=fX s W i:=by
    by_cases BH:∃v,(i,v)∈W
    ·obtain⟨v,aF⟩:=BH;exact Wt _ _ aF
    ·have q8:∀v,(i,v)∉W:=fun v aF=>BH ⟨v,aF⟩;rw[tJ q8,tJ q8,am i ah]
   cases hX:ec with
   |none=>simp only[q6.eq_2,an ah,ax]
   |some p=>obtain⟨bG,cD⟩:=p;simp only[q6.eq_1,an ah,ax]
def WL{s:aj}{op:Op}(h:q5 op=true):hP s op:=by cases op<;>first|exact h|(simp[q5]at h)
def zgF{P:aM}{s:aj}{t:aP}{cN x:Prop×ae}{p:Prop}{i:Nat}{v:ae}(h:xR P s t cN x=some (p,i,v))(am:p):(lI P s t cN x).1/\(lI P s t cN x).2=fX s [(i,v)]:=by
 have qb:∀i v,(fun j=>if j=i then v else s j)=fX s [(i,v)]:=by
  intro i v;funext j;unfold fX;by_cases ac:j=i
  ·subst ac;simp
  ·have:(i==j)=false:=by simpa using fun e=>ac e.symm
   simp[ac,this]
 unfold xR at h;unfold lI;split at h
 ·rename_i e;split at h
  ·rename_i hs;simp only[b9,cA]at h;obtain⟨rfl,rfl,rfl⟩:=h;simp only[e,hs,am.2];exact⟨am.1,qb _ _⟩
  ·rename_i hs;simp only[b9,cA]at h;obtain⟨rfl,rfl,rfl⟩:=h;simp only[e,hs,am.2];exact⟨am.1,qb _ _⟩
  ·cases h
 ·rename_i e;split at h
  ·rename_i hs;simp only[b9,cA]at h;obtain⟨rfl,rfl,rfl⟩:=h;simp only[e,hs];exact⟨am,qb _ _⟩
  ·cases h
 ·cases h
def KY:∀(l:List (ae×Option Nat)) (outs:List ae) (s:aj),po l outs=true->(ej l).Nodup->gf s l outs=fX s (dX l outs)
 |[],outs,s,_,_=>by cases outs<;>(funext i;rfl)
 |(x,none)::l,[],s,h,_=>by simp[po]at h
 |(x,some k)::l,[],s,h,_=>by simp[po]at h
 |(x,none)::l,o::outs,s,h,aX=>by simp only[gf,dX];exact KY l outs s (by simpa[po]using h) (by simpa[ej]using aX)
 |(x,some k)::l,o::outs,s,h,aX=>by
  cases o with
  |box cs=>
   simp only[gf,dX];simp only[ej,tr]at aX;have xA:=(wj.1 aX).1;rw[KY l outs _ (by simpa[po]using h) (wj.1 aX).2];funext i;unfold fX;simp only[List.find?_cons];by_cases xF:k=i
   ·subst xF;simp only[nw];have:(dX l outs).find? (fun p=>p.1==k)=none:=by
     rw[KW];rintro⟨j,v⟩ ac;simp only[fc];rintro rfl;obtain⟨m,y,aa,_⟩:=xy ac;exact xA (zq aa)
    rw[this];simp[xw]
   ·have:(k==i)=false:=by simpa using xF
    simp only[this];cases (dX l outs).find? (fun p=>p.1==i)with
    |some p=>rfl
    |none=>simp[xw,pk xF]
  |_=>simp[po]at h
section
variable {P:aM}{S0:Env}{w0 w:bb}{n:Nat}{s:aj}{a:Act}
def zgG(af:Rel S0 w0 n s a w)(o:Oper)(eX:∀d,o.dst=some d->S0.m<=d){s':aj}(h:uW P n o s s'){bT:Act->bb->Prop}{Q:Exit->Act->bb->Prop}
  (ct:∀a' w',Rel S0 w0 n s' a' w'->bT a' w'):o.wp P a w bT Q:=by
 obtain⟨W,ec,hw,iE,hdn,rfl⟩:=h;unfold BD at hw;obtain⟨ay,hw⟩:=hw;split at hw
 ·rename_i t cN x c4;obtain⟨eS,rfl,aB,al,p,i,v,cu,am,rfl⟩:=hw;obtain⟨aa,ab⟩:=zgF cu am;refine zy (P:=P) (K:=fun t=>t=fX s [(i,v)]) af o eX ?_ (fun s1 a' w' bQ cT=>by subst cT;exact ct a' w' bQ);rw[c4,eS];have ma:lJ s (aJ s cN) (aJ s x)=none:=by
   cases f':lJ s (aJ s cN) (aJ s x)with
   |none=>rfl
   |some y=>obtain⟨kz,bL,off,d⟩:=y;obtain⟨_,_,_,aK,_⟩:=He f';simp[de,aK,A9]at al
  simp only[gg,ma,al,dy];exact⟨aB,aa,ab⟩
 ·rename_i c c4;split at hw
  ·rename_i f aw;obtain⟨d,aV,r,outs,eS,BE,c0,ww,zf,rfl,rfl⟩:=hw;have hi:=(Kw c0).2.1;refine O4 (P:=P) (f:=f) (args:=c.args) (K:=fun t=>t=uV s (dX aV outs) (some (d,r.dj))) af ?_ ⟨c.argTypes,by rw[c4];cases c;simp at aw;simp[aw]⟩ eS (eX d eS) (fun s1 a' w' bQ cT=>by subst cT;exact ct a' w' bQ);refine wm.2 ⟨aV,r,outs,c0,BE,?_⟩;show put (gf s aV outs) d r.dj=put (fX s (dX aV outs)) d r.dj
   rw[KY aV outs s ww hi]
  ·exact hw.elim
 ·exact hw.elim
def WM{o:Oper}{s':aj}(hw:c5 s)(h:uW P n o s s'):c5 s':=by
 obtain⟨W,ec,bC,iE,_,rfl⟩:=h;obtain⟨g9,_⟩:=PJ bC;have aa:c5 (fX s W):=by intro i j cV;have ah:=xS (s:=s) g9 i;rw[ah.refs]at cV;rw[(xS (s:=s) g9 j).owner];exact hw i j cV
 cases ec with
 |none=>exact aa
 |some p=>obtain⟨d,r⟩:=p;exact fT aa (fun j ac=>by rw[(iE d r rfl).2.2.2 j]at ac;cases ac)
end
end
section
variable [bn]
def BI:Op->Bool
 |.buildSlice _ _ _=>true
 |.makeMap _ _=>true
 |.makeSlice _ _ _=>true
 |.call c=>match c.callee with
  |.builtin .append=>true
  |_=>false
 |_=>false
def g_(ops:Array Oper)(op:Op):Bool:=
 match op with
 |.store _ _ _=>false
 |.makeMap _ _=>false
 |.mapUpdate _ _ _ _=>false
 |.assign (.tmp t)=>!(ops.toList.any fun o=>o.dst==some t&&BI o.op)
 |.call c=>match c.callee with
  |.builtin .append=>false
  |_=>true
 |_=>true
def dU(P:aM)(n:Nat)(ops:Array Oper)(o:Oper)(s:aj)(K:aj->Prop):Prop:=
 match o.dst with
 |none=>False
 |some d=>d<n/\(s d).aR=false /\
  match o.guard with
  |none=>match o.op with
   |.alloc t=>match hT P t with
    |some cs=>K (put s d (.box cs))
    |none=>False
   |.box _ x=>match aJ s x with
    |(p,.x bP)=>p/\K (put s d (.box bP.cells))
    |_=>False
   |.buildSlice t len parts=>(lH P (aJ s) t len parts.toList).1/\K (put s d (lH P (aJ s) t len parts.toList).2)
   |.convert src dst x=>match ju P dst with
    |true=>(mg P s src dst (aJ s x)).1/\K (put s d (mg P s src dst (aJ s x)).2)
    |false=>(bu P s (.convert src dst x)).1/\K (put s d (bu P s (.convert src dst x)).2)
   |.call c=>match c.callee with
    |.value f=>∃d7:bH,p5 P s f c.args.toList d7/\(d7.flat ||(de s c.args.toList).isEmpty)=true/\K (put s d d7.dj)
    |_=>(bu P s (.call c)).1/\K (put s d (bu P s (.call c)).2)
   |op=>(bu P s op).1/\K (put s d (bu P s op).2)
  |some g=>match dA ops s g with
   |some e=>match o.op with
    |.call c=>match c.callee with
     |.value f=>r4 P e (callee s f c.args.toList) (fun d7=>K (put s d (.cond e d7.dj)))
     |_=>(e=true->(bu P s (.call c)).1)/\(bu P s (.call c)).2.aR=false/\K (put s d (.cond e (bu P s (.call c)).2))
    |.buildSlice t len parts=>match e with
     |true=>(lH P (aJ s) t len parts.toList).1/\K (put s d (lH P (aJ s) t len parts.toList).2)
     |false=>K (put s d (.cond false (.x (.one (.bool false)))))
    |op=>(e=true->(bu P s op).1)/\(bu P s op).2.aR=false/\K (put s d (.cond e (bu P s op).2))
   |none=>False
def HB{P:aM}{n:Nat}{ops:Array Oper}{o:Oper}{s:aj}{K:aj->Prop}(h:dU P n ops o s K):∃s',iD P n ops o s s'/\K s':=by
 unfold dU at h;cases aA:o.dst with
 |none=>rw[aA]at h;exact h.elim
 |some d=>
  rw[aA]at h;obtain⟨aX,aB,h⟩:=h;unfold iD;cases ay:o.guard with
  |none=>
   rw[ay]at h;simp only at h⊢;cases c4:o.op with
   |alloc t=>
    rw[c4]at h;simp only at h;cases aZ:hT P t with
    |none=>rw[aZ]at h;exact h.elim
    |some cs=>rw[aZ]at h;exact⟨_,⟨d,_,aA,aX,aB,rfl,by simp only[gZ,aZ]⟩,h⟩
   |box t x=>
    rw[c4]at h;simp only at h;split at h
    ·rename_i p bP e;exact⟨_,⟨d,_,aA,aX,aB,rfl,by simp only[gZ,e];first|exact⟨h.1,rfl⟩|exact⟨h.1,trivial⟩⟩,h.2⟩
    ·exact h.elim
   |buildSlice t len parts=>rw[c4]at h;exact⟨_,⟨d,_,aA,aX,aB,rfl,h.1,rfl⟩,h.2⟩
   |convert src dst x=>
    rw[c4]at h;simp only at h;cases gQ:ju P dst with
    |true=>rw[gQ]at h;exact⟨_,⟨d,_,aA,aX,aB,rfl,by simp only[gZ,gQ];first|exact⟨h.1,rfl⟩|exact⟨h.1,trivial⟩⟩,h.2⟩
    |false=>rw[gQ]at h;exact⟨_,⟨d,_,aA,aX,aB,rfl,by simp only[gZ,gQ];first|exact⟨h.1,rfl⟩|exact⟨h.1,trivial⟩⟩,h.2⟩
   |call c=>
    rw[c4]at h;simp only at h;cases ap:c.callee with
    |value f=>rw[ap]at h;obtain⟨d7,aa,ab,au⟩:=h;exact⟨_,⟨d,_,aA,aX,aB,rfl,by simp only[gZ,ap];exact⟨d7,aa,ab,rfl⟩⟩,au⟩
    |_=>rw[ap]at h;exact⟨_,⟨d,_,aA,aX,aB,rfl,by simp only[gZ,ap];first|exact⟨h.1,rfl⟩|exact⟨h.1,trivial⟩⟩,h.2⟩
   |_=>rw[c4]at h;exact⟨_,⟨d,_,aA,aX,aB,rfl,h.1,rfl⟩,h.2⟩
  |some g=>
   rw[ay]at h;simp only at h⊢;cases he:dA ops s g with
   |none=>rw[he]at h;exact h.elim
   |some e=>
    rw[he]at h;simp only at h;cases c4:o.op with
    |call c=>
     rw[c4]at h;simp only at h;cases ap:c.callee with
     |value f=>rw[ap]at h;obtain⟨d7,aa,au⟩:=G3 h;exact⟨_,⟨d,.cond e d7.dj,aA,aX,aB,rfl,e,rfl,by simp only[mU,ap];exact aa _ rfl⟩,au⟩
     |_=>rw[ap]at h;exact⟨_,⟨d,_,aA,aX,aB,rfl,e,rfl,by simp only[mU,ap];first|exact⟨h.1,h.2.1,rfl⟩|exact⟨h.1,h.2.1,trivial⟩⟩,h.2.2⟩
    |buildSlice t len parts=>
     rw[c4]at h;cases e with
     |true=>exact⟨_,⟨d,_,aA,aX,aB,rfl,true,rfl,h.1,rfl⟩,h.2⟩
     |false=>exact⟨_,⟨d,_,aA,aX,aB,rfl,false,rfl,rfl⟩,h⟩
    |_=>rw[c4]at h;exact⟨_,⟨d,_,aA,aX,aB,rfl,e,rfl,h.1,h.2.1,rfl⟩,h.2.2⟩
def iF(o:Oper):Bool:=match o.op with
 |.call c=>match c.callee with
  |.value _=>o.guard.isNone
  |_=>false
 |_=>false
def sh(o:Oper):Bool:=match o.op with
 |.store _ _ _=>o.guard.isNone
 |_=>false
def zC(P:aM)(n:Nat)(o:Oper)(s:aj)(K:aj->Prop):Prop:=
 match o.dst,o.op with
 |some d,.call c=>match c.callee with
  |.value f=>d<n/\(s d).aR=false/\nC P (callee s f c.args.toList) (fun d7=>(d7.flat ||(de s c.args.toList).isEmpty)=true/\K (put s d d7.dj)) (jY P s (gX s f c.args.toList) (fun aV d7 outs=>po aV outs=true/\d7.dj.aR=false/\K (put (gf s aV outs) d d7.dj)))
  |_=>False
 |_,_=>False
def BJ(s:aj)(op:Op):Prop:=match op with
 |.store _ a x=>de s [x]=[]/\PD s (aJ s a).2=true
 |_=>True
def iY(P:aM)(n:Nat)(m:Bool)(ops:Array Oper):List Oper->aj->(aj->Prop)->Prop
 |[],s,K=>K s
 |o::r,s,K=>match g_ ops o.op with
  |true=>match m&&iF o with
   |true=>zC P n o s (fun s'=>iY P n m ops r s' K)
   |false=>(m=true->hP s o.op)/\dU P n ops o s (fun s'=>iY P n m ops r s' K)
  |false=>match sh o with
   |true=>BJ s o.op/\gq P n ops o s (fun s'=>iY P n m ops r s' K)
   |false=>gq P n ops o s (fun s'=>iY P n m ops r s' K)
def WN{P:aM}{s:aj}{src dst:aP}{x:Prop×ae}{j:Nat}(h:(mg P s src dst x).1)(ao:(mg P s src dst x).2.refs j=true):(s j).aR=true:=by
 unfold mg at*;split at ao
 ·rename_i i e;rw[e]at h;obtain rfl:i=j:=by simpa[ae.refs]using ao
  have:=h.2.1;unfold Hm at this;split at this
  ·rename_i e;rw[e];rfl
  ·cases this
 ·unfold Hl at ao;split at ao<;>cases ao
def KZ{P:aM}{s:aj}(hw:c5 s){op:Op}{r:ae}(h:gZ P s op r){j:Nat}(ao:r.refs j=true):(s j).aR=true:=by
 cases op with
 |convert src dst x=>
  simp only[gZ]at h;split at h
  ·obtain⟨h,rfl⟩:=h;exact WN h ao
  ·obtain⟨_,rfl⟩:=h;exact tI hw _ ao
 |alloc t=>
  simp only[gZ]at h;split at h
  ·subst h;cases ao
  ·exact h.elim
 |box t x=>
  simp only[gZ]at h;split at h
  ·obtain⟨_,rfl⟩:=h;cases ao
  ·exact h.elim
 |buildSlice t len parts=>obtain⟨_,rfl⟩:=h;simp only[lH]at ao;split at ao<;>cases ao
 |call c=>
  simp only[gZ]at h;split at h
  ·obtain⟨d7,_,_,rfl⟩:=h;cases d7<;>cases ao
  ·obtain⟨_,rfl⟩:=h;exact tI hw _ ao
 |_=>obtain⟨_,rfl⟩:=h;exact tI hw _ ao
def WO{P:aM}{s:aj}(hw:c5 s){e:Bool}{op:Op}{r:ae}(h:mU P s e op r){j:Nat}(ao:r.refs j=true):(s j).aR=true:=by
 cases op with
 |call c=>
  simp only[mU]at h;split at h
  ·obtain⟨d7,_,_,rfl⟩:=Vj h;cases d7<;>cases ao
  ·obtain⟨_,_,rfl⟩:=h;exact tI (P:=P) (op:=.call c) hw ao
 |buildSlice t len parts=>
  cases e with
  |true=>exact KZ (op:=.buildSlice t len parts) hw h ao
  |false=>obtain rfl:=h;cases ao
 |_=>obtain⟨_,_,rfl⟩:=h;exact tI hw _ ao
def D9{P:aM}{n:Nat}{ops:Array Oper}{o:Oper}{s s':aj}(hw:c5 s)(h:iD P n ops o s s'):c5 s':=by
 obtain⟨d,r,_,_,_,rfl,aF⟩:=h;refine fT hw (fun j ac=>?_);cases ay:o.guard with
 |none=>rw[ay]at aF;exact KZ hw aF ac
 |some g=>rw[ay]at aF;obtain⟨e,_,aF⟩:=aF;exact WO hw aF ac
def WQ{s:aj}(hw:c5 s)(i:Nat):c5 (freeze s i):=by
 intro j k cb;have gm:(s j).refs k=true:=by
  unfold freeze at cb;by_cases ac:j=i
  ·subst ac;simp only[av]at cb;rcases OL (a:=s j)with (⟨e,size,xs,hs⟩|⟨cs,hs⟩)|hs
   ·rw[hs]at cb;cases cb
   ·rw[hs]at cb;cases cb
   ·rw[hs]at cb;exact cb
  ·simp only[an ac]at cb;cases ao:(s j).refs i with
   |true=>rw[ao]at cb;simp only[gW]at cb;rw[DH]at cb;cases cb
   |false=>rw[ao]at cb;exact cb
 have fV:=hw j k gm;have eK:k≠i:=by
  rintro rfl;unfold freeze at cb;by_cases ac:j=k
  ·subst ac;have:=np gm;rw[this]at fV;cases fV
  ·simp only[an ac,gm,gW,DH]at cb;cases cb
 have:freeze s i k=s k:=by
  unfold freeze;cases ao:(s k).refs i with
  |true=>rw[np ao]at fV;cases fV
  |false=>simp[eK]
 rw[this];exact fV
def BK:∀(l:List Nat) {s:aj},c5 s->c5 (dy s l)
 |[],_,h=>h
 |i::r,_,h=>BK r (WQ h i)
def zD{s:aj}(hw:c5 s){i:Nat}{r:ae}(aB:(s i).aR=true)(ao:r.aR=true):c5 (fun j=>if j=i then r else s j):=by
 intro j k cb;have gm:(s j).refs k=true:=by
  by_cases ac:j=i
  ·subst ac;simp only[av]at cb;have:=np cb;rw[ao]at this;cases this
  ·simpa only[an ac]using cb
 have:=hw j k gm;by_cases ak:k=i
 ·simp only[av ak];exact ao
 ·simp only[an ak];exact this
def PL{s:aj}(hw:c5 s)(i off m:Nat):c5 (dc s i off m):=by
 intro j k cb;rcases ib s i off m j with e|e<;>rw[e]at cb
 ·have:=hw j k cb;rw[ku this];exact this
 ·cases cb
def zgH{P:aM}{s:aj}(hw:c5 s){t:aP}{i off d:Nat}(h:(gn P s t i off d).1):c5 (gn P s t i off d).2:=by
 unfold gn at h⊢;split at h
 ·rename_i cs ak hs;obtain⟨_,aA,aw⟩:=h;have tl:(s i).aR=true:=by rw[hs];rfl
  have hu:=PL hw i off 1;have bB:∀k,(s k).aR=true->(if k=i then ae.box (cs.set off .any)else if k=ch i off then ae.link i off d else dc s i off 1 k).aR=true:=by
   intro k ak;by_cases aa:k=i
   ·simp only[av aa];rfl
   ·have ab:k≠ch i off:=by rintro rfl;rw[yY aw]at ak;cases ak
    simp only[an aa,an ab];rw[ku ak];exact ak
  intro j k cb;refine bB k ?_;by_cases aa:j=i
  ·simp only[av aa]at cb;cases cb
  ·by_cases ab:j=ch i off
   ·simp only[an aa,av ab,ae.refs,gl,fc]at cb;rcases cb with rfl|rfl
    ·exact tl
    ·exact ae.Bi aA
   ·simp only[an aa,an ab]at cb;rcases ib s i off 1 j with e|e<;>rw[e]at cb
    ·exact hw j k cb
    ·cases cb
 ·rename_i b cs ak hs;obtain⟨_,aA,aw⟩:=h;have tl:(s i).aR=true:=by rw[hs];rfl
  have bB:∀k,(s k).aR=true->(if k=i then ae.cR b (cs.set off .any)else if k=ch i off then ae.link i off d else dc s i off 1 k).aR=true:=by
   intro k ak;by_cases aa:k=i
   ·simp only[av aa];rfl
   ·have ab:k≠ch i off:=by rintro rfl;rw[yY aw]at ak;cases ak
    simp only[an aa,an ab];rw[ku ak];exact ak
  intro j k cb;refine bB k ?_;by_cases aa:j=i
  ·simp only[av aa]at cb;cases cb
  ·by_cases ab:j=ch i off
   ·simp only[an aa,av ab,ae.refs,gl,fc]at cb;rcases cb with rfl|rfl
    ·exact tl
    ·exact ae.Bi aA
   ·simp only[an aa,an ab]at cb;rcases ib s i off 1 j with e|e<;>rw[e]at cb
    ·exact hw j k cb
    ·cases cb
 ·exact h.elim
def zgI{P:aM}{s:aj}(hw:c5 s){t:aP}{x y:Prop×ae}:c5 (lI P s t x y).2:=by
 unfold lI;split
 ·split
  ·rename_i hs;dsimp only;split
   ·exact zD hw (by rw[hs];rfl) rfl
   ·exact zD (PL hw _ _ _) (by rw[ku (by rw[hs];rfl),hs];rfl) rfl
  ·rename_i hs;dsimp only;split
   ·exact zD hw (by rw[hs];rfl) rfl
   ·exact zD (PL hw _ _ _) (by rw[ku (by rw[hs];rfl),hs];rfl) rfl
  ·exact hw
 ·split
  ·rename_i hs;exact zD hw (by rw[hs];rfl) rfl
  ·exact hw
 ·exact hw
def PM{P:aM}{s:aj}(hw:c5 s){t t':aP}{x y:Prop×ae}:c5 (ff P s t t' x y).2.1/\∀j,(ff P s t t' x y).2.2.refs j=false:=by
 unfold ff;split
 ·unfold xJ;split
  ·exact⟨fT (v:=.dead) hw (fun j h=>(by cases h)),fun _=>rfl⟩
  ·exact⟨hw,fun _=>rfl⟩
  ·exact⟨hw,fun _=>rfl⟩
 unfold wq;split
 ·split
  ·exact⟨fT (v:=.dead) hw (fun j h=>(by cases h)),fun _=>rfl⟩
  ·exact⟨hw,fun _=>rfl⟩
  ·split<;>exact⟨hw,fun _=>rfl⟩
  ·exact⟨hw,fun _=>rfl⟩
 ·exact⟨hw,fun _=>rfl⟩
def zgJ{P:aM}{s:aj}(hw:c5 s){t:aP}{x:Prop×ae}:c5 (Bo P s t x).2:=by
 unfold Bo;split
 ·split
  ·rename_i hs;exact zD hw (by rw[hs];rfl) rfl
  ·exact hw
 ·exact hw
def zgK{P:aM}{s:aj}(hw:c5 s){t:aP}{m k x:Prop×ae}:c5 (xK P s t m k x).2:=by
 unfold xK;split
 ·split
  ·rename_i hs;split
   ·exact zD hw (by rw[hs];rfl) rfl
   ·exact hw
  ·rename_i hs;split
   ·exact zD hw (by rw[hs];rfl) rfl
   ·exact hw
  ·exact hw
 ·exact hw
def WR{P:aM}{s:aj}(hw:c5 s){f:aW}{args:List aW}{aV:List (ae×Option Nat)}{r:bH}{outs:List ae}(a6:uM P s (gX s f args) aV r outs):c5 (gf s aV outs):=by obtain⟨aw,hi,p,g,xs,h,aZ⟩:=Kw a6;obtain⟨al,fm⟩:=p8 aw;refine(G5 aV outs s hw hi (by simpa using al) (fun j x i o aa ab=>?_)).wf hw;obtain⟨hs,aB⟩:=WE h aZ x i (kt aa);have BL:=fm j x o (by rw[eZ,aa];rfl) ab;rw[hs];refine⟨Kq BL,aB,?_⟩;cases x<;>cases o<;>first|rfl|(simp[eB]at BL)
def zgL{P:aM}{n:Nat}{s:aj}{op:Op}{dst:Option Tmp}{K:aj->Prop}(hw:c5 s)(h:gg P n s op dst K) :
  ∃s',gg P n s op dst (fun t=>t=s')/\K s'/\c5 s':=by
 have PN:∀j,ae.refs j .dead=true->(s j).aR=true:=fun j h=>by cases h
 have plain:∀d,(bu P s op).1/\d<n/\K (put s d (bu P s op).2)->∃s',((bu P s op).1/\d<n/\put s d (bu P s op).2=s')/\K s'/\c5 s':=
  fun d h=>⟨_,⟨h.1,h.2.1,rfl⟩,h.2.2,fT hw (fun j ac=>tI hw _ ac)⟩
 cases dst with
 |none=>
  cases op<;>try (exact h.elim)
  case store t cN x=>
   simp only[gg]at h⊢;split at h
   ·rename_i e;exact⟨_,⟨h.1,h.2.1,h.2.2.1,rfl⟩,h.2.2.2,zgH hw h.2.2.1⟩
   ·rename_i e;exact⟨_,⟨h.1,h.2.1,rfl⟩,h.2.2,zgI (BK _ hw)⟩
  case mapUpdate t m k x=>simp only[gg]at h⊢;obtain⟨bJ,_,bx,has⟩:=Pn h;exact⟨_,has _ ⟨bx.1,rfl⟩,bx.2,zgK hw⟩
  case call c=>
   simp only[gg]at h⊢;split at h
   ·split at h
    ·exact⟨_,⟨h.1,rfl⟩,h.2,zgJ hw⟩
    ·exact h.elim
   ·exact h.elim
  case makeMap t r=>cases r<;>exact h.elim
  case assign x=>cases x<;>exact h.elim
  all_goals exact h.elim
 |some d=>
  cases op<;>try (exact plain d h)
  case alloc t=>
   simp only[gg]at h⊢;cases aZ:hT P t with
   |none=>rw[aZ]at h;exact h.elim
   |some cs=>rw[aZ]at h;exact⟨_,⟨h.1,rfl⟩,h.2,fT hw (fun j ac=>by cases ac)⟩
  case makeMap t r=>
   cases r with
   |none=>exact⟨_,⟨h.1,rfl⟩,h.2,fT hw (fun j ac=>by cases ac)⟩
   |some r=>exact plain d h
  case makeSlice t l c=>refine⟨_,⟨h.1,h.2.1,rfl⟩,h.2.2,fT hw (fun j ac=>?_)⟩;rw[zfQ]at ac;cases ac
  case convert src dst x=>
   simp only[gg]at h⊢;cases gQ:ju P dst with
   |false=>rw[gQ]at h;exact plain d h
   |true=>rw[gQ]at h;exact⟨_,⟨h.1,h.2.1,rfl⟩,h.2.2,fT hw (fun j ac=>WN h.1 ac)⟩
  case box t x=>
   simp only[gg]at h⊢;split at h
   ·rename_i p i off e;refine⟨_,⟨h.1,h.2.1,rfl⟩,h.2.2,fT hw (fun j ac=>?_)⟩;exact uT hw x (by rw[e];exact ac)
   split at h
   ·rename_i p i e;obtain⟨e,wt⟩:=We e;refine⟨_,⟨h.1,h.2.1,h.2.2.1,h.2.2.2.1,rfl⟩,h.2.2.2.2,?_⟩;have zz:(s i).aR=true:=ae.Bi wt;have iZ:c5 (put s d (.box [.any])):=fT hw (fun j ac=>by cases ac);have jz:=h.2.2.2.1;have fV:∀j,(put s d (.box [.any]) j).aR=true->j≠ch d 0:=by
     rintro j ac rfl;have Pp:ch d 0≠d:=by unfold ch;omega
     rcases qM (s:=s) (v:=.box [.any]) Pp with bx|⟨_,_,bx⟩<;>rw[bx]at ac
     ·rw[yY jz]at ac;cases ac
     ·cases ac
    intro j m gP;unfold Po at gP⊢;have aB:(put s d (.box [.any]) m).aR=true:=by
     by_cases cb:j=ch d 0
     ·rw[av cb]at gP;simp only[ae.refs,gl,fc]at gP;rcases gP with rfl|rfl
      ·rw[jR rfl];rfl
      ·rw[o2 h.2.2.1 zz];exact zz
     ·rw[an cb]at gP;exact iZ j m gP
    rw[an (fV m aB)];exact aB
   split at h
   ·exact⟨_,⟨h.1,h.2.1,rfl⟩,h.2.2,fT (BK _ hw) (fun j ac=>by cases ac)⟩
   ·exact h.elim
  case build t parts=>refine⟨_,⟨h.1,h.2.1,rfl⟩,h.2.2,fT (BK _ hw) (fun j ac=>?_)⟩;simp only[p2]at ac;split at ac<;>cases ac
  case buildSlice t len parts=>refine⟨_,⟨h.1,h.2.1,rfl⟩,h.2.2,fT (BK _ hw) (fun j ac=>?_)⟩;simp only[lH]at ac;split at ac<;>cases ac
  case assign x=>
   cases x with
   |tmp t=>
    simp only[gg]at h⊢;cases hs:s t with
    |own e size xs=>rw[hs]at h;exact⟨_,⟨h.1,rfl⟩,h.2,fT (fT hw PN) (fun j ac=>by cases ac)⟩
    |mp c bs es=>rw[hs]at h;exact⟨_,⟨h.1,rfl⟩,h.2,fT (fT hw PN) (fun j ac=>by cases ac)⟩
    |view i aO len wh=>
     rw[hs]at h;dsimp only at h⊢;have uu:∀j,(ae.view i aO len wh).refs j=true->(s j).aR=true:=fun j ac=>hw t j (by rw[hs];exact ac);cases hid:decide (i=d)with
     |false=>rw[hid]at h;exact⟨_,⟨h.1,rfl⟩,h.2,fT hw uu⟩
     |true=>
      rw[hid]at h;obtain⟨aA,h⟩:=h;dsimp only;unfold Bu at h⊢;split at h
      ·split at h
       ·exact⟨_,⟨aA,rfl⟩,h,fT (fT hw PN) (fun j ac=>by cases ac)⟩
       ·exact⟨_,⟨aA,rfl⟩,h,fT (WQ hw _) (fun j ac=>by cases ac)⟩
      ·exact h.elim
    |_=>rw[hs]at h;exact⟨_,⟨h.1,rfl⟩,h.2,fT hw (fun j ac=>Pj hw _ ac)⟩
   |_=>exact plain d h
  case call c=>
   simp only[gg]at h⊢;split at h
   ·rename_i f zgM;have fK:(qU s (tu s c.args.toList) fun s=>jY P s (gX s f c.args.toList) (fun xs r outs=>d<n/\K (put (gf s xs outs) d r.dj)))->∃s',(qU s (tu s c.args.toList) fun s=>jY P s (gX s f c.args.toList) (fun xs r outs=>d<n/\put (gf s xs outs) d r.dj=s'))/\K s'/\c5 s':=by
     intro h;have hw:=BK (tu s c.args.toList) hw;unfold qU at h⊢;generalize dy s (tu s c.args.toList)=s at hw h⊢;obtain⟨c3,r,outs,a6,aA,ak⟩:=wm.1 h;exact⟨_,wm.2 ⟨c3,r,outs,a6,aA,rfl⟩,ak,fT (WR hw a6) (fun j ac=>by cases r<;>cases ac)⟩
    replace fK:(qV P (xu s f c.args.toList) (fun r=>d<n/\K (put s d r.dj)) (qU s (tu s c.args.toList) fun s=>jY P s (gX s f c.args.toList) (fun xs r outs=>d<n/\K (put (gf s xs outs) d r.dj))))->∃s',(qV P (xu s f c.args.toList) (fun r=>d<n/\put s d r.dj=s') (qU s (tu s c.args.toList) fun s=>jY P s (gX s f c.args.toList) (fun xs r outs=>d<n/\put (gf s xs outs) d r.dj=s')))/\K s'/\c5 s':=by
     intro h;unfold qV at h⊢;split at h
     ·obtain⟨am,⟨r,aa,fH,ab,au⟩|h⟩:=h
      ·exact⟨_,⟨am,.inl ⟨r,aa,fH,ab,rfl⟩⟩,au,fT hw (fun j ac=>by cases r<;>cases ac)⟩
      ·obtain⟨s',aa,ab,au⟩:=fK h;exact⟨s',⟨am,.inr aa⟩,ab,au⟩
     ·exact fK h
    unfold nC at h⊢;split at h
    ·obtain⟨am,⟨r,aa,ab,au⟩|⟨ea,r,aa,aN,bE,ab,au⟩|h⟩:=h
     ·have xv:c5 (p6 s c.args.toList r):=by
       unfold p6;cases r.flat with
       |true=>exact hw
       |false=>exact BK _ hw
      exact⟨_,⟨am,.inl ⟨r,aa,ab,rfl⟩⟩,au,fT xv (fun j ac=>by cases r<;>cases ac)⟩
     ·exact⟨_,⟨am,.inr (.inl ⟨ea,r,aa,aN,bE,ab,rfl⟩)⟩,au,fT hw (fun j ac=>by cases r<;>cases ac)⟩
     ·obtain⟨s',aa,ab,au⟩:=fK h;exact⟨s',⟨am,.inr (.inr aa)⟩,ab,au⟩
    ·exact fK h
   ·split at h
    ·obtain⟨bJ,_,bx,has⟩:=KS h;exact⟨_,has _ ⟨bx.1,bx.2.1,rfl⟩,bx.2.2,fT (PM hw).1 (fun j ac=>by rw[(PM hw).2 j]at ac;cases ac)⟩
    ·exact h.elim
   ·exact plain d h
def zgN{P:aM}{n:Nat}{s:aj}{e:Bool}{op:Op}{dst:Option Tmp}{K:aj->Prop}(hw:c5 s)(h:wv P n s e op dst K) :
  ∃s',wv P n s e op dst (fun t=>t=s')/\K s'/\c5 s':=by
 cases dst with
 |none=>exact h.elim
 |some d=>
  cases op<;>try (exact⟨_,⟨h.1,h.2.1,h.2.2.1,rfl⟩,h.2.2.2,fT hw (fun j ac=>tI hw _ ac)⟩)
  case buildSlice t len parts=>
   cases e with
   |true=>exact⟨_,⟨h.1,h.2.1,rfl⟩,h.2.2,fT hw (fun j ac=>KZ (P:=P) (op:=.buildSlice t len parts) hw ⟨h.1,rfl⟩ ac)⟩
   |false=>exact⟨_,⟨h.1,rfl⟩,h.2,fT hw (fun j ac=>by cases ac)⟩
  case call c=>
   simp only[wv]at h⊢;split at h
   ·obtain⟨r,aa,au,aN⟩:=G3 h;exact⟨_,aa _ ⟨au,rfl⟩,aN,fT hw (fun j ac=>by cases r<;>cases ac)⟩
   ·exact⟨_,⟨h.1,h.2.1,h.2.2.1,rfl⟩,h.2.2.2,fT hw (fun j ac=>tI (P:=P) (op:=.call c) hw ac)⟩
def zgO{P:aM}{n:Nat}{s:aj}{e:Bool}{op:Op}{dst:Option Tmp}{K:aj->Prop}(hw:c5 s)(h:wx P n s e op dst K) :
  ∃s',wx P n s e op dst (fun t=>t=s')/\K s'/\c5 s':=by
 unfold wx at h⊢;split at h
 ·rename_i d c;dsimp only at h⊢;split at h
  ·rename_i f aw;cases e with
   |false=>exact⟨_,⟨h.1,rfl⟩,h.2,fT hw (fun j ac=>by cases ac)⟩
   |true=>dsimp only at h⊢;obtain⟨c3,r,outs,a6,aA,aB,ak⟩:=wm.1 h;exact⟨_,wm.2 ⟨c3,r,outs,a6,aA,aB,rfl⟩,ak,fT (WR hw a6) (fun j ac=>by cases r<;>cases ac)⟩
  ·exact h.elim
 ·exact h.elim
def K0{P:aM}{n:Nat}{ops:Array Oper}{o:Oper}{s:aj}{K:aj->Prop}(hw:c5 s)(h:gq P n ops o s K) :
  ∃s',gq P n ops o s (fun t=>t=s')/\K s'/\c5 s':=by
 unfold gq at h⊢;cases ay:o.guard with
 |none=>rw[ay]at h;exact zgL hw h
 |some g=>
  rw[ay]at h;simp only at h⊢;cases he:dA ops s g with
  |none=>rw[he]at h;exact h.elim
  |some e=>
   rw[he]at h;simp only at h⊢;split at h
   ·exact zgO hw h
   ·exact zgN hw h
def xU(P:aM)(n:Nat)(m:Bool)(ops:Array Oper)(i:Nat)(s s':aj):Prop:=
 ∃o,ops[i]?=some o/\match g_ ops o.op with
  |true=>match m&&iF o with
   |true=>iD P n ops o s s'\/uW P n o s s'
   |false=>iD P n ops o s s'/\(m=true->hP s o.op)
  |false=>match sh o with
   |true=>uW P n o s s'
   |false=>gq P n ops o s (fun t=>t=s')
def WS{P:aM}{n:Nat}{m:Bool}{ops:Array Oper}{i:Nat}{s s':aj}(hw:c5 s)(h:xU P n m ops i s s'):c5 s':=by
 obtain⟨o,_,h⟩:=h;split at h
 ·split at h
  ·exact h.elim (D9 hw) (WM hw)
  ·exact D9 hw h.1
 ·split at h
  ·exact WM hw h
  ·obtain⟨s1,_,ab,au⟩:=K0 hw h;rw[<-ab];exact au
def zgP{o:Oper}(h:sh o=true):∃t cN x,o.op=.store t cN x/\o.guard=none:=by
 unfold sh at h;split at h
 ·rename_i t cN x e;exact⟨t,cN,x,e,by simpa using h⟩
 ·cases h
def WT{o:Oper}(h:iF o=true):∃c f,o.op=.call c/\c.callee=.value f/\o.guard=none:=by
 unfold iF at h;split at h
 ·rename_i c e;split at h
  ·rename_i f aw;exact⟨c,f,e,aw,by simpa using h⟩
  ·cases h
 ·cases h
def zgQ{P:aM}{n:Nat}{ops:Array Oper}{o:Oper}{s:aj}{K:aj->Prop}(hu:sh o=true)(al:BJ s o.op)(h:gq P n ops o s K):∃s',uW P n o s s'/\K s':=by
 obtain⟨t,cN,x,c4,ay⟩:=zgP hu;unfold gq at h;rw[ay]at h;rw[c4]at h al;have dK:de s [x]=[]:=al.1;cases aA:o.dst with
 |some d=>rw[aA]at h;exact h.1.elim
 |none=>
  rw[aA]at h;have ma:lJ s (aJ s cN) (aJ s x)=none:=by
   cases f':lJ s (aJ s cN) (aJ s x)with
   |none=>rfl
   |some y=>obtain⟨kz,bL,off,d⟩:=y;obtain⟨_,_,_,aK,_⟩:=He f';simp[de,aK,A9]at dK
  simp only[gg,ma,dK,dy]at h;obtain⟨aa,ab,au⟩:=h;obtain⟨p,i,v,aE,aQ,bf,_⟩:=zgv ab al.2;refine⟨_,⟨[(i,v)],none,⟨ay,?_⟩,fun d r h=>(by cases h),fun _=>aA,rfl⟩,?_⟩
  ·rw[c4];exact⟨aA,rfl,aa,dK,p,i,v,aE,aQ,rfl⟩
  ·rw[bf]at au;exact au
def zgR{P:aM}{n:Nat}{ops:Array Oper}{o:Oper}{s:aj}{K:aj->Prop}(ap:iF o=true)(h:zC P n o s K):∃s',(iD P n ops o s s'\/uW P n o s s')/\K s':=by
 obtain⟨c,f,c4,aw,ay⟩:=WT ap;unfold zC at h;rw[c4]at h;cases aA:o.dst with
 |none=>rw[aA]at h;exact h.elim
 |some d=>
  rw[aA]at h;simp only[aw]at h;obtain⟨hdn,cl,h⟩:=h;rcases zfW h with⟨r,aa,ab,au⟩|h
  ·refine⟨_,.inl ⟨d,r.dj,aA,hdn,cl,rfl,?_⟩,au⟩;rw[ay,c4];simp only[gZ,aw];exact⟨r,aa,ab,rfl⟩
  ·obtain⟨aV,r,outs,c0,ww,zf,ak⟩:=wm.1 h;have hi:=(Kw c0).2.1
   ·refine⟨_,.inr ⟨dX aV outs,some (d,r.dj),⟨ay,?_⟩,fun bG cD bx=>?_,fun bx=>(by cases bx),rfl⟩,?_⟩
    ·rw[c4];simp only[aw];exact⟨d,aV,r,outs,aA,hdn,c0,ww,zf,rfl,rfl⟩
    ·simp only[b9,cA]at bx;obtain⟨rfl,rfl⟩:=bx;exact⟨aA,cl,zf,fun j=>by cases r<;>rfl⟩
    ·show K (put (fX s (dX aV outs)) d r.dj);rw[<-KY aV outs s ww hi];exact ak
def WU{P:aM}{n:Nat}{m:Bool}{ops:Array Oper}{K:aj->Prop}:∀(l:List Oper) (k:Nat) (s:aj),c5 s->(∀j,l[j]?=ops[k+j]?)->iY P n m ops l s K ->
  ∃s',wy (xU P n m ops) (List.range' k l.length) s s'/\K s'
 |[],_,s,_,_,h=>⟨s,rfl,h⟩
 |o::l,k,s,hw,al,h=>by
  have a1:ops[k]?=some o:=by simpa using (al 0).symm
  have p3:∀j,l[j]?=ops[(k+1)+j]?:=fun j=>by have:=al (j+1);simpa[rN,Nat.add_comm 1 j]using this
  simp only[iY]at h;have:∃s1,xU P n m ops k s s1/\iY P n m ops l s1 K:=by
   split at h
   ·rename_i ap;split at h
    ·rename_i hm;obtain⟨s1,aa,ab⟩:=zgR (ops:=ops) (by simp only[b7]at hm;exact hm.2) h;exact⟨s1,⟨o,a1,by rw[ap];simp only[hm];exact aa⟩,ab⟩
    ·rename_i hm;obtain⟨s1,aa,ab⟩:=HB h.2;exact⟨s1,⟨o,a1,by rw[ap];simp only[hm];exact⟨aa,h.1⟩⟩,ab⟩
   ·rename_i ap;split at h
    ·rename_i hu;obtain⟨s1,aa,ab⟩:=zgQ hu h.1 h.2;exact⟨s1,⟨o,a1,by rw[ap];simp only[hu];exact aa⟩,ab⟩
    ·rename_i hu;obtain⟨s1,aa,ab,_⟩:=K0 hw h;exact⟨s1,⟨o,a1,by rw[ap];simp only[hu];exact aa⟩,ab⟩
  obtain⟨s1,aa,ab⟩:=this;obtain⟨s',au,aN⟩:=WU l (k+1) s1 (WS hw aa) p3 ab;exact⟨s',⟨s1,aa,au⟩,aN⟩
def K1(m:Bool)(ops:Array Oper)(bZ bI:Oper):Bool:=
 (g_ ops bZ.op&&g_ ops bI.op&&!(m&&iF bZ&&iF bI)) ||(sh bZ&&!g_ ops bZ.op&&(m ||q5 bI.op)&&g_ ops bI.op&&!iF bI) ||(sh bI&&!g_ ops bI.op&&(m ||q5 bZ.op)&&g_ ops bZ.op&&!iF bZ)
def PO(m:Bool)(ops:Array Oper)(b:Array Nat)(i j:Nat):Bool:=
 (b.getD i 0).testBit j ||
 match ops[i]?,ops[j]? with
 |some bZ,some bI=>K1 m ops bZ bI&&bI.apart ops bZ
 |_,_=>false
def K2(o:Oper):Bool:=match o.dst with
 |some d=>decide (d<cU)
 |none=>true
def PQ{o:Oper}(h:K2 o=true):∀d,o.dst=some d->d<cU:=by intro d aA;unfold K2 at h;rw[aA]at h;exact vM h
def zE(m:Bool)(ops:Array Oper):Bool:=
 let b:=Region.before ops
 ops.toList.all K2&&(List.range ops.size).all fun i=>
  (match ops[i]? with
   |some o=>o.after.toList.all fun e=>!Region.binds .any e ||decide (e.on<i)
   |none=>false) &&
  (List.range i).all fun j=>PO m ops b i j
def xV(ops:Array Oper):Bool:=ops.toList.any fun o=>match o.op with
 |.call c=>match c.callee with
  |.value (.tmp _)=>iF o
  |_=>false
 |.store _ _ _=>sh o
 |_=>false
def WV{m:Bool}{s:aj}{op:Op}(h:m=true->hP s op)(al:(m ||q5 op)=true):hP s op:=by
 cases m with
 |true=>exact h rfl
 |false=>exact WL (by simpa using al)
def zgS{P:aM}{n:Nat}{m:Bool}{ops:Array Oper}{i j:Nat}{bZ bI:Oper}{s s1 s2:aj}(BM:∀d,bZ.dst=some d->d<cU)(si:∀d,bI.dst=some d->d<cU)(ah:ops[i]?=some bZ)(ac:ops[j]?=some bI)(sj:K1 m ops bZ bI=true)(nD:bI.apart ops bZ=true)(hw:c5 s)
  (aa:xU P n m ops j s s1)(ab:xU P n m ops i s1 s2):∃cI,xU P n m ops i s cI/\xU P n m ops j cI s2:=by
 obtain⟨gN,iW,aa⟩:=aa;rw[ac]at iW;injection iW with iW;subst iW
 obtain⟨e0,jD,ab⟩:=ab;rw[ah]at jD;injection jD with jD;subst jD
 obtain⟨c_,a2,a3⟩:=Oper.apart_spec nD;have q9:∀d,bZ.dst=some d->bI.dst≠some d:=fun d h bx=>a2 d bx h;unfold K1 at sj;rw[gl,gl]at sj;rcases sj with (sj|sj)|sj
 ·simp only[b7,xx]at sj;obtain⟨⟨ci,q_⟩,wB⟩:=sj;rw[q_]at aa;rw[ci]at ab;cases h3:m&&iF bZ with
  |false=>
   rw[h3]at ab;obtain⟨ab,l2⟩:=ab;cases fW:m&&iF bI with
   |false=>
    rw[fW]at aa;obtain⟨aa,eo⟩:=aa;obtain⟨cI,aE,aQ⟩:=PA si BM nD hw aa ab;have sg:∀{t t':aj} {o di:Oper} {x:aW},c5 t->iD P n ops o t t'->(∀d,o.dst=some d->d<cU)->(∀d,o.dst=some d->d∉di.looksAt ops)->x∈di.op.operands->pn t t' x:=by
     rintro t t' o di x HC ⟨d,r,aA,hdn,cl,rfl,_⟩ nx bj ai;have:=pj (r:=r) HC cl (nF di d (bj d aA) x ai);cases x with
     |tmp u=>exact⟨.inl this.1,fun b ad=>.inl (this.2 b ad)⟩
     |_=>trivial
    refine⟨cI,⟨bZ,ah,?_⟩,⟨bI,ac,?_⟩⟩
    ·rw[ci,h3];exact⟨aE,fun hm=>D8 (l2 hm) (fun x ai=>(sg hw aa si c_ ai).symm)⟩
    ·rw[q_,fW];exact⟨aQ,fun hm=>D8 (eo hm) (fun x ai=>sg hw aE BM a3 ai)⟩
   |true=>
    have hm:m=true:=by rw[b7]at fW;exact fW.1
    rw[fW]at aa;rcases aa with aa|aa
    ·obtain⟨cI,aE,aQ⟩:=PA si BM nD hw aa ab;have uX:hP s bZ.op:=by
      obtain⟨d,r,aA,hdn,cl,rfl,_⟩:=aa;refine D8 (l2 hm) (fun x ai=>?_);have:=pj (r:=r) hw cl (nF bZ d (c_ d aA) x ai);refine pn.symm ?_;cases x with
      |tmp u=>exact⟨.inl this.1,fun b ad=>.inl (this.2 b ad)⟩
      |_=>trivial
     exact⟨cI,⟨bZ,ah,by rw[ci,h3];exact⟨aE,fun _=>uX⟩⟩,⟨bI,ac,by rw[q_,fW];exact .inl aQ⟩⟩
    ·obtain⟨cI,aE,aQ,bf⟩:=WI (ol:=bZ) (ow:=bI) a3 c_ q9 hw aa ab (l2 hm);exact⟨cI,⟨bZ,ah,by rw[ci,h3];exact⟨aE,fun _=>aQ⟩⟩,⟨bI,ac,by rw[q_,fW];exact .inr bf⟩⟩
  |true=>
   have hm:m=true:=by rw[b7]at h3;exact h3.1
   have fW:(m&&iF bI)=false:=by rw[h3,ig]at wB;rw[wB,kJ]
   rw[h3]at ab;rw[fW]at aa;obtain⟨aa,eo⟩:=aa;rcases ab with ab|ab
   ·obtain⟨cI,aE,aQ⟩:=PA si BM nD hw aa ab;have uX:hP cI bI.op:=by
     obtain⟨d,r,aA,hdn,cl,rfl,_⟩:=aE;refine D8 (eo hm) (fun x ai=>?_);have:=pj (r:=r) hw cl (nF bI d (a3 d aA) x ai);cases x with
     |tmp u=>exact⟨.inl this.1,fun b ad=>.inl (this.2 b ad)⟩
     |_=>trivial
    exact⟨cI,⟨bZ,ah,by rw[ci,h3];exact .inl aE⟩,⟨bI,ac,by rw[q_,fW];exact⟨aQ,fun _=>uX⟩⟩⟩
   ·obtain⟨cI,aE,aQ,bf⟩:=WG (ol:=bI) (ow:=bZ) c_ a3 a2 hw aa (eo hm) ab;exact⟨cI,⟨bZ,ah,by rw[ci,h3];exact .inr aE⟩,⟨bI,ac,by rw[q_,fW];exact⟨aQ,fun _=>bf⟩⟩⟩
 ·simp only[b7,xx]at sj;obtain⟨⟨⟨⟨WP,ci⟩,zgT⟩,q_⟩,nG⟩:=sj;rw[q_]at aa;rw[ci]at ab;simp only[WP]at ab;have fW:(m&&iF bI)=false:=by rw[nG,kJ]
  simp only[fW]at aa;obtain⟨cI,aE,aQ,bf⟩:=WG (ol:=bI) (ow:=bZ) c_ a3 a2 hw aa.1 (WV aa.2 zgT) ab;exact⟨cI,⟨bZ,ah,by rw[ci];simp only[WP];exact aE⟩,⟨bI,ac,by rw[q_];simp only[fW];exact⟨aQ,fun _=>bf⟩⟩⟩
 ·simp only[b7,xx]at sj;obtain⟨⟨⟨⟨WW,q_⟩,li⟩,ci⟩,nG⟩:=sj;rw[q_]at aa;rw[ci]at ab;simp only[WW]at aa;have h3:(m&&iF bZ)=false:=by rw[nG,kJ]
  simp only[h3]at ab;obtain⟨cI,aE,aQ,bf⟩:=WI (ol:=bZ) (ow:=bI) a3 c_ q9 hw aa ab.1 (WV ab.2 li);exact⟨cI,⟨bZ,ah,by rw[ci];simp only[h3];exact⟨aE,fun _=>aQ⟩⟩,⟨bI,ac,by rw[q_];simp only[WW];exact bf⟩⟩
def WX(ops:Array Oper)(acc:Array Nat)(k:Nat)(y6:∀i j,(acc.getD i 0).testBit j=true->uU ops i j){o:Oper}(aB:ops[k]?=some o) :
  ∀(l:List Edge) (s:Nat),(∀e∈l,e∈o.after)->(∀j,s.testBit j=true->uU ops k j) ->
   ∀j,(l.foldl (fun s e=>if Region.binds .any e then s |||2^e.on |||acc.getD e.on 0 else s) s).testBit j=true->uU ops k j
 |[],s,_,hs,j,h=>hs j h
 |e::l,s,al,hs,j,h=>by
  refine WX ops acc k y6 aB l _ (fun x ai=>al x (by simp[ai])) (fun j ac=>?_) j h;dsimp only at ac;split at ac
  ·rename_i ad;rw[Nat.testBit_or,Nat.testBit_or,gl,gl]at ac;rcases ac with (ac|ac)|ac
   ·exact hs j ac
   ·rw[Nat.testBit_two_pow]at ac;obtain rfl:=vM ac;exact .Wh aB (al e (by simp)) ad
   ·exact .y0 aB (al e (by simp)) ad (y6 _ _ ac)
  ·exact hs j ac
def zgU(acc:Array Nat)(v i:Nat):(acc.push v).getD i 0=if i=acc.size then v else acc.getD i 0:=by simp only[s_,Array.getElem?_push];split<;>simp
def PR(ops:Array Oper)(i j:Nat)(h:((Region.before ops).getD i 0).testBit j=true):uU ops i j:=by
 have key:∀(l:List Oper) (acc:Array Nat),(∀m,l[m]?=ops[acc.size+m]?)->(∀i j,(acc.getD i 0).testBit j=true->uU ops i j) ->
   ∀i j,((l.foldl (fun acc o=>acc.push (o.after.foldl (fun s e=>if Region.binds .any e then s |||2^e.on |||acc.getD e.on 0 else s) 0)) acc).getD i 0).testBit j=true->uU ops i j:=by
  intro l;induction l with
  |nil=>intro acc _ y6 i j h;exact y6 i j h
  |cons o l ba=>
   intro acc al y6 i j h;have a1:ops[acc.size]?=some o:=by simpa using (al 0).symm
   refine ba _ (fun m=>by have:=al (m+1);simpa[rN,Nat.add_comm 1 m]using this) (fun i j cV=>?_) i j h;rw[zgU]at cV;split at cV
   ·rename_i ah;subst ah;rw[<-Kk]at cV;exact WX ops acc acc.size y6 a1 o.after.toList 0 (fun e he=>by simpa using he) (fun j ac=>by simp at ac) j cV
   ·exact y6 i j cV
 unfold Region.before at h;rw[<-Kk]at h;exact key ops.toList #[] (fun m=>by simp) (fun i j cV=>by simp at cV) i j h
end
end Go.Ab
