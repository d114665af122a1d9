/- Lemmas. -/
import Derived.Test.YtmlnbemjmlogiaaGreatDoorAbJ4
import Derived.ChangeArms
import Derived.Deep.Slices
import Derived.Below
import Derived.Carry
import Derived.ChangeSame
import Derived.ProofKit
import Derived.OpenShut
import Derived.JoinedCond
import Derived.Lib.LaidTab
import Derived.Lib.ItoaNum
set_option linter.all false
namespace Go.Ab
open Go Go.RowKit
section
variable [bn]
def Yn{α:Type}:∀{n:Nat} {p:Nat->α->Prop},(∀i,i<n->∃x,p i x)->∃l:List α,l.length=n/\∀i x,l[i]?=some x->p i x
 |0,p,_=>⟨[],rfl,fun i x h=>by simp at h⟩
 |n+1,p,h=>by
  obtain⟨x,ai⟩:=h 0 (by omega);obtain⟨l,al,am⟩:=Yn (n:=n) (p:=fun i=>p (i+1)) (fun i ah=>h (i+1) (by omega));refine⟨x::l,by simp[al],fun i y aU=>?_⟩;cases i with
  |zero=>simp at aU;subst aU;exact ai
  |succ i=>simp at aU;exact am i y aU
inductive dm where
 |b
 |i (k:IntKind)
 |s
 |ye (size:Nat) (e:dm)
 |st (ez:List dm)
mutual
def dm.size:dm->Nat
 |.st ez=>dm.zS ez
 |_=>1
def dm.zS:List dm->Nat
 |[]=>0
 |k::r=>k.size+dm.zS r
end
def dm.has(P:aM):dm->aP->Prop
 |.b,t=>P.underlying t=some .bool
 |.i k,t=>P.underlying t=some (.int k)
 |.s,t=>P.underlying t=some .string
 |.ye size e,t=>∃yf,P.underlying t=some (.slice yf)/\P.cellsOf yf=size/\e.size=size/\0<size/\dm.has P e yf
 |.st bp,t=>∃ez:Array Field,P.underlying t=some (.struct ez)/\P.cellsOf t=dm.zS bp/\hasAll ez.toList 0 bp
where hasAll:List Field->Nat->List dm->Prop
 |[],_,[]=>True
 |f::ez,off,k::bp=>f.offset=off/\P.cellsOf f.type=k.size/\dm.has P k f.type/\hasAll ez (off+k.size) bp
 |_,_,_=>False
def dm.fits:dm->List ag->Prop
 |.b,cs=>∃x,cs=[.bool x]
 |.i k,cs=>∃n,cs=[.int k n]/\(Lit.int k n).wf=true
 |.s,cs=>∃l,cs=[.str l]/\l.length<=maxLen
 |.ye size e,cs=>∃xs,cs=[.list size xs]/\∀x∈xs,e.fits x
 |.st bp,cs=>E4 bp cs
where E4:List dm->List ag->Prop
 |[],cs=>cs=[]
 |k::bp,cs=>∃a b,cs=a++b/\k.fits a/\E4 bp b
def dm.sr(B:Nat):dm->List ag->Prop
 |.b,cs=>∃x,cs=[.bool x]
 |.i k,cs=>∃n,cs=[.int k n]/\(Lit.int k n).wf=true
 |.s,cs=>∃l,cs=[.str l]/\l.length<=maxLen/\l.length<=B
 |.ye size e,cs=>∃xs,cs=[.list size xs]/\∀x∈xs,e.sr B x
 |.st bp,cs=>If bp cs
where If:List dm->List ag->Prop
 |[],cs=>cs=[]
 |k::bp,cs=>∃a b,cs=a++b/\k.sr B a/\If bp b
section
variable {H:Type}{P:aM}
def Yo{p:Nat->Bool}{e:aP}:∀{l:List (DataW H)},(DataW.weightsAll P e l).all p=true->∀d∈l,(d.weights P e).all p=true
 |[],_,d,aA=>by cases aA
 |x::r,h,d,aA=>by
  rw[DataW.weightsAll,uN,b7]at h;rcases fp.1 aA with rfl|aA
  ·exact h.1
  ·exact Yo h.2 d aA
def Yp{p:Nat->Bool}:∀{ts:List aP} {dJ:List (DataW H)},(DataW.weightsEach P ts dJ).all p=true->∀(i:Nat) t d,ts[i]?=some t->dJ[i]?=some d->(d.weights P t).all p=true
 |[],_,_,i,t,d,bv,_=>by simp at bv
 |_::_,[],_,i,t,d,_,aA=>by simp at aA
 |a::ts,b::dJ,h,i,t,d,bv,aA=>by
  rw[DataW.weightsEach,uN,b7]at h;cases i with
  |zero=>simp at bv aA;subst bv;subst aA;exact h.1
  |succ i=>exact Yp h.2 i t d (by simpa using bv) (by simpa using aA)
end
def Yq{α:Type}{size:Nat}(a1:0<size):∀{xs:List (List α)} (_:∀x∈xs,x.length=size) (j:Nat),xs.flatten[j]?=(xs[j/size]?).bind (·[j%size]?)
 |[],_,j=>by simp
 |x::r,h,j=>by
  have ai:x.length=size:=h x (by simp);simp only[ta];by_cases ac:j<size
  ·rw[kx (by omega),Nat.div_eq_of_lt ac,GZ ac];rfl
  ·obtain⟨k,rfl⟩:∃k,j=k+size:=⟨j-size,by omega⟩
   rw[l_ (by omega),ai,zc,Yq a1 (fun y aU=>h y (by simp[aU])) k,Nat.add_div_right k a1,Nat.add_mod_right];rfl
def cO.append{w:bb}{S:Nat->Prop}{a b:List ag}{us vs:List aI}(aa:cO w S a us)(ab:cO w S b vs):cO w S (a++b) (us++vs):=by
 refine⟨by simp[aa.1,ab.1],fun j c ac=>?_⟩;by_cases al:j<a.length
 ·rw[kx al]at ac;rw[kx (by rw[aa.1];exact al)];exact aa.2 j c ac
 ·rw[l_ (by omega)]at ac;rw[l_ (by rw[aa.1];omega),aa.1];exact ab.2 _ c ac
def cO.one{w:bb}{S:Nat->Prop}{c:ag}{v:aI}(h:bD w S c v):cO w S [c] [v]:=by
 refine⟨rfl,fun j d ac=>?_⟩;cases j with
 |zero=>simp at ac;subst ac;exact⟨v,rfl,h⟩
 |succ j=>simp at ac
section
variable {H:Type}{enc:aP×aI->H}{P:aM}{w:bb}{base:Nat}{spare:Nat->Bool}{E5:Bool}
mutual
def dm.read:(k:dm)->∀(t:aP) (fuel:Nat) (cs:List aI) (x:DataW H×List MemPlace),k.has P t->DataW.trod enc P w base spare E5 fuel t cs=some x ->
  ∃lQ:List ag,cO w (fun b=>b<w.heap.size) lQ cs/\k.fits lQ/\lQ.length=k.size/\∀B,(x.1.weights P t).all (·<=B)=true->k.sr B lQ
 |.b,t,fuel,cs,x,ak,h=>by obtain⟨b,rfl,_⟩:=DataW.trod_bool ak h;exact⟨[.bool b],cO.one (.bool b),⟨b,rfl⟩,rfl,fun _ _=>⟨b,rfl⟩⟩
 |.i k,t,fuel,cs,x,ak,h=>by obtain⟨n,rfl,_,hw⟩:=DataW.trod_int ak h;exact⟨[.int k n],cO.one (.int k n),⟨n,rfl,hw⟩,rfl,fun _ _=>⟨n,rfl,hw⟩⟩
 |.s,t,fuel,cs,x,ak,h=>by
  obtain⟨s,rfl,rfl,hs⟩:=DataW.trod_string ak h;have al:s.data.toList.length<=maxLen:=by simpa using hs
  exact⟨[.str s.data.toList],cO.one (by simpa using bD.str (w:=w) (S:=fun b=>b<w.heap.size) s.data.toList al),⟨_,rfl,al⟩,rfl,fun B bk=>⟨_,rfl,al,by simpa[DataW.weights]using bk⟩⟩
 |.ye size e,t,fuel,cs,x,ak,h=>by
  obtain⟨yf,bv,ap,aZ,a1,he⟩:=ak;rcases Go.Deep.open_slice bv h with⟨rfl,_⟩|⟨a,len,cap,m,n,D,zGf,rfl,ad,al,hm,J8,rfl,ai⟩
  ·exact⟨[.list size []],cO.one (.mF none 0 size (by decide) (fun _=>rfl)),⟨[],rfl,fun x ai=>(by cases ai)⟩,rfl,fun _ _=>⟨[],rfl,fun x ai=>(by cases ai)⟩⟩
  ·have L6:len<=m:=by rw[J8];split<;>omega
   obtain⟨xs,cX,ge⟩:=Yn (n:=len) (p:=fun i (lQ:List ag)=>∃cs',w.cells? base (a.add (i*size)) size=some cs'/\cO w (fun b=>b<w.heap.size) lQ cs'/\e.fits lQ/\lQ.length=size/\∀B,((D i).weights P yf).all (·<=B)=true->e.sr B lQ) (fun i ah=>by obtain⟨cs',aa,ab⟩:=ai i (by omega);rw[ap]at aa;obtain⟨lQ,au,aN,bE,cS⟩:=dm.read e yf n cs' _ he ab;exact⟨lQ,cs',aa,au,aN,by rw[bE,aZ],cS⟩)
   have cB:∀x∈xs,x.length=size:=fun x fo=>by obtain⟨i,ah⟩:=mG fo;obtain⟨_,_,_,_,h,_⟩:=ge i x ah;exact h
   refine⟨[.list size xs],cO.one ?_,⟨xs,rfl,fun x fo=>?_⟩,rfl,fun B bk=>⟨xs,rfl,fun x fo=>?_⟩⟩
   ·have ip:∀(j:Nat) (c:ag),xs.flatten[j]?=some c->∃u,w.cell? (a.add j)=some u/\bD w (fun b=>b<w.heap.size) c u:=by
     intro j c ac;rw[Yq a1 cB]at ac;obtain⟨y,aU,ziB⟩:=Option.bind_eq_some_iff.1 ac;obtain⟨cs',aa,ab,_,aN,_⟩:=ge _ y aU;obtain⟨u,hu,ao⟩:=ab.2 _ c ziB;refine⟨u,?_,ao⟩;unfold World.cells? at aa;split at aa
     ·have:=mapM_some_get aa (j%size) (j%size) (by simp[Nat.mod_lt _ a1]);rw[hu,Gr]at this;have aK:j/size*size+j%size=j:=by rw[Nat.mul_comm];exact Nat.div_add_mod j size
      rw[aK]at this;exact this
     ·cases aa
    cases xs with
    |nil=>simp at cX;subst cX;exact .mF (some a) cap size hm (fun h=>by cases h)
    |cons y aV=>
     have aU:(y::aV).flatten[0]?≠none:=by have:=cB y (by simp);simp only[ta];rw[kx (by omega),ne_eq,List.getElem?_eq_none_iff];omega
     obtain⟨c,GR⟩:=J'.1 aU;obtain⟨u,hu,_⟩:=ip 0 c GR;have dW:a.block<w.heap.size/\a.spot=none:=by
      have cC:a.add 0=a:=by simp[Addr.add]
      rw[cC]at hu;unfold World.cell? at hu;split at hu
      ·rename_i heq;refine⟨(jb.1 heq).1,?_⟩;split at hu
       ·cases hu
       ·rename_i ziC;simpa using ziC
      ·cases hu
     rw[<-cX];refine .list a cap size (y::aV) (fun j=>(w.cell? (a.add j)).getD undef) dW.1 dW.2 (by omega) hm cB (fun j c ac=>?_) (fun j c ac=>?_)
     ·obtain⟨u,hu,_⟩:=ip j c ac;rw[hu];rfl
     ·obtain⟨u,hu,ao⟩:=ip j c ac;rw[hu];exact ao
   ·obtain⟨i,ah⟩:=mG fo;obtain⟨_,_,_,h,_⟩:=ge i x ah;exact h
   ·obtain⟨i,ah⟩:=mG fo;obtain⟨_,_,_,_,_,h⟩:=ge i x ah;refine h B ?_;have jV:i<len:=by rw[<-cX];exact(eQ.1 ah).1
    simp only[DataW.weights,bv,pr,uN,b7]at bk;exact Yo bk.2.1 (D i) (hx.2 ⟨i,by simpa using jV,rfl⟩)
 |.st bp,t,fuel,cs,x,ak,h=>by
  obtain⟨ez,bv,ap,bj⟩:=ak;obtain⟨xs,n,rfl,rfl,al,n4,ai⟩:=DataW.trod_struct bv h;obtain⟨lQ,aa,ab,au,aN⟩:=dm.readAll bp ez.toList 0 n cs (fun i=>(xs[i]?).getD (.nil,[])) bj (by rw[al,ap];omega) (fun i f aw=>by
   have hC:ez[i]?=some f:=by simpa using aw
   rw[ai i f hC];have:i<xs.length:=by rw[n4];exact(jb.1 hC).1
   rw[cr this];rfl)
  refine⟨lQ,by simpa using aa,ab,au,fun B bk=>aN B (fun i f aw=>?_)⟩;have hC:ez[i]?=some f:=by simpa using aw
  have ah:i<xs.length:=by rw[n4];exact(jb.1 hC).1
  simp only[DataW.weights,bv]at bk;refine Yp bk i f.type _ (by simp[hC]) ?_;rw[eZ,cr ah];rfl
def dm.readAll:(bp:List dm)->∀(ez:List Field) (off n:Nat) (cs:List aI) (X:Nat->DataW H×List MemPlace),dm.has.hasAll P ez off bp->cs.length=off+dm.zS bp ->
  (∀(i:Nat) (f:Field),ez[i]?=some f->DataW.trod enc P w base spare E5 n f.type ((cs.drop f.offset).take (P.cellsOf f.type))=some (X i)) ->
  ∃lQ:List ag,cO w (fun b=>b<w.heap.size) lQ (cs.drop off)/\dm.fits.E4 bp lQ/\lQ.length=dm.zS bp/\∀B,(∀(i:Nat) (f:Field),ez[i]?=some f->((X i).1.weights P f.type).all (·<=B)=true)->dm.sr.If B bp lQ
 |[],ez,off,n,cs,X,bj,al,h=>by
  cases ez with
  |nil=>exact⟨[],⟨by simp[al,dm.zS],fun j c ac=>by simp at ac⟩,rfl,rfl,fun _ _=>rfl⟩
  |cons f ez=>exact bj.elim
 |k::bp,ez,off,n,cs,X,bj,al,h=>by
  cases ez with
  |nil=>exact bj.elim
  |cons f ez=>obtain⟨aB,ap,ak,ao⟩:=bj;have ai:=h 0 f rfl;rw[aB,ap]at ai;obtain⟨bw,aa,ab,au,uJ⟩:=dm.read k f.type n _ _ ak ai;obtain⟨bA,aN,bE,cS,r2⟩:=dm.readAll bp ez (off+k.size) n cs (fun i=>X (i+1)) ao (by rw[al];simp only[dm.zS];omega) (fun i g ay=>h (i+1) g ay);refine⟨bw++bA,?_,⟨bw,bA,rfl,ab,bE⟩,by simp[au,cS,dm.zS],fun B bk=>⟨bw,bA,rfl,uJ B (bk 0 f rfl),r2 B (fun i g ay=>bk (i+1) g ay)⟩⟩;have:=aa.append aN;rw[<-Dx,Df]at this;exact this
end
end
end
open Go.ChangeShapes Go.WideShapes
section
variable [bn]
def ziD{H:Type}{enc:aP×aI->H}{P:aM}{f:Func}{s:ChangeSpec}{E6 E7 E8:Bool}{W qk:bb}{args:Array aI}{v:aI}{dJ gs:List (DataW H)}{before pa pv:List MemPlace}
  (g9:DataW.Whole enc P f.params.toList s.vars false W args.toList dJ gs before)(ad:Below W.heap.size W qk)
  (uB:∀(b:Nat) (sp:Nat->Bool) (aA:Bool),DataW.TrodAll enc P qk b sp aA f.resultTypes.toList (v.resultList f.resultTypes.size) (s.fn H (dJ++gs)).results [])
  (gF:∀sp:Nat->Bool,(∀p∈before,sp p.block=true)->DataW.TrodAll enc P qk 0 sp true f.params.toList args.toList (s.fn H (dJ++gs)).args pa)
  (In:∀sp:Nat->Bool,(∀p∈before,sp p.block=true)->DataW.TrodVars enc P qk sp s.vars (s.fn H (dJ++gs)).vars pv)
  (ziE:before=pa++pv)(aD:∀(j:Nat) (t:aP) (r:aI),f.resultTypes[j]?=some t->(v.resultList f.resultTypes.size)[j]?=some r->Value.okWide P qk .any 0 t r) :
  s.post enc P f false E6 E7 E8 W args v qk:=by
 subst ziE;have l1:∀p∈pa++pv,p.block<W.heap.size:=fun p am=>g9.lt p am;have bj:=gF (fun b=>decide (b<W.heap.size)) (fun p am=>by simpa using l1 p am);have aF:=In (fun b=>decide (b<W.heap.size)) (fun p am=>by simpa using l1 p am);refine⟨dJ,gs,pa++pv,[],pa,pv,g9,uB _ _ _,bj,aF,World.keptBut_mono (fun p am=>⟨am,.inr (hg.1 am)⟩) (ad.frame (·∈pa++pv)),fun _=>?_⟩;obtain⟨_,_,_,_,_,aZ,_⟩:=g9;refine⟨aD,_,_,([]++pa)++pv,⟨[]++pa,pv,trodAll_append (gF _ (fun _ _=>rfl)) (uB _ _ _),In _ (fun _ _=>rfl),rfl,fun b off am=>?_,fun h=>(by cases h)⟩,fun p am _=>by simpa using am⟩;have d9:MemPlace.cell b off∈pa++pv:=by simpa using am
 rw[ad.frozen (l1 _ d9)];exact aZ b off d9
def Re:ag->Option aI
 |.bool b=>some (.bool b)
 |.int k n=>some (.int k n)
 |.str l=>some (.string ⟨l.toArray⟩)
 |.atom v=>some v
 |_=>none
def Yr:aG->Option aI
 |.one c=>Re c
 |_=>none
def zT:List aG->Option (List aI)
 |[]=>some []
 |x::r=>match Yr x,zT r with
  |some v,some vs=>some (v::vs)
  |_,_=>none
def bD.Rf{w:bb}{S:Nat->Prop}{c:ag}{v u:aI}(h:bD w S c v)(ap:Re c=some u):v=u:=by cases h<;>simp[Re]at ap<;>exact ap
def cz.Rf{w:bb}{S:Nat->Prop}{x:aG}{v u:aI}(h:cz w S x v)(ap:Yr x=some u):v=u:=by
 cases x with
 |one c=>exact bD.Rf h ap
 |agg cs=>cases ap
def L7{w:bb}{S:Nat->Prop}:∀{args:List aG} {us vs:List aI},us.length=args.length->(∀(j:Nat) (x:aG),args[j]?=some x->∃u,us[j]?=some u/\cz w S x u)->zT args=some vs->us=vs
 |[],us,vs,al,_,h=>by simp[zT]at h;subst h;exact n5 al
 |x::r,us,vs,al,ao,h=>by
  simp only[zT]at h;split at h
  ·rename_i v Io ax aK;injection h with h
   subst h;cases us with
   |nil=>simp at al
   |cons u us=>obtain⟨o5,hu,b8⟩:=ao 0 x rfl;simp at hu;subst hu;have ab:=L7 (us:=us) (by simpa using al) (fun j y aU=>by simpa using ao (j+1) y (by simpa using aU)) aK;rw[b8.Rf ax,ab]
  ·cases h
def Rg{w:bb}{S:Nat->Prop}{args:List aG}{vs:Array aI}(h:od w S args vs):∀x∈args,x.ok:=by intro x ai;obtain⟨j,ac⟩:=mG ai;obtain⟨u,_,ao⟩:=h.2 j x ac;exact ao.ok
def ziF{r:bH}{v:aI}(ao:∀w S,iT w S r v):r.ij v=none:=by
 cases r with
 |own e z xs=>
  cases h:v.ownBlock with
  |none=>exact h
  |some b=>obtain⟨us,_,_,_,_,bk⟩:=ao default (fun _=>False);exact(bk b h).elim
 |_=>rfl
def az.E9{P:aM}{f:FuncId}{args:List aG}{r:bH}(vs:List aI)(v:aI)(ap:tv P f)(bj:zT args=some vs)(ao:∀w S,iT w S r v)
  (h:(∀x∈args,x.ok)->∀w,bn.holds w->Calls P f vs.toArray w fun e w'=>e=.returned v/\Below w.heap.size w w'):az P f args r:=by
 refine⟨ap,fun w S us bS gF=>?_⟩;have e:us=vs.toArray:=by have:=L7 (us:=us.toList) (by rw[l4];exact gF.1) (fun j x ac=>by simpa using gF.2 j x ac) bj;rw[<-this]
 subst e;refine(h (Rg gF) w bS.xi).mono ?_;rintro e w' ⟨rfl,ad⟩;exact⟨v,rfl,ad,ao _ _,fun b ew=>by rw[ziF ao]at ew;cases ew⟩
def az.E_{P:aM}{f:FuncId}{args:List aG}{r:bH}(vs:List aI)(v:aI)(ap:tv P f)(bj:zT args=some vs)(ao:∀w S,iT w S r v)
  (h:(∀x∈args,x.ok)->∀w,Calls P f vs.toArray w fun e w'=>e=.returned v/\Below w.heap.size w w'):az P f args r:=az.E9 vs v ap bj ao (fun ai w _=>h ai w)
def Rh{w:bb}{S:Nat->Prop}(k:IntKind)(n:Int):iT w S (.x (.one (.int k n))) (.int k n):=bD.int k n
def Ri{w:bb}{S:Nat->Prop}(l:aq)(h:l.length<=maxLen):iT w S (.x (.one (.str l))) (.string ⟨l.toArray⟩):=bD.str l h
def rf{P:aM}{f:FuncId}(fn:Func)(h:P.funcs[f]?=some fn) (aX:(fn.name== "runtime.NumGoroutine")=false) (ad:fn.body.isNone=false):tv P f:=⟨fn,h,aX,ad⟩
@[simp]def zGg(n:Nat)(h:n<=65536):(n<=maxLen)=True:=by
 have:(65536:Nat)<=maxLen:=by decide
 exact propext ⟨fun _=>trivial,fun _=>jc h this⟩
def ziG{w:bb}{S:Nat->Prop}{z:Nat}{v:aI}(h:bD w S (.list z []) v):bD w S .nil v\/bD w S (.empty z) v:=by
 cases h with
 |mF a cap _ h aX=>
  cases a with
  |none=>rw[aX rfl];exact .inl .nil
  |some a=>exact .inr (.empty a cap z h)
 |list b' cap _ _ U hs dW ap hm=>exact .inr (.empty b' cap z hm)
def az.Rj{P:aM}{f:FuncId}{pre post:List aG}{z:Nat}{r:bH}(aa:az P f (pre++.one .nil::post) r)(ab:az P f (pre++.one (.empty z)::post) r):az P f (pre++.one (.list z [])::post) r:=by
 refine⟨aa.1,fun w S vs bS bj=>?_⟩;obtain⟨u,hu,ao⟩:=bj.2 pre.length (.one (.list z [])) (by simp);have key:∀c:ag,bD w S c u->od w S (pre++.one c::post) vs:=by
  intro c ap;refine⟨by rw[bj.1];simp,fun j x ac=>?_⟩;by_cases Cj:j=pre.length
  ·subst Cj;simp at ac;subst ac;exact⟨u,hu,ap⟩
  ·refine bj.2 j x ?_;rw[ze]at ac⊢;split at ac
   ·rename_i ar;rw[av ar];exact ac
   ·rename_i iN;rw[an iN];obtain⟨m,hm⟩:∃m,j-pre.length=m+1:=⟨j-pre.length-1,by omega⟩
    rw[hm]at ac⊢;simpa using ac
 rcases ziG ao with h|h
 ·exact aa.2 w S vs bS (key _ h)
 ·exact ab.2 w S vs bS (key _ h)
end
open Go.ChangeAt
section
variable [bn]
def dm.Ip:dm->aG->Prop
 |.st bp,.agg cs=>dm.fits (.st bp) cs
 |.st _,_=>False
 |k,.one c=>k.fits [c]
 |_,_=>False
def dm.Rk(B:Nat):dm->aG->Prop
 |.st bp,.agg cs=>dm.sr B (.st bp) cs
 |.st _,_=>False
 |k,.one c=>k.sr B [c]
 |_,_=>False
def L8(B:Nat):List dm->List aG->Prop
 |[],[]=>True
 |k::bp,x::xs=>k.Rk B x/\L8 B bp xs
 |_,_=>False
def L9:List dm->List aG->Prop
 |[],[]=>True
 |k::bp,x::xs=>k.Ip x/\L9 bp xs
 |_,_=>False
def L_(P:aM):List dm->List aP->Prop
 |[],[]=>True
 |k::bp,t::ts=>k.has P t/\L_ P bp ts
 |_,_=>False
section
variable {H:Type}{enc:aP×aI->H}{P:aM}{W:bb}
def ziH{v u:aI}(h:v.cells.toList=[u])(aX:∀cs,v≠.agg cs):v=u:=by cases v<;>first|(exact absurd rfl (aX _))|(simpa[Value.cells]using h)
def ziI(k:dm)(t:aP){v:aI}{d:DataW H}{p:List MemPlace}{base:Nat}{sp:Nat->Bool}{E5:Bool}(ak:k.has P t)(aD:∃b,Value.okWide P W .any b t v)(h:DataW.Trod enc P W base sp E5 t v d p) :
  ∃x:aG,cz W (fun b=>b<W.heap.size) x v/\k.Ip x/\∀B,(d.weights P t).all (·<=B)=true->k.Rk B x:=by
 obtain⟨fuel,aw⟩:=h;obtain⟨v_,aD⟩:=aD;obtain⟨lQ,b8,fm,cX,bk⟩:=dm.read k t fuel _ _ ak aw;unfold Value.okWide at aD;have one:∀c,lQ=[c]->(∀cs,v≠.agg cs)->cz W (fun b=>b<W.heap.size) (.one c) v:=by intro c ap aX;subst ap;obtain⟨aa,ab⟩:=b8;obtain⟨u,hu⟩:∃u,v.cells.toList=[u]:=GH.1 aa;obtain rfl:=ziH hu aX;obtain⟨o5,iz,ao⟩:=ab 0 c rfl;rw[hu]at iz;simp at iz;rw[<-iz]at ao;exact ao
 cases k with
 |b=>have bv:P.underlying t=some .bool:=ak;obtain⟨x,rfl⟩:=fm;refine⟨.one (.bool x),one _ rfl (fun cs e=>?_),⟨x,rfl⟩,fun B h=>bk B h⟩;subst e;rw[bv]at aD;simp[Cell.okWide,Cell.ok,bv]at aD
 |i q=>have bv:P.underlying t=some (.int q):=ak;obtain⟨x,rfl,hw⟩:=fm;refine⟨.one (.int q x),one _ rfl (fun cs e=>?_),⟨x,rfl,hw⟩,fun B h=>bk B h⟩;subst e;rw[bv]at aD;simp[Cell.okWide,Cell.ok,bv]at aD
 |s=>have bv:P.underlying t=some .string:=ak;obtain⟨x,rfl,hw⟩:=fm;refine⟨.one (.str x),one _ rfl (fun cs e=>?_),⟨x,rfl,hw⟩,fun B h=>bk B h⟩;subst e;rw[bv]at aD;simp[Cell.okWide,Cell.ok,bv]at aD
 |ye size e=>obtain⟨yf,bv,_⟩:=ak;obtain⟨x,rfl,hw⟩:=fm;refine⟨.one (.list size x),one _ rfl (fun cs e=>?_),⟨x,rfl,hw⟩,fun B h=>bk B h⟩;subst e;rw[bv]at aD;simp[Cell.okWide,Cell.ok,bv]at aD
 |st bp=>obtain⟨ez,bv,_⟩:=ak;rw[bv]at aD;obtain⟨cs,rfl,_⟩:=aD;exact⟨.agg lQ,⟨cs,rfl,b8⟩,fm,fun B h=>bk B h⟩
def Ys:∀(bp:List dm) (ts:List aP) (vs:List aI) (dJ:List (DataW H)) (p:List MemPlace) {base:Nat} {sp:Nat->Bool} {E5:Bool},L_ P bp ts ->
  (∀(j:Nat) t v,ts[j]?=some t->vs[j]?=some v->∃b,Value.okWide P W .any b t v)->DataW.TrodAll enc P W base sp E5 ts vs dJ p ->
  ∃xs:List aG,od W (fun b=>b<W.heap.size) xs vs.toArray/\L9 bp xs/\∀B,(DataW.weightsEach P ts dJ).all (·<=B)=true->L8 B bp xs
 |[],ts,vs,dJ,p,_,_,_,ak,_,h=>by
  cases ts with
  |nil=>obtain⟨rfl,_,_⟩:=trodAll_nil h;exact⟨[],⟨rfl,fun j x ac=>by simp at ac⟩,trivial,fun _ _=>trivial⟩
  |cons t ts=>exact ak.elim
 |k::bp,ts,vs,dJ,p,_,_,_,ak,aD,h=>by
  cases ts with
  |nil=>exact ak.elim
  |cons t ts=>
   obtain⟨v,Io,d,L',kz,eI,rfl,rfl,rfl,a1,ao⟩:=trodAll_cons h;obtain⟨x,aa,ab,ql⟩:=ziI k t ak.1 (aD 0 t v rfl rfl) a1;obtain⟨xs,au,aN,ziJ⟩:=Ys bp ts Io L' eI ak.2 (fun j t v bv aF=>aD (j+1) t v (by simpa using bv) (by simpa using aF)) ao;refine⟨x::xs,⟨by have:=au.1;simp at this⊢;exact this,fun j y ac=>?_⟩,⟨ab,aN⟩,fun B bk=>?_⟩;rotate_left
   ·rw[DataW.weightsEach,uN,b7]at bk;exact⟨ql B bk.1,ziJ B bk.2⟩
   cases j with
   |zero=>simp at ac;subst ac;exact⟨v,by simp,aa⟩
   |succ j=>simp at ac;obtain⟨u,hu,zl⟩:=au.2 j y ac;exact⟨u,by simpa using hu,zl⟩
def Yt{qk:bb}(al:laidOutB P=true):∀(ts:List aP) (vs:List aI) (dJ:List (DataW H)) (p:List MemPlace) {base:Nat} {Yu:Nat->Bool},(∀t∈ts,P.readableRec t=true/\t<P.types.size) ->
  DataW.TrodAll enc P W base (fun _=>true) true ts vs dJ p->(∀x∈p,W.sameAt qk x)->(∀x∈p,Yu x.block=true)->DataW.TrodAll enc P qk base Yu true ts vs dJ p
 |[],vs,dJ,p,_,_,_,h,_,_=>by obtain⟨rfl,rfl,rfl⟩:=trodAll_nil h;exact trodAll_mk0
 |t::ts,vs,dJ,p,_,_,bv,h,hs,am=>by
  obtain⟨v,Io,d,L',kz,eI,rfl,rfl,rfl,a1,ao⟩:=trodAll_cons h;exact trodAll_cons_mk (WideElems.Trod_stays al (bv t (by simp)).1 (bv t (by simp)).2 a1 (fun x ai=>hs x (by simp[ai])) (fun x ai=>am x (by simp[ai])))
   (Yt al ts Io L' eI (fun t h=>bv t (by simp[h])) ao (fun x ai=>hs x (by simp[ai])) (fun x ai=>am x (by simp[ai])))
end
def ziK{H:Type}{enc:aP×aI->H}{P:aM}{f:FuncId}{fn:Func}{s:ChangeSpec}{W:bb}{args:Array aI}{dJ gs:List (DataW H)}{before:List MemPlace}{tb:aP}{E6 E7 E8:Bool}
  (bp:List dm)(hd:L_ P bp fn.params.toList)(law:∀xs,L9 bp xs->L8 reachBytes bp xs->az P f xs (.x (.one (.bool true))))
  (al:laidOutB P=true)(ziL:∀t∈fn.params.toList,P.readableRec t=true/\t<P.types.size)(ad:P.underlying tb=some .bool)(uB:fn.resultTypes=#[tb])(In:s.vars=[])
  (dW:∀dJ:List (DataW H),dJ.length=bp.length->s.fn H dJ={results:=[.lit (.bool true)],args:=dJ})
  (gV:∃base,∀(j:Nat) t v,fn.params[j]?=some t->args[j]?=some v->Value.okWide P W .any base t v)
  (g9:DataW.Whole enc P fn.params.toList s.vars false W args.toList dJ gs before)(tx:bn.holds W)(cB:∃(Ma Yv:List (DataW H)) (Yw:List MemPlace),DataW.Whole enc P fn.params.toList s.vars false W args.toList Ma Yv Yw/\(DataW.weightsEach P fn.params.toList Ma).all (·<=reachBytes)=true) :
  Calls P f args W fun e qk=>∃v,e=.returned v/\s.post enc P fn false E6 E7 E8 W args v qk:=by
 have wA:=g9;obtain⟨p,q,Yx,Ck,rfl,kb,hi⟩:=g9;have c0:DataW.TrodAll enc P W 0 (fun _=>true) true fn.params.toList args.toList dJ p:=Yx;rw[In]at Ck;obtain⟨rfl,rfl⟩:=trodVars_none Ck;obtain⟨base,gV⟩:=gV;obtain⟨Ma,Yv,Yw,BH,HC⟩:=cB;obtain⟨e4,dt,q3,_⟩:=BH;have ziM:DataW.TrodAll enc P W 0 (fun _=>true) true fn.params.toList args.toList Ma e4:=q3;obtain⟨xs,b8,fm,ziN⟩:=Ys bp _ _ _ _ hd (fun j t v bv aF=>⟨base,gV j t v (by simpa using bv) (by simpa using aF)⟩) ziM;have cX:dJ.length=bp.length:=by
  have eo:∀(ts:List aP) (vs:List aI) (dJ:List (DataW H)) (p:List MemPlace),DataW.TrodAll enc P W 0 (fun _=>true) true ts vs dJ p->dJ.length=ts.length:=by
   intro ts;induction ts with
   |nil=>intro vs dJ p h;obtain⟨_,rfl,_⟩:=trodAll_nil h;rfl
   |cons t ts ba=>intro vs dJ p h;obtain⟨v,Io,d,L',kz,eI,_,rfl,_,_,ao⟩:=trodAll_cons h;simp[ba _ _ _ ao]
  have l2:∀(bp:List dm) (ts:List aP),L_ P bp ts->bp.length=ts.length:=by
   intro bp;induction bp with
   |nil=>intro ts h;cases ts with|nil=>rfl|cons t ts=>exact h.elim
   |cons k bp ba=>intro ts h;cases ts with|nil=>exact h.elim|cons t ts=>simp[ba ts h.2]
  rw[eo _ _ _ _ c0,l2 _ _ hd]
 have ap:=(law xs fm (ziN _ HC)).2 W (fun b=>b<W.heap.size) args ⟨fun b ad=>ad,fun _ h=>h.elim,fun _ _ h=>h.elim,tx,fun _ _ h=>h.elim⟩ (by simpa using b8);clear Yx;refine ap.mono fun e qk ⟨u,he,ay,ao,_⟩=>?_;subst he;obtain rfl:u=.bool true:=by cases ao;rfl
 have ar:∀x∈p,x.block<W.heap.size:=fun x ai=>by simpa using wA.lt x (by simpa using ai)
 have ix:s.fn H (dJ++[])={results:=[.lit (.bool true)],args:=dJ}:=by rw[AN];exact dW dJ cX
 refine⟨_,rfl,ziD (pa:=p) (pv:=[]) wA ay ?_ ?_ ?_ (by simp) ?_⟩
 ·intro _ _ _;rw[uB,ix];exact trodAll_cons_mk (shut_bool ad _) trodAll_mk0
 ·intro sp dW;rw[ix];exact Yt al _ _ _ _ ziL c0 (fun x ai=>ay.same (ar x ai)) (fun x ai=>dW x (by simpa using ai))
 ·intro _ _;rw[ix,In];rfl
 ·exact ok_one uB rfl (okWide_bool_mk ad _)
end
def ziO(P:aM)(l:List (String×(Array aI->Prop)))(w:bb):Prop:=∀x∈l,∃cs,w.var? P x.1=some cs/\x.2 cs
def ziP{P:aM}{w:bb}{n:String}{cs:Array aI}{b:Nat}(h:w.var? P n=some cs)(ay:P.globalNamed n=some b):b<w.heap.size:=by
 unfold World.var? at h;rw[ay]at h;simp only[Option.bind_some]at h;rcases mH b w.heap.size with bx|bx
 ·exact bx
 ·rw[H3 bx]at h;simp at h
def ziQ{P:aM}{w w':bb}{n:String}{cs:Array aI}(h:w.var? P n=some cs)(ak:∀b,P.globalNamed n=some b->w'.heap[b]?=w.heap[b]?):w'.var? P n=some cs:=by
 unfold World.var? at h⊢;cases ay:P.globalNamed n with
 |none=>rw[ay]at h;cases h
 |some b=>rw[ay]at h;simp only[Option.bind_some]at h⊢;rw[ak b ay];exact h
@[reducible]def bn.Rl(P:aM)(l:List (String×(Array aI->Prop))):bn where
 holds:=ziO P l
 at_:=fun b=>∃x∈l,P.globalNamed x.1=some b
 lt:=fun h ⟨x,ai,ay⟩=>let ⟨_,ap,_⟩:=h x ai;ziP ap ay
 Uq:=fun h _ ak x ai=>let ⟨cs,ap,am⟩:=h x ai;⟨cs,ziQ ap (fun b ad=>ak b ⟨x,ai,ad⟩),am⟩
def ziR{P:aM}{W:bb}{x:String×DataW Unit}{rest:List (String×DataW Unit)}(h:laidMet P (x::rest) W):laidMet P rest W:=by obtain⟨uP,⟨g,t,cs,fuel,p,q,aa,ab,au,aN,bE,rfl⟩,aX,ad⟩:=h;refine⟨q,bE,(Iq.1 aX).2.1,fun b off hm=>ad b off (List.mem_append_right _ hm)⟩
def Yy{P:aM}{W:bb}{name:String}{k:IntKind}{c3:List Int}{g:Nat}{t e:aP}{n:Nat}
  (ay:P.globalNamed name=some g)(uA:(P.globals[g]?).map (·.type)=some t)(bv:P.underlying t=some (.array n e))(he:P.underlying e=some (.int k))(Ir:P.cellsOf e=1)(Mb:P.cellsOf t=n) :
  ∀(j:Nat) {l:List (String×DataW Unit)},laidMet P l W->l[j]?=some (name,Lib.tabData k c3)->Lib.TabIs P W name k c3
 |0,[],_,ac=>by simp at ac
 |0,x::r,h,ac=>by simp at ac;subst ac;exact Lib.tabIs_of_head ay uA bv he Ir Mb h
 |j+1,[],_,ac=>by simp at ac
 |j+1,x::r,h,ac=>Yy ay uA bv he Ir Mb j (ziR h) (by simpa using ac)
def Rm:Array aI:=(Lib.pow10Tab.map fun z=>Value.int .u64 z).toArray
@[reducible]def zGh(P:aM):bn:=bn.Rl P [("internal/strconv.uint64pow10",(·=Rm))]
class cF[bn](P:aM):Prop where
 ziS:∀w,bn.holds w->Lib.TabIs P w "internal/strconv.uint64pow10" .u64 Lib.pow10Tab
def Yz(cs:Array aI):Prop:=∃yf ziT,cs[0]?=some (.iface yf ziT)
@[reducible]def zGi(P:aM):bn:=bn.Rl P [("internal/strconv.uint64pow10",(·=Rm)),("strconv.ErrSyntax",Yz)]
class zGj[bn](P:aM):Prop where
 err:∀w,bn.holds w->∃cs,w.var? P "strconv.ErrSyntax" =some cs/\Yz cs
section
variable [bn]
def tQ{α:Type}(X:(α->Prop)->Prop):Prop:=∀K:α->Prop,X K->∃x,(∀bT:α->Prop,bT x->X bT)/\K x
section
variable {P:aM}{n:Nat}{s:aj}
def Rn{c:Prop×Option (FuncId×List (ae×Option Nat))}{K:List (ae×Option Nat)->bH->List ae->Prop}(h:jY P s c K) :
  ∃xs r outs,(∀bT,bT xs r outs->jY P s c bT)/\K xs r outs:=by
 obtain⟨c3,r,outs,aa,ab⟩:=wm.1 h;exact⟨c3,r,outs,fun _ k=>wm.2 ⟨c3,r,outs,aa,k⟩,ab⟩
def ziU{c:Prop×Option (FuncId×List aG)}{m:(aj->Prop)->Prop}{st:bH->aj}{d:bH->Prop}{K:aj->Prop}(hm:tQ m)(h:nC P c (fun r=>d r/\K (st r)) (m K)) :
  ∃s',(∀bT:aj->Prop,bT s'->nC P c (fun r=>d r/\bT (st r)) (m bT))/\K s':=by
 unfold nC at h⊢;split at h
 ·obtain⟨am,⟨r,ap,aA,ak⟩|⟨_,_,_,aw⟩|h⟩:=h
  ·exact⟨_,fun bT k=>⟨am,.inl ⟨r,ap,aA,k⟩⟩,ak⟩
  ·exact aw.elim
  ·obtain⟨s',aa,ab⟩:=hm K h;exact⟨s',fun bT k=>⟨am,.inr (.inr (aa bT k))⟩,ab⟩
 ·exact hm K h
def ziV{c:Prop×Option (FuncId×List aG)}{m:(aj->Prop)->Prop}{st st2:bH->aj}{d:bH->Prop}{N:List aG->List aG->bH->Prop}{K:aj->Prop}(hm:tQ m)(h:nC P c (fun r=>d r/\K (st r)) (m K) (fun xs ea r=>N xs ea r/\r.flat=true/\d r/\K (st2 r))) :
  ∃s',(∀bT:aj->Prop,bT s'->nC P c (fun r=>d r/\bT (st r)) (m bT) (fun xs ea r=>N xs ea r/\r.flat=true/\d r/\bT (st2 r)))/\K s':=by
 unfold nC at h⊢;split at h
 ·obtain⟨am,⟨r,ap,aA,ak⟩|⟨ea,r,ap,aa,ab,au,ak⟩|h⟩:=h
  ·exact⟨_,fun bT k=>⟨am,.inl ⟨r,ap,aA,k⟩⟩,ak⟩
  ·exact⟨_,fun bT k=>⟨am,.inr (.inl ⟨ea,r,ap,aa,ab,au,k⟩)⟩,ak⟩
  ·obtain⟨s',aa,ab⟩:=hm K h;exact⟨s',fun bT k=>⟨am,.inr (.inr (aa bT k))⟩,ab⟩
 ·exact hm K h
def ziW(op:Op)(dst:Option Tmp):tQ (gg P n s op dst):=by
 intro K h;have plain:∀d,(bu P s op).1/\d<n/\K (put s d (bu P s op).2)->∃s',(∀bT:aj->Prop,bT s'->((bu P s op).1/\d<n/\bT (put s d (bu P s op).2)))/\K s':=
  fun d h=>⟨_,fun _ k=>⟨h.1,h.2.1,k⟩,h.2.2⟩
 cases dst with
 |none=>
  cases op<;>try (exact h.elim)
  case store t cN x=>
   simp only[gg]at h⊢;split at h
   ·exact⟨_,fun _ k=>⟨h.1,h.2.1,h.2.2.1,k⟩,h.2.2.2⟩
   ·exact⟨_,fun _ k=>⟨h.1,h.2.1,k⟩,h.2.2⟩
  case mapUpdate t m k x=>simp only[gg]at h⊢;obtain⟨bJ,_,bx,has⟩:=Pn h;exact⟨_,fun _ k=>has _ ⟨bx.1,k⟩,bx.2⟩
  case call c=>
   simp only[gg]at h⊢;split at h
   ·split at h
    ·exact⟨_,fun _ k=>⟨h.1,k⟩,h.2⟩
    ·exact h.elim
   ·exact h.elim
  case makeMap t r=>cases r<;>exact h.elim
  case assign x=>cases x<;>exact h.elim
  all_goals exact h.elim
 |some d=>
  cases op<;>try (exact plain d h)
  case alloc t=>
   simp only[gg]at h⊢;cases aZ:hT P t with
   |none=>rw[aZ]at h;exact h.elim
   |some cs=>rw[aZ]at h;exact⟨_,fun _ k=>⟨h.1,k⟩,h.2⟩
  case makeMap t r=>
   cases r with
   |none=>exact⟨_,fun _ k=>⟨h.1,k⟩,h.2⟩
   |some r=>exact plain d h
  case makeSlice t l c=>exact⟨_,fun _ k=>⟨h.1,h.2.1,k⟩,h.2.2⟩
  case convert src dst x=>
   simp only[gg]at h⊢;cases gQ:ju P dst with
   |true=>rw[gQ]at h;exact⟨_,fun _ k=>⟨h.1,h.2.1,k⟩,h.2.2⟩
   |false=>rw[gQ]at h;exact⟨_,fun _ k=>⟨h.1,h.2.1,k⟩,h.2.2⟩
  case box t x=>
   simp only[gg]at h⊢;split at h
   ·exact⟨_,fun _ k=>⟨h.1,h.2.1,k⟩,h.2.2⟩
   split at h
   ·exact⟨_,fun _ k=>⟨h.1,h.2.1,h.2.2.1,h.2.2.2.1,k⟩,h.2.2.2.2⟩
   split at h
   ·exact⟨_,fun _ k=>⟨h.1,h.2.1,k⟩,h.2.2⟩
   ·exact h.elim
  case build t parts=>exact⟨_,fun _ k=>⟨h.1,h.2.1,k⟩,h.2.2⟩
  case buildSlice t len parts=>exact⟨_,fun _ k=>⟨h.1,h.2.1,k⟩,h.2.2⟩
  case assign x=>
   cases x with
   |tmp t=>
    simp only[gg]at h⊢;cases hs:s t with
    |own e size xs=>rw[hs]at h;exact⟨_,fun _ k=>⟨h.1,k⟩,h.2⟩
    |mp c bs es=>rw[hs]at h;exact⟨_,fun _ k=>⟨h.1,k⟩,h.2⟩
    |view i aO len wh=>
     rw[hs]at h;dsimp only at h⊢;cases hid:decide (i=d)with
     |false=>rw[hid]at h;exact⟨_,fun _ k=>⟨h.1,k⟩,h.2⟩
     |true=>
      rw[hid]at h;obtain⟨aA,h⟩:=h;dsimp only;unfold Bu at h⊢;split at h
      ·split at h
       ·exact⟨_,fun _ k=>⟨aA,k⟩,h⟩
       ·exact⟨_,fun _ k=>⟨aA,k⟩,h⟩
      ·exact h.elim
    |_=>rw[hs]at h;exact⟨_,fun _ k=>⟨h.1,k⟩,h.2⟩
   |_=>exact plain d h
  case call c=>
   simp only[gg]at h⊢;split at h
   ·rename_i f zgM;refine ziV (N:=fun xs ea _=>xN n s xs ea) (d:=fun _=>d<n) (st2:=fun r=>put s d r.dj) (m:=fun K=>qV P (xu s f c.args.toList) (fun r=>d<n/\K (put s d r.dj)) (qU s (tu s c.args.toList) fun s=>jY P s (gX s f c.args.toList) (fun xs r outs=>d<n/\K (put (gf s xs outs) d r.dj)))) (fun K h=>?_) h;have key:(qU s (tu s c.args.toList) fun s=>jY P s (gX s f c.args.toList) (fun xs r outs=>d<n/\K (put (gf s xs outs) d r.dj)))->∃s',(∀bT:aj->Prop,bT s'->(qU s (tu s c.args.toList) fun s=>jY P s (gX s f c.args.toList) (fun xs r outs=>d<n/\bT (put (gf s xs outs) d r.dj))))/\K s':=by
     intro h;unfold qU at h⊢;obtain⟨xs,r,outs,aa,ab⟩:=Rn h;exact⟨_,fun bT k=>aa _ ⟨ab.1,k⟩,ab.2⟩
    unfold qV at h⊢;split at h
    ·obtain⟨am,⟨r,aa,fH,ab,au⟩|h⟩:=h
     ·exact⟨_,fun _ k=>⟨am,.inl ⟨r,aa,fH,ab,k⟩⟩,au⟩
     ·obtain⟨s',aa,ab⟩:=key h;exact⟨s',fun bT k=>⟨am,.inr (aa bT k)⟩,ab⟩
    ·exact key h
   ·split at h
    ·obtain⟨bJ,_,bx,has⟩:=KS h;exact⟨_,fun _ k=>has _ ⟨bx.1,bx.2.1,k⟩,bx.2.2⟩
    ·exact h.elim
   ·exact plain d h
def ziX(e:Bool)(op:Op)(dst:Option Tmp):tQ (wv P n s e op dst):=by
 intro K h;cases dst with
 |none=>exact h.elim
 |some d=>
  cases op
  case buildSlice t len parts=>
   cases e with
   |true=>obtain⟨aa,ab,au⟩:=h;exact⟨_,fun _ k=>⟨aa,ab,k⟩,au⟩
   |false=>obtain⟨aa,ab⟩:=h;exact⟨_,fun _ k=>⟨aa,k⟩,ab⟩
  case call c=>
   simp only[wv]at h⊢;split at h
   ·obtain⟨r,aa,au,aN⟩:=G3 h;exact⟨_,fun _ k=>aa _ ⟨au,k⟩,aN⟩
   ·exact⟨_,fun _ k=>⟨h.1,h.2.1,h.2.2.1,k⟩,h.2.2.2⟩
  all_goals exact⟨_,fun _ k=>⟨h.1,h.2.1,h.2.2.1,k⟩,h.2.2.2⟩
def ziY(e:Bool)(op:Op)(dst:Option Tmp):tQ (wx P n s e op dst):=by
 intro K h;unfold wx at h⊢;split at h
 ·split at h
  ·cases e with
   |true=>obtain⟨xs,r,outs,aa,ab⟩:=Rn h;exact⟨_,fun bT k=>aa _ ⟨ab.1,ab.2.1,k⟩,ab.2.2⟩
   |false=>exact⟨_,fun _ k=>⟨h.1,k⟩,h.2⟩
  ·exact h.elim
 ·exact h.elim
def Cl(ops:Array Oper)(o:Oper):tQ (gq P n ops o s):=by
 intro K h;unfold gq at h⊢;cases ay:o.guard with
 |none=>rw[ay]at h;exact ziW _ _ K h
 |some g=>
  rw[ay]at h;simp only at h⊢;cases he:dA ops s g with
  |none=>rw[he]at h;exact h.elim
  |some e=>
   rw[he]at h;simp only at h⊢;split at h
   ·rename_i al;exact ziY _ _ _ K h
   ·rename_i al;exact ziX _ _ _ K h
def YA(ops:Array Oper):∀(l:List Oper) (s:aj),tQ (bR P n ops l s)
 |[],s=>fun K h=>⟨s,fun _ k=>k,h⟩
 |o::l,s=>fun K h=>by obtain⟨s1,aa,ab⟩:=Cl ops o _ h;obtain⟨s2,au,aN⟩:=YA ops l s1 K ab;exact⟨s2,fun bT k=>aa _ (au bT k),aN⟩
def Is(ops:Array Oper)(o:Oper):tQ (dU P n ops o s):=by
 intro K h;unfold dU at h⊢;cases aA:o.dst with
 |none=>rw[aA]at h;exact h.elim
 |some d=>
  rw[aA]at h;obtain⟨aX,aB,h⟩:=h;dsimp only;have go:∀{X:(aj->Prop)->Prop},(∃s',(∀bT:aj->Prop,bT s'->X bT)/\K s')->∃s',(∀bT:aj->Prop,bT s'->d<n/\(s d).aR=false/\X bT)/\K s':=fun ⟨s',aa,ab⟩=>⟨s',fun bT k=>⟨aX,aB,aa bT k⟩,ab⟩
  refine go ?_;cases ay:o.guard with
  |none=>
   rw[ay]at h;dsimp only at h⊢;cases aB:o.op with
   |alloc t=>
    rw[aB]at h;dsimp only at h⊢;cases aZ:hT P t with
    |none=>rw[aZ]at h;exact h.elim
    |some cs=>rw[aZ]at h;exact⟨_,fun _ k=>k,h⟩
   |convert src dst x=>
    rw[aB]at h;dsimp only at h⊢;cases gQ:ju P dst with
    |true=>rw[gQ]at h;exact⟨_,fun _ k=>⟨h.1,k⟩,h.2⟩
    |false=>rw[gQ]at h;exact⟨_,fun _ k=>⟨h.1,k⟩,h.2⟩
   |box t x=>
    rw[aB]at h;dsimp only at h⊢;split at h
    ·exact⟨_,fun _ k=>⟨h.1,k⟩,h.2⟩
    ·exact h.elim
   |buildSlice t len parts=>rw[aB]at h;exact⟨_,fun _ k=>⟨h.1,k⟩,h.2⟩
   |call c=>
    rw[aB]at h;dsimp only at h⊢;split at h
    ·obtain⟨d7,aa,ab,au⟩:=h;exact⟨_,fun _ k=>⟨d7,aa,ab,k⟩,au⟩
    ·exact⟨_,fun _ k=>⟨h.1,k⟩,h.2⟩
   |_=>rw[aB]at h;exact⟨_,fun _ k=>⟨h.1,k⟩,h.2⟩
  |some g=>
   rw[ay]at h;dsimp only at h⊢;cases he:dA ops s g with
   |none=>rw[he]at h;exact h.elim
   |some e=>
    rw[he]at h;dsimp only at h⊢;cases aB:o.op with
    |call c=>
     rw[aB]at h;dsimp only at h⊢;split at h
     ·obtain⟨r,aa,aN⟩:=G3 h;exact⟨_,fun _ k=>aa _ k,aN⟩
     ·exact⟨_,fun _ k=>⟨h.1,h.2.1,k⟩,h.2.2⟩
    |buildSlice t len parts=>
     rw[aB]at h;cases e with
     |true=>exact⟨_,fun _ k=>⟨h.1,k⟩,h.2⟩
     |false=>exact⟨_,fun _ k=>k,h⟩
    |_=>rw[aB]at h;exact⟨_,fun _ k=>⟨h.1,h.2.1,k⟩,h.2.2⟩
def ziZ(o:Oper):tQ (zC P n o s):=by
 intro K h;unfold zC at h⊢;cases aA:o.dst with
 |none=>rw[aA]at h;exact h.elim
 |some d=>
  rw[aA]at h;cases aB:o.op with
  |call c=>
   rw[aB]at h;dsimp only at h⊢;split at h
   ·obtain⟨aX,cl,h⟩:=h;obtain⟨s',aa,ab⟩:=ziU (K:=K) (m:=fun K=>jY P s (gX s _ c.args.toList) (fun aV d7 outs=>po aV outs=true/\d7.dj.aR=false/\K (put (gf s aV outs) d d7.dj))) (fun K h=>by
     obtain⟨xs,r,outs,aa,ab⟩:=Rn h;exact⟨_,fun bT k=>aa _ ⟨ab.1,ab.2.1,k⟩,ab.2.2⟩) h
    exact⟨s',fun bT k=>⟨aX,cl,aa bT k⟩,ab⟩
   ·exact h.elim
  |_=>rw[aB]at h;exact h.elim
def Cm(m:Bool)(ops:Array Oper):∀(l:List Oper) (s:aj),tQ (iY P n m ops l s)
 |[],s=>fun K h=>⟨s,fun _ k=>k,h⟩
 |o::l,s=>fun K h=>by
  simp only[iY]at h⊢;split at h
  ·split at h
   ·obtain⟨s1,aa,ab⟩:=ziZ o _ h;obtain⟨s2,au,aN⟩:=Cm m ops l s1 K ab;exact⟨s2,fun bT k=>aa _ (au bT k),aN⟩
   ·obtain⟨s1,aa,ab⟩:=Is ops o _ h.2;obtain⟨s2,au,aN⟩:=Cm m ops l s1 K ab;exact⟨s2,fun bT k=>⟨h.1,aa _ (au bT k)⟩,aN⟩
  ·split at h
   ·obtain⟨s1,aa,ab⟩:=Cl ops o _ h.2;obtain⟨s2,au,aN⟩:=Cm m ops l s1 K ab;exact⟨s2,fun bT k=>⟨h.1,aa _ (au bT k)⟩,aN⟩
   ·obtain⟨s1,aa,ab⟩:=Cl ops o _ h;obtain⟨s2,au,aN⟩:=Cm m ops l s1 K ab;exact⟨s2,fun bT k=>aa _ (au bT k),aN⟩
def zja(ops:Array Oper)(o:Oper):tQ (x4 P n ops o s):=by
 intro K h;unfold x4 at h⊢;cases aA:o.dst with
 |none=>rw[aA]at h;exact h.elim
 |some d=>
  rw[aA]at h;obtain⟨aX,aB,h⟩:=h;cases ay:o.guard with
  |none=>rw[ay]at h;obtain⟨r,aa,ab⟩:=h;exact⟨_,fun _ k=>⟨aX,aB,r,aa,k⟩,ab⟩
  |some g=>
   rw[ay]at h;simp only at h⊢;split at h
   ·rename_i e;obtain⟨r,aa,ab⟩:=h;exact⟨_,fun _ k=>⟨aX,aB,by first|exact⟨r,aa,k⟩|(rw[e];exact⟨r,aa,k⟩)⟩,ab⟩
   ·rename_i e;exact⟨_,fun _ k=>⟨aX,aB,by first|exact k|(rw[e];exact k)⟩,h⟩
   ·exact h.elim
def wQ(fl:List Nat)(ops:Array Oper):∀(l:List Oper) (b6:List Nat) (s:aj),tQ (e3 P n fl ops b6 l s)
 |[],b6,s=>fun K h=>⟨s,fun _ k=>by simpa only[e3]using k,by simpa only[e3]using h⟩
 |o::l,b6,s=>fun K h=>by
  simp only[e3]at h⊢;split at h
  ·obtain⟨s1,aa,ab⟩:=Cl ops o _ h;obtain⟨s2,au,aN⟩:=wQ fl ops l b6.tail s1 K ab;exact⟨s2,fun bT k=>aa _ (au bT k),aN⟩
  ·obtain⟨s1,aa,ab⟩:=Is ops o _ h;obtain⟨s2,au,aN⟩:=wQ fl ops l b6.tail s1 K ab;exact⟨s2,fun bT k=>aa _ (au bT k),aN⟩
  ·obtain⟨s1,aa,ab⟩:=Cl ops o _ h.2.2;obtain⟨s2,au,aN⟩:=wQ fl ops l b6.tail s1 K ab;exact⟨s2,fun bT k=>⟨h.1,h.2.1,aa _ (au bT k)⟩,aN⟩
  ·obtain⟨s1,aa,ab⟩:=Cl ops o _ h.2;obtain⟨s2,au,aN⟩:=wQ fl ops l b6.tail s1 K ab;exact⟨s2,fun bT k=>⟨h.1,aa _ (au bT k)⟩,aN⟩
  ·obtain⟨s1,aa,ab⟩:=Is ops o _ h.2.2;obtain⟨s2,au,aN⟩:=wQ fl ops l b6.tail s1 K ab;exact⟨s2,fun bT k=>⟨h.1,h.2.1,aa _ (au bT k)⟩,aN⟩
  ·obtain⟨s1,aa,ab⟩:=Is ops o _ h.2;obtain⟨s2,au,aN⟩:=wQ fl ops l b6.tail s1 K ab;exact⟨s2,fun bT k=>⟨h.1,aa _ (au bT k)⟩,aN⟩
  ·obtain⟨s1,aa,ab⟩:=Is ops o _ h.2;obtain⟨s2,au,aN⟩:=wQ fl ops l b6.tail s1 K ab;exact⟨s2,fun bT k=>⟨h.1,aa _ (au bT k)⟩,aN⟩
  ·obtain⟨s1,aa,ab⟩:=Cl ops o _ h.2.2;obtain⟨s2,au,aN⟩:=wQ fl ops l b6.tail s1 K ab;exact⟨s2,fun bT k=>⟨h.1,h.2.1,aa _ (au bT k)⟩,aN⟩
  ·obtain⟨s1,aa,ab⟩:=zja ops o _ h;obtain⟨s2,au,aN⟩:=wQ fl ops l b6.tail s1 K ab;exact⟨s2,fun bT k=>aa _ (au bT k),aN⟩
def It(X:(Exit->aj->Prop)->Prop):Prop:=∀Q:Exit->aj->Prop,X Q->∃e s',(∀du:Exit->aj->Prop,du e s'->X du)/\Q e s'
def It.mono{X:(Exit->aj->Prop)->Prop}(h:It X){Q du:Exit->aj->Prop}(ai:X Q)(bK:∀e s,Q e s->du e s):X du:=by obtain⟨e,s',aa,ab⟩:=h Q ai;exact aa du (bK e s' ab)
def zjb{body:(Exit->aj->Prop)->aj->Prop}(ad:∀s,It (fun Q=>body Q s))(s:aj):It (fun Q=>P6 body Q s):=by
 rintro Q ⟨ι,I,ok,μ,⟨cM,Qg,Qh⟩,Qi⟩;have key:∀(m:Nat) (x:ι),μ x=m->ok x->∃e s',Q e s'/\∃vg:ι->Prop,vg x/\∀du:Exit->aj->Prop,du e s'->∀y,vg y->body (u7 (fun t=>∃z,vg z/\μ z<μ y/\zM t (I z)) du) (I y):=by
  intro m;induction m using Nat.strongRecOn with
  |ind m ba=>
   rintro x rfl ai;obtain⟨ax,s1,aa,ab⟩:=ad (I x) _ (Qi x ai);have stop:Q ax s1->ax≠.normal->∃e s',Q e s'/\∃vg:ι->Prop,vg x/\∀du:Exit->aj->Prop,du e s'->∀y,vg y->body (u7 (fun t=>∃z,vg z/\μ z<μ y/\zM t (I z)) du) (I y):=by
    intro bK bY;refine⟨ax,s1,bK,fun y=>y=x,rfl,fun du tR y aU=>?_⟩;subst aU;refine aa _ ?_;cases ax with
    |normal=>exact absurd rfl bY
    |_=>exact tR
   cases ax with
   |normal=>
    obtain⟨y,aU,ar,HY⟩:=ab;obtain⟨e,s',bK,vg,nJ,kv⟩:=ba (μ y) ar y rfl aU;refine⟨e,s',bK,fun z=>z=x\/vg z,.inl rfl,fun du tR z aZ=>?_⟩;rcases aZ with rfl|aZ
    ·exact aa _ ⟨y,.inr nJ,ar,HY⟩
    ·refine(ad (I z)).mono (kv du tR z aZ) (fun aK s2 h=>?_);cases aK with
     |normal=>obtain⟨v,aF,al,zjc⟩:=h;exact⟨v,.inr aF,al,zjc⟩
     |_=>exact h
   |exit i=>exact stop ab (by simp)
   |_=>exact stop ab (by simp)
 obtain⟨e,s',bK,vg,nJ,kv⟩:=key _ cM rfl Qg;exact⟨e,s',fun du tR=>⟨ι,I,vg,μ,⟨cM,nJ,Qh⟩,kv du tR⟩,bK⟩
def YB[Hint](mE:∀id,(Hint.grow id ||Hint.conv id)=false):∀(c:Code) (s:aj),It (fun Q=>gh P n c Q s):=by
 intro c;induction c with
 |skip=>intro s Q h;exact⟨_,_,fun _ k=>k,h⟩
 |label l=>intro s Q h;exact⟨_,_,fun _ k=>k,h⟩
 |exit id=>intro s Q h;exact⟨_,_,fun _ k=>k,h⟩
 |ret=>intro s Q h;exact⟨_,_,fun _ k=>k,h⟩
 |region id ops kh=>
  intro s Q h;have k_:(Hint.grow id:Bool)=false:=(Ro.1 (mE id)).1;have q7:(Hint.conv id:Bool)=false:=(Ro.1 (mE id)).2;simp only[gh,wI,k_,q7]at h⊢;cases kh with
  |false=>obtain⟨s',aa,ab⟩:=YA ops ops.toList s _ h;exact⟨.normal,s',fun du k=>aa _ k,ab⟩
  |true=>
   cases hw:(Hint.nK id:List Nat)with
   |cons k fl=>simp only[hw]at h⊢;obtain⟨s',aa,ab⟩:=wQ _ ops ops.toList _ s _ h;exact⟨.normal,s',fun du k=>aa _ k,ab⟩
   |nil=>
   simp only[hw]at h⊢;split at h
   ·rcases h with⟨a1,h⟩|⟨l,a1,h⟩
    ·obtain⟨s',aa,ab⟩:=Cm _ ops ops.toList s _ h;exact⟨.normal,s',fun du k=>.inl ⟨a1,aa _ k⟩,ab⟩
    ·obtain⟨s',aa,ab⟩:=Cm _ ops ops.toList _ _ h;exact⟨.normal,s',fun du k=>.inr ⟨l,a1,aa _ k⟩,ab⟩
   ·obtain⟨s',aa,ab⟩:=Cm _ ops ops.toList s _ h;exact⟨.normal,s',fun du k=>aa _ k,ab⟩
 |seq x y BZ B0=>
  intro s Q h;obtain⟨e,s1,aa,ab⟩:=BZ s _ h;cases e with
  |normal=>obtain⟨aK,s2,au,aN⟩:=B0 s1 Q ab;exact⟨aK,s2,fun du k=>aa _ (au du k),aN⟩
  |_=>exact⟨_,s1,fun du k=>aa _ k,ab⟩
 |cond c x y BZ B0=>
  intro s Q h;simp only[gh]at h⊢;unfold wG at h⊢;split at h
  ·rename_i p b e;obtain⟨am,bv,aw⟩:=h;cases b with
   |true=>obtain⟨ax,s1,aa,ab⟩:=BZ s Q (bv rfl);exact⟨ax,s1,fun du k=>⟨am,fun _=>aa du k,fun h=>(by cases h)⟩,ab⟩
   |false=>obtain⟨ax,s1,aa,ab⟩:=B0 s Q (aw rfl);exact⟨ax,s1,fun du k=>⟨am,fun h=>(by cases h),fun _=>aa du k⟩,ab⟩
  ·exact h.elim
 |block id c ba=>
  intro s Q h;obtain⟨e,s1,aa,ab⟩:=ba s _ h;cases e with
  |exit Em=>
   by_cases hid:Em=id
   ·refine⟨.normal,s1,fun du k=>aa _ ?_,?_⟩
    ·simp only[u9];rw[av hid];exact k
    ·simp only[u9]at ab;rw[av hid]at ab;exact ab
   ·refine⟨.exit Em,s1,fun du k=>aa _ ?_,?_⟩
    ·simp only[u9];rw[an hid];exact k
    ·simp only[u9]at ab;rw[an hid]at ab;exact ab
  |_=>exact⟨_,s1,fun du k=>aa _ k,ab⟩
 |loop c ba=>intro s Q h;exact zjb (body:=gh P n c) ba s Q h
 |_=>intro s Q h;exact h.elim
def Cn{α:Type}(P:aM)(rs:List ResultVar)(post:α->Prop)(r:α->bH)(outs:α->List ae)(e:Exit)(s:aj):Prop:=
 (e=.normal\/e=.ret)/\∃x,post x/\kM P s rs (outs x) (r x)/\j1 (im s rs (r x)) 0 (outs x)
def hD{α:Type}(P:aM)(rs:List ResultVar)(s:aj)[post:kj (α->Prop)][r:kj (α->bH)][outs:kj (α->List ae)]:Prop:=
 ∃x,post.val x/\kM P s rs (outs.val x) (r.val x)/\j1 (im s rs (r.val x)) 0 (outs.val x)
def hD.of{α:Type}{P:aM}{rs:List ResultVar}{s:aj}{post:α->Prop}{r:α->bH}{outs:α->List ae}(x:α)(h:post x)(aa:kM P s rs (outs x) (r x)/\j1 (im s rs (r x)) 0 (outs x)):@hD α P rs s ⟨post⟩ ⟨r⟩ ⟨outs⟩:=⟨x,h,aa⟩
@[congr]def zGk{α:Type}{P:aM}{rs:List ResultVar}{post:α->Prop}{r:α->bH}{outs:α->List ae}{e:Exit}{s s':aj}(h:s=s'):Cn P rs post r outs e s=Cn P rs post r outs e s':=by rw[h]
@[simp]def zGl{α:Type}(P:aM)(rs:List ResultVar)(post:α->Prop)(r:α->bH)(outs:α->List ae)(s:aj):Cn P rs post r outs .ret s=@hD α P rs s ⟨post⟩ ⟨r⟩ ⟨outs⟩:=by simp only[Cn,hD,or_true,mX]
def cx.Mc{α:Type}{f:FuncId}{fn:Func}{c:Code}{args:List ae}(post:α->Prop)(r:α->bH)(outs:α->List ae)(hm:P.follows .mixedOrders=true)(aw:P.funcs[f]?=some fn) (fJ:(fn.name== "runtime.NumGoroutine")=false)
  (ad:fn.body=some c)(aD:codeOk c=true)(m:Nat)(zjd:∀x,mi (outs x)=m)(dP:lO m c=true)(fm:∀x,hh args (outs x)=true)(al:args.length<=fn.ntmps)
  (h:gh P fn.ntmps c (Cn P fn.results.toList post r outs) (jk args 0)):∃x,post x/\cx P f args (r x) (outs x):=by
 obtain⟨e,s',aa,ab,x,ai,au⟩:=YB (fun _=>rfl) c _ _ h;exact⟨x,ai,cx.mk hm aw fJ ad aD (by rw[zjd x];exact dP) al (fm x) (Qa:=fun cg t=>cg=e/\t=s') (fun cg t ⟨Rp,qO⟩=>by subst Rp;subst qO;exact⟨ab,au⟩) (fun _=>aa _ ⟨rfl,rfl⟩)⟩
def az.Mc{α:Type}{f:FuncId}{fn:Func}{c:Code}{args:List aG}(post:α->Prop)(r:α->bH)(hm:P.follows .mixedOrders=true)(aw:P.funcs[f]?=some fn) (fJ:(fn.name== "runtime.NumGoroutine")=false)
  (ad:fn.body=some c)(aD:codeOk c=true)(al:args.length<=fn.ntmps)
  (h:gh P fn.ntmps c (Cn P fn.results.toList post r (fun _=>args.map fun _=>ae.dead)) (jk (args.map .x) 0)):∃x,post x/\az P f args (r x):=by
 obtain⟨x,ai,ap⟩:=cx.Mc post r (fun _=>args.map fun _=>ae.dead) hm aw fJ ad aD 0 (fun _=>H2 args) (Ep c) (fun _=>H4 args) (by simpa using al) h;exact⟨x,ai,az.ofM ap⟩
end
end
end Go.Ab
