/- A part of the proof: lemmas and contracts of functions. -/
import Derived.Test.YtaalfcghmjkaeaaGreatDoorAbJ4
import Derived.ChangeArms
import Derived.Deep.Slices
import Derived.Below
import Derived.Carry
import Derived.ChangeSame
import Derived.WalkKit
import Derived.ProofKit
import Derived.OpenShut
import Derived.JoinedCond
import Derived.Lib.LaidTab
import Derived.Lib.ItoaNum
set_option linter.all false
namespace Go.Ab
open Go Go.RowKit
variable [bf]
def VA{α:Type}:∀{n:Nat} {p:Nat->α->Prop},(∀i,i<n->∃x,p i x)->∃l:List α,l.length=n/\∀i x,l[i]?=some x->p i x
 |0,p,_=>⟨[],rfl,fun i x h=>by simp at h⟩
 |n+1,p,h=>by
  obtain⟨x,aj⟩:=h 0 (by omega);obtain⟨l,al,ak⟩:=VA (n:=n) (p:=fun i=>p (i+1)) (fun i ai=>h (i+1) (by omega));refine⟨x::l,by simp[al],fun i y aS=>?_⟩;cases i with
  |zero=>simp at aS;subst aS;exact aj
  |succ i=>simp at aS;exact ak i y aS
inductive cR where
 |b
 |i (k:IntKind)
 |s
 |vQ (size:Nat) (e:cR)
 |st (dN:List cR)
mutual
def cR.size:cR->Nat
 |.st dN=>cR.xW dN
 |_=>1
def cR.xW:List cR->Nat
 |[]=>0
 |k::r=>k.size+cR.xW r
end
def cR.has(P:Program):cR->TypeId->Prop
 |.b,t=>P.underlying t=some .bool
 |.i k,t=>P.underlying t=some (.int k)
 |.s,t=>P.underlying t=some .string
 |.vQ size e,t=>∃pU,P.underlying t=some (.slice pU)/\P.cellsOf pU=size/\e.size=size/\0<size/\cR.has P e pU
 |.st aU,t=>∃dN:Array Field,P.underlying t=some (.struct dN)/\P.cellsOf t=cR.xW aU/\hasAll dN.toList 0 aU
where hasAll:List Field->Nat->List cR->Prop
 |[],_,[]=>True
 |f::dN,off,k::aU=>f.offset=off/\P.cellsOf f.type=k.size/\cR.has P k f.type/\hasAll dN (off+k.size) aU
 |_,_,_=>False
def cR.fits:cR->List af->Prop
 |.b,cs=>∃x,cs=[.bool x]
 |.i k,cs=>∃n,cs=[.int k n]/\(Lit.int k n).wf=true
 |.s,cs=>∃l,cs=[.str l]/\l.length<=maxLen
 |.vQ size e,cs=>∃xs,cs=[.list size xs]/\∀x∈xs,e.fits x
 |.st aU,cs=>C0 aU cs
where C0:List cR->List af->Prop
 |[],cs=>cs=[]
 |k::aU,cs=>∃a b,cs=a++b/\k.fits a/\C0 aU b
def cR.pV(B:Nat):cR->List af->Prop
 |.b,cs=>∃x,cs=[.bool x]
 |.i k,cs=>∃n,cs=[.int k n]/\(Lit.int k n).wf=true
 |.s,cs=>∃l,cs=[.str l]/\l.length<=maxLen/\l.length<=B
 |.vQ size e,cs=>∃xs,cs=[.list size xs]/\∀x∈xs,e.pV B x
 |.st aU,cs=>F' aU cs
where F':List cR->List af->Prop
 |[],cs=>cs=[]
 |k::aU,cs=>∃a b,cs=a++b/\k.pV B a/\F' aU b
section
variable {H:Type}{P:Program}
def VB{p:Nat->Bool}{e:TypeId}:∀{l:List (DataW H)},(DataW.weightsAll P e l).all p=true->∀d∈l,(d.weights P e).all p=true
 |[],_,d,ax=>by cases ax
 |x::r,h,d,ax=>by
  rw[DataW.weightsAll,tL,b4]at h;rcases eT.1 ax with rfl|ax
  ·exact h.1
  ·exact VB h.2 d ax
def VC{p:Nat->Bool}:∀{ts:List TypeId} {c_:List (DataW H)},(DataW.weightsEach P ts c_).all p=true->∀(i:Nat) t d,ts[i]?=some t->c_[i]?=some d->(d.weights P t).all p=true
 |[],_,_,i,t,d,ba,_=>by simp at ba
 |_::_,[],_,i,t,d,_,ax=>by simp at ax
 |a::ts,b::c_,h,i,t,d,ba,ax=>by
  rw[DataW.weightsEach,tL,b4]at h;cases i with
  |zero=>simp at ba ax;subst ba;subst ax;exact h.1
  |succ i=>exact VC h.2 i t d (by simpa using ba) (by simpa using ax)
end
def VD{α:Type}{size:Nat}(aW:0<size):∀{xs:List (List α)} (_:∀x∈xs,x.length=size) (j:Nat),xs.flatten[j]?=(xs[j/size]?).bind (·[j%size]?)
 |[],_,j=>by simp
 |x::r,h,j=>by
  have aj:x.length=size:=h x (by simp);simp only[qn];by_cases ac:j<size
  ·rw[jr (by omega),Nat.div_eq_of_lt ac,ER ac];rfl
  ·obtain⟨k,rfl⟩:∃k,j=k+size:=⟨j-size,by omega⟩
   rw[kb (by omega),aj,yU,VD aW (fun y aS=>h y (by simp[aS])) k,Nat.add_div_right k aW,Nat.add_mod_right];rfl
def cj.append{w:World}{S:Nat->Prop}{a b:List af}{us vs:List Value}(aa:cj w S a us)(ab:cj w S b vs):cj w S (a++b) (us++vs):=by
 refine⟨by simp[aa.1,ab.1],fun j c ac=>?_⟩;by_cases al:j<a.length
 ·rw[jr al]at ac;rw[jr (by rw[aa.1];exact al)];exact aa.2 j c ac
 ·rw[kb (by omega)]at ac;rw[kb (by rw[aa.1];omega),aa.1];exact ab.2 _ c ac
def cj.one{w:World}{S:Nat->Prop}{c:af}{v:Value}(h:bn w S c v):cj w S [c] [v]:=by
 refine⟨rfl,fun j d ac=>?_⟩;cases j with
 |zero=>simp at ac;subst ac;exact⟨v,rfl,h⟩
 |succ j=>simp at ac
section
variable {H:Type}{enc:TypeId×Value->H}{P:Program}{w:World}{base:Nat}{spare:Nat->Bool}{held:Bool}
mutual
def cR.read:(k:cR)->∀(t:TypeId) (fuel:Nat) (cs:List Value) (x:DataW H×List MemPlace),k.has P t->DataW.trod enc P w base spare held fuel t cs=some x ->
  ∃j1:List af,cj w (fun b=>b<w.heap.size) j1 cs/\k.fits j1/\j1.length=k.size/\∀B,(x.1.weights P t).all (·<=B)=true->k.pV B j1
 |.b,t,fuel,cs,x,am,h=>by obtain⟨b,rfl,_⟩:=DataW.trod_bool am h;exact⟨[.bool b],cj.one (.bool b),⟨b,rfl⟩,rfl,fun _ _=>⟨b,rfl⟩⟩
 |.i k,t,fuel,cs,x,am,h=>by obtain⟨n,rfl,_,hw⟩:=DataW.trod_int am h;exact⟨[.int k n],cj.one (.int k n),⟨n,rfl,hw⟩,rfl,fun _ _=>⟨n,rfl,hw⟩⟩
 |.s,t,fuel,cs,x,am,h=>by
  obtain⟨s,rfl,rfl,ap⟩:=DataW.trod_string am h;have al:s.data.toList.length<=maxLen:=by simpa using ap
  exact⟨[.str s.data.toList],cj.one (by simpa using bn.str (w:=w) (S:=fun b=>b<w.heap.size) s.data.toList al),⟨_,rfl,al⟩,rfl,fun B bl=>⟨_,rfl,al,by simpa[DataW.weights]using bl⟩⟩
 |.vQ size e,t,fuel,cs,x,am,h=>by
  obtain⟨pU,ba,ao,aY,aW,he⟩:=am;rcases Go.Deep.open_slice ba h with⟨rfl,_⟩|⟨a,len,cap,m,n,D,zHY,rfl,ae,al,hm,H_,rfl,aj⟩
  ·exact⟨[.list size []],cj.one (.kH none 0 size (by decide) (fun _=>rfl)),⟨[],rfl,fun x aj=>(by cases aj)⟩,rfl,fun _ _=>⟨[],rfl,fun x aj=>(by cases aj)⟩⟩
  ·have zHZ:len<=m:=by rw[H_];split<;>omega
   obtain⟨xs,hlen,fD⟩:=VA (n:=len) (p:=fun i (j1:List af)=>∃cs',w.cells? base (a.add (i*size)) size=some cs'/\cj w (fun b=>b<w.heap.size) j1 cs'/\e.fits j1/\j1.length=size/\∀B,((D i).weights P pU).all (·<=B)=true->e.pV B j1) (fun i ai=>by obtain⟨cs',aa,ab⟩:=aj i (by omega);rw[ao]at aa;obtain⟨j1,ar,aN,bD,b9⟩:=cR.read e pU n cs' _ he ab;exact⟨j1,cs',aa,ar,aN,by rw[bD,aY],b9⟩)
   have b':∀x∈xs,x.length=size:=fun x eP=>by obtain⟨i,ai⟩:=lh eP;obtain⟨_,_,_,_,h,_⟩:=fD i x ai;exact h
   refine⟨[.list size xs],cj.one ?_,⟨xs,rfl,fun x eP=>?_⟩,rfl,fun B bl=>⟨xs,rfl,fun x eP=>?_⟩⟩
   ·have gN:∀(j:Nat) (c:af),xs.flatten[j]?=some c->∃u,w.cell? (a.add j)=some u/\bn w (fun b=>b<w.heap.size) c u:=by
     intro j c ac;rw[VD aW b']at ac;obtain⟨y,aS,zfn⟩:=Option.bind_eq_some_iff.1 ac;obtain⟨cs',aa,ab,_,aN,_⟩:=fD _ y aS;obtain⟨u,hu,an⟩:=ab.2 _ c zfn;refine⟨u,?_,an⟩;unfold World.cells? at aa;split at aa
     ·have:=mapM_some_get aa (j%size) (j%size) (by simp[Nat.mod_lt _ aW]);rw[hu,Ei]at this;have aI:j/size*size+j%size=j:=by rw[Nat.mul_comm];exact Nat.div_add_mod j size
      rw[aI]at this;exact this
     ·cases aa
    cases xs with
    |nil=>simp at hlen;subst hlen;exact .kH (some a) cap size hm (fun h=>by cases h)
    |cons y aQ=>
     have aS:(y::aQ).flatten[0]?≠none:=by have:=b' y (by simp);simp only[qn];rw[jr (by omega),ne_eq,List.getElem?_eq_none_iff];omega
     obtain⟨c,Ic⟩:=Ie.1 aS;obtain⟨u,hu,_⟩:=gN 0 c Ic;have cU:a.block<w.heap.size/\a.spot=none:=by
      have ch:a.add 0=a:=by simp[Addr.add]
      rw[ch]at hu;unfold World.cell? at hu;split at hu
      ·rename_i heq;refine⟨(gM.1 heq).1,?_⟩;split at hu
       ·cases hu
       ·rename_i O3;simpa using O3
      ·cases hu
     rw[<-hlen];refine .list a cap size (y::aQ) (fun j=>(w.cell? (a.add j)).getD undef) cU.1 cU.2 (by omega) hm b' (fun j c ac=>?_) (fun j c ac=>?_)
     ·obtain⟨u,hu,_⟩:=gN j c ac;rw[hu];rfl
     ·obtain⟨u,hu,an⟩:=gN j c ac;rw[hu];exact an
   ·obtain⟨i,ai⟩:=lh eP;obtain⟨_,_,_,h,_⟩:=fD i x ai;exact h
   ·obtain⟨i,ai⟩:=lh eP;obtain⟨_,_,_,_,_,h⟩:=fD i x ai;refine h B ?_;have i8:i<len:=by rw[<-hlen];exact(ep.1 ai).1
    simp only[DataW.weights,ba,qW,tL,b4]at bl;exact VB bl.2.1 (D i) (hh.2 ⟨i,by simpa using i8,rfl⟩)
 |.st aU,t,fuel,cs,x,am,h=>by
  obtain⟨dN,ba,ao,bj⟩:=am;obtain⟨xs,n,rfl,rfl,al,jL,aj⟩:=DataW.trod_struct ba h;obtain⟨j1,aa,ab,ar,aN⟩:=cR.readAll aU dN.toList 0 n cs (fun i=>(xs[i]?).getD (.nil,[])) bj (by rw[al,ao];omega) (fun i f ay=>by
   have mi:dN[i]?=some f:=by simpa using ay
   rw[aj i f mi];have:i<xs.length:=by rw[jL];exact(gM.1 mi).1
   rw[cn this];rfl)
  refine⟨j1,by simpa using aa,ab,ar,fun B bl=>aN B (fun i f ay=>?_)⟩;have mi:dN[i]?=some f:=by simpa using ay
  have ai:i<xs.length:=by rw[jL];exact(gM.1 mi).1
  simp only[DataW.weights,ba]at bl;refine VC bl i f.type _ (by simp[mi]) ?_;rw[dO,cn ai];rfl
def cR.readAll:(aU:List cR)->∀(dN:List Field) (off n:Nat) (cs:List Value) (X:Nat->DataW H×List MemPlace),cR.has.hasAll P dN off aU->cs.length=off+cR.xW aU ->
  (∀(i:Nat) (f:Field),dN[i]?=some f->DataW.trod enc P w base spare held n f.type ((cs.drop f.offset).take (P.cellsOf f.type))=some (X i)) ->
  ∃j1:List af,cj w (fun b=>b<w.heap.size) j1 (cs.drop off)/\cR.fits.C0 aU j1/\j1.length=cR.xW aU/\∀B,(∀(i:Nat) (f:Field),dN[i]?=some f->((X i).1.weights P f.type).all (·<=B)=true)->cR.pV.F' B aU j1
 |[],dN,off,n,cs,X,bj,al,h=>by
  cases dN with
  |nil=>exact⟨[],⟨by simp[al,cR.xW],fun j c ac=>by simp at ac⟩,rfl,rfl,fun _ _=>rfl⟩
  |cons f dN=>exact bj.elim
 |k::aU,dN,off,n,cs,X,bj,al,h=>by
  cases dN with
  |nil=>exact bj.elim
  |cons f dN=>obtain⟨aw,ao,am,an⟩:=bj;have aj:=h 0 f rfl;rw[aw,ao]at aj;obtain⟨bA,aa,ab,ar,oH⟩:=cR.read k f.type n _ _ am aj;obtain⟨c2,aN,bD,b9,r5⟩:=cR.readAll aU dN (off+k.size) n cs (fun i=>X (i+1)) an (by rw[al];simp only[cR.xW];omega) (fun i g aB=>h (i+1) g aB);refine⟨bA++c2,?_,⟨bA,c2,rfl,ab,bD⟩,by simp[ar,b9,cR.xW],fun B bl=>⟨bA,c2,rfl,oH B (bl 0 f rfl),r5 B (fun i g aB=>bl (i+1) g aB)⟩⟩;have:=aa.append aN;rw[<-pr,uX]at this;exact this
end
end
end Go.Ab
namespace Go.Ab
open Go Go.RowKit Go.WideShapes Go.ChangeShapes
variable [bf]
def zfo{H:Type}{enc:TypeId×Value->H}{P:Program}{f:Func}{s:ChangeSpec}{fresh handsOn again:Bool}{W nX:World}{args:Array Value}{v:Value}{c_ gs:List (DataW H)}{before pa pv:List MemPlace}
  (dq:DataW.Whole enc P f.params.toList s.vars false W args.toList c_ gs before)(ae:Below W.heap.size W nX)
  (rP:∀(b:Nat) (sp:Nat->Bool) (ax:Bool),DataW.TrodAll enc P nX b sp ax f.resultTypes.toList (v.resultList f.resultTypes.size) (s.fn H (c_++gs)).results [])
  (fJ:∀sp:Nat->Bool,(∀p∈before,sp p.block=true)->DataW.TrodAll enc P nX 0 sp true f.params.toList args.toList (s.fn H (c_++gs)).args pa)
  (Ga:∀sp:Nat->Bool,(∀p∈before,sp p.block=true)->DataW.TrodVars enc P nX sp s.vars (s.fn H (c_++gs)).vars pv)
  (nY:before=pa++pv)(aE:∀(j:Nat) (t:TypeId) (r:Value),f.resultTypes[j]?=some t->(v.resultList f.resultTypes.size)[j]?=some r->Value.okWide P nX .any 0 t r) :
  s.post enc P f false fresh handsOn again W args v nX:=by
 subst nY;have j8:∀p∈pa++pv,p.block<W.heap.size:=fun p ak=>dq.lt p ak;have bj:=fJ (fun b=>decide (b<W.heap.size)) (fun p ak=>by simpa using j8 p ak);have aH:=Ga (fun b=>decide (b<W.heap.size)) (fun p ak=>by simpa using j8 p ak);refine⟨c_,gs,pa++pv,[],pa,pv,dq,rP _ _ _,bj,aH,World.keptBut_mono (fun p ak=>⟨ak,.inr (gv.1 ak)⟩) (ae.frame (·∈pa++pv)),fun _=>?_⟩;obtain⟨_,_,_,_,_,aY,_⟩:=dq;refine⟨aE,_,_,([]++pa)++pv,⟨[]++pa,pv,trodAll_append (fJ _ (fun _ _=>rfl)) (rP _ _ _),Ga _ (fun _ _=>rfl),rfl,fun b off ak=>?_,fun h=>(by cases h)⟩,fun p ak _=>by simpa using ak⟩;have fH:MemPlace.cell b off∈pa++pv:=by simpa using ak
 rw[ae.frozen (j8 _ fH)];exact aY b off fH
end Go.Ab
namespace Go.Ab
open Go Go.RowKit
variable [bf]
def O4:af->Option Value
 |.bool b=>some (.bool b)
 |.int k n=>some (.int k n)
 |.str l=>some (.string ⟨l.toArray⟩)
 |.atom v=>some v
 |_=>none
def VE:az->Option Value
 |.one c=>O4 c
 |_=>none
def vR:List az->Option (List Value)
 |[]=>some []
 |x::r=>match VE x,vR r with
  |some v,some vs=>some (v::vs)
  |_,_=>none
def bn.O5{w:World}{S:Nat->Prop}{c:af}{v u:Value}(h:bn w S c v)(ao:O4 c=some u):v=u:=by cases h<;>simp[O4]at ao<;>exact ao
def cg.O5{w:World}{S:Nat->Prop}{x:az}{v u:Value}(h:cg w S x v)(ao:VE x=some u):v=u:=by
 cases x with
 |one c=>exact bn.O5 h ao
 |agg cs=>cases ao
def Gb{w:World}{S:Nat->Prop}:∀{args:List az} {us vs:List Value},us.length=args.length->(∀(j:Nat) (x:az),args[j]?=some x->∃u,us[j]?=some u/\cg w S x u)->vR args=some vs->us=vs
 |[],us,vs,al,_,h=>by simp[vR]at h;subst h;exact ld al
 |x::r,us,vs,al,an,h=>by
  simp only[vR]at h;split at h
  ·rename_i v Gc av aI;injection h with h
   subst h;cases us with
   |nil=>simp at al
   |cons u us=>obtain⟨mG,hu,bU⟩:=an 0 x rfl;simp at hu;subst hu;have ab:=Gb (us:=us) (by simpa using al) (fun j y aS=>by simpa using an (j+1) y (by simpa using aS)) aI;rw[bU.O5 av,ab]
  ·cases h
def O6{w:World}{S:Nat->Prop}{args:List az}{vs:Array Value}(h:nJ w S args vs):∀x∈args,x.ok:=by intro x aj;obtain⟨j,ac⟩:=lh aj;obtain⟨u,_,an⟩:=h.2 j x ac;exact an.ok
def zfp{r:bw}{v:Value}(an:∀w S,iy w S r v):r.ha v=none:=by
 cases r with
 |own e z xs=>
  cases h:v.ownBlock with
  |none=>exact h
  |some b=>obtain⟨us,_,_,_,_,bl⟩:=an default (fun _=>False);exact(bl b h).elim
 |_=>rfl
def aD.C1{P:Program}{f:FuncId}{args:List az}{r:bw}(vs:List Value)(v:Value)(ao:r6 P f)(bj:vR args=some vs)(an:∀w S,iy w S r v)
  (h:(∀x∈args,x.ok)->∀w,bf.holds w->Calls P f vs.toArray w fun e w'=>e=.returned v/\Below w.heap.size w w'):aD P f args r:=by
 refine⟨ao,fun w S us bW fJ=>?_⟩;have e:us=vs.toArray:=by have:=Gb (us:=us.toList) (by rw[iZ];exact fJ.1) (fun j x ac=>by simpa using fJ.2 j x ac) bj;rw[<-this]
 subst e;refine(h (O6 fJ) w bW.wR).mono ?_;rintro e w' ⟨rfl,ae⟩;exact⟨v,rfl,ae,an _ _,fun b et=>by rw[zfp an]at et;cases et⟩
def aD.C2{P:Program}{f:FuncId}{args:List az}{r:bw}(vs:List Value)(v:Value)(ao:r6 P f)(bj:vR args=some vs)(an:∀w S,iy w S r v)
  (h:(∀x∈args,x.ok)->∀w,Calls P f vs.toArray w fun e w'=>e=.returned v/\Below w.heap.size w w'):aD P f args r:=aD.C1 vs v ao bj an (fun aj w _=>h aj w)
def O7{w:World}{S:Nat->Prop}(k:IntKind)(n:Int):iy w S (.x (.one (.int k n))) (.int k n):=bn.int k n
def O8{w:World}{S:Nat->Prop}(l:List UInt8)(h:l.length<=maxLen):iy w S (.x (.one (.str l))) (.string ⟨l.toArray⟩):=bn.str l h
def nc{P:Program}{f:FuncId}(fn:Func)(h:P.funcs[f]?=some fn) (aT:(fn.name== "runtime.NumGoroutine")=false) (ae:fn.body.isNone=false):r6 P f:=⟨fn,h,aT,ae⟩
@[simp]def zIa(n:Nat)(h:n<=65536):(n<=maxLen)=True:=by
 have:(65536:Nat)<=maxLen:=by decide
 exact propext ⟨fun _=>trivial,fun _=>iJ h this⟩
def zfq{w:World}{S:Nat->Prop}{z:Nat}{v:Value}(h:bn w S (.list z []) v):bn w S .nil v\/bn w S (.empty z) v:=by
 cases h with
 |kH a cap _ h aT=>
  cases a with
  |none=>rw[aT rfl];exact .inl .nil
  |some a=>exact .inr (.empty a cap z h)
 |list bT cap _ _ U ap cU ao hm=>exact .inr (.empty bT cap z hm)
def aD.O9{P:Program}{f:FuncId}{pre post:List az}{z:Nat}{r:bw}(aa:aD P f (pre++.one .nil::post) r)(ab:aD P f (pre++.one (.empty z)::post) r):aD P f (pre++.one (.list z [])::post) r:=by
 refine⟨aa.1,fun w S vs bW bj=>?_⟩;obtain⟨u,hu,an⟩:=bj.2 pre.length (.one (.list z [])) (by simp);have key:∀c:af,bn w S c u->nJ w S (pre++.one c::post) vs:=by
  intro c ao;refine⟨by rw[bj.1];simp,fun j x ac=>?_⟩;by_cases vS:j=pre.length
  ·subst vS;simp at ac;subst ac;exact⟨u,hu,ao⟩
  ·refine bj.2 j x ?_;rw[xc]at ac⊢;split at ac
   ·rename_i aq;rw[aC aq];exact ac
   ·rename_i k';rw[au k'];obtain⟨m,hm⟩:∃m,j-pre.length=m+1:=⟨j-pre.length-1,by omega⟩
    rw[hm]at ac⊢;simpa using ac
 rcases zfq an with h|h
 ·exact aa.2 w S vs bW (key _ h)
 ·exact ab.2 w S vs bW (key _ h)
end Go.Ab
namespace Go.Ab
open Go Go.RowKit Go.ChangeShapes Go.WideShapes Go.ChangeAt
variable [bf]
def cR.Gd:cR->az->Prop
 |.st aU,.agg cs=>cR.fits (.st aU) cs
 |.st _,_=>False
 |k,.one c=>k.fits [c]
 |_,_=>False
def cR.O_(B:Nat):cR->az->Prop
 |.st aU,.agg cs=>cR.pV B (.st aU) cs
 |.st _,_=>False
 |k,.one c=>k.pV B [c]
 |_,_=>False
def J9(B:Nat):List cR->List az->Prop
 |[],[]=>True
 |k::aU,x::xs=>k.O_ B x/\J9 B aU xs
 |_,_=>False
def J_:List cR->List az->Prop
 |[],[]=>True
 |k::aU,x::xs=>k.Gd x/\J_ aU xs
 |_,_=>False
def J'(P:Program):List cR->List TypeId->Prop
 |[],[]=>True
 |k::aU,t::ts=>k.has P t/\J' P aU ts
 |_,_=>False
section
variable {H:Type}{enc:TypeId×Value->H}{P:Program}{W:World}
def zfr{v u:Value}(h:v.cells.toList=[u])(aT:∀cs,v≠.agg cs):v=u:=by cases v<;>first|(exact absurd rfl (aT _))|(simpa[Value.cells]using h)
def zfs(k:cR)(t:TypeId){v:Value}{d:DataW H}{p:List MemPlace}{base:Nat}{sp:Nat->Bool}{held:Bool}(am:k.has P t)(aE:∃b,Value.okWide P W .any b t v)(h:DataW.Trod enc P W base sp held t v d p) :
  ∃x:az,cg W (fun b=>b<W.heap.size) x v/\k.Gd x/\∀B,(d.weights P t).all (·<=B)=true->k.O_ B x:=by
 obtain⟨fuel,ay⟩:=h;obtain⟨qy,aE⟩:=aE;obtain⟨j1,bU,eF,hlen,bl⟩:=cR.read k t fuel _ _ am ay;unfold Value.okWide at aE;have one:∀c,j1=[c]->(∀cs,v≠.agg cs)->cg W (fun b=>b<W.heap.size) (.one c) v:=by intro c ao aT;subst ao;obtain⟨aa,ab⟩:=bU;obtain⟨u,hu⟩:∃u,v.cells.toList=[u]:=Ex.1 aa;obtain rfl:=zfr hu aT;obtain⟨mG,eZ,an⟩:=ab 0 c rfl;rw[hu]at eZ;simp at eZ;rw[<-eZ]at an;exact an
 cases k with
 |b=>have ba:P.underlying t=some .bool:=am;obtain⟨x,rfl⟩:=eF;refine⟨.one (.bool x),one _ rfl (fun cs e=>?_),⟨x,rfl⟩,fun B h=>bl B h⟩;subst e;rw[ba]at aE;simp[Cell.okWide,Cell.ok,ba]at aE
 |i q=>have ba:P.underlying t=some (.int q):=am;obtain⟨x,rfl,hw⟩:=eF;refine⟨.one (.int q x),one _ rfl (fun cs e=>?_),⟨x,rfl,hw⟩,fun B h=>bl B h⟩;subst e;rw[ba]at aE;simp[Cell.okWide,Cell.ok,ba]at aE
 |s=>have ba:P.underlying t=some .string:=am;obtain⟨x,rfl,hw⟩:=eF;refine⟨.one (.str x),one _ rfl (fun cs e=>?_),⟨x,rfl,hw⟩,fun B h=>bl B h⟩;subst e;rw[ba]at aE;simp[Cell.okWide,Cell.ok,ba]at aE
 |vQ size e=>obtain⟨pU,ba,_⟩:=am;obtain⟨x,rfl,hw⟩:=eF;refine⟨.one (.list size x),one _ rfl (fun cs e=>?_),⟨x,rfl,hw⟩,fun B h=>bl B h⟩;subst e;rw[ba]at aE;simp[Cell.okWide,Cell.ok,ba]at aE
 |st aU=>obtain⟨dN,ba,_⟩:=am;rw[ba]at aE;obtain⟨cs,rfl,_⟩:=aE;exact⟨.agg j1,⟨cs,rfl,bU⟩,eF,fun B h=>bl B h⟩
def VF:∀(aU:List cR) (ts:List TypeId) (vs:List Value) (c_:List (DataW H)) (p:List MemPlace) {base:Nat} {sp:Nat->Bool} {held:Bool},J' P aU ts ->
  (∀(j:Nat) t v,ts[j]?=some t->vs[j]?=some v->∃b,Value.okWide P W .any b t v)->DataW.TrodAll enc P W base sp held ts vs c_ p ->
  ∃xs:List az,nJ W (fun b=>b<W.heap.size) xs vs.toArray/\J_ aU xs/\∀B,(DataW.weightsEach P ts c_).all (·<=B)=true->J9 B aU xs
 |[],ts,vs,c_,p,_,_,_,am,_,h=>by
  cases ts with
  |nil=>obtain⟨rfl,_,_⟩:=trodAll_nil h;exact⟨[],⟨rfl,fun j x ac=>by simp at ac⟩,trivial,fun _ _=>trivial⟩
  |cons t ts=>exact am.elim
 |k::aU,ts,vs,c_,p,_,_,_,am,aE,h=>by
  cases ts with
  |nil=>exact am.elim
  |cons t ts=>
   obtain⟨v,Gc,d,Ka,i6,dQ,rfl,rfl,rfl,aW,an⟩:=trodAll_cons h;obtain⟨x,aa,ab,zft⟩:=zfs k t am.1 (aE 0 t v rfl rfl) aW;obtain⟨xs,ar,aN,zfu⟩:=VF aU ts Gc Ka dQ am.2 (fun j t v ba aH=>aE (j+1) t v (by simpa using ba) (by simpa using aH)) an;refine⟨x::xs,⟨by have:=ar.1;simp at this⊢;exact this,fun j y ac=>?_⟩,⟨ab,aN⟩,fun B bl=>?_⟩;rotate_left
   ·rw[DataW.weightsEach,tL,b4]at bl;exact⟨zft B bl.1,zfu B bl.2⟩
   cases j with
   |zero=>simp at ac;subst ac;exact⟨v,by simp,aa⟩
   |succ j=>simp at ac;obtain⟨u,hu,xe⟩:=ar.2 j y ac;exact⟨u,by simpa using hu,xe⟩
def VG{nX:World}(al:laidOutB P=true):∀(ts:List TypeId) (vs:List Value) (c_:List (DataW H)) (p:List MemPlace) {base:Nat} {VH:Nat->Bool},(∀t∈ts,P.readableRec t=true/\t<P.types.size) ->
  DataW.TrodAll enc P W base (fun _=>true) true ts vs c_ p->(∀x∈p,W.sameAt nX x)->(∀x∈p,VH x.block=true)->DataW.TrodAll enc P nX base VH true ts vs c_ p
 |[],vs,c_,p,_,_,_,h,_,_=>by obtain⟨rfl,rfl,rfl⟩:=trodAll_nil h;exact trodAll_mk0
 |t::ts,vs,c_,p,_,_,ba,h,ap,ak=>by
  obtain⟨v,Gc,d,Ka,i6,dQ,rfl,rfl,rfl,aW,an⟩:=trodAll_cons h;exact trodAll_cons_mk (WideElems.Trod_stays al (ba t (by simp)).1 (ba t (by simp)).2 aW (fun x aj=>ap x (by simp[aj])) (fun x aj=>ak x (by simp[aj])))
   (VG al ts Gc Ka dQ (fun t h=>ba t (by simp[h])) an (fun x aj=>ap x (by simp[aj])) (fun x aj=>ak x (by simp[aj])))
end
def zfv{H:Type}{enc:TypeId×Value->H}{P:Program}{f:FuncId}{fn:Func}{s:ChangeSpec}{W:World}{args:Array Value}{c_ gs:List (DataW H)}{before:List MemPlace}{tb:TypeId}{fresh handsOn again:Bool}
  (aU:List cR)(ga:J' P aU fn.params.toList)(law:∀xs,J_ aU xs->J9 reachBytes aU xs->aD P f xs (.x (.one (.bool true))))
  (al:laidOutB P=true)(Ge:∀t∈fn.params.toList,P.readableRec t=true/\t<P.types.size)(ae:P.underlying tb=some .bool)(rP:fn.resultTypes=#[tb])(Ga:s.vars=[])
  (cU:∀c_:List (DataW H),c_.length=aU.length->s.fn H c_={results:=[.lit (.bool true)],args:=c_})
  (fV:∃base,∀(j:Nat) t v,fn.params[j]?=some t->args[j]?=some v->Value.okWide P W .any base t v)
  (dq:DataW.Whole enc P fn.params.toList s.vars false W args.toList c_ gs before)(tH:bf.holds W)(b':∃(Kb VI:List (DataW H)) (VJ:List MemPlace),DataW.Whole enc P fn.params.toList s.vars false W args.toList Kb VI VJ/\(DataW.weightsEach P fn.params.toList Kb).all (·<=reachBytes)=true) :
  Calls P f args W fun e nX=>∃v,e=.returned v/\s.post enc P fn false fresh handsOn again W args v nX:=by
 have ia:=dq;obtain⟨p,q,VK,Gf,rfl,hI,fP⟩:=dq;have cY:DataW.TrodAll enc P W 0 (fun _=>true) true fn.params.toList args.toList c_ p:=VK;rw[Ga]at Gf;obtain⟨rfl,rfl⟩:=trodVars_none Gf;obtain⟨base,fV⟩:=fV;obtain⟨Kb,VI,VJ,zr,tY⟩:=b';obtain⟨dF,hO,za,_⟩:=zr;have zfw:DataW.TrodAll enc P W 0 (fun _=>true) true fn.params.toList args.toList Kb dF:=za;obtain⟨xs,bU,eF,zfx⟩:=VF aU _ _ _ _ ga (fun j t v ba aH=>⟨base,fV j t v (by simpa using ba) (by simpa using aH)⟩) zfw;have hlen:c_.length=aU.length:=by
  have ec:∀(ts:List TypeId) (vs:List Value) (c_:List (DataW H)) (p:List MemPlace),DataW.TrodAll enc P W 0 (fun _=>true) true ts vs c_ p->c_.length=ts.length:=by
   intro ts;induction ts with
   |nil=>intro vs c_ p h;obtain⟨_,rfl,_⟩:=trodAll_nil h;rfl
   |cons t ts aX=>intro vs c_ p h;obtain⟨v,Gc,d,Ka,i6,dQ,_,rfl,_,_,an⟩:=trodAll_cons h;simp[aX _ _ _ an]
  have l2:∀(aU:List cR) (ts:List TypeId),J' P aU ts->aU.length=ts.length:=by
   intro aU;induction aU with
   |nil=>intro ts h;cases ts with|nil=>rfl|cons t ts=>exact h.elim
   |cons k aU aX=>intro ts h;cases ts with|nil=>exact h.elim|cons t ts=>simp[aX ts h.2]
  rw[ec _ _ _ _ cY,l2 _ _ ga]
 have ao:=(law xs eF (zfx _ tY)).2 W (fun b=>b<W.heap.size) args ⟨fun b ae=>ae,fun _ h=>h.elim,fun _ _ h=>h.elim,tH,fun _ _ h=>h.elim⟩ (by simpa using bU);clear VK;refine ao.mono fun e nX ⟨u,he,aB,an,_⟩=>?_;subst he;obtain rfl:u=.bool true:=by cases an;rfl
 have aq:∀x∈p,x.block<W.heap.size:=fun x aj=>by simpa using ia.lt x (by simpa using aj)
 have hL:s.fn H (c_++[])={results:=[.lit (.bool true)],args:=c_}:=by rw[wO];exact cU c_ hlen
 refine⟨_,rfl,zfo (pa:=p) (pv:=[]) ia aB ?_ ?_ ?_ (by simp) ?_⟩
 ·intro _ _ _;rw[rP,hL];exact trodAll_cons_mk (shut_bool ae _) trodAll_mk0
 ·intro sp cU;rw[hL];exact VG al _ _ _ _ Ge cY (fun x aj=>aB.same (aq x aj)) (fun x aj=>cU x (by simpa using aj))
 ·intro _ _;rw[hL,Ga];rfl
 ·exact ok_one rP rfl (okWide_bool_mk ae _)
end Go.Ab
namespace Go.Ab
open Go Go.RowKit
def zfy(P:Program)(l:List (String×(Array Value->Prop)))(w:World):Prop:=∀x∈l,∃cs,w.var? P x.1=some cs/\x.2 cs
def zfz{P:Program}{w:World}{n:String}{cs:Array Value}{b:Nat}(h:w.var? P n=some cs)(aB:P.globalNamed n=some b):b<w.heap.size:=by
 unfold World.var? at h;rw[aB]at h;simp only[Option.bind_some]at h;rcases kJ b w.heap.size with bE|bE
 ·exact bE
 ·rw[Cv bE]at h;simp at h
def zfA{P:Program}{w w':World}{n:String}{cs:Array Value}(h:w.var? P n=some cs)(am:∀b,P.globalNamed n=some b->w'.heap[b]?=w.heap[b]?):w'.var? P n=some cs:=by
 unfold World.var? at h⊢;cases aB:P.globalNamed n with
 |none=>rw[aB]at h;cases h
 |some b=>rw[aB]at h;simp only[Option.bind_some]at h⊢;rw[am b aB];exact h
@[reducible]def bf.Kc(P:Program)(l:List (String×(Array Value->Prop))):bf where
 holds:=zfy P l
 at_:=fun b=>∃x∈l,P.globalNamed x.1=some b
 lt:=fun h ⟨x,aj,aB⟩=>let ⟨_,ao,_⟩:=h x aj;zfz ao aB
 RG:=fun h _ am x aj=>let ⟨cs,ao,ak⟩:=h x aj;⟨cs,zfA ao (fun b ae=>am b ⟨x,aj,ae⟩),ak⟩
def VL{P:Program}{W:World}{x:String×DataW Unit}{rest:List (String×DataW Unit)}(h:laidMet P (x::rest) W):laidMet P rest W:=by obtain⟨pF,⟨g,t,cs,fuel,p,q,aa,ab,ar,aN,bD,rfl⟩,aT,ae⟩:=h;refine⟨q,bD,(Gg.1 aT).2.1,fun b off hm=>ae b off (List.mem_append_right _ hm)⟩
def VM{P:Program}{W:World}{name:String}{k:IntKind}{cC:List Int}{g:Nat}{t e:TypeId}{n:Nat}
  (aB:P.globalNamed name=some g)(oy:(P.globals[g]?).map (·.type)=some t)(ba:P.underlying t=some (.array n e))(he:P.underlying e=some (.int k))(Gh:P.cellsOf e=1)(Kd:P.cellsOf t=n) :
  ∀(j:Nat) {l:List (String×DataW Unit)},laidMet P l W->l[j]?=some (name,Lib.tabData k cC)->Lib.TabIs P W name k cC
 |0,[],_,ac=>by simp at ac
 |0,x::r,h,ac=>by simp at ac;subst ac;exact Lib.tabIs_of_head aB oy ba he Gh Kd h
 |j+1,[],_,ac=>by simp at ac
 |j+1,x::r,h,ac=>VM aB oy ba he Gh Kd j (VL h) (by simpa using ac)
def Ke:Array Value:=(Lib.pow10Tab.map fun z=>Value.int .u64 z).toArray
@[reducible]def zIb(P:Program):bf:=bf.Kc P [("internal/strconv.uint64pow10",(·=Ke))]
class cK[bf](P:Program):Prop where
 zfB:∀w,bf.holds w->Lib.TabIs P w "internal/strconv.uint64pow10" .u64 Lib.pow10Tab
def Gi(cs:Array Value):Prop:=∃pU Gj,cs[0]?=some (.iface pU Gj)
@[reducible]def zIc(P:Program):bf:=bf.Kc P [("internal/strconv.uint64pow10",(·=Ke)),("strconv.ErrSyntax",Gi)]
class jC[bf](P:Program):Prop where
 err:∀w,bf.holds w->∃cs,w.var? P "strconv.ErrSyntax" =some cs/\Gi cs
def zfC{P:Program}{w:World}{base:Nat}{sp:Nat->Bool}{held:Bool}{fuel:Nat}{t:TypeId}{ms:_}{cs:List Value}{n:String}{d:DataW Unit}{enc:TypeId×Value->Unit}{p:List MemPlace}(ba:P.underlying t=some (.interface ms))
  (h:DataW.trod enc P w base sp held fuel t cs=some (.iface n d,p)):∃pU Gj,cs=[.iface pU Gj]:=by
 cases fuel with
 |zero=>simp[DataW.trod]at h
 |succ fuel=>
  unfold DataW.trod at h;rw[ba]at h
  match cs,h with
  |[.iface u v],_=>exact⟨u,v,rfl⟩
  |[],h=>simp at h
  |a::b::r,h=>simp at h
  |[a],h=>cases a<;>first|exact⟨_,_,rfl⟩|(simp at h)
def VN{P:Program}{W:World}{name:String}{g:Nat}{t:TypeId}{ms:_}{n:String}{d:DataW Unit}(aB:P.globalNamed name=some g)(oy:(P.globals[g]?).map (·.type)=some t)(ba:P.underlying t=some (.interface ms)) :
  ∀(j:Nat) {l:List (String×DataW Unit)},laidMet P l W->l[j]?=some (name,.iface n d)->∃cs,W.var? P name=some cs/\Gi cs
 |0,[],_,ac=>by simp at ac
 |0,x::r,h,ac=>by simp at ac;subst ac;obtain⟨pF,⟨bQ,t',cs,fuel,p,q,eJ,Ec,zfD,ax,_,_⟩,_⟩:=h;obtain rfl:=qX (aB.symm.trans eJ);obtain rfl:=qX (oy.symm.trans Ec);obtain⟨pU,Gj,e⟩:=zfC ba ax;exact⟨_,zfD,pU,Gj,by rw[<-Ez,e];rfl⟩
 |j+1,[],_,ac=>by simp at ac
 |j+1,x::r,h,ac=>VN aB oy ba j (VL h) (by simpa using ac)
end Go.Ab
namespace Go.Ab
open Go Go.RowKit
variable [bf]
def pW{α:Type}(X:(α->Prop)->Prop):Prop:=∀K:α->Prop,X K->∃x,(∀bP:α->Prop,bP x->X bP)/\K x
section
variable {P:Program}{n:Nat}{s:ag}
def Pa{c:Prop×Option (FuncId×List (ad×Option Nat))}{K:List (ad×Option Nat)->bw->List ad->Prop}(h:iA P s c K) :
  ∃xs r outs,(∀bP,bP xs r outs->iA P s c bP)/\K xs r outs:=by
 obtain⟨cC,r,outs,aa,ab⟩:=tJ.1 h;exact⟨cC,r,outs,fun _ k=>tJ.2 ⟨cC,r,outs,aa,k⟩,ab⟩
def zfE{c:Prop×Option (FuncId×List az)}{m:(ag->Prop)->Prop}{st:bw->ag}{d:bw->Prop}{K:ag->Prop}(hm:pW m)(h:ly P c (fun r=>d r/\K (st r)) (m K)) :
  ∃s',(∀bP:ag->Prop,bP s'->ly P c (fun r=>d r/\bP (st r)) (m bP))/\K s':=by
 unfold ly at h⊢;split at h
 ·obtain⟨ak,⟨r,ao,ax,am⟩|⟨_,_,_,ay⟩|h⟩:=h
  ·exact⟨_,fun bP k=>⟨ak,.inl ⟨r,ao,ax,k⟩⟩,am⟩
  ·exact ay.elim
  ·obtain⟨s',aa,ab⟩:=hm K h;exact⟨s',fun bP k=>⟨ak,.inr (.inr (aa bP k))⟩,ab⟩
 ·exact hm K h
def zfF{c:Prop×Option (FuncId×List az)}{m:(ag->Prop)->Prop}{st st2:bw->ag}{d:bw->Prop}{N:List az->List az->bw->Prop}{K:ag->Prop}(hm:pW m)(h:ly P c (fun r=>d r/\K (st r)) (m K) (fun xs dS r=>N xs dS r/\r.flat=true/\d r/\K (st2 r))) :
  ∃s',(∀bP:ag->Prop,bP s'->ly P c (fun r=>d r/\bP (st r)) (m bP) (fun xs dS r=>N xs dS r/\r.flat=true/\d r/\bP (st2 r)))/\K s':=by
 unfold ly at h⊢;split at h
 ·obtain⟨ak,⟨r,ao,ax,am⟩|⟨dS,r,ao,aa,ab,ar,am⟩|h⟩:=h
  ·exact⟨_,fun bP k=>⟨ak,.inl ⟨r,ao,ax,k⟩⟩,am⟩
  ·exact⟨_,fun bP k=>⟨ak,.inr (.inl ⟨dS,r,ao,aa,ab,ar,k⟩)⟩,am⟩
  ·obtain⟨s',aa,ab⟩:=hm K h;exact⟨s',fun bP k=>⟨ak,.inr (.inr (aa bP k))⟩,ab⟩
 ·exact hm K h
def zfG(op:Op)(dst:Option Tmp):pW (fs P n s op dst):=by
 intro K h;have plain:∀d,(bb P s op).1/\d<n/\K (put s d (bb P s op).2)->∃s',(∀bP:ag->Prop,bP s'->((bb P s op).1/\d<n/\bP (put s d (bb P s op).2)))/\K s':=
  fun d h=>⟨_,fun _ k=>⟨h.1,h.2.1,k⟩,h.2.2⟩
 cases dst with
 |none=>
  cases op<;>try (exact h.elim)
  case store t addr x=>
   simp only[fs]at h⊢;split at h
   ·exact⟨_,fun _ k=>⟨h.1,h.2.1,h.2.2.1,k⟩,h.2.2.2⟩
   ·exact⟨_,fun _ k=>⟨h.1,h.2.1,k⟩,h.2.2⟩
  case mapUpdate t m k x=>simp only[fs]at h⊢;obtain⟨bH,_,bE,has⟩:=Ng h;exact⟨_,fun _ k=>has _ ⟨bE.1,k⟩,bE.2⟩
  case call c=>
   simp only[fs]at h⊢;split at h
   ·split at h
    ·exact⟨_,fun _ k=>⟨h.1,k⟩,h.2⟩
    ·exact h.elim
   ·exact h.elim
  case makeMap t r=>cases r<;>exact h.elim
  case assign x=>cases x<;>exact h.elim
  all_goals exact h.elim
 |some d=>
  cases op<;>try (exact plain d h)
  case alloc t=>
   simp only[fs]at h⊢;cases aY:zeroOf P t with
   |none=>rw[aY]at h;exact h.elim
   |some cs=>rw[aY]at h;exact⟨_,fun _ k=>⟨h.1,k⟩,h.2⟩
  case makeMap t r=>
   cases r with
   |none=>exact⟨_,fun _ k=>⟨h.1,k⟩,h.2⟩
   |some r=>exact plain d h
  case makeSlice t l c=>exact⟨_,fun _ k=>⟨h.1,h.2.1,k⟩,h.2.2⟩
  case convert src dst x=>
   simp only[fs]at h⊢;cases fg:h4 P dst with
   |true=>rw[fg]at h;exact⟨_,fun _ k=>⟨h.1,h.2.1,k⟩,h.2.2⟩
   |false=>rw[fg]at h;exact⟨_,fun _ k=>⟨h.1,h.2.1,k⟩,h.2.2⟩
  case box t x=>
   simp only[fs]at h⊢;split at h
   ·exact⟨_,fun _ k=>⟨h.1,h.2.1,k⟩,h.2.2⟩
   split at h
   ·exact⟨_,fun _ k=>⟨h.1,h.2.1,h.2.2.1,h.2.2.2.1,k⟩,h.2.2.2.2⟩
   split at h
   ·exact⟨_,fun _ k=>⟨h.1,h.2.1,k⟩,h.2.2⟩
   ·exact h.elim
  case build t parts=>exact⟨_,fun _ k=>⟨h.1,h.2.1,k⟩,h.2.2⟩
  case buildSlice t len parts=>exact⟨_,fun _ k=>⟨h.1,h.2.1,k⟩,h.2.2⟩
  case assign x=>
   cases x with
   |tmp t=>
    simp only[fs]at h⊢;cases ap:s t with
    |own e size xs=>rw[ap]at h;exact⟨_,fun _ k=>⟨h.1,k⟩,h.2⟩
    |mp c bs es=>rw[ap]at h;exact⟨_,fun _ k=>⟨h.1,k⟩,h.2⟩
    |view i aK len wh=>
     rw[ap]at h;dsimp only at h⊢;cases hid:decide (i=d)with
     |false=>rw[hid]at h;exact⟨_,fun _ k=>⟨h.1,k⟩,h.2⟩
     |true=>
      rw[hid]at h;obtain⟨ax,h⟩:=h;dsimp only;unfold zh at h⊢;split at h
      ·split at h
       ·exact⟨_,fun _ k=>⟨ax,k⟩,h⟩
       ·exact⟨_,fun _ k=>⟨ax,k⟩,h⟩
      ·exact h.elim
    |_=>rw[ap]at h;exact⟨_,fun _ k=>⟨h.1,k⟩,h.2⟩
   |_=>exact plain d h
  case call c=>
   simp only[fs]at h⊢;split at h
   ·rename_i f zdt;refine zfF (N:=fun xs dS _=>vy n s xs dS) (d:=fun _=>d<n) (st2:=fun r=>put s d r.cP) (m:=fun K=>oI P (vb s f c.args.toList) (fun r=>d<n/\K (put s d r.cP)) (oG s (qD s c.args.toList) fun s=>iA P s (fW s f c.args.toList) (fun xs r outs=>d<n/\K (put (e6 s xs outs) d r.cP)))) (fun K h=>?_) h;have key:(oG s (qD s c.args.toList) fun s=>iA P s (fW s f c.args.toList) (fun xs r outs=>d<n/\K (put (e6 s xs outs) d r.cP)))->∃s',(∀bP:ag->Prop,bP s'->(oG s (qD s c.args.toList) fun s=>iA P s (fW s f c.args.toList) (fun xs r outs=>d<n/\bP (put (e6 s xs outs) d r.cP))))/\K s':=by
     intro h;unfold oG at h⊢;obtain⟨xs,r,outs,aa,ab⟩:=Pa h;exact⟨_,fun bP k=>aa _ ⟨ab.1,k⟩,ab.2⟩
    unfold oI at h⊢;split at h
    ·obtain⟨ak,⟨r,aa,eh,ab,ar⟩|h⟩:=h
     ·exact⟨_,fun _ k=>⟨ak,.inl ⟨r,aa,eh,ab,k⟩⟩,ar⟩
     ·obtain⟨s',aa,ab⟩:=key h;exact⟨s',fun bP k=>⟨ak,.inr (aa bP k)⟩,ab⟩
    ·exact key h
   ·split at h
    ·obtain⟨bH,_,bE,has⟩:=IW h;exact⟨_,fun _ k=>has _ ⟨bE.1,bE.2.1,k⟩,bE.2.2⟩
    ·exact h.elim
   ·exact plain d h
def zfH(e:Bool)(op:Op)(dst:Option Tmp):pW (tS P n s e op dst):=by
 intro K h;cases dst with
 |none=>exact h.elim
 |some d=>
  cases op
  case buildSlice t len parts=>
   cases e with
   |true=>obtain⟨aa,ab,ar⟩:=h;exact⟨_,fun _ k=>⟨aa,ab,k⟩,ar⟩
   |false=>obtain⟨aa,ab⟩:=h;exact⟨_,fun _ k=>⟨aa,k⟩,ab⟩
  case call c=>
   simp only[tS]at h⊢;split at h
   ·obtain⟨r,aa,ar,aN⟩:=EU h;exact⟨_,fun _ k=>aa _ ⟨ar,k⟩,aN⟩
   ·exact⟨_,fun _ k=>⟨h.1,h.2.1,h.2.2.1,k⟩,h.2.2.2⟩
  all_goals exact⟨_,fun _ k=>⟨h.1,h.2.1,h.2.2.1,k⟩,h.2.2.2⟩
def zfI(e:Bool)(op:Op)(dst:Option Tmp):pW (tT P n s e op dst):=by
 intro K h;unfold tT at h⊢;split at h
 ·split at h
  ·cases e with
   |true=>obtain⟨xs,r,outs,aa,ab⟩:=Pa h;exact⟨_,fun bP k=>aa _ ⟨ab.1,ab.2.1,k⟩,ab.2.2⟩
   |false=>exact⟨_,fun _ k=>⟨h.1,k⟩,h.2⟩
  ·exact h.elim
 ·exact h.elim
def xX(ops:Array Oper)(o:Oper):pW (ft P n ops o s):=by
 intro K h;unfold ft at h⊢;cases aB:o.guard with
 |none=>rw[aB]at h;exact zfG _ _ K h
 |some g=>
  rw[aB]at h;simp only at h⊢;cases he:c1 ops s g with
  |none=>rw[he]at h;exact h.elim
  |some e=>
   rw[he]at h;simp only at h⊢;split at h
   ·rename_i al;exact zfI _ _ _ K h
   ·rename_i al;exact zfH _ _ _ K h
def VO(ops:Array Oper):∀(l:List Oper) (s:ag),pW (bN P n ops l s)
 |[],s=>fun K h=>⟨s,fun _ k=>k,h⟩
 |o::l,s=>fun K h=>by obtain⟨s1,aa,ab⟩:=xX ops o _ h;obtain⟨s2,ar,aN⟩:=VO ops l s1 K ab;exact⟨s2,fun bP k=>aa _ (ar bP k),aN⟩
def Gk(ops:Array Oper)(o:Oper):pW (dn P n ops o s):=by
 intro K h;unfold dn at h⊢;cases ax:o.dst with
 |none=>rw[ax]at h;exact h.elim
 |some d=>
  rw[ax]at h;obtain⟨aT,aw,h⟩:=h;dsimp only;have go:∀{X:(ag->Prop)->Prop},(∃s',(∀bP:ag->Prop,bP s'->X bP)/\K s')->∃s',(∀bP:ag->Prop,bP s'->d<n/\(s d).aM=false/\X bP)/\K s':=fun ⟨s',aa,ab⟩=>⟨s',fun bP k=>⟨aT,aw,aa bP k⟩,ab⟩
  refine go ?_;cases aB:o.guard with
  |none=>
   rw[aB]at h;dsimp only at h⊢;cases aw:o.op with
   |alloc t=>
    rw[aw]at h;dsimp only at h⊢;cases aY:zeroOf P t with
    |none=>rw[aY]at h;exact h.elim
    |some cs=>rw[aY]at h;exact⟨_,fun _ k=>k,h⟩
   |convert src dst x=>
    rw[aw]at h;dsimp only at h⊢;cases fg:h4 P dst with
    |true=>rw[fg]at h;exact⟨_,fun _ k=>⟨h.1,k⟩,h.2⟩
    |false=>rw[fg]at h;exact⟨_,fun _ k=>⟨h.1,k⟩,h.2⟩
   |box t x=>
    rw[aw]at h;dsimp only at h⊢;split at h
    ·exact⟨_,fun _ k=>⟨h.1,k⟩,h.2⟩
    ·exact h.elim
   |buildSlice t len parts=>rw[aw]at h;exact⟨_,fun _ k=>⟨h.1,k⟩,h.2⟩
   |call c=>
    rw[aw]at h;dsimp only at h⊢;split at h
    ·obtain⟨dE,aa,ab,ar⟩:=h;exact⟨_,fun _ k=>⟨dE,aa,ab,k⟩,ar⟩
    ·exact⟨_,fun _ k=>⟨h.1,k⟩,h.2⟩
   |_=>rw[aw]at h;exact⟨_,fun _ k=>⟨h.1,k⟩,h.2⟩
  |some g=>
   rw[aB]at h;dsimp only at h⊢;cases he:c1 ops s g with
   |none=>rw[he]at h;exact h.elim
   |some e=>
    rw[he]at h;dsimp only at h⊢;cases aw:o.op with
    |call c=>
     rw[aw]at h;dsimp only at h⊢;split at h
     ·obtain⟨r,aa,aN⟩:=EU h;exact⟨_,fun _ k=>aa _ k,aN⟩
     ·exact⟨_,fun _ k=>⟨h.1,h.2.1,k⟩,h.2.2⟩
    |buildSlice t len parts=>
     rw[aw]at h;cases e with
     |true=>exact⟨_,fun _ k=>⟨h.1,k⟩,h.2⟩
     |false=>exact⟨_,fun _ k=>k,h⟩
    |_=>rw[aw]at h;exact⟨_,fun _ k=>⟨h.1,h.2.1,k⟩,h.2.2⟩
def zfJ(o:Oper):pW (xA P n o s):=by
 intro K h;unfold xA at h⊢;cases ax:o.dst with
 |none=>rw[ax]at h;exact h.elim
 |some d=>
  rw[ax]at h;cases aw:o.op with
  |call c=>
   rw[aw]at h;dsimp only at h⊢;split at h
   ·obtain⟨aT,cp,h⟩:=h;obtain⟨s',aa,ab⟩:=zfE (K:=K) (m:=fun K=>iA P s (fW s _ c.args.toList) (fun aQ dE outs=>m_ aQ outs=true/\dE.cP.aM=false/\K (put (e6 s aQ outs) d dE.cP))) (fun K h=>by
     obtain⟨xs,r,outs,aa,ab⟩:=Pa h;exact⟨_,fun bP k=>aa _ ⟨ab.1,ab.2.1,k⟩,ab.2.2⟩) h
    exact⟨s',fun bP k=>⟨aT,cp,aa bP k⟩,ab⟩
   ·exact h.elim
  |_=>rw[aw]at h;exact h.elim
def xY(m:Bool)(ops:Array Oper):∀(l:List Oper) (s:ag),pW (gU P n m ops l s)
 |[],s=>fun K h=>⟨s,fun _ k=>k,h⟩
 |o::l,s=>fun K h=>by
  simp only[gU]at h⊢;split at h
  ·split at h
   ·obtain⟨s1,aa,ab⟩:=zfJ o _ h;obtain⟨s2,ar,aN⟩:=xY m ops l s1 K ab;exact⟨s2,fun bP k=>aa _ (ar bP k),aN⟩
   ·obtain⟨s1,aa,ab⟩:=Gk ops o _ h.2;obtain⟨s2,ar,aN⟩:=xY m ops l s1 K ab;exact⟨s2,fun bP k=>⟨h.1,aa _ (ar bP k)⟩,aN⟩
  ·split at h
   ·obtain⟨s1,aa,ab⟩:=xX ops o _ h.2;obtain⟨s2,ar,aN⟩:=xY m ops l s1 K ab;exact⟨s2,fun bP k=>⟨h.1,aa _ (ar bP k)⟩,aN⟩
   ·obtain⟨s1,aa,ab⟩:=xX ops o _ h;obtain⟨s2,ar,aN⟩:=xY m ops l s1 K ab;exact⟨s2,fun bP k=>aa _ (ar bP k),aN⟩
def Pb(fl:List Bool)(ops:Array Oper):∀(l:List Oper) (bo:List Bool) (s:ag),pW (na P n fl ops bo l s)
 |[],bo,s=>fun K h=>⟨s,fun _ k=>by simpa only[na]using k,by simpa only[na]using h⟩
 |o::l,bo,s=>fun K h=>by
  simp only[na]at h⊢;split at h
  ·obtain⟨s1,aa,ab⟩:=xX ops o _ h.2;obtain⟨s2,ar,aN⟩:=Pb fl ops l bo.tail s1 K ab;exact⟨s2,fun bP k=>⟨h.1,aa _ (ar bP k)⟩,aN⟩
  ·obtain⟨s1,aa,ab⟩:=xY false ops [o] s _ h.2;obtain⟨s2,ar,aN⟩:=Pb fl ops l bo.tail s1 K ab;exact⟨s2,fun bP k=>⟨h.1,aa _ (ar bP k)⟩,aN⟩
def zfK(ops:Array Oper)(o:Oper):pW (vM P n ops o s):=by
 intro K h;unfold vM at h⊢;cases ax:o.dst with
 |none=>rw[ax]at h;exact h.elim
 |some d=>
  rw[ax]at h;obtain⟨aT,aw,h⟩:=h;cases aB:o.guard with
  |none=>rw[aB]at h;obtain⟨r,aa,ab⟩:=h;exact⟨_,fun _ k=>⟨aT,aw,r,aa,k⟩,ab⟩
  |some g=>
   rw[aB]at h;simp only at h⊢;split at h
   ·rename_i e;obtain⟨r,aa,ab⟩:=h;exact⟨_,fun _ k=>⟨aT,aw,by first|exact⟨r,aa,k⟩|(rw[e];exact⟨r,aa,k⟩)⟩,ab⟩
   ·rename_i e;exact⟨_,fun _ k=>⟨aT,aw,by first|exact k|(rw[e];exact k)⟩,h⟩
   ·exact h.elim
def um(fl:List Nat)(ops:Array Oper):∀(l:List Oper) (bo:List Nat) (s:ag),pW (ew P n fl ops bo l s)
 |[],bo,s=>fun K h=>⟨s,fun _ k=>by simpa only[ew]using k,by simpa only[ew]using h⟩
 |o::l,bo,s=>fun K h=>by
  simp only[ew]at h⊢;split at h
  ·obtain⟨s1,aa,ab⟩:=xX ops o _ h;obtain⟨s2,ar,aN⟩:=um fl ops l bo.tail s1 K ab;exact⟨s2,fun bP k=>aa _ (ar bP k),aN⟩
  ·obtain⟨s1,aa,ab⟩:=Gk ops o _ h;obtain⟨s2,ar,aN⟩:=um fl ops l bo.tail s1 K ab;exact⟨s2,fun bP k=>aa _ (ar bP k),aN⟩
  ·obtain⟨s1,aa,ab⟩:=xX ops o _ h.2.2;obtain⟨s2,ar,aN⟩:=um fl ops l bo.tail s1 K ab;exact⟨s2,fun bP k=>⟨h.1,h.2.1,aa _ (ar bP k)⟩,aN⟩
  ·obtain⟨s1,aa,ab⟩:=xX ops o _ h.2;obtain⟨s2,ar,aN⟩:=um fl ops l bo.tail s1 K ab;exact⟨s2,fun bP k=>⟨h.1,aa _ (ar bP k)⟩,aN⟩
  ·obtain⟨s1,aa,ab⟩:=Gk ops o _ h.2.2;obtain⟨s2,ar,aN⟩:=um fl ops l bo.tail s1 K ab;exact⟨s2,fun bP k=>⟨h.1,h.2.1,aa _ (ar bP k)⟩,aN⟩
  ·obtain⟨s1,aa,ab⟩:=Gk ops o _ h.2;obtain⟨s2,ar,aN⟩:=um fl ops l bo.tail s1 K ab;exact⟨s2,fun bP k=>⟨h.1,aa _ (ar bP k)⟩,aN⟩
  ·obtain⟨s1,aa,ab⟩:=Gk ops o _ h.2;obtain⟨s2,ar,aN⟩:=um fl ops l bo.tail s1 K ab;exact⟨s2,fun bP k=>⟨h.1,aa _ (ar bP k)⟩,aN⟩
  ·obtain⟨s1,aa,ab⟩:=xX ops o _ h.2.2;obtain⟨s2,ar,aN⟩:=um fl ops l bo.tail s1 K ab;exact⟨s2,fun bP k=>⟨h.1,h.2.1,aa _ (ar bP k)⟩,aN⟩
  ·obtain⟨s1,aa,ab⟩:=zfK ops o _ h;obtain⟨s2,ar,aN⟩:=um fl ops l bo.tail s1 K ab;exact⟨s2,fun bP k=>aa _ (ar bP k),aN⟩
def Gl(X:(Exit->ag->Prop)->Prop):Prop:=∀Q:Exit->ag->Prop,X Q->∃e s',(∀c7:Exit->ag->Prop,c7 e s'->X c7)/\Q e s'
def Gl.mono{X:(Exit->ag->Prop)->Prop}(h:Gl X){Q c7:Exit->ag->Prop}(aj:X Q)(br:∀e s,Q e s->c7 e s):X c7:=by obtain⟨e,s',aa,ab⟩:=h Q aj;exact aa c7 (br e s' ab)
def zfL{body:(Exit->ag->Prop)->ag->Prop}(ae:∀s,Gl (fun Q=>body Q s))(s:ag):Gl (fun Q=>N3 body Q s):=by
 rintro Q ⟨ι,I,ok,μ,⟨ck,kr,vO⟩,Oe⟩;have key:∀(m:Nat) (x:ι),μ x=m->ok x->∃e s',Q e s'/\∃sG:ι->Prop,sG x/\∀c7:Exit->ag->Prop,c7 e s'->∀y,sG y->body (qQ (fun t=>∃z,sG z/\μ z<μ y/\xL t (I z)) c7) (I y):=by
  intro m;induction m using Nat.strongRecOn with
  |ind m aX=>
   rintro x rfl aj;obtain⟨av,s1,aa,ab⟩:=ae (I x) _ (Oe x aj);have stop:Q av s1->av≠.normal->∃e s',Q e s'/\∃sG:ι->Prop,sG x/\∀c7:Exit->ag->Prop,c7 e s'->∀y,sG y->body (qQ (fun t=>∃z,sG z/\μ z<μ y/\xL t (I z)) c7) (I y):=by
    intro br bC;refine⟨av,s1,br,fun y=>y=x,rfl,fun c7 Ae y aS=>?_⟩;subst aS;refine aa _ ?_;cases av with
    |normal=>exact absurd rfl bC
    |_=>exact Ae
   cases av with
   |normal=>
    obtain⟨y,aS,aq,FQ⟩:=ab;obtain⟨e,s',br,sG,jd,fM⟩:=aX (μ y) aq y rfl aS;refine⟨e,s',br,fun z=>z=x\/sG z,.inl rfl,fun c7 Ae z aY=>?_⟩;rcases aY with rfl|aY
    ·exact aa _ ⟨y,.inr jd,aq,FQ⟩
    ·refine(ae (I z)).mono (fM c7 Ae z aY) (fun aI s2 h=>?_);cases aI with
     |normal=>obtain⟨v,aH,al,zfM⟩:=h;exact⟨v,.inr aH,al,zfM⟩
     |_=>exact h
   |exit i=>exact stop ab (by simp)
   |_=>exact stop ab (by simp)
 obtain⟨e,s',br,sG,jd,fM⟩:=key _ ck rfl kr;exact⟨e,s',fun c7 Ae=>⟨ι,I,sG,μ,⟨ck,jd,vO⟩,fM c7 Ae⟩,br⟩
def zfN[Hint](lT:∀id,(Hint.grow id ||Hint.conv id)=false):∀(c:Code) (s:ag),Gl (fun Q=>e2 P n c Q s):=by
 intro c;induction c with
 |skip=>intro s Q h;exact⟨_,_,fun _ k=>k,h⟩
 |label l=>intro s Q h;exact⟨_,_,fun _ k=>k,h⟩
 |exit id=>intro s Q h;exact⟨_,_,fun _ k=>k,h⟩
 |ret=>intro s Q h;exact⟨_,_,fun _ k=>k,h⟩
 |region id ops draw=>
  intro s Q h;have ko:(Hint.grow id:Bool)=false:=(Kf.1 (lT id)).1;have oT:(Hint.conv id:Bool)=false:=(Kf.1 (lT id)).2;simp only[e2,ue,ko,oT]at h⊢;cases draw with
  |false=>obtain⟨s',aa,ab⟩:=VO ops ops.toList s _ h;exact⟨.normal,s',fun c7 k=>aa _ k,ab⟩
  |true=>
   cases hw:(Hint.lB id:List Nat)with
   |cons k fl=>simp only[hw]at h⊢;obtain⟨s',aa,ab⟩:=um _ ops ops.toList _ s _ h;exact⟨.normal,s',fun c7 k=>aa _ k,ab⟩
   |nil=>
   cases a1:(Hint.hint id:List Bool)with
   |cons b fl=>simp only[hw,a1]at h⊢;obtain⟨s',aa,ab⟩:=Pb _ ops ops.toList _ s _ h;exact⟨.normal,s',fun c7 k=>aa _ k,ab⟩
   |nil=>
    simp only[hw,a1]at h⊢;split at h
    ·rcases h with⟨aW,h⟩|⟨l,aW,h⟩
     ·obtain⟨s',aa,ab⟩:=xY _ ops ops.toList s _ h;exact⟨.normal,s',fun c7 k=>.inl ⟨aW,aa _ k⟩,ab⟩
     ·obtain⟨s',aa,ab⟩:=xY _ ops ops.toList _ _ h;exact⟨.normal,s',fun c7 k=>.inr ⟨l,aW,aa _ k⟩,ab⟩
    ·obtain⟨s',aa,ab⟩:=xY _ ops ops.toList s _ h;exact⟨.normal,s',fun c7 k=>aa _ k,ab⟩
 |seq x y zI zJ=>
  intro s Q h;obtain⟨e,s1,aa,ab⟩:=zI s _ h;cases e with
  |normal=>obtain⟨aI,s2,ar,aN⟩:=zJ s1 Q ab;exact⟨aI,s2,fun c7 k=>aa _ (ar c7 k),aN⟩
  |_=>exact⟨_,s1,fun c7 k=>aa _ k,ab⟩
 |cond c x y zI zJ=>
  intro s Q h;simp only[e2]at h⊢;unfold sz at h⊢;split at h
  ·rename_i p b e;obtain⟨ak,ba,ay⟩:=h;cases b with
   |true=>obtain⟨av,s1,aa,ab⟩:=zI s Q (ba rfl);exact⟨av,s1,fun c7 k=>⟨ak,fun _=>aa c7 k,fun h=>(by cases h)⟩,ab⟩
   |false=>obtain⟨av,s1,aa,ab⟩:=zJ s Q (ay rfl);exact⟨av,s1,fun c7 k=>⟨ak,fun h=>(by cases h),fun _=>aa c7 k⟩,ab⟩
  ·exact h.elim
 |block id c aX=>
  intro s Q h;obtain⟨e,s1,aa,ab⟩:=aX s _ h;cases e with
  |exit Cr=>
   by_cases hid:Cr=id
   ·refine⟨.normal,s1,fun c7 k=>aa _ ?_,?_⟩
    ·simp only[qR];rw[aC hid];exact k
    ·simp only[qR]at ab;rw[aC hid]at ab;exact ab
   ·refine⟨.exit Cr,s1,fun c7 k=>aa _ ?_,?_⟩
    ·simp only[qR];rw[au hid];exact k
    ·simp only[qR]at ab;rw[au hid]at ab;exact ab
  |_=>exact⟨_,s1,fun c7 k=>aa _ k,ab⟩
 |loop c aX=>intro s Q h;exact zfL (body:=e2 P n c) aX s Q h
 |_=>intro s Q h;exact h.elim
def C3{α:Type}(P:Program)(rs:List ResultVar)(post:α->Prop)(r:α->bw)(outs:α->List ad)(e:Exit)(s:ag):Prop:=
 (e=.normal\/e=.ret)/\∃x,post x/\jA P s rs (outs x) (r x)/\hU (hT s rs (r x)) 0 (outs x)
def hq{α:Type}(P:Program)(rs:List ResultVar)(s:ag)[post:jB (α->Prop)][r:jB (α->bw)][outs:jB (α->List ad)]:Prop:=
 ∃x,post.val x/\jA P s rs (outs.val x) (r.val x)/\hU (hT s rs (r.val x)) 0 (outs.val x)
def hq.of{α:Type}{P:Program}{rs:List ResultVar}{s:ag}{post:α->Prop}{r:α->bw}{outs:α->List ad}(x:α)(h:post x)(aa:jA P s rs (outs x) (r x)/\hU (hT s rs (r x)) 0 (outs x)):@hq α P rs s ⟨post⟩ ⟨r⟩ ⟨outs⟩:=⟨x,h,aa⟩
@[congr]def zId{α:Type}{P:Program}{rs:List ResultVar}{post:α->Prop}{r:α->bw}{outs:α->List ad}{e:Exit}{s s':ag}(h:s=s'):C3 P rs post r outs e s=C3 P rs post r outs e s':=by rw[h]
@[simp]def zIe{α:Type}(P:Program)(rs:List ResultVar)(post:α->Prop)(r:α->bw)(outs:α->List ad)(s:ag):C3 P rs post r outs .ret s=@hq α P rs s ⟨post⟩ ⟨r⟩ ⟨outs⟩:=by simp only[C3,hq,or_true,kZ]
def cB.vT{α:Type}{f:FuncId}{fn:Func}{c:Code}{args:List ad}(post:α->Prop)(r:α->bw)(outs:α->List ad)(hm:P.follows .mixedOrders=true)(ay:P.funcs[f]?=some fn) (fO:(fn.name== "runtime.NumGoroutine")=false)
  (ae:fn.body=some c)(aE:codeOk c=true)(m:Nat)(zfO:∀x,ks (outs x)=m)(dI:jZ m c=true)(eF:∀x,gd args (outs x)=true)(al:args.length<=fn.ntmps)
  (h:e2 P fn.ntmps c (C3 P fn.results.toList post r outs) (ig args 0)):∃x,post x/\cB P f args (r x) (outs x):=by
 obtain⟨e,s',aa,ab,x,aj,ar⟩:=zfN (fun _=>rfl) c _ _ h;exact⟨x,aj,cB.mk hm ay fO ae aE (by rw[zfO x];exact dI) al (eF x) (Qa:=fun bV t=>bV=e/\t=s') (fun bV t ⟨zfP,BD⟩=>by subst zfP;subst BD;exact⟨ab,ar⟩) (fun _=>aa _ ⟨rfl,rfl⟩)⟩
def aD.vT{α:Type}{f:FuncId}{fn:Func}{c:Code}{args:List az}(post:α->Prop)(r:α->bw)(hm:P.follows .mixedOrders=true)(ay:P.funcs[f]?=some fn) (fO:(fn.name== "runtime.NumGoroutine")=false)
  (ae:fn.body=some c)(aE:codeOk c=true)(al:args.length<=fn.ntmps)
  (h:e2 P fn.ntmps c (C3 P fn.results.toList post r (fun _=>args.map fun _=>ad.dead)) (ig (args.map .x) 0)):∃x,post x/\aD P f args (r x):=by
 obtain⟨x,aj,ao⟩:=cB.vT post r (fun _=>args.map fun _=>ad.dead) hm ay fO ae aE 0 (fun _=>JE args) (JA c) (fun _=>JG args) (by simpa using al) h;exact⟨x,aj,aD.ofM ao⟩
end
end Go.Ab
