/- Lemmas. -/
import Derived.Test.YtmlnbemjmlogiaaGreatDoorAbJ3
set_option linter.all false
namespace Go.Ab
open Go Go.RowKit
section
variable [bn]
def xW(o:Oper):Bool:=match o.op with
 |.call c=>match c.callee with
  |.builtin .append=>o.guard.isNone
  |_=>false
 |_=>false
def jF(s:aj)(v:ae):Option Nat:=match hO s v with
 |some (some i,_)=>some i
 |_=>none
def mW(s:aj):Option Nat->aj
 |some i=>put s i .dead
 |none=>s
def ae.nH:ae->Bool
 |.own _ _ _=>true
 |.db _ _ _ _=>true
 |_=>false
def K3{a:ae}(h:a.nH=true):a.aR=true:=by cases a<;>first|rfl|cases h
def K4{s:aj}{v:ae}{i:Nat}(h:jF s v=some i):(s i).nH=true/\v.refs i=true:=by
 unfold jF at h;split at h
 ·rename_i j q hs;injection h with h
  subst h;unfold hO at hs;split at hs
  ·simp at hs
  ·split at hs
   ·rename_i e z xs ax;simp only[b9,cA]at hs;obtain⟨rfl,_⟩:=hs;exact⟨by rw[ax];rfl,by simp[ae.refs]⟩
   ·rename_i v e z xs ax;simp only[b9,cA]at hs;obtain⟨rfl,_⟩:=hs;exact⟨by rw[ax];rfl,by simp[ae.refs]⟩
   ·cases hs
  ·split at hs
   ·rename_i e z xs ax;simp only[b9,cA]at hs;obtain⟨rfl,_⟩:=hs;exact⟨by rw[ax];rfl,by simp[ae.refs]⟩
   ·cases hs
  ·cases hs
 ·cases h
section
variable {P:aM}{s s1:aj}
def zF{t t':aP}{x y:Prop×ae}(h:(ff P s t t' x y).1):(ff P s t t' x y).2.1=mW s (jF s x.2)/\∃e z xs,(ff P s t t' x y).2.2=.own e z xs:=by
 unfold ff at h⊢;unfold jF;split at h
 ·rename_i l cC;unfold xJ at h⊢;split at h
  ·rename_i ax aK;simp only[aK];exact⟨rfl,_,_,_,rfl⟩
  ·rename_i ax aK;simp only[aK];exact⟨rfl,_,_,_,rfl⟩
  ·exact h.elim
 ·unfold wq at h⊢;split at h
  ·rename_i ax;split at h
   ·rename_i aK cd fI;simp only[cd];exact⟨rfl,_,_,_,rfl⟩
   ·rename_i aK cd fI;simp only[cd];exact⟨rfl,_,_,_,rfl⟩
   ·rename_i aK cd fI;split at h
    ·rename_i gp;simp only[cd];exact⟨rfl,_,_,_,rfl⟩
    ·exact h.elim
   ·exact h.elim
  ·exact h.elim
def K5{t t':aP}{x y:Prop×ae}(aa:hO s1 x.2=hO s x.2)(ab:∀size,iQ s1 size y.2=iQ s size y.2) :
  ((ff P s1 t t' x y).1↔(ff P s t t' x y).1)/\(ff P s1 t t' x y).2.2=(ff P s t t' x y).2.2:=by
 unfold ff;cases strOf y.2 with
 |some l=>dsimp only;unfold xJ;rw[aa];split<;>exact⟨jB,rfl⟩
 |none=>
  dsimp only;unfold wq;split
  ·rw[aa,ab];split
   ·exact⟨jB,rfl⟩
   ·exact⟨jB,rfl⟩
   ·split<;>exact⟨jB,rfl⟩
   ·exact⟨jB,rfl⟩
  ·exact⟨jB,rfl⟩
def K6{v:ae}(h:∀b,v.refs b=true->s1 b=s b):hO s1 v=hO s v:=by
 unfold hO;split
 ·rfl
 ·simp only[h _ (nw _)]
 ·simp only[h _ (nw _)]
 ·rfl
def gr(s:aj):ae->Bool
 |.x _=>true
 |.elem _=>true
 |.ptr i _=>match s i with
  |.box _=>true
  |_=>false
 |.alias i=>match s i with
  |.mp _ _ _=>true
  |_=>false
 |.cond _ v=>gr s v
 |_=>false
def ae.HD:ae->Bool
 |.box _=>true
 |.mp _ _ _=>true
 |_=>false
def zgV{a:ae}(h:a.HD=true):a.aR=true:=by cases a<;>first|rfl|cases h
def HE{a:ae}(h:a.HD=true):a.nH=false:=by cases a<;>first|rfl|cases h
def WY{a:ae}(h:a.HD=true)(j:Nat):a.refs j=false:=by cases a<;>first|rfl|cases h
def WZ:ae->Bool
 |.x (.one .any)=>false
 |_=>true
def xX:Op->Option (List aW)
 |.move x=>some [x]
 |.nilCheck x=>some [x]
 |.load _ x=>some [x]
 |.fieldAddr _ x _=>some [x]
 |.field _ x _=>some [x]
 |.extract x _=>some [x]
 |.unOp _ _ x=>some [x]
 |.convert _ _ x=>some [x]
 |.binOp _ _ x y _=>some [x,y]
 |.index _ x i=>some [x,i]
 |.pick c x y=>some [c,x,y]
 |.build _ uP=>some (uP.toList.map (·.2))
 |.buildSlice _ _ uP=>some (uP.toList.map (·.2))
 |.alloc _=>some []
 |.box _ x=>some [x]
 |.call c=>match c.callee with
  |.value f=>some (f::c.args.toList)
  |.builtin .len=>some c.args.toList
  |_=>none
 |_=>none
def wC(s:aj):List aW->Bool
 |[]=>true
 |x::r=>gr s (look s x)&&wC s r
def mh(P:aM)(s:aj)(op:Op):Prop:=
 (match xX op with
  |some l=>wC s l=true
  |none=>False) /\
 match op with
 |.load t x=>WZ (k2 (tk P t) (eH P t) (aJ s x).1 (mem s (aJ s x).2)).2=true
 |_=>True
def W0:∀{l:List aW},wC s l=true->∀x∈l,gr s (look s x)=true
 |[],_,x,h=>by cases h
 |y::r,h,x,ai=>by
  simp only[wC,b7]at h;rcases fp.1 ai with rfl|ai
  ·exact h.1
  ·exact W0 h.2 x ai
def zgW{op:Op}{l:List aW}(h:xX op=some l):∀x∈op.operands,x∈l:=by
 intro x ai;cases op<;>simp only[xX]at h<;>first|(cases h;done)|(injection h with h;subst h;first|(simpa[Op.operands]using ai)|(simp[Op.operands]at ai))|skip
 rename_i c;obtain⟨callee,args,ts⟩:=c;cases callee with
 |value f=>injection h with h;subst h;simpa[Op.operands,Call.operands]using ai
 |builtin b=>cases b<;>first|(cases h;done)|(injection h with h;subst h;simpa[Op.operands,Call.operands]using ai)
 |_=>cases h
def HF{op:Op}(h:mh P s op):∀x∈op.operands,gr s (look s x)=true:=by
 intro x ai;obtain⟨h,_⟩:=h;split at h
 ·rename_i l e;exact W0 h x (zgW e x ai)
 ·exact h.elim
def K7:∀{v:ae} {b:Nat},gr s v=true->v.refs b=true->(s b).HD=true
 |.ptr i off,b,h,ao=>by
  obtain rfl:i=b:=by simpa[ae.refs]using ao
  unfold gr at h;split at h
  ·rename_i cs e;rw[e];rfl
  ·cases h
 |.alias i,b,h,ao=>by
  obtain rfl:i=b:=by simpa[ae.refs]using ao
  unfold gr at h;split at h
  ·rename_i e;rw[e];rfl
  ·cases h
 |.cond e v,b,h,ao=>K7 (v:=v) h ao
 |.x _,b,_,ao=>by cases ao
 |.elem _,b,_,ao=>by cases ao
def PS{x:aW}(am:gr s (look s x)=true)(hs:∀t,x=.tmp t->s1 t=s t)(ad:∀i,(s i).HD=true->s1 i=s i):dY s s1 x:=by
 cases x with
 |tmp t=>
  refine⟨hs t rfl,fun b jp=>?_⟩;have jr:gr s (look s (.tmp t))=true:=am;simp only[look]at jr;split at jr
  ·rename_i cs e;rw[e]at jp;cases jp
  ·rename_i e;simp only[gr,e]at jr;cases jr
  ·rename_i e;rw[e]at jp;cases jp
  ·cases jr
  ·cases jr
  ·cases jr
  ·exact ad b (K7 jr jp)
 |_=>trivial
def W1:∀{v:ae},(∀b,v.refs b=true->s1 b=s b)->gr s1 v=gr s v
 |.ptr i off,h=>by simp only[gr,h i (by simp[ae.refs])]
 |.alias i,h=>by simp only[gr,h i (by simp[ae.refs])]
 |.cond e v,h=>W1 (v:=v) h
 |.x _,_=>rfl
 |.elem _,_=>rfl
 |.dead,_=>rfl
 |.b2 _,_=>rfl
 |.box _,_=>rfl
 |.fy _ _ _,_=>rfl
 |.own _ _ _,_=>rfl
 |.mp _ _ _,_=>rfl
 |.view _ _ _ _,_=>rfl
 |.df _ _,_=>rfl
 |.link _ _ _,_=>rfl
 |.res _,_=>rfl
 |.et _ _,_=>rfl
 |.cR _ _,_=>rfl
 |.db _ _ _ _,_=>rfl
 |.gL _ _ _ _,_=>rfl
def zgX{x:aW}(h:dY s s1 x){b:Nat}(ad:(look s x).refs b=true):s1 b=s b:=by
 cases x with
 |tmp t=>
  simp only[look]at ad;split at ad
  ·obtain rfl:t=b:=by simpa[ae.refs]using ad
   exact h.1
  ·obtain rfl:t=b:=by simpa[ae.refs]using ad
   exact h.1
  ·obtain rfl:t=b:=by simpa[ae.refs]using ad
   exact h.1
  ·cases ad
  ·cases ad
  ·cases ad
  ·exact h.2 b ad
 |const v=>
  simp only[look,vL]at ad;split at ad
  ·split at ad<;>cases ad
  ·cases ad
  ·split at ad<;>cases ad
 |_=>cases ad
def W2:∀{l:List aW},(∀x∈l,dY s s1 x)->wC s1 l=wC s l
 |[],_=>rfl
 |x::r,h=>by have ai:=h x (by simp);simp only[wC,Pv ai,W1 (fun b ad=>zgX ai ad),W2 (l:=r) (fun y aU=>h y (by simp[aU]))]
def zgY{op:Op}{l:List aW}(h:xX op=some l):∀x∈l,x∈op.operands:=by
 intro x ai;cases op<;>simp only[xX]at h<;>first|(cases h;done)|(injection h with h;subst h;first|(simpa[Op.operands]using ai)|(simp[Op.operands]at ai))|skip
 rename_i c;obtain⟨callee,args,ts⟩:=c;cases callee with
 |value f=>injection h with h;subst h;simpa[Op.operands,Call.operands]using ai
 |builtin b=>cases b<;>first|(cases h;done)|(injection h with h;subst h;simpa[Op.operands,Call.operands]using ai)
 |_=>cases h
def K8{op:Op}(h:∀x∈op.operands,dY s s1 x):mh P s1 op↔mh P s op:=by
 have aa:(match xX op with|some l=>wC s1 l=true|none=>False)↔(match xX op with|some l=>wC s l=true|none=>False):=by
  cases e:xX op with
  |none=>exact jB
  |some l=>dsimp only;rw[W2 (fun x ai=>h x (zgY e x ai))]
 unfold mh;rw[aa];cases op with
 |load t x=>have ai:=h x (by simp[Op.operands]);simp only[dZ ai,Wk (fun b ad=>jZ ai ad)]
 |_=>exact jB
def D_{op:Op}(h:mh P s op):BA P s s1 op:=by
 cases op with
 |load t x=>
  obtain⟨_,h⟩:=h;unfold BA;dsimp only at h⊢;generalize k2 (tk P t) (eH P t) (aJ s x).1 (mem s (aJ s x).2)=v at h;have key:∀(t:aj) (r:ae),jT t r v=v:=by
   intro t r;rcases Gy t r v with e|⟨p,i,off,d,e,_⟩
   ·exact e
   ·rw[e]at h;cases h
  rw[key,key]
 |_=>trivial
def xY(g:Nat):Op->Bool
 |.move (.tmp k)=>k==g
 |_=>false
def q'(g:Nat):List Bool->List Oper->Bool
 |f::b6,o::r=>(!f ||(o.dst != some g&&!xY g o.op))&&q' g b6 r
 |_,_=>true
def PT{g:Nat}:∀{fl:List Bool} {l:List Oper} {i:Nat} {o:Oper},q' g fl l=true->fl[i]?=some true->l[i]?=some o->o.dst≠some g/\xY g o.op=false
 |[],l,i,o,_,h,_=>by simp at h
 |f::b6,[],i,o,_,_,h=>by simp at h
 |f::b6,x::r,0,o,h,aa,ab=>by simp only[GD,b9]at aa ab;subst aa;subst ab;simp only[q',b7]at h;have:=h.1;simp only[Bool.not_true,zm,b7,uY,ne_eq,xx]at this;exact this
 |f::b6,x::r,i+1,o,h,aa,ab=>by simp only[q',b7]at h;exact PT h.2 (by simpa using aa) (by simpa using ab)
def PU{g:Nat}{fl:List Bool}{l:List Oper}{i:Nat}{o:Oper}(h:q' g fl l=true)(aa:fl[i]?=some true)(ab:l[i]?=some o):o.dst≠some g:=(PT h aa ab).1
def D'(s:aj)(d:Nat)(fl:List Bool)(ops:Array Oper):Option Nat->Prop
 |some g=>(g=d\/(s d).aR=false)/\q' g fl ops.toList=true
 |none=>(s d).aR=false
def zgZ(n:Nat)(s:aj)(d:Nat)(fl:List Bool)(ops:Array Oper)(x:ae)(tk:Option Nat):Prop:=
 D' s d fl ops tk\/∃g,x=.alias g/\tk=some g/\n<=g/\(s g).nz=true/\(s d).aR=false
def K9{n bm:Nat}{s:aj}{r:ae}{x bJ:Prop×ae}(ac:(s bm).aR=false)(aA:bm<n):D3 n (put s bm r) x bJ↔D3 n s x bJ:=by
 have e:∀g,n<=g->put s bm r g=s g:=fun g ay=>by rw[eM ac,an (by omega)]
 unfold D3;constructor
 ·rintro (h|⟨p,v,g,ax,z,xs,aa,ab,au,aN⟩)
  ·exact .inl h
  ·exact .inr ⟨p,v,g,ax,z,xs,aa,ab,by rw[<-e g ab];exact au,aN⟩
 ·rintro (h|⟨p,v,g,ax,z,xs,aa,ab,au,aN⟩)
  ·exact .inl h
  ·exact .inr ⟨p,v,g,ax,z,xs,aa,ab,by rw[e g ab];exact au,aN⟩
def K_{n bm:Nat}{s:aj}{r:ae}{x:Prop×ae}{k:Prop×ae->Prop}(ac:(s bm).aR=false)(aA:bm<n):om n (put s bm r) x k↔om n s x k:=by
 have e:∀g,n<=g->put s bm r g=s g:=fun g ay=>by rw[eM ac,an (by omega)]
 unfold om;split
 ·constructor
  ·rintro⟨g,aa,⟨a,b,c,ab⟩,au⟩;exact⟨g,aa,⟨a,b,c,by rw[<-e g aa];exact ab⟩,au⟩
  ·rintro⟨g,aa,⟨a,b,c,ab⟩,au⟩;exact⟨g,aa,⟨a,b,c,by rw[e g aa];exact ab⟩,au⟩
 ·exact jB
def tK(P:aM)(n:Nat)(fl:List Bool)(ops:Array Oper)(o:Oper)(s s':aj):Prop:=
 ∃d x y t t' bJ,o.dst=some d/\d<n/\o.op=.call ⟨.builtin .append,⟨[x,y]⟩,⟨[t,t']⟩⟩/\o.guard=none/\D3 n s (aJ s x) bJ/\(∀cq,cq bJ->om n s (aJ s x) cq)/\zgZ n s d fl ops bJ.2 (jF s bJ.2) /\
  (ff P s t t' bJ (aJ s y)).1/\s'=put (ff P s t t' bJ (aJ s y)).2.1 d (ff P s t t' bJ (aJ s y)).2.2
def HG(s:aj)(tk:Option Nat)(k:Nat):ae:=match tk with
 |some g=>if k=g then .dead else if (s k).refs g=true then .dead else s k
 |none=>s k
def K'{s:aj}{d:Nat}{tk:Option Nat}{v:ae}(aF:∀j,v.refs j=false)(aB:∀g,tk=some g->(s g).aR=true)(aA:tk=some d\/(s d).aR=false)(k:Nat) :
  put (mW s tk) d v k=if k=d then v else HG s tk k:=by
 by_cases ak:k=d
 ·subst ak;rw[av rfl];exact jR (aF k)
 ·rw[an ak];cases tk with
  |none=>
   have hi:(s d).aR=false:=by
    rcases aA with h|h
    ·cases h
    ·exact h
   show put s d v k=s k;rw[eM hi,an ak]
  |some g=>
   have Ea:=aB g rfl;have hi:(put s g .dead d).aR=false:=by
    by_cases ay:d=g
    ·subst ay;have:put s d .dead d=.dead:=jR rfl;rw[this];rfl
    ·rcases aA with h|h
     ·injection h with h;exact absurd h.symm ay
     ·rcases qM (s:=s) (v:=.dead) ay with e|⟨_,_,e⟩
      ·rw[e];exact h
      ·rw[e];rfl
   show put (put s g .dead) d v k=if k=g then .dead else if (s k).refs g=true then .dead else s k
   rw[eM hi,an ak];by_cases ay:k=g
   ·subst ay;rw[av rfl];exact jR rfl
   ·rw[an ay];cases ao:(s k).refs g with
    |true=>rw[Di ay Ea ao,av rfl]
    |false=>rw[Dj ay ao,an (by simp)]
end
section
variable {P:aM}{n:Nat}{fl:List Bool}{ops:Array Oper}
def W3{s:aj}{g:Nat}(ay:(s g).nH=true):gr s (look s (.tmp g))=false:=by simp only[look];cases h:s g<;>rw[h]at ay<;>first|(simp[ae.nH]at ay;done)|rfl|(simp only[gr,h])
def W4{s:aj}(hw:c5 s){op:Op}(am:mh P s op){g:Nat}(ay:(s g).nH=true){r:ae} :
  (gZ P s op r->r.refs g=false)/\∀e,mU P s e op r->r.refs g=false:=by
 have lL:(s g).aR=true:=K3 ay;have qd:c5 (put s g .dead):=fT hw (fun j h=>by cases h);have gb:∀x∈op.operands,dY s (put s g .dead) x:=by
  intro x ai;have uZ:=HF am x ai;refine PS uZ (fun t bv=>?_) (fun i ah=>?_)
  ·subst bv;have zha:t≠g:=by rintro rfl;rw[W3 ay]at uZ;cases uZ
   refine Dj zha ?_;cases ao:(s t).refs g with
   |false=>rfl
   |true=>
    exfalso;simp only[look]at uZ;split at uZ
    ·rename_i cs e;rw[e]at ao;cases ao
    ·rename_i e;simp only[gr,e]at uZ;cases uZ
    ·rename_i e;rw[e]at ao;cases ao
    ·cases uZ
    ·cases uZ
    ·cases uZ
    ·rw[HE (K7 uZ ao)]at ay;cases ay
  ·have xZ:i≠g:=by rintro rfl;rw[HE ah]at ay;cases ay
   exact Dj xZ (WY ah g)
 have aA:(put s g .dead g).aR=false:=by rw[jR rfl];rfl
 refine⟨fun h=>?_,fun e h=>?_⟩
 ·cases ao:r.refs g with
  |false=>rfl
  |true=>have:=KZ qd ((BB op r gb (D_ am)).2 h) ao;rw[aA]at this;cases this
 ·cases ao:r.refs g with
  |false=>rfl
  |true=>have:=WO qd ((D6 op r gb (D_ am)).2 h) ao;rw[aA]at this;cases this
def zhb{s:aj}{t g:Nat}(am:gr s (look s (.tmp t))=true)(ay:(s g).nH=true):t≠g/\(s t).refs g=false:=by
 refine⟨(by rintro rfl;rw[W3 ay]at am;cases am),?_⟩;cases ao:(s t).refs g with
 |false=>rfl
 |true=>
  exfalso;simp only[look]at am;split at am
  ·rename_i cs e;rw[e]at ao;cases ao
  ·rename_i e;simp only[gr,e]at am;cases am
  ·rename_i e;rw[e]at ao;cases ao
  ·cases am
  ·cases am
  ·cases am
  ·rw[HE (K7 am ao)]at ay;cases ay
def La{s:aj}{d bm:Nat}{tk:Option Nat}{v r:ae}(aF:∀j,v.refs j=false)(aB:∀g,tk=some g->(s g).nH=true/\bm≠g/\r.refs g=false)(aA:tk=some d\/(s d).aR=false)
  (ac:(s bm).aR=false)(bY:bm≠d):(∀k,put (mW s tk) d v k=if k=d then v else HG s tk k)/\(put (mW s tk) d v bm).aR=false/\put (mW (put s bm r) tk) d v=put (put (mW s tk) d v) bm r:=by
 have Eb:∀g,tk=some g->(s g).aR=true:=fun g ay=>K3 (aB g ay).1;have bF:=K' aF Eb aA;have Lb:∀k,put s bm r k=if k=bm then (match r.refs bm with|true=>.dead|false=>r)else s k:=fun k=>eM ac k
 have kK:put s bm r d=s d:=by rw[Lb,an (pk bY)]
 have HH:=K' (s:=put s bm r) (d:=d) (tk:=tk) (v:=v) aF (fun g ay=>by rw[Lb,an (pk (aB g ay).2.1)];exact Eb g ay) (by rw[kK];exact aA);have fg:(put (mW s tk) d v bm).aR=false:=by
  rw[bF,an bY];cases tk with
  |none=>exact ac
  |some g=>
   show (if bm=g then ae.dead else if (s bm).refs g=true then .dead else s bm).aR=false;rw[an (aB g rfl).2.1];split
   ·rfl
   ·exact ac
 refine⟨bF,fg,?_⟩;funext k;rw[HH,eM fg];by_cases kF:k=bm
 ·subst kF;rw[an bY,av rfl];have zl:put s k r k=(match r.refs k with|true=>.dead|false=>r):=by rw[Lb,av rfl]
  cases tk with
  |none=>exact zl
  |some g=>
   show (if k=g then ae.dead else if (put s k r k).refs g=true then .dead else put s k r k)=_;rw[an (aB g rfl).2.1,zl];have:ae.refs g (match r.refs k with|true=>ae.dead|false=>r)=false:=by
    cases r.refs k with
    |true=>rfl
    |false=>exact(aB g rfl).2.2
   rw[this,an (by simp)]<;>cases r.refs k<;>rfl
 ·rw[an kF,bF];have zhc:put s bm r k=s k:=by rw[Lb,an kF]
  unfold HG;rw[zhc]
def Lc{s:aj}{P:aM}{t t':aP}{x y:Prop×ae}(hw:c5 s):∀j,(ff P s t t' x y).2.2.refs j=false:=(PM hw).2
def Ld{bZ bI:Oper}{j:Nat}{s s1 s2:aj}(hw:c5 s)(nr:ops[j]?=some bI)(fH:fl[j]?=some true)
  (c_:∀d,bI.dst=some d->d∉bZ.looksAt ops)(a2:∀d,bZ.dst=some d->d∉bI.looksAt ops)(a3:∀d,bI.dst=some d->bZ.dst≠some d)
  (ac:iD P n ops bI s s1)(am:mh P s bI.op)(ah:tK P n fl ops bZ s1 s2):∃cI,tK P n fl ops bZ s cI/\iD P n ops bI cI s2/\mh P cI bI.op:=by
 obtain⟨bm,r,fg,fQ,dH,rfl,h4⟩:=ac;obtain⟨d,x,y,t,t',bJ,aA,hdn,c4,se,mT,has,aD,ap,rfl⟩:=ah;have bY:bm≠d:=fun e=>a3 bm fg (by rw[aA,e]);have gb:∀z∈bZ.op.operands,dY s (put s bm r) z:=fun z aZ=>pj hw dH (nF bZ bm (c_ bm fg) z aZ);have ai:=gb x (by rw[c4];simp[Op.operands,Call.operands]);have aU:=gb y (by rw[c4];simp[Op.operands,Call.operands]);rw[dZ aU]at ap⊢;rw[dZ ai]at mT has;have HI:=(K9 dH fQ).1 mT;have PP:∀cq,cq bJ->om n s (aJ s x) cq:=fun cq h=>(K_ dH fQ).1 (has cq h);have oo:∀b,bJ.2.refs b=true->put s bm r b=s b:=by
  intro b ad;rcases HI with rfl|⟨p,v,g,e,z,xs,_,lM,_,rfl⟩
  ·exact jZ ai ad
  ·obtain rfl:g=b:=by simpa[ae.refs]using ad
   have u0:@LT.lt Nat _ bm n:=fQ;have oq:g≠bm:=by omega
   rw[eM dH,an oq]
 have fB:hO (put s bm r) bJ.2=hO s bJ.2:=K6 oo;have uL:∀size,iQ (put s bm r) size (aJ s y).2=iQ s size (aJ s y).2:=fun size=>Hu (fun b ad=>jZ aU ad);obtain⟨wB,wD⟩:=K5 (P:=P) (t:=t) (t':=t') (x:=bJ) (y:=aJ s y) fB uL;have ot:jF (put s bm r) bJ.2=jF s bJ.2:=by unfold jF;rw[fB]
 have kK:put s bm r d=s d:=by rw[eM dH,an (pk bY)]
 have x0:=(zF ap).1;have k9:=wB.1 ap;obtain⟨cu,cC,z0,r5,v'⟩:=zF k9;rw[ot]at x0 aD;rw[x0,wD];generalize u1:jF s bJ.2=tk at*;have gV:(∀g,(s g).nH=true->r.refs g=false):=by
  intro g ay;have h:=W4 (P:=P) hw am ay (r:=r);cases iA:bI.guard with
  |none=>rw[iA]at h4;exact h.1 h4
  |some u2=>rw[iA]at h4;obtain⟨e,_,aF⟩:=h4;exact h.2 e aF
 have aB:∀g,tk=some g->(s g).nH=true/\bm≠g/\r.refs g=false:=by
  intro g ay;have Ea:=(K4 (u1.trans ay)).1;refine⟨Ea,?_,gV g Ea⟩;rcases aD with aD|⟨bX,_,dO,lM,dN,_⟩
  ·rw[ay]at aD;have:=PU aD.2 fH (by simpa using nr);rintro rfl;exact this fg
  ·rw[ay]at dO;injection dO with dO
   have u0:@LT.lt Nat _ bm n:=fQ;subst dO;intro cg;have aK:@Eq Nat bm g:=cg;omega
 have hX:tk=some d\/(s d).aR=false:=by
  rcases aD with aD|⟨bX,_,dO,lM,dN,dP⟩
  ·cases tk with
   |none=>exact .inr (by rw[<-kK];exact aD)
   |some g=>
    rcases aD.1 with h|h
    ·exact .inl (by rw[h])
    ·exact .inr (by rw[<-kK];exact h)
  ·exact .inr (by rw[<-kK];exact dP)
 obtain⟨bF,lN,BN⟩:=La (r:=r) (Lc (P:=P) (t:=t) (t':=t') (x:=bJ) (y:=aJ s y) hw) aB hX dH bY;have rR:∀k,k≠d->(∀g,tk=some g->k≠g/\(s k).refs g=false)->put (mW s tk) d (ff P s t t' bJ (aJ s y)).2.2 k=s k:=by
  intro k ak h;rw[bF,an ak];cases tk with
  |none=>rfl
  |some g=>show (if k=g then ae.dead else if (s k).refs g=true then .dead else s k)=s k;rw[an (h g rfl).1,(h g rfl).2];simp
 have BO:∀z∈bI.op.operands,dY s (put (mW s tk) d (ff P s t t' bJ (aJ s y)).2.2) z:=by
  intro z aZ;have Ec:=HF am z aZ;refine PS Ec (fun t0 bv=>?_) (fun i ah=>?_)
  ·subst bv;refine rR t0 ?_ (fun g ay=>zhb Ec (aB g ay).1);rintro rfl;exact nF bI t0 (a2 t0 aA) _ aZ rfl
  ·refine rR i ?_ (fun g ay=>?_)
   ·rintro rfl;rcases hX with h|h
    ·have e:=(aB i h).1;rw[HE ah]at e;cases e
    ·rw[zgV ah]at h;cases h
   ·have e:=(aB g ay).1;exact⟨(by rintro rfl;rw[HE ah]at e;cases e),WY ah g⟩
 refine⟨put (mW s tk) d (ff P s t t' bJ (aJ s y)).2.2,⟨d,x,y,t,t',bJ,aA,hdn,c4,se,HI,PP,?_,k9,by rw[cu]⟩,⟨bm,r,fg,fQ,lN,BN,?_⟩,(K8 BO).2 am⟩
 ·rw[u1];rcases aD with aD|⟨bX,fo,dO,lM,dN,dP⟩
  ·refine .inl ?_;cases tk with
   |none=>show (s d).aR=false;rw[<-kK];exact aD
   |some g=>refine⟨?_,aD.2⟩;rw[<-kK];exact aD.1
  ·have u0:@LT.lt Nat _ bm n:=fQ;have oq:¬@Eq Nat bX bm:=by omega
   exact .inr ⟨bX,fo,dO,lM,by rw[eM dH,an oq]at dN;exact dN,by rw[<-kK];exact dP⟩
 ·cases iA:bI.guard with
  |none=>rw[iA]at h4;exact(BB bI.op r BO (D_ am)).2 h4
  |some u2=>
   rw[iA]at h4;obtain⟨e,he,aF⟩:=h4;refine⟨e,?_,(D6 bI.op r BO (D_ am)).2 aF⟩;rw[<-he];refine D7 (fun bG e2=>?_);have zhd:=KX bI d u2 (a2 d aA) iA bG e2;refine rR bG zhd (fun g ay=>?_);have sd:=(aB g ay).1;unfold dA at he;rw[e2]at he;simp only at he;split at he
   ·rename_i b hs;exact⟨(by rintro rfl;rw[hs]at sd;simp[ae.nH]at sd),by rw[hs];rfl⟩
   ·rename_i cg b hs;exact⟨(by rintro rfl;rw[hs]at sd;simp[ae.nH]at sd),by rw[hs];rfl⟩
   ·cases he
def Le{bZ bI:Oper}{j:Nat}{s s1 s2:aj}(hw:c5 s)(nr:ops[j]?=some bI)(fH:fl[j]?=some true)
  (c_:∀d,bI.dst=some d->d∉bZ.looksAt ops)(a2:∀d,bZ.dst=some d->d∉bI.looksAt ops)(a3:∀d,bI.dst=some d->bZ.dst≠some d)
  (ah:tK P n fl ops bZ s s1)(ac:iD P n ops bI s1 s2)(am:mh P s1 bI.op):∃cI,iD P n ops bI s cI/\mh P s bI.op/\tK P n fl ops bZ cI s2:=by
 obtain⟨d,x,y,t,t',bJ,aA,hdn,c4,se,mT,has,aD,ap,rfl⟩:=ah;obtain⟨bm,r,fg,fQ,ou,rfl,h4⟩:=ac;have bY:bm≠d:=fun e=>a3 bm fg (by rw[aA,e]);obtain⟨cu,cC,z0,r5,v'⟩:=zF ap;generalize u1:jF s bJ.2=tk at cu aD;have iW:∀g,tk=some g->(s g).nH=true/\bm≠g:=by
  intro g ay;refine⟨(K4 (u1.trans ay)).1,?_⟩;rcases aD with aD|⟨bX,_,dO,lM,dN,_⟩
  ·rw[ay]at aD;have:=PU aD.2 fH (by simpa using nr);rintro rfl;exact this fg
  ·rw[ay]at dO;injection dO with dO
   have u0:@LT.lt Nat _ bm n:=fQ;subst dO;intro cg;have aK:@Eq Nat bm g:=cg;omega
 have hX:tk=some d\/(s d).aR=false:=by
  rcases aD with aD|⟨bX,_,dO,lM,dN,dP⟩
  ·cases tk with
   |none=>exact .inr aD
   |some g=>
    rcases aD.1 with h|h
    ·exact .inl (by rw[h])
    ·exact .inr h
  ·exact .inr dP
 have uu:=Lc (P:=P) (t:=t) (t':=t') (x:=bJ) (y:=aJ s y) hw;have Eb:∀g,tk=some g->(s g).aR=true:=fun g ay=>K3 (iW g ay).1;have bF:=K' uu Eb hX;rw[cu]at am ou h4⊢;have By:∀k,k≠d->put (mW s tk) d (ff P s t t' bJ (aJ s y)).2.2 k=.dead\/put (mW s tk) d (ff P s t t' bJ (aJ s y)).2.2 k=s k:=by
  intro k ak;rw[bF,an ak];cases tk with
  |none=>exact .inr rfl
  |some g=>
   show (if k=g then ae.dead else if (s k).refs g=true then .dead else s k)=.dead\/(if k=g then ae.dead else if (s k).refs g=true then .dead else s k)=s k;split
   ·exact .inl rfl
   ·split
    ·exact .inl rfl
    ·exact .inr rfl
 have BO:∀z∈bI.op.operands,dY (put (mW s tk) d (ff P s t t' bJ (aJ s y)).2.2) s z:=by
  intro z aZ;have Ec:=HF am z aZ;refine PS Ec (fun t0 bv=>?_) (fun i ah=>?_)
  ·subst bv;rcases By t0 (by rintro rfl;exact nF bI t0 (a2 t0 aA) _ aZ rfl)with e|e
   ·simp only[look,e]at Ec;cases Ec
   ·exact e.symm
  ·rcases By i (by rintro rfl;rw[bF,av rfl,v']at ah;cases ah)with e|e
   ·rw[e]at ah;cases ah
   ·exact e.symm
 have jr:=(K8 BO).2 am;have lN:(s bm).aR=false:=by
  cases h:(s bm).aR with
  |false=>rfl
  |true=>
   exfalso;rw[bF,an bY]at ou;cases tk with
   |none=>rw[show HG s none bm=s bm from rfl,h]at ou;cases ou
   |some g=>
    have:(if bm=g then ae.dead else if (s bm).refs g=true then .dead else s bm).aR=false:=ou;rw[an (iW g rfl).2]at this;split at this
    ·rename_i ao;rw[np ao]at h;cases h
    ·rw[h]at this;cases this
 have zhe:∀u2,bI.guard=some u2->∀e,dA ops (put (mW s tk) d (ff P s t t' bJ (aJ s y)).2.2) u2=some e->dA ops s u2=some e:=by
  intro u2 iA e he;rw[<-he];refine D7 (fun bG e2=>?_);rcases By bG (KX bI d u2 (a2 d aA) iA bG e2)with ax|ax
  ·unfold dA at he;rw[e2]at he;simp only[ax]at he;cases he
  ·exact ax.symm
 have BP:match bI.guard with
   |none=>gZ P s bI.op r
   |some g=>∃e,dA ops s g=some e/\mU P s e bI.op r:=by
  cases iA:bI.guard with
  |none=>rw[iA]at h4;exact(BB bI.op r BO (D_ am)).2 h4
  |some u2=>rw[iA]at h4;obtain⟨e,he,aF⟩:=h4;exact⟨e,zhe u2 iA e he,(D6 bI.op r BO (D_ am)).2 aF⟩
 have gV:(∀g,(s g).nH=true->r.refs g=false):=by
  intro g ay;have h:=W4 (P:=P) hw jr ay (r:=r);cases iA:bI.guard with
  |none=>rw[iA]at BP;exact h.1 BP
  |some u2=>rw[iA]at BP;obtain⟨e,_,aF⟩:=BP;exact h.2 e aF
 have aB:∀g,tk=some g->(s g).nH=true/\bm≠g/\r.refs g=false:=fun g ay=>⟨(iW g ay).1,(iW g ay).2,gV g (iW g ay).1⟩
 obtain⟨_,_,BN⟩:=La (r:=r) uu aB hX lN bY;have gb:∀z∈bZ.op.operands,dY s (put s bm r) z:=fun z aZ=>pj hw lN (nF bZ bm (c_ bm fg) z aZ);have ai:=gb x (by rw[c4];simp[Op.operands,Call.operands]);have aU:=gb y (by rw[c4];simp[Op.operands,Call.operands]);have oo:∀b,bJ.2.refs b=true->put s bm r b=s b:=by
  intro b ad;rcases mT with rfl|⟨p,v,g,e,z,xs,_,lM,_,rfl⟩
  ·exact jZ ai ad
  ·obtain rfl:g=b:=by simpa[ae.refs]using ad
   have u0:@LT.lt Nat _ bm n:=fQ;have oq:g≠bm:=by omega
   rw[eM lN,an oq]
 have fB:hO (put s bm r) bJ.2=hO s bJ.2:=K6 oo;have uL:∀size,iQ (put s bm r) size (aJ s y).2=iQ s size (aJ s y).2:=fun size=>Hu (fun b ad=>jZ aU ad);obtain⟨wB,wD⟩:=K5 (P:=P) (t:=t) (t':=t') (x:=bJ) (y:=aJ s y) fB uL;have ot:jF (put s bm r) bJ.2=tk:=by unfold jF;rw[fB];exact u1
 have kK:put s bm r d=s d:=by rw[eM lN,an (pk bY)]
 have x1:=wB.2 ap;refine⟨put s bm r,⟨bm,r,fg,fQ,lN,rfl,BP⟩,jr,⟨d,x,y,t,t',bJ,aA,hdn,c4,se,?_,?_,?_,?_,?_⟩⟩
 ·rw[dZ ai];exact(K9 lN fQ).2 mT
 ·intro cq h;rw[dZ ai];exact(K_ lN fQ).2 (has cq h)
 ·rw[ot];rcases aD with aD|⟨bX,fo,dO,lM,dN,dP⟩
  ·refine .inl ?_;cases tk with
   |none=>show (put s bm r d).aR=false;rw[kK];exact aD
   |some g=>refine⟨?_,aD.2⟩;rw[kK];exact aD.1
  ·have u0:@LT.lt Nat _ bm n:=fQ;have oq:¬@Eq Nat bX bm:=by omega
   exact .inr ⟨bX,fo,dO,lM,by rw[eM lN,an oq];exact dN,by rw[kK];exact dP⟩
 ·rw[dZ aU];exact x1
 ·rw[dZ aU,(zF x1).1,ot,wD];exact BN.symm
def Ed{s:aj}{k e z:Nat}{xs:List (List ag)}(h:s k=.own e z xs):aJ s (.tmp k)=(True,.alias k):=by unfold aJ;simp only[look,h];rfl
def sk(s:aj)(o:Oper):Prop:=∃k e z xs,o.op=.move (.tmp k)/\o.guard=none/\s k=.own e z xs
def zhf{bZ bI:Oper}{j:Nat}{s s1 s2:aj}(hw:c5 s)(nr:ops[j]?=some bI)(fH:fl[j]?=some true)
  (c_:∀d,bI.dst=some d->d∉bZ.looksAt ops)(a2:∀d,bZ.dst=some d->d∉bI.looksAt ops)(a3:∀d,bI.dst=some d->bZ.dst≠some d)
  (ac:iD P n ops bI s s1)(am:sk s bI)(ah:tK P n fl ops bZ s1 s2):∃cI,tK P n fl ops bZ s cI/\iD P n ops bI cI s2/\sk cI bI:=by
 obtain⟨bm,r,fg,fQ,dH,rfl,h4⟩:=ac;obtain⟨gc,ax,Ee,HJ,mS,iA,eR⟩:=am;have ao:r=.alias gc:=by rw[iA,mS]at h4;have:r=(aJ s (.tmp gc)).2:=h4.2;rw[this,Ed eR]
 obtain⟨d,x,y,t,t',bJ,aA,hdn,c4,se,mT,has,aD,ap,rfl⟩:=ah;have bY:bm≠d:=fun e=>a3 bm fg (by rw[aA,e]);have gb:∀z∈bZ.op.operands,dY s (put s bm r) z:=fun z aZ=>pj hw dH (nF bZ bm (c_ bm fg) z aZ);have ai:=gb x (by rw[c4];simp[Op.operands,Call.operands]);have aU:=gb y (by rw[c4];simp[Op.operands,Call.operands]);rw[dZ aU]at ap⊢;rw[dZ ai]at mT has;have HI:=(K9 dH fQ).1 mT;have PP:∀cq,cq bJ->om n s (aJ s x) cq:=fun cq h=>(K_ dH fQ).1 (has cq h);have oo:∀b,bJ.2.refs b=true->put s bm r b=s b:=by
  intro b ad;rcases HI with rfl|⟨p,v,g,e,z,xs,_,lM,_,rfl⟩
  ·exact jZ ai ad
  ·obtain rfl:g=b:=by simpa[ae.refs]using ad
   have u0:@LT.lt Nat _ bm n:=fQ;have oq:g≠bm:=by omega
   rw[eM dH,an oq]
 have fB:hO (put s bm r) bJ.2=hO s bJ.2:=K6 oo;have uL:∀size,iQ (put s bm r) size (aJ s y).2=iQ s size (aJ s y).2:=fun size=>Hu (fun b ad=>jZ aU ad);obtain⟨wB,wD⟩:=K5 (P:=P) (t:=t) (t':=t') (x:=bJ) (y:=aJ s y) fB uL;have ot:jF (put s bm r) bJ.2=jF s bJ.2:=by unfold jF;rw[fB]
 have kK:put s bm r d=s d:=by rw[eM dH,an (pk bY)]
 have x0:=(zF ap).1;have k9:=wB.1 ap;obtain⟨cu,cC,z0,r5,v'⟩:=zF k9;rw[ot]at x0 aD;rw[x0,wD];generalize u1:jF s bJ.2=tk at*;have aB:∀g,tk=some g->(s g).nH=true/\bm≠g/\r.refs g=false:=by
  intro g ay;have Ea:=(K4 (u1.trans ay)).1;refine⟨Ea,?_⟩;rcases aD with aD|⟨bX,_,dO,lM,dN,_⟩
  ·rw[ay]at aD;obtain⟨aa,ab⟩:=PT aD.2 fH (by simpa using nr);refine⟨?_,?_⟩
   ·rintro rfl;exact aa fg
   ·rw[ao];rw[mS]at ab;exact ab
  ·rw[ay]at dO;injection dO with dO
   have u0:@LT.lt Nat _ bm n:=fQ;subst dO;refine⟨fun cg=>?_,?_⟩
   ·have aK:@Eq Nat bm g:=cg;omega
   ·rw[ao];have oq:¬@Eq Nat g bm:=by omega
    rw[eM dH,an oq]at dN;show (gc==g)=false
    rw[jj];rintro rfl;rw[eR]at dN;cases dN
 have hX:tk=some d\/(s d).aR=false:=by
  rcases aD with aD|⟨bX,_,dO,lM,dN,dP⟩
  ·cases tk with
   |none=>exact .inr (by rw[<-kK];exact aD)
   |some g=>
    rcases aD.1 with h|h
    ·exact .inl (by rw[h])
    ·exact .inr (by rw[<-kK];exact h)
  ·exact .inr (by rw[<-kK];exact dP)
 obtain⟨bF,lN,BN⟩:=La (r:=r) (Lc (P:=P) (t:=t) (t':=t') (x:=bJ) (y:=aJ s y) hw) aB hX dH bY;have rR:∀k,k≠d->(∀g,tk=some g->k≠g/\(s k).refs g=false)->put (mW s tk) d (ff P s t t' bJ (aJ s y)).2.2 k=s k:=by
  intro k ak h;rw[bF,an ak];cases tk with
  |none=>rfl
  |some g=>show (if k=g then ae.dead else if (s k).refs g=true then .dead else s k)=s k;rw[an (h g rfl).1,(h g rfl).2];simp
 have PV:put (mW s tk) d (ff P s t t' bJ (aJ s y)).2.2 gc=s gc:=by
  refine rR gc ?_ (fun g ay=>⟨?_,by rw[eR];rfl⟩)
  ·rintro rfl;exact nF bI gc (a2 gc aA) (.tmp gc) (by rw[mS];simp[Op.operands]) rfl
  ·rintro rfl;have:=(aB gc ay).2.2;rw[ao]at this;simp[ae.refs]at this
 refine⟨put (mW s tk) d (ff P s t t' bJ (aJ s y)).2.2,⟨d,x,y,t,t',bJ,aA,hdn,c4,se,HI,PP,?_,k9,by rw[cu]⟩,⟨bm,r,fg,fQ,lN,BN,?_⟩,⟨gc,ax,Ee,HJ,mS,iA,by rw[PV];exact eR⟩⟩
 ·rw[u1];rcases aD with aD|⟨bX,fo,dO,lM,dN,dP⟩
  ·refine .inl ?_;cases tk with
   |none=>show (s d).aR=false;rw[<-kK];exact aD
   |some g=>refine⟨?_,aD.2⟩;rw[<-kK];exact aD.1
  ·have u0:@LT.lt Nat _ bm n:=fQ;have oq:¬@Eq Nat bX bm:=by omega
   exact .inr ⟨bX,fo,dO,lM,by rw[eM dH,an oq]at dN;exact dN,by rw[<-kK];exact dP⟩
 ·rw[iA,mS];refine⟨?_,?_⟩
  ·show (aJ _ (.tmp gc)).1;rw[Ed (PV.trans eR)];trivial
  ·show r=(aJ _ (.tmp gc)).2;rw[ao,Ed (PV.trans eR)]
def zhg{bZ bI:Oper}{j:Nat}{s s1 s2:aj}(hw:c5 s)(nr:ops[j]?=some bI)(fH:fl[j]?=some true)
  (c_:∀d,bI.dst=some d->d∉bZ.looksAt ops)(a2:∀d,bZ.dst=some d->d∉bI.looksAt ops)(a3:∀d,bI.dst=some d->bZ.dst≠some d)
  (ah:tK P n fl ops bZ s s1)(ac:iD P n ops bI s1 s2)(am:sk s1 bI):∃cI,iD P n ops bI s cI/\sk s bI/\tK P n fl ops bZ cI s2:=by
 obtain⟨d,x,y,t,t',bJ,aA,hdn,c4,se,mT,has,aD,ap,rfl⟩:=ah;obtain⟨bm,r,fg,fQ,ou,rfl,h4⟩:=ac;have bY:bm≠d:=fun e=>a3 bm fg (by rw[aA,e]);obtain⟨cu,cC,z0,r5,v'⟩:=zF ap;generalize u1:jF s bJ.2=tk at cu aD;have iW:∀g,tk=some g->(s g).nH=true/\bm≠g:=by
  intro g ay;refine⟨(K4 (u1.trans ay)).1,?_⟩;rcases aD with aD|⟨bX,_,dO,lM,dN,_⟩
  ·rw[ay]at aD;have:=PU aD.2 fH (by simpa using nr);rintro rfl;exact this fg
  ·rw[ay]at dO;injection dO with dO
   have u0:@LT.lt Nat _ bm n:=fQ;subst dO;intro cg;have aK:@Eq Nat bm g:=cg;omega
 have hX:tk=some d\/(s d).aR=false:=by
  rcases aD with aD|⟨bX,_,dO,lM,dN,dP⟩
  ·cases tk with
   |none=>exact .inr aD
   |some g=>
    rcases aD.1 with h|h
    ·exact .inl (by rw[h])
    ·exact .inr h
  ·exact .inr dP
 have uu:=Lc (P:=P) (t:=t) (t':=t') (x:=bJ) (y:=aJ s y) hw;have Eb:∀g,tk=some g->(s g).aR=true:=fun g ay=>K3 (iW g ay).1;have bF:=K' uu Eb hX;rw[cu]at am ou h4⊢;obtain⟨gc,ax,Ee,HJ,mS,iA,eR⟩:=am;have By:∀k,k≠d->put (mW s tk) d (ff P s t t' bJ (aJ s y)).2.2 k=.dead\/put (mW s tk) d (ff P s t t' bJ (aJ s y)).2.2 k=s k:=by
  intro k ak;rw[bF,an ak];cases tk with
  |none=>exact .inr rfl
  |some g=>
   show (if k=g then ae.dead else if (s k).refs g=true then .dead else s k)=.dead\/(if k=g then ae.dead else if (s k).refs g=true then .dead else s k)=s k;split
   ·exact .inl rfl
   ·split
    ·exact .inl rfl
    ·exact .inr rfl
 have tp:gc≠d:=by rintro rfl;exact nF bI gc (a2 gc aA) (.tmp gc) (by rw[mS];simp[Op.operands]) rfl
 have hd:s gc=.own ax Ee HJ:=by
  rcases By gc tp with e|e
  ·rw[e]at eR;cases eR
  ·rw[<-e];exact eR
 have ao:r=.alias gc:=by rw[iA,mS]at h4;have:r=(aJ _ (.tmp gc)).2:=h4.2;rw[this,Ed eR]
 have lN:(s bm).aR=false:=by
  cases h:(s bm).aR with
  |false=>rfl
  |true=>
   exfalso;rw[bF,an bY]at ou;cases tk with
   |none=>rw[show HG s none bm=s bm from rfl,h]at ou;cases ou
   |some g=>
    have:(if bm=g then ae.dead else if (s bm).refs g=true then .dead else s bm).aR=false:=ou;rw[an (iW g rfl).2]at this;split at this
    ·rename_i ao;rw[np ao]at h;cases h
    ·rw[h]at this;cases this
 have BP:match bI.guard with
   |none=>gZ P s bI.op r
   |some g=>∃e,dA ops s g=some e/\mU P s e bI.op r:=by
  rw[iA,mS];refine⟨?_,?_⟩
  ·show (aJ s (.tmp gc)).1;rw[Ed hd];trivial
  ·show r=(aJ s (.tmp gc)).2;rw[ao,Ed hd]
 have gV:∀g,tk=some g->r.refs g=false:=by
  intro g ay;rw[ao];show (gc==g)=false
  rw[jj];rintro rfl;rw[bF,an tp,ay]at eR;have:(if gc=gc then ae.dead else if (s gc).refs gc=true then .dead else s gc)=.own ax Ee HJ:=eR;rw[av rfl]at this;cases this
 have aB:∀g,tk=some g->(s g).nH=true/\bm≠g/\r.refs g=false:=fun g ay=>⟨(iW g ay).1,(iW g ay).2,gV g ay⟩
 obtain⟨_,_,BN⟩:=La (r:=r) uu aB hX lN bY;have gb:∀z∈bZ.op.operands,dY s (put s bm r) z:=fun z aZ=>pj hw lN (nF bZ bm (c_ bm fg) z aZ);have ai:=gb x (by rw[c4];simp[Op.operands,Call.operands]);have aU:=gb y (by rw[c4];simp[Op.operands,Call.operands]);have oo:∀b,bJ.2.refs b=true->put s bm r b=s b:=by
  intro b ad;rcases mT with rfl|⟨p,v,g,e,z,xs,_,lM,_,rfl⟩
  ·exact jZ ai ad
  ·obtain rfl:g=b:=by simpa[ae.refs]using ad
   have u0:@LT.lt Nat _ bm n:=fQ;have oq:g≠bm:=by omega
   rw[eM lN,an oq]
 have fB:hO (put s bm r) bJ.2=hO s bJ.2:=K6 oo;have uL:∀size,iQ (put s bm r) size (aJ s y).2=iQ s size (aJ s y).2:=fun size=>Hu (fun b ad=>jZ aU ad);obtain⟨wB,wD⟩:=K5 (P:=P) (t:=t) (t':=t') (x:=bJ) (y:=aJ s y) fB uL;have ot:jF (put s bm r) bJ.2=tk:=by unfold jF;rw[fB];exact u1
 have kK:put s bm r d=s d:=by rw[eM lN,an (pk bY)]
 have x1:=wB.2 ap;refine⟨put s bm r,⟨bm,r,fg,fQ,lN,rfl,BP⟩,⟨gc,ax,Ee,HJ,mS,iA,hd⟩,⟨d,x,y,t,t',bJ,aA,hdn,c4,se,?_,?_,?_,?_,?_⟩⟩
 ·rw[dZ ai];exact(K9 lN fQ).2 mT
 ·intro cq h;rw[dZ ai];exact(K_ lN fQ).2 (has cq h)
 ·rw[ot];rcases aD with aD|⟨bX,fo,dO,lM,dN,dP⟩
  ·refine .inl ?_;cases tk with
   |none=>show (put s bm r d).aR=false;rw[kK];exact aD
   |some g=>refine⟨?_,aD.2⟩;rw[kK];exact aD.1
  ·have u0:@LT.lt Nat _ bm n:=fQ;have oq:¬@Eq Nat bX bm:=by omega
   exact .inr ⟨bX,fo,dO,lM,by rw[eM lN,an oq];exact dN,by rw[kK];exact dP⟩
 ·rw[dZ aU];exact x1
 ·rw[dZ aU,(zF x1).1,ot,wD];exact BN.symm
end
section
variable {P:aM}{n:Nat}{fl:List Bool}{ops:Array Oper}
def zhh{o:Oper}(h:xW o=true):∃c,o.op=.call c/\c.callee=.builtin .append/\o.guard=none:=by
 unfold xW at h;split at h
 ·rename_i c e;split at h
  ·rename_i aw;exact⟨c,e,aw,by simpa using h⟩
  ·cases h
 ·cases h
def Lf{o:Oper}{s s':aj}(h:tK P n fl ops o s s'):gq P n ops o s (fun t=>t=s'):=by obtain⟨d,x,y,t,t',bJ,aA,hdn,c4,se,_,has,aD,ap,rfl⟩:=h;unfold gq;rw[se,aA,c4];exact has (fun z=>(ff P s t t' z (aJ s y)).1/\d<n/\put (ff P s t t' z (aJ s y)).2.1 d (ff P s t t' z (aJ s y)).2.2=put (ff P s t t' bJ (aJ s y)).2.1 d (ff P s t t' bJ (aJ s y)).2.2) ⟨ap,hdn,rfl⟩
def zG(s:aj)(fl:List Bool)(ops:Array Oper)(o:Oper):Prop:=match o.dst,o.op with
 |some d,.call c=>match c.args.toList with
  |x::_=>D' s d fl ops (jF s (aJ s x).2)
  |[]=>False
 |_,_=>False
def W5{o:Oper}{s:aj}{K:aj->Prop}(hu:xW o=true)(hs:zG s fl ops o)(h:gq P n ops o s K):∃s',tK P n fl ops o s s'/\K s':=by
 obtain⟨c,c4,aw,ay⟩:=zhh hu;obtain⟨callee,args,ts⟩:=c;dsimp only at aw;subst aw;unfold gq at h;rw[ay,c4]at h;unfold zG at hs;rw[c4]at hs;cases aA:o.dst with
 |none=>rw[aA]at hs;exact hs.elim
 |some d=>
  rw[aA]at hs h;obtain⟨args⟩:=args;obtain⟨ts⟩:=ts
  match args,ts,hs,h with
  |[x,y],[t,t'],hs,h=>
   obtain⟨bJ,mT,bx,has⟩:=KS (n:=n) (s:=s) (x:=aJ s x) (k:=fun z=>(ff P s t t' z (aJ s y)).1/\d<n/\K (put (ff P s t t' z (aJ s y)).2.1 d (ff P s t t' z (aJ s y)).2.2)) h;refine⟨_,⟨d,x,y,t,t',bJ,aA,bx.2.1,c4,ay,mT,has,?_,bx.1,rfl⟩,bx.2.2⟩;rcases mT with rfl|⟨p,v,g,e,z,xs,ex,lM,Lg,rfl⟩
   ·exact .inl hs
   ·have bv:jF s (ae.alias g)=some g:=by unfold jF hO;simp only[Lg]
    refine .inr ⟨g,rfl,bv,lM,by rw[Lg];rfl,?_⟩;have cT:D' s d fl ops (jF s (aJ s x).2):=hs;rw[ex]at cT;exact cT
end
end
section
variable [bn]
section
variable {P:aM}{S0:Env}{w0 w:bb}{n:Nat}{s:aj}{a:Act}
def W6(af:Rel S0 w0 n s a w)(o:Oper){d:Nat}{r:ae}(eS:o.dst=some d)(aA:S0.m<=d/\d<n)(h:gZ P s o.op r){bT:Act->bb->Prop}{Q:Exit->Act->bb->Prop}
  (ct:∀a' w',Rel S0 w0 n (Ab.put s d r) a' w'->bT a' w'):o.wp P a w bT Q:=by
 have plain:(bu P s o.op).1/\r=(bu P s o.op).2->o.wp P a w bT Q:=by rintro⟨am,rfl⟩;exact Hr af aA eS (Pk af o am) (fun j ac=>tI af.wf _ ac) ct
 obtain⟨dst,op,type,pos,after,guard⟩:=o;dsimp only at h plain eS;subst eS;cases op<;>try (exact plain h)
 case alloc t=>
  simp only[gZ]at h;cases aZ:hT P t with
  |none=>rw[aZ]at h;exact h.elim
  |some cs=>rw[aZ]at h;simp only at h;subst h;exact zy (P:=P) (K:=fun s'=>s'=Ab.put s d (.box cs)) af _ (fun bG bx=>by injection bx with bx;subst bx;exact aA.1) (by simp only[gg,aZ];exact⟨aA.2,trivial⟩) (fun s' a' w' bQ cT=>by subst cT;exact ct a' w' bQ)
 case box t x=>
  simp only[gZ]at h;split at h
  ·rename_i p bP e;obtain⟨am,rfl⟩:=h;obtain⟨ax,aK⟩:=zet e;exact zy (P:=P) (K:=fun s'=>s'=Ab.put s d (.box bP.cells)) af _ (fun bG bx=>by injection bx with bx;subst bx;exact aA.1) (by simp only[gg,e,ax,aK,dy,Bv];exact⟨am,aA.2,trivial⟩) (fun s' a' w' bQ cT=>by subst cT;exact ct a' w' bQ)
  ·exact h.elim
 case convert src dst x=>
  simp only[gZ]at h;cases gQ:ju P dst with
  |false=>rw[gQ]at h;exact plain h
  |true=>
   rw[gQ]at h;obtain⟨am,rfl⟩:=h;obtain⟨r,w',cP,bQ⟩:=V2 (P:=P) af aA (af.aJ x) am;unfold Oper.wp;have ai:(execOp a.eval ({dst:=some d,op:=.convert src dst x,type:=type,pos:=pos,after:=after,guard:=guard}:Oper)).run P w=.ok (.value r) w':=by simp only[execOp,Sem.run_bind,cP,Result.andThen_ok,Sem.run_pure]
   rw[ai];exact ct _ _ bQ
 case buildSlice t len parts=>
  obtain⟨am,rfl⟩:=h;obtain⟨v,w',cP,bQ⟩:=OR (P:=P) (f:=Ab.aJ s) af (fun x _=>af.aJ x.2) aA am;unfold Oper.wp;have ai:(execOp a.eval ({dst:=some d,op:=.buildSlice t len parts,type:=type,pos:=pos,after:=after,guard:=guard}:Oper)).run P w=.ok (.value v) w':=by simp only[execOp,Sem.run_bind,cP,Result.andThen_ok,Sem.run_pure]
  rw[ai];exact ct _ _ bQ
 case call c=>
  obtain⟨callee,args,argTypes⟩:=c;simp only[gZ]at h;split at h
  ·rename_i f;obtain⟨d7,ap,fH,rfl⟩:=h;have xv:p6 s args.toList d7=s:=by
    unfold p6;rw[gl]at fH;cases aw:d7.flat with
    |true=>rfl
    |false=>
     rcases fH with h|h
     ·rw[aw]at h;cases h
     ·have:de s args.toList=[]:=by simpa using h
      simp only[this];rfl
   refine OT (P:=P) af ap ⟨argTypes,rfl⟩ aA rfl (fun a' w' bQ=>?_);rw[xv]at bQ;exact ct _ _ bQ
  ·exact plain h
def W7(af:Rel S0 w0 n s a w)(o:Oper){d:Nat}{r:ae}{e:Bool}(eS:o.dst=some d)(aA:S0.m<=d/\d<n)(h:mU P s e o.op r){bT:Act->bb->Prop}{Q:Exit->Act->bb->Prop}
  (ct:∀a' w',Rel S0 w0 n (Ab.put s d r) a' w'->bT a' w'):if e then o.wp P a w bT Q else bT (a.put o.dst undef) w:=by
 refine Wf (P:=P) (K:=fun s'=>s'=Ab.put s d r) af o (fun bG bx=>by rw[eS]at bx;injection bx with bx;subst bx;exact aA.1) ?_ (fun s' a' w' bQ cT=>by subst cT;exact ct a' w' bQ);obtain⟨dst,op,type,pos,after,guard⟩:=o;dsimp only at h eS⊢;subst eS;cases op<;>try (obtain⟨aa,ab,rfl⟩:=h;exact⟨aa,ab,aA.2,rfl⟩)
 case buildSlice t len parts=>
  cases e with
  |true=>obtain⟨aa,rfl⟩:=h;exact⟨aa,aA.2,rfl⟩
  |false=>obtain rfl:=h;exact⟨aA.2,rfl⟩
 case call c=>
  obtain⟨callee,args,ts⟩:=c;cases callee with
  |value f=>obtain⟨d7,aa,ab⟩:=G3 h;exact aa _ ⟨aA.2,by rw[ab]⟩
  |_=>obtain⟨aa,ab,rfl⟩:=h;exact⟨aa,ab,aA.2,rfl⟩
def zhi{m:Bool}{ops:Array Oper}{i:Nat}{s':aj}(eX:∀o∈ops.toList,∀d,o.dst=some d->S0.m<=d)(af:Rel S0 w0 n s a w)(h:xU P n m ops i s s'){bT:Act->bb->Prop}{Q:Exit->Act->bb->Prop}
  (ct:∀a' w',Rel S0 w0 n s' a' w'->bT a' w'):wpOp P ops Q i bT a w:=by
 obtain⟨o,aB,h⟩:=h;have nI:=eX o (by have:=BQ aB;simpa using this);unfold wpOp;rw[aB];simp only;have calm:iD P n ops o s s'->if Region.wanted o (yielded ops a.tmps)then o.wp P a w bT Q\/(o.asks P a w/\LetsOut Q)else bT (a.put o.dst undef) w:=by
  rintro⟨d,r,eS,aA,_,rfl,aF⟩;cases ay:o.guard with
  |none=>rw[ay]at aF;rw[av (by simp[Region.wanted,ay])];exact .inl (W6 (P:=P) af o eS ⟨nI d eS,aA⟩ aF ct)
  |some g=>
   rw[ay]at aF;obtain⟨e,he,aF⟩:=aF;have hw:Region.wanted o (yielded ops a.tmps)=e:=by simp only[Region.wanted,ay];exact Bw af he
   have:=W7 (P:=P) (Q:=Q) af o eS ⟨nI d eS,aA⟩ aF ct;rw[hw];cases e with
   |true=>exact .inl this
   |false=>exact this
 have wr:uW P n o s s'->if Region.wanted o (yielded ops a.tmps)then o.wp P a w bT Q\/(o.asks P a w/\LetsOut Q)else bT (a.put o.dst undef) w:=by
  intro hw;have ay:o.guard=none:=by obtain⟨_,_,h,_⟩:=hw;exact h.1
  rw[av (by simp[Region.wanted,ay])];exact .inl (zgG af o nI hw ct)
 split at h
 ·split at h
  ·exact h.elim calm wr
  ·exact calm h.1
 ·split at h
  ·exact wr h
  ·unfold gq at h;cases ay:o.guard with
   |none=>rw[ay]at h;rw[av (by simp[Region.wanted,ay])];exact .inl (zy (P:=P) af o nI h (fun s1 a' w' bQ hs=>by subst hs;exact ct a' w' bQ))
   |some g=>
    rw[ay]at h;simp only at h;cases he:dA ops s g with
    |none=>rw[he]at h;exact h.elim
    |some e=>
     rw[he]at h;simp only at h;have hw:Region.wanted o (yielded ops a.tmps)=e:=by simp only[Region.wanted,ay];exact Bw af he
     have:=KU (P:=P) (Q:=Q) af o nI h (fun s1 a' w' bQ hs=>by subst hs;exact ct a' w' bQ);rw[hw];cases e with
     |true=>exact .inl this
     |false=>exact this
def W8{m:Bool}{ops:Array Oper}(eX:∀o∈ops.toList,∀d,o.dst=some d->S0.m<=d){fin:aj->Prop}{Q:Exit->Act->bb->Prop}(dL:∀s' a' w',Rel S0 w0 n s' a' w'->fin s'->Q .normal a' w') :
  ∀(fuel:Nat) (fr:Array Bool) (s:aj) (a:Act) (w:bb),Rel S0 w0 n s a w->Bx ops (xU P n m ops) fin fuel fr s->wpAny P .any ops Q fuel fr a w
 |0,_,s,a,w,af,h=>⟨h.1,dL s a w af h.2⟩
 |fuel+1,fr,s,a,w,af,h=>⟨fun a1=>dL s a w af (h.1 a1),fun i ah=>by obtain⟨s',aa,ab⟩:=h.2 i ah;exact zhi eX af aa (fun a' w' bQ=>W8 eX dL fuel _ s' a' w' bQ ab)⟩
def Rel.drawn(af:Rel S0 w0 n s a w):Rel S0 w0 n s a {w with drawn:=w.drawn+1}:=by have ad:∀b:Nat,({w with drawn:=w.drawn+1}:bb).heap[b]?=w.heap[b]?:=fun _=>rfl;exact⟨af.defers,af.size,af.below.drew _,af.lt,fun i=>(af.rep i).mono (fun b ad=>ad) (fun b _=>rfl) (fun b _=>rfl) (fun k _=>⟨rfl,fun h=>⟨h,rfl,rfl,rfl⟩,fun c ap=>ap⟩) (fun _ _ _ cs _ _ hs _=>⟨⟨cs,hs,rfl⟩,rfl⟩),af.inj,af.out,af.wf,af.n6⟩
def W9{m:Bool}{ops:Array Oper}{id:Nat}{Q:Exit->Act->bb->Prop}{K:aj->Prop}(hm:P.follows .mixedOrders=true)(aD:zE m ops=true)(eX:∀o∈ops.toList,∀d,o.dst=some d->S0.m<=d)
  (af:Rel S0 w0 n s a w)(h:iY P n m ops ops.toList s K)(dL:∀s' a' w',Rel S0 w0 n s' a' w'->K s'->Q .normal a' w'):(Code.region id ops true).wp P Q a w:=by
 obtain⟨s',HK,ak⟩:=WU ops.toList 0 s af.wf (fun j=>by simp) h;refine wp_region_any hm (W8 (m:=m) eX dL _ _ s a _ af.drawn ?_);have u3:∀{i:Nat} {o:Oper},ops[i]?=some o->∀d,o.dst=some d->d<cU:=by intro i o aB;have h:=aD;simp only[zE,b7]at h;exact PQ (hJ.1 h.1 o (by have:=BQ aB;simpa using this))
 have nJ:=aD;simp only[zE,b7]at nJ
 replace nJ:=nJ.2
 have iE:∀i,i<ops.size->((match ops[i]? with
   |some o=>o.after.toList.all fun e=>!Region.binds .any e ||decide (e.on<i)
   |none=>false)=true/\∀j,j<i->PO m ops (Region.before ops) i j=true):=by
  intro i ah;have:=hJ.1 nJ i (by simp[ah]);simp only[b7,hJ,List.mem_range]at this;exact⟨this.1,fun j ac=>this.2 j ac⟩
 refine Pu (wf:=c5) (indep:=fun j i=>∃bZ bI,ops[i]?=some bZ/\ops[j]?=some bI/\K1 m ops bZ bI=true/\bI.apart ops bZ=true)
  (fun i s s' hw h=>WS hw h) ?_ ?_ ?_ ak ops.size (List.range' 0 ops.toList.length) _ s (by simp) (by simp) ?_ ?_ ?_ af.wf HK
 ·rintro j i s s1 s2 ⟨bZ,bI,hB,dH,hm,nD⟩ hw aa ab;exact zgS (u3 hB) (u3 dH) hB dH hm nD hw aa ab
 ·intro i o aB e he ad;have:=(iE i (jb.1 aB).1).1;rw[aB]at this;have:=hJ.1 this e (by simpa using he);simpa[ad]using this
 ·intro j i fU ah;have:=(iE i ah).2 j fU;unfold PO at this;rw[gl]at this;rcases this with h|h
  ·exact .inl (PR ops i j h)
  ·split at h
   ·rename_i bZ bI hB dH;simp only[b7]at h;exact .inr ⟨bZ,bI,hB,dH,h.1,h.2⟩
   ·cases h
 ·intro i o aB al;have ar:=(jb.1 aB).1;simp[ar]at al
 ·exact PW
 ·intro i;simp only[Lh,l4,hv,cj,mX];constructor
  ·intro ah;exact⟨ah,by simp[ah]⟩
  ·intro ah;exact ah.1
end
end
section
variable [bn]
def BR(P:aM)(f g:FuncId):Prop:=
 tv P f/\∀(w:bb) (v:aI),v.oneCell'=true->bn.holds w->Calls P f #[v] w fun e w'=>∃b t,e=.returned (.func (.func g) #[] #[.pointer (some ⟨b,0,none⟩)])/\w.heap.size<=b/\w'.heap[b]?=some (.cells #[v] t (0,0))/\Below w.heap.size w w'
def HL(P:aM)(gd x:Prop×ae)(r:ae):Prop:=
 match jX gd.2,x with
 |some (g,[]),(q,.ptr i off)=>gd.1/\q/\∃bX,BR P g bX/\r=.df bX [.inr (i,off+1000000)]
 |_,_=>False
def ra(P:aM)(s:aj)(op:Op)(r:ae):Prop:=
 match op with
 |.call c=>match c.callee with
  |.value f=>match c.args.toList with
   |[x]=>HL P (aJ s f) (aJ s x) r
   |_=>False
  |_=>False
 |_=>False
def zH(P:aM)(s:aj)(e:Bool)(op:Op)(r:ae):Prop:=
 match e with
 |true=>∃kL,ra P s op kL/\r=.cond true kL
 |false=>r=.cond false (.x (.one (.bool false)))
def W_{P:aM}{s s':aj}(op:Op)(r:ae)(h:∀x∈op.operands,dY s s' x):ra P s' op r↔ra P s op r:=by
 cases op with
 |call c=>
  obtain⟨callee,⟨args⟩,ts⟩:=c;cases callee with
  |value f=>
   have aw:dY s s' f:=h f (by simp[Op.operands,Call.operands]);have bj:∀x∈args,dY s s' x:=fun x ai=>h x (by simp[Op.operands,Call.operands,ai])
   match args,bj with
   |[],_=>exact jB
   |[x],bj=>simp only[ra,dZ aw,dZ (bj x (by simp))]
   |_::_::_,_=>exact jB
  |_=>exact jB
 |_=>exact jB
def zhj{P:aM}{s s':aj}{e:Bool}(op:Op)(r:ae)(h:∀x∈op.operands,dY s s' x):zH P s' e op r↔zH P s e op r:=by
 cases e with
 |true=>simp only[zH,W_ _ _ h]
 |false=>exact jB
def wE(n:Nat)(ops:Array Oper)(o:Oper)(V:aj->ae->Prop)(u4:aj->Bool->ae->Prop)(s s':aj):Prop:=
 ∃d r,o.dst=some d/\d<n/\(s d).aR=false/\s'=put s d r/\match o.guard with
  |none=>V s r
  |some g=>∃e,dA ops s g=some e/\u4 s e r
def okV(P:aM)(o:Oper)(V:aj->ae->Prop)(u4:aj->Bool->ae->Prop):Prop:=
 ∀s s',(∀x∈o.op.operands,dY s s' x)->BA P s s' o.op->(∀r,V s' r↔V s r)/\∀e r,u4 s' e r↔u4 s e r
def Li(P:aM)(o:Oper):okV P o (fun s r=>gZ P s o.op r) (fun s e r=>mU P s e o.op r):=fun _ _ h al=>⟨fun r=>BB _ r h al,fun e r=>D6 _ r h al⟩
def zhk(P:aM)(o:Oper):okV P o (fun s r=>ra P s o.op r) (fun s e r=>zH P s e o.op r):=fun _ _ h _=>⟨fun r=>W_ _ r h,fun e r=>zhj _ r h⟩
def zhl{P:aM}{n:Nat}{ops:Array Oper}{bZ bI:Oper}{Lj Lk:aj->ae->Prop}{Ll Lm:aj->Bool->ae->Prop}{s s1 s2:aj}(mY:okV P bZ Lj Ll)(rb:okV P bI Lk Lm)(h3:∀d,bZ.dst=some d->d<cU)(fW:∀d,bI.dst=some d->d<cU)(nD:bZ.apart ops bI=true)(hw:c5 s)
  (ah:wE n ops bZ Lj Ll s s1)(ac:wE n ops bI Lk Lm s1 s2):∃cI,wE n ops bI Lk Lm s cI/\wE n ops bZ Lj Ll cI s2:=by
 obtain⟨j0,Hw,q0,d9,hB,rfl,xP⟩:=ah;obtain⟨bm,xQ,fg,fQ,dH,rfl,h4⟩:=ac;obtain⟨aa,ab,au⟩:=Oper.apart_spec nD;have bY:bm≠j0:=fun e=>ab j0 q0 (by rw[fg,e]);have qc:(s bm).aR=false:=by rw[eM hB,an bY]at dH;exact dH
 have Hx:(put s bm xQ j0).aR=false:=by rw[eM qc,an (pk bY)];exact hB
 have sg:∀(o:Oper) (d:Nat),d∉o.looksAt ops->∀x∈o.op.operands,x≠.tmp d:=by intro o d aA x ai e;subst e;exact aA (by simp only[Oper.looksAt,hg,xz];exact .inl ⟨.tmp d,by simpa using ai,rfl⟩)
 have BC:∀(o:Oper) (d:Nat) (g:Nat×Bool),d∉o.looksAt ops->o.guard=some g->∀bG,(ops[g.1]?).bind (·.dst)=some bG->bG≠d:=by intro o d g aA ay bG e2 e;subst e;refine aA ?_;simp only[Oper.looksAt,hg,ay,e2];exact .inr (by simp)
 refine⟨put s bm xQ,⟨bm,xQ,fg,fQ,qc,rfl,?_⟩,⟨j0,Hw,q0,d9,Hx,?_,?_⟩⟩
 ·have gb:∀x∈bI.op.operands,dY s (put s j0 Hw) x:=fun x ai=>pj hw hB (sg bI j0 (aa j0 q0) x ai);cases ay:bI.guard with
  |none=>rw[ay]at h4;exact((rb _ _ gb (zB (xO hB (h3 j0 q0)) _)).1 _).1 h4
  |some g=>rw[ay]at h4;obtain⟨e,he,aF⟩:=h4;refine⟨e,?_,((rb _ _ gb (zB (xO hB (h3 j0 q0)) _)).2 _ _).1 aF⟩;rw[<-he];exact(D7 (fun bG e2=>by rw[eM hB,an (BC bI j0 g (aa j0 q0) ay bG e2)])).symm
 ·funext k;rw[eM dH,eM hB,eM Hx,eM qc];by_cases kF:k=bm
  ·subst kF;simp[bY]
  ·by_cases eK:k=j0
   ·subst eK;simp[kF]
   ·simp[kF,eK]
 ·have gb:∀x∈bZ.op.operands,dY s (put s bm xQ) x:=fun x ai=>pj hw qc (sg bZ bm (au bm fg) x ai);cases ay:bZ.guard with
  |none=>rw[ay]at xP;exact((mY _ _ gb (zB (xO qc (fW bm fg)) _)).1 _).2 xP
  |some g=>rw[ay]at xP;obtain⟨e,he,aF⟩:=xP;refine⟨e,?_,((mY _ _ gb (zB (xO qc (fW bm fg)) _)).2 _ _).2 aF⟩;rw[<-he];exact D7 (fun bG e2=>by rw[eM qc,an (BC bZ bm g (au bm fg) ay bG e2)])
def W'{d:Nat}(h:d<cU):¬(cU=d):=by unfold cU at*;omega
def Xa{d:Nat}(h:d<cU)(i off:Nat):ch i off≠d:=by unfold ch;unfold cU at h;omega
def zI(o:Oper):Bool:=match o.op with
 |.move _=>o.guard.isNone
 |_=>false
def Xb{o:Oper}(h:zI o=true):∃x,o.op=.move x/\o.guard=none:=by
 unfold zI at h;split at h
 ·rename_i x e;exact⟨x,e,by simpa using h⟩
 ·cases h
def BS(P:aM)(o:Oper)(s s':aj):Prop:=
 ∃t cN x p i off d,o.op=.store t cN x/\o.guard=none/\o.dst=none/\lJ s (aJ s cN) (aJ s x)=some (p,i,off,d)/\iU P t=true/\p/\(gn P s t i off d).1/\s'=(gn P s t i off d).2
def HM(P:aM)(n:Nat)(ops:Array Oper)(o:Oper)(s s':aj):Prop:=iD P n ops o s s'/\mh P s o.op/\zI o=true
def PX{s:aj}{i off m:Nat}:∀{v:ae},gr s v=true->v.ns i off m=false
 |.x _,_=>rfl
 |.elem _,_=>rfl
 |.ptr _ _,_=>rfl
 |.alias _,_=>rfl
 |.cond _ v,h=>PX (v:=v) h
def HN{P:aM}{s:aj}{t:aP}{i off d:Nat}(h:(gn P s t i off d).1):∃(B:List ag->ae) (cs:List ag),(B=.box\/∃b,B=.cR b)/\s i=B cs/\tk P t=.one/\(s d).tight=true/\(s (ch i off)).free=true/\off<cs.length /\
  ∀k,(gn P s t i off d).2 k=if k=i then B (cs.set off .any)else if k=ch i off then .link i off d else dc s i off 1 k:=by
 unfold gn at h⊢;split at h
 ·rename_i cs ak hs;obtain⟨aa,ab,au⟩:=h;simp only[ak,hs];exact⟨.box,cs,.inl rfl,rfl,trivial,ab,au,aa,fun k=>rfl⟩
 ·rename_i b cs ak hs;obtain⟨aa,ab,au⟩:=h;simp only[ak,hs];exact⟨.cR b,cs,.inr ⟨b,rfl⟩,rfl,trivial,ab,au,aa,fun k=>rfl⟩
 ·exact h.elim
def Xc{P:aM}{s:aj}{t:aP}{i off d:Nat}{cs:List ag}(aa:(s i).gk=some cs)(ab:tk P t=.one)(au:(s d).tight=true)(aN:(s (ch i off)).free=true)(bE:off<cs.length):(gn P s t i off d).1:=by
 unfold gn;cases hs:s i<;>rw[hs]at aa<;>first|(cases aa;done)|skip
 ·rename_i c;obtain rfl:c=cs:=by simpa[ae.gk]using aa
  simp only[ab];exact⟨bE,au,aN⟩
 ·rename_i b c;obtain rfl:c=cs:=by simpa[ae.gk]using aa
  simp only[ab];exact⟨bE,au,aN⟩
def Xd{P:aM}{s:aj}{t:aP}{i off d:Nat}(h:(gn P s t i off d).1){x:aW}:(gr s (look s x)=true\/gr (gn P s t i off d).2 (look (gn P s t i off d).2 x)=true) ->
  look (gn P s t i off d).2 x=look s x/\gr s (look s x)=true/\gr (gn P s t i off d).2 (look (gn P s t i off d).2 x)=true:=by
 obtain⟨B,cs,bk,hs,_,_,lK,_,bF⟩:=HN h;generalize (gn P s t i off d).2=S at bF;have xr:∀k,(∃c,S k=.box c)↔∃c,s k=.box c:=by
  intro k;rw[bF];by_cases ak:k=i
  ·subst ak;rw[av rfl,hs];rcases bk with rfl|⟨_,rfl⟩<;>simp
  ·rw[an ak];by_cases al:k=ch i off
   ·subst al;rw[av rfl];constructor
    ·rintro⟨c,h⟩;cases h
    ·rintro⟨c,h⟩;rw[h]at lK;cases lK
   ·rw[an al];constructor
    ·rintro⟨c,h⟩;rcases ib s i off 1 k with e|e<;>rw[e]at h
     ·exact⟨c,h⟩
     ·cases h
    ·rintro⟨c,h⟩;exact⟨c,by rw[ku (by rw[h];rfl)];exact h⟩
 have Ln:∀k,(∃c bs es,S k=.mp c bs es)↔∃c bs es,s k=.mp c bs es:=by
  intro k;rw[bF];by_cases ak:k=i
  ·subst ak;rw[av rfl,hs];rcases bk with rfl|⟨_,rfl⟩<;>simp
  ·rw[an ak];by_cases al:k=ch i off
   ·subst al;rw[av rfl];constructor
    ·rintro⟨c,_,_,h⟩;cases h
    ·rintro⟨c,_,_,h⟩;rw[h]at lK;cases lK
   ·rw[an al];constructor
    ·rintro⟨c,bs,es,h⟩;rcases ib s i off 1 k with e|e<;>rw[e]at h
     ·exact⟨c,bs,es,h⟩
     ·cases h
    ·rintro⟨c,bs,es,h⟩;exact⟨c,bs,es,by rw[ku (by rw[h];rfl)];exact h⟩
 have pg:∀v:ae,gr S v=gr s v:=by
  intro v;induction v with
  |alias k=>have:=Ln k;simp only[gr];cases ax:S k<;>cases aK:s k<;>first|rfl|(rw[ax,aK]at this;simp at this)
  |ptr k o=>have:=xr k;simp only[gr];cases ax:S k<;>cases aK:s k<;>first|rfl|(rw[ax,aK]at this;simp at this)
  |cond e v ba=>exact ba
  |_=>rfl
 cases x with
 |tmp k=>
  have ak:look S (.tmp k)=look s (.tmp k)\/(gr s (look s (.tmp k))=false/\gr s (look S (.tmp k))=false):=by
   simp only[look,bF];by_cases eK:k=i
   ·subst eK;left;rw[av rfl,hs];rcases bk with rfl|⟨_,rfl⟩<;>rfl
   ·rw[an eK];by_cases al:k=ch i off
    ·subst al;rw[av rfl];right;refine⟨?_,rfl⟩;cases e:s (ch i off)<;>rw[e]at lK<;>first|rfl|cases lK
    ·rw[an al];unfold dc;cases BT:(s k).ns i off 1 with
     |false=>exact .inl rfl
     |true=>
      right;refine⟨?_,rfl⟩;cases ad:gr s (s k)with
      |true=>rw[PX ad]at BT;cases BT
      |false=>have cl:=ae.Ut BT;cases e:s k<;>rw[e]at ad cl<;>first|exact ad|cases cl
  rintro (ad|ad)
  ·rcases ak with e|⟨e,_⟩
   ·exact⟨e,ad,by rw[e,pg];exact ad⟩
   ·rw[e]at ad;cases ad
  ·rw[pg]at ad;rcases ak with e|⟨_,e⟩
   ·rw[e]at ad;exact⟨e,ad,by rw[e,pg];exact ad⟩
   ·rw[e]at ad;cases ad
 |_=>
  rintro (ad|ad)
  ·exact⟨rfl,ad,by rw[pg];exact ad⟩
  ·rw[pg]at ad;exact⟨rfl,ad,by rw[pg];exact ad⟩
def Xe{P:aM}{s:aj}{t:aP}{i off d bm:Nat}{r:ae}(h:(gn P s t i off d).1)(ac:(s bm).aR=false)(aA:d≠bm)(hm:bm<cU)(ao:∀i off m,r.ns i off m=false) :
  (gn P (put s bm r) t i off d).1/\((gn P s t i off d).2 bm).aR=false/\(gn P (put s bm r) t i off d).2=put (gn P s t i off d).2 bm r:=by
 obtain⟨B,cs,bk,hs,ak,lA,lK,ar,bF⟩:=HN h;have Xf:(s i).gk=some cs:=by rw[hs];rcases bk with rfl|⟨_,rfl⟩<;>rfl
 have cV:i≠bm:=by rintro rfl;rw[ae.o0 Xf]at ac;cases ac
 have HO:ch i off≠bm:=Xa hm i off;have am:∀k,put s bm r k=if k=bm then (match r.refs bm with|true=>.dead|false=>r)else s k:=eM ac
 have bx:(gn P (put s bm r) t i off d).1:=Xc (cs:=cs) (by rw[am,an cV];exact Xf) ak (by rw[am,an aA];exact lA) (by rw[am,an HO];exact lK) ar;obtain⟨zhm,cs',jh,cT,_,_,_,_,J3⟩:=HN bx;rw[am,an cV,hs]at cT;obtain⟨rfl,rfl⟩:zhm=B/\cs'=cs:=by
  rcases bk with rfl|⟨b,rfl⟩<;>rcases jh with rfl|⟨br,rfl⟩<;>first|(cases cT;done)|skip
  ·injection cT with cT;exact⟨rfl,cT.symm⟩
  ·injection cT with jC gD;exact⟨by rw[jC],gD.symm⟩
 have cl:((gn P s t i off d).2 bm).aR=false:=by
  rw[bF,an (pk cV),an (pk HO)];rcases ib s i off 1 bm with e|e<;>rw[e]
  ·exact ac
  ·rfl
 refine⟨bx,cl,?_⟩;funext k;rw[J3,eM cl,bF];by_cases eK:k=i
 ·subst eK;rw[av rfl,an cV,av rfl]
 ·rw[an eK,an eK];by_cases kG:k=ch i off
  ·subst kG;rw[av rfl,an HO,av rfl]
  ·rw[an kG,an kG];unfold dc;rw[am];by_cases kF:k=bm
   ·subst kF;rw[av rfl,av rfl];cases r.refs k with
    |true=>rfl
    |false=>simp only[ao]
   ·rw[an kF,an kF]
def Xg{P:aM}{s:aj}{x:aW}(ad:gr s (look s x)=true)(i off m:Nat):(aJ s x).2.ns i off m=false:=by
 unfold aJ;have:∀v:ae,gr s v=true->(iO v).2.ns i off m=false:=by
  intro v aF;cases v<;>first|(simp[gr]at aF;done)|skip
  ·rename_i bP;cases bP with
   |one c=>cases c<;>rfl
   |agg cs=>rfl
  ·rfl
  ·rfl
  ·rfl
  ·exact PX (s:=s) aF
 exact this _ ad
def zhn{P:aM}{n:Nat}{ops:Array Oper}{bZ bI:Oper}{s s1 s2:aj}(hw:c5 s)(si:∀d,bI.dst=some d->d<cU)(c_:∀d,bI.dst=some d->d∉bZ.looksAt ops)
  (ac:HM P n ops bI s s1)(ah:BS P bZ s1 s2):∃cI,BS P bZ s cI/\HM P n ops bI cI s2:=by
 obtain⟨⟨bm,r,fg,fQ,dH,rfl,aF⟩,ad,HP⟩:=ac;obtain⟨x,c4,ay⟩:=Xb HP;rw[ay,c4]at aF;obtain⟨Lo,ao⟩:(aJ s x).1/\r=(aJ s x).2:=aF;rw[c4]at ad;have pg:gr s (look s x)=true:=HF ad x (by simp[Op.operands]);obtain⟨t,cN,y,p,i,off,d,BU,q7,PY,al,aB,am,x2,rfl⟩:=ah;have gb:∀z∈bZ.op.operands,dY s (put s bm r) z:=fun z aZ=>pj hw dH (nF bZ bm (c_ bm fg) z aZ);have bj:=gb cN (by rw[BU];simp[Op.operands]);have aU:=gb y (by rw[BU];simp[Op.operands]);have PZ:put s bm r cU=s cU:=by rw[eM dH,an (W' (si bm fg))]
 have zho:lJ (put s bm r) (aJ (put s bm r) cN) (aJ (put s bm r) y)=lJ s (aJ s cN) (aJ s y):=by rw[dZ bj,dZ aU];unfold lJ;rw[PZ]
 rw[zho]at al;obtain⟨dr,q,ik,Xh,rfl⟩:=He al;have gY:put s bm r i=s i:=jZ bj (by rw[ik];simp[ae.refs]);have jx:put s bm r d=s d:=jZ aU (by rw[Xh];simp[ae.refs]);obtain⟨B,cs,bk,hs,ak,lA,lK,ar,_⟩:=HN x2;have f':put s bm r (ch i off)=s (ch i off):=xO dH (si bm fg) i off;have P0:(gn P s t i off d).1:=Xc (cs:=cs) (by rw[<-gY,hs];rcases bk with rfl|⟨_,rfl⟩<;>rfl) ak (by rw[<-jx];exact lA) (by rw[<-f'];exact lK) ar;have aA:d≠bm:=by rintro rfl;have:=ae.Bi lA;rw[jx,dH]at this;cases this
 obtain⟨_,ab,au⟩:=Xe (r:=r) P0 dH aA (si bm fg) (fun i off m=>by rw[ao];exact Xg (P:=P) pg i off m);obtain⟨ax,_,cd⟩:=Xd P0 (.inl pg);refine⟨_,⟨t,cN,y,_,i,off,d,BU,q7,PY,al,aB,am,P0,rfl⟩,⟨bm,r,fg,fQ,ab,au,?_⟩,?_,HP⟩
 ·rw[ay,c4];have e:aJ (gn P s t i off d).2 x=aJ s x:=by unfold aJ;rw[ax]
  exact⟨by show (aJ _ x).1;rw[e];exact Lo,by show r=(aJ _ x).2;rw[e];exact ao⟩
 ·rw[c4];refine⟨?_,trivial⟩;show (gr _ (look _ x)&&true)=true
  rw[cd];rfl
def zhp{P:aM}{n:Nat}{ops:Array Oper}{bZ bI:Oper}{s s1 s2:aj}(hw:c5 s)(si:∀d,bI.dst=some d->d<cU)(c_:∀d,bI.dst=some d->d∉bZ.looksAt ops)
  (ah:BS P bZ s s1)(ac:HM P n ops bI s1 s2):∃cI,HM P n ops bI s cI/\BS P bZ cI s2:=by
 obtain⟨t,cN,y,p,i,off,d,BU,q7,PY,al,aB,am,x2,rfl⟩:=ah;obtain⟨⟨bm,r,fg,fQ,ou,rfl,aF⟩,ad,HP⟩:=ac;obtain⟨x,c4,ay⟩:=Xb HP;rw[ay,c4]at aF;obtain⟨Lo,ao⟩:(aJ (gn P s t i off d).2 x).1/\r=(aJ (gn P s t i off d).2 x).2:=aF;rw[c4]at ad;have pg:gr (gn P s t i off d).2 (look (gn P s t i off d).2 x)=true:=HF ad x (by simp[Op.operands]);obtain⟨ax,aK,_⟩:=Xd x2 (.inr pg);have e:aJ (gn P s t i off d).2 x=aJ s x:=by unfold aJ;rw[ax]
 rw[e]at Lo ao;obtain⟨B,cs,bk,hs,ak,lA,lK,ar,bF⟩:=HN x2;obtain⟨dr,q,ik,Xh,rfl⟩:=He al;have hm:=si bm fg;have cV:i≠bm:=by rintro rfl;rw[bF,av rfl]at ou;rcases bk with rfl|⟨_,rfl⟩<;>cases ou
 have HO:ch i off≠bm:=Xa hm i off;have dH:(s bm).aR=false:=by
  rw[bF,an (pk cV),an (pk HO)]at ou;cases ai:(s bm).aR with
  |false=>rfl
  |true=>rw[ku ai,ai]at ou;cases ou
 have aA:d≠bm:=by rintro rfl;have:=ae.Bi lA;rw[dH]at this;cases this
 obtain⟨aa,_,au⟩:=Xe (r:=r) x2 dH aA hm (fun i off m=>by rw[ao];exact Xg (P:=P) aK i off m);have gb:∀z∈bZ.op.operands,dY s (put s bm r) z:=fun z aZ=>pj hw dH (nF bZ bm (c_ bm fg) z aZ);have bj:=gb cN (by rw[BU];simp[Op.operands]);have aU:=gb y (by rw[BU];simp[Op.operands]);have PZ:put s bm r cU=s cU:=by rw[eM dH,an (W' hm)]
 refine⟨put s bm r,⟨⟨bm,r,fg,fQ,dH,rfl,?_⟩,?_,HP⟩,t,cN,y,_,i,off,d,BU,q7,PY,?_,aB,am,aa,au.symm⟩
 ·rw[ay,c4];exact⟨Lo,ao⟩
 ·rw[c4];refine⟨?_,trivial⟩;show (gr _ (look _ x)&&true)=true
  rw[aK];rfl
 ·rw[dZ bj,dZ aU];rw[<-al];unfold lJ;rw[PZ]
def zJ(fl:List Nat):List Bool:=fl.map fun k=>k==6 ||k==7 ||k==8
def x3(fl:List Nat):List Bool:=fl.map fun k=>k==6 ||k==7
def u5(P:aM)(n:Nat)(fl:List Nat)(ops:Array Oper)(o:Oper)(k:Nat)(s s':aj):Prop:=
 match k with
 |0=>gq P n ops o s (fun t=>t=s')
 |1=>iD P n ops o s s'
 |4=>tK P n (zJ fl) ops o s s'
 |5=>BS P o s s'
 |6=>HM P n ops o s s'
 |7=>iD P n ops o s s'/\mh P s o.op
 |8=>iD P n ops o s s'/\sk s o
 |9=>tK P n (x3 fl) ops o s s'
 |_=>wE n ops o (fun s r=>ra P s o.op r) (fun s e r=>zH P s e o.op r) s s'
def Ef(P:aM)(n:Nat)(fl:List Nat)(ops:Array Oper)(i:Nat)(s s':aj):Prop:=
 ∃o,ops[i]?=some o/\u5 P n fl ops o (fl.getD i 0) s s'
def Eg(s:aj)(o:Oper):Prop:=match o.op with
 |.store _ a x=>o.guard=none/\o.dst=none/\(lJ s (aJ s a) (aJ s x)).isSome=true
 |_=>False
def zhq{P:aM}{n:Nat}{ops:Array Oper}{o:Oper}{s:aj}{K:aj->Prop}(al:Eg s o)(h:gq P n ops o s K):∃s',BS P o s s'/\K s':=by
 unfold Eg at al;split at al
 ·rename_i t a x c4;obtain⟨ay,aA,ak⟩:=al;obtain⟨⟨p,i,off,d⟩,e⟩:=v8.1 ak;unfold gq at h;rw[ay,aA,c4]at h;simp only[gg,e]at h;exact⟨_,⟨t,a,x,p,i,off,d,c4,ay,aA,e,h.1,h.2.1,h.2.2.1,rfl⟩,h.2.2.2⟩
 ·exact al.elim
def Xi{P:aM}{n:Nat}{ops:Array Oper}{o:Oper}{s s':aj}(h:BS P o s s'):gq P n ops o s (fun t=>t=s'):=by obtain⟨t,a,x,p,i,off,d,c4,ay,aA,e,aa,ab,au,rfl⟩:=h;unfold gq;rw[ay,aA,c4];simp only[gg,e];exact⟨aa,ab,au,trivial⟩
def x4(P:aM)(n:Nat)(ops:Array Oper)(o:Oper)(s:aj)(K:aj->Prop):Prop:=
 match o.dst with
 |none=>False
 |some d=>d<n/\(s d).aR=false/\match o.guard with
  |none=>∃r,ra P s o.op r/\K (put s d r)
  |some g=>match dA ops s g with
   |some true=>∃r,ra P s o.op r/\K (put s d (.cond true r))
   |some false=>K (put s d (.cond false (.x (.one (.bool false)))))
   |none=>False
def P1{P:aM}{n:Nat}{ops:Array Oper}{o:Oper}{s:aj}{K:aj->Prop}(h:x4 P n ops o s K):∃s',wE n ops o (fun s r=>ra P s o.op r) (fun s e r=>zH P s e o.op r) s s'/\K s':=by
 unfold x4 at h;split at h
 ·exact h.elim
 ·rename_i d aA;obtain⟨aX,aB,h⟩:=h;cases ay:o.guard with
  |none=>rw[ay]at h;obtain⟨r,aa,ab⟩:=h;exact⟨_,⟨d,r,aA,aX,aB,rfl,by rw[ay];exact aa⟩,ab⟩
  |some g=>
   rw[ay]at h;simp only at h;split at h
   ·rename_i e;obtain⟨r,aa,ab⟩:=h;exact⟨_,⟨d,_,aA,aX,aB,rfl,by rw[ay];exact⟨true,e,r,aa,rfl⟩⟩,ab⟩
   ·rename_i e;exact⟨_,⟨d,_,aA,aX,aB,rfl,by rw[ay];exact⟨false,e,rfl⟩⟩,h⟩
   ·exact h.elim
def e3(P:aM)(n:Nat)(fl:List Nat)(ops:Array Oper):List Nat->List Oper->aj->(aj->Prop)->Prop
 |_,[],s,K=>K s
 |b6,o::r,s,K=>match b6.headD 0 with
  |0=>gq P n ops o s (fun s'=>e3 P n fl ops b6.tail r s' K)
  |1=>dU P n ops o s (fun s'=>e3 P n fl ops b6.tail r s' K)
  |4=>xW o=true/\zG s (zJ fl) ops o/\gq P n ops o s (fun s'=>e3 P n fl ops b6.tail r s' K)
  |5=>Eg s o/\gq P n ops o s (fun s'=>e3 P n fl ops b6.tail r s' K)
  |6=>zI o=true/\mh P s o.op/\dU P n ops o s (fun s'=>e3 P n fl ops b6.tail r s' K)
  |7=>mh P s o.op/\dU P n ops o s (fun s'=>e3 P n fl ops b6.tail r s' K)
  |8=>sk s o/\dU P n ops o s (fun s'=>e3 P n fl ops b6.tail r s' K)
  |9=>xW o=true/\zG s (x3 fl) ops o/\gq P n ops o s (fun s'=>e3 P n fl ops b6.tail r s' K)
  |_=>x4 P n ops o s (fun s'=>e3 P n fl ops b6.tail r s' K)
def Lp{P:aM}{s:aj}(hw:c5 s){op:Op}{r:ae}(h:ra P s op r):(∀j,r.refs j=true->(s j).aR=true)/\r.aR=false:=by
 unfold ra at h;split at h
 ·split at h
  ·split at h
   ·rename_i x _;unfold HL at h;split at h
    ·rename_i ax aK;obtain⟨_,_,bX,_,rfl⟩:=h;refine⟨fun j ac=>uT hw x ?_,rfl⟩;rw[aK];simpa[ae.refs,l5]using ac
    ·exact h.elim
   ·exact h.elim
  ·exact h.elim
 ·exact h.elim
def zhr{P:aM}{n:Nat}{ops:Array Oper}{o:Oper}{s s':aj}(hw:c5 s)(h:wE n ops o (fun s r=>ra P s o.op r) (fun s e r=>zH P s e o.op r) s s'):c5 s':=by
 obtain⟨d,r,_,_,_,rfl,h⟩:=h;refine fT hw (fun j ac=>?_);split at h
 ·exact(Lp hw h).1 j ac
 ·obtain⟨e,_,h⟩:=h;unfold zH at h;split at h
  ·obtain⟨kL,aa,rfl⟩:=h;exact(Lp hw aa).1 j ac
  ·subst h;cases ac
def P2{P:aM}{n:Nat}{fl:List Nat}{ops:Array Oper}{o:Oper}{k:Nat}{s s':aj}(hw:c5 s)(h:u5 P n fl ops o k s s'):c5 s':=by
 have bj:gq P n ops o s (fun t=>t=s')->c5 s':=by intro h;obtain⟨s1,_,ab,au⟩:=K0 hw h;rw[<-ab];exact au
 unfold u5 at h;split at h
 ·exact bj h
 ·exact D9 hw h
 ·exact bj (Lf h)
 ·exact bj (Xi h)
 ·exact D9 hw h.1
 ·exact D9 hw h.1
 ·exact D9 hw h.1
 ·exact bj (Lf h)
 ·exact zhr hw h
section
variable {P:aM}{S0:Env}{w0 w:bb}{n:Nat}{s:aj}{a:Act}{ops:Array Oper}{fl:List Nat}
def P3{K:aj->Prop}:∀(l:List Oper) (b6:List Nat) (k:Nat) (s:aj),c5 s->(∀j o,l[j]?=some o->ops[k+j]?=some o)->(∀j,b6[j]?=fl[k+j]?)->e3 P n fl ops b6 l s K ->
  ∃s',wy (Ef P n fl ops) (List.range' k l.length) s s'/\K s'
 |[],_,_,s,_,_,_,h=>⟨s,rfl,by simpa[e3]using h⟩
 |o::l,b6,k,s,hw,al,aw,h=>by
  have a1:ops[k]?=some o:=by simpa using al 0 o rfl
  have p3:∀j o,l[j]?=some o->ops[(k+1)+j]?=some o:=fun j o aB=>by have:=al (j+1) o (by simpa using aB);simpa[rN,Nat.add_comm 1 j]using this
  have zhs:∀j,b6.tail[j]?=fl[(k+1)+j]?:=fun j=>by have:=aw (j+1);simpa[rN,Nat.add_comm 1 j]using this
  have zht:b6.headD 0=fl.getD k 0:=by have:=aw 0;rw[xg]at this;rw[lF,<-this];cases b6<;>rfl
  simp only[e3,zht]at h;have:∃s1,u5 P n fl ops o (fl.getD k 0) s s1/\e3 P n fl ops b6.tail l s1 K:=by
   generalize fl.getD k 0=m at h
   match m,h with
   |0,h=>obtain⟨s1,aa,ab,_⟩:=K0 hw h;exact⟨s1,aa,ab⟩
   |1,h=>obtain⟨s1,aa,ab⟩:=HB h;exact⟨s1,aa,ab⟩
   |2,h=>obtain⟨s1,aa,ab⟩:=P1 h;exact⟨s1,aa,ab⟩
   |3,h=>obtain⟨s1,aa,ab⟩:=P1 h;exact⟨s1,aa,ab⟩
   |4,h=>obtain⟨s1,aa,ab⟩:=W5 h.1 h.2.1 h.2.2;exact⟨s1,aa,ab⟩
   |5,h=>obtain⟨s1,aa,ab⟩:=zhq h.1 h.2;exact⟨s1,aa,ab⟩
   |6,h=>obtain⟨s1,aa,ab⟩:=HB h.2.2;exact⟨s1,⟨aa,h.2.1,h.1⟩,ab⟩
   |7,h=>obtain⟨s1,aa,ab⟩:=HB h.2;exact⟨s1,⟨aa,h.1⟩,ab⟩
   |8,h=>obtain⟨s1,aa,ab⟩:=HB h.2;exact⟨s1,⟨aa,h.1⟩,ab⟩
   |9,h=>obtain⟨s1,aa,ab⟩:=W5 h.1 h.2.1 h.2.2;exact⟨s1,aa,ab⟩
   |m+10,h=>obtain⟨s1,aa,ab⟩:=P1 h;exact⟨s1,aa,ab⟩
  obtain⟨s1,aa,ab⟩:=this;obtain⟨s',au,aN⟩:=P3 l b6.tail (k+1) s1 (P2 hw aa) p3 zhs ab;exact⟨s',⟨s1,⟨o,a1,aa⟩,au⟩,aN⟩
def Eh(k:Nat):Bool:=k==1 ||k==2 ||k==6 ||k==7 ||k==8
def x5(mY rb:Nat):Bool:=(Eh mY&&Eh rb) ||((mY==4 ||mY==5)&&rb==6) ||((rb==4 ||rb==5)&&mY==6) ||(mY==4&&rb==7) ||(rb==4&&mY==7) ||(mY==4&&rb==8) ||(rb==4&&mY==8) ||(mY==9&&(rb==6 ||rb==7)) ||(rb==9&&(mY==6 ||mY==7))
def HQ(fl:List Nat)(ops:Array Oper)(b:Array Nat)(i j:Nat):Bool:=
 (b.getD i 0).testBit j ||(x5 (fl.getD i 0) (fl.getD j 0) &&
 match ops[i]?,ops[j]? with
 |some bZ,some bI=>bI.apart ops bZ
 |_,_=>false)
def wF(fl:List Nat)(ops:Array Oper):Bool:=
 let b:=Region.before ops
 ops.toList.all K2&&(List.range ops.size).all fun i=>
  (match ops[i]? with
   |some o=>o.after.toList.all fun e=>!Region.binds .any e ||decide (e.on<i)
   |none=>false) &&
  (List.range i).all fun j=>HQ fl ops b i j
def Ei{i:Nat}(h:fl.getD i 0=6\/fl.getD i 0=7\/fl.getD i 0=8):(zJ fl)[i]?=some true:=by
 rw[lF]at h;unfold zJ;rw[eZ];cases e:fl[i]? with
 |none=>rw[e]at h;rcases h with h|h|h<;>cases h
 |some k=>rw[e]at h;simp at h;rcases h with h|h|h<;>simp[h]
def Xj{i:Nat}(h:fl.getD i 0=6\/fl.getD i 0=7):(x3 fl)[i]?=some true:=by
 rw[lF]at h;unfold x3;rw[eZ];cases e:fl[i]? with
 |none=>rw[e]at h;rcases h with h|h<;>cases h
 |some k=>rw[e]at h;simp at h;rcases h with h|h<;>simp[h]
def Xk{i j:Nat}{bZ bI:Oper}{s s1 s2:aj}(ah:ops[i]?=some bZ)(ac:ops[j]?=some bI)(hm:x5 (fl.getD i 0) (fl.getD j 0)=true)(BM:∀d,bZ.dst=some d->d<cU)(si:∀d,bI.dst=some d->d<cU)(nD:bI.apart ops bZ=true)(hw:c5 s)
  (aa:u5 P n fl ops bI (fl.getD j 0) s s1)(ab:u5 P n fl ops bZ (fl.getD i 0) s1 s2):∃cI,u5 P n fl ops bZ (fl.getD i 0) s cI/\u5 P n fl ops bI (fl.getD j 0) cI s2:=by
 obtain⟨c_,a2,a3⟩:=Oper.apart_spec nD;have q9:∀d,bZ.dst=some d->bI.dst≠some d:=fun d h bx=>a2 d bx h;unfold x5 at hm;rw[gl,gl,gl,gl,gl,gl,gl,gl]at hm;rcases hm with (((((((hm|hm)|hm)|hm)|hm)|hm)|hm)|hm)|hm
 ·rw[b7]at hm;obtain⟨ci,q_⟩:=hm;have look:∀{m:Nat} {o:Oper} {k:Nat},ops[m]?=some o->Eh k=true->∃V u4,okV P o V u4/\(∀t t',u5 P n fl ops o k t t'->wE n ops o V u4 t t'/\((k=6\/k=7->mh P t o.op)/\(k=6->zI o=true)/\(k=8->sk t o)))/\(∀t t',wE n ops o V u4 t t'->((k=6\/k=7->mh P t o.op)/\(k=6->zI o=true)/\(k=8->sk t o))->u5 P n fl ops o k t t'):=by
   intro m o k _ ak;unfold Eh at ak;simp only[gl,fc]at ak;rcases ak with (((rfl|rfl)|rfl)|rfl)|rfl
   ·exact⟨_,_,Li P o,fun t t' h=>⟨h,(fun h=>by rcases h with h|h<;>cases h),(fun h=>by cases h),(fun h=>by cases h)⟩,fun t t' h _=>h⟩
   ·exact⟨_,_,zhk P o,fun t t' h=>⟨h,(fun h=>by rcases h with h|h<;>cases h),(fun h=>by cases h),(fun h=>by cases h)⟩,fun t t' h _=>h⟩
   ·exact⟨_,_,Li P o,fun t t' h=>⟨h.1,fun _=>h.2.1,fun _=>h.2.2,(fun h=>by cases h)⟩,fun t t' h ad=>⟨h,ad.1 (.inl rfl),ad.2.1 rfl⟩⟩
   ·exact⟨_,_,Li P o,fun t t' h=>⟨h.1,(fun _=>h.2),(fun h=>by cases h),(fun h=>by cases h)⟩,fun t t' h ad=>⟨h,ad.1 (.inr rfl)⟩⟩
   ·exact⟨_,_,Li P o,fun t t' h=>⟨h.1,(fun h=>by rcases h with h|h<;>cases h),(fun h=>by cases h),fun _=>h.2⟩,fun t t' h ad=>⟨h,ad.2.2 rfl⟩⟩
  obtain⟨Lj,Ll,zhu,zhv,zhw⟩:=look ah ci;obtain⟨Lk,Lm,zhx,Lq,zhy⟩:=look ac q_;obtain⟨g1,dr⟩:=Lq _ _ aa;obtain⟨g2,e4⟩:=zhv _ _ ab;obtain⟨cI,aE,aQ⟩:=zhl zhx zhu si BM nD hw g1 g2;have sg:∀{t t':aj} {o di:Oper} {V:aj->ae->Prop} {u4:aj->Bool->ae->Prop},c5 t->wE n ops o V u4 t t'->(∀d,o.dst=some d->d∉di.looksAt ops)->∀x∈di.op.operands,dY t t' x:=by rintro t t' o di V u4 HC ⟨d,r,aA,hdn,cl,rfl,_⟩ bj x ai;exact pj (r:=r) HC cl (nF di d (bj d aA) x ai)
  have D2:∀{t t':aj} {o:Oper},(∀x∈o.op.operands,dY t t' x)->(sk t o↔sk t' o):=by
   intro t t' o h;constructor
   ·rintro⟨k,e,z,xs,aa,ab,au⟩;exact⟨k,e,z,xs,aa,ab,by rw[(h (.tmp k) (by rw[aa];simp[Op.operands])).1];exact au⟩
   ·rintro⟨k,e,z,xs,aa,ab,au⟩;exact⟨k,e,z,xs,aa,ab,by rw[<-(h (.tmp k) (by rw[aa];simp[Op.operands])).1];exact au⟩
  exact⟨cI,zhw _ _ aE ⟨fun h=>(K8 (sg hw g1 c_)).1 (e4.1 h),e4.2.1,fun h=>(D2 (sg hw g1 c_)).2 (e4.2.2 h)⟩,zhy _ _ aQ ⟨fun h=>(K8 (sg hw aE a3)).2 (dr.1 h),dr.2.1,fun h=>(D2 (sg hw aE a3)).1 (dr.2.2 h)⟩⟩
 ·simp only[b7,gl,fc]at hm;obtain⟨zK,Xl⟩:=hm;have aw:=Ei (.inl Xl);rw[Xl]at aa⊢;obtain⟨bw,bA,cJ⟩:=aa;rcases zK with zK|zK<;>rw[zK]at ab⊢
  ·obtain⟨cI,aE,aQ,bf⟩:=Ld hw ac aw c_ a3 a2 bw bA ab;exact⟨cI,aE,aQ,bf,cJ⟩
  ·obtain⟨cI,aE,aQ⟩:=zhn hw si c_ ⟨bw,bA,cJ⟩ ab;exact⟨cI,aE,aQ⟩
 ·simp only[b7,gl,fc]at hm;obtain⟨zL,Xm⟩:=hm;have aw:=Ei (.inl Xm);rw[Xm]at ab⊢;obtain⟨bw,bA,cJ⟩:=ab;rcases zL with zL|zL<;>rw[zL]at aa⊢
  ·obtain⟨cI,aE,aQ,bf⟩:=Le hw ah aw a3 c_ q9 aa bw bA;exact⟨cI,⟨aE,aQ,cJ⟩,bf⟩
  ·obtain⟨cI,aE,aQ⟩:=zhp hw BM a3 aa ⟨bw,bA,cJ⟩;exact⟨cI,aE,aQ⟩
 ·simp only[b7,fc]at hm;obtain⟨zK,Lr⟩:=hm;have aw:=Ei (.inr (.inl Lr));rw[Lr]at aa⊢;rw[zK]at ab⊢;obtain⟨bw,bA⟩:=aa;obtain⟨cI,aE,aQ,bf⟩:=Ld hw ac aw c_ a3 a2 bw bA ab;exact⟨cI,aE,aQ,bf⟩
 ·simp only[b7,fc]at hm;obtain⟨zL,Xn⟩:=hm;have aw:=Ei (.inr (.inl Xn));rw[Xn]at ab⊢;rw[zL]at aa⊢;obtain⟨bw,bA⟩:=ab;obtain⟨cI,aE,aQ,bf⟩:=Le hw ah aw a3 c_ q9 aa bw bA;exact⟨cI,⟨aE,aQ⟩,bf⟩
 ·simp only[b7,fc]at hm;obtain⟨zK,Xo⟩:=hm;have aw:=Ei (.inr (.inr Xo));rw[Xo]at aa⊢;rw[zK]at ab⊢;obtain⟨bw,bA⟩:=aa;obtain⟨cI,aE,aQ,bf⟩:=zhf hw ac aw c_ a3 a2 bw bA ab;exact⟨cI,aE,aQ,bf⟩
 ·simp only[b7,fc]at hm;obtain⟨zL,Xp⟩:=hm;have aw:=Ei (.inr (.inr Xp));rw[Xp]at ab⊢;rw[zL]at aa⊢;obtain⟨bw,bA⟩:=ab;obtain⟨cI,aE,aQ,bf⟩:=zhg hw ah aw a3 c_ q9 aa bw bA;exact⟨cI,⟨aE,aQ⟩,bf⟩
 ·simp only[b7,gl,fc]at hm;obtain⟨zhz,gm⟩:=hm;have aw:=Xj gm;rw[zhz]at ab⊢;rcases gm with gm|gm<;>rw[gm]at aa⊢
  ·obtain⟨bw,bA,cJ⟩:=aa;obtain⟨cI,aE,aQ,bf⟩:=Ld hw ac aw c_ a3 a2 bw bA ab;exact⟨cI,aE,aQ,bf,cJ⟩
  ·obtain⟨bw,bA⟩:=aa;obtain⟨cI,aE,aQ,bf⟩:=Ld hw ac aw c_ a3 a2 bw bA ab;exact⟨cI,aE,aQ,bf⟩
 ·simp only[b7,gl,fc]at hm;obtain⟨zhA,e_⟩:=hm;have aw:=Xj e_;rw[zhA]at aa⊢;rcases e_ with e_|e_<;>rw[e_]at ab⊢
  ·obtain⟨bw,bA,cJ⟩:=ab;obtain⟨cI,aE,aQ,bf⟩:=Le hw ah aw a3 c_ q9 aa bw bA;exact⟨cI,⟨aE,aQ,cJ⟩,bf⟩
  ·obtain⟨bw,bA⟩:=ab;obtain⟨cI,aE,aQ,bf⟩:=Le hw ah aw a3 c_ q9 aa bw bA;exact⟨cI,⟨aE,aQ⟩,bf⟩
def zhB{s:aj}{K:aj->Prop}(aD:wF fl ops=true)(hw:c5 s)(h:e3 P n fl ops fl ops.toList s K):Bx ops (Ef P n fl ops) K ops.size (Array.replicate ops.size false) s:=by
 obtain⟨s',HK,ak⟩:=P3 (fl:=fl) ops.toList fl 0 s hw (fun j o aB=>by simpa using aB) (fun j=>by simp) h;have u3:∀{i:Nat} {o:Oper},ops[i]?=some o->∀d,o.dst=some d->d<cU:=by intro i o aB;have h:=aD;simp only[wF,b7]at h;exact PQ (hJ.1 h.1 o (by have:=BQ aB;simpa using this))
 have nJ:=aD;simp only[wF,b7]at nJ
 replace nJ:=nJ.2
 have iE:∀i,i<ops.size->((match ops[i]? with
   |some o=>o.after.toList.all fun e=>!Region.binds .any e ||decide (e.on<i)
   |none=>false)=true/\∀j,j<i->HQ fl ops (Region.before ops) i j=true):=by
  intro i ah;have:=hJ.1 nJ i (by simp[ah]);simp only[b7,hJ,List.mem_range]at this;exact⟨this.1,fun j ac=>this.2 j ac⟩
 refine Pu (wf:=c5) (indep:=fun j i=>∃bZ bI,ops[i]?=some bZ/\ops[j]?=some bI/\x5 (fl.getD i 0) (fl.getD j 0)=true/\bI.apart ops bZ=true)
  (fun i s s' hw h=>by obtain⟨o,_,h⟩:=h;exact P2 hw h) ?_ ?_ ?_ ak ops.size (List.range' 0 ops.toList.length) _ s (by simp) (by simp) ?_ ?_ ?_ hw HK
 ·rintro j i s s1 s2 ⟨bZ,bI,hB,dH,BV,nD⟩ hw ⟨gN,iW,aa⟩ ⟨e0,jD,ab⟩;rw[dH]at iW;injection iW with iW;subst iW
  rw[hB]at jD;injection jD with jD;subst jD
  obtain⟨cI,aE,aQ⟩:=Xk hB dH BV (u3 hB) (u3 dH) nD hw aa ab;exact⟨cI,⟨bZ,hB,aE⟩,⟨bI,dH,aQ⟩⟩
 ·intro i o aB e he ad;have:=(iE i (jb.1 aB).1).1;rw[aB]at this;have:=hJ.1 this e (by simpa using he);simpa[ad]using this
 ·intro j i fU ah;have:=(iE i ah).2 j fU;unfold HQ at this;rw[gl]at this;rcases this with h|h
  ·exact .inl (PR ops i j h)
  ·rw[b7]at h;obtain⟨f1,h⟩:=h;split at h
   ·rename_i bZ bI hB dH;exact .inr ⟨bZ,bI,hB,dH,f1,h⟩
   ·cases h
 ·intro i o aB al;have ar:=(jb.1 aB).1;simp[ar]at al
 ·exact PW
 ·intro i;simp only[Lh,l4,hv,cj,mX];constructor
  ·intro ah;exact⟨ah,by simp[ah]⟩
  ·intro ah;exact ah.1
def Xq(af:Rel S0 w0 n s a w)(o:Oper){d:Nat}{r:ae}(eS:o.dst=some d)(aA:S0.m<=d/\d<n)(h:ra P s o.op r){bT:Act->bb->Prop}{Q:Exit->Act->bb->Prop}
  (ct:∀a' w',Rel S0 w0 n (Ab.put s d r) a' w'->bT a' w'):o.wp P a w bT Q:=by
 obtain⟨dst,op,type,pos,after,guard⟩:=o;dsimp only at h eS;subst eS;have qS:=(Lp af.wf h).1;unfold ra at h;split at h
 ·rename_i c;obtain⟨callee,⟨args⟩,ts⟩:=c;dsimp only at h;split at h
  ·rename_i f;split at h
   ·rename_i x;unfold HL at h;split at h
    ·rename_i g q i off ax aK;obtain⟨am,bK,bX,⟨⟨fn,ix,fJ,r7⟩,hm⟩,rfl⟩:=h;have aw:=af.aJ f am;obtain⟨us,mP,nv⟩:=DP aw ax;obtain rfl:us=#[]:=Array.eq_empty_of_size_eq_zero (by simpa using nv.1);have ai:=af.aJ x (by rw[aK];exact bK);rw[aK]at ai;obtain⟨b,aF,ad⟩:=ai;have cP:(execOp a.eval ({dst:=some d,op:=.call {callee:=.value f,args:=⟨[x]⟩,argTypes:=ts},type:=type,pos:=pos,after:=after,guard:=guard}:Oper)).run P w=.ok (.enter g #[a.eval x]) w:=by
      simp only[execOp,resolve,mP,Deferred.ofValue,Sem.run_bind,Sem.run_pure,Result.andThen_ok,invoke,callFunc,run_program,ix,fJ,r7,pP,hy];simp
     unfold Oper.wp;rw[cP];simp only[Oper.upon];refine(hm w (a.eval x) (by rw[aF];rfl) (af.lt.AO af.below)).mono ?_;rintro e w' ⟨br,t,rfl,aa,ab,au⟩;refine ct _ _ (af.put aA (Kn au) qS ?_ (fun c ap=>by cases ap) (fun c ap=>by cases ap));refine⟨_,rfl,rfl,fun j c ac=>?_⟩;cases j with
     |succ j=>simp at ac
     |zero=>
      simp at ac;subst ac;refine⟨_,rfl,?_⟩;rw[s8,an (by simp),zc];refine⟨br,b,rfl,⟨.inr (.inl (jc af.below.size aa)),(jb.1 ab).1,fun k ak=>?_⟩,?_,ad⟩
      ·have:=((af.rep k).gU ak).2;omega
      ·rw[cell_of_row _ br 0 _ t (0,0) ab,aF];rfl
    ·exact h.elim
   ·exact h.elim
  ·exact h.elim
 ·exact h.elim
def Ls(af:Rel S0 w0 n s a w)(o:Oper)(nI:∀d,o.dst=some d->S0.m<=d){s':aj}(h:iD P n ops o s s'){bT:Act->bb->Prop}{Q:Exit->Act->bb->Prop}
  (ct:∀a' w',Rel S0 w0 n s' a' w'->bT a' w'):if Region.wanted o (yielded ops a.tmps)then o.wp P a w bT Q\/(o.asks P a w/\LetsOut Q)else bT (a.put o.dst undef) w:=by
 obtain⟨d,r,eS,aA,_,rfl,aF⟩:=h;cases ay:o.guard with
 |none=>rw[ay]at aF;rw[av (by simp[Region.wanted,ay])];exact .inl (W6 (P:=P) af o eS ⟨nI d eS,aA⟩ aF ct)
 |some g=>
  rw[ay]at aF;obtain⟨e,he,aF⟩:=aF;have hw:Region.wanted o (yielded ops a.tmps)=e:=by simp only[Region.wanted,ay];exact Bw af he
  have:=W7 (P:=P) (Q:=Q) af o eS ⟨nI d eS,aA⟩ aF ct;rw[hw];cases e with
  |true=>exact .inl this
  |false=>exact this
def Xr{i:Nat}{s':aj}(eX:∀o∈ops.toList,∀d,o.dst=some d->S0.m<=d)(af:Rel S0 w0 n s a w)(h:Ef P n fl ops i s s'){bT:Act->bb->Prop}{Q:Exit->Act->bb->Prop}
  (ct:∀a' w',Rel S0 w0 n s' a' w'->bT a' w'):wpOp P ops Q i bT a w:=by
 obtain⟨o,aB,h⟩:=h;have nI:=eX o (by have:=BQ aB;simpa using this);unfold wpOp;rw[aB];simp only;have bj:gq P n ops o s (fun t=>t=s')->if Region.wanted o (yielded ops a.tmps)then o.wp P a w bT Q\/(o.asks P a w/\LetsOut Q)else bT (a.put o.dst undef) w:=by
  intro h;unfold gq at h;cases ay:o.guard with
  |none=>rw[ay]at h;rw[av (by simp[Region.wanted,ay])];exact .inl (zy (P:=P) af o nI h (fun s1 a' w' bQ hs=>by subst hs;exact ct a' w' bQ))
  |some g=>
   rw[ay]at h;simp only at h;cases he:dA ops s g with
   |none=>rw[he]at h;exact h.elim
   |some e=>
    rw[he]at h;simp only at h;have hw:Region.wanted o (yielded ops a.tmps)=e:=by simp only[Region.wanted,ay];exact Bw af he
    have:=KU (P:=P) (Q:=Q) af o nI h (fun s1 a' w' bQ hs=>by subst hs;exact ct a' w' bQ);rw[hw];cases e with
    |true=>exact .inl this
    |false=>exact this
 unfold u5 at h;split at h
 ·exact bj h
 ·exact Ls af o nI h ct
 ·exact bj (Lf h)
 ·exact bj (Xi h)
 ·exact Ls af o nI h.1 ct
 ·exact Ls af o nI h.1 ct
 ·exact Ls af o nI h.1 ct
 ·exact bj (Lf h)
 ·obtain⟨d,r,eS,aA,cl,rfl,aF⟩:=h;cases ay:o.guard with
  |none=>rw[ay]at aF;rw[av (by simp[Region.wanted,ay])];exact .inl (Xq (P:=P) af o eS ⟨nI d eS,aA⟩ aF ct)
  |some g=>
   rw[ay]at aF;obtain⟨e,he,aF⟩:=aF;have hw:Region.wanted o (yielded ops a.tmps)=e:=by simp only[Region.wanted,ay];exact Bw af he
   rw[hw];cases e with
   |false=>have h1:r=.cond false (.x (.one (.bool false))):=aF;subst h1;simp only[pP,hy];rw[eS];exact ct _ _ (Hs (r:=.x (.one (.bool false))) af ⟨nI d eS,aA⟩ rfl (fun j ac=>by cases ac))
   |true=>
    obtain⟨kL,aF,rfl⟩:=aF;refine .inl (Xq (P:=P) af o eS ⟨nI d eS,aA⟩ aF (fun a' w' bQ=>?_));obtain⟨qS,DO⟩:=Lp af.wf aF;have DR:∀j,kL.refs j=true->j≠d:=by rintro j ac rfl;have:=qS j ac;rw[cl]at this;cases this
    have mZ:kL.refs d=false:=by
     cases h:kL.refs d with
     |false=>rfl
     |true=>exact absurd rfl (DR d h)
    have ax:Ab.put s d (.cond true kL)=fun k=>if k=d then .cond true (Ab.put s d kL d)else Ab.put s d kL k:=by
     funext k;by_cases ak:k=d
     ·subst ak;rw[av rfl,jR mZ,jR (show (ae.cond true kL).refs k=false from mZ)]
     ·rw[an ak];unfold Ab.put;cases (s d).aR<;>simp[ak]
    refine ct _ _ ?_;rw[ax];exact(bQ.Pr aA (by rw[jR mZ];exact DO) (fun i=>rfl))
def Xs(eX:∀o∈ops.toList,∀d,o.dst=some d->S0.m<=d){fin:aj->Prop}{Q:Exit->Act->bb->Prop}(dL:∀s' a' w',Rel S0 w0 n s' a' w'->fin s'->Q .normal a' w') :
  ∀(fuel:Nat) (fr:Array Bool) (s:aj) (a:Act) (w:bb),Rel S0 w0 n s a w->Bx ops (Ef P n fl ops) fin fuel fr s->wpAny P .any ops Q fuel fr a w
 |0,_,s,a,w,af,h=>⟨h.1,dL s a w af h.2⟩
 |fuel+1,fr,s,a,w,af,h=>⟨fun a1=>dL s a w af (h.1 a1),fun i ah=>by obtain⟨s',aa,ab⟩:=h.2 i ah;exact Xr eX af aa (fun a' w' bQ=>Xs eX dL fuel _ s' a' w' bQ ab)⟩
def zhC{id:Nat}{Q:Exit->Act->bb->Prop}{K:aj->Prop}(hm:P.follows .mixedOrders=true)(aD:wF fl ops=true)(eX:∀o∈ops.toList,∀d,o.dst=some d->S0.m<=d)
  (af:Rel S0 w0 n s a w)(h:e3 P n fl ops fl ops.toList s K)(dL:∀s' a' w',Rel S0 w0 n s' a' w'->K s'->Q .normal a' w'):(Code.region id ops true).wp P Q a w:=
 wp_region_any hm (Xs eX dL _ _ s a _ af.drawn (zhB aD af.wf h))
end
end
section
variable [bn]
section
variable {P:aM}{S0:Env}{w0 w:bb}{n:Nat}{s:aj}{a:Act}{ops:Array Oper}{fl:List Nat}
def Xt{l2:List Oper}{du:Exit->Act->bb->Prop}{K:aj->Prop}:∀(l:List Oper) (s:aj) (a:Act) (w:bb),(∀o∈l,∀d,o.dst=some d->S0.m<=d)->Rel S0 w0 n s a w->bR P n ops l s K ->
  (∀s' a' w',Rel S0 w0 n s' a' w'->K s'->wpList P ops du l2 a' w')->wpList P ops du (l++l2) a w:=by
 intro l;induction l with
 |nil=>intro s a w _ af h dL;exact dL s a w af h
 |cons o l ba=>
  intro s a w al af h dL;have dK:∀o∈l,∀d,o.dst=some d->S0.m<=d:=fun o aB=>al o (oc _ aB);have aB:=al o kH;simp only[bR,gq]at h;rw[List.cons_append];unfold wpList;cases ay:o.guard with
  |none=>
   rw[ay]at h;have hw:Region.wanted o (yielded ops a.tmps)=true:=by simp[Region.wanted,ay]
   rw[av hw];exact .inl (zy (P:=P) af o aB h (fun s' a' w' bQ ak=>ba s' a' w' dK bQ ak dL))
  |some g=>
   rw[ay]at h;simp only at h;cases aF:dA ops s g with
   |none=>rw[aF]at h;exact h.elim
   |some e=>
    rw[aF]at h;have hw:Region.wanted o (yielded ops a.tmps)=e:=by simp only[Region.wanted,ay];exact Bw af aF
    have:=KU (P:=P) (Q:=du) af o aB h (fun s' a' w' bQ ak=>ba s' a' w' dK bQ ak dL);rw[hw];cases e with
    |true=>exact .inl this
    |false=>exact this
def zhD(P:aM)(n:Nat)(ops:Array Oper)(o:Oper)(s:aj)(K:aj->Prop):Prop:=
 o.guard=none/\∃j g e z xs,s j=.own e z xs/\n<=g/\(s g).free=true/\∀v,gq P n ops o (r0 s j g v e z xs) K
def Ej(P:aM)(n:Nat)(ops:Array Oper)(o:Oper)(s:aj)(K:aj->Prop):Prop:=match o.op with
 |.call _=>VJ P n o s K
 |_=>zhD P n ops o s K
def Xu{o:Oper}{K:aj->Prop}(h:Ej P n ops o s K):o.guard=none:=by
 unfold Ej at h;split at h
 ·exact h.1
 ·exact h.1
def Xv(af:Rel S0 w0 n s a w)(o:Oper)(eX:∀d,o.dst=some d->S0.m<=d){K:aj->Prop}(h:Ej P n ops o s K){bT:Act->bb->Prop}{Q:Exit->Act->bb->Prop}
  (ct:∀s' a' w',Rel S0 w0 n s' a' w'->K s'->bT a' w'):o.wp P a w bT Q:=by
 unfold Ej at h;split at h
 ·exact zft af o eX h ct
 ·obtain⟨ay,j,g,e,z,xs,ac,aX,aw,h⟩:=h;have h:=h (aL a j);unfold gq at h;rw[ay]at h;exact zy (P:=P) (af.name ac aX aw) o eX h ct
def u6:List Oper->Option Oper
 |[]=>none
 |[o]=>some o
 |_::r=>u6 r
def Ek(P:aM)(n:Nat)(ops:Array Oper)(s:aj)(K:aj->Prop):Option Oper->Prop
 |some o=>Ej P n ops o s K
 |none=>False
def P4:∀{l:List Oper} {o:Oper},u6 l=some o->l=l.dropLast++[o]
 |[],o,h=>by cases h
 |[x],o,h=>by simp only[u6,b9]at h;subst h;rfl
 |x::y::r,o,h=>by have:=P4 (l:=y::r) (o:=o) h;rw[List.dropLast_cons_cons,List.cons_append,<-this]
def zhE{du:Exit->Act->bb->Prop}{K:aj->Prop}(eX:∀o∈ops.toList,∀d,o.dst=some d->S0.m<=d)(af:Rel S0 w0 n s a w)
  (h:bR P n ops ops.toList.dropLast s (fun s1=>Ek P n ops s1 K (u6 ops.toList)))(dL:∀s' a' w',Rel S0 w0 n s' a' w'->K s'->du .normal a' w'):wpList P ops du ops.toList a w:=by
 cases al:u6 ops.toList with
 |none=>
  rw[al]at h;have pX:ops.toList=[]:=by
   cases bv:ops.toList with
   |nil=>rfl
   |cons x r=>
    exfalso;rw[bv]at al;clear h bv;induction r generalizing x with
    |nil=>cases al
    |cons y r ba=>exact ba y al
  rw[pX]at h;exact h.elim
 |some o=>
  have dW:=P4 al;rw[al]at h;rw[dW];refine Xt _ s a w (fun o aB d aA=>eX o (by rw[dW];exact List.mem_append_left _ aB) d aA) af h (fun s1 c_ ds r' ay=>?_);unfold wpList;have hw:Region.wanted o (yielded ops c_.tmps)=true:=by simp[Region.wanted,Xu ay]
  rw[av hw];refine .inl (Xv r' o (eX o (by rw[dW];simp)) ay (fun s' a' w' bQ ak=>?_));exact dL s' a' w' bQ ak
def stepG(P:aM)(n:Nat)(fl:List Nat)(ops:Array Oper)(K:aj->Prop)(i:Nat)(x y:Bool×aj):Prop:=
 x.1=false/\((i+1=ops.size/\y.1=true/\y.2=x.2/\∃o,ops[i]?=some o/\Ej P n ops o x.2 K)\/(i+1<ops.size/\y.1=false/\Ef P n fl ops i x.2 y.2))
def Xw{K:aj->Prop}:∀(l:List Nat) (s s':aj),(∀i∈l,i+1<ops.size)->wy (Ef P n fl ops) l s s'->∀(r:List Nat) (y:Bool×aj),wy (stepG P n fl ops K) r (false,s') y->wy (stepG P n fl ops K) (l++r) (false,s) y
 |[],s,s',_,h,r,y,ao=>by have:s=s':=h;subst this;exact ao
 |i::l,s,s',ah,⟨s1,aa,ab⟩,r,y,ao=>⟨(false,s1),⟨rfl,.inr ⟨ah i (by simp),rfl,aa⟩⟩,Xw l s1 s' (fun j ac=>ah j (by simp[ac])) ab r y ao⟩
def zhF{K:aj->Prop}(aD:wF fl ops=true)(Lt:fl.getD (ops.size-1) 0=0)(hw:c5 s)(h:e3 P n fl ops fl ops.toList.dropLast s (fun s1=>Ek P n ops s1 K (u6 ops.toList))) :
  Bx ops (stepG P n fl ops K) (fun x=>x.1=true) ops.size (Array.replicate ops.size false) (false,s):=by
 obtain⟨s',HK,ak⟩:=P3 (fl:=fl) ops.toList.dropLast fl 0 s hw (fun j o aB=>by
  rw[List.getElem?_dropLast]at aB;split at aB
  ·simpa using aB
  ·cases aB) (fun j=>by simp) h
 cases al:u6 ops.toList with
 |none=>rw[al]at ak;exact ak.elim
 |some o=>
 rw[al]at ak;have dW:=P4 al;have vI:ops.size=ops.toList.dropLast.length+1:=by have:=pR List.length dW;simpa using this
 have zhG:ops[ops.size-1]?=some o:=by
  have:ops.toList[ops.size-1]?=some o:=by rw[dW,l_ (by omega),show ops.size-1-ops.toList.dropLast.length=0 by omega];rfl
  simpa using this
 have u3:∀{i:Nat} {o:Oper},ops[i]?=some o->∀d,o.dst=some d->d<cU:=by intro i o aB;have h:=aD;simp only[wF,b7]at h;exact PQ (hJ.1 h.1 o (by have:=BQ aB;simpa using this))
 have nJ:=aD;simp only[wF,b7]at nJ
 replace nJ:=nJ.2
 have iE:∀i,i<ops.size->((match ops[i]? with
   |some o=>o.after.toList.all fun e=>!Region.binds .any e ||decide (e.on<i)
   |none=>false)=true/\∀j,j<i->HQ fl ops (Region.before ops) i j=true):=by
  intro i ah;have:=hJ.1 nJ i (by simp[ah]);simp only[b7,hJ,List.mem_range]at this;exact⟨this.1,fun j ac=>this.2 j ac⟩
 have zhH:wy (stepG P n fl ops K) (List.range' 0 ops.toList.length) (false,s) (true,s'):=by
  have e:List.range' 0 ops.toList.length=List.range' 0 ops.toList.dropLast.length++[ops.size-1]:=by rw[l4,vI,zc,List.range'_1_concat];simp
  rw[e];refine Xw _ s s' (fun i ah=>?_) HK _ _ ⟨(true,s'),⟨rfl,.inl ⟨by omega,rfl,rfl,o,zhG,ak⟩⟩,rfl⟩;rw[Lh]at ah;omega
 refine Pu (wf:=fun x:Bool×aj=>c5 x.2) (indep:=fun j i=>∃bZ bI,ops[i]?=some bZ/\ops[j]?=some bI/\x5 (fl.getD i 0) (fl.getD j 0)=true/\bI.apart ops bZ=true) ?_ ?_ ?_ ?_ (fin:=fun x=>x.1=true) (s':=(true,s')) rfl ops.size (List.range' 0 ops.toList.length) _ (false,s) (by simp) (by simp) ?_ ?_ ?_ hw zhH
 ·rintro i ⟨b,s⟩ ⟨br,s'⟩ hw ⟨_,(⟨_,_,h,_⟩|⟨_,_,h⟩)⟩
  ·dsimp only at h hw⊢;rw[h];exact hw
  ·obtain⟨o,_,h⟩:=h;exact P2 hw h
 ·rintro j i ⟨b,s⟩ ⟨fa,s1⟩ ⟨eV,s2⟩ ⟨bZ,bI,hB,dH,BV,nD⟩ hw ⟨ax,aa⟩ ⟨aK,ab⟩;have El:∀k,x5 k 0=false/\x5 0 k=false:=by
   intro k
   match k with
   |0=>exact⟨rfl,rfl⟩
   |1=>exact⟨rfl,rfl⟩
   |2=>exact⟨rfl,rfl⟩
   |3=>exact⟨rfl,rfl⟩
   |4=>exact⟨rfl,rfl⟩
   |5=>exact⟨rfl,rfl⟩
   |6=>exact⟨rfl,rfl⟩
   |7=>exact⟨rfl,rfl⟩
   |8=>exact⟨rfl,rfl⟩
   |9=>exact⟨rfl,rfl⟩
   |k+10=>exact⟨by simp[x5,Eh],by simp[x5,Eh]⟩
  rcases aa with⟨ac,_⟩|⟨ac,f1,gN,iW,aa⟩
  ·rw[show j=ops.size-1 by omega,Lt,(El _).1]at BV;cases BV
  rcases ab with⟨ah,_⟩|⟨ah,f2,e0,jD,ab⟩
  ·rw[show i=ops.size-1 by omega,Lt,(El _).2]at BV;cases BV
  rw[dH]at iW;injection iW with iW;subst iW
  rw[hB]at jD;injection jD with jD;subst jD
  obtain⟨cI,aE,aQ⟩:=Xk hB dH BV (u3 hB) (u3 dH) nD hw aa ab;exact⟨(false,cI),⟨ax,.inr ⟨ah,rfl,bZ,hB,aE⟩⟩,⟨rfl,.inr ⟨ac,f2,bI,dH,aQ⟩⟩⟩
 ·intro i o aB e he ad;have:=(iE i (jb.1 aB).1).1;rw[aB]at this;have:=hJ.1 this e (by simpa using he);simpa[ad]using this
 ·intro j i fU ah;have:=(iE i ah).2 j fU;unfold HQ at this;rw[gl]at this;rcases this with h|h
  ·exact .inl (PR ops i j h)
  ·rw[b7]at h;obtain⟨f1,h⟩:=h;split at h
   ·rename_i bZ bI hB dH;exact .inr ⟨bZ,bI,hB,dH,f1,h⟩
   ·cases h
 ·intro i o aB al;have ar:=(jb.1 aB).1;simp[ar]at al
 ·exact PW
 ·intro i;simp only[Lh,l4,hv,cj,mX];constructor
  ·intro ah;exact⟨ah,by simp[ah]⟩
  ·intro ah;exact ah.1
def Xx(eX:∀o∈ops.toList,∀d,o.dst=some d->S0.m<=d){K:aj->Prop}{Q:Exit->Act->bb->Prop}(dL:∀s' a' w',Rel S0 w0 n s' a' w'->K s'->Q .normal a' w') :
  ∀(fuel:Nat) (fr:Array Bool) (s:aj) (a:Act) (w:bb),Rel S0 w0 n s a w->Bx ops (stepG P n fl ops K) (fun x=>x.1=true) fuel fr (false,s)->wpAny P .any ops Q fuel fr a w
 |0,_,s,a,w,_,h=>by cases h.2
 |fuel+1,fr,s,a,w,af,h=>⟨fun a1=>(by cases h.1 a1),fun i ah=>by
   obtain⟨⟨br,s'⟩,⟨_,(⟨_,ad,hs,o,aB,ay⟩|⟨_,ad,aa⟩)⟩,ab⟩:=h.2 i ah
   ·dsimp only at ad hs ay;subst ad;subst hs;unfold wpOp;rw[aB];simp only;rw[av (by simp[Region.wanted,Xu ay])];refine .inl (Xv af o (eX o (by have:=BQ aB;simpa using this)) ay (fun s1 c_ ds r' ak=>?_));have bK:=dL s1 c_ ds r' ak;have ao:Region.ready .any ops (fr.setIfInBounds i true)=[]:=by
     cases fuel with
     |zero=>exact ab.1
     |succ fuel=>
      cases ao:Region.ready .any ops (fr.setIfInBounds i true)with
      |nil=>rfl
      |cons j r=>obtain⟨_,⟨e,_⟩,_⟩:=ab.2 j (by rw[ao];simp);cases e
    cases fuel with
    |zero=>exact⟨ao,bK⟩
    |succ fuel=>exact⟨fun _=>bK,fun j ac=>by rw[ao]at ac;cases ac⟩
   ·dsimp only at ad aa;subst ad;exact Xr eX af aa (fun a' w' bQ=>Xx eX dL fuel _ s' a' w' bQ ab)⟩
def zhI{id:Nat}{Q:Exit->Act->bb->Prop}{K:aj->Prop}(hm:P.follows .mixedOrders=true)(aD:wF fl ops=true)(Lt:fl.getD (ops.size-1) 0=0)(eX:∀o∈ops.toList,∀d,o.dst=some d->S0.m<=d)
  (af:Rel S0 w0 n s a w)(h:e3 P n fl ops fl ops.toList.dropLast s (fun s1=>Ek P n ops s1 K (u6 ops.toList)))(dL:∀s' a' w',Rel S0 w0 n s' a' w'->K s'->Q .normal a' w'):(Code.region id ops true).wp P Q a w:=
 wp_region_any hm (Xx eX dL _ _ s a _ af.drawn (zhF aD Lt af.wf h))
end
end
section
variable [bn]
def u7(next:aj->Prop)(Q:Exit->aj->Prop):Exit->aj->Prop
 |.normal,s=>next s
 |e,s=>Q e s
def u9(id:Nat)(Q:Exit->aj->Prop):Exit->aj->Prop
 |.exit Em,s=>if Em=id then Q .normal s else Q (.exit Em) s
 |e,s=>Q e s
def Lu(s:aj)(i off d:Nat)(b o:ae):aj:=
 match o,b with
 |.own _ z xs,.box cs=>fun j=>if j=i then .box (cs.set off (.list z xs))else dc (freeze s d) i off 1 j
 |_,_=>s
def P5(s:aj)(i off:Nat)(l:ae):aj:=
 match l with
 |.link bL o d=>match bL==i&&o==off with
  |true=>Lu s i off d (s i) (s d)
  |false=>s
 |_=>s
def x6(s:aj)(i off:Nat):aj:=P5 s i off (s (ch i off))
def pq(s:aj):List (Nat×Nat)->aj
 |[]=>s
 |(i,off)::r=>pq (x6 s i off) r
def Xy(s s':aj):Prop:=
 (∀i,s' i=s i\/s' i=.dead\/(s i=.x (.one .nil)/\∃e size,s' i=.own e size []))/\∀i j,(s' i).refs j=true->s' j=s j
def zhJ(s t:aj):Prop:=t=s\/∃i c bs es jg,s i=.mp c bs es/\Ke s es jg/\t=xp s i c bs jg
def zM(s s':aj):Prop:=∃t,zhJ s t/\∃l,Xy (pq t l) s'
def wG(c:Prop×ae)(A B:Prop):Prop:=
 match c with
 |(p,.x (.one (.bool b)))=>p/\(b=true->A)/\(b=false->B)
 |_=>False
def P6(body:(Exit->aj->Prop)->aj->Prop)(Q:Exit->aj->Prop)(s:aj):Prop:=
 ∃(ι:Type) (I:ι->aj) (ok:ι->Prop) (μ:ι->Nat),(∃x,ok x/\zM s (I x))/\∀x,ok x->body (u7 (fun s'=>∃y,ok y/\μ y<μ x/\zM s' (I y)) Q) (I x)
class Hint where
 nK:Nat->List Nat
 grow:Nat->Bool
 conv:Nat->Bool
 cut:Nat->Nat
instance (priority:=low) P7:Hint:=⟨fun _=>[],fun _=>false,fun _=>false,fun _=>0⟩
def u_{α:Type}:List (Nat×List α)->Nat->List α
 |[],_=>[]
 |(k,fl)::r,i=>if k=i then fl else u_ r i
@[reducible]def wH(l:List (Nat×List Nat)):Hint:=⟨u_ l,fun _=>false,fun _=>false,fun _=>0⟩
@[reducible]def Lv(g:List Nat)(l:List (Nat×List Nat)):Hint:=⟨u_ l,fun i=>g.contains i,fun _=>false,fun _=>0⟩
@[reducible]def x7(c g:List Nat)(l:List (Nat×List Nat)):Hint:=⟨u_ l,fun i=>g.contains i,fun i=>c.contains i,fun _=>0⟩
def HR:List (Nat×Nat)->Nat->Nat
 |[],_=>0
 |(k,m)::r,i=>if k=i then m else HR r i
@[reducible]def En(q:List (Nat×Nat))(c g:List Nat)(l:List (Nat×List Nat)):Hint:=⟨u_ l,fun i=>g.contains i,fun i=>c.contains i,HR q⟩
def P8(n:Nat)(s:aj)(X:aj->Prop):Prop:=∀(S0:Env) (w0:bb) (a:Act) (w:bb),Rel S0 w0 n s a w->∃s',Rel S0 w0 n s' a w/\X s'
def wI[Hint](P:aM)(n:Nat)(id:Nat)(ops:Array Oper)(kh:Bool)(Q:Exit->aj->Prop)(s:aj):Prop:=
 match Hint.grow id with
  |true=>match kh with
   |false=>bR P n ops ops.toList.dropLast s (fun s1=>Ek P n ops s1 (Q .normal) (u6 ops.toList))
   |true=>e3 P n (Hint.nK id) ops (Hint.nK id) ops.toList.dropLast s (fun s1=>Ek P n ops s1 (Q .normal) (u6 ops.toList))
  |false=>match kh with
   |false=>bR P n ops ops.toList s (Q .normal)
   |true=>match Hint.nK id with
    |k::fl=>e3 P n (k::fl) ops (k::fl) ops.toList s (Q .normal)
    |[]=>match xV ops with
     |true=>(zE false ops=true/\iY P n false ops ops.toList s (Q .normal))\/(∃l:List Nat,zE true ops=true/\iY P n true ops ops.toList (dy s l) (Q .normal))
     |false=>iY P n false ops ops.toList s (Q .normal)
def Lw(t:aj)(d g:Nat)(cs:List ag)(v:aI)(e z:Nat)(aV:List (List ag)):aj:=fun k=>if k=g then .db v e z aV else put t d (.x (.agg cs)) k
def Eo(P:aM)(n:Nat)(c:Prop×Option (FuncId×List aG))(t:aj)(d:Nat)(K:aj->Prop):Prop:=match c with
 |(p,some (f,xs))=>p/\∃(L:aI->List ag) (e z:Nat) (aV:List (List ag)) (g:Nat),A_ P f xs L e z aV/\n<=g/\(t g).free=true/\∀v,K (Lw t d g (L v) v e z aV)
 |_=>False
def HS(P:aM)(n:Nat)(s:aj)(o:Oper)(K:aj->Prop):Prop:=match o.dst,o.op with
 |some d,.call c=>match c.callee with
  |.value f=>d<n/\Eo P n (callee s f c.args.toList) (dy s (de s c.args.toList)) d K
  |_=>False
 |_,_=>False
def BW(b:Bool)(A B:Prop):Prop:=match b with
 |true=>A\/B
 |false=>A
def qe(P:aM)(n:Nat)(ops:Array Oper):Nat->List Oper->aj->(aj->Prop)->Prop
 |0,l,s,K=>P8 n s (fun s2=>bR P n ops l s2 K)
 |k+1,o::l,s,K=>BW (iF o) (bR P n ops [o] s (fun s1=>qe P n ops k l s1 K)) (HS P n s o (fun s1=>qe P n ops k l s1 K))
 |_+1,[],s,K=>K s
def Xz[Hint](P:aM)(n:Nat)(id:Nat)(ops:Array Oper)(kh:Bool)(Q:Exit->aj->Prop)(s:aj):Nat->Prop
 |0=>P8 n s (wI P n id ops kh Q)
 |k+1=>qe P n ops (k+1) ops.toList s (Q .normal)
def gh[Hint](P:aM)(n:Nat):Code->(Exit->aj->Prop)->aj->Prop
 |.skip,Q,s=>Q .normal s
 |.label _,Q,s=>Q .normal s
 |.region id ops kh,Q,s=>match Hint.conv id with
  |true=>Xz P n id ops kh Q s (Hint.cut id)
  |false=>wI P n id ops kh Q s
 |.seq a b,Q,s=>gh P n a (u7 (gh P n b Q) Q) s
 |.cond c a b,Q,s=>wG (aJ s c) (gh P n a Q s) (gh P n b Q s)
 |.block id c,Q,s=>gh P n c (u9 id Q) s
 |.loop c,Q,s=>P6 (gh P n c) Q s
 |.exit id,Q,s=>Q (.exit id) s
 |.ret,Q,s=>Q .ret s
 |_,_,_=>False
def Lx[Hint](id:Nat)(ops:Array Oper)(kh:Bool):Bool:=match Hint.grow id with
  |true=>!kh ||(wF (Hint.nK id) ops&&(Hint.nK id).getD (ops.size-1) 0==0)
  |false=>match kh with
   |true=>match Hint.nK id with
    |k::fl=>wF (k::fl) ops
    |[]=>zE false ops ||xV ops
   |false=>true
def codeOk[Hint]:Code->Bool
 |.region id ops kh=>(Hint.cut id==0 ||!kh)&&Lx id ops kh
 |.seq a b=>codeOk a&&codeOk b
 |.cond _ a b=>codeOk a&&codeOk b
 |.block _ c=>codeOk c
 |.loop c=>codeOk c
 |_=>true
def Ly(m:Nat)(o:Oper):Bool:=match o.dst with
 |some d=>decide (m<=d)
 |none=>true
def lO(m:Nat):Code->Bool
 |.region _ ops _=>ops.toList.all (Ly m)
 |.seq a b=>lO m a&&lO m b
 |.cond _ a b=>lO m a&&lO m b
 |.block _ c=>lO m c
 |.loop c=>lO m c
 |_=>true
def BX{m:Nat}{l:List Oper}(h:l.all (Ly m)=true):∀o∈l,∀d,o.dst=some d->m<=d:=by intro o aB d aA;have:=hJ.1 h o aB;unfold Ly at this;rw[aA]at this;exact vM this
def Ep:∀c:Code,lO 0 c=true:=by
 intro c;induction c with
 |region id ops kh=>refine hJ.2 (fun o _=>?_);unfold Ly;cases o.dst<;>simp
 |seq a b P9 P_=>simp[lO,P9,P_]
 |cond c a b P9 P_=>simp[lO,P9,P_]
 |block id c ba=>simpa[lO]using ba
 |loop c ba=>simpa[lO]using ba
 |_=>rfl
section
variable {P:aM}{S0:Env}{w0 w:bb}{n:Nat}{s:aj}{a:Act}
def Rel.x6(af:Rel S0 w0 n s a w)(i off:Nat):Rel S0 w0 n (x6 s i off) a w:=by
 unfold Ab.x6 P5;split
 ·rename_i bL o d f';split
  ·rename_i zz;simp only[b7,fc]at zz;obtain⟨rfl,rfl⟩:=zz;unfold Lu;split
   ·rename_i e z xs cs aA ah;have hid:bL≠d:=by rintro rfl;rw[ah]at aA;cases aA
    have al:=af.rep (ch bL o);rw[f']at al;obtain⟨_,md,eV,aE,aQ,bf,bM⟩:=al;rw[ah]at aE;injection aE with aE
    subst aE;have ar:o<cs.length:=(eQ.1 aQ).1;have aa:=af.freeze (i:=d) (.inl ⟨e,z,xs,aA⟩);have ax:Ab.freeze s d bL=.box cs:=by unfold Ab.freeze;have:(ae.box cs).refs d=false:=rfl;simp[hid,ah,this]
    have aK:Ab.freeze s d d=.x (.one (.list z xs)):=by simp[Ab.freeze,aA,uG]
    have ab:Rel S0 w0 n (dc (Ab.freeze s d) bL o 1) a w:=by
     refine aa.forget (fun j=>ib _ bL o 1 j) (fun j k cb=>?_);rcases ib (Ab.freeze s d) bL o 1 j with e|e<;>rw[e]at cb
     ·exact ku (aa.wf j k cb)
     ·cases cb
    have cd:dc (Ab.freeze s d) bL o 1 bL=.box cs:=by rw[ku (by rw[ax];rfl),ax]
    have fI:dc (Ab.freeze s d) bL o 1 d=.x (.one (.list z xs)):=by unfold dc;rw[aK];rfl
    have ad:=ab.rep bL;rw[cd]at ad;obtain⟨b,b3,t,aF,bo,gB,bk⟩:=ad;have ew:eV=b:=by rw[ah,aF]at bf;have:some b=some eV:=bf;injection this with this;exact this.symm
    subst ew;rw[cell_of_row w eV o b3 t (0,0) bo,aA]at bM;have bM:_=some (aL a d):=bM;have KT:=ab.rep d;rw[fI]at KT;refine ab.write (r:=.box (cs.set o (.list z xs))) (b:=eV) (by rw[cd,aF];rfl) (World.grownBy.refl w _) rfl (by rw[aF];rfl) rfl (by rw[cd];rfl) (by rw[cd];rfl) (by rw[cd];rfl) (fun s'=>?_) (fun j di bG md al gD=>?_)
    ·refine⟨eV,b3,t,aF,bo,⟨by simpa using gB.1,fun j c ac=>?_⟩,bk⟩;rw[y7]at ac;split at ac
     ·rename_i he;subst he;simp only[b9]at ac;subst ac;exact⟨_,by simpa using bM,KT⟩
     ·exact gB.2 j c ac
    ·rw[cd]at gD;obtain rfl:=(by simpa[ae.gk]using gD:_=md)
     refine⟨⟨_,rfl,?_⟩,rfl⟩;rw[y7];split
     ·rename_i he;exfalso;subst he;have:dc (Ab.freeze s d) bL o 1 j=.dead:=by
       unfold dc;have:(Ab.freeze s d j).ns bL o 1=true:=by
        rcases ib (Ab.freeze s d) bL o 1 j with e|e
        ·rw[e]at al;exact ae.Dm al (by omega) (by omega)
        ·rw[e]at al;exact al.elim
       rw[this]
      rw[this]at al;exact al.elim
     ·rfl
   ·exact af
  ·exact af
 ·exact af
def Rel.pq:∀(l:List (Nat×Nat)) {s:aj},Rel S0 w0 n s a w->Rel S0 w0 n (pq s l) a w
 |[],_,h=>h
 |(i,off)::r,_,h=>Rel.pq r (h.x6 i off)
def Rel.Lz{i off:Nat}{cs:List ag}{c:ag}{v:aI}{b:Nat}(af:Rel S0 w0 n s a w)(ah:s i=.box cs)(ad:bl (s i) (aL a i)=some b)(aF:w.cell? ⟨b,off,none⟩=some v)(ar:off<cs.length)
  (ap:bD w (bO S0 w0.heap.size w s (aL a)) c v)(cl:∀j o d,(s j).o1 i o d->o≠off):Rel S0 w0 n (fun k=>if k=i then .box (cs.set off c)else s k) a w:=by
 have b8:=af.rep i;rw[ah]at b8 ad;obtain⟨br,b3,t,pY,bo,gB,bk⟩:=b8;have ew:br=b:=by rw[pY]at ad;simpa[bl]using ad
 subst ew;rw[cell_of_row w br off b3 t (0,0) bo]at aF;refine af.write (r:=.box (cs.set off c)) (b:=br) (by rw[ah,pY];rfl) (World.grownBy.refl w _) rfl (by rw[pY];rfl) rfl (by rw[ah];rfl) (by rw[ah];rfl) (by rw[ah];rfl) (fun s'=>?_) (fun j di bG md al gD=>?_)
 ·refine⟨br,b3,t,pY,bo,⟨by simpa using gB.1,fun j x ac=>?_⟩,bk⟩;rw[y7]at ac;split at ac
  ·rename_i he;subst he;simp only[b9]at ac;subst ac;exact⟨_,by simpa using aF,ap⟩
  ·exact gB.2 j x ac
 ·rw[ah]at gD;obtain rfl:=(by simpa[ae.gk]using gD:_=md)
  refine⟨⟨_,rfl,?_⟩,rfl⟩;rw[y7,an (fun e=>cl j di bG al e.symm)]
def Rel.LA(af:Rel S0 w0 n s a w)(i off:Nat):Rel S0 w0 n (dc s i off 1) a w:=by
 refine af.forget (fun j=>ib _ i off 1 j) (fun j k cb=>?_);rcases ib s i off 1 j with e|e<;>rw[e]at cb
 ·exact ku (af.wf j k cb)
 ·cases cb
def LB{i off:Nat}(s:aj):∀j o d,(dc s i off 1 j).o1 i o d->o≠off:=by
 intro j o d h aB;subst aB;unfold dc at h;cases al:(s j).ns i o 1 with
 |true=>rw[al]at h;exact h.elim
 |false=>rw[al]at h;rw[ae.Dm (off:=o) (m:=1) h (f_ _) (by omega)]at al;cases al
def P'(s:aj)(i off j g:Nat)(v:aI)(cs:List ag)(e z:Nat)(xs:List (List ag)):aj:=fun k=>if k=i then .box (cs.set off (.atom v))else dc (r0 s j g v e z xs) i off 1 k
def Rel.zhK{i off j g e z:Nat}{cs:List ag}{xs:List (List ag)}(af:Rel S0 w0 n s a w)(ah:s i=.box cs)(al:s (ch i off)=.link i off j)(ac:s j=.own e z xs)(aX:n<=g)(ay:(s g).free=true):Rel S0 w0 n (P' s i off j g (aL a j) cs e z xs) a w:=by
 have f':=af.rep (ch i off);rw[al]at f';obtain⟨_,md,b,aE,aQ,bf,bM⟩:=f';rw[ah]at aE;injection aE with aE
 subst aE;rw[ac]at bM;have bM:w.cell? ⟨b,off,none⟩=some (aL a j):=bM;have aa:=(af.name ac aX ay).LA i off;have cV:i≠j:=by rintro rfl;rw[ah]at ac;cases ac
 have xZ:i≠g:=by rintro rfl;rw[ah]at ay;cases ay
 have cC:r0 s j g (aL a j) e z xs i=.box cs:=by unfold r0;rw[an cV,an xZ,ah];simp[ae.refs]
 have ax:dc (r0 s j g (aL a j) e z xs) i off 1 i=.box cs:=by rw[ku (by rw[cC];rfl),cC]
 have n':(aL a j).oneCell'=true:=by have:=af.rep j;rw[ac]at this;obtain⟨us,aB,_⟩:=this;rcases aB.2 with⟨h,_⟩|⟨_,_,_,h,_⟩<;>rw[h]<;>rfl
 exact aa.Lz ax (b:=b) (v:=aL a j) (by rw[ax,<-ah];exact bf) bM (eQ.1 aQ).1 (bD.atom _ n') (LB _)
def Qb(s:aj)(i off j g e z:Nat)(cs:List ag)(xs:List (List ag)):aj:=fun k=>if k=ch i off then .link i off j else if k=i then .box (cs.set off .any)else dc (r1 s j g e z xs) i off 1 k
def Rel.zhL{i off j g e z:Nat}{v:aI}{cs:List ag}{xs:List (List ag)}(af:Rel S0 w0 n s a w)(ah:s i=.box cs)(ap:cs[off]?=some (.atom v))(ac:s j=.x (.one (.atom v)))(ay:s g=.db v e z xs)(aw:(s (ch i off)).free=true):Rel S0 w0 n (Qb s i off j g e z cs xs) a w:=by
 have aF:aL a j=v:=by have h:=af.rep j;rw[ac]at h;have h:bD w _ (.atom v) (aL a j):=h;generalize aL a j=u at h;cases h;rfl
 have cV:i≠j:=by rintro rfl;rw[ah]at ac;cases ac
 have xZ:i≠g:=by rintro rfl;rw[ah]at ay;cases ay
 have zA:ch i off≠j:=by intro h;rw[h,ac]at aw;cases aw
 have zhM:ch i off≠g:=by intro h;rw[h,ay]at aw;cases aw
 have BT:ch i off≠i:=by intro h;rw[h,ah]at aw;cases aw
 have aa:=(af.zel ac ay).LA i off;have cC:r1 s j g e z xs i=.box cs:=by unfold r1;rw[an cV,an xZ,ah];simp[ae.refs]
 have ax:dc (r1 s j g e z xs) i off 1 i=.box cs:=by rw[ku (by rw[cC];rfl),cC]
 have XA:r1 s j g e z xs j=.own e z xs:=by unfold r1;rw[av rfl]
 have Lq:dc (r1 s j g e z xs) i off 1 j=.own e z xs:=by rw[ku (by rw[XA];rfl),XA]
 have b8:=af.rep i;rw[ah]at b8;obtain⟨b,b3,t,pY,bo,gB,bk⟩:=b8;obtain⟨u,hu,tg⟩:=gB.2 off _ ap;have tD:u=v:=by cases tg;rfl
 subst tD;have ip:w.cell? ⟨b,off,none⟩=some u:=by rw[cell_of_row w b off b3 t (0,0) bo];simpa using hu
 have ar:off<cs.length:=(eQ.1 ap).1;have n':u.oneCell'=true:=bD.N3 tg;have ab:=aa.Lz ax (b:=b) (v:=u) (by rw[ax,pY];rfl) ip ar (bD.any _ n') (LB _);have au:=ab.Hf (k:=ch i off) (i:=i) (off:=off) (d:=j) (b:=b) (cs:=cs.set off .any) ?_ ?_ ?_ ?_ ?_ ?_
 ·exact au
 ·rw[an BT];rcases ib (r1 s j g e z xs) i off 1 (ch i off)with h|h<;>rw[h]
  ·unfold r1;rw[an zA,an zhM];split
   ·rfl
   ·exact aw
  ·rfl
 ·rw[an (pk cV),Lq];rfl
 ·rw[av rfl];rfl
 ·rw[y7,av rfl,av ar]
 ·rw[av rfl,pY];rfl
 ·rw[an (pk cV),Lq,ip];show some u=some (aL a j)
  rw[aF]
def i_(s:aj)(g:Nat):aj:=fun k=>if k=g then .dead else if (s k).refs g then .dead else s k
def HT(s:aj)(i off g:Nat)(cs:List ag)(x:ag):aj:=fun k=>if k=i then .box (cs.set off x)else dc (i_ s g) i off 1 k
def Rel.i_(af:Rel S0 w0 n s a w)(g:Nat):Rel S0 w0 n (i_ s g) a w:=by
 refine af.forget (fun k=>?_) (fun k m ak=>?_)
 ·unfold Ab.i_;split
  ·exact .inr rfl
  ·split
   ·exact .inr rfl
   ·exact .inl rfl
 ·unfold Ab.i_ at ak⊢;split at ak
  ·cases ak
  ·split at ak
   ·cases ak
   ·rename_i aa ab;have h2:=af.wf k m ak;have A7:m≠g:=by rintro rfl;exact ab ak
    rw[an A7,an];intro h;rw[np h]at h2;cases h2
def Rel.HU{i off g b c:Nat}{cs:List ag}{bs:List Nat}{es:List (aG×aG)}{gz gT:Bool}{bp vs:List (List ag)}(af:Rel S0 w0 n s a w)(ah:s i=.box cs)(ap:cs[off]?=some (.atom (.map (some b))))(ay:s g=.gL b c bs es)
  (he:es=hR gz gT bp vs)(cX:vs.length=bp.length)(ak:gz=true\/∀k∈bp,k.length=1)(aF:gT=true\/∀k∈vs,k.length=1):Rel S0 w0 n (HT s i off g cs (.i8 gz gT bp vs)) a w:=by
 have xZ:i≠g:=by rintro rfl;rw[ah]at ay;cases ay
 have aa:=(af.i_ g).LA i off;have cC:Ab.i_ s g i=.box cs:=by unfold Ab.i_;rw[an xZ,ah];simp[ae.refs]
 have ax:dc (Ab.i_ s g) i off 1 i=.box cs:=by rw[ku (by rw[cC];rfl),cC]
 have tp:∀k,dc (Ab.i_ s g) i off 1 k=.dead\/(k≠g/\dc (Ab.i_ s g) i off 1 k=s k):=by
  intro k;rcases ib (Ab.i_ s g) i off 1 k with h|h
  ·rw[h];unfold Ab.i_;by_cases BY:k=g
   ·rw[av BY];exact .inl rfl
   ·rw[an BY];split
    ·exact .inl rfl
    ·exact .inr ⟨BY,rfl⟩
  ·exact .inl h
 have cv:∀k br,bl (dc (Ab.i_ s g) i off 1 k) (aL a k)=some br->k≠g/\bl (s k) (aL a k)=some br:=by
  intro k br ad;rcases tp k with h|⟨ab,h⟩<;>rw[h]at ad
  ·cases ad
  ·exact⟨ab,ad⟩
 have dg:∀c,bO S0 w0.heap.size w s (aL a) c->bO S0 w0.heap.size w (dc (Ab.i_ s g) i off 1) (aL a) c:=fun c ap=>⟨ap.1,ap.2.1,fun k ak=>ap.2.2 k (cv k c ak).2⟩
 have zi:=af.rep g;rw[ay]at zi;obtain⟨ents,bo,bk,eW⟩:=zi;have ar:b<w.heap.size:=(jb.1 bo).1;have JS:bO S0 w0.heap.size w (dc (Ab.i_ s g) i off 1) (aL a) b:=⟨.inr bk,ar,fun k ak=>by obtain⟨ab,au⟩:=cv k b ak;exact ab (af.inj k g b au (by rw[ay];rfl))⟩
 subst he;have mS:=zem JS bo (eW.mono dg (fun _ _=>rfl)) cX ak aF;have b8:=af.rep i;rw[ah]at b8;obtain⟨bi,b3,t,pY,Qc,gB,_⟩:=b8;obtain⟨u,hu,tg⟩:=gB.2 off _ ap;have tD:u=.map (some b):=by cases tg;rfl
 subst tD;exact aa.Lz ax (b:=bi) (v:=.map (some b)) (by rw[ax,pY];rfl) (by rw[cell_of_row w bi off b3 t (0,0) Qc];simpa using hu) (eQ.1 ap).1 mS (LB _)
def Rel.Qd{i off g e z:Nat}{v:aI}{cs:List ag}{xs:List (List ag)}(af:Rel S0 w0 n s a w)(ah:s i=.box cs)(ap:cs[off]?=some (.atom v))(ay:s g=.db v e z xs):Rel S0 w0 n (HT s i off g cs (.list z xs)) a w:=by
 have xZ:i≠g:=by rintro rfl;rw[ah]at ay;cases ay
 have aa:=(af.i_ g).LA i off;have cC:Ab.i_ s g i=.box cs:=by unfold Ab.i_;rw[an xZ,ah];simp[ae.refs]
 have ax:dc (Ab.i_ s g) i off 1 i=.box cs:=by rw[ku (by rw[cC];rfl),cC]
 have tp:∀k,dc (Ab.i_ s g) i off 1 k=.dead\/(k≠g/\dc (Ab.i_ s g) i off 1 k=s k):=by
  intro k;rcases ib (Ab.i_ s g) i off 1 k with h|h
  ·rw[h];unfold Ab.i_;by_cases BY:k=g
   ·rw[av BY];exact .inl rfl
   ·rw[an BY];split
    ·exact .inl rfl
    ·exact .inr ⟨BY,rfl⟩
  ·exact .inl h
 have cv:∀k br,bl (dc (Ab.i_ s g) i off 1 k) (aL a k)=some br->k≠g/\bl (s k) (aL a k)=some br:=by
  intro k br ad;rcases tp k with h|⟨ab,h⟩<;>rw[h]at ad
  ·cases ad
  ·exact⟨ab,ad⟩
 have dg:∀c,bO S0 w0.heap.size w s (aL a) c->bO S0 w0.heap.size w (dc (Ab.i_ s g) i off 1) (aL a) c:=fun c ap=>⟨ap.1,ap.2.1,fun k ak=>ap.2.2 k (cv k c ak).2⟩
 have zi:=af.rep g;rw[ay]at zi;obtain⟨us,aB,al,ai,hm,cY⟩:=zi;have mS:cz w (bO S0 w0.heap.size w (dc (Ab.i_ s g) i off 1) (aL a)) (.one (.list z xs)) v:=A4 aB (al.mono dg (fun _ _=>rfl)) ai hm (fun b ad=>⟨.inr (cY b ad),(aB.lt b ad).2,fun k ak=>by obtain⟨ab,au⟩:=cv k b ak;exact ab (af.inj k g b au (by rw[ay];exact ad))⟩)
 have b8:=af.rep i;rw[ah]at b8;obtain⟨bi,b3,t,pY,Qc,gB,_⟩:=b8;obtain⟨u,hu,tg⟩:=gB.2 off _ ap;have tD:u=v:=by cases tg;rfl
 subst tD;exact aa.Lz ax (b:=bi) (v:=u) (by rw[ax,pY];rfl) (by rw[cell_of_row w bi off b3 t (0,0) Qc];simpa using hu) (eQ.1 ap).1 mS (LB _)
def Rel.zhN{s':aj}(af:Rel S0 w0 n s a w)(h:Xy s s'):Rel S0 w0 n s' a w:=by
 obtain⟨aa,ab⟩:=h;have cv:∀j c,bl (s' j) (aL a j)=some c->bl (s j) (aL a j)=some c:=by
  intro j c ap;rcases aa j with e|e|⟨e,cg,size,aK⟩
  ·rw[e]at ap;exact ap
  ·rw[e]at ap;cases ap
  ·rw[aK]at ap;have aX:=af.rep j;rw[e]at aX;have:=te aX;rw[this]at ap;simp[bl,Value.ownBlock]at ap
 have dg:∀c,bO S0 w0.heap.size w s (aL a) c->bO S0 w0.heap.size w s' (aL a) c:=fun c ap=>⟨ap.1,ap.2.1,fun j ac=>ap.2.2 j (cv j c ac)⟩
 refine⟨af.defers,af.size,af.below,af.lt,fun i=>?_,fun i j b ah ac=>af.inj i j b (cv i b ah) (cv j b ac),fun i ah=>?_,fun i j cV=>?_,af.n6⟩
 ·rcases aa i with e|e|⟨e,cg,size,aK⟩
  ·rw[e];refine(af.rep i).mono dg (fun _ _=>rfl) (fun _ _=>rfl) (fun k ak=>?_) (fun bL off bG cs b al cT _=>⟨⟨cs,by rw[ab i bL (by rw[e];exact(ae.pH al).1)];exact cT,rfl⟩,rfl⟩);have:=ab i k (by rw[e];exact ae.qL ak);exact⟨rfl,fun h=>by rw[this];exact⟨h,rfl,rfl,rfl⟩,fun c ap=>by rw[this];exact ap⟩
  ·rw[e];trivial
  ·rw[aK];have aX:=af.rep i;rw[e]at aX;rw[te aX];exact⟨[],World.Dd w _ _ _,⟨rfl,fun j c ac=>by simp at ac⟩,fun x ai=>(by cases ai),by simp,fun b ad=>by cases ad⟩
 ·rcases aa i with e|e|⟨e,cg,size,aK⟩
  ·rw[e];exact af.out i ah
  ·rw[e];rfl
  ·have:=af.out i ah;rw[e]at this;cases this
 ·rw[ab i j cV];rcases aa i with e|e|⟨e,cg,size,aK⟩
  ·rw[e]at cV;exact af.wf i j cV
  ·rw[e]at cV;cases cV
  ·rw[aK]at cV;cases cV
def Rel.fL{s':aj}(af:Rel S0 w0 n s a w)(h:zM s s'):Rel S0 w0 n s' a w:=by
 obtain⟨t,bv,l,al⟩:=h;have zhO:Rel S0 w0 n t a w:=by
  rcases bv with rfl|⟨i,c,bs,es,jg,aa,ab,rfl⟩
  ·exact af
  ·exact af.xp aa ab
 exact(zhO.pq l).zhN al
def sl(s:aj):List (Nat×Nat)->aj
 |[]=>s
 |l=>fun j=>if j=cU then .res l else s j
def Rel.sl(af:Rel S0 w0 n s a w)(h:(s cU).free=true)(l:List (Nat×Nat)):Rel S0 w0 n (sl s l) a w:=by
 unfold Ab.sl;split
 ·exact af
 ·have fV:∀j,(s j).aR=true->j≠cU:=by rintro j bx rfl;rw[yY h]at bx;cases bx
  have cv:∀j c,bl (if j=cU then ae.res l else s j) (aL a j)=some c->bl (s j) (aL a j)=some c:=by
   intro j c ac;by_cases cb:j=cU
   ·rw[av cb]at ac;cases ac
   ·rw[an cb]at ac;exact ac
  have dg:∀c,bO S0 w0.heap.size w s (aL a) c->bO S0 w0.heap.size w (fun j=>if j=cU then .res l else s j) (aL a) c:=fun c ap=>⟨ap.1,ap.2.1,fun j ac=>ap.2.2 j (cv j c ac)⟩
  refine⟨af.defers,af.size,af.below,af.lt,fun j=>?_,fun j m c ac hm=>af.inj j m c (cv j c ac) (cv m c hm),fun j ac=>?_,fun j m gP=>?_,af.n6⟩
  ·by_cases cb:j=cU
   ·simp only[av cb];trivial
   ·simp only[an cb];refine(af.rep j).mono dg (fun _ _=>rfl) (fun _ _=>rfl) (fun m hm=>?_) (fun bL Dh bG cs' br al cT _=>⟨⟨cs',by simp only[an (fV bL (ae.o0 cT))];exact cT,rfl⟩,rfl⟩);have Kz:=fV m ((af.rep j).leads hm);simp only[an Kz];exact⟨trivial,fun h=>⟨h,trivial,trivial,trivial⟩,fun c ap=>ap⟩
  ·by_cases cb:j=cU
   ·simp only[av cb];rfl
   ·simp only[an cb];exact af.out j ac
  ·by_cases cb:j=cU
   ·simp only[av cb]at gP;cases gP
   ·simp only[an cb]at gP;have:=af.wf j m gP;simp only[an (fV m this)];exact this
def zhP(af:Rel S0 w0 n s a w){o:Oper}(ay:o.guard=none)(eX:∀d,o.dst=some d->S0.m<=d){K:aj->Prop}(h:HS P n s o K){bT:Act->bb->Prop}{Q:Exit->Act->bb->Prop}
  (ct:∀s' a' w',Rel S0 w0 n s' a' w'->K s'->bT a' w'):o.wp P a w bT Q:=by
 unfold HS at h;split at h;rotate_left
 ·exact h.elim
 rename_i d c aA c4;split at h;rotate_left
 ·exact h.elim
 rename_i f aw;obtain⟨hdn,h⟩:=h;unfold Eo at h;split at h;rotate_left
 ·exact h.elim
 rename_i pp g xs cC;obtain⟨r6,L,e,z,aV,gs,⟨OS,ap⟩,XB,XC,ak⟩:=h;have pi:=uI (de s c.args.toList) s af;obtain⟨zsT,args,ts⟩:=c;dsimp only at aw;subst aw;refine zeB (post:=fun u w'=>∃v,Below w.heap.size w w'/\cz w' (fun b=>(bO S0 w0.heap.size w (dy s (de s args.toList)) (aL a) b\/(w.heap.size<=b/\b<w'.heap.size))/\v.ownBlock≠some b) (.agg (L v)) u /\
   iT w' (fun b=>bO S0 w0.heap.size w (dy s (de s args.toList)) (aL a) b\/(w.heap.size<=b/\b<w'.heap.size)) (.own e z aV) v/\∀b,v.ownBlock=some b->w.heap.size<=b) af cC r6 OS (fun vs bk bj=>ap w _ vs bk bj |>.mono fun kf w' ⟨u,v,aa,ab,au,aN,bE⟩=>⟨u,aa,v,ab,au,aN,bE⟩) ⟨ts,c4⟩ aA ?_
 dsimp only at pi XC ak⊢;generalize dy s (de s args.toList)=t at*;rintro u w' ⟨v,ad,tg,zg,mP⟩;have XD:S0.m<=d/\d<n:=⟨eX d aA,hdn⟩
 have lA:d<a.tmps.size:=by rw[af.size];exact hdn
 have aF:aL (a.put (some d) v) d=v:=by rw[xj a d v lA,av rfl]
 have Qe:=pi.back (r:=.own e z aV) XD ad zg (fun b h=>h) mP;have se:gs≠d:=Nat.ne_of_gt (s9 hdn XB);have Qf:∀(x:ae) (i:Nat),i≠d->Ab.put t d x i=if (t i).refs d=true then .dead else t i:=fun x i ah=>by
  cases ao:(t i).refs d
  ·rw[Dj ah ao,an h5]
  ·rw[Di ah (pi.wf i d ao) ao,av rfl]
 have HV:=Qe.name (j:=d) (g:=gs) (e:=e) (z:=z) (xs:=aV) (jR (v:=.own e z aV) rfl) XB (by
  rw[Qf _ gs se];split
  ·rfl
  ·exact XC)
 rw[aF]at HV;generalize bS:r0 (Ab.put t d (bH.own e z aV).dj) d gs v e z aV=S at HV;have HW:∀k,S k=if k=d then .x (.one (.atom v))else if k=gs then .db v e z aV else if (t k).refs d=true then .dead else t k:=by
  intro k;rw[<-bS];unfold r0;by_cases aa:k=d
  ·rw[av aa,av aa]
  rw[an aa,an aa];by_cases ab:k=gs
  ·rw[av ab,av ab]
  rw[an ab,an ab,Qf _ k aa];cases ao:(t k).refs d
  ·rw[an h5,ao];rfl
  ·rw[av rfl];rfl
 have zhQ:∀k,k≠d->(S k).refs d=false:=fun k aa=>by
  rw[HW,an aa];split
  ·rfl
  ·split
   ·rfl
   ·rename_i h;exact zN.2 h
 have hf:∀b,((bO S0 w0.heap.size w t (aL a) b\/(w.heap.size<=b/\b<w'.heap.size))/\v.ownBlock≠some b)->bO S0 w0.heap.size w' S (aL (a.put (some d) v)) b:=by
  rintro b ⟨ew,GY⟩;have uL:∀k,k≠d->k≠gs->bl (S k) (aL (a.put (some d) v) k)=some b->bl (t k) (aL a k)=some b:=by
   intro k aa ab au;rw[HW,an aa,an ab,xj a d v lA,an aa]at au;split at au
   ·cases au
   ·exact au
  have pl:∀k,bl (S k) (aL (a.put (some d) v) k)=some b->bl (t k) (aL a k)=some b:=by
   intro k au;by_cases aa:k=d
   ·subst aa;rw[HW,av rfl]at au;cases au
   by_cases ab:k=gs
   ·subst ab;rw[HW,an aa,av rfl]at au;exact absurd au GY
   exact uL k aa ab au
  rcases ew with h|⟨aa,ab⟩
  ·exact⟨h.1,s9 h.2.1 ad.size,fun k ak=>h.2.2 k (pl k ak)⟩
  ·refine⟨.inr (.inl (jc pi.below.size aa)),ab,fun k ak=>?_⟩;have:=((pi.rep k).gU (pl k ak)).2;omega
 have XE:=HV.put (d:=d) (r:=.x (.agg (L v))) (v:=u) XD (World.grownBy.refl w' none) (fun j h=>by cases h) (cz.mono tg hf (fun _ _=>rfl)) (fun b h=>by cases h) (fun b h=>by cases h);have zhR:(a.put (some d) v).put (some d) u=a.put (some d) u:=by unfold Act.put;simp
 rw[zhR]at XE;refine ct _ _ _ XE ?_;have cu:Ab.put S d (.x (.agg (L v)))=Lw t d gs (L v) v e z aV:=by
  funext k;unfold Lw;by_cases aa:k=d
  ·subst aa;rw[an (fun h=>se h.symm),jR rfl,jR rfl]
  rw[Dj aa (zhQ k aa),HW,an aa,Qf _ k aa]
 rw[cu];exact ak v
def XF{ops:Array Oper}{K:aj->Prop}{du:Exit->Act->bb->Prop}:∀(k:Nat) (l:List Oper) (s:aj) (a:Act) (w:bb),(∀o∈l,∀d,o.dst=some d->S0.m<=d)->Rel S0 w0 n s a w->qe P n ops k l s K ->
  (∀s' a' w',Rel S0 w0 n s' a' w'->K s'->du .normal a' w')->wpList P ops du l a w
 |0,l,s,a,w,al,af,h,dL=>by obtain⟨s2,iC,ab⟩:=h _ _ _ _ af;exact Wg l s2 a w al iC ab dL
 |k+1,o::l,s,a,w,al,af,h,dL=>
  have go:∀s' a' w',Rel S0 w0 n s' a' w'->qe P n ops k l s' K->wpList P ops du l a' w':=fun s' a' w' bQ bx=>XF k l s' a' w' (fun di ii=>al di (oc _ ii)) bQ bx dL;have one:∀h:bR P n ops [o] s (fun s1=>qe P n ops k l s1 K),wpList P ops du (o::l) a w:=fun h=>Xt (l2:=l) [o] s a w (fun di ii=>al di (by rw[nE]at ii;subst ii;exact kH)) af h go
  by
   unfold qe BW at h;split at h
   ·rename_i nG;rcases h with h|h
    ·exact one h
    ·obtain⟨c,f,aa,ab,au⟩:=WT nG;unfold wpList;have hw:Region.wanted o (yielded ops a.tmps)=true:=by simp[Region.wanted,au]
     rw[av hw];exact .inl (zhP af au (fun d aA=>al o kH d aA) h go)
   ·exact one h
 |_+1,[],s,a,w,_,af,h,dL=>dL s a w af h
def LC[Hint](hm:P.follows .mixedOrders=true):∀(c:Code) (Q:Exit->aj->Prop) (du:Exit->Act->bb->Prop) (s:aj) (a:Act) (w:bb),codeOk c=true->lO S0.m c=true->Rel S0 w0 n s a w->gh P n c Q s ->
  (∀e s' a' w',Rel S0 w0 n s' a' w'->Q e s'->du e a' w')->c.wp P du a w:=by
 intro c;induction c with
 |skip=>intro Q du s a w _ _ af h dL;exact wp_skip (dL _ s a w af h)
 |label l=>intro Q du s a w _ _ af h dL;exact wp_label (dL _ s a w af h)
 |exit id=>intro Q du s a w _ _ af h dL;exact wp_exit (dL _ s a w af h)
 |ret=>intro Q du s a w _ _ af h dL;exact wp_ret (dL _ s a w af h)
 |region id ops kh=>
  intro Q du s a w aD dP af h dL;have zO:(Hint.cut id==0 ||!kh)=true:=by simp only[codeOk,b7]at aD;exact aD.1
  replace aD:Lx id ops kh=true:=by simp only[codeOk,b7]at aD;exact aD.2
  obtain⟨s,af,h⟩|⟨iE,k,ap⟩:(∃s,Rel S0 w0 n s a w/\wI P n id ops kh Q s)\/(kh=false/\∃k,qe P n ops k ops.toList s (Q .normal)):=by
   cases wD:(Hint.conv id:Bool)with
   |true=>
    simp only[gh,wD]at h;cases p0:(Hint.cut id:Nat)with
    |zero=>rw[p0]at h;exact .inl (h _ _ _ _ af)
    |succ k=>
     rw[p0]at h zO;refine .inr ⟨?_,_,h⟩;cases kh with
     |false=>rfl
     |true=>simp at zO
   |false=>simp only[gh,wD]at h;exact .inl ⟨s,af,h⟩
  rotate_left
  ·subst iE;exact wp_region_list (XF k ops.toList s a w (BX dP) af ap (fun s' a' w' bQ ak=>dL _ s' a' w' bQ ak))
  cases mE:(Hint.grow id:Bool)with
  |true=>
   simp only[wI,mE]at h;simp only[Lx,mE]at aD;cases kh with
   |false=>exact wp_region_list (zhE (P:=P) (BX dP) af h (fun s' a' w' bQ ak=>dL _ s' a' w' bQ ak))
   |true=>simp only[Bool.not_true,zm,b7,fc]at aD;exact zhI (P:=P) (id:=id) (Q:=du) hm aD.1 aD.2 (BX dP) af (K:=Q .normal) h (fun s' a' w' bQ ak=>dL _ s' a' w' bQ ak)
  |false=>
  simp only[wI,mE]at h;simp only[Lx,mE]at aD;cases kh with
  |false=>exact wp_region_list (Wg ops.toList s a w (BX dP) af h (fun s' a' w' bQ ak=>dL _ s' a' w' bQ ak))
  |true=>
   have plain:=fun aD h=>W9 (P:=P) (m:=false) (id:=id) (Q:=du) hm aD (BX dP) af (K:=Q .normal) h (fun s' a' w' bQ ak=>dL _ s' a' w' bQ ak);cases hw:(Hint.nK id:List Nat)with
   |cons k fl=>rw[hw]at h aD;exact zhC (P:=P) (id:=id) (Q:=du) hm aD (BX dP) af (K:=Q .normal) h (fun s' a' w' bQ ak=>dL _ s' a' w' bQ ak)
   |nil=>
   rw[hw]at h aD;dsimp only at h aD;split at h
   ·rcases h with h|⟨l,aa,ab⟩
    ·exact plain h.1 h.2
    ·exact W9 (m:=true) hm aa (BX dP) (uI l s af) ab (fun s' a' w' bQ ak=>dL _ s' a' w' bQ ak)
   ·rename_i HX;simp only[HX,Bool.or_false]at aD;exact plain aD h
 |seq x y BZ B0=>
  intro Q du s a w aD dP af h dL;simp only[codeOk,b7]at aD;simp only[lO,b7]at dP;refine wp_seq (BZ _ _ s a w aD.1 dP.1 af h (fun e s' a' w' bQ bK=>?_));cases e with
  |normal=>exact B0 Q du s' a' w' aD.2 dP.2 bQ bK dL
  |_=>exact dL _ s' a' w' bQ bK
 |cond c x y BZ B0=>
  intro Q du s a w aD dP af h dL;simp only[codeOk,b7]at aD;simp only[lO,b7]at dP;simp only[gh]at h;unfold wG at h;split at h
  ·rename_i p b e;obtain⟨am,bv,aw⟩:=h;have aF:=af.aJ c (zgb e am);rw[e]at aF;have h1:=pM aF;exact wp_cond_split h1 (fun ad=>BZ Q du s a w aD.1 dP.1 af (bv ad) dL) (fun ad=>B0 Q du s a w aD.2 dP.2 af (aw ad) dL)
  ·exact h.elim
 |block id c ba=>
  intro Q du s a w aD dP af h dL;refine wp_block (ba _ _ s a w aD dP af h (fun e s' a' w' bQ bK=>?_));cases e with
  |exit Em=>
   simp only[u9]at bK;simp only[Exit.inBlock];split
   ·rename_i hid;rw[av hid]at bK;exact dL _ s' a' w' bQ bK
   ·rename_i hid;rw[an hid]at bK;exact dL _ s' a' w' bQ bK
  |_=>exact dL _ s' a' w' bQ bK
 |loop c ba=>
  intro Q du s a w aD dP af h dL;obtain⟨ι,I,ok,μ,⟨cM,Qg,Qh⟩,Qi⟩:=h;refine wp_loop_ghost (fun m a w=>∃x,ok x/\μ x=m/\Rel S0 w0 n (I x) a w) (μ cM) ⟨cM,Qg,rfl,af.fL Qh⟩ ?_;rintro m c_ ds ⟨x,ai,rfl,r'⟩;refine ba _ _ (I x) c_ ds aD dP r' (Qi x ai) (fun e s' a' w' bQ bK=>?_);cases e with
  |normal=>obtain⟨y,aU,ar,HY⟩:=bK;exact⟨μ y,ar,y,aU,rfl,bQ.fL HY⟩
  |_=>exact dL _ s' a' w' bQ bK
 |_=>intro Q du s a w _ _ _ h _;exact h.elim
def Er(P:aM)(s:aj):ResultVar->Prop×Option aG
 |.tmp t=>o' s (.tmp t)
 |.cell t ty=>match k2 (tk P ty) (eH P ty) (aJ s (.tmp t)).1 (mem s (aJ s (.tmp t)).2)with
  |(p,.x bP)=>(p,some bP)
  |_=>(False,none)
def re(P:aM)(s:aj):List ResultVar->Prop×Option (List aG)
 |[]=>(True,some [])
 |x::r=>match Er P s x,re P s r with
  |(p,some v),(q,some vs)=>(p/\q,some (v::vs))
  |_,_=>(False,none)
def Qj(P:aM)(s:aj)(rs:List ResultVar)(r:bH):Prop:=
 match re P s rs with
 |(p,some [x])=>p/\r=.x x
 |(p,some xs)=>p/\r=.b2 xs
 |_=>False
def HZ(tmps:Array aI):ResultVar->Sem aI
 |.tmp t=>pure (tmps.getD t undef)
 |.cell t ty=>do loadVar ty (<-asAddr (tmps.getD t undef))
def Qk(fn:Func)(tmps:Array aI):results fn tmps=(do
  let vs <-fn.results.mapM (HZ tmps)
  pure (if h:vs.size=1 then vs[0]else .tuple vs)):=rfl
def u':List aG->Nat->aj
 |[],_=>fun _=>.dead
 |x::r,k=>fun i=>if i=k then .x x else u' r (k+1) i
mutual
def ag.ok:ag->Prop
 |.str l=>l.length<=maxLen
 |.list size xs=>xs.length<=maxLen/\ag.B1 size xs
 |_=>True
def ag.B1(size:Nat):List (List ag)->Prop
 |[]=>True
 |x::r=>x.length=size/\ag.wJ x/\ag.B1 size r
def ag.wJ:List ag->Prop
 |[]=>True
 |c::r=>c.ok/\ag.wJ r
end
def aG.ok:aG->Prop
 |.one c=>c.ok
 |.agg cs=>ag.wJ cs
def LD:∀{cs:List ag},(∀c∈cs,c.ok)->ag.wJ cs
 |[],_=>by simp[ag.wJ]
 |c::r,h=>by simp only[ag.wJ];exact⟨h c (by simp),LD (fun c' ap=>h c' (by simp[ap]))⟩
def Ql{size:Nat}:∀{xs:List (List ag)},(∀x∈xs,x.length=size)->(∀x∈xs,∀c∈x,ag.ok c)->ag.B1 size xs
 |[],_,_=>by simp[ag.B1]
 |x::r,h,k=>by simp only[ag.B1];exact⟨h x (by simp),LD (k x (by simp)),Ql (fun y aU=>h y (by simp[aU])) (fun y aU=>k y (by simp[aU]))⟩
def bD.ok{S:Nat->Prop}{c:ag}{v:aI}(h:bD w S c v):c.ok:=by
 induction h with
 |str l h=>simpa only[ag.ok]using h
 |empty a cap size h=>simp only[ag.ok]
 |jQ f caps U h ba=>simp only[ag.ok]
 |mF a cap size h aX=>simp only[ag.ok,ag.B1,ur];exact⟨cj _,trivial⟩
 |list b' cap size xs U hs dW ap hm ai lz ao ba=>simp only[ag.ok];refine⟨by omega,Ql ai (fun x fo c k9=>?_)⟩;obtain⟨j,ac⟩:=mG (List.mem_flatten.2 ⟨x,fo,k9⟩:c∈xs.flatten);exact ba j c ac
 |_=>simp only[ag.ok]
def cz.ok{S:Nat->Prop}{x:aG}{v:aI}(h:cz w S x v):x.ok:=by
 cases x with
 |one c=>exact bD.ok h
 |agg cs=>obtain⟨us,_,al⟩:=h;refine LD (fun c ap=>?_);obtain⟨j,ac⟩:=mG ap;obtain⟨u,_,ao⟩:=al.2 j c ac;exact ao.ok
def sn(r:bH)(q:Prop×Option (List aG)):Prop:=match q with
 |(p,some [x])=>p/\xM r (.x x)
 |(p,some xs)=>p/\xM r (.b2 xs)
 |_=>False
def zhS{s:aj}{rs:List ResultVar}{r:bH}(h:sn r (re P s rs)):∃cD,Qj P s rs cD/\xM r cD:=by
 unfold sn at h;unfold Qj;split at h
 ·exact⟨_,⟨h.1,rfl⟩,h.2⟩
 ·rename_i p xs bY e;refine⟨.b2 xs,?_,h.2⟩;cases xs with
  |nil=>exact⟨h.1,rfl⟩
  |cons x r=>cases r with
   |nil=>exact absurd rfl (bY x)
   |cons y r=>exact⟨h.1,rfl⟩
 ·exact h.elim
def qf:ResultVar->aW
 |.tmp t=>.tmp t
 |.cell _ _=>.const (.bool true)
def tL:List ae->Nat->Prop
 |[],_=>True
 |o::_,0=>o=.dead
 |_::r,i+1=>tL r i
def x8(outs:List ae)(e z:Nat)(xs:List (List ag))(i:Nat)(len:Option Nat):ae->Prop
 |.own cg kA ea=>cg=e/\kA=z/\xs=(match len with|some k=>ea.take k|none=>ea)/\tL outs i
 |_=>False
def B2(s:aj)(outs:List ae)(e z:Nat)(xs:List (List ag))(t:Nat):ae->Prop
 |.own cg kA ea=>x8 outs e z xs t none (.own cg kA ea)
 |.alias i=>x8 outs e z xs i none (s i)
 |.view i _ len true=>x8 outs e z xs i (some len) (s i)
 |.x (.one .nil)=>xs=[]
 |_=>False
def kM(P:aM)(s:aj)(rs:List ResultVar)(outs:List ae)(r:bH):Prop:=
 match r with
 |.own e z xs=>match rs with
  |[.tmp t]=>B2 s outs e z xs t (s t)
  |_=>False
 |r=>sn r (re P s rs)
def im(s:aj)(rs:List ResultVar)(r:bH):aj:=
 match r with
 |.own _ _ _=>s
 |_=>dy s (de s (rs.map qf))
def j1(s:aj):Nat->List ae->Prop
 |_,[]=>True
 |k,o::r=>(match o with|.dead=>True|o=>s k=o)/\j1 s (k+1) r
def Qm{s:aj}:∀{k:Nat} {l:List ae},j1 s k l->∀(j:Nat) (o:ae),l[j]?=some o->o≠.dead->s (k+j)=o
 |k,[],_,j,o,h,_=>by simp at h
 |k,o::r,h,j,di,ac,bY=>by
  obtain⟨aa,ab⟩:=h;cases j with
  |zero=>simp at ac;subst ac;cases o<;>first|exact aa|exact absurd rfl bY
  |succ j=>simp at ac;have:=Qm ab j di ac bY;rw[<-this];congr 1;omega
def XG:∀{l:List ae} {i:Nat} {o:ae},tL l i->l[i]?=some o->o=.dead
 |[],i,o,_,h=>by simp at h
 |a::r,0,o,h,bx=>by simp at bx;subst bx;exact h
 |a::r,i+1,o,h,bx=>by simp at bx;exact XG (l:=r) h bx
def jk:List ae->Nat->aj
 |[],_=>fun _=>.dead
 |x::r,k=>fun i=>if i=k then x else jk r (k+1) i
def H0:∀(args:List ae) (k i:Nat),jk args k i=((if k<=i then args[i-k]? else none).getD .dead)
 |[],k,i=>by simp[jk]
 |x::r,k,i=>by
  simp only[jk];by_cases h:i=k
  ·subst h;simp
  ·rw[an h,H0 r (k+1) i];by_cases ak:k<=i
   ·have aa:k+1<=i:=by omega
    have ab:i-k=(i-(k+1))+1:=by omega
    rw[av aa,av ak,ab];simp
   ·rw[an (by omega),an ak]
def LF:∀(args:List aG) (k:Nat),u' args k=jk (args.map .x) k
 |[],k=>rfl
 |x::r,k=>by funext i;simp only[u',jk,kC,LF r (k+1)]
def ae.ok:ae->Prop
 |.x v=>v.ok
 |.box cs=>ag.wJ cs
 |.own _ size xs=>xs.length<=maxLen/\ag.B1 size xs
 |_=>True
def cO.wJ{S:Nat->Prop}{cs:List ag}{us:List aI}(h:cO w S cs us):ag.wJ cs:=by refine LD (fun c ap=>?_);obtain⟨j,ac⟩:=mG ap;obtain⟨u,_,ao⟩:=h.2 j c ac;exact ao.ok
def dp.ok{S:Nat->Prop}{B:Nat->Prop}{s:aj}{tm:Nat->aI}{x:ae}{v:aI}(h:dp w S B s tm x v):x.ok:=by
 cases x with
 |x v=>exact cz.ok h
 |box cs=>obtain⟨b,b3,t,_,_,al,_⟩:=h;exact al.wJ
 |own e z xs=>obtain⟨us,_,al,ai,hm,_⟩:=h;refine⟨hm,Ql ai (fun y aU c ap=>?_)⟩;obtain⟨j,ac⟩:=mG (List.mem_flatten.2 ⟨y,aU,ap⟩:c∈xs.flatten);obtain⟨u,_,ao⟩:=al.2 j c ac;exact ao.ok
 |_=>trivial
def zhT(af:Rel S0 w0 n s a w){x:ResultVar}{p:Prop}{bP:aG}(h:Er P s x=(p,some bP))(am:p)(l:List Nat)(al:∀i∈de s [qf x],i∈l) :
  ∃v,(HZ a.tmps x).run P w=.ok v w/\cz w (bO S0 w0.heap.size w (dy s l) (aL a)) bP v:=by
 cases x with
 |tmp t=>exact⟨_,rfl,OM af h am l (fun i ah=>al i (Ki (x:=.tmp t) (by simp[qf]) ah))⟩
 |cell t ty=>
  have dg:∀b,bO S0 w0.heap.size w s (aL a) b->bO S0 w0.heap.size w (dy s l) (aL a) b:=fun b ad=>⟨ad.1,ad.2.1,fun k ak=>by
   have aB:(dy s l k).aR=true:=by
    cases aB:(dy s l k).aR with
    |true=>rfl
    |false=>rw[ks aB]at ak;cases ak
   rw[DN l s k aB]at ak;exact ad.2.2 k ak⟩
  simp only[Er]at h;split at h
  ·rename_i q Vc e;simp only[cA,b9]at h;obtain⟨rfl,rfl⟩:=h;obtain⟨v,cP,b8,_⟩:=UW (P:=P) (t:=ty) (v:=a.eval (.tmp t)) (fun am cs hm=>af.mem (af.aJ (.tmp t) am) hm) (by rw[e];exact am);rw[e]at b8;refine⟨v,?_,cz.mono b8 dg (fun _ _=>rfl)⟩;have he:a.eval (.tmp t)=a.tmps.getD t undef:=rfl;rw[he]at cP;show (do loadVar ty (<-asAddr (a.tmps.getD t undef)):Sem aI).run P w=.ok v w
   generalize a.tmps.getD t undef=u at cP⊢;unfold Instr.loadAt Instr.sureAddr at cP;unfold asAddr;cases u with
   |pointer o=>cases o with
    |some b'=>exact cP
    |none=>simp at cP
   |_=>simp at cP
  ·simp at h
def zhU(af:Rel S0 w0 n s a w)(l:List Nat):∀{rs:List ResultVar} {p:Prop} {xs:List aG},re P s rs=(p,some xs)->p->(∀i∈de s (rs.map qf),i∈l) ->
  ∃vs:List aI,(rs.mapM (HZ a.tmps)).run P w=.ok vs w/\vs.length=xs.length/\∀(j:Nat) (x:aG),xs[j]?=some x->∃u,vs[j]?=some u/\cz w (bO S0 w0.heap.size w (dy s l) (aL a)) x u:=by
 intro rs;induction rs with
 |nil=>intro p xs h _ _;simp only[re,cA,b9]at h;obtain⟨_,rfl⟩:=h;exact⟨[],rfl,rfl,fun j x ac=>by simp at ac⟩
 |cons x r ba=>
  intro p xs h am al;simp only[re]at h;split at h
  ·rename_i q v eI vs ax aK;simp only[cA,b9]at h;obtain⟨rfl,rfl⟩:=h;have mJ:∀i∈de s [qf x],i∈l:=by
    intro i ah;refine al i ?_;simp only[kC,de,AN,hg]at ah⊢;exact .inl ah
   have ke:∀i∈de s (r.map qf),i∈l:=by intro i ah;refine al i ?_;simp only[kC,de,hg];exact .inr ah
   obtain⟨u,aa,ab⟩:=zhT af ax am.1 l mJ;obtain⟨us,au,aN,bE⟩:=ba aK am.2 ke;refine⟨u::us,?_,by simp[aN],fun j bJ ac=>?_⟩
   ·simp only[List.mapM_cons,Sem.run_bind,aa,au,Result.andThen_ok,Sem.run_pure]
   ·cases j with
    |zero=>simp at ac;subst ac;exact⟨u,rfl,ab⟩
    |succ j=>simp only[A8]at ac;exact bE j bJ ac
  ·simp at h
def zhV(af:Rel S0 w0 n s a w){fn:Func}{r:bH}(h:sn r (re P s fn.results.toList)):∃v,(results fn a.tmps).run P w=.ok v w/\iT w (bO S0 w0.heap.size w (dy s (de s (fn.results.toList.map qf))) (aL a)) r v:=by
 have key:∀{p:Prop} {xs:List aG},re P s fn.results.toList=(p,some xs)->p->∃vs:List aI,(results fn a.tmps).run P w=.ok (if h:vs.length=1 then vs[0]else .tuple vs.toArray) w /\
   vs.length=xs.length/\∀(j:Nat) (x:aG),xs[j]?=some x->∃u,vs[j]?=some u/\cz w (bO S0 w0.heap.size w (dy s (de s (fn.results.toList.map qf))) (aL a)) x u:=by
  intro p xs e am;obtain⟨vs,aa,ab,au⟩:=zhU af (de s (fn.results.toList.map qf)) e am (fun i ah=>ah);refine⟨vs,?_,ab,au⟩;rw[Qk,<-JP (xs:=fn.results),List.mapM_toArray];simp only[Sem.run_bind,Sem.run_map,aa,Result.andThen_ok,Sem.run_pure];congr 1
 obtain⟨cD,ay,aD⟩:=zhS h;refine(fun ⟨v,aa,ab⟩=>⟨v,aa,zfT aD ab⟩:(∃v,(results fn a.tmps).run P w=.ok v w/\iT w (bO S0 w0.heap.size w (dy s (de s (fn.results.toList.map qf))) (aL a)) cD v)->_) ?_;unfold Qj at ay;split at ay
 ·rename_i p x e;obtain⟨am,rfl⟩:=ay;obtain⟨vs,aa,ab,au⟩:=key e am;have al:vs.length=1:=by simpa using ab
  rw[x9 al]at aa;obtain⟨u,hu,ao⟩:=au 0 x rfl;refine⟨_,aa,?_⟩;have:vs[0]=u:=by rw[cr (by omega)]at hu;injection hu
  rw[this];exact ao
 ·rename_i p xs bY e;obtain⟨am,rfl⟩:=ay;obtain⟨vs,aa,ab,au⟩:=key e am;have al:¬vs.length=1:=by
   intro al;rw[al]at ab;obtain⟨y,aU⟩:=GH.1 ab.symm;exact bY y aU
  rw[dif_neg al]at aa;exact⟨_,aa,vs.toArray,rfl,by simpa using ab,fun j x ac=>by simpa using au j x ac⟩
 ·exact ay.elim
def zhW{r:bH}{q:Prop×Option (List aG)}(h:sn r q)(v:aI):r.ij v=none:=by
 cases r with
 |own e z xs=>
  unfold sn at h;split at h
  ·exact h.2.elim
  ·exact h.2.elim
  ·exact h.elim
 |_=>rfl
def Qn{ds:bb}(af:Rel S0 ds n s a w){fn:Func}{r:bH}{outs:List ae}(h:kM P s fn.results.toList outs r) :
  ∃v,(results fn a.tmps).run P w=.ok v w/\Rel S0 ds n (im s fn.results.toList r) a w/\iT w (fun b=>(bO S0 ds.heap.size w (im s fn.results.toList r) (aL a) b\/r.ij v=some b)) r v /\
   ∀b,r.ij v=some b->∃i,bl (im s fn.results.toList r i) (aL a i)=some b/\tL outs i:=by
 unfold kM at h;split at h
 ·rename_i e z xs;split at h
  ·rename_i t A3;have uB:(results fn a.tmps).run P w=.ok (aL a t) w:=by
    rw[Qk,<-JP (xs:=fn.results),List.mapM_toArray,A3];simp[HZ]
   have fin:∀{v:aI} {us:List aI} (i:Nat) ,v=aL a t->w.iM 0 e z v xs.length us->cO w (bO S0 ds.heap.size w s (aL a)) xs.flatten us->(∀x∈xs,x.length=z)->xs.length<=maxLen ->
     (∀b,v.ownBlock=some b->bl (s i) (aL a i)=some b/\tL outs i) ->
     ∃v,(results fn a.tmps).run P w=.ok v w/\Rel S0 ds n (im s [.tmp t] (.own e z xs)) a w/\iT w (fun b=>(bO S0 ds.heap.size w (im s [.tmp t] (.own e z xs)) (aL a) b\/(bH.own e z xs).ij v=some b)) (.own e z xs) v /\
      ∀b,(bH.own e z xs).ij v=some b->∃i,bl (im s [.tmp t] (.own e z xs) i) (aL a i)=some b/\tL outs i:=by
    intro v us i aF bB al ai hm ad;refine⟨v,by rw[aF];exact uB,af,⟨us,bB,al.mono (fun b ew=>⟨.inl ew,fun h=>ew.2.2 i (ad b h).1⟩) (fun _ _=>rfl),ai,hm,fun b h=>.inr h⟩,fun b h=>⟨i,ad b h⟩⟩
   rw[A3];have bv:=af.rep t;revert h bv;generalize cu:s t=q;intro h bv;unfold B2 at h;split at h
   ·rename_i cg kA ea;obtain⟨rfl,rfl,rfl,dP⟩:=h;obtain⟨us,bB,al,ai,hm,_⟩:=bv;exact fin t rfl bB al ai hm (fun b ad=>⟨by rw[cu];exact ad,dP⟩)
   ·rename_i i;obtain⟨aF,_⟩:=bv;have ah:=af.rep i;revert h ah;generalize gY:s i=q;intro h ah;unfold x8 at h;split at h
    ·obtain⟨rfl,rfl,rfl,dP⟩:=h;obtain⟨us,bB,al,ai,hm,_⟩:=ah;have DX:aL a t=aL a i:=by rw[aF,gY];rfl
     exact fin i DX.symm bB al ai hm (fun b ad=>⟨by rw[gY];exact ad,dP⟩)
    ·exact h.elim
   ·rename_i i aO len;have ah:=af.rep i;revert h ah;generalize gY:s i=q;intro h ah;unfold x8 at h;split at h
    ·obtain⟨rfl,rfl,rfl,dP⟩:=h;obtain⟨us,bB,al,ai,hm,_⟩:=ah;obtain⟨aa,ab,au,aN⟩:=OH gY bv bB al ai;exact fin i rfl aa au (fun x fo=>ai x (v7 fo)) (by rw[e'];omega) (fun b ad=>⟨by rw[gY];exact ab b ad,dP⟩)
    ·exact h.elim
   ·subst h;have aF:=te bv;exact fin t (us:=[]) rfl (by rw[aF];exact World.Dd w 0 e z) ⟨rfl,fun j c ac=>by simp at ac⟩ (fun x ai=>by cases ai) (by simp) (fun b ad=>by rw[aF]at ad;cases ad)
   ·exact h.elim
  ·exact h.elim
 ·rename_i bY;have he:im s fn.results.toList r=dy s (de s (fn.results.toList.map qf)):=by
   unfold im;split
   ·exact absurd rfl (bY _ _ _)
   ·rfl
  obtain⟨v,aa,ab⟩:=zhV af h;rw[he];refine⟨v,aa,uI _ _ af,ab.mono (fun b ad=>.inl ad) (fun _ _=>rfl),fun b ad=>?_⟩;rw[zhW h]at ad;cases ad
def mi:List ae->Nat
 |[]=>0
 |o::r=>match o with
  |.dead=>match mi r with
   |0=>0
   |n+1=>n+2
  |_=>mi r+1
def Qo:∀{l:List ae} {j:Nat} {o:ae},l[j]?=some o->o≠.dead->j<mi l
 |[],j,o,h,_=>by simp at h
 |a::r,0,o,h,bY=>by simp at h;subst h;unfold mi;cases a<;>first|exact absurd rfl bY|simp
 |a::r,j+1,o,h,bY=>by
  have:=Qo (l:=r) (j:=j) (by simpa using h) bY;unfold mi;split
  ·split
   ·rename_i e;rw[e]at this;omega
   ·rename_i e;rw[e]at this;omega
  ·omega
def H2{α:Type}:∀(l:List α),mi (l.map fun _=>ae.dead)=0
 |[]=>rfl
 |a::r=>by simp only[kC,mi,H2 r]
def cx.Qp[Hint]{f:FuncId}{fn:Func}{c:Code}{args:List ae}{r:bH}{outs:List ae}(hm:P.follows .mixedOrders=true)(aw:P.funcs[f]?=some fn) (fJ:(fn.name== "runtime.NumGoroutine")=false)
  (ad:fn.body=some c)(aD:codeOk c=true)(dP:lO (mi outs) c=true)(al:args.length<=fn.ntmps)(fm:hh args outs=true){Qa:Exit->aj->Prop}(c2 mj:List (Nat×Nat))(f':c2=[]\/args.length<=999999)
  (Qq:∀e s,Qa e s->(e=.normal\/e=.ret)/\kM P (pq s mj) fn.results.toList outs r/\j1 (im (pq s mj) fn.results.toList r) 0 outs)
  (h:(∀x∈args,x.ok)->gh P fn.ntmps c Qa (sl (jk args 0) c2)):cx P f args r outs:=by
 refine⟨⟨fn,aw,fJ,by rw[ad];rfl⟩,fm,fun w hj vs m6 gF=>?_⟩;have Qr:∀x∈args,x.ok:=by intro x ai;obtain⟨j,ac⟩:=mG ai;exact(gF.rep j x ac).2.ok
 refine calls_of_wp aw ad ?_;have cB:vs.size<=fn.ntmps:=jc gF.size al;have iw:∀i,aL {tmps:=vs++Array.replicate (fn.ntmps-vs.size) undef,defers:=[]} i=cw vs i:=by
  intro i;simp only[aL,cw,s_,Qs];split
  ·rfl
  ·rename_i ah;rw[H3 (by omega:vs.size<=i),Qt];split<;>rfl
 have Qu:aL {tmps:=vs++Array.replicate (fn.ntmps-vs.size) undef,defers:=[]}=cw vs:=funext iw
 let E:Env:=⟨hj.rd,hj.fb,mi outs,cw vs⟩
 have eW:pI E w:=⟨m6.rd,m6.fb,m6.apart,m6.xi,m6.y0⟩
 have B3:∀i,jk args 0 i=eT args i:=fun i=>by rw[H0];simp[eT]
 have Qv:jk args 0=eT args:=funext B3;have kg:∀i,eT args i=.dead\/∃x,args[i]?=some x/\eT args i=x/\qW args x=true/\dp w hj.rd hj.fb (eT args) (cw vs) x (cw vs i):=by
  intro i;cases ai:args[i]? with
  |none=>left;unfold eT;rw[ai];rfl
  |some x=>obtain⟨jp,ao⟩:=gF.rep i x ai;exact .inr ⟨x,rfl,by unfold eT;rw[ai];rfl,jp,ao⟩
 have cv:∀i b,bl (eT args i) (cw vs i)=some b->hj.fb b:=by
  intro i b ew;rcases kg i with h|⟨x,aa,au,aN,bE⟩
  ·rw[h]at ew;cases ew
  ·rw[au]at ew;exact(bE.gU ew).1
 have af:Rel E w fn.ntmps (jk args 0) {tmps:=vs++Array.replicate (fn.ntmps-vs.size) undef,defers:=[]} w:=by
  rw[Qv];refine⟨rfl,by simp;omega,Kept.refl _ _,eW,fun i=>?_,fun i j b ah ac=>?_,fun i ah=>?_,fun i j cV=>?_,fun j ac=>iw j⟩
  ·rw[Qu];rcases kg i with h|⟨x,aa,au,aN,bE⟩
   ·rw[h];trivial
   ·rw[au];refine bE.qW aN (fun b ad=>⟨.inl ad,m6.rd b ad,fun k ak=>?_⟩) (fun b _ ad=>.inr ad);exact m6.apart b ad (cv k b ak)
  ·rw[iw]at ah ac;rcases kg i with h|⟨x,aa,au,aN,bE⟩
   ·rw[h]at ah;cases ah
   rcases kg j with h|⟨y,aE,bf,bM,dz⟩
   ·rw[h]at ac;cases ac
   rw[au]at ah;rw[bf]at ac;exact gF.inj i j x y b aa ah aE ac
  ·unfold eT;rw[pW (by omega)];rfl
  ·rcases kg i with h|⟨x,aa,au,aN,bE⟩
   ·rw[h]at cV;cases cV
   ·rw[au]at cV;exact Vm aN cV
 have Qw:Rel E w fn.ntmps (Ab.sl (jk args 0) c2) {tmps:=vs++Array.replicate (fn.ntmps-vs.size) undef,defers:=[]} w:=by
  rcases f' with rfl|f'
  ·exact af
  ·exact af.sl (by rw[B3];unfold eT;rw[pW (show args.length<=cU from f')];rfl) c2
 refine LC hm c _ _ _ _ _ aD dP Qw (h Qr) (fun e zhX a' w' zhY bK=>?_);obtain⟨he,ay,mQ⟩:=Qq _ _ bK;have bQ:=zhY.pq mj;generalize Ab.pq zhX mj=s' at bQ ay mQ;obtain⟨v,cP,iC,b8,r9⟩:=Qn bQ ay;obtain⟨fH,G'⟩:=p8 fm;generalize im s' fn.results.toList r=s2 at iC b8 r9 mQ;have G6:∀j,j<mi outs->aL a' j=cw vs j:=fun j ac=>iC.n6 j ac;have Es:∀(j:Nat) (o:ae),outs[j]?=some o->o≠.dead->s2 j=o/\aL a' j=cw vs j:=by intro j o aa au;have:=Qm mQ j o aa au;rw[hv]at this;exact⟨this,G6 j (Qo aa au)⟩
 have cl:∀(b:Nat),wg outs vs b->∃(j:Nat) (o:ae),outs[j]?=some o/\o≠.dead/\bl (s2 j) (aL a' j)=some b:=by
  rintro b ⟨j,o,aa,au⟩;have bY:o≠.dead:=by rintro rfl;cases au
  obtain⟨aN,bE⟩:=Es j o aa bY;exact⟨j,o,aa,bY,by rw[aN,bE];exact au⟩
 have qZ:∀b,bO E w.heap.size w' s2 (aL a') b->jA w w' hj outs vs b:=by
  intro b ad;refine⟨?_,fun aB=>?_⟩
  ·rcases ad.1 with h|h|h
   ·exact .inl h
   ·exact .inr (.inr ⟨h,ad.2.1⟩)
   ·exact .inr (.inl h)
  ·obtain⟨j,o,_,_,h⟩:=cl b aB;exact ad.2.2 j h
 have XH:∀b,r.ij v=some b->jA w w' hj outs vs b/\¬hj.rd b:=by
  intro b ad;obtain⟨i,ah,zhZ⟩:=r9 b ad;obtain⟨aa,ab⟩:=(iC.rep i).gU ah;refine⟨⟨?_,fun aB=>?_⟩,fun mZ=>?_⟩
  ·rcases aa with h|h
   ·exact .inr (.inr ⟨h,ab⟩)
   ·exact .inr (.inl h)
  ·obtain⟨j,o,au,aN,bE⟩:=cl b aB;have:=iC.inj i j b ah bE;subst this;exact aN (XG zhZ au)
  ·rcases aa with h|h
   ·have:=m6.rd b mZ;omega
   ·exact m6.apart b mZ h
 have GY:∀b,bO E w.heap.size w' s2 (aL a') b->r.ij v≠some b:=by intro b ad h;obtain⟨i,ah,_⟩:=r9 b h;exact ad.2.2 i ah
 have mN:a'.defers=[]/\∃v,(results fn a'.tmps).run P w'=.ok v w'/\∃cW,Ending.returned v=.returned cW/\Kept hj.fb w w'/\iT w' (jA w w' hj outs vs) r cW/\(∀b,r.ij cW=some b->jA w w' hj outs vs b/\¬hj.rd b) /\
   ∀(j:Nat) (o:ae),outs[j]?=some o->dp w' (fun b=>jA w w' hj outs vs b/\r.ij cW≠some b) hj.fb zn zo o (cw vs j):=by
  refine⟨bQ.defers,v,cP,v,rfl,bQ.below,b8.mono (fun b ad=>ad.elim (qZ b) (fun h=>(XH b h).1)) (fun _ _=>rfl),XH,fun j o aa=>?_⟩;by_cases bY:o=.dead
  ·subst bY;trivial
  obtain⟨au,aN⟩:=Es j o aa bY;have ar:j<args.length:=by rw[fH];exact(eQ.1 aa).1
  obtain⟨x,ai⟩:∃x,args[j]?=some x:=⟨_,cr ar⟩
  have BL:=G' j x o ai aa;obtain⟨ob,sm⟩:=gF.rep j x ai;have ao:=iC.rep j;rw[au,aN]at ao;have ww:o.bare=true:=by cases x<;>cases o<;>first|rfl|(simp[eB]at BL)
  exact ao.bare ww (fun b ad=>⟨qZ b ad,GY b ad⟩) (fun b ad _=>(sm.gU (Vn BL sm ad)).1)
 rcases he with rfl|rfl
 ·exact mN
 ·exact mN
def az.ofM{f:FuncId}{args:List aG}{r:bH}(h:cx P f (args.map .x) r (args.map fun _=>.dead)):az P f args r:=by
 refine⟨h.1,fun w S vs bS gF=>?_⟩;have Qx:∀(j:Nat) (x:ae) (u:aI) (b:Nat),(args.map ae.x)[j]?=some x->bl x u=some b->False:=by
  intro j x u b ac ad;rw[eZ]at ac;cases ai:args[j]? with
  |none=>rw[ai]at ac;cases ac
  |some y=>rw[ai]at ac;injection ac with ac;subst ac;cases ad
 refine(h.2.2 w ⟨S,fun _=>False,0,fun _=>undef⟩ vs bS ⟨by simp[gF.1],fun j x ac=>?_,fun i j x y b aa au=>(Qx i x _ b aa au).elim,fun b ad=>ad.elim⟩).mono ?_
 ·rw[eZ]at ac;cases ai:args[j]? with
  |none=>rw[ai]at ac;cases ac
  |some y=>
   rw[ai]at ac;injection ac with ac
   subst ac;obtain⟨u,hu,ao⟩:=gF.2 j y ai;exact⟨rfl,by rw[tz hu];exact ao⟩
 ·rintro e w' ⟨v,rfl,ak,ao,ad,_⟩;refine⟨v,rfl,ak.below (fun _ h=>h),ao.mono (fun b ad=>?_) (fun _ _=>rfl),fun b ew=>?_⟩
  ·rcases ad.1 with h|h|h
   ·exact .inl h
   ·exact h.elim
   ·exact .inr h
  ·obtain⟨⟨aa,_⟩,ab⟩:=ad b ew;rcases aa with h|h|h
   ·exact absurd h ab
   ·exact h.elim
   ·exact h.1
def XI{s:aj}{α:Type}:∀(l:List α) (k:Nat),j1 s k (l.map fun _=>ae.dead)
 |[],_=>trivial
 |_::r,k=>⟨trivial,XI r (k+1)⟩
def LG{α:Type}:∀(l:List α) (i:Nat),tL (l.map fun _=>ae.dead) i
 |[],_=>by unfold tL;trivial
 |_::r,0=>rfl
 |_::r,i+1=>LG r i
def H4:∀l:List aG,hh (l.map .x) (l.map fun _=>ae.dead)=true
 |[]=>rfl
 |_::r=>by simp[hh,eB,H4 r]
def cx.mk[Hint]{f:FuncId}{fn:Func}{c:Code}{args:List ae}{r:bH}{outs:List ae}(hm:P.follows .mixedOrders=true)(aw:P.funcs[f]?=some fn) (fJ:(fn.name== "runtime.NumGoroutine")=false)
  (ad:fn.body=some c)(aD:codeOk c=true)(dP:lO (mi outs) c=true)(al:args.length<=fn.ntmps)(fm:hh args outs=true){Qa:Exit->aj->Prop}
  (Qq:∀e s,Qa e s->(e=.normal\/e=.ret)/\kM P s fn.results.toList outs r/\j1 (im s fn.results.toList r) 0 outs)
  (h:(∀x∈args,x.ok)->gh P fn.ntmps c Qa (jk args 0)):cx P f args r outs:=cx.Qp hm aw fJ ad aD dP al fm [] [] (.inl rfl) Qq h
def az.mk[Hint]{f:FuncId}{fn:Func}{c:Code}{args:List aG}{r:bH}(hm:P.follows .mixedOrders=true)(aw:P.funcs[f]?=some fn) (fJ:(fn.name== "runtime.NumGoroutine")=false)
  (ad:fn.body=some c)(aD:codeOk c=true)(al:args.length<=fn.ntmps)
  (h:(∀x∈args,x.ok)->gh P fn.ntmps c (fun e s=>(e=.normal\/e=.ret)/\kM P s fn.results.toList [] r) (u' args 0)):az P f args r:=by
 refine az.ofM (cx.mk hm aw fJ ad aD (by rw[H2];exact Ep c) (by simpa using al) (H4 args) (Qa:=fun e s=>(e=.normal\/e=.ret)/\kM P s fn.results.toList [] r) (fun e s bK=>⟨bK.1,?_,XI args 0⟩) (fun ai=>by rw[<-LF];exact h (fun x fo=>ai (.x x) (hx.2 ⟨x,fo,rfl⟩))));have ki:=bK.2;unfold kM at ki⊢;split at ki
 ·split at ki
  ·unfold B2 at ki⊢;split at ki
   ·exact⟨ki.1,ki.2.1,ki.2.2.1,LG args _⟩
   ·unfold x8 at ki⊢;split at ki
    ·exact⟨ki.1,ki.2.1,ki.2.2.1,LG args _⟩
    ·exact ki.elim
   ·unfold x8 at ki⊢;split at ki
    ·exact⟨ki.1,ki.2.1,ki.2.2.1,LG args _⟩
    ·exact ki.elim
   ·exact ki
   ·exact ki.elim
  ·exact ki.elim
 ·exact ki
end
end
end Go.Ab
