/- Lemmas. -/
import Derived.Test.YtmlnbemjmlogiaaGreatDoorIxGTb
import Derived.LoopN
import Derived.Sort.Grow
import Derived.StillTailTactics
import Derived.Shelf.Bytes.SlIndexWhole
set_option linter.all false
set_option maxHeartbeats 8000000
set_option maxRecDepth 100000
namespace Go.Proofs.YtmlnbemjmlogiaaGreatDoor
open Go Go.Ab Go.IntKind Go.Proofs.Tryz
section
variable [bn][c1 0][cF prog]
def w8:aq:=[99,111,100,105,110,103]
def M9:aq:=[99,104,117,110,107,101,100]
def ll(v:aq):Nat:=if 9<v.length then 200001 else min (bV v) 200001
def nZ(hs:List Head):Nat×Bool:=match dC hs dS with
 |[v]=>if fw 1000 v=true then (ll v,true)else (0,false)
 |_=>(0,false)
def zaG(l:List Head)(al:l.length<=1000000000):az prog 123 [qs l] (.b2 [.one (.int .i64 (nZ l).1),.one (.bool (nZ l).2)]):=by
 have k:=M8 l dS al;unfold nZ;generalize dC l dS=V at*;unfold dS at k;refine az.bd f123 mixed fun aD=>?_;simp;refine aH.of k ?_
 match V with
 |[]=>simp;refine e7 false ?_;simp
 |[v]=>
  have aQ:=MO 1000 (by omega) v;dsimp only;simp;refine b_.of (fun _=>aQ) rfl ?_;cases h:fw 1000 v
  ·simp
  ·obtain⟨aa,ab,au⟩:=Af h;unfold ll;by_cases fA:9<v.length
   ·have SW:(9<(v.length:Int))=True:=aY;rw[av rfl,av fA];simp[SW]
   ·have SW:(9<(v.length:Int))=False:=a8;rw[av rfl,an fA];have bf:=wV v _ (by omega) aa;simp[SW];refine aH.of bf ?_;simp;omega
 |a::b::r=>dsimp only;have aa:((r.length:Int)+1+1=1)=False:=a8;simp[aa];refine e7 false ?_;simp
structure hp where
 st:Int
 io:aq
 hs:List Head
 mt:aq
def hp.row(a:hp):List ag:=[.int .i64 a.st,.str a.io,.list 2 (a.hs.map Head.row),b5 a.mt]
def hI:hp:=⟨0,[],[],[]⟩
def kX(a:hp):Int:=if a.st<100\/599<a.st then 1 else if kS a.io=false then 3 else j8 a.hs
def znq(a:hp):az prog 124 [.agg a.row] (.x (.one (.int .i64 (kX a)))):=by
 have a_:a.row=[.int .i64 a.st,.str a.io,.list 2 (a.hs.map Head.row),b5 a.mt]:=rfl;rw[a_];unfold kX;refine az.bd f124 mixed fun aD=>?_;have aE:=Zp a.io;have aQ:=R4 a.hs;by_cases bw:a.st<100
 ·have c7:(a.st<100)=True:=bW bw;rw[av (.inl bw)];simp[c7]
 have c7:(a.st<100)=False:=bz bw;by_cases bA:599<a.st
 ·have eU:(599<a.st)=True:=bW bA;rw[av (.inr bA)];simp[c7,eU]
 have eU:(599<a.st)=False:=bz bA;rw[an (by omega)];simp[c7,eU];refine aH.of aE ?_;cases kS a.io
 ·simp
 ·simp;refine aH.of aQ ?_;simp
def kY(a:hp):Int:=
 if a.st<200\/a.st=204\/a.st=304 then 1
 else if dC a.hs w8=[M9]then 3
 else if 0<(dC a.hs w8).length then 0
 else if (dC a.hs dS).length=0 then 4
 else if (nZ a.hs).2=true then 2 else 0
def znr(a:hp)(al:a.hs.length<=1000000000):az prog 125 [.agg a.row] (.x (.one (.int .i64 (kY a)))):=by
 have a_:a.row=[.int .i64 a.st,.str a.io,.list 2 (a.hs.map Head.row),b5 a.mt]:=rfl;obtain⟨F,a7⟩:∃F,F=kY a:=⟨_,rfl⟩
 rw[a_,<-a7];clear a_;obtain⟨st,io,hs,mt⟩:=a;dsimp only at al⊢;have aE:=M8 hs w8 al;have aQ:=M8 hs dS al;have bf:=zaG hs al;unfold kY at a7;dsimp only at a7;generalize dC hs w8=C at*;generalize dC hs dS=L at*;generalize nZ hs=N at*;obtain⟨MV,Ai⟩:=N;unfold w8 at aE;unfold dS at aQ;dsimp only at bf a7;refine az.bd f125 mixed fun aD=>?_;simp;refine aH.of aE ?_;simp;refine aH.of aQ ?_;by_cases bw:st<200
 ·have c7:(st<200)=True:=bW bw;rw[av (.inl bw)]at a7;subst a7;simp[c7]
 have c7:(st<200)=False:=bz bw;by_cases bA:st=204
 ·rw[av (.inr (.inl bA))]at a7;subst a7 bA;simp
 have eU:(st=204)=False:=bz bA;by_cases cJ:st=304
 ·rw[av (.inr (.inr cJ))]at a7;subst a7 cJ;simp
 have jH:(st=304)=False:=bz cJ;rw[an (by omega)]at a7
 match C with
 |[]=>
  rw[an (by simp),an (by simp)]at a7;cases L with
  |nil=>rw[av (by simp)]at a7;subst a7;simp[c7,eU,jH]
  |cons p q=>
   rw[an (by simp)]at a7;have bx:((q.length:Int)+1=0)=False:=a8;simp[c7,eU,jH,bx];refine aH.of bf ?_;cases Ai
   ·rw[an (by decide)]at a7;subst a7;simp
   ·rw[av rfl]at a7;subst a7;simp
 |[p]=>
  by_cases h:p=M9
  ·rw[av (by rw[h])]at a7;subst a7;have bx:(p=[99,104,117,110,107,101,100])=True:=bW h;simp[c7,eU,jH,bx]
  ·rw[an (by simpa using h),av (by simp)]at a7;subst a7;have bx:(p=[99,104,117,110,107,101,100])=False:=bz h;simp[c7,eU,jH,bx]
 |p::q::r=>rw[an (by simp),av (by simp)]at a7;subst a7;have aa:((r.length:Int)+1+1=1)=False:=a8;have ab:(0<(r.length:Int)+1+1)=True:=aY;simp[c7,eU,jH,aa,ab]
def ln(b:aq):Nat->List Head->Nat->List Head×Nat×Bool
 |0,_,_=>([],b.length,false)
 |k+1,acc,a=>
  if a<b.length then
   if eO b a=false then ([],a,false)
   else if fj b a=[]then (acc,eE b a,true)
   else if (nU (fj b a)).isSome=false then ([],a,false)
   else ln b k (acc++[headD (fj b a)]) (eE b a)
  else ([],b.length,false)
def lV(b:aq)(a:Nat):List Head×Nat×Bool:=ln b (b.length-a+1) [] a
def SX{b:aq}:∀(n m:Nat) (acc:List Head) (a:Nat),a<=b.length->b.length-a<n->b.length-a<m->ln b n acc a=ln b m acc a
 |0,_,_,_,_,h,_=>by omega
 |_,0,_,_,_,_,h=>by omega
 |n+1,m+1,acc,a,h,aa,ab=>by
  unfold ln;by_cases ar:a<b.length
  ·rw[av ar,av ar];cases ap:eO b a
   ·rfl
   ·have ay:=Ag ap;rw[SX n m _ _ (oF h) (by omega) (by omega)]
  ·rw[an ar,an ar]
def zns(b:aq)(a:Nat)(ad:b.length<=16777216)(bj:a<=b.length):az prog 173 [.one (b5 b),.one (.int .i64 a)] (.b2 [qs (lV b a).1,.one (.int .i64 (lV b a).2.1),.one (.bool (lV b a).2.2)]):=by
 obtain⟨R,aC⟩:∃R,R=lV b a:=⟨_,rfl⟩
 rw[<-aC];unfold lV at aC;have bU:=e8 b;refine az.bd f173 mixed fun aD=>?_;simp;refine ck.of (List Head×Nat) (fun x=>[(0,.x (.one (b5 b))),(1,.x (.one (.int .i64 x.2))),(7,.own 153 2 (x.1.map Head.row))])
  (fun x=>(x.2<=b.length/\x.1.length<=x.2)/\R=ln b (b.length-x.2+1) x.1 x.2) (fun x=>b.length-x.2) ([],a) ⟨⟨bj,cj _⟩,aC⟩ ?_ ?_
 ·simp
 rintro⟨acc,a⟩ ⟨⟨bj,oi⟩,af⟩;dsimp only at bj oi af⊢;unfold ln at af;by_cases ar:a<b.length
 ·rw[av ar]at af;have aS:((a:Int)<(b.length:Int))=True:=aY;have aE:=I1 b a ad bj;have ay:=Ag (b:=b) (a:=a);have cG:=oF bj;have gQ:=Sa b a;have aQ:=ZN (fj b a) (by omega);have cu:eO b a=true->ln b (b.length-a) (acc++[headD (fj b a)]) (eE b a)=ln b (b.length-eE b a+1) (acc++[headD (fj b a)]) (eE b a):=fun h=>SX _ _ _ _ cG (by have:=ay h;omega) (by omega);have a_:∀h:Head,h.row=[.str h.name,.str h.value]:=fun _=>rfl;rw[a_]at aQ;generalize eO b a=B at*;generalize eE b a=n at*;generalize headD (fj b a)=H at*;generalize (nU (fj b a)).isSome=O at*;generalize fj b a=S at*;simp[bU,aS];refine aH.of aE ?_;cases B
  ·rw[av rfl]at af;subst af;simp
  rw[an (by decide)]at af;by_cases bS:S=[]
  ·rw[av bS]at af;subst af bS;simp
  rw[an bS]at af;have Zx:(S=[])=False:=bz bS;simp[Zx];refine aH.of aQ ?_;cases O
  ·rw[av rfl]at af;subst af;simp
  rw[an (by decide),cu rfl]at af;have ay:=ay rfl;simp;refine⟨⟨by omega,by unfold maxLen;omega⟩,?_⟩;refine bt.of (acc++[H],n) ⟨⟨cG,by simp only[eG,qN];omega⟩,af⟩ (by simp only;omega) ?_;simp[a_]
 ·rw[an ar]at af;subst af;have aS:((a:Int)<(b.length:Int))=False:=a8;simp[bU,aS]
def ud:aq:=[87,69,66,47,49,32]
def my(b:aq):hp×Nat×Bool:=
 if eO b 0=false\/e9 (fj b 0) ud=false\/(32:UInt8)∉(fj b 0).drop 6\/fw 9 (ed 32 ((fj b 0).drop 6))=false then (hI,0,false)
 else (⟨bV (ed 32 ((fj b 0).drop 6)),hq 32 ((fj b 0).drop 6),(lV b (eE b 0)).1,[]⟩,(lV b (eE b 0)).2.1,(lV b (eE b 0)).2.2)
def znt(b:aq)(ad:b.length<=16777216):az prog 122 [.one (b5 b)] (.b2 [.agg (my b).1.row,.one (.int .i64 (my b).2.1),.one (.bool (my b).2.2)]):=by
 have aZ:hI.row=[.int .i64 0,.str [],.list 2 [],.list 1 []]:=rfl;have a_:∀a:hp,a.row=[.int .i64 a.st,.str a.io,.list 2 (a.hs.map Head.row),b5 a.mt]:=fun _=>rfl;obtain⟨R,aC⟩:∃R,R=my b:=⟨_,rfl⟩
 rw[<-aC];unfold my at aC;have aE:=I1 b 0 ad (cj _);have aQ:=Zz (fj b 0) ud;have dz:=zns b (eE b 0) ad (oF (cj _));generalize eO b 0=B at*;generalize eE b 0=n at*;generalize fj b 0=S at*;generalize lV b n=H at*;have cS:ud.length=6:=rfl;rw[cS]at aQ;generalize e9 S ud=P at*;have ax:P=true->(if P=true then S.drop 6 else S)=S.drop 6:=fun h=>by rw[av h]
 have bf:=znu (if P=true then S.drop 6 else S) 32;have bM:=MO 9 (by omega) (ed 32 (if P=true then S.drop 6 else S));unfold ud at aQ;refine az.bd f122 mixed fun aD=>?_;simp;refine aH.of aE ?_;simp;refine aH.of aQ ?_;simp;refine aH.of bf ?_;cases B
 ·rw[av (.inl rfl)]at aC;subst aC;simp;refine e7 false ?_;simp[aZ]
 cases P
 ·rw[av (.inr (.inl rfl))]at aC;subst aC;simp;refine e7 false ?_;simp[aZ]
 rw[ax rfl]at bf bM⊢;generalize S.drop 6=T at*;by_cases hm:(32:UInt8)∈T;rotate_left
 ·rw[av (.inr (.inr (.inl hm)))]at aC;subst aC;have eh:((32:UInt8)∈T)=False:=bz hm;simp[eh];refine e7 false ?_;simp[aZ]
 have eh:((32:UInt8)∈T)=True:=bW hm;simp[eh];refine b_.of (fun _=>bM) rfl ?_;cases ak:fw 9 (ed 32 T)
 ·rw[av (.inr (.inr (.inr ak)))]at aC;subst aC;simp[aZ]
 obtain⟨aa,ab,au⟩:=Af ak;have iV:=wV (ed 32 T) _ (by omega) aa;rw[an (by simp[ak,hm])]at aC;subst aC;simp;refine aH.of iV ?_;simp;refine aH.of dz ?_;simp[a_]
def M_:∀{w b:aq},ho b w=0->w.length<=b.length
 |[],b,_=>cj _
 |d::w,[],h=>by unfold ho at h;cases h
 |d::w,c::b,h=>by
  unfold ho at h;by_cases ap:c=d
  ·rw[av ap]at h;have:=M_ h;simp only[hz];omega
  ·rw[an ap]at h;cases h
def C3:∀(b w:aq),ho b w<=2
 |_,[]=>by unfold ho;omega
 |[],_::_=>by unfold ho;omega
 |c::b,d::w=>by
  unfold ho;split
  ·exact C3 b w
  ·omega
def znv{a b:Nat}(h:a<b):(a<=b)=True:=aY
def mz:Nat->Nat->aq->Option (Nat×Nat)
 |i,n,[]=>some (i,n)
 |i,n,c::r=>if sU c<16 then (if 0<i/\n=0 then none else if 65536<16*n+sU c then none else mz (i+1) (16*n+sU c) r)else some (i,n)
def zaH:∀{l:aq} {i n j m:Nat},n<=65536->mz i n l=some (j,m)->j<=i+l.length/\m<=65536
 |[],i,n,j,m,aX,h=>by unfold mz at h;cases h;exact⟨by simp,aX⟩
 |c::r,i,n,j,m,aX,h=>by
  unfold mz at h;split at h
  ·split at h
   ·cases h
   ·split at h
    ·cases h
    ·obtain⟨aa,ab⟩:=zaH (by omega) h;exact⟨by simp only[hz];omega,ab⟩
  ·cases h;exact⟨by omega,aX⟩
def ja:aq:=[13,10]
def gK(b:aq):aq×Nat×Nat:=match mz 0 0 b with
 |none=>([],0,2)
 |some (i,n)=>
  if i=b.length then ([],0,1)
  else if i=0 then ([],0,2)
  else if ho (b.drop i) ja≠0 then ([],0,ho (b.drop i) ja)
  else if b.length-(i+2)<n then ([],0,1)
  else if ho (b.drop (i+2+n)) ja≠0 then ([],0,ho (b.drop (i+2+n)) ja)
  else ((b.drop (i+2)).take n,i+2+n+2,0)
def znw(b:aq)(ad:b.length<=16777216):az prog 174 [.one (b5 b)] (.b2 [.one (b5 (gK b).1),.one (.int .i64 (gK b).2.1),.one (.int .i64 (gK b).2.2)]):=by
 obtain⟨R,aC⟩:∃R,R=gK b:=⟨_,rfl⟩
 rw[<-aC];unfold gK at aC;have bU:=e8 b;refine az.bd f174 mixed fun aD=>?_;simp;refine ck.of (Nat×Nat) (fun x=>[(0,.x (.one (b5 b))),(5,.x (.one (.int .i64 x.2))),(6,.x (.one (.int .i64 x.1)))])
  (fun x=>(x.1<=b.length/\x.2<=65536)/\mz 0 0 b=mz x.1 x.2 (b.drop x.1)) (fun x=>b.length-x.1) (0,0) ⟨⟨cj _,cj _⟩,rfl⟩ ?_ ?_
 ·simp
 rintro⟨i,n⟩ ⟨⟨ah,aX⟩,bS⟩;dsimp only at ah aX bS⊢;rw[bS]at aC;by_cases ar:i<b.length
 ·have aS:((i:Int)<(b.length:Int))=True:=aY;have bF:∀h,(bq b)[i]'h=[.int .u8 b[i].toNat]:=fun h=>by simp[bq,ie]
  have iE:=jw ar;have aE:=znn b[i];have aF:=zaE b[i];rw[iE]at aC;unfold mz at aC;simp[bU,ar,aS,bF];refine b_.of (fun _=>aE) rfl ?_;obtain⟨v,Ck⟩:∃v,v=sU b[i]:=⟨_,rfl⟩
  rw[<-Ck]at aE aF aC⊢;by_cases vm:v<16
  ·rw[av vm]at aC;have An:((v:Int)<16)=True:=aY;have oQ:((n:Int)=0)=(n=0):=by apply propext;omega
   have ds:=bc (16*(n:Int));have dV:=bc (16*(n:Int)+(v:Int));have mn:=bc ((i:Int)+1);by_cases a1:0<i/\n=0
   ·rw[av a1]at aC;subst aC;have yE:=bW a1.1;have Jn:=bW a1.2;simp[An,yE,Jn]
   rw[an a1]at aC;have lL:65536<16*n+v->R=([],0,2):=fun h=>by rw[av h]at aC;exact aC
   by_cases rE:65536<16*n+v
   ·have uJ:(65536<16*(n:Int)+(v:Int))=True:=aY;have aC:=lL rE;subst aC;by_cases yF:0<i
    ·have yE:=bW yF;have Jn:(n=0)=False:=bz fun h=>a1 ⟨yF,h⟩;simp[An,yE,Jn,bU,ar,aS,bF];refine aH.of aE ?_;simp[ds,dV,uJ]
    ·have yE:=bz yF;simp[An,yE,bU,ar,aS,bF];refine aH.of aE ?_;simp[ds,dV,uJ]
   ·rw[an rE]at aC;have uJ:(65536<16*(n:Int)+(v:Int))=False:=a8;have zaI:mz 0 0 b=mz (i+1) (16*n+v) (b.drop (i+1)):=by
     rw[bS,iE]
     conv=>lhs;unfold mz
     rw[<-Ck,av vm,an a1,an rE]
    by_cases yF:0<i
    ·have yE:=bW yF;have Jn:(n=0)=False:=bz fun h=>a1 ⟨yF,h⟩;simp[An,yE,Jn,bU,ar,aS,bF];refine aH.of aE ?_;simp[ds,dV,uJ];refine bt.of (i+1,16*n+v) ⟨⟨ar,by simp only;omega⟩,zaI⟩ (by simp only;omega) ?_;simp[mn]
    ·have yE:=bz yF;simp[An,yE,bU,ar,aS,bF];refine aH.of aE ?_;simp[ds,dV,uJ];refine bt.of (i+1,16*n+v) ⟨⟨ar,by simp only;omega⟩,zaI⟩ (by simp only;omega) ?_;simp[mn]
  ·rw[an vm]at aC;have An:((v:Int)<16)=False:=a8;dsimp only at aC;rw[an (by omega)]at aC;have jV:((i:Int)=(b.length:Int))=False:=a8;by_cases a1:i=0
   ·rw[av a1]at aC;subst aC;subst a1;simp[An,bU];omega
   rw[an a1]at aC;have znx:(i=0)=False:=bz a1;have bw:b4 (bq b) (i:Int) (b.length:Int)=bq (b.drop i):=by unfold b4 bq;rw[kO,kO,k4 (by simp),CC]
   have aQ:=zaF (b.drop i) ja (by rw[eP];omega) (by decide);have zny:=M_ (w:=ja) (b:=b.drop i);generalize ho (b.drop i) ja=F at*;have ke:ja.length=2:=rfl;rw[ke,eP]at zny;unfold ja at aQ;unfold b5 at aQ;have cG:=znv ar;simp[An,bU,jV,znx,bw,cG];refine aH.of aQ ?_;by_cases a6:F=0;rotate_left
   ·rw[av a6]at aC;subst aC;have qC:(F=0)=False:=bz a6;simp[qC]
   rw[an (by simp[a6])]at aC;subst a6;have m7:=bc ((i:Int)+2);have rg:=bc ((b.length:Int)-((i:Int)+2));by_cases hs:b.length-(i+2)<n
   ·rw[av hs]at aC;subst aC;have cT:((b.length:Int)-((i:Int)+2)<(n:Int))=True:=aY;simp[bU,m7,rg,cT]
   rw[an hs]at aC;have cT:((b.length:Int)-((i:Int)+2)<(n:Int))=False:=a8;have rn:=bc ((i:Int)+2+(n:Int));have yn:=bc ((i:Int)+2+(n:Int)+2);have bA:b4 (bq b) ((i:Int)+2+(n:Int)) (b.length:Int)=bq (b.drop (i+2+n)):=by
    have:((i:Int)+2+(n:Int))=((i+2+n:Nat):Int):=by omega
    rw[this];unfold b4 bq;rw[kO,kO,k4 (by simp),CC]
   have cJ:b4 (bq b) ((i:Int)+2) ((i:Int)+2+(n:Int))=bq ((b.drop (i+2)).take n):=by
    have ax:((i:Int)+2+(n:Int))=((i+2+n:Nat):Int):=by omega
    have aK:((i:Int)+2)=((i+2:Nat):Int):=by omega
    rw[ax,aK];unfold b4 bq;rw[kO,kO,Fy,CC,GO];congr 1;omega
   have bf:=zaF (b.drop (i+2+n)) ja (by rw[eP];omega) (by decide);generalize ho (b.drop (i+2+n)) ja=F at*;unfold ja at bf;unfold b5 at bf;have d9:(0<=(i:Int)+2+(n:Int))=True:=aY;have zaJ:((i:Int)+2+(n:Int)<=(b.length:Int))=True:=aY;have znz:(0<=(i:Int)+2)=True:=aY;have znA:((i:Int)+2<=(i:Int)+2+(n:Int))=True:=aY;simp[bU,m7,rg,rn,cT,bA,d9,zaJ];refine aH.of bf ?_;by_cases a6:F=0;rotate_left
   ·rw[av a6]at aC;subst aC;have qC:(F=0)=False:=bz a6;simp[qC]
   rw[an (by simp[a6])]at aC;subst a6 aC;simp[bU,rn,yn,cJ,zaJ,znz,znA]
 ·have aS:((i:Int)<(b.length:Int))=False:=a8;obtain rfl:i=b.length:=by omega
  have:b.drop b.length=[]:=wT;rw[this]at aC;unfold mz at aC;dsimp only at aC;rw[av rfl]at aC;subst aC;simp[bU,aS];refine gH 0 ?_;simp[bU]
def M'{b:aq}(aa:(gK b).2.2≠1)(ab:(gK b).2.2≠2):4<=(gK b).2.1/\(gK b).2.1<=b.length/\(gK b).1.length<=(gK b).2.1:=by
 obtain⟨R,aC⟩:∃R,R=gK b:=⟨_,rfl⟩
 rw[<-aC]at aa ab⊢;unfold gK at aC;cases hs:mz 0 0 b with
 |none=>rw[hs]at aC;subst aC;exact absurd rfl ab
 |some p=>
  obtain⟨i,n⟩:=p;rw[hs]at aC;dsimp only at aC;by_cases bw:i=b.length
  ·rw[av bw]at aC;subst aC;exact absurd rfl aa
  rw[an bw]at aC;by_cases bA:i=0
  ·rw[av bA]at aC;subst aC;exact absurd rfl ab
  rw[an bA]at aC;have g1:=C3 (b.drop i) ja;by_cases cJ:ho (b.drop i) ja=0;rotate_left
  ·rw[av cJ]at aC;subst aC;simp only at aa ab;omega
  rw[an (by simp[cJ])]at aC;by_cases fv:b.length-(i+2)<n
  ·rw[av fv]at aC;subst aC;exact absurd rfl aa
  rw[an fv]at aC;have g2:=C3 (b.drop (i+2+n)) ja;by_cases lh:ho (b.drop (i+2+n)) ja=0;rotate_left
  ·rw[av lh]at aC;subst aC;simp only at aa ab;omega
  rw[an (by simp[lh])]at aC;have eV:=M_ lh;have fa:=M_ cJ;have ke:ja.length=2:=rfl;rw[ke,eP]at fa eV;subst aC;simp only[e',eP];omega
def znB(b:aq):(gK b).2.2<=2:=by
 unfold gK;split
 ·simp
 ·split
  ·simp
  ·split
   ·simp
   ·split
    ·exact C3 _ _
    ·split
     ·simp
     ·split
      ·exact C3 _ _
      ·simp
def kr(b:aq):Nat->aq->Nat->aq×Nat×Nat×Int
 |0,_,_=>([],0,0,0)
 |k+1,acc,a=>
  if (gK (b.drop a)).2.2=2 then ([],0,a,10)
  else if (gK (b.drop a)).2.2=1/\acc.length<=200000 then (acc,a,b.length,15)
  else if (gK (b.drop a)).2.2=1 then ([],0,0,2)
  else if 0<(gK (b.drop a)).1.length then kr b k (acc++(gK (b.drop a)).1) (a+(gK (b.drop a)).2.1)
  else if 200000<(acc++(gK (b.drop a)).1).length then ([],0,0,2)
  else if a+(gK (b.drop a)).2.1<b.length then (acc++(gK (b.drop a)).1,a+(gK (b.drop a)).2.1,a+(gK (b.drop a)).2.1,3)
  else (acc++(gK (b.drop a)).1,a+(gK (b.drop a)).2.1,0,0)
def iu(b:aq):aq×Nat×Nat×Int:=kr b (b.length+1) [] 0
def SY{b:aq}:∀(n m:Nat) (acc:aq) (a:Nat),a<=b.length->b.length-a<n->b.length-a<m->kr b n acc a=kr b m acc a
 |0,_,_,_,_,h,_=>by omega
 |_,0,_,_,_,_,h=>by omega
 |n+1,m+1,acc,a,h,aa,ab=>by
  unfold kr;have aX:=M' (b:=b.drop a);rw[eP]at aX;generalize gK (b.drop a)=C at*;by_cases bA:C.2.2=2
  ·rw[av bA,av bA]
  by_cases bw:C.2.2=1
  ·simp only[bw,gW]
  obtain⟨kI,jE,FB⟩:=aX bw bA;rw[SY n m (acc++C.1) (a+C.2.1) (by omega) (by omega) (by omega)]
def znC(b:aq)(ad:b.length<=16777216):az prog 126 [.one (b5 b)] (.b2 [.one (b5 (iu b).1),.one (.int .i64 (iu b).2.1),.one (.int .i64 (iu b).2.2.1),.one (.int .i64 (iu b).2.2.2)]):=by
 obtain⟨R,aC⟩:∃R,R=iu b:=⟨_,rfl⟩
 rw[<-aC];unfold iu at aC;have bU:=e8 b;refine az.bd f126 mixed fun aD=>?_;simp;refine ck.of (aq×Nat) (fun x=>[(0,.x (.one (b5 b))),(6,.own 5 1 (bq x.1)),(7,.x (.one (.int .i64 x.2)))])
  (fun x=>(x.2<=b.length/\x.1.length<=x.2)/\R=kr b (b.length-x.2+1) x.1 x.2) (fun x=>b.length-x.2) ([],0) ⟨⟨cj _,cj _⟩,aC⟩ ?_ ?_
 ·simp
 rintro⟨acc,a⟩ ⟨⟨bj,oi⟩,af⟩;dsimp only at bj oi af⊢;unfold kr at af;have sV:=e8 acc;have aE:=znw (b.drop a) (by rw[eP];omega);have aX:=M' (b:=b.drop a);have au:=znB (b.drop a);rw[eP]at aX;have bw:b4 (bq b) (a:Int) (b.length:Int)=bq (b.drop a):=by unfold b4 bq;rw[kO,kO,k4 (by simp),CC]
 have cu:∀pQ a',a'<=b.length->a<a'->kr b (b.length-a) pQ a'=kr b (b.length-a'+1) pQ a':=fun pQ a' h bx=>SY _ _ _ _ h (by omega) (by omega);generalize gK (b.drop a)=C at*;obtain⟨nQ,vA,Na⟩:=C;dsimp only at*;unfold b5 at aE;simp[bU,bj,bw];refine aH.of aE ?_;by_cases aK:Na=2
 ·rw[av aK]at af;subst af aK;simp
 rw[an aK]at af;by_cases ax:Na=1
 ·subst ax;by_cases hs:acc.length<=200000
  ·rw[av ⟨rfl,hs⟩]at af;subst af;have cT:((acc.length:Int)<=200000)=True:=aY;simp[bU,sV,cT]
  ·rw[an (by omega),av rfl]at af;subst af;have cT:((acc.length:Int)<=200000)=False:=a8;simp[sV,cT]
 rw[an (by omega),an ax]at af;obtain⟨kI,jE,FB⟩:=aX ax aK;have GE:Na=0:=by omega
 subst GE;have ds:=bc ((a:Int)+(vA:Int));have FQ:=e8 nQ;have nD:=Ig acc nQ;by_cases ap:0<nQ.length
 ·rw[av ap]at af;have k9:(0<(nQ.length:Int))=True:=aY;have x1:(0<nQ.length)=True:=bW ap;simp[sV,FQ,ds,x1];refine⟨⟨by omega,by unfold maxLen;omega⟩,?_⟩;rw[cu _ _ (by omega) (by omega)]at af;refine bt.of (acc++nQ,a+vA) ⟨⟨by simp only;omega,by simp only[eG];omega⟩,af⟩ (by simp only;omega) ?_;simp[Ig]
 rw[an ap]at af;have k9:(0<(nQ.length:Int))=False:=a8;have nG:nQ=[]:=SZ.1 (by omega);subst nG;rw[AN]at af;by_cases rE:200000<acc.length
 ·rw[av rE]at af;subst af;have sW:(200000<(acc.length:Int))=True:=aY;simp[sV,ds,sW];exact⟨by omega,by unfold maxLen;omega⟩
 rw[an rE]at af;have sW:(200000<(acc.length:Int))=False:=a8;by_cases hm:a+vA<b.length
 ·rw[av hm]at af;subst af;have eh:((a:Int)+(vA:Int)<(b.length:Int))=True:=aY;simp[bU,sV,ds,sW,eh];exact⟨by omega,by unfold maxLen;omega⟩
 rw[an hm]at af;subst af;have eh:((a:Int)+(vA:Int)<(b.length:Int))=False:=a8;simp[bU,sV,ds,sW,eh];exact⟨by omega,by unfold maxLen;omega⟩
def znD{hs:List Head}{w v:aq}(h:v∈dC hs w):∃x∈hs,x.value=v:=by unfold dC at h;obtain⟨x,ai,e⟩:=hx.1 h;exact⟨x,(Cz.1 ai).1,e⟩
def zaK{b:aq}:∀(k:Nat) (acc:List Head) (a:Nat),a<=b.length->acc.length<=a->(ln b k acc a).2.1<=b.length/\(ln b k acc a).1.length<=b.length
 |0,_,_,_,_=>by unfold ln;exact⟨f_ _,cj _⟩
 |k+1,acc,a,h,bj=>by
  unfold ln;split
  ·split
   ·exact⟨h,cj _⟩
   ·rename_i ap;split
    ·exact⟨oF h,by simp only;omega⟩
    ·split
     ·exact⟨h,cj _⟩
     ·have ay:=Ag (b:=b) (a:=a) (by simpa using ap);exact zaK k _ _ (oF h) (by rw[eG,qN];omega)
  ·exact⟨f_ _,cj _⟩
def zaL(b:aq):(my b).2.1<=b.length/\(my b).1.hs.length<=b.length:=by
 unfold my;split
 ·exact⟨cj _,cj _⟩
 ·have h:=zaK (b:=b) (b.length-eE b 0+1) [] (eE b 0) (oF (cj _)) (cj _);exact h
def lo(b:aq)(t:hp)(at':Nat):hp×Int×Nat×Int:=
 if kX t≠0 then (hI,0,0,if kY t=2/\(nZ t.hs).2=true/\200000<(nZ t.hs).1 then 2 else kX t)
 else if kY t=0 then (hI,0,0,12)
 else if kY t=1 then (if 0<b.length-at' then (t,1,at',3)else (t,1,0,0))
 else if kY t=3 then
  (if (iu (b.drop at')).2.2.2=2 then (hI,0,0,2)
   else if (iu (b.drop at')).2.2.2=10 then (hI,0,at'+(iu (b.drop at')).2.2.1,10)
   else if (iu (b.drop at')).2.2.2≠0 then ({t with mt:=(iu (b.drop at')).1},3,at'+(iu (b.drop at')).2.2.1,(iu (b.drop at')).2.2.2)
   else ({t with mt:=(iu (b.drop at')).1},3,0,0))
 else if kY t=4 then (if 200000<b.length-at' then (hI,0,0,2)else ({t with mt:=b.drop at' },4,0,0))
 else if 200000<(nZ t.hs).1 then (hI,0,0,2)
 else if b.length-at'<(nZ t.hs).1 then ({t with mt:=(b.drop at').take (min (nZ t.hs).1 (b.length-at'))},kY t,b.length,15)
 else if (nZ t.hs).1<b.length-at' then ({t with mt:=(b.drop at').take (min (nZ t.hs).1 (b.length-at'))},kY t,at'+(nZ t.hs).1,3)
 else ({t with mt:=(b.drop at').take (min (nZ t.hs).1 (b.length-at'))},kY t,0,0)
def hc(b:aq):hp×Int×Nat×Int:=
 if 400000<b.length then (hI,0,0,2)
 else if (my b).2.2=false then (hI,0,(my b).2.1,10)
 else lo b (my b).1 (my b).2.1
def S1{b:aq}:∀(k:Nat) (acc:aq) (a:Nat),a<=b.length->(kr b k acc a).2.2.1<=b.length
 |0,_,_,_=>cj _
 |k+1,acc,a,h=>by
  unfold kr;have aX:=M' (b:=b.drop a);rw[eP]at aX;split
  ·exact h
  ·rename_i bA;split
   ·exact f_ _
   ·split
    ·exact cj _
    ·rename_i bw;obtain⟨kI,jE,_⟩:=aX bw bA;split
     ·exact S1 k _ _ (by omega)
     ·split
      ·exact cj _
      ·split
       ·simp only;omega
       ·exact cj _
def znE(b:aq):az prog 71 [.one (b5 b)] (.b2 [.agg (hc b).1.row,.one (.int .i64 (hc b).2.1),.one (.int .i64 (hc b).2.2.1),.one (.int .i64 (hc b).2.2.2)]):=by
 have aZ:hI.row=[.int .i64 0,.str [],.list 2 [],.list 1 []]:=rfl;have a_:∀a:hp,a.row=[.int .i64 a.st,.str a.io,.list 2 (a.hs.map Head.row),b5 a.mt]:=fun _=>rfl;obtain⟨R,aC⟩:∃R,R=hc b:=⟨_,rfl⟩
 rw[<-aC];unfold hc at aC;have bU:=e8 b;refine az.bd f71 mixed fun aD=>?_;by_cases aa:400000<b.length
 ·rw[av aa]at aC;subst aC;have dd:(400000<(b.length:Int))=True:=aY;simp[bU,dd,aZ]
 rw[an aa]at aC;have dd:(400000<(b.length:Int))=False:=a8;have aE:=znt b (by omega);obtain⟨bF,zHx⟩:=zaL b;generalize my b=T at*;obtain⟨t,at',ok⟩:=T;dsimp only at*;rw[a_ t]at aE;simp[bU,dd];refine aH.of aE ?_;cases ok
 ·rw[av rfl]at aC;subst aC;simp[aZ]
 rw[an (by decide)]at aC;have aQ:=zaG t.hs (by omega);have bf:=znq t;have bM:=znr t (by omega);rw[a_ t]at bf bM;unfold lo at aC;generalize nZ t.hs=L at*;obtain⟨yG,znF⟩:=L;generalize kX t=F at*;generalize kY t=b6 at*;dsimp only at*;simp;refine aH.of aQ ?_;simp;refine aH.of bf ?_;by_cases a6:F=0;rotate_left
 ·rw[av a6]at aC;have qC:(F=0)=False:=bz a6;simp[qC];refine aH.of bM ?_;by_cases q1:b6=2
  ·have yh:(b6=2)=True:=bW q1;cases znF
   ·rw[an (by simp)]at aC;subst aC;simp[yh,aZ]
   ·by_cases d_:200000<yG
    ·rw[av ⟨q1,rfl,d_⟩]at aC;subst aC;have S2:(200000<(yG:Int))=True:=aY;simp[yh,S2,aZ]
    ·rw[an (by simp[d_])]at aC;subst aC;have S2:(200000<(yG:Int))=False:=a8;simp[yh,S2,aZ]
  ·rw[an (by simp[q1])]at aC;subst aC;have yh:(b6=2)=False:=bz q1;simp[yh,aZ]
 rw[an (by simp[a6])]at aC;subst a6;simp;refine aH.of bM ?_;have FR:=e8 (b.drop at');rw[eP]at FR;have Ao:(at'<=b.length)=True:=bW bF;have bw:b4 (bq b) (at':Int) (b.length:Int)=bq (b.drop at'):=by unfold b4 bq;rw[kO,kO,k4 (by simp),CC]
 by_cases f0:b6=0
 ·rw[av f0]at aC;subst f0 aC;simp[bU,Ao,bw,aZ]
 rw[an f0]at aC;have zaM:(b6=0)=False:=bz f0;by_cases f1:b6=1
 ·rw[av f1]at aC;subst f1;by_cases g:0<b.length-at'
  ·rw[av g]at aC;subst aC;simp[bU,FR,Ao,bw,a_];omega
  ·rw[an g]at aC;subst aC;simp[bU,FR,Ao,bw,a_];omega
 rw[an f1]at aC;have zaN:(b6=1)=False:=bz f1;by_cases f3:b6=3
 ·rw[av f3]at aC;subst f3;have dz:=znC (b.drop at') (by rw[eP];omega);have Ir:=S1 (b:=b.drop at') ((b.drop at').length+1) [] 0 (cj _);change (iu (b.drop at')).2.2.1<=_ at Ir;rw[eP]at Ir;generalize iu (b.drop at')=znG at*;obtain⟨nQ,vA,ce,C4⟩:=znG;dsimp only at*;unfold b5 at dz;have ds:=bc ((at':Int)+(ce:Int));simp[bU,Ao,bw];refine aH.of dz ?_;by_cases aK:C4=2
  ·rw[av aK]at aC;subst aC aK;simp[aZ]
  rw[an aK]at aC;have xE:(C4=2)=False:=bz aK;by_cases Nb:C4=10
  ·rw[av Nb]at aC;subst aC Nb;simp[aZ,ds]
  rw[an Nb]at aC;have znH:(C4=10)=False:=bz Nb;by_cases cC:C4=0
  ·rw[an (by simp[cC])]at aC;subst aC cC;simp[a_]
  ·rw[av cC]at aC;subst aC;have znI:(C4=0)=False:=bz cC;simp[xE,znH,znI,ds,a_]
 rw[an f3]at aC;have zaO:(b6=3)=False:=bz f3;by_cases f4:b6=4
 ·rw[av f4]at aC;subst f4;by_cases g:200000<b.length-at'
  ·rw[av g]at aC;subst aC;have bX:(200000<((b.length-at':Nat):Int))=True:=aY;simp[bU,FR,Ao,bw,bX,aZ]
  ·rw[an g]at aC;subst aC;have bX:(200000<((b.length-at':Nat):Int))=False:=a8;simp[bU,FR,Ao,bw,bX,a_];exact⟨by omega,by unfold maxLen;omega⟩
 rw[an f4]at aC;have zaP:(b6=4)=False:=bz f4;by_cases g:200000<yG
 ·rw[av g]at aC;subst aC;have bX:(200000<(yG:Int))=True:=aY;simp[bU,Ao,bw,zaM,zaN,zaO,zaP,bX,aZ]
 rw[an g]at aC;have bX:(200000<(yG:Int))=False:=a8;have ds:=bc ((at':Int)+(yG:Int));have em:(min (yG:Int) ((b.length-at':Nat):Int)).toNat=min yG (b.length-at'):=by omega
 simp[bU,FR,Ao,bw,zaM,zaN,zaO,zaP,bX,ds,em];refine⟨⟨by omega,by omega⟩,⟨by omega,by unfold maxLen;omega⟩,fun q=>?_,fun q=>⟨fun dt=>?_,fun dt=>?_⟩⟩
 ·rw[av q]at aC;subst aC;simp[a_]
 ·rw[an (by omega),av dt]at aC;subst aC;simp[a_]
 ·rw[an (by omega),an (by omega)]at aC;subst aC;simp[a_]
open Go.Lib Go.RowKit
def zaQ(b:aq):∀(n a:Nat) (L:List Rec) (M:List Mark),L.length=M.length->(lk n b a L M).2.2.2=0->kq (lk n b a L M).1=0/\(lk n b a L M).2.1.length=(lk n b a L M).1.length
 |0,_,_,_,_,_=>⟨rfl,rfl⟩
 |n+1,a,L,M,h,a1=>by
  unfold lk at a1⊢;split at a1
  ·rename_i ar;rw[av ar];split at a1
   ·rename_i aw;exact absurd a1 aw
   ·rename_i aw;rw[an aw];exact zaQ b n _ _ _ (by simp[h]) a1
  ·rename_i ar;rw[an ar];split at a1
   ·rename_i aw;exact absurd a1 aw
   ·rename_i aw;rw[an aw];exact⟨nY aw,h.symm⟩
def Ap{b:aq}(h:(cE b).2.2.2=0):kq (cE b).1=0/\(cE b).2.1.length=(cE b).1.length:=by
 unfold cE at*;split at h
 ·cases h
 ·rename_i ad;rw[an ad];exact zaQ b _ _ _ _ rfl h
def C5(l:List Head)(w:aq)(al:l.length<=1000000000):az prog 53 [qs l,.one (.str w)] (.x (strs (dC l w))):=by
 refine az.bd f53 mixed fun aD=>?_;simp;refine ck.of Nat (fun i=>[(0,.x (.one (.list 2 (l.map Head.row)))),(1,.x (.one (.str w))),(5,.own 9 1 ((dC (l.take i) w).map fun s=>[ag.str s])),(6,.x (.one (.int .i64 i)))]) (fun i=>i<=l.length) (fun i=>l.length-i) 0 (cj _) ?_ ?_
 ·simp[dC]
 rintro i ah;by_cases ar:i<l.length
 ·have aS:((i:Int)<(l.length:Int))=True:=aY;have bC:=bc ((i:Int)+1);have a_:l[i].row=[.str l[i].name,.str l[i].value]:=rfl;have gy:l.take (i+1)=l.take i++[l[i]]:=k6 ar;have aF:(dC (l.take i) w).length<=i:=jc (M6 _ _) (by rw[e'];omega);simp[ar,aS,a_];refine aH.of (Rv l[i].name) ?_;by_cases bo:eN l[i].name=w
  ·have vz:(eN l[i].name=w)=True:=bW bo;simp[vz,ar,aS,a_];refine⟨⟨by omega,by unfold maxLen;omega⟩,?_⟩;refine bt.of (i+1) ar (by omega) ?_;have c0:dC (l.take (i+1)) w=dC (l.take i) w++[l[i].value]:=by rw[gy,M7,av bo]
   simp[bC,c0]
  ·have vz:(eN l[i].name=w)=False:=bz bo;simp[vz];refine bt.of (i+1) ar (by omega) ?_;have c0:dC (l.take (i+1)) w=dC (l.take i) w:=by rw[gy,M7,an bo,AN]
   simp[bC,c0]
 ·have aS:((i:Int)<(l.length:Int))=False:=a8;obtain rfl:i=l.length:=by omega
  simp[aS]
def S3(l:List Rec)(w:aq)(al:l.length<=1000000000):az prog 86 [fP l,.one (.str w)] (.x (.one (.int .i64 (jN (fun r:Rec=>r.id==w) l)))):=by
 have dW:=yA (fun r:Rec=>r.id==w) l;generalize jN (fun r:Rec=>r.id==w) l=I at*;unfold fP;refine az.bd f86 mixed fun aD=>?_;simp;refine ck.of Nat (fun i=>[(0,.x (.one (.list 7 (l.map Rec.row)))),(1,.x (.one (.str w))),(5,.x (.one (.int .i64 i)))])
  (fun i=>i<=l.length/\∀(j:Nat) (h:j<l.length),j<i->(l[j].id==w)=false) (fun i=>l.length-i) 0 ⟨cj _,fun j _ h=>by omega⟩ ?_ ?_
 ·simp
 rintro i ⟨ah,am⟩;by_cases ar:i<l.length
 ·have aS:((i:Int)<(l.length:Int))=True:=aY;have bC:=bc ((i:Int)+1);have a_:l[i].row=[.int .i64 l[i].kind,.str l[i].id,.str l[i].of,.int .i64 l[i].time,.str l[i].key,.list 2 (l[i].aT.map Head.row),b5 l[i].block]:=rfl;by_cases bo:l[i].id=w
  ·have vz:(l[i].id=w)=True:=bW bo;have lc:I=(i:Int):=by
    have hU:l.findIdx? (fun r:Rec=>r.id==w)=some i:=by rw[kT];exact⟨ar,by simpa using bo,fun j ac=>by rw[am j (by omega) ac];simp⟩
    rcases dW with⟨_,ab⟩|⟨k,aa,ab,_⟩
    ·rw[ab]at hU;cases hU
    ·rw[ab]at hU;cases hU;exact aa
   subst lc;simp[ar,aS,a_,vz]
  ·have vz:(l[i].id=w)=False:=bz bo;simp[ar,aS,a_,vz];refine bt.of (i+1) ⟨ar,fun j h ac=>?_⟩ (by omega) ?_
   ·rcases mH j i with bx|bx
    ·exact am j h bx
    ·obtain rfl:j=i:=by omega
     simpa using bo
   ·simp[bC]
 ·have aS:((i:Int)<(l.length:Int))=False:=a8;have lc:I=-1:=by
   rcases dW with⟨aa,_⟩|⟨k,_,ab,ak⟩
   ·exact aa
   ·obtain⟨_,he,_⟩:=kT.1 ab;rw[am k ak (by omega)]at he;cases he
  subst lc;simp[aS]
def znJ(a:hp):az prog 93 [.agg a.row] (.x (.one (.int .i64 (kX a)))):=by
 have a_:a.row=[.int .i64 a.st,.str a.io,.list 2 (a.hs.map Head.row),b5 a.mt]:=rfl;obtain⟨F,a7⟩:∃F,F=kX a:=⟨_,rfl⟩
 rw[a_,<-a7];unfold kX at a7;have rU:=Ry a.st 100 599;have aE:=Zq a.io;have aQ:=Zr a.hs;refine az.bd f93 mixed fun aD=>?_;simp;refine aH.of rU ?_;by_cases c:a.st<100\/599<a.st
 ·rw[av c]at a7;subst a7;have ad:dh 100 599 a.st=false:=by unfold dh;rw[ss,rp,rp];omega
  rw[ad];simp
 rw[an c]at a7;have ad:dh 100 599 a.st=true:=by unfold dh;rw[b7,mA,mA];omega
 rw[ad];simp;refine aH.of aE ?_;cases aF:kS a.io
 ·rw[av aF]at a7;subst a7;simp
 ·rw[an (by simp[aF])]at a7;subst a7;simp;refine aH.of aQ ?_;simp
def oR(s:aq):Bool:=s.all da&&(decide (s≠[])&&(decide (s.length=1) ||decide (s.head?≠some 48)))
def zaR(s:aq):az prog 144 [.one (.str s)] (.x (.one (.bool (oR s)))):=by
 have k:=vk s;unfold oR;refine az.bd f144 mixed fun aD=>?_;simp;refine aH.of k ?_;cases s with
 |nil=>simp
 |cons c r=>
  cases aA:(c::r).all da
  ·simp
  ·have aa:((c.toNat:Int)=48)=(c=48):=by
    apply propext;constructor
    ·intro h;exact su.1 (by show c.toNat=48;omega)
    ·rintro rfl;rfl
   cases r with
   |nil=>simp
   |cons d q=>
    have ab:((q.length:Int)+1+1=1)=False:=a8;simp[ab];refine⟨by omega,?_⟩;have au:((q.length:Int)+1+1==1)=false:=by rw[jj];omega
    rw[au];by_cases ap:c=48
    ·subst ap;rfl
    ·have aN:((c.toNat:Int) != 48)=true:=by
      rw[uY];exact fun h=>ap (su.1 (by show c.toNat=48;omega))
     rw[aN,iI ap];rfl
def pB(s:aq):Bool:=decide ((13:UInt8)∉s)&&decide ((10:UInt8)∉s)
def zaS(s:aq):az prog 145 [.one (.str s)] (.x (.one (.bool (pB s)))):=by
 have aE:=strings_IndexByte s 13;have aQ:=strings_IndexByte s 10;unfold pB;unfold fu at aE aQ;refine az.bd f145 mixed fun aD=>?_;simp;refine aH.of aE ?_;by_cases aa:(13:UInt8)∈s
 ·have a1:(((ed 13 s).length:Int)<0)=False:=a8;rw[av aa]at aE;have aA:decide ((13:UInt8)∉s)=false:=by simpa using aa
  rw[aA];rw[av aa];simp[a1];refine gH 0 ?_;simp
 ·have aA:decide ((13:UInt8)∉s)=true:=by simpa using aa
  rw[aA];rw[an aa];simp;refine b_.of (fun _=>aQ) rfl ?_;by_cases ab:(10:UInt8)∈s
  ·have a1:(((ed 10 s).length:Int)<0)=False:=a8;have S4:decide ((10:UInt8)∉s)=false:=by simpa using ab
   rw[S4];rw[av ab];simp[a1]
  ·have S4:decide ((10:UInt8)∉s)=true:=by simpa using ab
   rw[S4];rw[an ab];simp
def yH(st:Int)(hs:List Head):Int:=
 if st<200\/st=204\/st=304 then 1
 else if dC hs w8=[M9]then 3
 else if 0<(dC hs w8).length then 0
 else match dC hs dS with
  |[]=>4
  |[v]=>if oR v=true then 2 else 0
  |_=>0
def znK(st:Int)(hs:List Head)(al:hs.length<=1000000000):az prog 91 [.one (.int .i64 st),qs hs] (.x (.one (.int .i64 (yH st hs)))):=by
 obtain⟨F,a7⟩:∃F,F=yH st hs:=⟨_,rfl⟩
 rw[<-a7];have aE:=C5 hs w8 al;have aQ:=C5 hs dS al;unfold yH at a7;generalize dC hs w8=C at*;generalize dC hs dS=V at*;unfold w8 at aE;unfold dS at aQ;refine az.bd f91 mixed fun aD=>?_;by_cases bw:st<200
 ·have c7:(st<200)=True:=bW bw;rw[av (.inl bw)]at a7;subst a7;simp[c7]
 have c7:(st<200)=False:=bz bw;by_cases bA:st=204
 ·rw[av (.inr (.inl bA))]at a7;subst a7 bA;simp
 have eU:(st=204)=False:=bz bA;by_cases cJ:st=304
 ·rw[av (.inr (.inr cJ))]at a7;subst a7 cJ;simp
 have jH:(st=304)=False:=bz cJ;rw[an (by omega)]at a7;simp[c7,eU,jH];refine aH.of aE ?_
 match C with
 |[]=>
  rw[an (by simp),an (by simp)]at a7;simp;refine aH.of aQ ?_
  match V with
  |[]=>dsimp only at a7;subst a7;simp
  |[v]=>
   dsimp only at a7;have bf:=zaR v;simp;refine b_.of (fun _=>bf) rfl ?_;cases aF:oR v
   ·rw[an (by simp[aF])]at a7;subst a7;simp
   ·rw[av aF]at a7;subst a7;simp
  |a::b::r=>
   dsimp only at a7;subst a7;have aa:((r.length:Int)+1+1=1)=False:=a8;have ab:((r.length:Int)+1+1=0)=False:=a8;have au:((r.length:Int)+1+1==1)=false:=by rw[jj];omega
   simp[ab,au];refine e7 false ?_;simp
 |[p]=>
  by_cases h:p=M9
  ·rw[av (by rw[h])]at a7;subst a7;have bx:(p=[99,104,117,110,107,101,100])=True:=bW h;simp[bx]
  ·rw[an (by simpa using h),av (by simp)]at a7;subst a7;have bx:(p=[99,104,117,110,107,101,100])=False:=bz h;simp[bx]
 |p::q::r=>rw[an (by simp),av (by simp)]at a7;subst a7;have aa:((r.length:Int)+1+1=1)=False:=a8;have ab:(0<(r.length:Int)+1+1)=True:=aY;simp[aa,ab]
def znL(a:hp)(h:j8 a.hs=0):yH a.st a.hs=kY a:=by
 have aD:=Z7 h;have znM:∀v∈dC a.hs dS,oR v=fw 1000 v:=by
  intro v aF;obtain⟨x,ai,rfl⟩:=znD aF;have cG:=(aD x ai).2;unfold oR fw I0;rw[gw cG,ig];cases x.value with
  |nil=>simp
  |cons c r=>
   by_cases ao:r=[]
   ·subst ao;simp
   ·by_cases ap:c=48
    ·simp[ao,ap]
    ·simp[ao,ap]
 unfold yH kY nZ;generalize dC a.hs dS=V at*;split
 ·rfl
 ·split
  ·rfl
  ·split
   ·rfl
   ·match V with
    |[]=>simp
    |[v]=>
     dsimp only;rw[znM v (by simp)];by_cases ak:fw 1000 v=true
     ·simp[ak]
     ·simp[ak]
    |x::y::r=>simp
def zaT{c:UInt8}(ap:49<=c.toNat):∀(t:aq),10^t.length<=bV (c::t):=by
 intro t;induction t using R5 with
 |a1=>
  have:bV [c]=c.toNat-48:=by simp[bV]
  rw[this];simp only[ur,Nat.pow_zero];omega
 |aa t b ba=>have h:=MJ (c::t) b;rw[List.cons_append]at h;rw[h,eG,qN,Nat.pow_succ];omega
def znN{v:aq}(h:oR v=true)(al:10<=v.length):1000000000<=bV v:=by
 unfold oR at h;cases v with
 |nil=>simp at al
 |cons c t=>
  have aa:(c::t).length≠1:=by omega
  simp only[b7,gl,hk,pr]at h;have aA:=h.1.1;have ap:c≠48:=by
   rcases h.2.2 with ab|ab
   ·exact absurd ab aa
   ·simpa using ab
  have znO:49<=c.toNat:=by unfold da at aA;have bY:c.toNat≠48:=fun e=>ap (su.1 e);simp at aA;omega
  have:=zaT znO t;have fA:10^9<=10^t.length:=Cs (by decide) (by simp only[hz]at al;omega);omega
def znP(v:aq)(h:oR v=true):az prog 97 [.one (.str v),.one (.int .i64 200001)] (.x (.one (.int .i64 (ll v)))):=by
 have rE:=znN h;have aA:v.all da=true:=by unfold oR at h;rw[b7]at h;exact h.1
 have bY:v≠[]:=by rintro rfl;simp[oR]at h
 have bF:=Mo aA bY;have znQ:1<v.length->v.head?≠some 48:=by
  intro al;unfold oR at h;simp only[b7,gl,hk]at h;rcases h.2.2 with ab|ab
  ·omega
  ·exact ab
 have je:0<v.length:=by
  cases v with
  |nil=>exact absurd rfl bY
  |cons c t=>simp
 obtain⟨N,qv⟩:∃N,N=ll v:=⟨_,rfl⟩
 rw[<-qv];unfold ll at qv;refine az.bd f97 mixed fun aD=>?_;simp;refine ck.of Unit (fun _=>[(0,.x (.one (.str v))),(1,.x (.one (.int .i64 200001)))]) (fun _=>True) (fun _=>0) () trivial ?_ ?_
 ·simp
 rintro⟨⟩ _;have lL:15<v.length->N=200001:=by intro Aq;rw[av (by omega)]at qv;exact qv
 have zaU:v.length<=15->(N:Int)=min (bV v:Int) 200001:=by
  intro Aq;by_cases fA:9<v.length
  ·rw[av fA]at qv;have:=rE (by omega);omega
  ·rw[an fA]at qv;omega
 by_cases aa:v.length=1
 ·have ax:(1<(v.length:Int))=False:=a8;have aK:(15<(v.length:Int))=False:=a8;have k:=wV v _ (by omega) bF;simp[ax,aK];refine aH.of k ?_;simp;exact zaU (by omega)
 ·have ax:(1<(v.length:Int))=True:=aY;obtain⟨c,t,rfl⟩:∃c t,v=c::t:=by
   cases v with
   |nil=>exact absurd rfl bY
   |cons c t=>exact⟨c,t,rfl⟩
  have ap:c≠48:=by simpa using znQ (by omega)
  have k9:((c.toNat:Int)=48)=False:=bz fun bo=>ap (su.1 (by show c.toNat=48;omega));have wo:(1<(t.length:Int)+1)=True:=by simpa using ax
  have cd:(0<(t.length:Int)+1)=True:=aY;by_cases Aq:15<(c::t).length
  ·have aK:(15<(t.length:Int)+1)=True:=bW (by simp only[hz]at Aq;omega);have gS:=lL Aq;subst gS;simp[wo,aK,cd,k9]
  ·have aK:(15<(t.length:Int)+1)=False:=bz (by simp only[hz]at Aq;omega);have k:=wV (c::t) _ (by omega) bF;simp[wo,aK,cd,k9];refine aH.of k ?_;simp;exact zaU (by omega)
def znR(hs:List Head)(v:aq)(aF:dC hs dS=[v])(h:oR v=true)(al:hs.length<=1000000000):az prog 92 [qs hs] (.x (.one (.int .i64 (ll v)))):=by have aE:=C5 hs dS al;have aQ:=znP v h;rw[aF]at aE;unfold dS at aE;refine az.bd f92 mixed fun aD=>?_;simp;refine aH.of aE ?_;simp;refine aH.of aQ ?_;simp
def ue:aq->aq->Nat
 |_,[]=>0
 |[],_::_=>0
 |c::b,d::w=>if c=d then ue b w+1 else 0
def zaV(b:aq)(a:Nat)(w:aq)(ad:b.length<=1000000000)(bj:a<=b.length)(hw:w.length<=1000) :
  az prog 207 [.one (b5 b),.one (.int .i64 a),.one (.str w)] (.b2 [.one (.int .i64 (a+ue (b.drop a) w:Nat)),.one (.bool (ho (b.drop a) w==0)),.one (.bool (ho (b.drop a) w != 2))]):=by
 have bU:=e8 b;obtain⟨F,a7⟩:∃F,F=ho (b.drop a) w:=⟨_,rfl⟩
 obtain⟨N,qv⟩:∃N,N=a+ue (b.drop a) w:=⟨_,rfl⟩
 rw[<-a7,<-qv];refine az.bd f207 mixed fun aD=>?_;simp;refine ck.of Nat (fun i=>[(0,.x (.one (b5 b))),(1,.x (.one (.int .i64 (a+i:Nat)))),(2,.x (.one (.str w))),(9,.x (.one (.int .i64 i)))])
  (fun i=>i<=w.length/\a+i<=b.length/\F=ho (b.drop (a+i)) (w.drop i)/\N=a+i+ue (b.drop (a+i)) (w.drop i)) (fun i=>w.length-i) 0 ⟨cj _,bj,a7,qv⟩ ?_ ?_
 ·simp
 rintro i ⟨ah,znp,a6,gS⟩;by_cases ar:i<w.length
 ·have aS:((i:Int)<(w.length:Int))=True:=aY;have bC:=bc ((i:Int)+1);rw[jw ar]at a6 gS;by_cases qj:a+i<b.length
  ·have yD:((a:Int)+(i:Int)=(b.length:Int))=False:=a8;have zaW:((a:Int)+(i:Int)<(b.length:Int))=True:=aY;have aZ:(0<=(a:Int)+(i:Int))=True:=aY;have Ar:((a:Int)+(i:Int)).toNat=a+i:=by omega
   rw[jw qj]at a6 gS;unfold ho at a6;unfold ue at gS;have bF:∀h,(bq b)[a+i]'h=[.int .u8 b[a+i].toNat]:=fun h=>by simp[bq,ie]
   by_cases ap:b[a+i]=w[i]
   ·rw[av ap]at a6 gS;have C2:((b[a+i].toNat:Int)=(w[i].toNat:Int))=True:=bW (by rw[ap]);simp[bU,ar,aS,qj,yD,zaW,aZ,Ar,bF,C2];refine bt.of (i+1) ⟨ar,by omega,a6,by rw[gS,rN a i 1];omega⟩ (by omega) ?_;have gp:(a:Int)+(i:Int)+1=(a:Int)+((i:Int)+1):=by omega
    have znS:=bc ((a:Int)+((i:Int)+1));simp[bC,znS,gp]
   ·rw[an ap]at a6 gS;subst a6 gS;have C2:((b[a+i].toNat:Int)=(w[i].toNat:Int))=False:=bz fun h=>ap (su.1 (by omega));simp[bU,ar,aS,qj,yD,zaW,aZ,Ar,bF,C2]
  ·have yD:((a:Int)+(i:Int)=(b.length:Int))=True:=aY;have:b.drop (a+i)=[]:=nu (by omega);rw[this]at a6 gS;unfold ho at a6;unfold ue at gS;subst a6 gS;simp[bU,aS,yD]
 ·have aS:((i:Int)<(w.length:Int))=False:=a8;have:w.drop i=[]:=nu (by omega);rw[this]at a6 gS;have FP:ho (b.drop (a+i)) []=0:=by cases b.drop (a+i)<;>rfl
  have FS:ue (b.drop (a+i)) []=0:=by cases b.drop (a+i)<;>rfl
  rw[FP]at a6;rw[FS]at gS;subst a6 gS;simp[aS]
def S5(c:UInt8):Int:=if sU c<16 then sU c else -1
def znT:∀c:UInt8,fu [48,49,50,51,52,53,54,55,56,57,97,98,99,100,101,102] (nN c)=S5 c:=Me (by decide +kernel)
def znU(c:UInt8):az prog 254 [vh c] (.x (.one (.int .i64 (S5 c)))):=by have aE:=Rv [c];have aQ:=strings_IndexByte [48,49,50,51,52,53,54,55,56,57,97,98,99,100,101,102] (nN c);rw[znT]at aQ;have hs:eN [c]=[nN c]:=rfl;rw[hs]at aE;refine az.bd f254 mixed fun aD=>?_;simp;refine aH.of aE ?_;simp;refine aH.of aQ ?_;simp
def znV:∀c:UInt8,decide (sU c=0)=decide (c=48):=Me (by decide +kernel)
def S6(b:aq)(a:Nat)(x:Nat×Nat×Bool):Prop:=(mz 0 0 (b.drop a)=none/\x.2.2=false)\/∃i n,mz 0 0 (b.drop a)=some (i,n)/\x=(n,a+i,decide (0<i))
def znW(b:aq)(a:Nat)(ad:b.length<=1000000000)(bj:a<=b.length) :
  ∃x,S6 b a x/\az prog 206 [.one (b5 b),.one (.int .i64 a)] (.b2 [.one (.int .i64 x.1),.one (.int .i64 x.2.1),.one (.bool x.2.2)]):=by
 have bU:=e8 b;refine az.Mc (S6 b a) (fun x=>.b2 [.one (.int .i64 x.1),.one (.int .i64 x.2.1),.one (.bool x.2.2)]) mixed (fn:=f206) (by kernel_rfl) (by kernel_rfl) rfl (by kernel_rfl) (by simp[f206]) ?_;unfold S6;generalize bS:mz 0 0 (b.drop a)=S;simp;refine ck.of (Nat×Nat) (fun x=>[(0,.x (.one (b5 b))),(1,.x (.one (.int .i64 (a+x.1:Nat)))),(7,.x (.one (.int .i64 x.2))),(8,.x (.one (.int .i64 a)))])
  (fun x=>(a+x.1<=b.length/\x.2<=65536)/\S=mz x.1 x.2 (b.drop (a+x.1))/\(0<x.1->(b[a]?=some 48↔x.2=0))/\(x.1=0->x.2=0)) (fun x=>b.length-(a+x.1)) (0,0) ⟨⟨bj,cj _⟩,bS.symm,fun h=>absurd h (by decide),fun _=>rfl⟩ ?_ ?_
 ·simp
 rintro⟨i,n⟩ ⟨⟨ah,aX⟩,af,FT,lW⟩;dsimp only at ah aX af FT lW⊢;clear bS;have a1:((a:Int)<(a:Int)+(i:Int))=(0<i):=propext ⟨fun h=>by omega,fun h=>by omega⟩;by_cases ar:a+i<b.length
 ·have aS:((a:Int)+(i:Int)<(b.length:Int))=True:=aY;have C6:(0<=(a:Int)+(i:Int))=True:=aY;have Ar:((a:Int)+(i:Int)).toNat=a+i:=by omega
  have bF:∀h,(bq b)[a+i]'h=[.int .u8 b[a+i].toNat]:=fun h=>by simp[bq,ie]
  have aE:=znU b[a+i];have aF:=zaE b[a+i];have v':=znV b[a+i];rw[jw ar]at af;unfold mz at af;unfold S5 at aE;by_cases vm:sU b[a+i]<16;rotate_left
  ·rw[an vm]at af;rw[an vm]at aE;simp[bU,ar,aS,C6,Ar,bF];refine b_.of (fun _=>aE) rfl ?_;simp[a1];exact hD.of (n,a+i,decide (0<i)) (.inr ⟨i,n,af,rfl⟩) (by simp)
  rw[av vm]at af aE;have uX:a<b.length:=by omega
  have Nc:∀h,(bq b)[a]'h=[.int .u8 b[a].toNat]:=fun h=>by simp[bq,ie]
  have Nd:((a:Int)<(b.length:Int))=True:=aY;generalize sU b[a+i]=v at*;have ds:=bc ((n:Int)*16);have dV:=bc ((n:Int)*16+(v:Int));have mn:=bc ((a:Int)+(i:Int)+1);have m7:i64.wrap ((a:Int)+(i:Int)+1-(a:Int))=(i:Int)+1:=by rw[bc _];omega
  have Q_:(0<=(v:Int))=True:=bW (FU _);have lL:¬(0<i/\n=0)->¬65536<16*n+v->S=mz (i+1) (16*n+v) (b.drop (a+i+1)):=fun a b=>by rw[af,an a,an b]
  have cl:(0<i/\n=0)\/65536<16*n+v->S=none:=fun h=>by
   rw[af];split
   ·rfl
   ·rename_i aa;rw[av (h.resolve_left aa)]
  simp[bU,ar,aS,C6,Ar,bF];refine b_.of (fun _=>aE) rfl ?_;simp[bU,ar,aS,C6,Ar,bF,Q_];refine aH.of aE ?_;by_cases bw:65536<16*n+v
  ·have c7:(65536<(n:Int)*16+(v:Int))=True:=aY;simp[bU,ds,dV,mn,m7,c7,uX,Nd,Nc];exact hD.of (0,a+i+1,false) (.inl ⟨cl (.inr bw),rfl⟩) (by simp)
  have c7:(65536<(n:Int)*16+(v:Int))=False:=a8;by_cases bA:0<i;rotate_left
  ·obtain rfl:i=0:=by omega
   have rg:=bc ((a:Int)+1);have rn:i64.wrap ((a:Int)+1-(a:Int))=1:=by rw[bc _];omega
   simp[bU,ds,dV,rg,rn,c7,uX,Nd,Nc];have oQ:n=0:=lW rfl;refine bt.of (1,16*n+v) ⟨⟨by omega,by omega⟩,by rw[lL (by omega) bw];rfl,fun _=>?_,fun h=>by cases h⟩ (by dsimp only;omega) ?_
   ·dsimp only;rw[cr uX,b9];have e:decide (v=0)=decide (b[a]=48):=v';rw[oQ,Nat.mul_zero,hv];exact(decide_eq_decide.1 e).symm
   ·simp;omega
  have eU:((1:Int)<(i:Int)+1)=True:=aY;have FT:=FT bA;rw[cr uX]at FT;by_cases cJ:b[a]=48
  ·have jH:(b[a].toNat:Int)=48:=by rw[cJ];rfl
   simp[bU,ds,dV,mn,m7,c7,eU,uX,Nd,Nc,jH];exact hD.of (0,a+i+1,false) (.inl ⟨cl (.inl ⟨bA,FT.1 (by rw[cJ])⟩),rfl⟩) (by simp)
  ·have jH:((b[a].toNat:Int)=48)=False:=bz fun h=>cJ (su.1 (by show b[a].toNat=48;omega));simp[bU,ds,dV,mn,m7,c7,eU,uX,Nd,Nc,jH];have oQ:n≠0:=fun h=>by have:=FT.2 h;simp at this;exact cJ this
   refine bt.of (i+1,16*n+v) ⟨⟨by omega,by omega⟩,lL (by omega) bw,fun _=>?_,fun h=>by cases h⟩ (by dsimp only;omega) ?_
   ·dsimp only;rw[cr uX];constructor
    ·intro h;simp at h;exact absurd h cJ
    ·intro h;omega
   ·simp;omega
 ·have aS:((a:Int)+(i:Int)<(b.length:Int))=False:=a8;rw[nu (by omega)]at af;unfold mz at af;have C6:(0<=(a:Int)+(i:Int))=True:=aY;have Ar:((a:Int)+(i:Int)).toNat=a+i:=by omega
  have q8:(bq b)[a+i]?=none:=pW (by rw[bU];omega);simp[bU,aS,C6,Ar,q8];refine gH 0 ?_;simp[a1];exact hD.of (n,a+i,decide (0<i)) (.inr ⟨i,n,af,rfl⟩) (by simp)
def T_:∀{b w:aq},ho b w=0->ue b w=w.length/\w.length<=b.length
 |_,[],_=>⟨by unfold ue;rfl,cj _⟩
 |[],_::_,h=>by unfold ho at h;cases h
 |c::b,d::w,h=>by
  unfold ho at h;unfold ue;split at h
  ·rename_i e;obtain⟨aa,ab⟩:=T_ h;rw[av e,aa];exact⟨rfl,by simp only[hz];omega⟩
  ·cases h
def JG(b:aq)(a:Nat)(x:aq×Nat×Bool×Bool):Prop:=
 ((gK (b.drop a)).2.2=0/\x=((gK (b.drop a)).1,a+(gK (b.drop a)).2.1,true,true))\/((gK (b.drop a)).2.2=1/\x.2.2=(false,true))\/((gK (b.drop a)).2.2=2/\x.2.2.2=false)
def NS(x:aq×Nat×Bool×Bool):bH:=.b2 [.one (b5 x.1),.one (.int .i64 x.2.1),.one (.bool x.2.2.1),.one (.bool x.2.2.2)]
def zro(b:aq)(a:Nat)(ad:b.length<=16777216)(bj:a<=b.length):∃x,JG b a x/\az prog 149 [.one (b5 b),.one (.int .i64 a)] (NS x):=by
 have bU:=e8 b;obtain⟨zbm,cB,aE⟩:=znW b a (by omega) bj;obtain⟨P,Dc⟩:∃P,P=JG b a:=⟨_,rfl⟩
 have AH:∀x,JG b a x->P x:=fun x h=>by rw[Dc];exact h
 unfold JG at AH;obtain⟨C,hZ⟩:∃C,C=gK (b.drop a):=⟨_,rfl⟩
 rw[<-hZ]at AH;unfold gK at hZ;rw[<-Dc];refine az.Mc P NS mixed (fn:=f149) (by kernel_rfl) (by kernel_rfl) rfl (by kernel_rfl) (by simp[f149]) ?_;unfold NS;by_cases a1:a=b.length
 ·have aA:b.drop a=[]:=nu (by omega);rw[aA]at hZ;have hZ:C=([],0,1):=hZ;have m9:((a:Int)=(b.length:Int))=True:=aY;simp[bU,m9];exact hD.of ([],a,false,true) (AH _ (.inr (.inl ⟨by rw[hZ],rfl⟩))) (by simp)
 have m9:((a:Int)=(b.length:Int))=False:=a8;rcases cB with⟨ax,aK⟩|⟨i,n,ax,rfl⟩
 ·rw[ax]at hZ;obtain⟨s1,s2,FM⟩:=zbm;dsimp only at aK aE;subst aK;simp[bU,m9];refine aH.of aE ?_;simp;exact hD.of ([],s2,false,false) (AH _ (.inr (.inr ⟨by rw[hZ],rfl⟩))) (by simp)
 rw[ax]at hZ;dsimp only at hZ aE;have cG:=zaH (by omega) ax;rw[eP]at cG hZ;by_cases zx:i=0
 ·rw[an (by omega),av zx]at hZ;subst zx;simp[bU,m9];refine aH.of aE ?_;simp;exact hD.of ([],a,false,false) (AH _ (.inr (.inr ⟨by rw[hZ],rfl⟩))) (by simp)
 have yF:decide (0<i)=true:=gw (by omega);rw[yF]at aE;have aQ:=zaV b (a+i) ja (by omega) (by omega) (by decide);have a6:=C3 (b.drop (a+i)) ja;have xC:=T_ (b:=b.drop (a+i)) (w:=ja);rw[Dx]at hZ;have FP:i=b.length-a->ho (b.drop (a+i)) ja=1:=fun h=>by rw[nu (by omega)];rfl
 have zbv:(b.drop (a+i)).length=b.length-(a+i):=eP;generalize ho (b.drop (a+i)) ja=F at*;generalize ue (b.drop (a+i)) ja=N at*;by_cases NT:F=0;rotate_left
 ·have en:C.2.2=F:=by
   rw[hZ];by_cases h:i=b.length-a
   ·rw[av h,FP h]
   ·rw[an h,an zx,av NT]
  have A':(F==0)=false:=by simpa using NT
  rw[A']at aQ;simp[bU,m9];refine aH.of aE ?_;simp;refine aH.of aQ ?_;simp;refine hD.of ([],a+i+N,false,F != 2) (AH _ ?_) (by simp);rcases (by omega:F=1\/F=2)with rfl|rfl
  ·exact .inr (.inl ⟨en,rfl⟩)
  ·exact .inr (.inr ⟨en,rfl⟩)
 obtain⟨T',JH⟩:=xC NT;subst NT;have T':N=2:=T';have JH:2<=(b.drop (a+i)).length:=JH;rw[zbv]at JH;subst T';have zrp:i≠b.length-a:=fun h=>by have:=FP h;omega
 rw[an zrp,an zx,an (by simp)]at hZ;have ds:=bc ((b.length:Int)-((a:Int)+(i:Int)+2));by_cases hs:b.length-a-(i+2)<n
 ·rw[av hs]at hZ;have cT:((b.length:Int)-((a:Int)+(i:Int)+2)<(n:Int))=True:=aY;simp[bU,m9];refine aH.of aE ?_;simp;refine aH.of aQ ?_;simp[bU,ds,cT];exact hD.of ([],a+i+2,false,true) (AH _ (.inr (.inl ⟨by rw[hZ],rfl⟩))) (by simp)
 rw[an hs]at hZ;have cT:((b.length:Int)-((a:Int)+(i:Int)+2)<(n:Int))=False:=a8;have bf:=zaV b (a+i+2+n) ja (by omega) (by omega) (by decide);have mr:a+(i+2+n)=a+i+2+n:=by omega
 have C7:a+(i+2)=a+i+2:=by omega
 rw[Dx,Dx,mr,C7]at hZ;have zHM:=C3 (b.drop (a+i+2+n)) ja;have JH:=T_ (b:=b.drop (a+i+2+n)) (w:=ja);generalize ho (b.drop (a+i+2+n)) ja=G at*;generalize ue (b.drop (a+i+2+n)) ja=Ai at*;have dV:=bc ((a:Int)+(i:Int)+2+(n:Int));have e1:b4 (bq b) ((a:Int)+(i:Int)+2) ((a:Int)+(i:Int)+2+(n:Int))=bq ((b.drop (a+i+2)).take n):=by have:=oE (b:=b) (a:=a+i+2) (i:=a+i+2+n) (by omega);rw[show a+i+2+n-(a+i+2)=n by omega]at this;exact_mod_cast this
 have g1:((a:Int)+(i:Int)+2+(n:Int)<=(b.length:Int))=True:=aY;have g2:((a:Int)+(i:Int)+2<=(a:Int)+(i:Int)+2+(n:Int))=True:=aY;have g3:(0<=(a:Int)+(i:Int)+2)=True:=aY;generalize (b.drop (a+i+2)).take n=D at*;simp[bU,m9];refine aH.of aE ?_;simp;refine aH.of aQ ?_;simp[bU,ds,cT,dV,e1,g1,g2,g3];refine aH.of bf ?_;simp;refine hD.of (D,a+i+2+n+Ai,G==0,G != 2) (AH _ ?_) (by simp);rcases (by omega:G=0\/G=1\/G=2)with rfl|rfl|rfl
 ·left;rw[an (by simp)]at hZ;have ab:Ai=2:=(JH rfl).1;rw[hZ,ab];refine⟨rfl,?_⟩;dsimp only;rw[show a+(i+2+n+2)=a+i+2+n+2 by omega];rfl
 ·rw[av (by simp)]at hZ;exact .inr (.inl ⟨by rw[hZ],rfl⟩)
 ·rw[av (by simp)]at hZ;exact .inr (.inr ⟨by rw[hZ],rfl⟩)
def zrq(b:aq)(ad:b.length<=16777216):az prog 94 [.one (b5 b)] (.b2 [.one (b5 (iu b).1),.one (.int .i64 (iu b).2.1),.one (.int .i64 (iu b).2.2.1),.one (.int .i64 (iu b).2.2.2)]):=by
 obtain⟨R,aC⟩:∃R,R=iu b:=⟨_,rfl⟩
 rw[<-aC];unfold iu at aC;have bU:=e8 b;refine az.bd f94 mixed fun aD=>?_;simp;refine ck.of (aq×Nat) (fun x=>[(0,.x (.one (b5 b))),(6,.own 5 1 (bq x.1)),(7,.x (.one (.int .i64 x.2)))])
  (fun x=>(x.2<=b.length/\x.1.length<=x.2)/\R=kr b (b.length-x.2+1) x.1 x.2) (fun x=>b.length-x.2) ([],0) ⟨⟨cj _,cj _⟩,aC⟩ ?_ ?_
 ·simp
 rintro⟨acc,a⟩ ⟨⟨bj,oi⟩,af⟩;dsimp only at bj oi af⊢;unfold kr at af;have sV:=e8 acc;obtain⟨x,ai,aE⟩:=zro b a ad bj;have aX:=M' (b:=b.drop a);rw[eP]at aX;have cu:∀pQ a',a'<=b.length->a<a'->kr b (b.length-a) pQ a'=kr b (b.length-a'+1) pQ a':=fun pQ a' h bx=>SY _ _ _ _ h (by omega) (by omega);unfold JG at ai;generalize gK (b.drop a)=C at*;obtain⟨nQ,vA,Na⟩:=C;dsimp only at*;unfold NS at aE;simp;refine aH.of aE ?_;obtain⟨cH,dl,ox,pm⟩:=x;dsimp only at*;rcases ai with⟨rfl,ai⟩|⟨rfl,ai⟩|⟨rfl,rfl⟩
 rotate_left
 ·obtain⟨rfl,rfl⟩:=CU ai;rw[an (by decide)]at af;by_cases hs:acc.length<=200000
  ·rw[av ⟨rfl,hs⟩]at af;subst af;have cT:((200000:Int)<(acc.length:Int))=False:=a8;simp[bU,sV,cT]
  ·rw[an (by omega),av rfl]at af;subst af;have cT:((200000:Int)<(acc.length:Int))=True:=aY;simp[sV,cT]
 ·rw[av rfl]at af;subst af;simp
 rw[an (by decide),an (by omega),an (by decide)]at af;obtain⟨kI,jE,FB⟩:=aX (by decide) (by decide);simp only[cA]at ai;obtain⟨rfl,rfl,rfl,rfl⟩:=ai;have FQ:=e8 cH;by_cases ap:0<cH.length
 ·rw[av ap]at af;have zrr:(cH=[])=False:=bz (by rintro rfl;simp at ap);simp[bU,sV,FQ,zrr];refine⟨⟨by omega,by unfold maxLen;omega⟩,?_⟩;rw[cu _ _ (by omega) (by omega)]at af;refine bt.of (acc++cH,a+vA) ⟨⟨by simp only;omega,by simp only[eG];omega⟩,af⟩ (by simp only;omega) ?_;simp[Ig]
 rw[an ap]at af;have nG:cH=[]:=SZ.1 (by omega);subst nG;rw[AN]at af;by_cases rE:200000<acc.length
 ·rw[av rE]at af;subst af;have sW:(200000<(acc.length:Int))=True:=aY;simp[sV,sW];exact⟨by omega,by unfold maxLen;omega⟩
 rw[an rE]at af;have sW:(200000<(acc.length:Int))=False:=a8;by_cases hm:a+vA<b.length
 ·rw[av hm]at af;subst af;have eh:((a:Int)+(vA:Int)<(b.length:Int))=True:=aY;simp[bU,sV,sW,eh];exact⟨by omega,by unfold maxLen;omega⟩
 rw[an hm]at af;subst af;have eh:((a:Int)+(vA:Int)<(b.length:Int))=False:=a8;simp[bU,sV,sW,eh];exact⟨by omega,by unfold maxLen;omega⟩
def Nt(x a b:Int):az prog 141 [.one (.int .i64 x),.one (.int .i64 a),.one (.int .i64 b)] (.x (.one (.bool (dh a b x)))):=by unfold dh;refine az.bd f141 mixed fun aD=>?_;simp
def zph(k:aq):az prog 196 [.one (.str k)] (.x (.one (.bool (j2 k)))):=by
 obtain⟨R,aC⟩:∃R,R=j2 k:=⟨_,rfl⟩
 rw[<-aC];unfold j2 ri at aC;have aE:=Nt (k.length:Int) 1 2000;generalize dh 1 2000 (k.length:Int)=L at*;refine az.bd f196 mixed fun aD=>?_;have As:k.length<=maxLen:=by have:=aD _ kH;simp[aG.ok,ag.ok]at this;exact this
 unfold maxLen at As;simp;refine ck.of Nat (fun i=>[(0,.x (.one (.str k))),(3,.x (.one (.int .i64 i)))]) (ft rh k) (fun i=>k.length-i) 0 ft.zero ?_ ?_
 ·simp
 intro i ah;have cG:=ah.1;by_cases ar:i<k.length
 ·have aS:((i:Int)<(k.length:Int))=True:=aY;have bC:=bc ((i:Int)+1);have ai:k[i]?=some k[i]:=cr ar;simp[ar,aS];refine⟨fun h=>?_,fun aa ab=>bt.of (i+1) (ah.step ar ?_) (by omega) ?_⟩
  ·have am:oB k=false:=by
    unfold oB;rw[Iu];refine⟨k[i],hS ar,?_⟩;unfold rh;simp;omega
   rw[am,h7]at aC;exact aC
  ·unfold rh;simp;omega
  ·simp[bC]
 ·have aS:((i:Int)<(k.length:Int))=False:=a8;have jV:i=k.length:=by omega
  have am:oB k=true:=ah.done ar;subst jV;rw[am,ig]at aC;subst aC;simp[aS];refine aH.of aE ?_;simp
def zpi(k:aq):az prog 194 [.one (.str k)] (.x (.one (.bool (nO k)))):=by
 obtain⟨R,aC⟩:∃R,R=nO k:=⟨_,rfl⟩
 rw[<-aC];unfold nO at aC;refine az.bd f194 mixed fun aD=>?_;have As:k.length<=maxLen:=by have:=aD _ kH;simp[aG.ok,ag.ok]at this;exact this
 unfold maxLen at As;simp;refine ck.of Nat (fun i=>[(0,.x (.one (.str k))),(3,.x (.one (.int .i64 i)))]) (ft qm k) (fun i=>k.length-i) 0 ft.zero ?_ ?_
 ·simp
 intro i ah;have cG:=ah.1;by_cases ar:i<k.length
 ·have aS:((i:Int)<(k.length:Int))=True:=aY;have bC:=bc ((i:Int)+1);have ai:k[i]?=some k[i]:=cr ar;simp[ar,aS];refine⟨fun h=>⟨h,fun ab=>⟨h,ab⟩⟩,fun h=>by omega,fun h ab=>?_,fun h=>bt.of (i+1) (ah.step ar ?_) (by omega) ?_⟩
  ·have am:k.all qm=false:=by
    rw[Iu];refine⟨k[i],hS ar,?_⟩;unfold qm dh;simp;omega
   rw[am,h7]at aC;exact aC
  ·unfold qm dh;rw[gl,b7,b7];simp only[hk];omega
  ·simp[bC]
 ·have aS:((i:Int)<(k.length:Int))=False:=a8;have jV:i=k.length:=by omega
  have am:k.all qm=true:=ah.done ar;subst jV;rw[am,ig]at aC;subst aC;simp[aS];by_cases e:k.length=16
  ·simp[e]
  ·have c_:(k.length==16)=false:=by simpa using e
   have a2:((k.length:Int)==16)=false:=by simp;omega
   rw[c_,a2]
def Tq(k:Int)(aa:1<=k)(bE:k<=5):az prog 191 [.one (.int .i64 k)] (.x (.one (.str (nd k)))):=by
 obtain⟨K,I8⟩:∃K:Nat,k=(K:Int)+1:=⟨(k-1).toNat,by omega⟩
 have MT:i64.wrap (k-1)=(K:Int):=by rw[I8,show (K:Int)+1-1=K by omega];exact bc _
 have kG:nd k=hQ.getD K []:=by unfold nd;rw[I8,show ((K:Int)+1-1).toNat=K by omega]
 rw[kG];have:K=0\/K=1\/K=2\/K=3\/K=4:=by omega
 rcases this with rfl|rfl|rfl|rfl|rfl<;>(
  refine az.bd f191 mixed fun aD=>?_;simp[MT,hQ])
def k0(s:aq):Int:=match hQ.findIdx? (·==s)with
 |some i=>(i:Int)+1
 |none=>0
def zpj(s:aq):az prog 190 [.one (.str s)] (.x (.one (.int .i64 (k0 s)))):=by
 obtain⟨R,aC⟩:∃R,R=k0 s:=⟨_,rfl⟩
 rw[<-aC];unfold k0 at aC;refine az.bd f190 mixed fun aD=>?_;simp;refine ck.of Nat (fun i=>[(0,.x (.one (.str s))),(3,.x (.one (.int .i64 ((i:Int)+1))))]) (ft (fun x=>!(x==s)) hQ) (fun i=>5-i) 0 ft.zero ?_ ?_
 ·simp
 intro i ah;by_cases ar:i<hQ.length
 ·have zHD:i<5:=ar;have aS:((i:Int)+1<=5)=True:=aY;have bC:=bc ((i:Int)+1+1);have aE:=Tq ((i:Int)+1) (by omega) (by omega);have ak:nd ((i:Int)+1)=hQ[i]:=by
   unfold nd;rw[show ((i:Int)+1-1).toNat=i by omega,lF,cr ar];rfl
  rw[ak]at aE;simp[aS];refine aH.of aE ?_;cases ap:hQ[i]==s
  ·have au:¬hQ[i]=s:=by simpa using ap
   have zpk:(fun x=>!(x==s)) hQ[i]=true:=by simp only[xx,jj];exact au
   have k9:(hQ[i]=s)=False:=bz au;simp[k9];refine bt.of (i+1) (ah.step ar zpk) (by omega) ?_;simp[bC]
  ·have k9:(hQ[i]=s)=True:=bW (by simpa using ap);have aw:hQ.findIdx? (·==s)=some i:=by
    rw[kT];refine⟨ar,ap,fun j ac=>?_⟩;have:=hJ.1 ah.2 hQ[j] (List.mem_take_iff_getElem.2 ⟨j,by omega,rfl⟩);simpa using this
   rw[aw]at aC;subst aC;simp[k9]
 ·have aS:((i:Int)+1<=5)=False:=bz (by have:¬i<5:=ar;omega);have kv:=ah.done ar;have aw:hQ.findIdx? (·==s)=none:=by
   rw[sF];intro x ai;have:=hJ.1 kv x ai;simpa using this
  rw[aw]at aC;subst aC;simp[aS]
def Tr(r:Rec):az prog 137 [.agg r.row] (.x (.one (.int .i64 (hH r)))):=by
 obtain⟨F,a7⟩:∃F,F=hH r:=⟨_,rfl⟩
 rw[<-a7];unfold hH at a7;have rU:=Nt r.kind 1 5;have aE:=ID r.id;have aQ:=ID r.of;have bf:az prog 141 [.one (.int .i64 r.time),.one (.int .i64 0),.one (.int .i64 253402300799)] (.x (.one (.bool (fM r.time)))):=Nt r.time 0 253402300799;have bM:=zph r.key;have dz:=Zr r.aT;have iV:=fun w (h:r.aT.length<=1000000000)=>C5 r.aT w h;have bU:=e8 r.block;have SD:∀h,sM h=decide (eN h.name∈hb):=fun _=>rfl;obtain⟨A,jM⟩:∃A,A=r.aT.any sM:=⟨_,rfl⟩
 have zv:∀w,w∈hb->dC r.aT w≠[]->A=true:=fun w hw h=>by rw[jM,AP];obtain⟨v,aF⟩:=List.exists_mem_of_ne_nil _ h;unfold dC at aF;obtain⟨x,ai,_⟩:=hx.1 aF;obtain⟨Oq,GN⟩:=Cz.1 ai;refine⟨x,Oq,?_⟩;unfold sM;rw[show eN x.name=w by simpa using GN];exact gw hw
 have q3:(∀w∈hb,dC r.aT w=[])->A=false:=fun h=>by rw[jM,y3];intro x ai ad;have hm:eN x.name∈hb:=vM ad;have a1:=h _ hm;unfold dC at a1;rw[List.map_eq_nil_iff,Mz]at a1;exact a1 x ai (by simp)
 rw[<-jM]at a7;unfold Rec.row;generalize kl r.id=MV at aE a7;generalize kl r.of=Ai at aQ a7;generalize fM r.time=I_ at bf a7;generalize j2 r.key=I' at bM a7;generalize j8 r.aT=Ja at dz a7;clear jM;obtain⟨kind,id,of,time,key,aT,block⟩:=r;dsimp only at*;refine az.bd f137 mixed fun aD=>?_;simp;refine aH.of rU ?_;by_cases Dy:kind<1\/5<kind
 ·rw[av Dy]at a7;subst a7;have bK:dh 1 5 kind=false:=by unfold dh;rw[ss,rp,rp];omega
  simp[bK]
 rw[an Dy]at a7;have bK:dh 1 5 kind=true:=by unfold dh;rw[b7,mA,mA];omega
 simp[bK];refine aH.of aE ?_;cases MV
 ·rw[av (.inl rfl)]at a7;subst a7;simp;refine e7 false ?_;simp
 cases of with
 |nil=>
  rw[an (by simp)]at a7;simp;refine e7 false ?_;by_cases hid:id=[]
  ·rw[av (.inl hid.symm)]at a7;subst a7;have lU:(id=[])=True:=bW hid;have zpl:([]=id)=True:=bW hid.symm;simp[lU]
  have lU:(id=[])=False:=bz hid;have zpl:([]=id)=False:=bz (fun h=>hid h.symm);by_cases qw:kind=4\/kind=5
  ·rw[av (.inr (.inl ⟨rfl,qw⟩))]at a7;subst a7;rcases qw with qw|qw
   ·have vw:(kind=4)=True:=bW qw;simp[lU,vw]
   ·have vw:(kind=4)=False:=a8;have sN:(kind=5)=True:=bW qw;simp[lU,vw,sN]
  have vw:(kind=4)=False:=a8;have sN:(kind=5)=False:=a8;rw[an (by rintro (h|⟨_,h⟩|⟨h,_⟩);exact hid h.symm;exact qw h;exact h rfl)]at a7;simp[lU,vw,sN];refine aH.of bf ?_;cases I_
  ·rw[av rfl]at a7;subst a7;simp
  rw[an (by decide)]at a7;simp;refine aH.of bM ?_;cases I'
  ·rw[av rfl]at a7;subst a7;simp
  rw[an (by decide)]at a7;by_cases vx:30<aT.length
  ·rw[av vx]at a7;subst a7;have qx:(30<(aT.length:Int))=True:=aY;simp[qx]
  rw[an vx]at a7;have qx:(30<(aT.length:Int))=False:=a8;simp[qx];refine aH.of dz ?_;by_cases m8:Ja=0
  ·rw[an (by simpa using m8)]at a7;subst m8;simp;have bo:aT.length<=1000000000:=by omega
   refine ck.of Nat (fun i=>[(1,.box [.int .i64 kind,.str id,.str [],.int .i64 time,.str key,.list 2 (aT.map Head.row),b5 block]),(75,.own 9 1 (hb.map fun s=>[ag.str s])),(76,.x (.one (.int .i64 7))),(77,.x (.one (.int .i64 i)))])
    (fun i=>i<=7/\∀j (h:j<hb.length),j<i->dC aT hb[j]=[]) (fun i=>7-i) 0 ⟨cj _,fun j h bx=>by omega⟩ ?_ ?_
   ·simp[hb]
   rintro i ⟨ah,am⟩;by_cases ar:i<7
   ·have aS:((i:Int)<7)=True:=aY;have bC:=bc ((i:Int)+1);have Jw:i<hb.length:=ar;have Ts:hb.length=7:=rfl;have zpm:hb[i]?=some hb[i]:=cr Jw;have cG:=M6 aT hb[i];simp[ar,aS,Ts];refine aH.of (iV hb[i] bo) ?_;by_cases ap:dC aT hb[i]=[]
    ·rw[ap];simp;refine bt.of (i+1) ⟨ar,fun j h ac=>?_⟩ (by omega) ?_
     ·rcases mH j i with bx|bx
      ·exact am j h bx
      ·obtain rfl:j=i:=by omega
       exact ap
     ·simp[bC]
    ·rw[av (zv _ (hS Jw) ap)]at a7;subst a7;have je:((0:Int)<((dC aT hb[i]).length:Int))=True:=bW (by have:=Nu.2 ap;omega);have Tt:(0<(dC aT hb[i]).length)=True:=bW (Nu.2 ap);simp[Tt]
   have aS:((i:Int)<7)=False:=a8;have c0:A=false:=q3 (fun w hw=>by obtain⟨j,ac,rfl⟩:=GF hw;have Lr:j<7:=ac;exact am j ac (by omega))
   rw[an (by rw[c0];decide)]at a7;by_cases bk:200000<block.length
   ·rw[av bk]at a7;subst a7;have jh:(200000<(block.length:Int))=True:=aY;simp[aS,bU,jh]
   rw[an bk]at a7;have jh:(200000<(block.length:Int))=False:=a8;by_cases ak:kind=4
   ·have dx:(kind=4)=True:=bW ak;by_cases eJ:block=[]
    ·rw[an (by simp[eJ])]at a7;subst a7;have qy:(block=[])=True:=bW eJ;simp[aS,bU,jh,dx,qy]
    ·rw[av ⟨ak,eJ⟩]at a7;subst a7;have qy:(block=[])=False:=bz eJ;simp[aS,bU,jh,dx,qy]
   ·rw[an (by rintro⟨h,_⟩;exact ak h)]at a7;subst a7;have dx:(kind=4)=False:=bz ak;simp[aS,bU,jh,dx]
  ·rw[av m8]at a7;subst a7;have CV:(F=0)=False:=bz m8;simp[CV]
 |cons yx ol=>
  simp;refine b_.of (fun _=>aQ) rfl ?_;cases Ai
  ·rw[av (.inr ⟨by simp,rfl⟩)]at a7;subst a7;simp
  rw[an (by simp)]at a7;by_cases hid:yx::ol=id
  ·rw[av (.inl hid)]at a7;subst a7;have lU:(yx::ol=id)=True:=bW hid;simp[lU]
  have lU:(yx::ol=id)=False:=bz hid;by_cases w4:kind=1
  ·rw[av (.inr (.inr ⟨by simp,w4⟩))]at a7;subst a7;have CW:(kind=1)=True:=bW w4;simp[lU,CW]
  have CW:(kind=1)=False:=bz w4;rw[an (by rintro (h|⟨h,_⟩|⟨_,h⟩);exact hid h;cases h;exact w4 h)]at a7;simp[lU,CW];refine aH.of bf ?_;cases I_
  ·rw[av rfl]at a7;subst a7;simp
  rw[an (by decide)]at a7;simp;refine aH.of bM ?_;cases I'
  ·rw[av rfl]at a7;subst a7;simp
  rw[an (by decide)]at a7;by_cases vx:30<aT.length
  ·rw[av vx]at a7;subst a7;have qx:(30<(aT.length:Int))=True:=aY;simp[qx]
  rw[an vx]at a7;have qx:(30<(aT.length:Int))=False:=a8;simp[qx];refine aH.of dz ?_;by_cases m8:Ja=0
  ·rw[an (by simpa using m8)]at a7;subst m8;simp;have bo:aT.length<=1000000000:=by omega
   refine ck.of Nat (fun i=>[(1,.box [.int .i64 kind,.str id,.str (yx::ol),.int .i64 time,.str key,.list 2 (aT.map Head.row),b5 block]),(75,.own 9 1 (hb.map fun s=>[ag.str s])),(76,.x (.one (.int .i64 7))),(77,.x (.one (.int .i64 i)))])
    (fun i=>i<=7/\∀j (h:j<hb.length),j<i->dC aT hb[j]=[]) (fun i=>7-i) 0 ⟨cj _,fun j h bx=>by omega⟩ ?_ ?_
   ·simp[hb]
   rintro i ⟨ah,am⟩;by_cases ar:i<7
   ·have aS:((i:Int)<7)=True:=aY;have bC:=bc ((i:Int)+1);have Jw:i<hb.length:=ar;have Ts:hb.length=7:=rfl;have zpm:hb[i]?=some hb[i]:=cr Jw;have cG:=M6 aT hb[i];simp[ar,aS,Ts];refine aH.of (iV hb[i] bo) ?_;by_cases ap:dC aT hb[i]=[]
    ·rw[ap];simp;refine bt.of (i+1) ⟨ar,fun j h ac=>?_⟩ (by omega) ?_
     ·rcases mH j i with bx|bx
      ·exact am j h bx
      ·obtain rfl:j=i:=by omega
       exact ap
     ·simp[bC]
    ·rw[av (zv _ (hS Jw) ap)]at a7;subst a7;have je:((0:Int)<((dC aT hb[i]).length:Int))=True:=bW (by have:=Nu.2 ap;omega);have Tt:(0<(dC aT hb[i]).length)=True:=bW (Nu.2 ap);simp[Tt]
   have aS:((i:Int)<7)=False:=a8;have c0:A=false:=q3 (fun w hw=>by obtain⟨j,ac,rfl⟩:=GF hw;have Lr:j<7:=ac;exact am j ac (by omega))
   rw[an (by rw[c0];decide)]at a7;by_cases bk:200000<block.length
   ·rw[av bk]at a7;subst a7;have jh:(200000<(block.length:Int))=True:=aY;simp[aS,bU,jh]
   rw[an bk]at a7;have jh:(200000<(block.length:Int))=False:=a8;by_cases ak:kind=4
   ·have dx:(kind=4)=True:=bW ak;by_cases eJ:block=[]
    ·rw[an (by simp[eJ])]at a7;subst a7;have qy:(block=[])=True:=bW eJ;simp[aS,bU,jh,dx,qy]
    ·rw[av ⟨ak,eJ⟩]at a7;subst a7;have qy:(block=[])=False:=bz eJ;simp[aS,bU,jh,dx,qy]
   ·rw[an (by rintro⟨h,_⟩;exact ak h)]at a7;subst a7;have dx:(kind=4)=False:=bz ak;simp[aS,bU,jh,dx]
  ·rw[av m8]at a7;subst a7;have CV:(F=0)=False:=bz m8;simp[CV]
def zbr(n:Int):∀(k i:Nat),i<k->(kU k n)[i]?=some (Ah (n/16^(k-1-i)%16))
 |k+1,0,_=>by unfold kU;rfl
 |k+1,i+1,h=>by unfold kU;rw[A8,zbr n k i (by omega),show k+1-1-(i+1)=k-1-i by omega]
def zpn:∀d:Fin 16,b4 ([48,49,50,51,52,53,54,55,56,57,97,98,99,100,101,102]:aq) (d.val:Int) ((d.val:Int)+1)=[Ah (d.val:Int)]:=by decide
def zpo(n:Int)(a1:0<=n)(m:Nat)(hm:m<=15):(n.fdiv (2^min (60-4*((15-m:Nat):Int)).toNat u64.bits)).tmod 16=n/16^m%16:=by
 have ax:min (60-4*((15-m:Nat):Int)).toNat u64.bits=4*m:=by have:u64.bits=64:=rfl;rw[this];omega
 have aK:(2:Int)^(4*m)=16^m:=by rw[Int.pow_mul];rfl
 have am:(0:Int)<16^m:=Int.pow_pos (by decide);rw[ax,aK,RT _ (by omega),Int.tmod_eq_emod_of_nonneg (Int.ediv_nonneg a1 (by omega))]
def zbs(b:aq)(ad:b.length<=4611686018427387904):az prog 136 [.one (b5 b)] (.x (.one (.str (sL b)))):=by
 unfold sL;have cX:=MR 16 (oM b);refine az.bd f136 mixed fun aD=>?_;simp;have af:=e8 b;refine ck.of Nat (fun i=>[(0,.x (.one (b5 b))),(3,.x (.one (.int .u64 (oM (b.take i))))),(4,.x (.one (.int .i64 i)))]) (fun i=>i<=b.length) (fun i=>b.length-i) 0 (cj _) ?_ ?_
 ·simp[oM]
 intro i ah;by_cases ar:i<b.length
 ·have aS:((i:Int)<(b.length:Int))=True:=aY;have bC:=bc ((i:Int)+1);have bF:∀h,(bq b)[i]'h=ie b[i]:=fun h=>by rw[IE]
  have cu:oM (b.take (i+1))=yw (oM (b.take i)) b[i]:=by rw[k6 ar,Sz]
  have HX:=ZY b[i];simp[ar,aS,af,bF,HX];refine bt.of (i+1) ar (by omega) ?_;simp[cu,bC,yw]
 have aS:((i:Int)<(b.length:Int))=False:=a8;obtain rfl:i=b.length:=by omega
 rw[pw];obtain⟨a1,aa⟩:=ZX b;generalize oM b=n at*;simp[aS,af];refine ck.of Nat (fun j=>[(3,.x (.one (.int .u64 n))),(5,.x (.one (.str ((kU 16 n).take j)))),(6,.x (.one (.int .i64 (60-4*(j:Int)))))]) (fun j=>j<=16) (fun j=>16-j) 0 (cj _) ?_ ?_
 ·simp
 intro j ac;by_cases A1:j<16
 ·have iN:(0<=60-4*(j:Int))=True:=aY;have OA:(4*(j:Int)<=60)=True:=aY;have hf:=zpo n a1 (15-j) (by omega);rw[show 15-(15-j)=j by omega]at hf;have ay:=zbr n 16 j A1;rw[show 16-1-j=15-j by omega]at ay;have ot:(kU 16 n).take (j+1)=(kU 16 n).take j++[Ah (n/16^(15-j)%16)]:=by
   rw[List.take_succ,ay];rfl
  rw[<-hf]at ot;have IZ:0<=(n.fdiv (2^min (60-4*(j:Int)).toNat u64.bits)).tmod 16:=by rw[hf];omega
  have R6:(n.fdiv (2^min (60-4*(j:Int)).toNat u64.bits)).tmod 16<16:=by rw[hf];omega
  simp[OA];generalize (n.fdiv (2^min (60-4*(j:Int)).toNat u64.bits)).tmod 16=D at*;have hw:u64.wrap (D+1)=D+1:=by simp only[IntKind.wrap,IntKind.signed,IntKind.bits,h7,pP,hy];omega
  have e1:b4 ([48,49,50,51,52,53,54,55,56,57,97,98,99,100,101,102]:aq) D (D+1)=[Ah D]:=by
   obtain⟨d,rfl⟩:∃d:Nat,D=d:=⟨D.toNat,by omega⟩
   exact zpn ⟨d,by omega⟩
  rw[hw,e1];refine⟨⟨IZ,by omega,by omega⟩,by unfold maxLen;simp;omega,?_⟩;have bC:i64.wrap (60-4*(j:Int)-4)=60-4*((j:Int)+1):=by rw[show 60-4*(j:Int)-4=60-4*((j:Int)+1) by omega];exact bc _
  refine bt.of (j+1) A1 (by omega) ?_;simp[bC,ot]
 ·obtain rfl:j=16:=by omega
  rw[k4 (by omega)];simp
def zbt{l:List Head}{i:Nat}(h:i<l.length):fO (l.take (i+1))=fO (l.take i)++gJ l[i].name l[i].value:=by unfold fO;rw[k6 h,FG];simp
def zbu(l:List Head)(i:Nat):(fO (l.take i)).length<=(fO l).length:=by
 have:fO l=fO (l.take i)++fO (l.drop i):=by unfold fO;rw[<-FG,Df]
 rw[this,eG];omega
def zpp(r:Rec)(ao:r.fits):az prog 138 [.agg r.row] (.x (.one (b5 (mv r)))):=by
 obtain⟨aa,bE,hm,al⟩:=ao;have aE:=Tq r.kind aa bE;have aQ:=Y3 r.time hm;have bf:=strconv_Itoa (r.block.length:Int);have bM:=zbs r.block;have bU:=e8 r.block;have zmA:(nX r).length+r.block.length+6<=1099511627776:=by unfold mv at al;simp at al;omega
 have zmB:(oO r).length<=(nX r).length:=by unfold nX;simp
 have zX:(kV r).length<=(oO r).length:=by unfold oO;simp
 have sw:(iK r).length<=(kV r).length:=by unfold kV;simp
 have jI:(nW r).length<=(iK r).length:=by unfold iK;simp
 have i6:(oN r).length<=(nW r).length:=by unfold nW;simp
 have l2:(nV r).length<=(oN r).length:=by unfold oN;simp
 have eo:(pz r).length<=(nV r).length:=by unfold nV;split<;>simp
 have ax:pz r=75::69::80::84::47::49::13::10::105::100::58::32::(r.id++[13,10]):=by unfold pz gJ FE;simp
 have mJ:=eo;rw[ax]at mJ;simp at mJ;have kG:=MX r.kind;have zbv:(hl r.time).length<=1099511627776:=by unfold nW at jI;simp[gJ]at jI;have:(nW r).length=(oN r).length+(hl r.time).length+8:=(by unfold nW gJ;simp;omega);omega
 have zHE:r.key.length<=1099511627776:=by have:(iK r).length=(nW r).length+r.key.length+7:=(by unfold iK gJ;simp;omega);omega
 have zHF:(iK r).length+(fO r.aT).length<=1099511627776:=by have:(kV r).length=(iK r).length+(fO r.aT).length:=(by unfold kV;simp);omega
 have zlY:=SB r.aT;have zHG:(oO r).length=(iK r).length+(fO r.aT).length+(zY (r.block.length:Int)).length+10:=by unfold oO kV gJ;simp;omega
 have zHH:(nX r).length=(oO r).length+(sL r.block).length+10:=by unfold nX gJ;simp;omega
 have FC:=ZZ r.block;unfold Rec.row;by_cases aB:r.of=[]
 ·have ii:(r.of=[])=True:=bW aB;refine az.bd f138 mixed fun aD=>?_;simp[ii];refine⟨by unfold maxLen;omega,by unfold maxLen;omega,aH.of aE ?_⟩;simp;refine⟨by unfold maxLen;omega,by unfold maxLen;omega,aH.of aQ ?_⟩;simp;refine⟨by unfold maxLen;omega,by unfold maxLen;omega,by unfold maxLen;omega,by unfold maxLen;omega,by unfold maxLen;omega,?_⟩;refine ck.of Nat (fun i=>[(1,.box [.int .i64 r.kind,.str r.id,.str r.of,.int .i64 r.time,.str r.key,.list 2 (r.aT.map Head.row),b5 r.block]),(3,.x (.one (.str (iK r++fO (r.aT.take i))))),(4,.x (.one (.int .i64 i)))]) (fun i=>i<=r.aT.length) (fun i=>r.aT.length-i) 0 (cj _) ?_ ?_
  ·simp[iK,nW,oN,nV,pz,gJ,FE,aB,fO]
  rintro i ah;by_cases ar:i<r.aT.length
  ·have aS:((i:Int)<(r.aT.length:Int))=True:=aY;have bC:=bc ((i:Int)+1);have a_:r.aT[i].row=[.str r.aT[i].name,.str r.aT[i].value]:=rfl;have bv:=zbt ar;have zj:=zbu r.aT (i+1);have Tu:=zj;rw[bv,eG,FD]at Tu;simp[ar,aS,a_];refine⟨by unfold maxLen;omega,by unfold maxLen;omega,by unfold maxLen;omega,by unfold maxLen;omega,?_⟩;refine bt.of (i+1) ar (by omega) ?_;simp[bC,bv,gJ]
  have aS:((i:Int)<(r.aT.length:Int))=False:=a8;obtain rfl:i=r.aT.length:=by omega
  rw[pw];simp[aS,bU];refine aH.of (bf (by unfold ym;omega)) ?_;simp;refine⟨by unfold maxLen;omega,by unfold maxLen;omega,aH.of (bM (by omega)) ?_⟩;simp;refine⟨by unfold maxLen;omega,by unfold maxLen;omega,by unfold maxLen;omega,⟨by omega,by unfold maxLen;omega⟩,by omega,?_⟩;rw[MS,MS];congr 1;simp[mv,nX,oO,kV,gJ]
 ·have ii:(r.of=[])=False:=bz aB;have zHI:r.of.length<=1099511627776:=by have:(nV r).length=(pz r).length+r.of.length+6:=(by unfold nV;rw[an aB];simp[gJ];omega);omega
  refine az.bd f138 mixed fun aD=>?_;simp[ii];refine⟨by unfold maxLen;omega,by unfold maxLen;omega,by unfold maxLen;omega,by unfold maxLen;omega,by unfold maxLen;omega,aH.of aE ?_⟩;simp;refine⟨by unfold maxLen;omega,by unfold maxLen;omega,aH.of aQ ?_⟩;simp;refine⟨by unfold maxLen;omega,by unfold maxLen;omega,by unfold maxLen;omega,by unfold maxLen;omega,by unfold maxLen;omega,?_⟩;refine ck.of Nat (fun i=>[(1,.box [.int .i64 r.kind,.str r.id,.str r.of,.int .i64 r.time,.str r.key,.list 2 (r.aT.map Head.row),b5 r.block]),(3,.x (.one (.str (iK r++fO (r.aT.take i))))),(4,.x (.one (.int .i64 i)))]) (fun i=>i<=r.aT.length) (fun i=>r.aT.length-i) 0 (cj _) ?_ ?_
  ·simp[iK,nW,oN,nV,pz,gJ,FE,aB,fO]
  rintro i ah;by_cases ar:i<r.aT.length
  ·have aS:((i:Int)<(r.aT.length:Int))=True:=aY;have bC:=bc ((i:Int)+1);have a_:r.aT[i].row=[.str r.aT[i].name,.str r.aT[i].value]:=rfl;have bv:=zbt ar;have zj:=zbu r.aT (i+1);have Tu:=zj;rw[bv,eG,FD]at Tu;simp[ar,aS,a_];refine⟨by unfold maxLen;omega,by unfold maxLen;omega,by unfold maxLen;omega,by unfold maxLen;omega,?_⟩;refine bt.of (i+1) ar (by omega) ?_;simp[bC,bv,gJ]
  have aS:((i:Int)<(r.aT.length:Int))=False:=a8;obtain rfl:i=r.aT.length:=by omega
  rw[pw];simp[aS,bU];refine aH.of (bf (by unfold ym;omega)) ?_;simp;refine⟨by unfold maxLen;omega,by unfold maxLen;omega,aH.of (bM (by omega)) ?_⟩;simp;refine⟨by unfold maxLen;omega,by unfold maxLen;omega,by unfold maxLen;omega,⟨by omega,by unfold maxLen;omega⟩,by omega,?_⟩;rw[MS,MS];congr 1;simp[mv,nX,oO,kV,gJ]
def zpq(l:List Rec)(w:aq):(w∈l.map Rec.id->0<=jN (fun r:Rec=>r.id==w) l)/\(w∉l.map Rec.id->jN (fun r:Rec=>r.id==w) l=-1):=by
 rcases yA (fun r:Rec=>r.id==w) l with⟨e,aX⟩|⟨j,e,ac,ar⟩
 ·refine⟨fun h=>?_,fun _=>e⟩;obtain⟨r,ao,rfl⟩:=hx.1 h;rw[sF]at aX;have:=aX r ao;simp at this
 ·refine⟨fun _=>by rw[e];omega,fun h=>?_⟩;exfalso;obtain⟨al,he,_⟩:=kT.1 ac;exact h (hx.2 ⟨l[j],hS al,by simpa using he⟩)
def zpr(l:List Rec):az prog 79 [fP l] (.x (.one (.int .i64 (kq l)))):=by
 obtain⟨F,a7⟩:∃F,F=kq l:=⟨_,rfl⟩
 rw[<-a7];unfold kq at a7;unfold fP;refine az.bd f79 mixed fun aD=>?_;by_cases aa:1000<l.length
 ·rw[av aa]at a7;subst a7;have dd:(1000<(l.length:Int))=True:=aY;simp[dd]
 rw[an aa]at a7;have dd:(1000<(l.length:Int))=False:=a8;simp[dd];refine ck.of Nat (fun i=>[(0,.x (.one (.list 7 (l.map Rec.row)))),(3,.x (.one (.int .i64 (lj (l.take i))))),(4,.x (.one (.int .i64 i)))])
  (fun i=>i<=l.length/\F=ua ((l.take i).map Rec.id) (lj (l.take i)) (l.drop i)/\∀r∈l.take i,hH r=0) (fun i=>l.length-i) 0 ⟨cj _,by simpa[lj]using a7,by simp⟩ ?_ ?_
 ·simp[lj]
 rintro i ⟨ah,a6,Aj⟩;have zmK:=SF Aj;have zj:(l.take i).length<=1000:=by simp;omega
 by_cases ar:i<l.length
 ·have aS:((i:Int)<(l.length:Int))=True:=aY;have pV:((i:Int)<=(l.length:Int))=True:=aY;have bC:=bc ((i:Int)+1);have a_:l[i].row=[.int .i64 l[i].kind,.str l[i].id,.str l[i].of,.int .i64 l[i].time,.str l[i].key,.list 2 (l[i].aT.map Head.row),b5 l[i].block]:=rfl;have aE:=Tr l[i];rw[jw ar]at a6;unfold ua at a6;have gy:l.take (i+1)=l.take i++[l[i]]:=k6 ar;obtain⟨f1,f2⟩:=zpq (l.take i) l[i].id;have bf:=S3 (l.take i) l[i].id (by omega);unfold fP at bf;rw[Fy]at bf;have e1:b4 (l.map Rec.row) 0 (i:Int)=(l.map Rec.row).take i:=by unfold b4;simp
  rw[a_]at aE;simp[ar,aS,a_];refine aH.of aE ?_;by_cases ao:hH l[i]=0
  ·rw[an (by simpa using ao)]at a6;have fm:=zaa (w5 ao);have cX:=MY (w5 ao);have aQ:=zpp l[i] fm;rw[a_]at aQ;rw[ao];have bU:=e8 (mv l[i]);have FK:i64.wrap ((lj (l.take i):Int)+((mv l[i]).length:Int))=((lj (l.take i):Int)+((mv l[i]).length:Int)):=bc _;generalize jN (fun r:Rec=>r.id==l[i].id) (l.take i)=I at*;simp[ar,aS,pV,a_,e1];refine aH.of bf ?_;by_cases d9:l[i].id∈(l.take i).map Rec.id
   ·have lc:=f1 d9;have zps:(0<=I)=True:=bW lc;rw[av d9]at a6;subst a6;simp[zps]
   ·have lc:=f2 d9;subst lc;rw[an d9]at a6;simp[ar,aS,a_];refine aH.of aQ ?_;simp[bU];refine bt.of (i+1) ⟨ar,?_,fun r hm=>?_⟩ (by omega) ?_
    ·rw[gy,MZ,qa];exact a6
    ·rw[gy]at hm;rcases hg.1 hm with h|h
     ·exact Aj r h
     ·obtain rfl:r=l[i]:=by simpa using h
      exact ao
    ·rw[gy,MZ];simp[bC,FK]
  ·rw[av ao]at a6;subst a6;simp[ao]
 ·have aS:((i:Int)<(l.length:Int))=False:=a8;obtain rfl:i=l.length:=by omega
  rw[wT]at a6;unfold ua at a6;rw[pw]at*;by_cases hs:500000<lj l
  ·have cT:((500000:Int)<(lj l:Int))=True:=aY;rw[av hs]at a6;subst a6;simp[aS,cT]
  ·have cT:((500000:Int)<(lj l:Int))=False:=a8;rw[an hs]at a6;subst a6;simp[aS,cT]
structure cK where
 b:aq
 at_:Nat
 bad:Int
def cK.cells(x:cK):List ag:=[b5 x.b,.int .i64 x.at_,.int .i64 x.bad]
def cK.stop(x:cK):cK:=if x.bad<0 then {x with bad:=x.at_} else x
def cK.next(x:cK)(s:aq):cK:={x with at_:=x.at_+(s.length+2)}
def Tv(x:cK):cx prog 187 [.box x.cells] (.b2 []) [.box x.stop.cells]:=by
 obtain⟨b,a,bad⟩:=x;unfold cK.stop;by_cases h:bad<0
 ·have bx:(bad<0)=True:=bW h;rw[av h];unfold cK.cells;dsimp only;refine cx.bd f187 mixed fun aD=>?_;simp[bx]
 ·have bx:(bad<0)=False:=bz h;rw[an h];unfold cK.cells;dsimp only;refine cx.bd f187 mixed fun aD=>?_;simp[bx]
def Tw(x:cK)(s:aq)(ai:x.at_<=1000000000000)(hs:s.length<=1000000000000):cx prog 186 [.box x.cells,.x (.one (.str s))] (.b2 []) [.box (x.next s).cells,.dead]:=by obtain⟨b,a,bad⟩:=x;unfold cK.next cK.cells;dsimp only at*;have ds:=bc ((s.length:Int)+2);have dV:=bc ((a:Int)+((s.length:Int)+2));refine cx.bd f186 mixed fun aD=>?_;simp[ds,dV]
def zpt(a b:aq):az prog 199 [.one (b5 a),.one (b5 b)] (.x (.one (.bool (a==b)))):=by have gN:=vj a;have e0:=vj b;have s1:=vi a;have s2:=vi b;refine az.bd f199 mixed fun aD=>?_;simp[gN,e0,s1,s2]
def zpu(a w:aq):az prog 245 [.one (b5 a),.one (b5 w)] (.x (.one (.bool (e9 a w)))):=by
 have lY:=e8 a;have zbw:=e8 w;have e1:b4 (bq a) 0 (w.length:Int)=bq (a.take w.length):=by unfold b4 bq;simp
 have aE:=zpt (a.take w.length) w;by_cases h:w.length<=a.length
 ·have bx:((w.length:Int)<=(a.length:Int))=True:=aY;refine az.bd f245 mixed fun aD=>?_;simp[lY,zbw,bx,e1];refine b_.of (fun _=>aE) rfl ?_;have he:e9 a w=(a.take w.length==w):=by
   unfold e9;rw[mm,tX,List.prefix_iff_eq_take,fc];exact eq_comm
  rw[he];simp
 ·have bx:((w.length:Int)<=(a.length:Int))=False:=a8;refine az.bd f245 mixed fun aD=>?_;simp[lY,zbw,bx,e1];refine e7 false ?_;have he:e9 a w=false:=by
   unfold e9;rw[zN];intro am;rw[tX]at am;exact h am.length_le
  rw[he];simp
def zbx(x:cK)(s:aq)(ai:x.at_<=x.b.length)(ad:x.b.length<=16777216)(hs:s.length<=16777216):cx prog 185 [.box x.cells,.x (.one (.str s))] (.x (.one (.bool (e9 (x.b.drop x.at_) s)))) [.box x.cells,.dead]:=by
 obtain⟨b,a,bad⟩:=x;unfold cK.cells;dsimp only at*;have aE:=zpu (b.drop a) s;have lY:=e8 b;have cG:((a:Int)<=(b.length:Int))=True:=aY;have e1:b4 (bq b) (a:Int) (b.length:Int)=bq (b.drop a):=by rw[oE ai,k4 (by simp)]
 refine cx.bd f185 mixed fun aD=>?_;simp[lY,cG,e1];refine aH.of aE ?_;simp
end
def zla:Go.Shelf.Ren:=⟨kn [(115,199),(185,142),(187,198),(224,201),(253,200),(254,202),(255,248),(291,249)],kn [(0,0),(3,3),(4,4),(5,5),(9,9),(37,51),(46,209),(51,258),(146,259)],kn [(1,0)]⟩
def Zm:Go.Proofs.Lays.n185 prog zla where
 mixed:=by kernel_rfl
 f115:=b1 func199
 f185:=b1 func142
 f187:=b1 func198
 f224:=b1 func201
 f253:=b1 func200
 f254:=b1 func202
 f255:=b1 func248
 f291:=b1 func249
 t0:=underlying0
 a0:=isAgg0
 z0:=sizeOf0
 v0:=zeroValue0
 t3:=underlying3
 a3:=isAgg3
 z3:=sizeOf3
 v3:=zeroValue3
 t4:=underlying4
 a4:=isAgg4
 z4:=sizeOf4
 v4:=zeroValue4
 t5:=underlying5
 a5:=isAgg5
 z5:=sizeOf5
 v5:=zeroValue5
 t9:=underlying9
 a9:=isAgg9
 z9:=sizeOf9
 v9:=zeroValue9
 t37:=underlying51
 a37:=isAgg51
 z37:=sizeOf51
 v37:=zeroValue51
 t46:=underlying209
 a46:=isAgg209
 z46:=sizeOf209
 v46:=zeroValue209
 t51:=underlying258
 a51:=isAgg258
 z51:=sizeOf258
 v51:=zeroValue258
 t146:=underlying259
 a146:=isAgg259
 z146:=sizeOf259
 v146:=zeroValue259
 g1:=by kernel_rfl
section
variable [bn][c1 0][cF prog]
def xa(l:aq):List Int:=l.map fun c=>(c.toNat:Int)
def zby(l:aq):Lib.bytesOf (xa l)=l:=by
 unfold Lib.bytesOf xa;rw[List.map_map]
 conv=>rhs;rw[<-List.map_id l]
 apply Ht;intro c _;simp
def zbz{l:aq}:∀x∈xa l,0<=x/\x<256:=by intro x ai;obtain⟨c,_,rfl⟩:=hx.1 ai;have:=c.toNat_lt;omega
def zbA{w:bb}{S:Nat->Prop}{l:aq}{v:aI}(h:cz w S (.one (b5 l)) v) :
  (∃a c,v=.slice a 0 c/\l=[]/\(a=none->c=0))\/∃b o c,v=.slice (some ⟨b,o,none⟩) l.length c/\l.length<=c/\∀i,i<l.length->w.cell? ((⟨b,o,none⟩:Go.Addr).add i)=some (.int .u8 ((xa l).getD i 0)):=by
 have al:(bq l).flatten=l.map fun c=>ag.int .u8 c.toNat:=by
  induction l with
  |nil=>rfl
  |cons a r ba=>
   have:bq (a::r)=ie a::bq r:=rfl;rw[this,ta];clear h;have ML:(bq r).flatten=r.map fun c=>ag.int .u8 c.toNat:=by
    clear ba this;induction r with
    |nil=>rfl
    |cons x y ba=>show ie x++(bq y).flatten=_;rw[ba];rfl
   rw[ML];rfl
 have bx:bD w S (.list 1 (bq l)) v:=h;generalize ai:bq l=xs at bx al;have cX:xs.length=l.length:=by rw[<-ai,e8]
 cases bx with
 |mF a c _ GR pe=>exact .inl ⟨a,c,rfl,by simpa using cX.symm,pe⟩
 |list b' cap _ _ U hs dW ap hm n4 lz b8=>
  obtain⟨b,o,sp⟩:=b';cases dW;refine .inr ⟨b,o,cap,by rw[cX],by omega,fun i ah=>?_⟩;have aa:xs.flatten[i]?=some (.int .u8 l[i].toNat):=by rw[al,eZ,cr ah];rfl
  have ab:=lz i _ aa;have au:=b8 i _ aa;have e:(xa l).getD i 0=l[i].toNat:=by unfold xa;rw[lF,eZ,cr ah];rfl
  rw[e];generalize U i=u at ab au;cases au;exact ab
def zbB(b s:aq)(ad:b.length<=16777216)(ab:2<=s.length)(hs:s.length<=16777216):az prog 142 [.one (b5 b),.one (b5 s)] (.x (.one (.int .i64 (Lib.index b s)))):=by
 refine⟨(rf f142 (by kernel_rfl) (by kernel_rfl) rfl),fun w S vs bS bj=>?_⟩;obtain⟨zpv,a1,kL⟩:=bj.2 0 _ rfl;obtain⟨DS,aa,iy⟩:=bj.2 1 _ rfl;have cB:vs.size=2:=bj.1;have gO:vs=#[zpv,DS]:=by
  apply Array.ext
  ·rw[cB];rfl
  ·intro i ah zHJ;rw[cB]at ah;have ab:i=0\/i=1:=by omega
   rcases ab with rfl|rfl
   ·rw[vT (by omega)]at a1;injection a1
   ·rw[vT (by omega)]at aa;injection aa
 obtain⟨m,hm⟩:=c1.int (g:=0) w bS.xi;rcases zbA iy with⟨a,c,rfl,rfl,_⟩|⟨eV,e0,bA,rfl,x1,zpw⟩
 ·simp at ab
 have zpx:Calls prog 142 vs w (fun e w'=>e=.returned (.int .i64 (Lib.index b s))/\∃q,w'=w.drewN q):=by
  rw[gO];rcases zbA kL with⟨a,c,rfl,rfl,pe⟩|⟨fa,gN,bw,rfl,Q',zpy⟩
  ·have al:Lib.index [] s=-1:=by
    cases s with
    |nil=>simp at ab
    |cons x y=>simp[Lib.index]
   rw[al];exact(Any.bytes_Index_longer Zm a (some ⟨eV,e0,none⟩) 0 c s.length bA w ab (by omega) (by omega)).mono fun e w' ⟨he,hw⟩=>⟨he,0,hw⟩
  ·have:=Any.bytes_Index_at Zm ⟨fa,gN,none⟩ ⟨eV,e0,none⟩ b.length bw s.length bA (xa b) (xa s) m w (by simp[xa]) (by simp[xa]) zbz zbz zpy zpw Q' (by omega) (by omega) hm;rw[zby,zby]at this;exact this
 refine zpx.mono ?_;rintro e w' ⟨rfl,q,rfl⟩;exact⟨_,rfl,⟨rfl,rfl,rfl,f_ _,fun k _=>rfl⟩,bD.int _ _,fun b h=>by cases h⟩
def nm:aq:=[13,10]
def gx(l:aq):Int:=Lib.index l nm
def zpz:gx []=-1:=rfl
def zpA(c:UInt8)(r:aq):gx (c::r)=if c=13/\r.head?=some 10 then 0 else if gx r=-1 then -1 else gx r+1:=by
 have am:nm.isPrefixOf (c::r)=decide (c=13/\r.head?=some 10):=by
  cases r with
  |nil=>show ((13==c)&&false)=_;rw[kJ,iI (by rintro⟨_,h⟩;cases h)]
  |cons d r=>show ((13==c)&&((10==d)&&true))=_;rw[mm];simp only[b7,fc,px,hk,List.head?_cons,b9];constructor<;>rintro⟨aa,ab⟩<;>exact⟨aa.symm,ab.symm⟩
 show (if nm.isPrefixOf (c::r)=true then (0:Int)else if (Lib.index r nm==-1)=true then -1 else Lib.index r nm+1)=_;rw[am];unfold gx;simp only[hk,fc]
def Tx(l:aq):-1<=gx l:=Lib.index_ge _ _
def Ty{l:aq}(h:0<=gx l):gx l+2<=l.length:=Lib.index_room l nm h
def Tz:∀l:aq,ha l=if 0<=gx l/\pB (l.take (gx l).toNat)=true then some (l.take (gx l).toNat)else none
 |[]=>by rw[zpz,an (by omega)];rfl
 |c::r=>by
  have ba:=Tz r;have ay:=Tx r;rw[zpA];unfold ha;by_cases aa:c=13/\r.head?=some 10
  ·have af:(0:Int)<=0/\pB (List.take (0:Int).toNat (c::r))=true:=⟨Int.le_refl 0,rfl⟩
   rw[av aa,av aa,av af];rfl
  ·rw[an aa,an aa];by_cases ab:gx r=-1
   ·have af:¬((0:Int)<=-1/\pB (List.take (-1:Int).toNat (c::r))=true):=fun h=>absurd h.1 (by decide);have iC:¬((0:Int)<=-1/\pB (List.take (-1:Int).toNat r)=true):=fun h=>absurd h.1 (by decide);rw[ab,an iC]at ba;rw[av ab,an af,ba];split<;>rfl
   ·rw[an ab];obtain⟨k,ek⟩:∃k:Nat,gx r=k:=⟨(gx r).toNat,by omega⟩
    rw[ek]at ba⊢;have ax:((k:Int)+1).toNat=k+1:=by omega
    have cC:((k:Int)).toNat=k:=by omega
    rw[cC]at ba;rw[ax,Gz];have ad:pB (c::r.take k)=(!(decide (c=13\/c=10))&&pB (r.take k)):=by
     unfold pB;rw[mm];simp only[b7,hk,fp,not_or,xx,rp];constructor
     ·rintro⟨⟨c_,a2⟩,a3,a4⟩;exact⟨⟨fun e=>c_ e.symm,fun e=>a3 e.symm⟩,a2,a4⟩
     ·rintro⟨⟨c_,a3⟩,a2,a4⟩;exact⟨⟨fun e=>c_ e.symm,a2⟩,fun e=>a3 e.symm,a4⟩
    rw[ad];by_cases au:c=13\/c=10
    ·rw[av au,gw au,an (by simp)]
    ·rw[an au,iI au,ba];simp only[Bool.not_false,ig];by_cases aN:pB (r.take k)=true
     ·rw[av ⟨by omega,aN⟩,av ⟨by omega,aN⟩];rfl
     ·rw[an (fun h=>aN h.2),an (fun h=>aN h.2)];rfl
def Az(b:aq)(a:Nat):aq:=if 0<=gx (b.drop a)then (b.drop a).take (gx (b.drop a)).toNat else b.drop a
def xb(b:aq)(a:Nat):Int:=if 0<=gx (b.drop a)then (a:Int)+gx (b.drop a)+2 else -1
def zbC(b:aq)(a:Nat)(ad:b.length<=16777216)(bj:a<=b.length):az prog 88 [.one (b5 b),.one (.int .i64 a)] (.b2 [.one (.str (Az b a)),.one (.int .i64 (xb b a))]):=by
 have aE:=zbB (b.drop a) nm (by rw[eP];omega) (by decide) (by decide);have aX:b5 nm=ag.list 1 [[ag.int .u8 13],[ag.int .u8 10]]:=rfl;have ah:Lib.index (b.drop a) nm=gx (b.drop a):=rfl;rw[ah]at aE;rw[aX]at aE;have ay:=Tx (b.drop a);have ao:=Ty (l:=b.drop a);rw[eP]at ao;have lY:=e8 b;have cG:((a:Int)<=(b.length:Int))=True:=aY;have e1:b4 (bq b) (a:Int) (b.length:Int)=bq (b.drop a):=by rw[oE bj,k4 (by simp)]
 have zpB:=vj (b.drop a);have zpC:=vi (b.drop a);unfold Az xb;by_cases a1:0<=gx (b.drop a)
 ·obtain⟨k,ek⟩:∃k:Nat,gx (b.drop a)=k:=⟨(gx (b.drop a)).toNat,by omega⟩
  rw[ek]at aE ao⊢;have ao:=ao (by omega);have pl:((k:Int)<0)=False:=a8;have sO:b4 (bq b) (a:Int) ((a:Int)+(k:Int))=bq ((b.drop a).take k):=by rw[<-Int.natCast_add,oE (by omega),show a+k-a=k by omega]
  have ds:i64.wrap ((a:Int)+(k:Int))=((a:Int)+(k:Int)):=bc _;have dV:=bc (((a:Int)+(k:Int))+2);have TA:(((a:Int)+(k:Int))<=(b.length:Int))=True:=aY;have TB:((a:Int)<=((a:Int)+(k:Int)))=True:=aY;have TC:=vj ((b.drop a).take k);have TD:=vi ((b.drop a).take k);have ke:((b.drop a).take k).length<=maxLen:=by rw[e'];unfold maxLen;omega
  rw[av (by omega),av (by omega)];rw[kO];generalize cp:(b.drop a).take k=T at*;refine az.bd f88 mixed fun aD=>?_;simp[lY,cG,e1];refine aH.of aE ?_;simp[pl,lY,ds,dV,TA,TB,sO,TC,TD]
 ·rw[an a1,an a1];have ax:gx (b.drop a)=-1:=by omega
  rw[ax]at aE;refine az.bd f88 mixed fun aD=>?_;simp[lY,cG,e1];refine aH.of aE ?_;simp[lY,cG,e1,zpB,zpC]
def dk(b:aq)(a:Nat):aq:=if 0<=gx (b.drop a)then (b.drop a).take (gx (b.drop a)).toNat else []
def F0(b:aq)(a:Nat):eO b a=(decide (0<=gx (b.drop a))&&pB (dk b a)):=by
 unfold eO dk;rw[Tz];by_cases h:0<=gx (b.drop a)
 ·rw[av h];by_cases ab:pB ((b.drop a).take (gx (b.drop a)).toNat)=true
  ·rw[av ⟨h,ab⟩,ab,gw h];rfl
  ·rw[an (fun e=>ab e.2),Bool.not_eq_true _ |>.mp ab];simp
 ·rw[an (fun e=>h e.1),iI h];rfl
def xc{b:aq}{a:Nat}(h:eO b a=true):fj b a=dk b a:=by rw[F0,b7,mA]at h;unfold fj dk at*;rw[Tz,av h.1];rw[av h.1]at h;rw[av h];rfl
def Jx(b:aq)(a:Nat):(dk b a).length<=b.length:=by
 unfold dk;split
 ·rw[e',eP];omega
 ·simp
def TE(x:cK)(ai:x.at_<=x.b.length)(ad:x.b.length<=16777216):cx prog 195 [.box x.cells] (.b2 [.one (.str (dk x.b x.at_)),.one (.bool (eO x.b x.at_))]) [.box x.cells]:=by
 obtain⟨b,a,bad⟩:=x;unfold cK.cells;dsimp only at*;have aE:=zbB (b.drop a) nm (by rw[eP];omega) (by decide) (by decide);have aX:b5 nm=ag.list 1 [[ag.int .u8 13],[ag.int .u8 10]]:=rfl;have ah:Lib.index (b.drop a) nm=gx (b.drop a):=rfl;rw[ah,aX]at aE;have ay:=Tx (b.drop a);have ao:=Ty (l:=b.drop a);rw[eP]at ao;have lY:=e8 b;have cG:((a:Int)<=(b.length:Int))=True:=aY;have e1:b4 (bq b) (a:Int) (b.length:Int)=bq (b.drop a):=by rw[oE ai,k4 (by simp)]
 rw[F0];have TF:=Jx b a;unfold dk at*;by_cases a1:0<=gx (b.drop a)
 ·obtain⟨k,ek⟩:∃k:Nat,gx (b.drop a)=k:=⟨(gx (b.drop a)).toNat,by omega⟩
  rw[ek]at aE ao TF⊢;have ao:=ao (by omega);have pl:((k:Int)<0)=False:=a8;have sO:b4 (bq b) (a:Int) ((a:Int)+(k:Int))=bq ((b.drop a).take k):=by rw[<-Int.natCast_add,oE (by omega),show a+k-a=k by omega]
  have ds:i64.wrap ((a:Int)+(k:Int))=((a:Int)+(k:Int)):=bc _;have TA:(((a:Int)+(k:Int))<=(b.length:Int))=True:=aY;have TB:((a:Int)<=((a:Int)+(k:Int)))=True:=aY;have TC:=vj ((b.drop a).take k);have TD:=vi ((b.drop a).take k);rw[av (by omega)]at TF⊢;rw[kO]at*;have zpD:pB ((b.drop a).take k)=(decide ((13:UInt8)∉(b.drop a).take k)&&decide ((10:UInt8)∉(b.drop a).take k)):=rfl;rw[zpD];have ke:((b.drop a).take k).length<=maxLen:=by unfold maxLen;omega
  generalize cp:(b.drop a).take k=T at*;have i1:=strings_IndexByte T 10;have i2:=strings_IndexByte T 13;refine cx.bd f195 mixed fun aD=>?_;simp[lY,cG,e1];refine aH.of aE ?_;simp[pl,lY,ds,TA,TB,sO,TC,TD];refine aH.of i1 ?_;by_cases sK:(10:UInt8)∈T
  ·have g1:(fu T 10<0)=False:=bz (by have:=m' (s:=T) (c:=10) (by simpa using sK);omega);simp[g1];refine gH 0 ?_;simp[sK]
  ·have g1:(fu T 10<0)=True:=bW (by rw[qn (s:=T) (c:=10) (by simpa using sK)];decide);simp[g1];refine b_.of (fun _=>i2) rfl ?_;by_cases Nv:(13:UInt8)∈T
   ·have g2:(fu T 13<0)=False:=bz (by have:=m' (s:=T) (c:=13) (by simpa using Nv);omega);simp[g2,sK,Nv]
   ·have g2:(fu T 13<0)=True:=bW (by rw[qn (s:=T) (c:=13) (by simpa using Nv)];decide);simp[g2,sK,Nv]
 ·rw[an a1];have ax:gx (b.drop a)=-1:=by omega
  rw[ax]at aE⊢;refine cx.bd f195 mixed fun aD=>?_;simp[lY,cG,e1];refine aH.of aE ?_;simp
def Ua{c:UInt8}{s:aq}(k:Nat)(hm:c∈s):Lib.splitK [c] 0 (k+1) s=ed c s::Lib.splitK [c] 0 k (hq c s):=by
 conv=>lhs;unfold Lib.splitK
 rw[index_one];have bY:¬(((ed c s).length:Int)=-1):=by omega
 have e:=Ni hm;have bv:s.take (ed c s).length=ed c s:=by have:=pR (List.take (ed c s).length) e;rw[List.take_left' rfl]at this;exact this
 rw[av hm];simp[bY,bv,hq]
def zcp{c:UInt8}{s:aq}(hm:c∉s):∀k,Lib.splitK [c] 0 k s=[s]
 |0=>rfl
 |k+1=>by unfold Lib.splitK;rw[index_one,an hm];rfl
def AI(s:aq):List (aq):=if 32∈s then (if 32∈hq 32 s then [ed 32 s,ed 32 (hq 32 s),hq 32 (hq 32 s)]else [ed 32 s,hq 32 s])else [s]
def zrs(s:aq):Lib.splitK [32] 0 (min 3 (s.length+1)-1) s=AI s:=by
 unfold AI;by_cases h:(32:UInt8)∈s
 ·rw[av h];have aa:=Tp h
  match al:s.length,aa with
  |1,aa=>have:hq 32 s=[]:=SZ.1 (by omega);rw[show min 3 (1+1)-1=0+1 from rfl,Ua 0 h,this,an (by simp)];rfl
  |n+2,_=>
   rw[show min 3 (n+2+1)-1=1+1 by omega,Ua 1 h];by_cases ab:(32:UInt8)∈hq 32 s
   ·rw[av ab,Ua 0 ab];rfl
   ·rw[an ab,zcp ab]
 ·rw[an h,zcp h]
def zrt{f:FuncId}{args:List aG}{N:Nat}(vs:List aI)(xs:List ByteArray)(t:aP)(ap:tv prog f)(bj:zT args=some vs)
  (al:∀x∈xs,x.data.toList.length<=maxLen)(aX:xs.length<=N)(gS:N<=maxLen)
  (h:∀w,Calls prog f vs.toArray w fun e w'=>e=.returned (.slice (some ⟨w.heap.size,0,none⟩) xs.length N)/\w'=w.alloc (.cells (Lib.cellsOf xs N) t)) :
  az prog f args (.x (strs (xs.map (·.data.toList)))):=by
 refine⟨ap,fun w S us bS gF=>?_⟩;have e:us=vs.toArray:=by have:=L7 (us:=us.toList) (by rw[l4];exact gF.1) (fun j x ac=>by simpa using gF.2 j x ac) bj;rw[<-this]
 subst e;refine(h w).mono ?_;rintro e w' ⟨rfl,rfl⟩;have fH:=zbc xs;have cX:((xs.map (·.data.toList)).map fun s=>[ag.str s]).length=xs.length:=by simp
 refine⟨_,rfl,(RowKit.Below.refl _ _).alloc (f_ _) _,?_,fun b ad=>by cases ad⟩;rw[<-cX];refine bD.list ⟨w.heap.size,0,none⟩ _ 1 _ (fun j=>(xs[j]?.map Value.string).getD .nilIface) (Or.inr ⟨f_ _,by show _<(w.heap.push _).size;rw[Array.size_push];exact Nat.lt_succ_self _⟩) rfl (by rw[cX];exact aX) gS (fun x ai=>by obtain⟨y,_,rfl⟩:=hx.1 ai;rfl) (fun j c ac=>?_) (fun j c ac=>?_)
 ·rw[fH,eZ]at ac;obtain⟨x,ai,_⟩:=SK.1 ac;rw[n7,World.cell?_alloc_new,ai];have A1:j<xs.length:=(eQ.1 ai).1;unfold Lib.cellsOf;rw[List.getElem?_toArray,kx (by simpa using (show 0+j<xs.length by omega)),eZ,hv,ai];rfl
 ·rw[fH,eZ]at ac;obtain⟨x,ai,rfl⟩:=SK.1 ac;have hm:x∈xs:=kt ai;rw[ai];exact bD.str _ (al x hm)
def zru{s:aq}:∀y∈AI s,y.length<=s.length:=by
 have ad:∀t:aq,(ed 32 t).length<=t.length:=fun t=>by unfold ed;exact(List.takeWhile_sublist _).length_le
 intro y aU;unfold AI at aU;split at aU
 ·rename_i h;have aa:=Tp h;have ab:=ad s;split at aU
  ·rename_i au;have aN:=Tp au;have bE:=ad (hq 32 s);simp only[fp,Fx,lS]at aU;rcases aU with rfl|rfl|rfl<;>omega
  ·simp only[fp,Fx,lS]at aU;rcases aU with rfl|rfl<;>omega
 ·simp only[fp,Fx,lS]at aU;subst aU;exact f_ _
def zrv(s:aq)(hs:s.length<=600000):az prog 203 [.one (.str s),.one (.str [32]),.one (.int .i64 0),.one (.int .i64 3)] (.x (strs (AI s))):=by
 obtain⟨N,qv⟩:∃N,N=min 3 (s.length+1):=⟨_,rfl⟩
 have nG:Lib.countB ⟨s.toArray⟩ ⟨[32].toArray⟩=s.count 32:=Lib.count_one 32 s;have dW:(Lib.splitB ⟨[32].toArray⟩ 0 (N-1) ⟨s.toArray⟩).map (·.data.toList)=AI s:=by rw[Lib.splitB_data,qv];exact zrs s
 have cG:=Lib.splitB_length_le ⟨[32].toArray⟩ 0 (N-1) ⟨s.toArray⟩;have dg:=zru (s:=s);rw[<-dW]at dg⊢;refine zrt (N:=N) [.string ⟨s.toArray⟩,.string ⟨[32].toArray⟩,.int .i64 0,.int .i64 3] _ 9 (rf f203 (by kernel_rfl) (by kernel_rfl) rfl) rfl (fun x ai=>?_) (by omega) (by unfold maxLen;omega) (fun w=>?_)
 ·have:=dg _ (List.mem_map_of_mem ai);unfold maxLen;omega
 ·exact Any.strings_genSplit_core MG (by kernel_rfl) ⟨s.toArray⟩ ⟨[32].toArray⟩ 0 3 N w (by show s.toArray.size<_;simp;omega) (f_ 1) (cj _)
   (fun x cs ai=>(Any.strings_Index_one {MG with} x 32 _).mono fun e w' ⟨aa,ab⟩=>⟨by rw[aa];show _=Ending.returned (.int .i64 (Lib.index x.data.toList [32]));rw[Lib.index_one],ab⟩)
   ((Any.strings_Count_one {MG with} ⟨s.toArray⟩ 32 w).mono fun e w' ⟨aa,ab⟩=>⟨by rw[aa,nG];rfl,ab⟩)
   (by decide) (by decide) (by rw[an (by decide),qv];show _=min 3 ((s.toArray.size:Int)+1);simp;omega)
def zrw(s:aq)(hs:s.length<=600000):az prog 143 [.one (.str s),.one (.str [32]),.one (.int .i64 3)] (.x (strs (AI s))):=by refine az.bd f143 mixed fun aD=>?_;simp;refine aH.of (zrv s hs) ?_;simp
def cK.ok(x:cK):Prop:=x.b.length<=16777216/\(x.bad<0->x.at_<=x.b.length)/\x.at_<=1000000000
def zbD(x:cK)(w:aq):Bool:=eO x.b x.at_&&e9 (dk x.b x.at_) (w++dw)
def cK.said(x:cK)(w:aq):aq×cK:=
 if 0<=x.bad then ([],x)else if zbD x w=true then ((dk x.b x.at_).drop (w.length+2),x)else ([],x.stop)
def zbE(x:cK)(w:aq)(ai:x.ok)(hw:w.length<=100):cx prog 189 [.box x.cells,.x (.one (.str w))] (.x (.one (.str (x.said w).1))) [.box (x.said w).2.cells,.dead]:=by
 obtain⟨R,aC⟩:∃R,R=x.said w:=⟨_,rfl⟩
 rw[<-aC];unfold cK.said at aC;by_cases a1:0<=x.bad
 ·rw[av a1]at aC;subst aC;have m9:(0<=x.bad)=True:=bW a1;unfold cK.cells;refine cx.bd f189 mixed fun aD=>?_;simp[m9]
 rw[an a1]at aC;have m9:(0<=x.bad)=False:=bz a1;have aE:=TE x (ai.2.1 (by omega)) ai.1;have aQ:=Tv x;have bf:=RO (dk x.b x.at_) (w++dw);unfold zbD at aC;have wc:e9 (dk x.b x.at_) (w++dw)=true->w.length+2<=(dk x.b x.at_).length:=by intro h;have:=(tX.1 h).length_le;simpa[dw]using this
 generalize dk x.b x.at_=S at*;generalize eO x.b x.at_=L at*;generalize e9 S (w++dw)=H at*;unfold dw at bf;have FK:w.length+2<=maxLen:=by unfold maxLen;omega
 have ws:=bc ((w.length:Int)+2);unfold cK.cells at*;cases L
 ·rw[an (by simp)]at aC;subst aC;refine cx.bd f189 mixed fun aD=>?_;simp[m9];refine c6.of aE ?_;simp;refine e7 false ?_;simp;refine c6.of aQ ?_;simp
 cases H
 ·rw[an (by simp)]at aC;subst aC;refine cx.bd f189 mixed fun aD=>?_;simp[m9];refine c6.of aE ?_;simp[FK];refine b_.of (fun _=>bf) rfl ?_;simp;refine c6.of aQ ?_;simp
 ·rw[av (by simp)]at aC;subst aC;have am:=wc rfl;have g1:((w.length:Int)+2<=(S.length:Int))=True:=aY;have g2:(w.length+2<=S.length)=True:=bW am;refine cx.bd f189 mixed fun aD=>?_;simp[m9];refine c6.of aE ?_;simp[FK];refine b_.of (fun _=>bf) rfl ?_;simp[ws,g1,g2];exact⟨by omega,by omega⟩
def cK.told(x:cK)(w:aq):aq×cK:=((x.said w).1,if (x.said w).2.bad<0 then (x.said w).2.next (w++dw++(x.said w).1)else (x.said w).2)
def TG(x:cK)(w:aq):(x.said w).1.length<=x.b.length:=by
 unfold cK.said;have:=Jx x.b x.at_;split
 ·simp
 split
 ·rw[eP];omega
 ·simp
def Nw(x:cK)(w:aq):(x.said w).2.at_=x.at_/\(x.said w).2.b=x.b:=by
 unfold cK.said cK.stop;split
 ·exact⟨rfl,rfl⟩
 split
 ·exact⟨rfl,rfl⟩
 ·split<;>exact⟨rfl,rfl⟩
def zbF(x:cK)(w:aq)(ai:x.ok)(hw:w.length<=100):cx prog 188 [.box x.cells,.x (.one (.str w))] (.x (.one (.str (x.told w).1))) [.box (x.told w).2.cells,.dead]:=by
 have aE:=zbE x w ai hw;have al:=TG x w;have bj:=Nw x w;have ad:=ai.1;have zHK:=ai.2.2;unfold cK.told;generalize x.said w=T at*;obtain⟨s,y⟩:=T;dsimp only at*;have aQ:=Tw y (w++dw++s) (by omega) (by simp[dw];omega);unfold dw at*;unfold cK.cells at aE⊢;by_cases h:y.bad<0
 ·have bx:(y.bad<0)=True:=bW h;rw[av h];unfold cK.cells at aQ;rw[pG]at aQ⊢;refine cx.bd f188 mixed fun aD=>?_;simp;refine c6.of aE ?_;simp[bx];refine⟨by unfold maxLen;omega,by unfold maxLen;omega,c6.of aQ ?_⟩;simp
 ·have bx:(y.bad<0)=False:=bz h;rw[an h];refine cx.bd f188 mixed fun aD=>?_;simp;refine c6.of aE ?_;simp[bx]
def zbG(s:aq):az prog 193 [.one (.str s)] (.b2 [.one (.int .i64 (if fw 9 s=true then (bV s:Int)else 0)),.one (.bool (fw 9 s))]):=by
 obtain⟨B,ca⟩:∃B,B=fw 9 s:=⟨_,rfl⟩
 rw[<-ca];have bF:=Af (k:=9) (s:=s);cases s with
 |nil=>
  have:B=false:=by rw[ca];rfl
  subst this;refine az.bd f193 mixed fun aD=>?_;simp
 |cons c r=>
  rw[Sc]at ca;have zpE:((c.toNat:Int)=48)=(c=48):=by
   apply propext;constructor
   ·intro h;exact su.1 (by show c.toNat=48;omega)
   ·rintro rfl;rfl
  by_cases al:9<r.length+1
  ·rw[iI (by omega:¬r.length+1<=9)]at ca;simp only[h7,kJ]at ca;subst ca;have dK:(9<(r.length:Int)+1)=True:=aY;refine az.bd f193 mixed fun aD=>?_;simp[dK]
  have dK:(9<(r.length:Int)+1)=False:=a8;rw[gw (by omega:r.length+1<=9),ig]at ca;by_cases aa:c=48/\r≠[]
  ·obtain⟨rfl,ao⟩:=aa;rw[iI (by simp),iI ao]at ca;simp only[Bool.or_self,kJ]at ca;subst ca;have pA:(1<(r.length:Int)+1)=True:=bW (by cases r with|nil=>exact absurd rfl ao|cons a b=>simp;omega);refine az.bd f193 mixed fun aD=>?_;simp[dK,pA]
  have FF:(decide (c≠48) ||decide (r=[]))=true:=by
   by_cases ap:c=48
   ·have:r=[]:=nY fun h=>aa ⟨ap,h⟩;rw[gw this,Bool.or_true]
   ·rw[gw ap,Bool.true_or]
  rw[FF,sE]at ca;have lL:∀(K:Prop),(((1:Int)<(r.length:Int)+1)=True/\((c.toNat:Int)=48)=False->K)->(((1:Int)<(r.length:Int)+1)=False->K)->K:=by
   intro K a b;by_cases ao:r=[]
   ·exact b (bz (by subst ao;simp))
   ·have ap:c≠48:=fun h=>aa ⟨h,ao⟩;refine a ⟨bW (by cases r with|nil=>exact absurd rfl ao|cons a b=>simp;omega),by rw[zpE];exact bz ap⟩
  have HH:B=true->Lib.atoi (c::r)=some (bV (c::r):Int):=by
   intro h;rw[h]at ca;have:fw 9 (c::r)=true:=by rw[Sc,<-ca,gw (by omega:r.length+1<=9),FF];rfl
   exact(bF this).1
  generalize hs:c::r=s at*;have gQ:s.length=r.length+1:=by rw[<-hs];rfl
  have zpF:(s.length:Int)=(r.length:Int)+1:=by omega
  have zpG:s.isEmpty=false:=by rw[<-hs];rfl
  have jC:s≠[]:=by rw[<-hs];simp
  have a1:0<s.length:=by omega
  have Lg:s[0]=c:=by simp[<-hs]
  rw[<-zpF]at dK lL;refine lL _ (fun ⟨c_,a2⟩=>?_) (fun c_=>?_)
  all_goals
   first
    |have a2:=a2
    |have a2:=c_
   refine az.bd f193 mixed fun aD=>?_;simp[dK,zpG,a1,Lg,c_,a2];refine ck.of Nat (fun i=>[(0,.x (.one (.str s))),(4,.x (.one (.int .i64 i)))]) (fun i=>i<=s.length/\B=(s.drop i).all da) (fun i=>s.length-i) 0 ⟨cj _,by rw[List.drop_zero];exact ca⟩ ?_ ?_
   ·simp
   rintro i ⟨ah,bk⟩;by_cases ar:i<s.length
   ·have aS:((i:Int)<(s.length:Int))=True:=aY;have Jd:=bc ((i:Int)+1);rw[jw ar,pr]at bk;by_cases d1:s[i].toNat<48
    ·have ax:((s[i].toNat:Int)<48)=True:=aY;have aA:da s[i]=false:=by unfold da;rw[iI (by omega:¬48<=s[i].toNat)];rfl
     rw[aA,h7]at bk;subst bk;simp[ar,aS,ax]
    ·have ax:((s[i].toNat:Int)<48)=False:=a8;by_cases d2:57<s[i].toNat
     ·have aK:(57<(s[i].toNat:Int))=True:=aY;have aA:da s[i]=false:=by unfold da;rw[iI (by omega:¬s[i].toNat<=57),kJ]
      rw[aA,h7]at bk;subst bk;simp[ar,aS,ax,aK]
     ·have aK:(57<(s[i].toNat:Int))=False:=a8;have aA:da s[i]=true:=by unfold da;rw[gw (by omega:48<=s[i].toNat),gw (by omega:s[i].toNat<=57)];rfl
      rw[aA,ig]at bk;simp[ar,aS,ax,aK];refine bt.of (i+1) ⟨ar,bk⟩ (by omega) (by simp[Jd])
   ·have aS:((i:Int)<(s.length:Int))=False:=a8;rw[nu (by omega)]at bk;have bk:B=true:=bk;have gz:=wV s _ (by omega) (HH bk);subst bk;simp[aS];refine aH.of gz ?_;simp
def xd(b:aq)(a:Nat):List Head:=if (h8 (fk b a)).1=true then (h8 (fk b a)).2.aT else []
def F1(b:aq)(a:Nat)(bad:Int):cK:=⟨b,(h8 (fk b a)).2.at_,if (h8 (fk b a)).1=true then bad else (h8 (fk b a)).2.at_⟩
def zbH(s:aq):(nU s).isSome=((Lib.cut s dw).2.2&&(decide ((Lib.cut s dw).1≠[])&&decide (58∉(Lib.cut s dw).1))):=by
 unfold nU;by_cases h:(Lib.cut s dw).2.2=true/\(Lib.cut s dw).1≠[]/\58∉(Lib.cut s dw).1
 ·rw[av h,h.1,gw h.2.1,gw h.2.2];rfl
 ·rw[an h];symm;rw[Option.isSome_none,zN];intro e;rw[b7,b7,mA,mA]at e;exact h e
def zbI{s:aq}(h:(nU s).isSome=true):headD s=⟨(Lib.cut s dw).1,(Lib.cut s dw).2.1⟩:=by
 unfold headD nU at*;split at h
 ·rename_i ap;rw[av ap];rfl
 ·cases h
def Nx{b:aq}{a:Nat}(h:eO b a=true):eE b a=a+(dk b a).length+2:=by
 rw[<-xc h];unfold eE fj;unfold eO at h;cases e:ha (b.drop a)with
 |none=>rw[e]at h;cases h
 |some l=>rfl
def zpH(b:aq)(a:Nat)(bad:Int)(gI:bad<0)(ad:b.length<=16777216)(bj:a<=b.length) :
  cx prog 192 [.box (cK.cells ⟨b,a,bad⟩)] (.x (.one (.list 2 ((xd b a).map Head.row)))) [.box (F1 b a bad).cells]:=by
 obtain⟨B,ca⟩:∃B,B=(h8 (fk b a)).1:=⟨_,rfl⟩
 obtain⟨Y,j4⟩:∃Y,Y=(h8 (fk b a)).2:=⟨_,rfl⟩
 have l6:xd b a=if B=true then Y.aT else []:=by rw[ca,j4];rfl
 have xC:F1 b a bad=⟨b,Y.at_,if B=true then bad else (Y.at_:Int)⟩:=by rw[ca,j4];rfl
 rw[l6,xC];have F2:(bad<0)=True:=bW gI;unfold cK.cells;dsimp only;refine cx.bd f192 mixed fun aD=>?_;simp;refine ck.of bh (fun y=>[(0,.box [b5 b,.int .i64 y.at_,.int .i64 bad]),(2,.x (.one .nil)),(3,.own 153 2 (y.aT.map Head.row))]) (fun y=>y.ok/\y.b=b/\(B,Y)=h8 y/\y.aT.length<=y.at_) (fun y=>b.length-y.at_) (fk b a) ⟨⟨ad,bj⟩,rfl,by rw[ca,j4],by simp[fk]⟩ ?_ ?_
 ·simp[fk]
 rintro y ⟨aD,Db,af,cX⟩;obtain⟨zO,FW⟩:=id aD;rw[Db]at zO FW;rw[ZP aD,Db]at af;have oh:=zbx ⟨b,y.at_,bad⟩ (dS++dw) FW zO (by decide);have l9:e9 (b.drop y.at_) (dS++dw)=nR y dS:=by unfold nR;rw[Db]
 unfold cK.cells at oh;dsimp only at oh;rw[l9]at oh;have x2:dS++dw=[108,101,110,103,116,104,58,32]:=rfl;rw[x2]at oh;by_cases ah:nR y dS=true
 ·rw[av ah]at af;injection af with aa ab
  subst aa;subst ab;rw[ah]at oh;rw[av rfl,av rfl];simp[F2];refine c6.of oh ?_;simp
 ·rw[an ah]at af;rw[Bool.not_eq_true _ |>.mp ah]at oh;have rX:=TE ⟨b,y.at_,bad⟩ FW zO;have F3:=Tv ⟨b,y.at_,bad⟩;have Bn:=Tw ⟨b,y.at_,bad⟩ (dk b y.at_) (by dsimp only;omega) (by have:=Jx b y.at_;omega);have TF:=Jx b y.at_;have oS:=Sr (dk b y.at_) (by omega);have mY:=strings_IndexByte (Lib.cut (dk b y.at_) dw).1 58;have uj:=zbH (dk b y.at_);have dP:=zbI (s:=dk b y.at_);have iC:(B,Y)=if eO b y.at_=true/\(nU (dk b y.at_)).isSome=true then h8 {y with aT:=y.aT++[headD (dk b y.at_)],at_:=y.at_+(dk b y.at_).length+2} else (false,y):=by
   rw[af];by_cases Ny:eO b y.at_=true
   ·rw[xc Ny,Nx Ny,Db]
   ·rw[an (fun e=>Ny e.1),an (fun e=>Ny e.1)]
  have yW:eO b y.at_=true->y.at_+(dk b y.at_).length+2<=b.length:=fun h=>by rw[<-Nx h];exact oF FW
  clear af;unfold cK.cells cK.stop cK.next at*;dsimp only at*;rw[av gI]at F3;dsimp only at F3;unfold dw at oS mY uj dP;generalize Lib.cut (dk b y.at_) [58,32]=T at*;obtain⟨n,v,is⟩:=T;dsimp only at*;generalize nU (dk b y.at_)=O at*;generalize headD (dk b y.at_)=D at*;generalize dk b y.at_=S at*;generalize eO b y.at_=L at*;have hw:1<=maxLen:=by unfold maxLen;omega
  by_cases ay:L=true/\O.isSome=true
  ·rw[av ay]at iC;obtain⟨KI,cY⟩:=ay;have rx:=yW KI;have hM:=dP cY;rw[cY]at uj;symm at uj;rw[b7,b7,mA,mA]at uj;obtain⟨zpI,oQ,zpJ⟩:=uj;subst KI;subst zpI;have bY:n.isEmpty=false:=by simpa using oQ
   have bF:fu n 58=-1:=qn (by simpa using zpJ);rw[bF]at mY;have L6:y.aT.length+1<=maxLen:=by unfold maxLen;omega
   have zpK:y.aT.map Head.row++[[ag.str n,ag.str v]]=(y.aT++[D]).map Head.row:=by rw[hM];simp[Head.row]
   have zpL:(y.at_:Int)+((S.length:Int)+2)=((y.at_+S.length+2:Nat):Int):=by omega
   simp[F2];refine c6.of oh ?_;simp;refine c6.of rX ?_;simp;refine aH.of oS ?_;simp[bY];refine b_.of (fun _=>mY) rfl ?_;simp[L6];refine⟨by omega,c6.of Bn ?_⟩;simp;refine bt.of {y with aT:=y.aT++[D],at_:=y.at_+S.length+2} ⟨⟨by show y.b.length<=_;rw[Db];exact ad,by show _<=y.b.length;rw[Db];exact rx⟩,Db,iC,by simp;omega⟩ (by dsimp only;omega) ?_;simp[<-zpK,zpL]
  ·rw[an ay]at iC;injection iC with aa ab
   subst aa;subst ab;rw[an (by decide),an (by decide)];cases L
   ·simp[F2];refine c6.of oh ?_;simp;refine c6.of rX ?_;simp;refine aH.of oS ?_;simp;refine gH 0 ?_;simp;refine c6.of F3 ?_;simp
   cases is
   ·simp[F2];refine c6.of oh ?_;simp;refine c6.of rX ?_;simp;refine aH.of oS ?_;simp;refine gH 0 ?_;simp;refine c6.of F3 ?_;simp
   by_cases oQ:n=[]
   ·simp[F2];refine c6.of oh ?_;simp;refine c6.of rX ?_;simp;refine aH.of oS ?_;simp[oQ];refine b_.of (fun h=>by simp at h) (r:=.x (.one (.int .i64 0))) rfl ?_;simp;refine c6.of F3 ?_;simp
   ·have bY:n.isEmpty=false:=by simpa using oQ
    have F4:58∈n:=by refine Nz fun h=>ay ⟨rfl,?_⟩;rw[uj,gw oQ,gw h];rfl
    have bF:(0<=fu n 58)=True:=bW (m' (by simpa using F4));simp[F2];refine c6.of oh ?_;simp;refine c6.of rX ?_;simp;refine aH.of oS ?_;simp[bY];refine b_.of (fun _=>mY) rfl ?_;simp[bF];refine c6.of F3 ?_;simp
def zcq{b:aq}{a:Nat}(h:0<=gx (b.drop a)):Az b a=dk b a:=by unfold Az dk;rw[av h,av h]
def zcr{b:aq}{a:Nat}(h:eO b a=true):(eE b a:Int)=xb b a:=by
 have ab:=h;rw[F0,b7,mA]at ab;have e:=xc h;unfold eE fj dk at*;unfold eO at h;unfold xb;rw[av ab.1]at e⊢;cases ap:ha (b.drop a)with
 |none=>rw[ap]at h;cases h
 |some l=>
  rw[ap,oa]at e;have ao:=Ty ab.1;have:(l.length:Int)=gx (b.drop a):=by rw[e,e'];rw[eP]at ao⊢;omega
  dsimp only;omega
def zrx(b:aq)(a:Nat)(ad:b.length<=16777216)(bj:a<=b.length) :
  az prog 90 [.one (b5 b),.one (.int .i64 a)] (.b2 [qs (lV b a).1,.one (.int .i64 (if (lV b a).2.2=true then ((lV b a).2.1:Int)else 0)),.one (.int .i64 (if (lV b a).2.2=true then -1 else ((lV b a).2.1:Int)))]):=by
 obtain⟨R,aC⟩:∃R,R=lV b a:=⟨_,rfl⟩
 rw[<-aC];unfold lV at aC;have bU:=e8 b;refine az.bd f90 mixed fun aD=>?_;simp;refine ck.of (List Head×Nat) (fun x=>[(0,.x (.one (b5 b))),(1,.x (.one (.int .i64 x.2))),(7,.own 153 2 (x.1.map Head.row))])
  (fun x=>(x.2<=b.length/\x.1.length<=x.2)/\R=ln b (b.length-x.2+1) x.1 x.2) (fun x=>b.length-x.2) ([],a) ⟨⟨bj,cj _⟩,aC⟩ ?_ ?_
 ·simp
 rintro⟨acc,a⟩ ⟨⟨bj,oi⟩,af⟩;dsimp only at bj oi af⊢;unfold ln at af;by_cases ar:a<b.length;rotate_left
 ·rw[an ar]at af;subst af;have aS:((a:Int)<(b.length:Int))=False:=a8;simp[bU,aS]
 rw[av ar]at af;have aS:((a:Int)<(b.length:Int))=True:=aY;have aE:=zbC b a ad bj;have NU:=F0 b a;by_cases aX:0<=gx (b.drop a);rotate_left
 ·rw[iI aX,h7]at NU;rw[av NU]at af;subst af;have ax:xb b a=-1:=an aX;rw[ax]at aE;simp[bU,aS];refine aH.of aE ?_;simp
 rw[gw aX,ig]at NU;have bS:=zcq aX;rw[bS]at aE;have FS:(xb b a<0)=False:=bz (by unfold xb;rw[av aX];omega);have eD:=fun h=>xc (b:=b) (a:=a) h;have pe:=fun h=>zcr (b:=b) (a:=a) h;have ay:=Ag (b:=b) (a:=a);have cG:=oF bj;have gQ:=Jx b a;have aQ:=Sr (dk b a) (by omega);have bf:=strings_IndexByte (Lib.cut (dk b a) dw).1 58;have bM:=zaS (dk b a);have uj:=zbH (dk b a);have dP:=zbI (s:=dk b a);have cu:eO b a=true->ln b (b.length-a) (acc++[headD (dk b a)]) (eE b a)=ln b (b.length-eE b a+1) (acc++[headD (dk b a)]) (eE b a):=fun h=>SX _ _ _ _ cG (by have:=ay h;omega) (by omega);have Ub:dk b a≠[]->¬(eO b a=true/\(nU (dk b a)).isSome=true)->R=([],a,false):=fun aa ab=>by
  rw[af];cases ap:eO b a
  ·rw[av rfl]
  ·rw[an (by decide),eD ap,an aa];cases aB:(nU (dk b a)).isSome
   ·rw[av rfl]
   ·exact absurd ⟨ap,aB⟩ ab
 have yR:dk b a≠[]->eO b a=true->(nU (dk b a)).isSome=true->R=ln b (b.length-a) (acc++[headD (dk b a)]) (eE b a):=fun aa ap aB=>by rw[af,ap,an (by decide),eD ap,an aa,aB,an (by decide)]
 have pX:dk b a=[]->eO b a=true->R=(acc,eE b a,true):=fun aa ap=>by rw[af,ap,an (by decide),eD ap,av aa]
 have eJ:dk b a=[]->pB (dk b a)=true:=fun h=>by rw[h];rfl
 clear af bS eD;unfold dw at aQ bf uj dP;generalize Lib.cut (dk b a) [58,32]=T at*;obtain⟨n,v,is⟩:=T;dsimp only at*;generalize nU (dk b a)=O at*;generalize headD (dk b a)=D at*;generalize pB (dk b a)=C at*;rw[NU]at ay cu Ub yR pX pe;by_cases Gc:dk b a=[]
 ·have en:=eJ Gc;subst en;have:=pX Gc rfl;subst this;have pe:=pe rfl;simp[bU,aS];refine aH.of aE ?_;simp[Gc,<-pe]
 have NV:=Ub Gc;have zry:=yR Gc;clear Ub yR;generalize dk b a=S at*;simp[bU,aS];refine aH.of aE ?_;simp[FS,Gc];refine aH.of aQ ?_;cases is
 ·have:=NV (by rw[uj];simp);subst this;simp;refine gH 0 ?_;simp;refine e7 true ?_;simp
 by_cases oQ:n=[]
 ·have:=NV (by rw[uj,oQ];simp);subst this;simp[oQ];refine b_.of (fun h=>by simp at h) (r:=.x (.one (.int .i64 0))) rfl ?_;simp;refine b_.of (fun h=>by simp at h) (r:=.x (.one (.bool true))) rfl ?_;simp
 by_cases F4:(58:UInt8)∈n
 ·have:=NV (by rw[uj];simp[F4]);subst this;have g1:(0<=fu n 58)=True:=bW (m' (by simpa using F4));simp[oQ];refine b_.of (fun _=>bf) rfl ?_;simp[g1];refine b_.of (fun h=>by simp at h) (r:=.x (.one (.bool true))) rfl ?_;simp
 have g1:fu n 58=-1:=qn (by simpa using F4);have aB:O.isSome=true:=by rw[uj,gw oQ,gw F4];rfl
 have hM:=dP aB;rw[g1]at bf;cases C
 ·have:=NV (by simp);subst this;simp[oQ];refine b_.of (fun _=>bf) rfl ?_;simp;refine b_.of (fun _=>bM) rfl ?_;simp
 have af:=zry rfl aB;rw[cu rfl]at af;have I5:=ay rfl;have pe:=pe rfl;have L6:acc.length+1<=maxLen:=by unfold maxLen;omega
 simp[oQ];refine b_.of (fun _=>bf) rfl ?_;simp;refine b_.of (fun _=>bM) rfl ?_;simp[oQ,L6];refine⟨by omega,?_⟩;refine bt.of (acc++[D],eE b a) ⟨⟨cG,by simp only[eG,qN];omega⟩,af⟩ (by dsimp only;omega) ?_;simp[pe,hM,Head.row]
def yU(s:aq):Bool:=pB s&&(e9 s ud&&(decide ((32:UInt8)∈s.drop 6)&&fw 9 (ed 32 (s.drop 6))))
def zcs(w:aq):fw 9 w=(oR w&&decide (w.length<=9)):=by
 unfold fw oR I0;cases w with
 |nil=>rfl
 |cons c r=>
  rw[mm];simp only[b7,gl,hk,xx,ss,rp,hz];constructor
  ·rintro⟨a,b,c,d⟩;refine⟨⟨a,by simp,?_⟩,c⟩;rcases d with d|d
   ·exact .inr d
   ·exact .inl (nY d)
  ·rintro⟨⟨a,b,d⟩,c⟩;refine⟨a,by omega,c,?_⟩;rcases d with d|d
   ·exact .inr fun h=>h d
   ·exact .inl d
def NW{s:aq}(h:e9 s ud=true):(32:UInt8)∈s/\ed 32 s=[87,69,66,47,49]/\hq 32 s=s.drop 6:=by obtain⟨t,rfl⟩:=tX.1 h;have e:ud++t=[87,69,66,47,49]++(32:UInt8)::t:=rfl;rw[e];exact⟨by simp,zbq (by decide),by rw[zoY (by decide)];rfl⟩
def zrz{s:aq}(h:(32:UInt8)∈s)(ab:ed 32 s=[87,69,66,47,49]):e9 s ud=true:=by have:=Ni h;rw[ab]at this;rw[this];exact tX.2 ⟨hq 32 s,rfl⟩
def Gd(s:aq):List ag:=if yU s=true then [.int .i64 (bV (ed 32 (s.drop 6))),.str (hq 32 (s.drop 6)),.nil,.nil]else [.int .i64 0,.str [],.nil,.nil]
def zrA(s:aq)(hs:s.length<=600000):az prog 89 [.one (.str s)] (.b2 [.agg (Gd s),.one (.bool (yU s))]):=by
 unfold Gd;obtain⟨B,ca⟩:∃B,B=yU s:=⟨_,rfl⟩
 rw[<-ca];unfold yU at ca;have aZ:hI.row=[.int .i64 0,.str [],.list 2 [],.list 1 []]:=rfl;have aE:=zrw s hs;unfold AI at aE;refine az.bd f89 mixed fun aD=>?_;simp;refine aH.of aE ?_;by_cases aa:(32:UInt8)∈s;rotate_left
 ·have am:e9 s ud=false:=zN.2 fun h=>aa (NW h).1;rw[am]at ca;simp only[h7,kJ]at ca;subst ca;rw[an aa];simp;refine e7 true ?_;simp;refine e7 true ?_;simp
 rw[av aa];by_cases ab:(32:UInt8)∈hq 32 s;rotate_left
 ·have bk:B=false:=by
   rw[ca];cases am:e9 s ud
   ·simp
   ·rw[<-(NW am).2.2];simp[ab]
  subst bk;rw[an ab];simp;refine e7 true ?_;simp;refine e7 true ?_;simp
 rw[av ab];by_cases au:ed 32 s=[87,69,66,47,49]
 rotate_left
 ·have am:e9 s ud=false:=zN.2 fun h=>au (NW h).2.1;rw[am]at ca;simp only[h7,kJ]at ca;subst ca;have zrB:(ed 32 s==[87,69,66,47,49])=false:=by simpa using au
  simp[zrB];refine e7 true ?_;simp;refine e7 true ?_;simp
 have am:=zrz aa au;have bj:=(NW am).2.2;rw[am,<-bj,gw ab,zcs]at ca;rw[<-bj];have JI:=zaR (ed 32 (hq 32 s));have oh:=zaS s;have bF:fw 9 (ed 32 (hq 32 s))=true->_:=fun h=>Af (k:=9) h;rw[zcs]at bF;generalize ed 32 (hq 32 s)=w at*;generalize hq 32 (hq 32 s)=q at*;rw[au];cases wc:oR w
 ·rw[wc]at ca JI;simp only[h7,kJ]at ca;subst ca;simp;refine b_.of (fun _=>JI) rfl ?_;simp;refine e7 true ?_;simp
 rw[wc]at ca JI bF;by_cases hw:w.length<=9;rotate_left
 ·rw[iI hw]at ca;simp only[kJ]at ca;subst ca;have CF:(9<(w.length:Int))=True:=aY;simp;refine b_.of (fun _=>JI) rfl ?_;simp[CF];refine e7 true ?_;simp
 rw[gw hw]at ca bF;have CF:(9<(w.length:Int))=False:=a8;simp only[sE]at ca;rw[<-ca]at oh;simp;refine b_.of (fun _=>JI) rfl ?_;simp[CF];refine b_.of (fun _=>oh) rfl ?_;cases B
 ·simp
 ·have dz:=wV w _ (by omega) (bF rfl).1;simp;refine aH.of dz ?_;simp
abbrev n0:=hp×Int×Int×Int
def rM(x:n0):Prop:=x.2.2.2=15\/(x.2.2.2=3/\0<x.2.2.1)\/x.2.2.2=0
def lZ(A:hp×Int×Nat×Int):Prop:=(if 0<A.2.2.1/\(A.2.2.2=15\/A.2.2.2=3)then 0 else A.2.2.2)=0
def JJ(b:aq)(x:n0):Prop:=(rM x↔lZ (hc b))/\(lZ (hc b)->x.1.hs=(hc b).1.hs)
def NX(x:n0):bH:=.b2 [.agg x.1.row,.one (.int .i64 x.2.1),.one (.int .i64 x.2.2.1),.one (.int .i64 x.2.2.2)]
def zrC{b:aq}{x:n0}(aa:¬rM x)(ab:¬lZ (hc b)):JJ b x:=⟨⟨fun h=>absurd h aa,fun h=>absurd h ab⟩,fun h=>absurd h ab⟩
def zrD{b:aq}{x:n0}(aa:rM x)(ab:lZ (hc b))(h:x.1.hs=(hc b).1.hs):JJ b x:=⟨⟨fun _=>ab,fun _=>aa⟩,fun _=>h⟩
def AJ{A:hp×Int×Nat×Int}(a1:A.2.2.2≠0)(h:A.2.2.1=0\/(A.2.2.2≠15/\A.2.2.2≠3)):¬lZ A:=by
 unfold lZ;rw[an]
 ·exact a1
 ·rintro⟨a,c⟩;rcases h with h|⟨aa,ab⟩
  ·omega
  ·rcases c with c|c
   ·exact aa c
   ·exact ab c
def AK{A:hp×Int×Nat×Int}(h:A.2.2.2=0\/(0<A.2.2.1/\(A.2.2.2=15\/A.2.2.2=3))):lZ A:=by
 unfold lZ;split
 ·rfl
 ·rename_i ab;rcases h with h|h
  ·exact h
  ·exact absurd h ab
def zct{b:aq}:∀(k:Nat) (acc:List Head) (a:Nat),(ln b k acc a).2.2=true->0<(ln b k acc a).2.1
 |0,_,_,h=>by cases h
 |k+1,acc,a,h=>by
  unfold ln at h⊢;split at h
  ·rename_i aa;rw[av aa];split at h
   ·cases h
   ·rename_i ab;rw[an ab];split at h
    ·rename_i au;rw[av au];have:=Ag (b:=b) (a:=a) (by simpa using ab);dsimp only;omega
    ·rename_i au;rw[an au];split at h
     ·cases h
     ·rename_i aN;rw[an aN];exact zct k _ _ h
  ·cases h
def zcu:∀l:List Head,vt l≠15
 |[]=>by unfold vt;decide
 |h::r=>by
  unfold vt;split
  ·exact zcu r
  ·unfold Ae;split
   ·decide
   ·split<;>decide
def zrE(t:hp):kX t≠15:=by
 unfold kX;split
 ·decide
 ·split
  ·decide
  ·unfold j8;split
   ·decide
   ·exact zcu _
def zrF{st:Int}{hs:List Head}(h:yH st hs=2):∃v,dC hs dS=[v]/\oR v=true:=by
 unfold yH at h;split at h
 ·cases h
 ·split at h
  ·cases h
  ·split at h
   ·cases h
   ·generalize dC hs dS=V at h⊢
    match V,h with
    |[v],h=>
     dsimp only at h;split at h
     ·rename_i am;exact⟨v,rfl,am⟩
     ·cases h
    |[],h=>cases h
    |_::_::_,h=>cases h
def Uc{b:aq}:∀(k:Nat) (acc:aq) (a:Nat),(kr b k acc a).2.2.2=10\/(kr b k acc a).2.2.2=15\/(kr b k acc a).2.2.2=2\/(kr b k acc a).2.2.2=3\/(kr b k acc a).2.2.2=0
 |0,_,_=>by simp[kr]
 |k+1,acc,a=>by
  unfold kr;split
  ·simp
  ·split
   ·simp
   ·split
    ·simp
    ·split
     ·exact Uc k _ _
     ·split
      ·simp
      ·split<;>simp
def zrG{b:aq}(a1:0<=gx (b.drop 0))(hs:yU (dk b 0)=true):my b=(⟨bV (ed 32 ((dk b 0).drop 6)),hq 32 ((dk b 0).drop 6),(lV b (eE b 0)).1,[]⟩,(lV b (eE b 0)).2.1,(lV b (eE b 0)).2.2)/\eO b 0=true:=by
 have ap:=F0 b 0;unfold yU at hs;simp only[b7,hk]at hs;obtain⟨s1,s2,FM,T4⟩:=hs;rw[gw a1,s1]at ap;have ap:eO b 0=true:=ap;refine⟨?_,ap⟩;unfold my;rw[xc ap,ap,an];rintro (h|h|h|h)
 ·cases h
 ·rw[s2]at h;cases h
 ·exact h FM
 ·rw[T4]at h;cases h
def zcv{b:aq}(h:¬0<=gx (b.drop 0)\/yU (dk b 0)=false):(my b).2.2=false:=by
 have ap:=F0 b 0;unfold my;rw[av];cases nG:eO b 0
 ·exact .inl rfl
 ·right;rw[nG]at ap;symm at ap;rw[b7,mA]at ap;rw[xc nG];unfold yU at h;rw[ap.2]at h;have h:=h.resolve_left (fun h=>h ap.1);simp only[ig,ss,rp]at h;exact h
section
variable {b:aq}{t:hp}{a':Nat}(a1:kX t=0)(bj:0<a')
include a1
def zrH(aw:kY t=0):¬lZ (lo b t a'):=by unfold lo;rw[an (by simp[a1]),av aw];exact AJ (show (12:Int)≠0 by decide) (.inl rfl)
include bj in
def zrI(aw:kY t=1):lZ (lo b t a')/\(lo b t a').1.hs=t.hs:=by
 unfold lo;rw[an (by simp[a1]),an (by rw[aw];decide),av aw];split
 ·exact⟨AK (.inr ⟨bj,.inr rfl⟩),rfl⟩
 ·exact⟨AK (.inl rfl),rfl⟩
include bj in
def zrJ(aw:kY t=3):(((iu (b.drop a')).2.2.2=2\/(iu (b.drop a')).2.2.2=10)->¬lZ (lo b t a'))/\(¬((iu (b.drop a')).2.2.2=2\/(iu (b.drop a')).2.2.2=10)->lZ (lo b t a')/\(lo b t a').1.hs=t.hs):=by
 have a6:=Uc (b:=b.drop a') ((b.drop a').length+1) [] 0;have e:iu (b.drop a')=kr (b.drop a') ((b.drop a').length+1) [] 0:=rfl;rw[<-e]at a6;unfold lo;rw[an (by simp[a1]),an (by rw[aw];decide),an (by rw[aw];decide),av aw];generalize iu (b.drop a')=C at*;constructor
 ·rintro (h|h)
  ·rw[av h];exact AJ (show (2:Int)≠0 by decide) (.inl rfl)
  ·rw[an (by rw[h];decide),av h];exact AJ (show (10:Int)≠0 by decide) (.inr ⟨show (10:Int)≠15 by decide,show (10:Int)≠3 by decide⟩)
 ·intro h;rw[an (fun e=>h (.inl e)),an (fun e=>h (.inr e))];split
  ·rename_i bE;refine⟨AK (.inr ⟨by dsimp only;omega,?_⟩),rfl⟩;dsimp only;omega
  ·exact⟨AK (.inl rfl),rfl⟩
def zrK(aw:kY t=4):(200000<b.length-a'->¬lZ (lo b t a'))/\(¬200000<b.length-a'->lZ (lo b t a')/\(lo b t a').1.hs=t.hs):=by
 unfold lo;rw[an (by simp[a1]),an (by rw[aw];decide),an (by rw[aw];decide),an (by rw[aw];decide),av aw];constructor
 ·intro h;rw[av h];exact AJ (show (2:Int)≠0 by decide) (.inl rfl)
 ·intro h;rw[an h];exact⟨AK (.inl rfl),rfl⟩
include bj in
def zrL{v:aq}(aF:dC t.hs dS=[v])(aw:kY t=2)(al:a'<=b.length):(200000<ll v->¬lZ (lo b t a'))/\(¬200000<ll v->lZ (lo b t a')/\(lo b t a').1.hs=t.hs):=by
 have cG:(nZ t.hs).1=ll v:=by
  unfold kY at aw;split at aw
  ·cases aw
  ·split at aw
   ·cases aw
   ·split at aw
    ·cases aw
    ·split at aw
     ·cases aw
     ·split at aw
      ·rename_i h;unfold nZ at h⊢;rw[aF]at h⊢;dsimp only at h⊢;split at h
       ·rename_i ab;rw[av ab]
       ·cases h
      ·cases aw
 unfold lo;rw[an (by simp[a1]),an (by rw[aw];decide),an (by rw[aw];decide),an (by rw[aw];decide),an (by rw[aw];decide),cG];constructor
 ·intro h;rw[av h];exact AJ (show (2:Int)≠0 by decide) (.inl rfl)
 ·intro h;rw[an h];split
  ·exact⟨AK (.inr ⟨by dsimp only;omega,.inl rfl⟩),rfl⟩
  ·split
   ·exact⟨AK (.inr ⟨by dsimp only;omega,.inr rfl⟩),rfl⟩
   ·exact⟨AK (.inl rfl),rfl⟩
end
def zrM[Hint](mE:∀id,(Hint.grow id ||Hint.conv id)=false){α:Type}{P:aM}{f:FuncId}{fn:Func}{c:Code}{args:List aG}(post:α->Prop)(r:α->bH)(hm:P.follows .mixedOrders=true)(aw:P.funcs[f]?=some fn) (fJ:(fn.name== "runtime.NumGoroutine")=false)
  (ad:fn.body=some c)(aD:codeOk c=true)(al:args.length<=fn.ntmps)
  (h:gh P fn.ntmps c (Cn P fn.results.toList post r (fun _=>args.map fun _=>ae.dead)) (jk (args.map .x) 0)):∃x,post x/\az P f args (r x):=by
 obtain⟨e,s',aa,ab,x,ai,au⟩:=YB mE c _ _ h;exact⟨x,ai,az.ofM (cx.mk (outs:=args.map fun _=>ae.dead) hm aw fJ ad aD (by rw[H2 args];exact Ep c) (by simpa using al) (H4 args) (Qa:=fun cg t=>cg=e/\t=s') (fun cg t ⟨Rp,qO⟩=>by subst Rp;subst qO;exact⟨ab,au⟩) (fun _=>aa _ ⟨rfl,rfl⟩))⟩
def zrN(b:aq):∃x,JJ b x/\az prog 52 [.one (b5 b)] (NX x):=by
 have bU:=e8 b;obtain⟨P,Dc⟩:∃P,P=JJ b:=⟨_,rfl⟩
 have cl:∀x,¬rM x->¬lZ (hc b)->P x:=fun x aa ab=>by rw[Dc];exact zrC aa ab
 have yr:∀x:n0,rM x->lZ (hc b)->x.1.hs=(hc b).1.hs->P x:=fun x aa ab au=>by rw[Dc];exact zrD aa ab au
 have aZ:hI.row=[.int .i64 0,.str [],.list 2 [],.list 1 []]:=rfl;have a_:∀a:hp,a.row=[.int .i64 a.st,.str a.io,.list 2 (a.hs.map Head.row),b5 a.mt]:=fun _=>rfl;rw[<-Dc];refine @zrM _ (wH [(26,[1,1,1,1,1,1,1,1,4,1,0])]) (fun _=>rfl) n0 _ _ _ _ P NX mixed (fn:=f52) (by kernel_rfl) (by kernel_rfl) rfl (by kernel_rfl) (by simp[f52]) ?_;clear Dc;unfold NX;by_cases aN:400000<b.length
 ·have kB:(400000<(b.length:Int))=True:=aY;have bj:hc b=(hI,0,0,2):=av aN;simp[bU,kB];exact hD.of (hI,0,0,2) (cl _ (by unfold rM;decide) (by rw[bj];exact AJ (by decide) (.inl rfl))) (by simp[aZ])
 have kB:(400000<(b.length:Int))=False:=a8;have aE:=zbC b 0 (by omega) (cj _);have x2:(Az b 0).length<=600000:=by
  unfold Az;split
  ·rw[e',eP];omega
  ·rw[eP];omega
 have aQ:=zrA (Az b 0) x2;have Ud:(my b).2.2=false->¬lZ (hc b):=fun h=>by
  have:hc b=(hI,0,(my b).2.1,10):=by unfold hc;rw[an aN,av h]
  rw[this];exact AJ (show (10:Int)≠0 by decide) (.inr ⟨show (10:Int)≠15 by decide,show (10:Int)≠3 by decide⟩)
 by_cases aX:0<=gx (b.drop 0);rotate_left
 ·have gS:xb b 0=-1:=an aX;rw[gS]at aE;obtain⟨q1,dt,eq⟩:∃q1 dt,Gd (Az b 0)=[.int .i64 q1,.str dt,.nil,.nil]:=by unfold Gd;split<;>exact⟨_,_,rfl⟩
  rw[eq]at aQ;simp[bU,kB];refine aH.of aE ?_;simp;refine aH.of aQ ?_;simp;exact hD.of (hI,0,0,10) (cl _ (by unfold rM;decide) (Ud (zcv (.inl aX)))) (by simp[aZ])
 rw[zcq aX]at aE aQ;have FS:(xb b 0<0)=False:=bz (by unfold xb;rw[av aX];omega);cases gQ:yU (dk b 0)
 ·rw[gQ]at aQ;unfold Gd at aQ;rw[gQ,an h5]at aQ;simp[bU,kB];refine aH.of aE ?_;simp;refine aH.of aQ ?_;simp[FS];exact hD.of (hI,0,0,10) (cl _ (by unfold rM;decide) (Ud (zcv (.inr gQ)))) (by simp[aZ])
 unfold Gd at aQ;rw[gQ,av rfl]at aQ;obtain⟨cp,ap⟩:=zrG aX gQ;have cG:=oF (b:=b) (a:=0) (cj _);have bf:=zrx b (eE b 0) (by omega) cG;rw[zcr ap]at bf;have je:=zct (b:=b) (b.length-eE b 0+1) [] (eE b 0);have cX:=zaL b;have c0:∀t a',(my b)=(t,a',true)->hc b=lo b t a':=fun t a' h=>by unfold hc;rw[an aN,h,an (show ¬(true=false) by decide)]
 have zrO:lV b (eE b 0)=ln b (b.length-eE b 0+1) [] (eE b 0):=rfl;rw[<-zrO]at je;generalize lV b (eE b 0)=H at*;obtain⟨hs,a',ok⟩:=H;dsimp only at*;simp[bU,kB];refine aH.of aE ?_;simp;refine aH.of aQ ?_;simp[FS];refine aH.of bf ?_;cases ok
 ·rw[an h5,an h5];have C6:(0<=(a':Int))=True:=bW (FU _);simp[C6];exact hD.of ((hI,0,(a':Int),10):n0) (cl _ (by unfold rM;simp) (Ud (by rw[cp]))) (by simp[aZ])
 rw[av rfl,av rfl];have c0:=c0 _ _ cp;rw[cp]at cX;obtain⟨mJ,ke⟩:=cX;dsimp only at mJ ke;have Ue:=je rfl;obtain⟨t,qO⟩:∃t:hp,t=⟨bV (ed 32 ((dk b 0).drop 6)),hq 32 ((dk b 0).drop 6),hs,[]⟩:=⟨_,rfl⟩
 have zrP:((bV (ed 32 ((dk b 0).drop 6)):Nat):Int)=t.st:=by rw[qO]
 have zrQ:hq 32 ((dk b 0).drop 6)=t.io:=by rw[qO]
 have zrR:hs=t.hs:=by rw[qO]
 have Uf:t.mt=[]:=by rw[qO]
 rw[<-qO]at c0;rw[zrP,zrQ];subst zrR;have bM:=znK t.st t.hs (by omega);have dz:=znJ t;rw[a_,Uf]at dz;have dz:=az.Q8 (cs:=[.int .i64 t.st,.str t.io,.list 2 (t.hs.map Head.row),.nil]) (cs':=[.int .i64 t.st,.str t.io,.list 2 (t.hs.map Head.row),b5 []]) ⟨.inl rfl,.inl rfl,.inl rfl,.inr ⟨rfl,1,rfl⟩,trivial⟩ dz;simp;refine aH.of bM ?_;have q3:kX t≠0->¬lZ (hc b):=fun h=>by
  rw[c0];unfold lo;rw[av h];refine AJ ?_ (.inl rfl);dsimp only;split
  ·decide
  ·exact h
 have jz:kX t=0->yH t.st t.hs=kY t:=fun h=>znL t (by
  unfold kX at h;split at h
  ·cases h
  ·split at h
   ·cases h
   ·exact h)
 have zrS:=fun h=>zrF (st:=t.st) (hs:=t.hs) h;have zcw:=zrE t;have JK:∀F:Int,F≠0->F≠15->¬rM (hI,0,0,F):=fun F aa ab=>by
  rintro (h|h|h)
  ·exact ab h
  ·exact absurd (show (0:Int)<0 from h.2) (by decide)
  ·exact aa h
 generalize yH t.st t.hs=b6 at*;have e1:b4 (bq b) (a':Int) (b.length:Int)=bq (b.drop a'):=by rw[oE mJ,k4 (by simp)]
 have mZ:=e8 (b.drop a');rw[eP]at mZ;obtain⟨n,kf⟩:∃n,n=b.length-a':=⟨_,rfl⟩
 rw[<-kf]at mZ;have pV:((a':Int)<=(b.length:Int))=True:=aY;by_cases ab:b6=2
 ·obtain⟨v,aF,am⟩:=zrS ab;have iV:=znR t.hs v aF am (by omega);subst ab;have dN:=fun h=>zrL (b:=b) (t:=t) (a':=a') h Ue aF (jz h).symm mJ;simp;refine b_.of (fun _=>iV) rfl ?_;by_cases rE:200000<ll v
  ·have sW:(200000<(ll v:Int))=True:=aY;simp[sW];refine hD.of (hI,0,0,2) (cl _ (JK 2 (by decide) (by decide)) ?_) (by simp[aZ]);by_cases h:kX t=0
   ·rw[c0];exact(dN h).1 rE
   ·exact q3 h
  have sW:(200000<(ll v:Int))=False:=a8;simp[sW];refine aH.of dz ?_;by_cases a6:kX t=0;rotate_left
  ·have qC:(kX t=0)=False:=bz a6;simp[qC];exact hD.of (hI,0,0,kX t) (cl _ (JK _ a6 zcw) (q3 a6)) (by simp[aZ])
  obtain⟨g1,g2⟩:=(dN a6).2 rE;rw[<-c0]at g1 g2;rw[a6];obtain⟨m,em⟩:∃m,m=min (ll v) n:=⟨_,rfl⟩
  have wW:min (ll v:Int) (n:Int)=(m:Int):=by omega
  have sO:b4 (bq (b.drop a')) 0 (m:Int)=bq ((b.drop a').take m):=by have:=oE (b:=b.drop a') (a:=0) (i:=m) (by omega);simpa using this
  have rx:=e8 ((b.drop a').take m);rw[e',eP]at rx;have rx:(bq ((b.drop a').take m)).length=m:=by omega
  have g3:(0<=(m:Int))=True:=bW (FU _);have g4:(m<=n)=True:=aY;have g5:(m<=140737488355328)=True:=aY;have g6:(m<=maxLen)=True:=bW (by unfold maxLen;omega);have ds:=bc ((a':Int)+(ll v:Int));simp[bU,pV,e1];refine aH.of iV ?_;generalize (b.drop a').take m=D at*;have fin:∀(p f:Int),rM ((⟨t.st,t.io,t.hs,D⟩:hp),(2:Int),p,f)->P ((⟨t.st,t.io,t.hs,D⟩:hp),(2:Int),p,f):=fun p f h=>yr _ h g1 g2.symm;by_cases bw:n<ll v
  ·have c7:((n:Int)<(ll v:Int))=True:=aY;simp[bU,mZ,wW,sO,rx,g3,g4,g5,g6,c7];exact hD.of ((⟨t.st,t.io,t.hs,D⟩,2,(b.length:Int),15):n0) (fin _ _ (.inl rfl)) (by simp[a_])
  have c7:((n:Int)<(ll v:Int))=False:=a8;by_cases bA:ll v<n
  ·have eU:((ll v:Int)<(n:Int))=True:=aY;simp[mZ,wW,sO,rx,g3,g4,g5,g6,c7,eU,ds];exact hD.of ((⟨t.st,t.io,t.hs,D⟩,2,(a':Int)+(ll v:Int),3):n0) (fin _ _ (.inr (.inl ⟨rfl,by dsimp only;omega⟩))) (by simp[a_])
  have eU:((ll v:Int)<(n:Int))=False:=a8;simp[mZ,wW,sO,rx,g3,g4,g5,g6,c7,eU];exact hD.of ((⟨t.st,t.io,t.hs,D⟩,2,0,0):n0) (fin _ _ (.inr (.inr rfl))) (by simp[a_])
 have vV:(b6=2)=False:=bz ab;have AY:(b6==2)=false:=by simpa using ab
 simp[vV];refine b_.of (fun h=>by rw[AY]at h;cases h) (r:=.x (.one (.int .i64 0))) rfl ?_;simp[AY];refine aH.of dz ?_;by_cases a6:kX t=0;rotate_left
 ·have qC:(kX t=0)=False:=bz a6;simp[qC];exact hD.of (hI,0,0,kX t) (cl _ (JK _ a6 zcw) (q3 a6)) (by simp[aZ])
 have jz:=jz a6;rw[a6];have g5:(n<=140737488355328)=True:=aY;have g6:(n<=maxLen)=True:=bW (by unfold maxLen;omega);by_cases aa:b6=1
 ·subst aa;obtain⟨g1,g2⟩:=zrI (b:=b) a6 Ue jz.symm;rw[<-c0]at g1 g2;by_cases zk:0<n
  ·have JL:(0<(n:Int))=True:=aY;have Ug:(0<n)=True:=bW zk;simp[bU,pV,e1,mZ,Ug];exact hD.of ((t,1,(a':Int),3):n0) (yr _ (.inr (.inl ⟨rfl,by dsimp only;omega⟩)) g1 g2.symm) (by simp[a_,Uf])
  ·have JL:(0<(n:Int))=False:=a8;have Ug:(0<n)=False:=bz zk;simp[bU,pV,e1,mZ,Ug];exact hD.of (t,1,0,0) (yr _ (.inr (.inr rfl)) g1 g2.symm) (by simp[a_,Uf])
 have A':(b6=1)=False:=bz aa;by_cases au:b6=3
 ·subst au;have Jg:=zrq (b.drop a') (by rw[eP];omega);have dN:=zrJ (b:=b) a6 Ue jz.symm;rw[<-c0]at dN;have zcx:=Uc (b:=b.drop a') ((b.drop a').length+1) [] 0;have e:iu (b.drop a')=kr (b.drop a') ((b.drop a').length+1) [] 0:=rfl;have FQ:=S1 (b:=b.drop a') ((b.drop a').length+1) [] 0 (cj _);rw[<-e]at zcx FQ;rw[eP,<-kf]at FQ;generalize iu (b.drop a')=C at*;obtain⟨Uh,zHN,Ge,C4⟩:=C;dsimp only at*;have wp:=bc ((Ge:Int)+(a':Int));simp[bU,pV,e1];refine aH.of Jg ?_;rcases zcx with h|h|h|h|h
  ·subst h;simp;exact hD.of ((hI,0,(Ge:Int)+(a':Int),10):n0) (cl _ (by unfold rM;simp) (dN.1 (.inr rfl))) (by simp[aZ,wp])
  ·subst h;obtain⟨g1,g2⟩:=dN.2 (by decide);simp;exact hD.of ((⟨t.st,t.io,t.hs,Uh⟩,3,(Ge:Int)+(a':Int),15):n0) (yr _ (.inl rfl) g1 g2.symm) (by simp[a_,wp])
  ·subst h;simp;exact hD.of ((hI,0,(Ge:Int),2):n0) (cl _ (by unfold rM;simp) (dN.1 (.inl rfl))) (by simp[aZ])
  ·subst h;obtain⟨g1,g2⟩:=dN.2 (by decide);simp;exact hD.of ((⟨t.st,t.io,t.hs,Uh⟩,3,(Ge:Int)+(a':Int),3):n0) (yr _ (.inr (.inl ⟨rfl,by dsimp only;omega⟩)) g1 g2.symm) (by simp[a_,wp])
  ·subst h;obtain⟨g1,g2⟩:=dN.2 (by decide);simp;exact hD.of ((⟨t.st,t.io,t.hs,Uh⟩,3,(Ge:Int),0):n0) (yr _ (.inr (.inr rfl)) g1 g2.symm) (by simp[a_])
 have Oe:(b6=3)=False:=bz au;by_cases bE:b6=4
 ·subst bE;have dN:=zrK (b:=b) (a':=a') a6 jz.symm;rw[<-c0,<-kf]at dN;by_cases zk:200000<n
  ·have JL:(200000<(n:Int))=True:=aY;simp[bU,pV,e1,mZ,JL];exact hD.of (hI,0,0,2) (cl _ (JK 2 (by decide) (by decide)) (dN.1 zk)) (by simp[aZ])
  ·have JL:(200000<(n:Int))=False:=a8;obtain⟨g1,g2⟩:=dN.2 zk;simp[bU,pV,e1,mZ,JL,g5,g6];exact hD.of ((⟨t.st,t.io,t.hs,b.drop a'⟩,4,0,0):n0) (yr _ (.inr (.inr rfl)) g1 g2.symm) (by simp[a_])
 have zrT:(b6=4)=False:=bz bE;have a1:kY t=0:=by
  rw[<-jz];have:b6=0\/b6=1\/b6=2\/b6=3\/b6=4:=by
   rw[jz];unfold kY
   repeat' split
   all_goals simp
  omega
 have dN:=zrH (b:=b) (a':=a') a6 a1;rw[<-c0]at dN;simp[bU,pV,e1,mZ,A',vV,Oe,zrT];exact hD.of (hI,0,0,12) (cl _ (JK 12 (by decide) (by decide)) dN) (by simp[aZ])
end
section
variable [bn][cF prog]
def zjx(W D M Y H I S:aq):aq:=W++[44,32]++D++[32]++M++[32]++Y++[32]++H++[58]++I++[58]++S++[32,71,77,84]
def tS(Y D H I S:aq)(m:Nat):Int:=qp (bV Y:Nat) m (bV D:Nat) (bV H:Nat) (bV I:Nat) (bV S:Nat)
def Rz(Y D H I S:aq)(m:Nat):Prop:=yi (bV Y:Nat) m (bV D:Nat) (bV H:Nat) (bV I:Nat) (bV S:Nat)
def zjy(t:Int):aq:=rj ((t/86400+4)%7).toNat
def YS{Y D H I S:aq}{m:Nat}(ak:Rz Y D H I S m)(tT:Y.all da=true)(hM:D.all da=true)(tU:H.all da=true)(lc:I.all da=true)(bS:S.all da=true)
  (eo:D.length=2)(i6:Y.length=4)(jI:H.length=2)(sw:I.length=2)(zX:S.length=2) :
  fM (tS Y D H I S m)=true/\hl (tS Y D H I S m)=zjx (zjy (tS Y D H I S m)) D (jJ m) Y H I S:=by
 have aU:(bV Y:Int)<=9999:=by have:=qo Y tT;rw[i6]at this;omega
 obtain⟨eY,dr,e4,hE,hF,hG,YT,YU⟩:=zjz ak aU;have e:tS Y D H I S m=qp (bV Y:Nat) m (bV D:Nat) (bV H:Nat) (bV I:Nat) (bV S:Nat):=rfl;refine⟨by rw[e];simp[fM,dh,eY,dr],?_⟩;rw[<-e]at e4 hE hF hG YT YU;unfold hl;rw[e4,hE,hF,hG,YT,YU];simp only[kO];have q1:=IK Y tT;have dt:=IK D hM;have d_:=IK H tU;have fi:=IK I lc;have ps:=IK S bS;rw[i6]at q1;rw[eo]at dt;rw[jI]at d_;rw[sw]at fi;rw[zX]at ps;rw[q1,dt,d_,fi,ps];rfl
end
section
variable [bn][c1 0][cF prog]
def zba(l:aq):Prop:=∀c∈l,c≠13/\c≠10
structure zHz(h:Head):Prop where
 ne:h.name≠[]
 colon:(58:UInt8)∉h.name
 name:zba h.name
 value:zba h.value
 other:h.name≠dS
end
end Go.Proofs.YtmlnbemjmlogiaaGreatDoor
