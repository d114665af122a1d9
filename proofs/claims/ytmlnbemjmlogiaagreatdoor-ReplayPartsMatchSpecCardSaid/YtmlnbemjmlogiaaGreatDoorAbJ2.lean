/- Lemmas. -/
import Derived.Test.YtmlnbemjmlogiaaGreatDoorAbJ1
import Derived.Laws.MakeOwn
import Derived.Lib.AppendZeros
set_option linter.all false
namespace Go.Ab
open Go Go.RowKit
section
variable [bn]
section
variable {P:aM}{S0:Env}{w0 w:bb}{n:Nat}{s:aj}{a:Act}
def Ot(af:Rel S0 w0 n s a w){o:Option aW}{other b:Int}{q:Prop}(h:dG s o other=(q,some b))(bK:q) :
  (o=none/\b=other)\/∃x k,o=some x/\a.eval x=.int k b:=by
 cases o with
 |none=>simp only[dG,cA,b9]at h;exact .inl ⟨rfl,h.2.symm⟩
 |some x=>
  have dq:=af.aJ x;simp only[dG]at h;split at h
  ·rename_i p k m e;simp only[cA,b9]at h;obtain⟨aa,ab⟩:=h;subst aa;subst ab;rw[e]at dq;exact .inr ⟨x,k,rfl,jv (dq bK)⟩
  ·simp at h
def xn(k:IntKind)(i:Int)(y:Nat)(code:BoundsCode)(a1:0<=i)(aa:i<=y) :
  (Instr.sliceBound (.int k i) y code).run P w=.ok i.toNat w:=run_sliceBound (P:=P) (w:=w) k i y code a1 aa
def zdV(l:aq)(x y:Int) :
  (⟨l.toArray⟩:ByteArray).extract x.toNat y.toNat=⟨(b4 l x y).toArray⟩:=by
 apply ByteArray.ext;apply rQ;simp only[b4];rw[ByteArray.data_extract,Ob,Oc];simp only[GO]
def bD.cut{S:Nat->Prop}{z:Nat}{xs:List (List ag)}{b:Option Addr}{c:Nat}(h:bD w S (.list z xs) (.slice b xs.length c))(aO ah m:Nat)(aa:aO<=ah)(ab:ah<=m)(au:m<=c)(aN:ah<=xs.length) :
  bD w S (.list z ((xs.take ah).drop aO)) (.slice (if m=aO then b else b.map (·.add (aO*z))) (ah-aO) (m-aO)):=by
 generalize aF:Value.slice b xs.length c=v at h;cases h with
 |mF br c' _ hm aX=>
  simp only[Value.slice.injEq]at aF;obtain⟨rfl,_,rfl⟩:=aF;have kB:ah=0:=by simpa using aN
  subst kB;have dd:aO=0:=by omega
  subst dd;simp only[List.take_nil,List.drop_nil,Nat.sub_self];exact .mF _ _ _ (by omega) (fun ad=>by
   have ap:c=0:=by
    cases b with
    |none=>exact aX rfl
    |some b=>split at ad<;>simp at ad
   omega)
 |list b' cap _ _ U hs dW ap hm n4 lz b8=>
  simp only[Value.slice.injEq]at aF;obtain⟨rfl,_,rfl⟩:=aF;have cX:((xs.take ah).drop aO).length=ah-aO:=by rw[eP,e'];omega
  by_cases he:ah=aO
  ·have pX:(xs.take ah).drop aO=[]:=n5 (by omega);rw[pX];have:ah-aO=0:=by omega
   rw[this];exact .mF _ _ _ (by omega) (fun ad=>by split at ad<;>simp at ad)
  ·rw[an (by omega)];rw[<-cX];have bF:∀(j:Nat) (c:ag),((xs.take ah).drop aO).flatten[j]?=some c->xs.flatten[aO*z+j]?=some c:=by
    intro j c ac;rw[GJ (fun x ai=>n4 x (v7 ai)),Dz n4,js,l0]at ac;split at ac
    ·exact ac
    ·cases ac
   refine .list (b'.add (aO*z)) _ _ _ (fun j=>U (aO*z+j)) (by rw[block_add];exact hs) (by unfold Addr.add;split<;>simp[dW]) (by omega) (by omega) (fun x ai=>n4 x (v7 (vZ ai))) ?_ ?_
   ·intro j c ac;rw[Gr];exact lz _ _ (bF j c ac)
   ·intro j c ac;exact b8 _ _ (bF j c ac)
def y'(af:Rel S0 w0 n s a w)(isSlice:Bool)(len cap:Nat){aO ah mx:Option aW}{x y z:Int}{q r u:Prop}(DB:len<=cap)
  (qQ:dG s aO 0=(q,some x))(zdW:dG s ah len=(r,some y))(zdX:(mx=none/\u)\/(∃e,mx=some e/\dG s mx len=(u,some z)))(bK:q)(ao:r)(hu:u)
  (a1:0<=x)(aa:x<=y)(ab:y<=len)(aZ:mx≠none->y<=z/\z<=len)(aX:ah=none->mx=none) :
  (Instr.sliceBounds isSlice len cap (aO.map a.eval) (ah.map a.eval) (mx.map a.eval)).run P w=.ok (x.toNat,y.toNat,if mx=none then cap else z.toNat) w:=by
 have al:=Ot af qQ bK;have bo:=Ot af zdW ao;rcases zdX with⟨rfl,_⟩|⟨e,rfl,hm⟩
 ·simp only[DC,gW];rcases al with⟨rfl,rfl⟩|⟨zdY,rX,rfl,A2⟩<;>rcases bo with⟨rfl,Ou⟩|⟨zdZ,GP,rfl,GQ⟩
  ·simp[Instr.sliceBounds,Ou]
  ·simp[Instr.sliceBounds,GQ,xn (P:=P) (w:=w) GP y cap _ (by omega) (by omega)]
  ·simp[Instr.sliceBounds,A2,Ou,xn (P:=P) (w:=w) rX x len _ (by omega) (by omega)]
  ·simp[Instr.sliceBounds,A2,GQ,xn (P:=P) (w:=w) GP y cap _ (by omega) (by omega),xn (P:=P) (w:=w) rX x y.toNat _ (by omega) (by omega)]
 ·obtain⟨zsF,zsG⟩:=aZ (by simp);have eh:=Ot af hm hu;rcases eh with⟨h,_⟩|⟨zsH,gc,he,U3⟩
  ·cases h
  injection he with he;subst he
  rcases bo with⟨rfl,Ou⟩|⟨zdZ,GP,rfl,GQ⟩
  ·have:=aX rfl;cases this
  rcases al with⟨rfl,rfl⟩|⟨zdY,rX,rfl,A2⟩
  ·simp[Instr.sliceBounds,GQ,U3,xn (P:=P) (w:=w) gc z cap _ (by omega) (by omega),xn (P:=P) (w:=w) GP y z.toNat _ (by omega) (by omega)]
  ·simp[Instr.sliceBounds,GQ,U3,A2,xn (P:=P) (w:=w) gc z cap _ (by omega) (by omega),xn (P:=P) (w:=w) GP y z.toNat _ (by omega) (by omega),xn (P:=P) (w:=w) rX x y.toNat _ (by omega) (by omega)]
def zea{t:aP}{x:Prop×ae}{aO ah mx:Option aW}(am:(ky P s t x aO ah mx).1) :
  (∃l,x.2=.x (.one (.str l)))\/(∃z xs,x.2=.x (.one (.list z xs)))\/x.2=.x (.one .nil)\/(∃i e z xs,x.2=.alias i/\s i=.own e z xs)\/∃i aO len wh,x.2=.view i aO len wh:=by
 unfold ky at am;split at am
 ·exact .inl ⟨_,rfl⟩
 ·exact .inr (.inl ⟨_,_,rfl⟩)
 ·exact .inr (.inr (.inl rfl))
 ·split at am
  ·rename_i h;exact .inr (.inr (.inr (.inl ⟨_,_,_,_,rfl,h⟩)))
  ·exact am.elim
 ·exact .inr (.inr (.inr (.inr ⟨_,_,_,_,rfl⟩)))
 ·exact am.elim
def U4{s:aj}{tm:Nat->aI}{i:Nat}{v:aI}{b:Option Addr}{len c lo0:Nat}{wh:Bool}(aF:v=.slice b len c)(bB:(s i).aR=true)(cG:lo0+len<=(s i).len)(ht:c<=maxLen)
  (ad:b=none->c=0)(ak:∀b',b=some b'->∃g off,b'=⟨g,off,none⟩/\bl (s i) (tm i)=some g/\(0<len->off=lo0*(s i).size)/\(wh=true->lo0=0/\∃l,(s i).valOf (tm i)=.slice (some b') l c)){S:Nat->Prop}{B:Nat->Prop}{w:bb}
  (aO ah m z:Nat)(aZ:z=(s i).size)(aa:aO<=ah)(ab:ah<=m)(au:m<=c)(aN:ah<=len){wh':Bool}(DD:wh'=true->wh=true/\aO=0/\m=c) :
  dp w S B s tm (.view i (lo0+aO) (ah-aO) wh') (.slice (if m=aO then b else b.map (·.add (aO*z))) (ah-aO) (m-aO)):=by
 refine⟨bB,by omega,?_⟩;cases b with
 |none=>
  have GR:=ad rfl;refine .inl ⟨?_,by omega⟩;have ax:ah-aO=0:=by omega
  have aK:m-aO=0:=by omega
  simp[ax,aK]
 |some b'=>
  obtain⟨g,off,rfl,ay,aB,hw⟩:=ak b' rfl;by_cases nx:m=aO
  ·refine .inr ⟨g,off,m-aO,by rw[av nx],by omega,by omega,ay,fun h=>by omega,fun h=>?_⟩;obtain⟨bE,cS,d8⟩:=DD h;obtain⟨ei,l,fA⟩:=hw bE;exact⟨by omega,l,by rw[fA,d8,cS];rfl⟩
  ·refine .inr ⟨g,off+aO*z,m-aO,by rw[an nx];simp[n7],by omega,by omega,ay,fun h=>by rw[aB (by omega),aZ,l3],fun h=>?_⟩;obtain⟨bE,cS,d8⟩:=DD h;obtain⟨ei,l,fA⟩:=hw bE;refine⟨by omega,l,by rw[fA,d8,cS];simp⟩
def zeb{t:aP}{x:Prop×ae}{v:aI}{aO ah mx:Option aW}(af:Rel S0 w0 n s a w)(ai:eu S0 w0 s a w x v)(am:(ky P s t x aO ah mx).1) :
  Yields P S0 w0 s a w (Instr.sliceAt t v (aO.map a.eval) (ah.map a.eval) (mx.map a.eval)) (ky P s t x aO ah mx).2:=by
 have hf:=zea am;obtain⟨p,x⟩:=x;dsimp only at hf;rcases hf with⟨l,rfl⟩|⟨z,xs,rfl⟩|rfl|⟨i,e,z,xs,rfl,hs⟩|⟨i,lo0,len,wh,rfl⟩
 ·simp only[ky]at am⊢;split at am
  ·rename_i q tj r e_ ax aK;obtain⟨aa,ab,au,aN,bE,cS,d8⟩:=am;obtain⟨rfl,al⟩:=nt (ai aa);have hu:=uD aN;have ad:=y' (P:=P) af false l.length l.length (mx:=none) (u:=True) (z:=0) (f_ _) ax aK (.inl ⟨rfl,trivial⟩) ab au trivial bE cS d8 (by simp) (by simp);simp only[DC,gW]at ad;refine⟨.string ⟨(b4 l tj e_).toArray⟩,?_,bD.str _ ?_,rfl⟩
   ·simp[Instr.sliceAt,Instr.slice,run_underlying hu,JX,ad,zdV l tj e_]
   ·simp only[b4,eP,e'];omega
  ·exact am.elim
 ·simp only[ky]at am⊢;split at am
  ·rename_i e size q tj r e_ u za cp ax aK cd;obtain⟨aa,ab,au,aN,rfl,cS,d8,ei,fA,k5⟩:=am;have ao:=ai aa;obtain⟨i,hu,v6,cB,_⟩:=qP cp;have GS:∃b c,v=.slice b xs.length c/\xs.length<=c:=by
    cases ao with
    |mF b c _ _ _=>exact⟨b,c,rfl,cj _⟩
    |list b' cap _ _ _ _ _ ap=>exact⟨_,cap,rfl,ap⟩
   obtain⟨b,c,rfl,ap⟩:=GS;by_cases uE:mx=none
   ·subst uE;have ad:=y' (P:=P) af true xs.length c (mx:=none) (u:=True) (z:=0) ap ax aK (.inl ⟨rfl,trivial⟩) ab au trivial cS d8 (by omega) (by simp) (by simp);simp only[DC,gW]at ad;refine⟨_,?_,ao.cut tj.toNat e_.toNat c (by omega) (by omega) (f_ _) (by omega),rfl⟩;simp[Instr.sliceAt,Instr.slice,run_underlying hu,ad,run_sizeOf v6,cB]
   ·obtain⟨em,rfl⟩:∃em,mx=some em:=J'.1 uE;have ad:=y' (P:=P) af true xs.length c (mx:=some em) (u:=u) (z:=za) ap ax aK (.inr ⟨em,rfl,cd⟩) ab au aN cS d8 (by omega) (fun _=>⟨ei,fA⟩) k5;rw[an uE]at ad;simp only[uF]at ad;refine⟨_,?_,ao.cut tj.toNat e_.toNat za.toNat (by omega) (by omega) (by omega) (by omega),rfl⟩;simp[Instr.sliceAt,Instr.slice,run_underlying hu,ad,run_sizeOf v6,cB]
  ·exact am.elim
 ·simp only[ky]at am⊢;split at am
  ·rename_i q tj r e_ cp ax aK;obtain⟨aa,ab,au,rfl,rfl⟩:=am;obtain rfl:=te (ai aa);obtain⟨i,hu,v6,cB,_⟩:=qP cp;have ad:=y' (P:=P) af true 0 0 (mx:=none) (u:=True) (z:=0) (f_ _) ax aK (.inl ⟨rfl,trivial⟩) ab au trivial (by omega) (by omega) (by omega) (by simp) (by simp);simp only[DC,gW]at ad;refine⟨_,?_,bD.nil,rfl⟩;simp[Instr.sliceAt,Instr.slice,run_underlying hu,ad,run_sizeOf v6,cB]
  ·exact am.elim
 ·simp only[ky,hs]at am⊢;split at am
  ·rename_i cg size q tj r e_ u za cp ax aK cd;obtain⟨aa,ab,au,aN,rfl,cS,d8,ei,fA,k5⟩:=am;obtain⟨rfl,lG⟩:=dp.y1 (ai aa) hs;obtain⟨j,hu,v6,cB,_⟩:=qP cp;have ah:=af.rep i;rw[hs]at ah;obtain⟨us,bB,_,_,hm,_⟩:=ah;have GS:∃b c,aL a i=.slice b xs.length c/\xs.length<=c/\c<=maxLen/\(b=none->c=0)/\∀b',b=some b'->∃g,b'=⟨g,0,none⟩/\bl (s i) (aL a i)=some g:=by
    rcases bB.2 with⟨h,a1⟩|⟨g,cap,bN,aF,_,_,ap,ht,_⟩
    ·exact⟨none,0,by rw[h,a1],by omega,by simp,fun _=>rfl,fun b' h=>(by cases h)⟩
    ·exact⟨_,cap,aF,ap,ht,fun h=>(by cases h),fun b' h=>by injection h with h;subst h;exact⟨g,rfl,by rw[hs];show Value.ownBlock _=_;rw[aF];rfl⟩⟩
   obtain⟨b,c,aF,DB,ht,Ov,GT⟩:=GS;have e1:=fun (m:Nat) (wh':Bool) ab au (DD:wh'=true->tj.toNat=0/\m=c)=>U4 (s:=s) (tm:=aL a) (i:=i) (lo0:=0) (wh:=true) (S:=bO S0 w0.heap.size w s (aL a)) (B:=nq S0 w0.heap.size) (w:=w) aF lG (by rw[hs];simp[ae.len]) ht Ov
    (fun b' Ka=>by obtain⟨g,aa,ab⟩:=GT b' Ka;exact⟨g,0,aa,ab,fun _=>by simp,fun _=>⟨rfl,_,by rw[hs];exact(by rw[aF,Ka]:aL a i=_)⟩⟩) tj.toNat e_.toNat m z (by rw[hs];rfl) (by omega) ab au (by omega) (wh':=wh') (fun h=>⟨rfl,DD h⟩)
   have gV:a.eval (.tmp i)=aL a i:=rfl;by_cases uE:mx=none
   ·subst uE;have ad:=y' (P:=P) af true xs.length c (mx:=none) (u:=True) (z:=0) DB ax aK (.inl ⟨rfl,trivial⟩) ab au trivial cS d8 (by omega) (by simp) (by simp);simp only[DC,gW]at ad;have:=e1 c (aO.isNone&&(none:Option aW).isNone) (by omega) (f_ _) (fun h=>⟨by
     have al:aO=none:=by simpa using h
     subst al;simp[dG]at ax;rw[<-ax.2];rfl,rfl⟩)
    rw[hv]at this;refine⟨_,?_,this,rfl⟩;rw[aF];simp[Instr.sliceAt,Instr.slice,run_underlying hu,ad,run_sizeOf v6,cB]
   ·obtain⟨em,rfl⟩:∃em,mx=some em:=J'.1 uE;have ad:=y' (P:=P) af true xs.length c (mx:=some em) (u:=u) (z:=za) DB ax aK (.inr ⟨em,rfl,cd⟩) ab au aN cS d8 (by omega) (fun _=>⟨ei,fA⟩) k5;rw[an uE]at ad;simp only[uF]at ad;have:=e1 za.toNat (aO.isNone&&(some em).isNone) (by omega) (by omega) (fun h=>by simp at h);rw[hv]at this;refine⟨_,?_,this,rfl⟩;rw[aF];simp[Instr.sliceAt,Instr.slice,run_underlying hu,ad,run_sizeOf v6,cB]
  ·exact am.elim
 ·simp only[ky]at am⊢;split at am
  ·rename_i cg size q tj r e_ u za cp ax aK cd;obtain⟨aa,ab,au,aN,bE,cS,d8,ei,fA,k5⟩:=am;obtain⟨lG,cG,pY⟩:=ai aa;obtain⟨j,hu,v6,cB,_⟩:=qP cp;have GS:∃b c,v=.slice b len c/\len<=c/\c<=maxLen/\(b=none->c=0)/\∀b',b=some b'->∃g off,b'=⟨g,off,none⟩/\bl (s i) (aL a i)=some g/\(0<len->off=lo0*(s i).size)/\(wh=true->lo0=0/\∃l,(s i).valOf (aL a i)=.slice (some b') l c):=by
    rcases pY with⟨h,a1⟩|⟨g,off,cap,aF,ap,ht,ak,aZ,hw⟩
    ·exact⟨none,0,by rw[h,a1],by omega,by simp,fun _=>rfl,fun b' h=>(by cases h)⟩
    ·exact⟨_,cap,aF,ap,ht,fun h=>(by cases h),fun b' h=>by injection h with h;subst h;exact⟨g,off,rfl,ak,aZ,hw⟩⟩
   obtain⟨b,c,aF,DB,ht,Ov,GT⟩:=GS;have e1:=fun (m:Nat) (wh':Bool) ab au (DD:wh'=true->wh=true/\tj.toNat=0/\m=c)=>U4 (s:=s) (tm:=aL a) (i:=i) (lo0:=lo0) (wh:=wh) (S:=bO S0 w0.heap.size w s (aL a)) (B:=nq S0 w0.heap.size) (w:=w) aF lG cG ht Ov
    GT tj.toNat e_.toNat m size bE.symm (by omega) ab au (by omega) (wh':=wh') DD
   by_cases uE:mx=none
   ·subst uE;have ad:=y' (P:=P) af true len c (mx:=none) (u:=True) (z:=0) DB ax aK (.inl ⟨rfl,trivial⟩) ab au trivial cS d8 (by omega) (by simp) (by simp);simp only[DC,gW]at ad;have:=e1 c (wh&&(aO.isNone&&(none:Option aW).isNone)) (by omega) (f_ _) (fun h=>by
     rw[b7]at h;have al:aO=none:=by simpa using h.2
     subst al;simp[dG]at ax;exact⟨h.1,by rw[<-ax.2];rfl,rfl⟩)
    refine⟨_,?_,this,rfl⟩;rw[aF];simp[Instr.sliceAt,Instr.slice,run_underlying hu,ad,run_sizeOf v6,cB]
   ·obtain⟨em,rfl⟩:∃em,mx=some em:=J'.1 uE;have ad:=y' (P:=P) af true len c (mx:=some em) (u:=u) (z:=za) DB ax aK (.inr ⟨em,rfl,cd⟩) ab au aN cS d8 (by omega) (fun _=>⟨ei,fA⟩) k5;rw[an uE]at ad;simp only[uF]at ad;have:=e1 za.toNat (wh&&(aO.isNone&&(some em).isNone)) (by omega) (by omega) (fun h=>by simp at h);refine⟨_,?_,this,rfl⟩;rw[aF];simp[Instr.sliceAt,Instr.slice,run_underlying hu,ad,run_sizeOf v6,cB]
  ·exact am.elim
def map_mk{α β:Type}(f:α->β)(l:List α):Array.map f ⟨l⟩=⟨l.map f⟩:=by apply rQ;simp
def o9{m:Sem aI}{v:aI}(h:m.run P w=.ok v w):((do pure (.value (<-m)):Sem Next)).run P w=.ok (.value v) w:=by simp[h]
def U5(af:Rel S0 w0 n s a w):∀(l:List aW) {p:Prop} {cs:List ag},tc (l.map (Ab.aJ s))=(p,some cs)->p ->
  l.length=cs.length/\∀(j:Nat) (c:ag),cs[j]?=some c->bD w (bO S0 w0.heap.size w s (aL a)) c (a.eval ((l[j]?).getD (.tmp 0)))
 |[],p,cs,h,_=>by simp only[zb,tc,cA,b9]at h;obtain⟨_,rfl⟩:=h;exact⟨rfl,fun j c ac=>by simp at ac⟩
 |x::l,p,cs,h,am=>by
  simp only[kC]at h;have dq:=af.aJ x;generalize Ab.aJ s x=q at h dq;obtain⟨q,v⟩:=q;unfold tc at h;split at h
  ·rename_i e;cases e
  ·rename_i eI c r e;injection e with ax aK
   injection ax with ax cd;subst ax;subst cd;subst aK
   split at h
   ·rename_i dt cs' e;simp only[cA,b9]at h;obtain⟨rfl,rfl⟩:=h;obtain⟨aa,ab⟩:=U5 af l e am.2;refine⟨by simp[aa],fun j c' ac=>?_⟩;cases j with
    |zero=>simp at ac;subst ac;exact dq am.1
    |succ j=>simp at ac;simpa using ab j c' ac
   ·simp at h
  ·simp at h
def Kb(af:Rel S0 w0 n s a w):∀(l:List aW) {p:Prop} {cs:List (ag⊕(Nat×Nat))},lC (l.map (Ab.aJ s))=(p,some cs)->p ->
  l.length=cs.length/\∀(j:Nat) (c:ag⊕(Nat×Nat)),cs[j]?=some c->xh w (bO S0 w0.heap.size w s (aL a)) s (aL a) c (a.eval ((l[j]?).getD (.tmp 0)))
 |[],p,cs,h,_=>by simp only[zb,lC,cA,b9]at h;obtain⟨_,rfl⟩:=h;exact⟨rfl,fun j c ac=>by simp at ac⟩
 |x::l,p,cs,h,am=>by
  simp only[kC]at h;have dq:=af.aJ x;generalize Ab.aJ s x=q at h dq;obtain⟨q,v⟩:=q;unfold lC at h;split at h
  ·rename_i e;cases e
  ·rename_i eI c r e;injection e with ax aK
   injection ax with ax cd;subst ax;subst cd;subst aK
   split at h
   ·rename_i dt cs' e;simp only[cA,b9]at h;obtain⟨rfl,rfl⟩:=h;obtain⟨aa,ab⟩:=Kb af l e am.2;refine⟨by simp[aa],fun j c' ac=>?_⟩;cases j with
    |zero=>simp at ac;subst ac;exact dq am.1
    |succ j=>simp at ac;simpa using ab j c' ac
   ·simp at h
  ·rename_i eI i off r e;injection e with ax aK
   injection ax with ax cd;subst ax;subst cd;subst aK
   split at h
   ·rename_i dt cs' e;simp only[cA,b9]at h;obtain⟨rfl,rfl⟩:=h;obtain⟨aa,ab⟩:=Kb af l e am.2.2;refine⟨by simp[aa],fun j c' ac=>?_⟩;cases j with
    |zero=>simp at ac;subst ac;rw[s8,av am.2.1];exact dq am.1
    |succ j=>simp at ac;simpa using ab j c' ac
   ·simp at h
  ·rename_i eI i off r e;injection e with ax aK
   injection ax with ax cd;subst ax;subst cd;subst aK
   split at h
   ·rename_i dt cs' e;simp only[cA,b9]at h;obtain⟨rfl,rfl⟩:=h;obtain⟨aa,ab⟩:=Kb af l e am.2;refine⟨by simp[aa],fun j c' ac=>?_⟩;cases j with
    |zero=>simp at ac;subst ac;rw[s8,an (by simp),zc];exact dq am.1
    |succ j=>simp at ac;simpa using ab j c' ac
   ·simp at h
  ·simp at h
def zec{fn:Fn}{first jd:Array aW}(af:Rel S0 w0 n s a w)(am:(xm s fn first.toList jd.toList).1) :
  Yields P S0 w0 s a w (Instr.makeFunc fn (first.map a.eval) (jd.map a.eval)) (xm s fn first.toList jd.toList).2:=by
 unfold xm at am⊢;split at am
 ·rename_i f aw;split at am
  ·rename_i p cs e;obtain⟨aa,ab⟩:=U5 af jd.toList e am;have Ow:first=#[]:=by cases first;simp_all
   subst Ow;refine⟨.func (.func f) #[] (jd.map a.eval),by simp[Instr.makeFunc],?_,rfl⟩;have he:jd.map a.eval=((List.range cs.length).map fun j=>a.eval ((jd.toList[j]?).getD (.tmp 0))).toArray:=by
    apply rQ;rw[<-aa];apply y_;intro j;simp only[Array.toList_map,eZ];by_cases ac:j<jd.toList.length
    ·have gm:j<jd.size:=by simpa using ac
     rw[DA ac,cr ac];simp[gm]
    ·rw[pW (by omega),pW (by simp at ac⊢;omega)];rfl
   rw[he];exact bD.jQ f cs _ ab
  ·split at am
   ·rename_i p cs e;obtain⟨aa,ab⟩:=Kb af jd.toList e am;have Ow:first=#[]:=by cases first;simp_all
    subst Ow;refine⟨.func (.func f) #[] (jd.map a.eval),by simp[Instr.makeFunc],⟨_,rfl,by simpa using aa,fun j c ac=>?_⟩,rfl⟩;have ar:j<jd.toList.length:=by rw[aa];exact(eQ.1 ac).1
    have aS:j<jd.size:=by simpa using ar
    have:=ab j c ac;rw[cr ar]at this;refine⟨a.eval jd[j],by simp[aS],?_⟩;simpa using this
   ·exact am.elim
 ·exact am.elim
def zed(op:BinOp)(t:aP)(x y:aW)(af:Rel S0 w0 n s a w)(am:(td P s op t x y).1) :
  Yields P S0 w0 s a w (do eqGuard op t x y (a.eval x) (a.eval y);binOp op t (a.eval x) (a.eval y)) (td P s op t x y).2:=by
 unfold td at am⊢;cases aU:Gx y with
 |true=>obtain rfl:=zds aU;rw[aU,cond_true]at am;exact zdt op t x (af.aJ x) am
 |false=>rw[aU,cond_false]at am;exact zdu op t x y (af.aJ x) (af.aJ y) am
def zee(af:Rel S0 w0 n s a w)(o:Oper)(am:(eA P s o.op).1) :
  ∃v,(execOp a.eval o).run P w=.ok (.value v) w/\mI S0 w0 s a w (eA P s o.op).2 v/\(eA P s o.op).2.aR=false:=by
 obtain⟨dst,op,type,pos,after,guard⟩:=o;dsimp only at am⊢;cases op with
 |move x=>exact⟨_,rfl,af.aJ x am,af.Uv x⟩
 |assign x=>exact⟨_,rfl,af.look x,Uu x⟩
 |pick c x y=>
  obtain⟨v,aa,ab,au⟩:=zdv (P:=P) (af.aJ c) (af.aJ x) (af.aJ y) am;refine⟨v,?_,ab,au⟩;simp only[execOp];cases ad:(asBool (a.eval c)).run P w with
  |ok b w'=>
   simp only[Sem.run_bind,ad,Result.andThen_ok,Sem.run_pure]at aa⊢;injection aa with aa aN
   rw[aa,aN]
  |halt e w'=>simp only[Sem.run_bind,ad,Result.andThen_halt]at aa;cases aa
 |load t x=>
  by_cases Kc:∃p i off,Ab.aJ s x=(p,.et i off)
  ·obtain⟨p,i,off,e⟩:=Kc;have dq:=af.aJ x;simp only[eA,pL,e]at am dq⊢;cases ak:tk P t with
   |one=>rw[ak]at am;obtain⟨fa,b,aF,bS,ap,ad⟩:=dq am;refine⟨.pointer (some ⟨b,off,none⟩),?_,⟨b,rfl,ad⟩,rfl⟩;simp only[execOp,aF];refine o9 ?_;simp[Instr.loadAt,Instr.sureAddr,loadVar,J6 (w:=w) ak,ap]
   |_=>rw[ak]at am;exact am.elim
  have U6:pL P s t (Ab.aJ s x)=jT s (Ab.aJ s x).2 (k2 (tk P t) (eH P t) (Ab.aJ s x).1 (Ab.mem s (Ab.aJ s x).2)):=by
   unfold pL;split
   ·rename_i e;exact absurd ⟨_,_,_,e⟩ Kc
   ·rfl
  have jr:(k2 (tk P t) (eH P t) (Ab.aJ s x).1 (Ab.mem s (Ab.aJ s x).2)).1:=by
   simp only[eA,U6]at am;rcases Gy s (Ab.aJ s x).2 (k2 (tk P t) (eH P t) (Ab.aJ s x).1 (Ab.mem s (Ab.aJ s x).2))with e|⟨p,i,off,d,ax,_,_,fI⟩
   ·rw[e]at am;exact am
   ·rw[fI]at am;rw[ax];exact am
  obtain⟨v,aa,ab,au⟩:=UW (P:=P) (t:=t) (fun am cs hm=>af.mem (af.aJ x am) hm) jr;simp only[eA,U6];rcases Gy s (Ab.aJ s x).2 (k2 (tk P t) (eH P t) (Ab.aJ s x).1 (Ab.mem s (Ab.aJ s x).2))with e|⟨p,i,off,d,ax,aK,cd,fI⟩
  ·rw[e];exact⟨v,o9 aa,ab,au⟩
  ·rw[fI];refine⟨v,o9 aa,?_,rfl⟩;have al:=af.rep (ch i off);rw[cd]at al;obtain⟨aB,cs,b,aE,aQ,bf,bM⟩:=al;refine⟨?_,aB⟩;have ak:tk P t=.one:=by
    have a1:=pR Prod.snd ax;cases hm:Ab.mem s (Ab.aJ s x).2 with
    |none=>rw[hm]at a1;cases a1
    |some cs=>
     rw[hm]at a1;simp only[k2]at a1;cases ak:tk P t with
     |one=>rfl
     |agg m=>rw[ak]at a1;simp[xl,Dp]at a1
     |bad=>rw[ak]at a1;simp[xl,Dp]at a1
   have dq:mI S0 w0 s a w (Ab.aJ s x).2 (a.eval x):=by
    refine af.aJ x ?_;cases hm:Ab.mem s (Ab.aJ s x).2 with
    |none=>rw[hm]at jr;exact jr.elim
    |some cs=>
     rw[hm,ak]at jr;simp only[k2]at jr;cases cs with
     |nil=>simp only[xl]at jr;split at jr<;>exact jr.elim
     |cons c cs=>exact jr
   rw[aK]at dq;obtain⟨br,h1,cm⟩:=dq;rw[bf]at cm;injection cm with cm
   subst cm;rw[h1]at aa;simp[Instr.loadAt,Instr.sureAddr,loadVar,J6 (w:=w) ak,bM]at aa;rw[<-aa];simp[aL]
 |nilCheck x=>
  simp only[eA]at am⊢;have dq:=af.aJ x;have cl:=af.Uv x;cases qR:N9 (Ab.aJ s x).2 with
  |false=>rw[qR]at am;exact am.elim
  |true=>
   rw[qR]at am;have ao:=dq am;refine⟨a.eval x,?_,ao,cl⟩;have zef:∃b',a.eval x=.pointer (some b'):=by
    cases ai:(Ab.aJ s x).2 with
    |ptr i off=>rw[ai]at ao;obtain⟨b,h,_⟩:=ao;exact⟨_,h⟩
    |fy i k off=>rw[ai]at ao;obtain⟨b,h,_⟩:=ao;exact⟨_,h⟩
    |elem cs=>rw[ai]at ao;obtain⟨b',h,_⟩:=ao;exact⟨_,h⟩
    |_=>rw[ai]at qR;cases qR
   obtain⟨b',Ka⟩:=zef;simp only[execOp,Ka];rfl
 |binOp op t x y Ox=>obtain⟨v,aa,ab,au⟩:=zed (P:=P) op t x y af am;exact⟨v,o9 aa,ab,au⟩
 |unOp op t x=>obtain⟨v,aa,ab,au⟩:=zdS (P:=P) (af.aJ x) am;exact⟨v,o9 aa,ab,au⟩
 |convert src dst x=>obtain⟨v,aa,ab,au⟩:=zdU (P:=P) af (af.aJ x) am;exact⟨v,o9 aa,ab,au⟩
 |slice t x aO ah mx=>obtain⟨v,aa,ab,au⟩:=zeb (P:=P) af (af.aJ x) am;exact⟨v,o9 aa,ab,au⟩
 |fieldAddr t x f=>obtain⟨v,aa,ab,au⟩:=zdD (P:=P) (af.aJ x) am;exact⟨v,o9 aa,ab,au⟩
 |field t x f=>obtain⟨v,aa,ab,au⟩:=zdE (P:=P) (af.aJ x) am;exact⟨v,o9 aa,ab,au⟩
 |indexAddr t x i=>obtain⟨v,aa,ab,au⟩:=zdJ (P:=P) af (af.aJ x) (af.aJ i) am;exact⟨v,o9 aa,ab,au⟩
 |index t x i=>obtain⟨v,aa,ab,au⟩:=zdK (P:=P) (af.aJ x) (af.aJ i) am;exact⟨v,o9 aa,ab,au⟩
 |makeFunc fn first jd=>obtain⟨v,aa,ab,au⟩:=zec (P:=P) af am;exact⟨v,o9 aa,ab,au⟩
 |lookup t x k ok=>obtain⟨v,aa,ab,au⟩:=zdP (P:=P) af (af.aJ x) (af.aJ k) am;exact⟨v,o9 aa,ab,au⟩
 |extract x i=>obtain⟨v,aa,ab,au⟩:=zdL (P:=P) (af.aJ x) am;exact⟨v,o9 aa,ab,au⟩
 |call c=>
  obtain⟨callee,⟨args⟩,⟨argTypes⟩⟩:=c;simp only[eA]at am⊢;unfold uz at am⊢;split at am
  ·split at am
   ·obtain⟨v,aa,ab,au⟩:=zdM (P:=P) (ty:=type) af (af.aJ _) am;refine⟨v,?_,ab,au⟩;simp only[execOp,resolve,Sem.run_bind,Sem.run_pure,Result.andThen_ok,invoke,builtin,map_mk,kC,zb];exact pR (fun r=>Result.andThen r fun (a:aI) w'=>Result.ok (Next.value a) w') aa
   ·exact am.elim
  ·split at am
   ·obtain⟨v,aa,ab,au⟩:=zdN (P:=P) (ty:=type) (af.aJ _) am;refine⟨v,?_,ab,au⟩;simp only[execOp,resolve,Sem.run_bind,Sem.run_pure,Result.andThen_ok,invoke,builtin,map_mk,kC,zb];exact pR (fun r=>Result.andThen r fun (a:aI) w'=>Result.ok (Next.value a) w') aa
   ·exact am.elim
  ·split at am
   ·obtain⟨v,aa,ab,au⟩:=zdQ (P:=P) (ts:=⟨argTypes⟩) (ty:=type) (af.aJ _) (af.aJ _) am;refine⟨v,?_,ab,au⟩;simp only[execOp,resolve,Sem.run_bind,Sem.run_pure,Result.andThen_ok,invoke,builtin,map_mk,kC,zb];exact pR (fun r=>Result.andThen r fun (a:aI) w'=>Result.ok (Next.value a) w') aa
   ·exact am.elim
  ·split at am
   ·obtain⟨v,aa,ab,au⟩:=zdR (P:=P) (ts:=⟨argTypes⟩) (ty:=type) (af.aJ _) (af.aJ _) am;refine⟨v,?_,ab,au⟩;simp only[execOp,resolve,Sem.run_bind,Sem.run_pure,Result.andThen_ok,invoke,builtin,map_mk,kC,zb];exact pR (fun r=>Result.andThen r fun (a:aI) w'=>Result.ok (Next.value a) w') aa
   ·exact am.elim
  ·exact am.elim
 |_=>exact am.elim
end
end
section
variable [bn]
section
variable {P:aM}{S0:Env}{w0 w:bb}{n:Nat}{s:aj}{a:Act}
def U7{S:Nat->Prop}{us:List aI}(h:us.all vK=true):cO w S (us.map vJ) us:=by
 refine⟨by simp,fun j c ac=>?_⟩;rw[eZ]at ac;cases hu:us[j]? with
 |none=>rw[hu]at ac;cases ac
 |some u=>
  rw[hu]at ac;injection ac with ac
  subst ac;exact⟨u,rfl,Gq (hJ.1 h u (kt hu))⟩
def hT(P:aM)(t:aP):Option (List ag):=
 match P.info? t with
 |some i=>match i.zero with
  |some z=>if z.cells.toList.all vK then some (z.cells.toList.map vJ)else none
  |none=>none
 |none=>none
def Oy{t:aP}{cs:List ag}(h:hT P t=some cs)(S:Nat->Prop):∃z,(zeroValue t).run P w=.ok z w/\cO w S cs z.cells.toList:=by
 unfold hT at h;split at h
 ·rename_i i ah;split at h
  ·rename_i z aZ;split at h
   ·rename_i kv;injection h with h
    subst h;exact⟨z,by simp[zeroValue,typeInfo,ah,aZ],U7 kv⟩
   ·cases h
  ·cases h
 ·cases h
def aG.cells:aG->List ag
 |.one c=>[c]
 |.agg cs=>cs
def cz.cells{S:Nat->Prop}{x:aG}{v:aI}(h:cz w S x v):cO w S x.cells v.cells.toList:=by
 cases x with
 |one c=>
  have aa:v.cells=#[v]:=by have:=bD.N3 h;cases v<;>first|rfl|(simp[Value.oneCell']at this)
  rw[aa];refine⟨rfl,fun j c' ac=>?_⟩;cases j with
  |zero=>simp[aG.cells]at ac;subst ac;exact⟨v,rfl,h⟩
  |succ j=>simp[aG.cells]at ac
 |agg cs=>obtain⟨us,rfl,al⟩:=h;exact al
def cO.zd{S:Nat->Prop}{cs:List ag}{us:List aI}(h:cO w S cs us):∀u∈us,u.oneCell'=true:=by
 intro u hu;obtain⟨j,ac⟩:=mG hu;have ar:j<cs.length:=by have:=(eQ.1 ac).1;have:=h.1;omega
 obtain⟨o5,iz,ao⟩:=h.2 j cs[j] (cr ar);rw[ac]at iz;injection iz with iz;subst iz
 exact ao.N3
def U8{b:Nat}(o:Obj)(h:bO S0 w0.heap.size w s (aL a) b):bO S0 w0.heap.size (w.alloc o) s (aL a) b/\b≠w.heap.size:=
 ⟨⟨h.1,by have:=h.2.1;simp;omega,h.2.2⟩,by have:=h.2.1;omega⟩
def Rel.zeg{d i off b:Nat}{t:aP}(af:Rel S0 w0 n s a w)(aA:S0.m<=d/\d<n)(ad:bl (s i) (aL a i)=some b) :
  Rel S0 w0 n (Ab.put s d (.et i off)) (a.put (some d) (.pointer (some ⟨w.heap.size,0,none⟩))) (w.alloc (.cells #[.pointer (some ⟨b,off,none⟩)] t)):=by
 have ar:∀k c,bl (s k) (aL a k)=some c->c<w.heap.size:=fun k c ap=>((af.rep k).gU ap).2;have aB:(s i).aR=true:=by
  cases aB:(s i).aR with
  |true=>rfl
  |false=>rw[ks aB]at ad;cases ad
 refine af.put aA (World.grownBy_alloc w _ none) (fun j h=>?_) ⟨w.heap.size,b,rfl,⟨.inr (.inl af.below.size),by simp,fun k ak=>?_⟩,?_,ad⟩ (fun c ap=>by cases ap) (fun c ap=>by cases ap)
 ·obtain rfl:i=j:=by simpa[ae.refs]using h
  exact aB
 ·have:=ar k _ ak;omega
 ·rw[cell_of_row _ w.heap.size 0 _ t (0,0) (heap_alloc_new w _)];rfl
def Rel.Oz{d:Nat}{cs:List ag}{b3:Array aI}{t:aP}(af:Rel S0 w0 n s a w)(aA:S0.m<=d/\d<n)(al:cO w (bO S0 w0.heap.size w s (aL a)) cs b3.toList) :
  Rel S0 w0 n (Ab.put s d (.box cs)) (a.put (some d) (.pointer (some ⟨w.heap.size,0,none⟩))) (w.alloc (.cells b3 t)):=by
 have ad:∀b,bO S0 w0.heap.size w s (aL a) b->(w.alloc (.cells b3 t)).heap[b]?=w.heap[b]?:=fun b ad=>Below.heap_alloc w _ b ad.2.1;refine af.put aA (World.grownBy_alloc w _ none) (fun j h=>by cases h) ⟨_,b3,t,rfl,heap_alloc_new w _,al.mono (fun b ad=>(U8 _ ad).1) ad,.inl af.below.size⟩ ?_ ?_
 ·intro b ad;have:w.heap.size=b:=by simpa[bl]using ad
  omega
 ·intro b ew;have:w.heap.size=b:=by simpa[bl]using ew
  subst this;exact⟨_,b3,t,rfl,heap_alloc_new w _,al.mono (fun b ad=>U8 _ ad) ad,.inl af.below.size⟩
def Rel.DE{d e size:Nat}{xs:List (List ag)}{v:aI}{us:List aI}{w':bb}(af:Rel S0 w0 n s a w)(aA:S0.m<=d/\d<n)
  (ay:w.grownBy w' none)(bB:w'.iM 0 e size v xs.length us)(al:cO w (bO S0 w0.heap.size w s (aL a)) xs.flatten us)(ai:∀x∈xs,x.length=size)(hm:xs.length<=maxLen)
  (aw:∀b,v.ownBlock=some b->w.heap.size<=b) :
  Rel S0 w0 n (Ab.put s d (.own e size xs)) (a.put (some d) v) w':=by
 have ad:∀b,bO S0 w0.heap.size w s (aL a) b->w'.heap[b]?=w.heap[b]?:=fun b ad=>ay.block b ad.2.1 (by simp);have dg:∀b,bO S0 w0.heap.size w s (aL a) b->bO S0 w0.heap.size w' s (aL a) b:=fun b ad=>⟨ad.1,s9 ad.2.1 ay.size,ad.2.2⟩
 refine af.put aA ay (fun j h=>by cases h) ⟨us,bB,al.mono dg ad,ai,hm,fun b ad=>.inl (jc af.below.size (aw b ad))⟩ aw ?_;intro b ew;have:=aw b ew;exact⟨us,bB,al.mono (fun br cm=>⟨dg br cm,by have:=cm.2.1;omega⟩) ad,ai,hm,fun b ad=>.inl (jc af.below.size (aw b ad))⟩
def cZ{α:Type}(cs:List α)(off:Nat)(vs:List α):List α:=cs.take off++vs++cs.drop (off+vs.length)
def cO.cZ{S:Nat->Prop}{cs vs:List ag}{us ws:List aI}(h:cO w S cs us)(k:cO w S vs ws)(off:Nat):cO w S (cZ cs off vs) (cZ us off ws):=by
 have aa:=h.1;have aE:=k.1;refine⟨by simp only[Ab.cZ,eG,e',eP,aa,aE],fun j c ac=>?_⟩;simp only[Ab.cZ,pG]at ac⊢;rw[ze]at ac⊢;simp only[e',aa]at ac⊢;split at ac
 ·rename_i ar;rw[av ar];rw[l0]at ac⊢;split at ac
  ·rename_i DF;rw[av DF];exact h.2 _ _ ac
  ·cases ac
 ·rename_i iN;rw[an iN];rw[ze]at ac⊢;rw[aE];split at ac
  ·rename_i ar;rw[av ar];exact k.2 _ _ ac
  ·rename_i OA;rw[an OA];rw[js]at ac⊢;exact h.2 _ _ ac
def Rel.write{i:Nat}{r:ae}{b:Nat}{w':bb}(af:Rel S0 w0 n s a w)(ad:bl (s i) (aL a i)=some b)(ay:w.grownBy w' (some b))(cB:w'.heap.size=w.heap.size)
  (jp:bl r (aL a i)=some b)(zf:r.aR=true)(A3:r.size=(s i).size)(gB:r.len=(s i).len)(zg:r.valOf=(s i).valOf)
  (ao:∀(s':aj),dp w' (bO S0 w0.heap.size w s (aL a)) (nq S0 w0.heap.size) s' (aL a) r (aL a i))
  (ma:∀j off d cs,(s j).o1 i off d->(s i).gk=some cs->(∃cs',r.gk=some cs'/\cs'[off]?=cs[off]?)/\w'.cell? ⟨b,off,none⟩=w.cell? ⟨b,off,none⟩) :
  Rel S0 w0 n (fun j=>if j=i then r else s j) a w':=by
 have tl:(s i).aR=true:=by
  cases h:(s i).aR with
  |true=>rfl
  |false=>rw[ks h]at ad;cases ad
 have cv:∀j c,bl (if j=i then r else s j) (aL a j)=some c->bl (s j) (aL a j)=some c:=by
  intro j c ap;by_cases ac:j=i
  ·subst ac;rw[av rfl,jp]at ap;rw[ad];exact ap
  ·rw[an ac]at ap;exact ap
 have dg:∀c,bO S0 w0.heap.size w s (aL a) c->bO S0 w0.heap.size w' (fun j=>if j=i then r else s j) (aL a) c:=
  fun c ap=>⟨ap.1,by rw[cB];exact ap.2.1,fun j ac=>ap.2.2 j (cv j c ac)⟩
 have kD:∀c,bO S0 w0.heap.size w s (aL a) c->w'.heap[c]?=w.heap[c]?:=by
  intro c ap;refine ay.block c ap.2.1 (fun e=>?_);injection e with e
  exact ap.2.2 i (by rw[ad,e])
 refine⟨af.defers,af.size,?_,af.lt,?_,?_,?_,?_,af.n6⟩
 ·exact af.below.grown ay (fun k ak=>by injection ak with ak;subst ak;exact((af.rep i).gU ad).1)
 ·intro j;by_cases ac:j=i
  ·subst ac;simp only[av];exact(ao (fun k=>if k=j then r else s k)).mono dg (fun _ _=>rfl) (fun _ _=>rfl) (fun k ak=>⟨rfl,fun h=>⟨h,rfl,rfl,rfl⟩,fun c ap=>ap⟩)
    (fun bL off d cs br al _ _=>by have:=np (ae.pH al).1;rw[zf]at this;cases this)
  ·simp only[an ac];refine(af.rep j).mono dg kD (fun c ap=>?_) (fun k ak=>⟨rfl,fun h=>?_,fun c ap=>?_⟩) (fun bL off d cs br al cT cm=>?_)
   rotate_right
   ·by_cases e_:bL=i
    ·subst e_;obtain rfl:br=b:=by rw[ad]at cm;injection cm with cm;exact cm.symm
     obtain⟨⟨cs',aE,aQ⟩,bf⟩:=ma j off d cs al cT;exact⟨⟨cs',by rw[av rfl];exact aE,aQ⟩,bf⟩
    ·refine⟨⟨cs,by rw[an e_];exact cT,rfl⟩,World.cell?_of_block (ay.block br ((af.rep bL).gU cm).2 (fun e=>?_))⟩;injection e with e
     subst e;exact e_ (af.inj bL i _ cm ad)
   ·refine ay.block c ((af.rep j).gU ap).2 (fun e=>?_);injection e with e
    subst e;exact ac (af.inj j i c ap ad)
   ·by_cases dx:k=i
    ·subst dx;simp only[av];exact⟨zf,A3,gB,zg⟩
    ·simp only[an dx];exact⟨h,trivial,trivial,trivial⟩
   ·by_cases dx:k=i
    ·subst dx;simp only[av];rw[ad]at ap;injection ap with ap
     subst ap;exact jp
    ·simp only[an dx];exact ap
 ·intro j k c ac ak;exact af.inj j k c (cv j c ac) (cv k c ak)
 ·intro j ac;by_cases fU:j=i
  ·subst fU;have au:r.valOf (.bool true)=r.valOf (.bool false):=by
    rcases Up (af.out j ac) tl with⟨v,e,z,xs,h⟩|⟨v,e,z,xs,h⟩ <;>
     (rw[h]at zg
      have aa:=congrFun zg (.bool true);have ab:=congrFun zg (.bool false);exact aa.trans ab.symm)
   simp only[av];cases r<;>first|rfl|(simp[ae.valOf]at au;done)
  ·simp only[an fU];exact af.out j ac
 ·intro j k cb;have zeh:(s j).refs k=true:=by
   by_cases ac:j=i
   ·subst ac;simp only[av]at cb;have:=np cb;rw[zf]at this;cases this
   ·simpa only[an ac]using cb
  have:=af.wf j k zeh;by_cases ak:k=i
  ·simp only[av ak];exact zf
  ·simp only[an ak];exact this
def Rel.forget{s':aj}(af:Rel S0 w0 n s a w)(h:∀i,s' i=s i\/s' i=.dead)(qS:∀i j,(s' i).refs j=true->s' j=s j):Rel S0 w0 n s' a w:=by
 have cv:∀j c,bl (s' j) (aL a j)=some c->bl (s j) (aL a j)=some c:=by
  intro j c ap;rcases h j with e|e<;>rw[e]at ap
  ·exact ap
  ·cases ap
 have dg:∀c,bO S0 w0.heap.size w s (aL a) c->bO S0 w0.heap.size w s' (aL a) c:=fun c ap=>⟨ap.1,ap.2.1,fun j ac=>ap.2.2 j (cv j c ac)⟩
 refine⟨af.defers,af.size,af.below,af.lt,fun i=>?_,fun i j b ah ac=>af.inj i j b (cv i b ah) (cv j b ac),fun i ah=>?_,fun i j cV=>?_,af.n6⟩
 ·rcases h i with e|e
  ·rw[e];refine(af.rep i).mono dg (fun _ _=>rfl) (fun _ _=>rfl) (fun k ak=>?_) ?_;have:=qS i k (by rw[e];exact ae.qL ak);exact⟨rfl,fun h=>by rw[this];exact⟨h,rfl,rfl,rfl⟩,fun c ap=>by rw[this];exact ap⟩;exact fun bL off d cs b al cT _=>⟨⟨cs,by rw[qS i bL (by rw[e];exact(ae.pH al).1)];exact cT,rfl⟩,rfl⟩
  ·rw[e];trivial
 ·rcases h i with e|e
  ·rw[e];exact af.out i ah
  ·rw[e];rfl
 ·rw[qS i j cV];rcases h i with e|e<;>rw[e]at cV
  ·exact af.wf i j cV
  ·cases cV
def uG:ae->ae
 |.own _ size xs=>.x (.one (.list size xs))
 |.box cs=>.elem cs
 |a=>a
def kE:ae->ae->ae
 |.box cs,.ptr _ off=>.elem (cs.drop off)
 |.box cs,.df f [.inr (_,0)]=>.x (.one (.jQ f [.ref cs]))
 |_,_=>.dead
def DG(a x:ae):kE a x=.dead\/(∃cs i off,a=.box cs/\x=.ptr i off/\kE a x=.elem (cs.drop off))\/∃cs f i,a=.box cs/\x=.df f [.inr (i,0)]/\kE a x=.x (.one (.jQ f [.ref cs])):=by
 unfold kE;split
 ·exact .inr (.inl ⟨_,_,_,rfl,rfl,rfl⟩)
 ·exact .inr (.inr ⟨_,_,_,rfl,rfl,rfl⟩)
 ·exact .inl rfl
def OB(a x:ae):(kE a x).aR=false:=by rcases DG a x with e|⟨_,_,_,_,_,e⟩|⟨_,_,_,_,_,e⟩<;>rw[e]<;>rfl
def DH(a x:ae)(j:Nat):(kE a x).refs j=false:=by rcases DG a x with e|⟨_,_,_,_,_,e⟩|⟨_,_,_,_,_,e⟩<;>rw[e]<;>rfl
def zei{a:ae}(x:ae)(h:∀cs,a≠.box cs):kE a x=.dead:=by
 rcases DG a x with e|⟨cs,_,_,e,_⟩|⟨cs,_,_,e,_⟩
 ·exact e
 ·exact absurd e (h cs)
 ·exact absurd e (h cs)
def zej(a:ae){x:ae}(h:x.apart=true):(kE a x).apart=true:=by
 rcases DG a x with e|⟨_,_,_,_,e,_⟩|⟨_,_,_,_,e,_⟩
 ·rw[e];rfl
 ·rw[e]at h;cases h
 ·rw[e]at h;cases h
def freeze(s:aj)(i:Nat):aj:=fun j=>if j=i then uG (s i)else if (s j).refs i then kE (s i) (s j)else s j
def A4{S:Nat->Prop}{B e size:Nat}{v:aI}{xs:List (List ag)}{us:List aI}(bB:w.iM B e size v xs.length us)(al:cO w S xs.flatten us)(ai:∀x∈xs,x.length=size)(hm:xs.length<=maxLen)
  (bS:∀b,v.ownBlock=some b->S b):bD w S (.list size xs) v:=by
 rcases bB.2 with⟨rfl,a1⟩|⟨g,cap,bN,aF,ad,bo,aX,ht,eD,bv⟩
 ·have:xs=[]:=n5 a1;subst this;exact .mF _ _ _ (by simp) (fun _=>rfl)
 ·have cv:v.ownBlock=some g:=by rw[aF];rfl
  subst aF;refine .list ⟨g,0,none⟩ cap size xs (fun j=>us.getD j undef) (bS g cv) rfl aX ht ai (fun j c ac=>?_) (fun j c ac=>?_)
  ·obtain⟨u,hu,_⟩:=al.2 j c ac;have:=bB.cells cv j u hu;rw[this,lF,hu];rfl
  ·obtain⟨u,hu,ao⟩:=al.2 j c ac;simp only[lF,hu,oa];exact ao
def A5{S:Nat->Prop}{b:Nat}{b3:Array aI}{t:aP}{cs:List ag}(bo:w.heap[b]?=some (.cells b3 t (0,0)))(al:cO w S cs b3.toList):∀(off j:Nat) (c:ag),(cs.drop off)[j]?=some c->∃u,w.cell? ((⟨b,off,none⟩:Addr).add j)=some u/\bD w S c u:=by intro off j c ac;rw[js]at ac;obtain⟨u,hu,ao⟩:=al.2 _ c ac;refine⟨u,?_,ao⟩;rw[n7,cell_of_row w b (off+j) b3 t (0,0) bo];simpa using hu
def Rel.freeze{i:Nat}(af:Rel S0 w0 n s a w)(ah:(∃e size xs,s i=.own e size xs)\/∃cs,s i=.box cs):Rel S0 w0 n (Ab.freeze s i) a w:=by
 have hU:(Ab.freeze s i i).aR=false/\∀j,(Ab.freeze s i i).refs j=false:=by rcases ah with⟨e,size,xs,ah⟩|⟨cs,ah⟩<;>simp[Ab.freeze,ah,uG,ae.aR,ae.refs]
 have vU:∀j,j≠i->Ab.freeze s i j=s j\/((s j).refs i=true/\Ab.freeze s i j=kE (s i) (s j)):=by
  intro j ac;unfold Ab.freeze;by_cases ao:(s j).refs i=true
  ·exact .inr ⟨ao,by simp[ac,ao]⟩
  ·exact .inl (by simp[ac,ao])
 have cv:∀j c,bl (Ab.freeze s i j) (aL a j)=some c->j≠i/\bl (s j) (aL a j)=some c:=by
  intro j c ap;by_cases ac:j=i
  ·subst ac;rw[ks hU.1]at ap;cases ap
  ·rcases vU j ac with e|⟨_,e⟩<;>rw[e]at ap
   ·exact⟨ac,ap⟩
   ·rw[ks (OB _ _)]at ap;cases ap
 have dg:∀c,bO S0 w0.heap.size w s (aL a) c->bO S0 w0.heap.size w (Ab.freeze s i) (aL a) c:=fun c ap=>⟨ap.1,ap.2.1,fun j ac=>ap.2.2 j (cv j c ac).2⟩
 refine⟨af.defers,af.size,af.below,af.lt,fun j=>?_,fun j k b ac ak=>af.inj j k b (cv j b ac).2 (cv k b ak).2,fun j ac=>?_,fun j k cb=>?_,af.n6⟩
 ·by_cases ac:j=i
  ·subst ac;have h:=af.rep j;rcases ah with⟨e,size,xs,ah⟩|⟨cs,ah⟩
   ·have tn:Ab.freeze s j j=.x (.one (.list size xs)):=by simp[Ab.freeze,ah,uG]
    rw[tn];rw[ah]at h;obtain⟨us,bB,al,ai,hm,cY⟩:=h;refine A4 bB (al.mono dg (fun _ _=>rfl)) ai hm (fun b ad=>?_);have ar:=bB.lt b ad;refine⟨.inr (cY b ad),ar.2,fun k ak=>?_⟩;obtain⟨kF,rY⟩:=cv k b ak;exact kF (af.inj k j b rY (by rw[ah];exact ad))
   ·have tn:Ab.freeze s j j=.elem cs:=by simp[Ab.freeze,ah,uG]
    rw[tn];rw[ah]at h;obtain⟨b,b3,t,aF,bo,al,cY⟩:=h;refine⟨⟨b,0,none⟩,aF,rfl,⟨.inr cY,(jb.1 bo).1,fun k ak=>?_⟩,fun mb c gm=>?_⟩
    ·obtain⟨kF,rY⟩:=cv k b ak;exact kF (af.inj k j b rY (by rw[ah,aF];rfl))
    ·obtain⟨u,hu,ao⟩:=A5 bo al 0 mb c (by simpa using gm);exact⟨u,hu,bD.mono ao dg (fun _ _=>rfl)⟩
  ·rcases vU j ac with e|⟨mc,e⟩
   ·rw[e];have bB:∀k,(s j).refs k=true->(s k).aR=true->Ab.freeze s i k=s k:=by
     intro k cb aB;have eK:k≠i:=by
      rintro rfl;have cg:kE (s k) (s j)=s j:=by have cg:=e;unfold Ab.freeze at cg;simpa[ac,cb]using cg
      have ab:=DH (s k) (s j) k;rw[cg,cb]at ab;cases ab
     rcases vU k eK with cg|⟨ao,_⟩
     ·exact cg
     ·rw[np ao]at aB;cases aB
    refine(af.rep j).mono dg (fun _ _=>rfl) (fun _ _=>rfl) (fun k ak=>?_) (fun bL off d cs b al cT _=>⟨⟨cs,by rw[bB bL (ae.pH al).1 (ae.o0 cT)];exact cT,rfl⟩,rfl⟩);have eK:k≠i:=by
     rintro rfl;have:=ae.qL ak;have cg:kE (s k) (s j)=s j:=by have cg:=e;unfold Ab.freeze at cg;simpa[ac,this]using cg
     have ab:=DH (s k) (s j) k;rw[cg,this]at ab;cases ab
    have bB:(s k).aR=true->Ab.freeze s i k=s k:=by
     intro aB;rcases vU k eK with cg|⟨ao,_⟩
     ·exact cg
     ·rw[np ao]at aB;cases aB
    refine⟨rfl,fun h=>by rw[bB h];exact⟨h,rfl,rfl,rfl⟩,fun c ap=>?_⟩;have aB:(s k).aR=true:=by
     cases h:(s k).aR with
     |true=>rfl
     |false=>rw[ks h]at ap;cases ap
    rw[bB aB];exact ap
   ·rw[e];rcases DG (s i) (s j)with aK|⟨cs,bL,off,ob,qR,aK⟩|⟨cs,f,bL,ob,qR,aK⟩
    ·rw[aK];trivial
    ·rw[aK];have xo:bL=i:=by rw[qR]at mc;simpa[ae.refs]using mc
     subst xo;have am:=af.rep j;rw[qR]at am;obtain⟨v_,v',eJ⟩:=am;have l9:=af.rep bL;rw[ob]at l9;obtain⟨b,b3,t,aF,bo,al,cY⟩:=l9;have ew:b=v_:=by have OC:aL a bL=.pointer (some ⟨b,0,none⟩):=aF;rw[ob,OC]at eJ;have:some b=some v_:=eJ;injection this
     subst ew;refine⟨⟨b,off,none⟩,v',rfl,⟨.inr cY,(jb.1 bo).1,fun k ak=>?_⟩,fun mb c gm=>?_⟩
     ·obtain⟨kF,rY⟩:=cv k b ak;exact kF (af.inj k bL b rY (by rw[ob];exact(by rw[show aL a bL=.pointer (some ⟨b,0,none⟩)from aF];rfl)))
     ·obtain⟨u,hu,ao⟩:=A5 bo al off mb c gm;exact⟨u,hu,bD.mono ao dg (fun _ _=>rfl)⟩
    ·rw[aK];have xo:bL=i:=by rw[qR]at mc;simpa[ae.refs,l5]using mc
     subst xo;have am:=af.rep j;rw[qR]at am;obtain⟨us,v',cB,hA⟩:=am;obtain⟨u,hu,v_,A6,eJ⟩:=hA 0 (.inr (bL,0)) rfl;have l9:=af.rep bL;rw[ob]at l9;obtain⟨b,b3,t,aF,bo,al,cY⟩:=l9;have ew:b=v_:=by have OC:aL a bL=.pointer (some ⟨b,0,none⟩):=aF;rw[ob,OC]at eJ;have:some b=some v_:=eJ;injection this
     subst ew;have nv:us=#[u]:=by
      have aa:us.size=1:=cB;apply Array.ext
      ·simp[aa]
      ·intro k dd ny;have ak:k=0:=by omega
       subst ak;have:=(jb.1 hu).2;simpa using this
     have rZ:bD w (bO S0 w0.heap.size w (Ab.freeze s bL) (aL a)) (.ref cs) u:=by
      rw[A6];refine .ref ⟨b,0,none⟩ cs (fun mb=>(w.cell? ((⟨b,0,none⟩:Addr).add mb)).getD undef) ⟨.inr cY,(jb.1 bo).1,fun k ak=>?_⟩ rfl (fun mb c gm=>?_) (fun mb c gm=>?_)
      ·obtain⟨kF,rY⟩:=cv k b ak;exact kF (af.inj k bL b rY (by rw[ob];exact(by rw[show aL a bL=.pointer (some ⟨b,0,none⟩)from aF];rfl)))
      ·obtain⟨o5,iz,_⟩:=A5 bo al 0 mb c (by simpa using gm);rw[iz];rfl
      ·obtain⟨o5,iz,ao⟩:=A5 bo al 0 mb c (by simpa using gm);rw[iz];exact bD.mono ao dg (fun _ _=>rfl)
     show bD w _ (.jQ f [.ref cs]) (aL a j);rw[show aL a j=.func (.func f) #[] us from v',nv];exact .jQ f [.ref cs] (fun _=>u) (fun mb c gm=>by
      cases mb with
      |zero=>simp at gm;subst gm;exact rZ
      |succ mb=>simp at gm)
 ·by_cases fU:j=i
  ·subst fU;have:=af.out j ac;rcases ah with⟨_,_,_,ah⟩|⟨_,ah⟩<;>(rw[ah]at this;cases this)
  ·rcases vU j fU with e|⟨ao,e⟩
   ·rw[e];exact af.out j ac
   ·rw[e];exact zej _ (af.out j ac)
 ·by_cases ac:j=i
  ·subst ac;rw[hU.2]at cb;cases cb
  ·rcases vU j ac with e|⟨_,e⟩
   ·rw[e]at cb;have fV:=af.wf j k cb;have eK:k≠i:=by
     rintro rfl;have:Ab.freeze s k j=kE (s k) (s j):=by unfold Ab.freeze;simp[ac,cb]
     have ab:=DH (s k) (s j) k;rw[<-this,e,cb]at ab;cases ab
    rcases vU k eK with cg|⟨ao,_⟩
    ·rw[cg];exact fV
    ·rw[np ao]at fV;cases fV
   ·rw[e,DH]at cb;cases cb
def Rel.take{i d:Nat}{r:ae}{v:aI}{w':bb}(af:Rel S0 w0 n s a w)(aA:S0.m<=d/\d<n)(ah:(s i).aR=true)
  (ay:w.grownBy w' (bl (s i) (aL a i)))
  (jp:∀b,bl r v=some b->bl (s i) (aL a i)=some b\/w.heap.size<=b)
  (qS:∀j,r.refs j=false)
  (ao:∀(s':aj) (tm':Nat->aI) (S:Nat->Prop),(∀c,bO S0 w0.heap.size w s (aL a) c->S c)->dp w' S (nq S0 w0.heap.size) s' tm' r v) :
  Rel S0 w0 n (Ab.put (Ab.put s i .dead) d r) (a.put (some d) v) w':=by
 have lA:d<a.tmps.size:=by rw[af.size];exact aA.2
 have pJ:∀j,j≠d->aL (a.put (some d) v) j=aL a j:=fun j ac=>by rw[xj a d v lA,an ac]
 have y2:aL (a.put (some d) v) d=v:=by rw[xj a d v lA,av rfl]
 have zek:Ab.put s i .dead i=.dead:=jR rfl;have aa:∀j,Ab.put s i .dead j=s j/\j≠i/\(s j).refs i=false\/Ab.put s i .dead j=.dead:=by
  intro j;by_cases ac:j=i
  ·subst ac;exact .inr zek
  ·cases ao:(s j).refs i with
   |true=>refine .inr ?_;unfold Ab.put;rw[ah];simp[ac,ao]
   |false=>exact .inl ⟨Dj ac ao,ac,rfl⟩
 have U9:Ab.put (Ab.put s i .dead) d r d=r:=jR (qS d);have ab:∀j,j≠d->(Ab.put (Ab.put s i .dead) d r j=s j/\j≠i/\(s j).refs i=false/\((s d).aR=true->d≠i->(s j).refs d=false))\/Ab.put (Ab.put s i .dead) d r j=.dead:=by
  intro j ac;rcases qM (s:=Ab.put s i .dead) (v:=r) ac with e|⟨_,_,e⟩
  ·rcases aa j with⟨ax,fU,mc⟩|ax
   ·by_cases jx:(s d).aR=true/\d≠i
    ·cases l7:(s j).refs d with
     |false=>exact .inl ⟨by rw[e,ax],fU,mc,fun _ _=>rfl⟩
     |true=>
      refine .inr ?_;have Kd:(Ab.put s i .dead d).aR=true:=by rw[o2 jx.2 jx.1];exact jx.1
      exact Di ac Kd (by rw[ax];exact l7)
    ·exact .inl ⟨by rw[e,ax],fU,mc,fun a b=>absurd ⟨a,b⟩ jx⟩
   ·exact .inr (by rw[e,ax])
  ·exact .inr e
 have cv:∀j b,bl (Ab.put (Ab.put s i .dead) d r j) (aL (a.put (some d) v) j)=some b->(j=d/\bl r v=some b)\/(j≠d/\j≠i/\bl (s j) (aL a j)=some b):=by
  intro j b ad;by_cases ac:j=d
  ·subst ac;rw[y2,U9]at ad;exact .inl ⟨rfl,ad⟩
  ·rw[pJ j ac]at ad;rcases ab j ac with⟨e,fU,_⟩|e<;>rw[e]at ad
   ·exact .inr ⟨ac,fU,ad⟩
   ·cases ad
 have hold:∀c,bO S0 w0.heap.size w s (aL a) c->w'.heap[c]?=w.heap[c]?:=fun c ap=>ay.block c ap.2.1 (fun e=>ap.2.2 i e.symm);have dg:∀c,bO S0 w0.heap.size w s (aL a) c->bO S0 w0.heap.size w' (Ab.put (Ab.put s i .dead) d r) (aL (a.put (some d) v)) c:=by
  intro c ap;refine⟨ap.1,s9 ap.2.1 ay.size,fun j ac=>?_⟩;rcases cv j c ac with⟨_,h⟩|⟨_,_,h⟩
  ·rcases jp c h with bx|bx
   ·exact ap.2.2 i bx
   ·have:=ap.2.1;omega
  ·exact ap.2.2 j h
 refine⟨af.defers,by simp[Act.put,af.size],?_,af.lt,?_,?_,?_,fT (fT af.wf (fun j h=>by cases h)) (fun j h=>by rw[qS j]at h;cases h),fun j ac=>by rw[pJ j (by omega)];exact af.n6 j ac⟩
 ·exact af.below.grown ay (fun k ak=>((af.rep i).gU ak).1)
 ·intro j;by_cases ac:j=d
  ·subst ac;rw[y2,U9];exact ao _ _ _ dg
  ·rw[pJ j ac];rcases ab j ac with⟨e,fU,mc,l7⟩|e
   ·rw[e];have hd:∀k,(s j).refs k=true->(s k).aR=true->k≠i/\Ab.put (Ab.put s i .dead) d r k=s k:=by
     intro k qK fV;have eK:k≠i:=by rintro rfl;rw[qK]at mc;cases mc
     have tp:k≠d:=by rintro rfl;rw[l7 fV eK]at qK;cases qK
     refine⟨eK,?_⟩;have au:Ab.put s i .dead k=s k:=o2 eK fV;have aN:Ab.put (Ab.put s i .dead) d r k=Ab.put s i .dead k:=o2 tp (by rw[au];exact fV);rw[aN,au]
    refine(af.rep j).mono dg hold (fun c ap=>?_) (fun k ak=>?_) (fun bL off bG cs b al cT cm=>?_)
    rotate_right
    ·obtain⟨aE,aQ⟩:=hd bL (ae.pH al).1 (ae.o0 cT);exact⟨⟨cs,by rw[aQ];exact cT,rfl⟩,World.cell?_of_block (ay.block b ((af.rep bL).gU cm).2 (fun h=>aE (af.inj bL i b cm h.symm)))⟩
    ·exact ay.block c ((af.rep j).gU ap).2 (fun h=>fU (af.inj j i c ap h.symm))
    ·have qK:=ae.qL ak;have eK:k≠i:=by rintro rfl;rw[qK]at mc;cases mc
     have fV:=(af.rep j).leads ak;have tp:k≠d:=by rintro rfl;rw[l7 fV eK]at qK;cases qK
     have hd:=(hd k qK fV).2;exact⟨pJ k tp,fun h=>by rw[hd];exact⟨h,rfl,rfl,rfl⟩,fun c ap=>by rw[hd];exact ap⟩
   ·rw[e];trivial
 ·intro j k b ac ak;rcases cv j b ac with⟨gm,au⟩|⟨gm,fU,au⟩<;>rcases cv k b ak with⟨dx,aN⟩|⟨dx,eK,aN⟩
  ·rw[gm,dx]
  ·exfalso;rcases jp b au with bE|bE
   ·exact eK (af.inj k i b aN bE)
   ·have:=((af.rep k).gU aN).2;omega
  ·exfalso;rcases jp b aN with bE|bE
   ·exact fU (af.inj j i b au bE)
   ·have:=((af.rep j).gU au).2;omega
  ·exact af.inj j k b au aN
 ·intro j ac;have l7:j≠d:=by omega
  rcases ab j l7 with⟨e,_⟩|e
  ·rw[e];exact af.out j ac
  ·rw[e];rfl
def r0(s:aj)(j g:Nat)(v:aI)(e z:Nat)(xs:List (List ag)):aj:=fun k=>if k=j then .x (.one (.atom v))else if k=g then .db v e z xs else if (s k).refs j then .dead else s k
def Rel.name{j g e z:Nat}{xs:List (List ag)}(af:Rel S0 w0 n s a w)(ac:s j=.own e z xs)(aX:n<=g)(ay:(s g).free=true):Rel S0 w0 n (r0 s j g (aL a j) e z xs) a w:=by
 have iA:g≠j:=by rintro rfl;rw[ac]at ay;cases ay
 have fQ:j<n:=by
  rcases mH j n with h|h
  ·exact h
  ·have:=af.out j h;rw[ac]at this;cases this
 have bF:∀k,r0 s j g (aL a j) e z xs k=if k=j then .x (.one (.atom (aL a j)))else if k=g then .db (aL a j) e z xs else if (s k).refs j then .dead else s k:=fun _=>rfl
 generalize r0 s j g (aL a j) e z xs=S at bF;have uH:S j=.x (.one (.atom (aL a j))):=by rw[bF,av rfl]
 have qT:S g=.db (aL a j) e z xs:=by rw[bF,an iA,av rfl]
 have mM:∀k,k≠j->k≠g->S k=.dead\/S k=s k:=by
  intro k aa ab;rw[bF,an aa,an ab];split
  ·exact .inl rfl
  ·exact .inr rfl
 have bB:∀k,(s k).aR=true->k≠j->k≠g/\S k=s k:=by
  intro k ak aa;have ab:k≠g:=by rintro rfl;rw[yY ay]at ak;cases ak
  refine⟨ab,?_⟩;rw[bF,an aa,an ab,an];intro ao;rw[np ao]at ak;cases ak
 have cv:∀k b,bl (S k) (aL a k)=some b->(k=g/\bl (s j) (aL a j)=some b)\/(k≠g/\k≠j/\bl (s k) (aL a k)=some b):=by
  intro k b ad;by_cases aa:k=j
  ·subst aa;rw[uH]at ad;cases ad
  ·by_cases ab:k=g
   ·subst ab;rw[qT]at ad;rw[ac];exact .inl ⟨rfl,ad⟩
   ·rcases mM k aa ab with h|h<;>rw[h]at ad
    ·cases ad
    ·exact .inr ⟨ab,aa,ad⟩
 have dg:∀c,bO S0 w0.heap.size w s (aL a) c->bO S0 w0.heap.size w S (aL a) c:=by
  intro c ap;refine⟨ap.1,ap.2.1,fun k ak=>?_⟩;rcases cv k c ak with⟨_,h⟩|⟨_,_,h⟩
  ·exact ap.2.2 j h
  ·exact ap.2.2 k h
 have GU:=af.rep j;rw[ac]at GU;obtain⟨us,aB,al,ai,hm,bk⟩:=GU;refine⟨af.defers,af.size,af.below,af.lt,fun k=>?_,fun k m b ak eh=>?_,fun k ak=>?_,fun k m eR=>?_,af.n6⟩
 ·by_cases aa:k=j
  ·subst aa;rw[uH];refine bD.atom _ ?_;rcases aB.2 with⟨h,_⟩|⟨_,_,_,h,_⟩<;>rw[h]<;>rfl
  ·by_cases ab:k=g
   ·subst ab;rw[qT];exact⟨us,aB,al.mono dg (fun _ _=>rfl),ai,hm,bk⟩
   ·rcases mM k aa ab with h|h
    ·rw[h];trivial
    ·rw[h];have rZ:∀m,(s k).refs m=true->(s m).aR=true/\S m=s m:=by
      intro m eh;have h2:=af.wf k m eh;have fW:m≠j:=by
       rintro rfl;have:S k=.dead:=by rw[bF,an aa,an ab,av eh]
       rw[h]at this;rw[this]at eh;cases eh
      exact⟨h2,(bB m h2 fW).2⟩
     refine(af.rep k).mono dg (fun _ _=>rfl) (fun _ _=>rfl) (fun m eh=>?_) (fun bL off bG cs b dK cT _=>?_)
     ·have:=(rZ m (ae.qL eh)).2;exact⟨rfl,fun h=>by rw[this];exact⟨h,rfl,rfl,rfl⟩,fun c ap=>by rw[this];exact ap⟩
     ·exact⟨⟨cs,by rw[(rZ bL (ae.pH dK).1).2];exact cT,rfl⟩,rfl⟩
 ·rcases cv k b ak with⟨aa,ab⟩|⟨aa,dd,ab⟩<;>rcases cv m b eh with⟨au,aN⟩|⟨au,zh,aN⟩
  ·rw[aa,au]
  ·exact absurd (af.inj m j b aN ab) zh
  ·exact absurd (af.inj k j b ab aN) dd
  ·exact af.inj k m b ab aN
 ·by_cases aa:k=j
  ·omega
  ·by_cases ab:k=g
   ·subst ab;rw[qT];rfl
   ·rcases mM k aa ab with h|h<;>rw[h]
    ·rfl
    ·exact af.out k ak
 ·by_cases aa:k=j
  ·subst aa;rw[uH]at eR;cases eR
  ·by_cases ab:k=g
   ·subst ab;rw[qT]at eR;cases eR
   ·have dx:(s k).refs m=true/\S k=s k:=by
     rcases mM k aa ab with h|h<;>rw[h]at eR
     ·cases eR
     ·exact⟨eR,h⟩
    have h2:=af.wf k m dx.1;have fW:m≠j:=by
     rintro rfl;have:S k=.dead:=by rw[bF,an aa,an ab,av dx.1]
     rw[this]at eR;cases eR
    rw[(bB m h2 fW).2];exact h2
def ae.nz:ae->Bool
 |.db _ _ _ _=>true
 |_=>false
def wa(s:aj):ae->Bool
 |.ptr i _=>(s i).nz
 |.et i _=>(s i).nz
 |.fy i _ _=>(s i).nz
 |.alias i=>(s i).nz
 |.view i _ _ _=>(s i).nz
 |.df _ _=>true
 |.cond _ v=>wa s v
 |.link i _ d=>(s i).nz ||(s d).nz
 |_=>false
def OD{m:Nat}(hm:(s m).nz=true):∀{v:ae},v.refs m=true->wa s v=true
 |.ptr i _,h=>by obtain rfl:i=m:=by simpa[ae.refs]using h
                 exact hm
 |.et i _,h=>by obtain rfl:i=m:=by simpa[ae.refs]using h
                exact hm
 |.fy i _ _,h=>by obtain rfl:i=m:=by simpa[ae.refs]using h
                  exact hm
 |.alias i,h=>by obtain rfl:i=m:=by simpa[ae.refs]using h
                 exact hm
 |.view i _ _ _,h=>by obtain rfl:i=m:=by simpa[ae.refs]using h
                      exact hm
 |.df _ _,_=>rfl
 |.cond _ v,h=>OD hm (v:=v) h
 |.link i _ d,h=>by
  simp only[ae.refs,gl,fc]at h;rcases h with rfl|rfl
  ·simp[wa,hm]
  ·simp[wa,hm]
def xp(s:aj)(i:Nat)(c:Nat)(bs:List Nat)(es:List (aG×aG)):aj:=fun k=>if k=i then .mp c bs es else if (s k).nz ||wa s (s k)then .dead else s k
def Ke(s:aj)(es jg:List (aG×aG)):Prop:=jg.length=es.length/\∀(j:Nat) (x y:aG×aG),es[j]?=some x->jg[j]?=some y->x.1=y.1/\(x.2=y.2\/∃v g e z xs,x.2=.one (.atom v)/\s g=.db v e z xs/\y.2=.one (.list z xs))
def U_(c c':Nat)(bs OE:List Nat)(es jg:List (aG×aG))(v:aI):bl (.mp c bs es) v=bl (.mp c' OE jg) v:=by
 cases v with
 |map r=>cases r<;>rfl
 |_=>rfl
def Rel.xp{i c:Nat}{bs:List Nat}{es jg:List (aG×aG)}(af:Rel S0 w0 n s a w)(ah:s i=.mp c bs es)(he:Ke s es jg):Rel S0 w0 n (xp s i c bs jg) a w:=by
 have bF:∀k,Ab.xp s i c bs jg k=if k=i then .mp c bs jg else if (s k).nz ||wa s (s k)then .dead else s k:=fun _=>rfl
 generalize Ab.xp s i c bs jg=S at bF;have GV:S i=.mp c bs jg:=by rw[bF,av rfl]
 have mM:∀k,k≠i->S k=.dead\/((s k).nz=false/\wa s (s k)=false/\S k=s k):=by
  intro k aa;rw[bF,an aa];cases ab:(s k).nz with
  |true=>exact .inl (by simp)
  |false=>
   cases au:wa s (s k)with
   |true=>exact .inl (by simp)
   |false=>exact .inr ⟨rfl,rfl,by simp⟩
 have cv:∀k b,bl (S k) (aL a k)=some b->(s k).nz=false/\bl (s k) (aL a k)=some b:=by
  intro k b ad;by_cases aa:k=i
  ·subst aa;rw[GV]at ad;rw[ah];exact⟨rfl,by rw[U_ c c bs bs es jg];exact ad⟩
  ·rcases mM k aa with h|⟨ab,_,h⟩<;>rw[h]at ad
   ·cases ad
   ·exact⟨ab,ad⟩
 have dg:∀c,bO S0 w0.heap.size w s (aL a) c->bO S0 w0.heap.size w S (aL a) c:=fun c ap=>⟨ap.1,ap.2.1,fun k ak=>ap.2.2 k (cv k c ak).2⟩
 have rR:∀m,(s m).aR=true->(s m).nz=false->m≠i->S m=s m:=by
  intro m h2 A7 h3;rw[bF,an h3,A7];have:wa s (s m)=false:=by cases h:s m<;>rw[h]at h2<;>first|rfl|cases h2
  simp[this]
 refine⟨af.defers,af.size,af.below,af.lt,fun k=>?_,fun k m b ak eh=>af.inj k m b (cv k b ak).2 (cv m b eh).2,fun k ak=>?_,fun k m eR=>?_,af.n6⟩
 ·by_cases aa:k=i
  ·subst aa;rw[GV];have ao:=af.rep k;rw[ah]at ao;obtain⟨b,ents,aF,bo,bk,eW⟩:=ao;refine⟨b,ents,aF,bo,bk,eW.1.trans he.1.symm,eW.2.1.trans he.1.symm,fun j y ac=>?_⟩;have ar:j<es.length:=by rw[<-he.1];exact(eQ.1 ac).1
   obtain⟨x,ai⟩:∃x,es[j]?=some x:=⟨_,cr ar⟩
   obtain⟨m,aE,aQ,bf,bM⟩:=eW.2.2 j x ai;obtain⟨ax,aK⟩:=he.2 j x y ai ac;refine⟨m,aE,aQ,by rw[<-ax];exact cz.mono bf dg (fun _ _=>rfl),?_⟩;rcases aK with aK|⟨v,g,e,z,xs,aK,cd,fI⟩
   ·rw[<-aK];exact cz.mono bM dg (fun _ _=>rfl)
   ·rw[fI];rw[aK]at bM;have bM:bD w _ (.atom v) m.val:=bM;have ev:m.val=v:=by cases bM;rfl
    rw[ev];have ay:=af.rep g;rw[cd]at ay;obtain⟨us,aB,al,ai,hm,jh⟩:=ay;refine A4 aB (al.mono dg (fun _ _=>rfl)) ai hm (fun b ad=>⟨.inr (jh b ad),(aB.lt b ad).2,fun cq dx=>?_⟩);obtain⟨ab,au⟩:=cv cq b dx;have:=af.inj cq g b au (by rw[cd];exact ad);subst this;rw[cd]at ab;cases ab
  ·rcases mM k aa with h|⟨ab,au,h⟩
   ·rw[h];trivial
   ·rw[h];have rZ:∀m,(s k).refs m=true->((∀x,S m=.mp c bs x->m=i->(s m).aR=true)/\(m=i\/S m=s m)):=by
     intro m eh;refine⟨fun _ _ _=>af.wf k m eh,?_⟩;by_cases h3:m=i
     ·exact .inl h3
     ·refine .inr (rR m (af.wf k m eh) ?_ h3);cases dN:(s m).nz with
      |false=>rfl
      |true=>rw[OD dN eh]at au;cases au
    refine(af.rep k).mono dg (fun _ _=>rfl) (fun _ _=>rfl) (fun m eh=>?_) (fun bL off bG cs b dK cT _=>?_)
    ·rcases (rZ m (ae.qL eh)).2 with e|e
     ·subst e;rw[GV,ah];exact⟨rfl,fun _=>⟨rfl,rfl,rfl,rfl⟩,fun c' ap=>by rw[U_ c c bs bs jg es];exact ap⟩
     ·exact⟨rfl,fun h=>by rw[e];exact⟨h,rfl,rfl,rfl⟩,fun c ap=>by rw[e];exact ap⟩
    ·rcases (rZ bL (ae.pH dK).1).2 with e|e
     ·subst e;rw[ah]at cT;cases cT
     ·exact⟨⟨cs,by rw[e];exact cT,rfl⟩,rfl⟩
 ·by_cases aa:k=i
  ·subst aa;have:=af.out k ak;rw[ah]at this;cases this
  ·rcases mM k aa with h|⟨_,_,h⟩<;>rw[h]
   ·rfl
   ·exact af.out k ak
 ·by_cases aa:k=i
  ·subst aa;rw[GV]at eR;cases eR
  ·rcases mM k aa with h|⟨_,au,h⟩<;>rw[h]at eR
   ·cases eR
   ·have h2:=af.wf k m eR;by_cases h3:m=i
    ·subst h3;rw[GV];rfl
    ·rw[rR m h2 (by cases dN:(s m).nz with
      |false=>rfl
      |true=>rw[OD dN eR]at au;cases au) h3]
     exact h2
def r1(s:aj)(j g e z:Nat)(xs:List (List ag)):aj:=fun k=>if k=j then .own e z xs else if k=g then .dead else if (s k).refs g then .dead else s k
def Rel.zel{j g e z:Nat}{v:aI}{xs:List (List ag)}(af:Rel S0 w0 n s a w)(ac:s j=.x (.one (.atom v)))(ay:s g=.db v e z xs):Rel S0 w0 n (r1 s j g e z xs) a w:=by
 have iA:g≠j:=by rintro rfl;rw[ac]at ay;cases ay
 have fQ:j<n:=by
  rcases mH j n with h|h
  ·exact h
  ·have:=af.out j h;rw[ac]at this;cases this
 have aF:aL a j=v:=by have h:=af.rep j;rw[ac]at h;have h:bD w _ (.atom v) (aL a j):=h;generalize aL a j=u at h;cases h;rfl
 have bF:∀k,r1 s j g e z xs k=if k=j then .own e z xs else if k=g then .dead else if (s k).refs g then .dead else s k:=fun _=>rfl
 generalize r1 s j g e z xs=S at bF;have uH:S j=.own e z xs:=by rw[bF,av rfl]
 have qT:S g=.dead:=by rw[bF,an iA,av rfl]
 have mM:∀k,k≠j->k≠g->S k=.dead\/((s k).refs g=false/\S k=s k):=by
  intro k aa ab;rw[bF,an aa,an ab];cases h:(s k).refs g with
  |true=>exact .inl (by simp)
  |false=>exact .inr ⟨rfl,by simp⟩
 have bB:∀k,(s k).aR=true->k≠g->k≠j/\S k=s k:=by
  intro k ak aa;have ab:k≠j:=by rintro rfl;rw[ac]at ak;cases ak
  refine⟨ab,?_⟩;rw[bF,an ab,an aa,an];intro ao;rw[np ao]at ak;cases ak
 have cv:∀k b,bl (S k) (aL a k)=some b->(k=j/\bl (s g) (aL a g)=some b)\/(k≠g/\k≠j/\bl (s k) (aL a k)=some b):=by
  intro k b ad;by_cases aa:k=j
  ·subst aa;rw[uH,aF]at ad;rw[ay];exact .inl ⟨rfl,ad⟩
  ·by_cases ab:k=g
   ·subst ab;rw[qT]at ad;cases ad
   ·rcases mM k aa ab with h|⟨_,h⟩<;>rw[h]at ad
    ·cases ad
    ·exact .inr ⟨ab,aa,ad⟩
 have dg:∀c,bO S0 w0.heap.size w s (aL a) c->bO S0 w0.heap.size w S (aL a) c:=by
  intro c ap;refine⟨ap.1,ap.2.1,fun k ak=>?_⟩;rcases cv k c ak with⟨_,h⟩|⟨_,_,h⟩
  ·exact ap.2.2 g h
  ·exact ap.2.2 k h
 have zi:=af.rep g;rw[ay]at zi;obtain⟨us,aB,al,ai,hm,bk⟩:=zi;refine⟨af.defers,af.size,af.below,af.lt,fun k=>?_,fun k m b ak eh=>?_,fun k ak=>?_,fun k m eR=>?_,af.n6⟩
 ·by_cases aa:k=j
  ·subst aa;rw[uH,aF];exact⟨us,aB,al.mono dg (fun _ _=>rfl),ai,hm,bk⟩
  ·by_cases ab:k=g
   ·subst ab;rw[qT];trivial
   ·rcases mM k aa ab with h|⟨au,h⟩
    ·rw[h];trivial
    ·rw[h];have rZ:∀m,(s k).refs m=true->(s m).aR=true/\S m=s m:=by
      intro m eh;have h2:=af.wf k m eh;have A7:m≠g:=by rintro rfl;rw[au]at eh;cases eh
      exact⟨h2,(bB m h2 A7).2⟩
     refine(af.rep k).mono dg (fun _ _=>rfl) (fun _ _=>rfl) (fun m eh=>?_) (fun bL Dh bG cs b dK cT _=>?_)
     ·have:=(rZ m (ae.qL eh)).2;exact⟨rfl,fun h=>by rw[this];exact⟨h,rfl,rfl,rfl⟩,fun c ap=>by rw[this];exact ap⟩
     ·exact⟨⟨cs,by rw[(rZ bL (ae.pH dK).1).2];exact cT,rfl⟩,rfl⟩
 ·rcases cv k b ak with⟨aa,ab⟩|⟨aa,dd,ab⟩<;>rcases cv m b eh with⟨au,aN⟩|⟨au,zh,aN⟩
  ·rw[aa,au]
  ·exact absurd (af.inj m g b aN ab) au
  ·exact absurd (af.inj k g b ab aN) aa
  ·exact af.inj k m b ab aN
 ·by_cases aa:k=j
  ·omega
  ·by_cases ab:k=g
   ·subst ab;rw[qT];rfl
   ·rcases mM k aa ab with h|⟨_,h⟩<;>rw[h]
    ·rfl
    ·exact af.out k ak
 ·by_cases aa:k=j
  ·subst aa;rw[uH]at eR;cases eR
  ·by_cases ab:k=g
   ·subst ab;rw[qT]at eR;cases eR
   ·rcases mM k aa ab with h|⟨au,h⟩<;>rw[h]at eR
    ·cases eR
    ·have h2:=af.wf k m eR;have A7:m≠g:=by rintro rfl;rw[au]at eR;cases eR
     rw[(bB m h2 A7).2];exact h2
def GW(s:aj)(j g b c:Nat)(bs:List Nat)(es:List (aG×aG)):aj:=fun k=>if k=j then .x (.one (.atom (.map (some b))))else if k=g then .gL b c bs es else if (s k).refs j then .dead else s k
def Rel.GX{j g c:Nat}{bs:List Nat}{es:List (aG×aG)}(af:Rel S0 w0 n s a w)(ac:s j=.mp c bs es)(aX:n<=g)(ay:(s g).free=true):∃b,Rel S0 w0 n (GW s j g b c bs es) a w:=by
 have iA:g≠j:=by rintro rfl;rw[ac]at ay;cases ay
 have fQ:j<n:=by
  rcases mH j n with h|h
  ·exact h
  ·have:=af.out j h;rw[ac]at this;cases this
 have GU:=af.rep j;rw[ac]at GU;obtain⟨b,ents,aF,bo,bk,eW⟩:=GU;refine⟨b,?_⟩;have bF:∀k,GW s j g b c bs es k=if k=j then .x (.one (.atom (.map (some b))))else if k=g then .gL b c bs es else if (s k).refs j then .dead else s k:=fun _=>rfl
 generalize GW s j g b c bs es=S at bF;have uH:S j=.x (.one (.atom (.map (some b)))):=by rw[bF,av rfl]
 have qT:S g=.gL b c bs es:=by rw[bF,an iA,av rfl]
 have mM:∀k,k≠j->k≠g->S k=.dead\/S k=s k:=by
  intro k aa ab;rw[bF,an aa,an ab];split
  ·exact .inl rfl
  ·exact .inr rfl
 have bB:∀k,(s k).aR=true->k≠j->k≠g/\S k=s k:=by
  intro k ak aa;have ab:k≠g:=by rintro rfl;rw[yY ay]at ak;cases ak
  refine⟨ab,?_⟩;rw[bF,an aa,an ab,an];intro ao;rw[np ao]at ak;cases ak
 have Gp:bl (s j) (aL a j)=some b:=by rw[ac,aF];rfl
 have cv:∀k br,bl (S k) (aL a k)=some br->(k=g/\bl (s j) (aL a j)=some br)\/(k≠g/\k≠j/\bl (s k) (aL a k)=some br):=by
  intro k br ad;by_cases aa:k=j
  ·subst aa;rw[uH]at ad;cases ad
  ·by_cases ab:k=g
   ·subst ab;rw[qT]at ad;have:b=br:=by simpa[bl]using ad
    subst this;exact .inl ⟨rfl,Gp⟩
   ·rcases mM k aa ab with h|h<;>rw[h]at ad
    ·cases ad
    ·exact .inr ⟨ab,aa,ad⟩
 have dg:∀c,bO S0 w0.heap.size w s (aL a) c->bO S0 w0.heap.size w S (aL a) c:=by
  intro c ap;refine⟨ap.1,ap.2.1,fun k ak=>?_⟩;rcases cv k c ak with⟨_,h⟩|⟨_,_,h⟩
  ·exact ap.2.2 j h
  ·exact ap.2.2 k h
 refine⟨af.defers,af.size,af.below,af.lt,fun k=>?_,fun k m b ak eh=>?_,fun k ak=>?_,fun k m eR=>?_,af.n6⟩
 ·by_cases aa:k=j
  ·subst aa;rw[uH,aF];exact bD.atom _ rfl
  ·by_cases ab:k=g
   ·subst ab;rw[qT];exact⟨ents,bo,bk,eW.mono dg (fun _ _=>rfl)⟩
   ·rcases mM k aa ab with h|h
    ·rw[h];trivial
    ·rw[h];have rZ:∀m,(s k).refs m=true->(s m).aR=true/\S m=s m:=by
      intro m eh;have h2:=af.wf k m eh;have fW:m≠j:=by
       rintro rfl;have:S k=.dead:=by rw[bF,an aa,an ab,av eh]
       rw[h]at this;rw[this]at eh;cases eh
      exact⟨h2,(bB m h2 fW).2⟩
     refine(af.rep k).mono dg (fun _ _=>rfl) (fun _ _=>rfl) (fun m eh=>?_) (fun bL off bG cs b dK cT _=>?_)
     ·have:=(rZ m (ae.qL eh)).2;exact⟨rfl,fun h=>by rw[this];exact⟨h,rfl,rfl,rfl⟩,fun c ap=>by rw[this];exact ap⟩
     ·exact⟨⟨cs,by rw[(rZ bL (ae.pH dK).1).2];exact cT,rfl⟩,rfl⟩
 ·rcases cv k b ak with⟨aa,ab⟩|⟨aa,dd,ab⟩<;>rcases cv m b eh with⟨au,aN⟩|⟨au,zh,aN⟩
  ·rw[aa,au]
  ·exact absurd (af.inj m j b aN ab) zh
  ·exact absurd (af.inj k j b ab aN) dd
  ·exact af.inj k m b ab aN
 ·by_cases aa:k=j
  ·omega
  ·by_cases ab:k=g
   ·subst ab;rw[qT];rfl
   ·rcases mM k aa ab with h|h<;>rw[h]
    ·rfl
    ·exact af.out k ak
 ·by_cases aa:k=j
  ·subst aa;rw[uH]at eR;cases eR
  ·by_cases ab:k=g
   ·subst ab;rw[qT]at eR;cases eR
   ·have dx:(s k).refs m=true/\S k=s k:=by
     rcases mM k aa ab with h|h<;>rw[h]at eR
     ·cases eR
     ·exact⟨eR,h⟩
    have h2:=af.wf k m dx.1;have fW:m≠j:=by
     rintro rfl;have:S k=.dead:=by rw[bF,an aa,an ab,av dx.1]
     rw[this]at eR;cases eR
    rw[(bB m h2 fW).2];exact h2
def partAt(a:Bool)(v:aI)(i:Nat):aI:=match a,v with
 |true,.agg us=>us.getD i v
 |_,v=>v
def Kf{A:Bool}{cs:List ag}{v:aI}{S:Nat->Prop}(h:cz w S (vN A cs) v)(al:A=true\/cs.length=1):JR A ((List.range cs.length).map (partAt A v)) v/\∀(i:Nat) (c:ag),cs[i]?=some c->bD w S c (partAt A v i):=by
 cases A with
 |true=>
  obtain⟨us,rfl,ao⟩:=(h:cz w S (.agg cs) v)
  have cX:us.size=cs.length:=by have:=ao.1;simpa using this
  refine⟨?_,fun i c ap=>?_⟩
  ·show Value.agg us=.agg _;congr 1;apply Array.ext
   ·simp[cX]
   ·intro i aa ab;simp[partAt,aa]
  ·obtain⟨u,hu,tg⟩:=ao.2 i c ap;have:us[i]?=some u:=by simpa using hu
   simp only[partAt,s_,this,oa];exact tg
 |false=>
  obtain⟨c,rfl⟩:=GH.1 (al.resolve_left (by simp));have h:bD w S c v:=h;refine⟨rfl,fun i c' ap=>?_⟩
  match i,ap with
  |0,ap=>cases ap;exact h
  |i+1,ap=>simp at ap
def zem{S:Nat->Prop}{b c:Nat}{bs:List Nat}{ents:Array MapEntry}{gz gT:Bool}{bp vs:List (List ag)}(hs:S b)(bo:w.heap[b]?=some (.map ents c))(he:s7 w S bs (hR gz gT bp vs) ents.toList)(cX:vs.length=bp.length)
  (ak:gz=true\/∀k∈bp,k.length=1)(aF:gT=true\/∀k∈vs,k.length=1):bD w S (.i8 gz gT bp vs) (.map (some b)):=by
 have nx:(hR gz gT bp vs).length=bp.length:=by simp[hR,cX]
 have zen:ents.size=bp.length:=by have:=he.1;rw[nx]at this;simpa using this
 have bF:∀(j:Nat) (k v:List ag),bp[j]?=some k->vs[j]?=some v->∃e,ents.toList[j]?=some e/\cz w S (vN gz k) e.key/\cz w S (vN gT v) e.val:=by
  intro j k v aa ab;obtain⟨e,ax,_,cd,fI⟩:=he.2.2 j (vN gz k,vN gT v) (by
   unfold hR;rw[eZ];have:(bp.zip vs)[j]?=some (k,v):=by rw[List.getElem?_zip_eq_some];exact⟨aa,ab⟩
   rw[this];rfl)
  exact⟨e,ax,cd,fI⟩
 have hd:∀(j:Nat) (k:List ag),bp[j]?=some k->∃e,ents.toList[j]?=some e/\cz w S (vN gz k) e.key:=by intro j k aa;have ac:=(eQ.1 aa).1;obtain⟨e,ax,aK,_⟩:=bF j k _ aa (cr (by omega));exact⟨e,ax,aK⟩
 have gO:∀(j:Nat) (v:List ag),vs[j]?=some v->∃e,ents.toList[j]?=some e/\cz w S (vN gT v) e.val:=by intro j k aa;have ac:=(eQ.1 aa).1;obtain⟨e,ax,_,aK⟩:=bF j _ k (cr (by omega)) aa;exact⟨e,ax,aK⟩
 have wb:∀(j:Nat) (e d:MapEntry),ents.toList[j]?=some e->ents.toList.getD j d=e:=by intro j e d h;rw[lF,h];rfl
 have kG:∀k∈bp,gz=true\/k.length=1:=fun k dx=>ak.imp id (fun h=>h k dx);have tf:∀k∈vs,gT=true\/k.length=1:=fun k dx=>aF.imp id (fun h=>h k dx);refine .i8 b c ents gz gT bp vs (fun j=>partAt gz (ents.toList.getD j ⟨undef,undef,0⟩).key) (fun j=>partAt gT (ents.toList.getD j ⟨undef,undef,0⟩).val) hs bo zen cX (fun j k aa=>?_) (fun j k aa=>?_) (fun j k i c aa ab=>?_) (fun j k i c aa ab=>?_)
 ·obtain⟨e,ax,aK⟩:=hd j k aa;refine⟨e,ax,?_⟩;rw[wb j e _ ax];exact(Kf aK (kG k (kt aa))).1
 ·obtain⟨e,ax,aK⟩:=gO j k aa;refine⟨e,ax,?_⟩;rw[wb j e _ ax];exact(Kf aK (tf k (kt aa))).1
 ·obtain⟨e,ax,aK⟩:=hd j k aa;rw[wb j e _ ax];exact(Kf aK (kG k (kt aa))).2 i c ab
 ·obtain⟨e,ax,aK⟩:=gO j k aa;rw[wb j e _ ax];exact(Kf aK (tf k (kt aa))).2 i c ab
end
end
section
variable [bn]
def OF{s:aj}{tm:Nat->aI}{i e size:Nat}{xs:List (List ag)}{S S':Nat->Prop}{B:Nat->Prop}{w:bb}{aO len:Nat}{wh:Bool}{v:aI}{us:List aI}(hs:s i=.own e size xs)(h:dp w S' B s tm (.view i aO len wh) v)
  (bB:w.iM 0 e size (tm i) xs.length us)(al:cO w S xs.flatten us)(ai:∀x∈xs,x.length=size)(bS:∀b,(tm i).ownBlock=some b->S b):bD w S (.list size ((xs.drop aO).take len)) v:=by
 obtain⟨_,cG,aF⟩:=h;rw[hs]at cG;have pV:aO+len<=xs.length:=cG;have GL:((xs.drop aO).take len).length=len:=by rw[e',eP];omega
 rcases aF with⟨rfl,a1⟩|⟨b,off,cap,rfl,ap,hm,ak,aZ,_⟩
 ·have:(xs.drop aO).take len=[]:=n5 (by omega);rw[this];exact .mF none 0 size (by simp) (fun _=>rfl)
 ·by_cases a1:len=0
  ·have:(xs.drop aO).take len=[]:=n5 (by omega);rw[this,a1];exact .mF (some _) cap size hm (fun h=>by cases h)
  ·have lE:=aZ (by omega);rw[hs]at ak lE;have ad:(tm i).ownBlock=some b:=ak;have OG:off=aO*size:=lE;have bF:∀(j:Nat) (c:ag),((xs.drop aO).take len).flatten[j]?=some c->xs.flatten[aO*size+j]?=some c:=by
    intro j c ac;rw[Dz (fun x fo=>ai x (vZ fo)),GJ ai,l0,js]at ac;split at ac
    ·exact ac
    ·cases ac
   have ip:∀(j:Nat) (c:ag),xs.flatten[j]?=some c->∃u,us[j]?=some u/\bD w S c u/\w.cell? ⟨b,j,none⟩=some u:=by intro j c ac;obtain⟨u,hu,ao⟩:=al.2 j c ac;have:=bB.cells ad j u hu;rw[n7,hv]at this;exact⟨u,hu,ao,this⟩
   rw[show Value.slice (some ⟨b,off,none⟩) len cap=Value.slice (some ⟨b,off,none⟩) ((xs.drop aO).take len).length cap by rw[GL]];refine .list ⟨b,off,none⟩ cap size ((xs.drop aO).take len) (fun j=>us.getD (aO*size+j) undef) (bS b ad) rfl (by omega) hm (fun x fo=>ai x (vZ (v7 fo))) (fun j c ac=>?_) (fun j c ac=>?_)
   ·obtain⟨u,hu,_,ap⟩:=ip _ c (bF j c ac);rw[n7,OG,lF,hu];exact ap
   ·obtain⟨u,hu,ao,_⟩:=ip _ c (bF j c ac);simp only[lF,hu,oa];exact ao
def OH{s:aj}{tm:Nat->aI}{i e size:Nat}{xs:List (List ag)}{S S':Nat->Prop}{B:Nat->Prop}{w:bb}{aO len:Nat}{v:aI}{us:List aI}(hs:s i=.own e size xs)(h:dp w S' B s tm (.view i aO len true) v)
  (bB:w.iM 0 e size (tm i) xs.length us)(al:cO w S xs.flatten us)(ai:∀x∈xs,x.length=size) :
  w.iM 0 e size v (xs.take len).length (us.take (len*size))/\(∀b,v.ownBlock=some b->(tm i).ownBlock=some b)/\cO w S (xs.take len).flatten (us.take (len*size))/\len<=xs.length:=by
 obtain⟨_,cG,pY⟩:=h;rw[hs]at cG;have pV:aO+len<=xs.length:=cG;have k3:us.length=xs.length*size:=bB.1;have hmul:len*size<=xs.length*size:=yX _ (by omega);have zj:(xs.take len).length=len:=by rw[e'];omega
 have ar:cO w S (xs.take len).flatten (us.take (len*size)):=by
  rw[Dz ai len];refine⟨by simp only[e',k3,y8 ai],fun j c ac=>?_⟩;rw[l0]at ac⊢;split at ac
  ·rename_i ar;rw[av ar];exact al.2 _ _ ac
  ·cases ac
 rw[zj];rcases pY with⟨aa,a1⟩|⟨N6,off,cap,aa,ap,J8,dx,_,hw⟩
 ·subst a1;rw[aa];exact⟨by simpa using World.Dd w 0 e size,fun b h=>(by cases h),ar,by omega⟩
 ·obtain⟨_,l,iw⟩:=hw rfl;rw[hs]at iw;have iw:tm i=_:=iw;rw[aa];rcases bB.2 with⟨aX,_⟩|⟨g,OI,bN,h1,_,bo,rP,ht,eD,gy⟩
  ·rw[iw]at aX;cases aX
  ·rw[iw]at h1;simp only[Value.slice.injEq,b9,Addr.mk.injEq]at h1;obtain⟨⟨rfl,rfl,_⟩,rfl,rfl⟩:=h1;refine⟨⟨by rw[e',k3];omega,.inr ⟨N6,cap,bN,rfl,cj _,bo,ap,J8,eD,?_⟩⟩,fun b h=>by rw[iw];exact h,ar,by omega⟩;rw[<-gy,List.take_take];congr 1;omega
def DI(s:aj):ag⊕(Nat×Nat)->Option ag
 |.inl c=>some c
 |.inr (i,off)=>match s i with
  |.box cs=>bif decide (off<1000000)then some (.ref (cs.drop off))else none
  |_=>none
def pZ(s:aj):List (ag⊕(Nat×Nat))->Option (List ag)
 |[]=>some []
 |c::r=>match DI s c,pZ s r with
  |some x,some xs=>some (x::xs)
  |_,_=>none
def o_:ag⊕(Nat×Nat)->Option Nat
 |.inl _=>none
 |.inr p=>some p.1
def o'(s:aj)(x:aW):Prop×Option aG:=
 match aJ s x with
 |(p,.x bP)=>(p,some bP)
 |(p,.alias i)=>match s i with
  |.own _ size xs=>(p,some (.one (.list size xs)))
  |_=>(False,none)
 |(p,.view i aO len _)=>match s i with
  |.own _ size xs=>(p,some (.one (.list size ((xs.drop aO).take len))))
  |_=>(False,none)
 |(p,.elem cs)=>(p,some (.one (.ref cs)))
 |(p,.df f caps)=>match pZ s caps with
  |some cs=>(p,some (.one (.jQ f cs)))
  |none=>(False,none)
 |_=>(False,none)
section
variable {P:aM}{S0:Env}{w0 w:bb}{n:Nat}{s:aj}{a:Act}
def tq(S0:Env)(B:Nat)(w:bb):Nat->Prop:=fun b=>(S0.rd b\/nq S0 B b)/\b<w.heap.size
def U'{S S' B:Nat->Prop}{tm:Nat->aI}{cs:List ag}{v:aI}(h:dp w S B s tm (.elem cs) v)(bS:∀b,S b->S' b):bD w S' (.ref cs) v:=by
 obtain⟨b',rfl,dW,hs,ap⟩:=h;refine .ref b' cs (fun j=>(w.cell? (b'.add j)).getD undef) (bS _ hs) dW (fun j c ac=>?_) (fun j c ac=>?_)
 ·obtain⟨u,hu,_⟩:=ap j c ac;rw[hu];rfl
 ·obtain⟨u,hu,ao⟩:=ap j c ac;rw[hu];exact ao.mono bS (fun _ _=>rfl)
def OJ(af:Rel S0 w0 n s a w){S:Nat->Prop}(bS:∀b,bO S0 w0.heap.size w s (aL a) b->S b):∀{caps:List (ag⊕(Nat×Nat))} {cs:List ag} {us:List aI},(∀i,i∈caps.filterMap o_->∀b,bl (s i) (aL a i)=some b->S b)->pZ s caps=some cs->us.length=caps.length ->
  (∀(j:Nat) (c:ag⊕(Nat×Nat)),caps[j]?=some c->∃u,us[j]?=some u/\xh w (bO S0 w0.heap.size w s (aL a)) s (aL a) c u)->cO w S cs us/\cs.length=caps.length
 |[],cs,us,_,h,al,_=>by simp[pZ]at h;subst h;exact⟨⟨by simpa using al,fun j c ac=>by simp at ac⟩,rfl⟩
 |c::r,cs,us,ad,h,al,ap=>by
  simp only[pZ]at h;split at h
  ·rename_i x xs ax aK;injection h with h
   subst h;cases us with
   |nil=>simp at al
   |cons u us=>
    obtain⟨o5,iz,p0⟩:=ap 0 c rfl;simp at iz;subst iz;have dg:∀i,i∈r.filterMap o_->i∈(c::r).filterMap o_:=by
     intro i ah;rw[tr];split
     ·exact ah
     ·exact oc _ ah
    obtain⟨aa,ab⟩:=OJ af bS (us:=us) (fun i ah=>ad i (dg i ah)) aK (by simpa using al) (fun j c' ac=>by simpa using ap (j+1) c' (by simpa using ac));have ai:bD w S x u:=by
     cases c with
     |inl zk=>
      simp only[DI]at ax;injection ax with ax
      subst ax;exact bD.mono p0 bS (fun _ _=>rfl)
     |inr q=>
      obtain⟨i,off⟩:=q;simp only[DI]at ax;split at ax
      ·rename_i bs hs;by_cases lE:off<1000000
       case neg=>simp[lE]at ax
       simp only[lE,decide_true,cond_true]at ax;injection ax with ax
       subst ax;rw[s8,av lE]at p0;obtain⟨b,A6,Dk⟩:=p0;subst A6;have ah:=af.rep i;rw[hs]at ah;obtain⟨br,b3,ty,aF,bo,gB,cY⟩:=ah;have ew:br=b:=by rw[hs,aF]at Dk;simpa[bl]using Dk
       subst ew;have d9:=ad i (by rw[tr];simp[o_]) br Dk;refine .ref ⟨br,off,none⟩ (bs.drop off) (fun j=>(w.cell? ((⟨br,off,none⟩:Addr).add j)).getD undef) d9 rfl (fun j c ac=>?_) (fun j c ac=>?_)
       ·obtain⟨v,h1,_⟩:=A5 bo gB off j c ac;rw[h1];rfl
       ·obtain⟨v,h1,zl⟩:=A5 bo gB off j c ac;rw[h1];exact zl.mono bS (fun _ _=>rfl)
      ·cases ax
    refine⟨⟨by simp[aa.1],fun j c' ac=>?_⟩,by simp[ab]⟩;cases j with
    |zero=>simp at ac;subst ac;exact⟨u,rfl,ai⟩
    |succ j=>simp at ac;simpa using aa.2 j c' ac
  ·cases h
def bD.Va{S:Nat->Prop}{f:FuncId}{cs:List ag}{us:Array aI}(h:cO w S cs us.toList):bD w S (.jQ f cs) (.func (.func f) #[] us):=by
 have e:us=((List.range cs.length).map fun j=>us.toList.getD j undef).toArray:=by
  have al:us.toList.length=cs.length:=h.1;apply rQ;apply y_;intro j;simp only[eZ];rcases mH j cs.length with ac|ac
  ·rw[DA ac];simp[show j<us.size by simpa using (al▸ac:j<us.toList.length)]
  ·rw[pW (by rw[al];exact ac),pW (by simpa using ac)];rfl
 rw[e];refine .jQ f cs _ (fun j c ac=>?_);obtain⟨u,hu,ao⟩:=h.2 j c ac;rw[lF,hu];exact ao
def Vb(af:Rel S0 w0 n s a w){x:aW}{p:Prop}{bP:aG}(h:o' s x=(p,some bP))(am:p):cz w (tq S0 w0.heap.size w) bP (a.eval x):=by
 have dq:=af.aJ x;unfold o' at h;split at h
 ·rename_i q Vc e;simp only[cA,b9]at h;obtain⟨rfl,rfl⟩:=h;rw[e]at dq;exact cz.mono (dq am) (fun b ad=>⟨ad.1,ad.2.1⟩) (fun _ _=>rfl)
 ·rename_i q i e;split at h
  ·rename_i cg size xs hs;simp only[cA,b9]at h;obtain⟨rfl,rfl⟩:=h;rw[e]at dq;obtain⟨aF,_⟩:=dp.y1 (dq am) hs;have ah:=af.rep i;rw[hs]at ah;obtain⟨us,bB,al,ai,hm,cY⟩:=ah;rw[aF];exact A4 bB (al.mono (fun b ad=>⟨ad.1,ad.2.1⟩) (fun _ _=>rfl)) ai hm (fun b ad=>⟨.inr (cY b ad),(bB.lt b ad).2⟩)
  ·simp at h
 ·rename_i q i aO len wh e;split at h
  ·rename_i cg size xs hs;simp only[cA,b9]at h;obtain⟨rfl,rfl⟩:=h;rw[e]at dq;have ah:=af.rep i;rw[hs]at ah;obtain⟨us,bB,al,ai,hm,cY⟩:=ah;exact OF hs (dq am) bB (al.mono (fun b ad=>⟨ad.1,ad.2.1⟩) (fun _ _=>rfl)) ai (fun b ad=>⟨.inr (cY b ad),(bB.lt b ad).2⟩)
  ·simp at h
 ·rename_i q cs e;simp only[cA,b9]at h;obtain⟨rfl,rfl⟩:=h;rw[e]at dq;exact U' (dq am) (fun b ad=>⟨ad.1,ad.2.1⟩)
 ·rename_i q f caps e;split at h
  ·rename_i cs eD;simp only[cA,b9]at h;obtain⟨rfl,rfl⟩:=h;rw[e]at dq;obtain⟨us,aF,cB,hA⟩:=dq am;rw[aF];refine bD.Va (OJ af (fun b ad=>⟨ad.1,ad.2.1⟩) (fun i _ b ad=>?_) eD (by simpa using cB) (fun j c ac=>by simpa using hA j c ac)).1;exact⟨.inr ((af.rep i).gU ad).1,((af.rep i).gU ad).2⟩
  ·simp at h
 ·simp at h
def tt(s:aj)(i o:Nat)(c:ag):ag:=
 match c with
 |.any=>match s (ch i o)with
  |.link bL di d=>match bL==i&&di==o with
   |true=>match s d with
    |.own _ z xs=>.list z xs
    |_=>.any
   |false=>.any
  |_=>.any
 |c=>c
def xq(s:aj)(i:Nat):Nat->List ag->List ag
 |_,[]=>[]
 |o,c::r=>tt s i o c::xq s i (o+1) r
def OK{s:aj}{i:Nat}:∀{cs:List ag} {o j:Nat} {c:ag},(xq s i o cs)[j]?=some c->∃c',cs[j]?=some c'/\c=tt s i (o+j) c'
 |[],o,j,c,h=>by simp[xq]at h
 |x::r,o,0,c,h=>by simp[xq]at h;subst h;exact⟨x,rfl,rfl⟩
 |x::r,o,j+1,c,h=>by simp only[xq,A8]at h;obtain⟨c',aa,ab⟩:=OK h;exact⟨c',by simpa using aa,by rw[ab];congr 1;omega⟩
def zeo(s:aj)(i o:Nat)(c:ag):tt s i o c=c\/∃d e z xs,c=.any/\s (ch i o)=.link i o d/\s d=.own e z xs/\tt s i o c=.list z xs:=by
 unfold tt;split
 ·split
  ·rename_i bL di d hs;split
   ·rename_i h;simp only[b7,fc]at h;obtain⟨rfl,rfl⟩:=h;split
    ·rename_i e z xs aA;exact .inr ⟨d,e,z,xs,rfl,hs,aA,rfl⟩
    ·exact .inl rfl
   ·exact .inl rfl
  ·exact .inl rfl
 ·exact .inl rfl
def zep(af:Rel S0 w0 n s a w){i o b:Nat}{cs:List ag}{b3:Array aI}{t:aP}{c:ag}{u:aI}(hs:s i=.box cs)(aF:aL a i=.pointer (some ⟨b,0,none⟩))(bo:w.heap[b]?=some (.cells b3 t (0,0)))(hu:b3[o]?=some u)(ao:bD w (bO S0 w0.heap.size w s (aL a)) c u) :
  bD w (tq S0 w0.heap.size w) (tt s i o c) u:=by
 rcases zeo s i o c with e|⟨d,cg,z,xs,ax,aK,cd,fI⟩
 ·rw[e];exact bD.mono ao (fun b ad=>⟨ad.1,ad.2.1⟩) (fun _ _=>rfl)
 ·rw[fI];have al:=af.rep (ch i o);rw[aK]at al;obtain⟨_,md,eV,aE,_,bf,bM⟩:=al;rw[hs,aF]at bf;have:eV=b:=by
   have:some b=some eV:=bf;injection this with this;exact this.symm
  subst this;rw[cell_of_row w eV o b3 t (0,0) bo,hu]at bM;injection bM with bM
  have aA:=af.rep d;rw[cd]at aA;obtain⟨us,bB,al,ai,hm,cY⟩:=aA;rw[cd]at bM;have bM:u=aL a d:=bM;rw[bM];exact A4 bB (al.mono (fun b ad=>⟨ad.1,ad.2.1⟩) (fun _ _=>rfl)) ai hm (fun b ad=>⟨.inr (cY b ad),(bB.lt b ad).2⟩)
def Kg(s:aj)(x:aW):Bool:=
 match (aJ s x).2 with
 |.ptr i _=>!(s i).told
 |_=>false
def DJ(s:aj)(x:aW):Prop×Option aG:=
 match aJ s x with
 |(p,.ptr i off)=>match s i with
  |.box cs=>(p,some (.one (.ref (xq s i off (cs.drop off)))))
  |_=>(False,none)
 |_=>o' s x
def zeq(af:Rel S0 w0 n s a w){x:aW}{p:Prop}{bP:aG}(h:DJ s x=(p,some bP))(am:p):cz w (tq S0 w0.heap.size w) bP (a.eval x):=by
 unfold DJ at h;split at h
 ·rename_i q i off e;split at h
  ·rename_i cs hs;simp only[cA,b9]at h;obtain⟨rfl,rfl⟩:=h;have dq:=af.aJ x (by rw[e];exact am);rw[e]at dq;obtain⟨b,aF,ak⟩:=dq;have ah:=af.rep i;rw[hs]at ah ak;obtain⟨br,b3,t,h1,bo,al,bk⟩:=ah;rw[h1]at ak;obtain rfl:br=b:=by simpa[bl]using ak
   rw[aF];refine bD.ref ⟨br,off,none⟩ _ (fun j=>(w.cell? ((⟨br,off,none⟩:Addr).add j)).getD undef) ⟨.inr bk,(jb.1 bo).1⟩ rfl (fun j c ac=>?_) (fun j c ac=>?_)
   ·obtain⟨c',aa,_⟩:=OK ac;obtain⟨u,hu,_⟩:=A5 bo al off j c' aa;rw[hu];rfl
   ·obtain⟨c',aa,ab⟩:=OK ac;rw[js]at aa;obtain⟨u,hu,ao⟩:=al.2 _ _ aa;have iz:b3[off+j]?=some u:=by simpa using hu
    have ip:w.cell? ((⟨br,off,none⟩:Addr).add j)=some u:=by rw[n7,cell_of_row w br (off+j) b3 t (0,0) bo];exact iz
    rw[ip,ab];exact zep af hs h1 bo iz ao
  ·simp at h
 ·exact Vb af h am
def OL{a:ae}:((∃e size xs,a=.own e size xs)\/∃cs,a=.box cs)\/uG a=a:=by
 cases a with
 |own e size xs=>exact .inl (.inl ⟨e,size,xs,rfl⟩)
 |box cs=>exact .inl (.inr ⟨cs,rfl⟩)
 |_=>exact .inr rfl
def zer(af:Rel S0 w0 n s a w)(i:Nat):Rel S0 w0 n (freeze s i) a w:=by
 rcases OL (a:=s i)with hs|hs
 ·exact af.freeze hs
 ·have ah:freeze s i i=s i:=by unfold freeze;simp[hs]
  have aB:∀j,j≠i->(s j).refs i=false->freeze s i j=s j:=by intro j ac ao;unfold freeze;simp[ac,ao]
  have GY:∀cs,s i≠.box cs:=fun cs e=>by rw[e]at hs;cases hs
  have ak:∀j,j≠i->(s j).refs i=true->freeze s i j=.dead:=by intro j ac ao;unfold freeze;simp[ac,ao,zei _ GY]
  refine af.forget (fun j=>?_) (fun j k cb=>?_)
  ·by_cases ac:j=i
   ·subst ac;exact .inl ah
   ·cases ao:(s j).refs i with
    |true=>exact .inr (ak j ac ao)
    |false=>exact .inl (aB j ac ao)
  ·by_cases eK:k=i
   ·subst eK;exact ah
   ·have o8:freeze s i j=s j:=by
     by_cases ac:j=i
     ·subst ac;exact ah
     ·cases ao:(s j).refs i with
      |true=>rw[ak j ac ao]at cb;cases cb
      |false=>exact aB j ac ao
    rw[o8]at cb;have fV:=af.wf j k cb;refine aB k eK ?_;cases ao:(s k).refs i with
    |true=>rw[np ao]at fV;cases fV
    |false=>rfl
def A9:ae->List Nat
 |.alias i=>[i]
 |.view i _ _ _=>[i]
 |.df _ caps=>caps.filterMap o_
 |_=>[]
def de(s:aj):List aW->List Nat
 |[]=>[]
 |x::r=>A9 (aJ s x).2++de s r
def Vd:ae->List Nat
 |.df _ caps=>caps.filterMap o_
 |_=>[]
def DK(s:aj):List aW->List Nat
 |[]=>[]
 |x::r=>Vd (aJ s x).2++DK s r
def Ve:ae->List Nat
 |.ptr i 0=>[i]
 |_=>[]
def DL(s:aj):List aW->List Nat
 |[]=>[]
 |x::r=>Ve (aJ s x).2++DL s r
def DM(l m:List Nat):List Nat:=m.filter fun i=>!l.contains i
def tu(s:aj)(l:List aW):List Nat:=DM (DL s l) (DK s l)
def dy(s:aj):List Nat->aj
 |[]=>s
 |i::r=>dy (freeze s i) r
def qU(s:aj)(l:List Nat)(k:aj->Prop):Prop:=k (dy s l)
def uI:∀(l:List Nat) (s:aj),Rel S0 w0 n s a w->Rel S0 w0 n (dy s l) a w
 |[],_,h=>h
 |i::r,_,h=>uI r _ (zer h i)
def zes{i k:Nat}(h:(freeze s i k).aR=true):freeze s i k=s k:=by
 unfold freeze at h⊢;by_cases ak:k=i
 ·subst ak;simp only[av]at h⊢;rcases OL (a:=s k)with (⟨e,size,xs,hs⟩|⟨cs,hs⟩)|hs
  ·rw[hs]at h;cases h
  ·rw[hs]at h;cases h
  ·exact hs
 ·simp only[an ak]at h⊢;cases ao:(s k).refs i with
  |true=>rw[ao]at h;simp only[gW]at h;rw[OB]at h;cases h
  |false=>rfl
def DN:∀(l:List Nat) (s:aj) (k:Nat),(dy s l k).aR=true->dy s l k=s k
 |[],_,_,_=>rfl
 |i::r,s,k,h=>by have aa:=DN r (freeze s i) k h;simp only[dy]at h⊢;rw[aa]at h⊢;exact zes h
def Kh:∀(l:List Nat) (s:aj) (i:Nat),((∃e size xs,s i=.own e size xs)\/∃cs,s i=.box cs)->i∈l->(dy s l i).aR=false
 |[],_,_,_,h=>by cases h
 |j::r,s,i,hs,hm=>by
  simp only[dy];by_cases cV:i=j
  ·subst cV;cases aB:(dy (freeze s i) r i).aR with
   |false=>rfl
   |true=>have:=DN r _ _ aB;rw[this]at aB;unfold freeze at aB;rcases hs with⟨e,size,xs,hs⟩|⟨cs,hs⟩<;>simp[hs,uG,ae.aR]at aB
  ·refine Kh r _ i ?_ (by simpa[cV]using hm);unfold freeze;rcases hs with⟨e,size,xs,hs⟩|⟨cs,hs⟩
   ·exact .inl ⟨e,size,xs,by simp[cV,hs,ae.refs]⟩
   ·exact .inr ⟨cs,by simp[cV,hs,ae.refs]⟩
def OM(af:Rel S0 w0 n s a w){x:aW}{p:Prop}{bP:aG}(h:o' s x=(p,some bP))(am:p)(l:List Nat)(al:∀i∈A9 (aJ s x).2,i∈l) :
  cz w (bO S0 w0.heap.size w (dy s l) (aL a)) bP (a.eval x):=by
 have dq:=af.aJ x;have cv:∀k b,bl (dy s l k) (aL a k)=some b->(dy s l k).aR=true/\bl (s k) (aL a k)=some b:=by
  intro k b ad;have aB:(dy s l k).aR=true:=by
   cases aB:(dy s l k).aR with
   |true=>rfl
   |false=>rw[ks aB]at ad;cases ad
  rw[DN l s k aB]at ad;exact⟨aB,ad⟩
 have dg:∀b,bO S0 w0.heap.size w s (aL a) b->bO S0 w0.heap.size w (dy s l) (aL a) b:=fun b ad=>⟨ad.1,ad.2.1,fun k ak=>ad.2.2 k (cv k b ak).2⟩
 unfold o' at h;split at h
 ·rename_i q Vc e;simp only[cA,b9]at h;obtain⟨rfl,rfl⟩:=h;rw[e]at dq;exact cz.mono (dq am) dg (fun _ _=>rfl)
 ·rename_i q i e;split at h
  ·rename_i cg size xs hs;simp only[cA,b9]at h;obtain⟨rfl,rfl⟩:=h;have jV:=al i (by rw[e];exact kH);rw[e]at dq;obtain⟨aF,_⟩:=dp.y1 (dq am) hs;have ah:=af.rep i;rw[hs]at ah;obtain⟨us,bB,ON,ai,hm,cY⟩:=ah;rw[aF];refine A4 bB (ON.mono dg (fun _ _=>rfl)) ai hm (fun b ad=>⟨.inr (cY b ad),(bB.lt b ad).2,fun k ak=>?_⟩);obtain⟨aB,rY⟩:=cv k b ak;have eK:=af.inj k i b rY (by rw[hs];exact ad);subst eK;rw[Kh l s k (.inl ⟨_,_,_,hs⟩) jV]at aB;cases aB
  ·simp at h
 ·rename_i q i aO len wh e;split at h
  ·rename_i cg size xs hs;simp only[cA,b9]at h;obtain⟨rfl,rfl⟩:=h;have jV:=al i (by rw[e];exact kH);rw[e]at dq;have ah:=af.rep i;rw[hs]at ah;obtain⟨us,bB,ON,ai,hm,cY⟩:=ah;refine OF hs (dq am) bB (ON.mono dg (fun _ _=>rfl)) ai (fun b ad=>⟨.inr (cY b ad),(bB.lt b ad).2,fun k ak=>?_⟩);obtain⟨aB,rY⟩:=cv k b ak;have eK:=af.inj k i b rY (by rw[hs];exact ad);subst eK;rw[Kh l s k (.inl ⟨_,_,_,hs⟩) jV]at aB;cases aB
  ·simp at h
 ·rename_i q cs e;simp only[cA,b9]at h;obtain⟨rfl,rfl⟩:=h;rw[e]at dq;exact U' (dq am) dg
 ·rename_i q f caps e;split at h
  ·rename_i cs eD;simp only[cA,b9]at h;obtain⟨rfl,rfl⟩:=h;have dK:∀i∈caps.filterMap o_,i∈l:=fun i ah=>al i (by rw[e];exact ah);rw[e]at dq;obtain⟨us,aF,cB,hA⟩:=dq am;rw[aF];refine bD.Va (OJ af dg (fun i ah b ad=>?_) eD (by simpa using cB) (fun j c ac=>by simpa using hA j c ac)).1;refine⟨.inr ((af.rep i).gU ad).1,((af.rep i).gU ad).2,fun k ak=>?_⟩;obtain⟨aB,rY⟩:=cv k b ak;have eK:=af.inj k i b rY ad;subst eK;have xr:(∃e size xs,s k=.own e size xs)\/∃cs,s k=.box cs:=by
    have:∀{caps:List (ag⊕(Nat×Nat))} {cs:List ag},pZ s caps=some cs->k∈caps.filterMap o_->∃bs,s k=.box bs:=by
     intro caps;induction caps with
     |nil=>intro cs _ h;cases h
     |cons c r ba=>
      intro cs h hm;simp only[pZ]at h;split at h
      ·rename_i x xs ax aK;rw[tr]at hm;cases c with
       |inl zk=>exact ba aK (by simpa[o_]using hm)
       |inr q=>
        simp only[o_,fp]at hm;rcases hm with hm|hm
        ·subst hm;simp only[DI]at ax;split at ax
         ·rename_i bs hs;exact⟨bs,hs⟩
         ·cases ax
        ·exact ba aK hm
      ·cases h
    exact .inr (this eD ah)
   rw[Kh l s k xr (dK k ah)]at aB;cases aB
  ·simp at h
 ·simp at h
def jW(s:aj)(x:aW):Prop×ae:=
 match o' s x with
 |(p,some bP)=>(p,.x bP)
 |_=>(False,.dead)
def Ki{s:aj}{x:aW}{i:Nat}:∀{l:List aW},x∈l->i∈A9 (aJ s x).2->i∈de s l
 |y::r,ai,h=>by
  simp only[de,hg];rcases fp.1 ai with rfl|ai
  ·exact .inl h
  ·exact .inr (Ki ai h)
def Kj(af:Rel S0 w0 n s a w)(l:List aW){x:aW}(ai:x∈l)(am:(jW s x).1):mI S0 w0 (dy s (de s l)) a w (jW s x).2 (a.eval x):=by
 unfold jW at am⊢;split at am
 ·rename_i p bP e;exact OM af e am _ (fun i ah=>Ki ai ah)
 ·exact am.elim
def zet{s:aj}{x:aW}{p:Prop}{bP:aG}(h:aJ s x=(p,.x bP)):jW s x=(p,.x bP)/\de s [x]=[]:=by unfold jW o';simp only[h,de,A9];exact⟨trivial,rfl⟩
end
end
section
variable [bn]
def Vf(off:Nat):∀(l:List aI) (k:Nat) (cells:Array aI),off+k+l.length<=cells.size ->
  ((l.zipIdx k).foldl (fun (cs:Array aI) (x:aI×Nat)=>cs.setIfInBounds (off+x.2) x.1) cells).toList=cZ cells.toList (off+k) l:=by
 intro l;induction l with
 |nil=>intro k cells _;simp[cZ]
 |cons v l ba=>
  intro k cells h;simp only[List.zipIdx_cons,Dw];rw[ba (k+1) _ (by simp at h⊢;omega)];simp only[cZ,Array.toList_setIfInBounds,hz];have ar:off+k<cells.toList.length:=by simp at h⊢;omega
  rw[List.drop_set_of_lt (by omega)];have ax:off+(k+1)=(off+k)+1:=by omega
  rw[ax,k6 (by simpa using ar)];rw[List.take_set_of_le (by omega)];simp only[List.getElem_set_self,pG,List.cons_append,List.nil_append];congr 3;congr 1;omega
section
variable {P:aM}{S0:Env}{w0 w:bb}{n:Nat}{s:aj}{a:Act}
def nA(P:aM)(t:aP):Option (List ag×List (Nat×Nat)):=
 match P.info? t,P.underlying t with
 |some it,some (.struct fields)=>match it.zero,fields.toList.mapM (fun f=>(P.info? f.type).map fun i=>(f.offset,i.size))with
  |some z,some ih=>if z.cells.toList.all vK then some (z.cells.toList.map vJ,ih)else none
  |_,_=>none
 |_,_=>none
def p1(ih:List (Nat×Nat)):List ag->List (Nat×(Prop×ae))->Prop×List ag
 |cells,[]=>(True,cells)
 |cells,(i,(p,.x bP))::r=>match ih[i]? with
  |some (off,size)=>(p/\bP.cells.length=size/\off+size<=cells.length/\(p1 ih (cZ cells off bP.cells) r).1,(p1 ih (cZ cells off bP.cells) r).2)
  |none=>(False,cells)
 |cells,_=>(False,cells)
def p2(P:aM)(f:aW->Prop×ae)(t:aP)(parts:List (Nat×aW)):Prop×ae:=
 match nA P t with
 |some (cs,ih)=>((p1 ih cs (parts.map fun x=>(x.1,f x.2))).1,.x (.agg (p1 ih cs (parts.map fun x=>(x.1,f x.2))).2))
 |none=>(False,.dead)
def xt{α:Type}(cs vs:List α)(off:Nat)(h:off+vs.length<=cs.length):(cZ cs off vs).length=cs.length:=by simp only[cZ,eG,e',eP];omega
def zeu{f:aW->Prop×ae}(ih:List (Nat×Nat)):∀(parts:List (Nat×aW)) (cs:List ag) (b3:Array aI),(∀x∈parts,eu S0 w0 s a w (f x.2) (a.eval x.2))->cO w (bO S0 w0.heap.size w s (aL a)) cs b3.toList ->
  (p1 ih cs (parts.map fun x=>(x.1,f x.2))).1 ->
  ∃me,Instr.fill (ih.toArray[·]?) b3 (parts.map fun x=>(x.1,a.eval x.2))=some me/\cO w (bO S0 w0.heap.size w s (aL a)) (p1 ih cs (parts.map fun x=>(x.1,f x.2))).2 me.toList:=by
 intro parts;induction parts with
 |nil=>intro cs b3 _ h _;exact⟨b3,rfl,h⟩
 |cons x parts ba=>
  intro cs b3 aw h am;obtain⟨i,x⟩:=x;have dq:=aw _ kH;dsimp only at dq;simp only[kC]at am⊢;generalize f x=OO at am dq⊢;obtain⟨p,r⟩:=OO;cases r with
  |x bP=>
   simp only[p1]at am⊢;cases wc:ih[i]? with
   |none=>rw[wc]at am;exact am.elim
   |some os=>
    obtain⟨off,size⟩:=os;rw[wc]at am;obtain⟨aa,ab,au,aN⟩:=am;have b8:=cz.cells (dq aa);have cB:(a.eval x).cells.size=size:=by have:=b8.1;simp only[l4]at this;rw[this,ab]
    have gC:b3.size=cs.length:=by have:=h.1;simpa using this
    have OP:((a.eval x).cells.zipIdx.foldl (fun cs (c,j)=>cs.setIfInBounds (off+j) c) b3).toList=cZ b3.toList off (a.eval x).cells.toList:=by have:=Vf off (a.eval x).cells.toList 0 b3 (by simp;omega);rw[<-Kk,Array.toList_zipIdx];exact this
    have p3:=h.cZ b8 off;rw[<-OP]at p3;obtain⟨me,aw,ao⟩:=ba _ _ (fun y aU=>aw y (oc _ aU)) p3 aN;refine⟨me,?_,ao⟩;have bF:ih.toArray[i]?=some (off,size):=by simpa using wc
    simp only[Instr.fill,bF,cB,ne_eq,JY,zm,decide_false];rw[an (by simp;omega)];exact aw
  |_=>exact am.elim
def Vg{f:aW->Prop×ae}{t:aP}{parts:Array (Nat×aW)}(aw:∀x∈parts.toList,eu S0 w0 s a w (f x.2) (a.eval x.2))(am:(p2 P f t parts.toList).1) :
  ∃v,(Instr.build t (parts.map fun (i,x)=>(i,a.eval x))).run P w=.ok v w/\mI S0 w0 s a w (p2 P f t parts.toList).2 v/\(p2 P f t parts.toList).2.aR=false:=by
 unfold p2 at am⊢;split at am
 ·rename_i cs ih ad;unfold nA at ad;split at ad
  ·rename_i it fields ah hu;split at ad
   ·rename_i z zev aZ wc;split at ad
    ·rename_i kv;injection ad with ad
     injection ad with uJ r2;subst uJ;subst r2
     obtain⟨me,aw,ao⟩:=zeu zev parts.toList _ z.cells aw (U7 kv) am;refine⟨.agg me,run_build (P:=P) w t _ me ?_,⟨me,rfl,ao⟩,rfl⟩;simp only[Program.built,ah,hu,aZ,wc];rw[<-aw];congr 1;simp
    ·cases ad
   ·cases ad
  ·cases ad
 ·exact am.elim
def r3(size:Nat):List (List ag)->List (Nat×(Prop×ae))->Prop×List (List ag)
 |xs,[]=>(True,xs)
 |xs,(i,(p,.x bP))::r=>(p/\bP.cells.length=size/\i<xs.length/\(r3 size (xs.set i bP.cells) r).1,(r3 size (xs.set i bP.cells) r).2)
 |xs,_=>(False,xs)
def jy(P:aM)(t:aP):Option (aP×Nat×List ag):=
 match gM P t with
 |some (e,size)=>match hT P e with
  |some z=>if z.length=size then some (e,size,z)else none
  |none=>none
 |none=>none
def lH(P:aM)(f:aW->Prop×ae)(t:aP)(len:Nat)(parts:List (Nat×aW)):Prop×ae:=
 match jy P t with
 |some (e,size,z)=>(len*size<=16777216/\(r3 size (List.replicate len z) (parts.map fun x=>(x.1,f x.2))).1,.own e size (r3 size (List.replicate len z) (parts.map fun x=>(x.1,f x.2))).2)
 |none=>(False,.dead)
def Vh{xs:List (List ag)}{size:Nat}(ai:∀x∈xs,x.length=size){i:Nat}(ah:i<xs.length){c:List ag}(ap:c.length=size) :
  (xs.set i c).flatten=cZ xs.flatten (i*size) c:=by
 induction xs generalizing i with
 |nil=>simp at ah
 |cons x xs ba=>
  have al:=ai x (by simp);cases i with
  |zero=>simp only[List.set_cons_zero,ta,cZ,Nat.zero_mul,List.take_zero,List.nil_append,hv];rw[List.drop_append,nu (by omega:x.length<=c.length),ap,al];simp
  |succ i=>
   simp only[List.set_cons_succ,ta];rw[ba (fun y aU=>ai y (by simp[aU])) (by simpa using ah)];have ax:(i+1)*size=x.length+i*size:=by rw[l3,al];omega
   have aK:(x++xs.flatten).drop (x.length+i*size+c.length)=xs.flatten.drop (i*size+c.length):=by rw[List.drop_append,nu (by omega),List.nil_append];congr 1;omega
   have cd:(x++xs.flatten).take (x.length+i*size)=x++xs.flatten.take (i*size):=by rw[List.take_append,k4 (by omega)];congr 2;omega
   simp only[cZ,ax,aK,cd,pG]
def zew{f:aW->Prop×ae}(size:Nat):∀(parts:List (Nat×aW)) (xs:List (List ag)) (b3:Array aI),(∀x∈parts,eu S0 w0 s a w (f x.2) (a.eval x.2))->(∀x∈xs,x.length=size)->cO w (bO S0 w0.heap.size w s (aL a)) xs.flatten b3.toList ->
  (r3 size xs (parts.map fun x=>(x.1,f x.2))).1 ->
  (r3 size xs (parts.map fun x=>(x.1,f x.2))).2.length=xs.length/\(∀x∈(r3 size xs (parts.map fun x=>(x.1,f x.2))).2,x.length=size) /\
  ∃me,Instr.fill (fun i=>some (i*size,size)) b3 (parts.map fun x=>(x.1,a.eval x.2))=some me/\cO w (bO S0 w0.heap.size w s (aL a)) (r3 size xs (parts.map fun x=>(x.1,f x.2))).2.flatten me.toList:=by
 intro parts;induction parts with
 |nil=>intro xs b3 _ ai h _;exact⟨rfl,ai,b3,rfl,h⟩
 |cons x parts ba=>
  intro xs b3 aw ai h am;obtain⟨i,x⟩:=x;have dq:=aw _ kH;dsimp only at dq;simp only[kC]at am⊢;generalize f x=OO at am dq⊢;obtain⟨p,r⟩:=OO;cases r with
  |x bP=>
   simp only[r3]at am⊢;obtain⟨aa,ab,au,aN⟩:=am;have b8:=cz.cells (dq aa);have cB:(a.eval x).cells.size=size:=by have:=b8.1;simp only[l4]at this;rw[this,ab]
   have gC:b3.size=xs.length*size:=by have:=h.1;rw[y8 ai]at this;simpa using this
   have d9:i*size+size<=b3.size:=by rw[gC];have:(i+1)*size<=xs.length*size:=yX _ au;rw[l3]at this;omega
   have OP:((a.eval x).cells.zipIdx.foldl (fun cs (c,j)=>cs.setIfInBounds (i*size+j) c) b3).toList=cZ b3.toList (i*size) (a.eval x).cells.toList:=by have:=Vf (i*size) (a.eval x).cells.toList 0 b3 (by simp;omega);rw[<-Kk,Array.toList_zipIdx];exact this
   have p3:=h.cZ b8 (i*size);rw[<-OP,<-Vh ai au ab]at p3;have fo:∀y∈xs.set i bP.cells,y.length=size:=by
    intro y aU;rcases OQ aU with aU|aU
    ·exact ai y aU
    ·rw[aU,ab]
   obtain⟨al,ge,me,aw,ao⟩:=ba _ _ (fun y aU=>aw y (oc _ aU)) fo p3 aN;refine⟨by rw[al];simp,ge,me,?_,ao⟩;simp only[Instr.fill,cB,ne_eq,JY,zm,decide_false];rw[an (by simp;omega)];exact aw
  |_=>exact am.elim
def Kl{S:Nat->Prop}{d':List ag}{z:Array aI}(h:cO w S d' z.toList)(len:Nat) :
  cO w S (List.replicate len d').flatten ((Array.range (len*z.size)).map (z[· % z.size]!)).toList:=by
 have al:d'.length=z.size:=by have:=h.1;simpa using this.symm
 refine⟨by simp[al],fun j c ac=>?_⟩;have ar:j<len*z.size:=by have:=(eQ.1 ac).1;simpa[al]using this
 have je:0<z.size:=by
  rcases Nat.eq_zero_or_pos z.size with a1|a1
  ·rw[a1]at ar;simp at ar
  ·exact a1
 have gm:d'[j%z.size]?=some c:=by
  have key:∀(len j:Nat),j<len*d'.length->(List.replicate len d').flatten[j]?=d'[j%d'.length]?:=by
   intro len;induction len with
   |zero=>intro j h;simp at h
   |succ len ba=>
    intro j h;simp only[List.replicate_succ,ta];rw[ze];split
    ·rename_i ar;rw[GZ ar]
    ·rename_i iN;rw[ba _ (by rw[l3]at h;omega)];congr 1;have:j=(j-d'.length)+d'.length:=by omega
     conv=>rhs;rw[this,Nat.add_mod_right]
  rw[key _ _ (by rw[al];exact ar),al]at ac;exact ac
 obtain⟨u,hu,ao⟩:=h.2 _ c gm;refine⟨u,?_,ao⟩;have hm:j%z.size<z.size:=Nat.mod_lt _ je;have aZ:z[j%z.size]=u:=by rw[Array.getElem?_toList,vT hm]at hu;injection hu
 simp[ar,hm,aZ]
def G0{t e:aP}{size:Nat}{d':List ag}(h:jy P t=some (e,size,d')) :
  ∃i z,P.underlying t=some (.slice e)/\P.info? e=some i/\i.size=size/\0<size/\(zeroValue e).run P w=.ok z w/\(∀S,cO w S d' z.cells.toList)/\d'.length=size:=by
 unfold jy at h;split at h
 ·rename_i cg fe cp;split at h
  ·rename_i z aZ;split at h
   ·rename_i iS;injection h with h
    simp only[cA]at h;obtain⟨rfl,rfl,rfl⟩:=h;obtain⟨i,hu,ah,hs,am⟩:=qP cp;obtain⟨J_,cP,_⟩:=Oy (P:=P) (w:=w) aZ (fun _=>True);refine⟨i,J_,hu,ah,hs,am,cP,fun S=>?_,iS⟩;obtain⟨zsI,Vi,b8⟩:=Oy (P:=P) (w:=w) aZ S;rw[cP]at Vi;injection Vi with ax
    subst ax;exact b8
   ·cases h
  ·cases h
 ·cases h
def OR{f:aW->Prop×ae}{t:aP}{len d:Nat}{parts:Array (Nat×aW)}(af:Rel S0 w0 n s a w)(aw:∀x∈parts.toList,eu S0 w0 s a w (f x.2) (a.eval x.2))(aA:S0.m<=d/\d<n)(am:(lH P f t len parts.toList).1) :
  ∃v w',(Instr.buildSlice t len (parts.map fun (i,x)=>(i,a.eval x))).run P w=.ok v w'/\Rel S0 w0 n (Ab.put s d (lH P f t len parts.toList).2) (a.put (some d) v) w':=by
 unfold lH at am⊢;split at am
 ·rename_i e size d' cp;obtain⟨zex,am⟩:=am;obtain⟨i,z,hu,ah,hs,je,aZ,ti,iS⟩:=G0 (w:=w) cp;have G1:z.cells.size=size:=by have:=(ti (fun _=>True)).1;rw[iS]at this;simpa using this
  have b8:=Kl (ti (bO S0 w0.heap.size w s (aL a))) len;rw[G1]at b8;have ai:∀x∈List.replicate len d',x.length=size:=fun x ai=>by rw[G2 ai,iS]
  obtain⟨al,ge,me,aw,ao⟩:=zew size parts.toList _ _ aw ai b8 am;have cX:(r3 size (List.replicate len d') (parts.toList.map fun x=>(x.1,f x.2))).2.length=len:=by rw[al];simp
  have zey:Instr.fill (fun i=>some (i*size,size)) ((Array.range (len*size)).map (z.cells[· % size]!)) (parts.map fun (i,x)=>(i,a.eval x)).toList=some me:=by rw[<-aw];congr 1;simp
  have p4:me.size=len*size:=by have:=ao.1;rw[y8 ge,cX]at this;simpa using this
  have hA:len<=maxLen:=by have:len*1<=len*size:=Nat.mul_le_mul_left _ je;simp only[maxLen];omega
  refine⟨.slice (some ⟨w.heap.size,0,none⟩) len len,w.alloc (.cells me e),?_,?_⟩
  ·have zez:¬len*size > 2^24:=by omega
   have mN:∀c:Array aI,c=((Array.range (len*size)).map (z.cells[· % size]!))->(Instr.fill (fun i=>some (i*size,size)) c (parts.map fun (i,x)=>(i,a.eval x)).toList)=some me:=fun c ap=>by rw[ap];exact zey
   by_cases a1:len*size=0
   ·have aa:=mN #[] (by rw[a1];simp);have DO:∀f:Nat->aI,Array.map f (Array.range 0)=#[]:=fun f=>by simp
    simp only[Instr.buildSlice,Sem.run_bind,run_underlying hu,Result.andThen_ok,run_sizeOf ah,hs];rw[a1];simp only[show ¬((0:Nat) > 2^24) by omega,hy,gW,Sem.run_pure,Result.andThen_ok,DO,aa,Sem.run_bind];rfl
   ·have aa:=mN _ rfl;simp only[Instr.buildSlice,Sem.run_bind,run_underlying hu,Result.andThen_ok,run_sizeOf ah,hs,an zez,an a1,aZ,Sem.run_pure,G1,aa];rfl
  ·refine af.DE aA (World.grownBy_alloc w _ none) (us:=me.toList) ⟨by simp[p4,cX],.inr ⟨w.heap.size,len,me,by rw[cX],cj _,⟨_,heap_alloc_new w _,.inl rfl⟩,by omega,hA,p4,?_⟩⟩ ao ge (by rw[cX];exact hA) ?_
   ·rw[cX,k4 (by simp[p4])]
   ·intro b ad;have:w.heap.size=b:=by simpa[Value.ownBlock]using ad
    omega
 ·exact am.elim
end
end
section
variable [bn]
inductive bH where
 |x (v:aG)
 |b2 (vs:List aG)
 |own (e size:Nat) (xs:List (List ag))
def bH.dj:bH->ae
 |.x v=>.x v
 |.b2 vs=>.b2 vs
 |.own e size xs=>.own e size xs
def bH.ij:bH->aI->Option Nat
 |.own _ _ _,v=>v.ownBlock
 |_,_=>none
def iT(w:bb)(S:Nat->Prop):bH->aI->Prop
 |.x bP,v=>cz w S bP v
 |.b2 vs,v=>∃us:Array aI,v=.tuple us/\us.size=vs.length/\∀(j:Nat) (x:aG),vs[j]?=some x->∃u,us[j]?=some u/\cz w S x u
 |.own e size xs,v=>∃us:List aI,w.iM 0 e size v xs.length us/\cO w (fun b=>S b/\v.ownBlock≠some b) xs.flatten us/\(∀x∈xs,x.length=size)/\xs.length<=maxLen/\∀b,v.ownBlock=some b->S b
def iT.mono{w w':bb}{S S':Nat->Prop}{r:bH}{v:aI}(h:iT w S r v)(bS:∀b,S b->S' b)
  (ad:∀b,S b->w'.heap[b]?=w.heap[b]?):iT w' S' r v:=by
 cases r with
 |x bP=>exact cz.mono h bS ad
 |b2 vs=>obtain⟨us,aF,al,ai⟩:=h;exact⟨us,aF,al,fun j x ac=>let ⟨u,hu,ao⟩:=ai j x ac;⟨u,hu,ao.mono bS ad⟩⟩
 |own e size xs=>
  obtain⟨us,bB,al,ai,hm,bk⟩:=h;refine⟨us,⟨bB.1,?_⟩,al.mono (fun b cm=>⟨bS b cm.1,cm.2⟩) (fun b cm=>ad b cm.1),ai,hm,fun b cm=>bS b (bk b cm)⟩;rcases bB.2 with aX|⟨g,cap,bN,rfl,oZ,bo,rest⟩
  ·exact .inl aX
  ·exact .inr ⟨g,cap,bN,rfl,oZ,by rw[ad g (bk g rfl)];exact bo,rest⟩
def od(w:bb)(S:Nat->Prop)(args:List aG)(vs:Array aI):Prop:=
 vs.size=args.length/\∀(j:Nat) (x:aG),args[j]?=some x->∃u,vs[j]?=some u/\cz w S x u
def tv(P:aM)(f:FuncId):Prop:=∃fn,P.funcs[f]?=some fn/\(fn.name== "runtime.NumGoroutine")=false/\fn.body.isNone=false
def az(P:aM)(f:FuncId)(args:List aG)(r:bH):Prop:=
 tv P f/\∀(w:bb) (S:Nat->Prop) (vs:Array aI),pI ⟨S,fun _=>False,0,fun _=>undef⟩ w->od w S args vs ->
  Calls P f vs w fun e w'=>∃v,e=.returned v/\Below w.heap.size w w'/\iT w' (fun b=>S b\/(w.heap.size<=b/\b<w'.heap.size)) r v/\∀b,r.ij v=some b->w.heap.size<=b
def A_(P:aM)(f:FuncId)(args:List aG)(L:aI->List ag)(e z:Nat)(aV:List (List ag)):Prop:=
 tv P f/\∀(w:bb) (S:Nat->Prop) (vs:Array aI),pI ⟨S,fun _=>False,0,fun _=>undef⟩ w->od w S args vs ->
  Calls P f vs w fun kf w'=>∃u v,kf=.returned u/\Below w.heap.size w w'/\cz w' (fun b=>(S b\/(w.heap.size<=b/\b<w'.heap.size))/\v.ownBlock≠some b) (.agg (L v)) u /\
   iT w' (fun b=>S b\/(w.heap.size<=b/\b<w'.heap.size)) (.own e z aV) v/\∀b,v.ownBlock=some b->w.heap.size<=b
def ag.flat:ag->Bool
 |.list _ _=>false
 |.nil=>false
 |.empty _=>false
 |.jQ _ _=>false
 |.ref _=>false
 |.i8 _ _ _ _=>false
 |_=>true
def aG.flat:aG->Bool
 |.one c=>c.flat
 |.agg cs=>cs.all ag.flat
def bH.flat:bH->Bool
 |.x v=>v.flat
 |.b2 vs=>vs.all aG.flat
 |.own _ _ _=>false
def bD.flat{w w':bb}{S S':Nat->Prop}{c:ag}{v:aI}(h:bD w S c v)(aw:c.flat=true):bD w' S' c v:=by
 cases h with
 |bool b=>exact .bool b
 |int k n=>exact .int k n
 |str l h=>exact .str l h
 |atom v h=>exact .atom v h
 |any v h=>exact .any v h
 |_=>cases aw
def cz.flat{w w':bb}{S S':Nat->Prop}{x:aG}{v:aI}(h:cz w S x v)(aw:x.flat=true):cz w' S' x v:=by
 cases x with
 |one c=>exact bD.flat h aw
 |agg cs=>obtain⟨us,aF,al,ai⟩:=h;exact⟨us,aF,al,fun j c ac=>let ⟨u,hu,ao⟩:=ai j c ac;⟨u,hu,ao.flat (hJ.1 aw c (kt ac))⟩⟩
def iT.flat{w w':bb}{S S':Nat->Prop}{r:bH}{v:aI}(h:iT w S r v)(aw:r.flat=true):iT w' S' r v:=by
 cases r with
 |x bP=>exact cz.flat h aw
 |b2 vs=>obtain⟨us,aF,al,ai⟩:=h;exact⟨us,aF,al,fun j x ac=>let ⟨u,hu,ao⟩:=ai j x ac;⟨u,hu,ao.flat (hJ.1 aw x (kt ac))⟩⟩
 |own e size xs=>cases aw
def mO(s:aj):List aW->Prop×Option (List aG)
 |[]=>(True,some [])
 |x::r=>match o' s x,mO s r with
  |(p,some v),(q,some vs)=>(p/\q,some (v::vs))
  |_,_=>(False,none)
def jX:ae->Option (FuncId×List aG)
 |.x (.one (.atom (.func (.func f) ⟨[]⟩ ⟨[]⟩)))=>some (f,[])
 |.x (.one (.jQ f caps))=>some (f,caps.map .one)
 |_=>none
def callee(s:aj)(f:aW)(args:List aW):Prop×Option (FuncId×List aG):=
 match aJ s f,mO s args with
 |(p,a),(q,some xs)=>match jX a with
  |some (g,caps)=>(p/\q,some (g,xs++caps))
  |none=>(False,none)
 |_,_=>(False,none)
def tw(s:aj):List aW->Prop×Option (List aG)
 |[]=>(True,some [])
 |x::r=>match DJ s x,tw s r with
  |(p,some v),(q,some vs)=>(p/\q,some (v::vs))
  |_,_=>(False,none)
def xu(s:aj)(f:aW)(args:List aW):Prop×Option (FuncId×List aG):=
 match args.any (Kg s)with
 |true=>match aJ s f,tw s args with
  |(p,a),(q,some xs)=>match jX a with
   |some (g,caps)=>(p/\q,some (g,xs++caps))
   |none=>(False,none)
  |_,_=>(False,none)
 |false=>(False,none)
def qV(P:aM)(c:Prop×Option (FuncId×List aG))(k:bH->Prop)(m:Prop):Prop:=
 match c with
 |(p,some (g,xs))=>p/\((∃r,az P g xs r/\r.flat=true/\k r)\/m)
 |_=>m
def p5(P:aM)(s:aj)(f:aW)(args:List aW)(r:bH):Prop:=
 match callee s f args with
 |(p,some (g,xs))=>p/\az P g xs r
 |_=>False
def Km(P:aM)(e:Bool)(g:FuncId)(xs:List aG)(k:bH->Prop):Prop:=∃r,(e=true->az P g xs r)/\r.flat=true/\k r
def r4(P:aM)(e:Bool)(c:Prop×Option (FuncId×List aG))(k:bH->Prop):Prop:=
 match c with
 |(p,some (g,xs))=>(e=true->p)/\Km P e g xs k
 |_=>False
def Vj{P:aM}{s:aj}{e:Bool}{f:aW}{args:List aW}{k:bH->Prop}(h:r4 P e (callee s f args) k):∃r,(e=true->p5 P s f args r)/\r.flat=true/\k r:=by
 unfold r4 Km at h;unfold p5;split at h
 ·obtain⟨am,r,ap,aw,ak⟩:=h;exact⟨r,fun he=>⟨am he,ap he⟩,aw,ak⟩
 ·exact h.elim
def G3{P:aM}{e:Bool}{c:Prop×Option (FuncId×List aG)}{k:bH->Prop}(h:r4 P e c k):∃r,(∀cq:bH->Prop,cq r->r4 P e c cq)/\k r:=by
 unfold r4 Km at h⊢;split at h
 ·obtain⟨am,r,ap,aw,ak⟩:=h;exact⟨r,fun cq dx=>⟨am,r,ap,aw,dx⟩,ak⟩
 ·exact h.elim
section
variable {P:aM}{S0:Env}{w0 w:bb}{n:Nat}{s:aj}{a:Act}
def Vk(af:Rel S0 w0 n s a w):∀{args:List aW} {p:Prop} {xs:List aG},mO s args=(p,some xs)->p->od w (tq S0 w0.heap.size w) xs (args.map a.eval).toArray:=by
 intro args;induction args with
 |nil=>intro p xs h _;simp only[mO,cA,b9]at h;obtain⟨_,rfl⟩:=h;exact⟨rfl,fun j x ac=>by simp at ac⟩
 |cons x r ba=>
  intro p xs h am;simp only[mO]at h;split at h
  ·rename_i q v eI vs ax aK;simp only[cA,b9]at h;obtain⟨rfl,rfl⟩:=h;have aa:=Vb af ax am.1;obtain⟨ab,au⟩:=ba aK am.2;refine⟨by simpa using ab,fun j bJ ac=>?_⟩;cases j with
   |zero=>simp at ac;subst ac;exact⟨_,rfl,aa⟩
   |succ j=>simp only[A8]at ac;obtain⟨u,hu,ao⟩:=au j bJ ac;exact⟨u,by simpa using hu,ao⟩
  ·simp at h
def Vl(af:Rel S0 w0 n s a w)(l:List Nat):∀{args:List aW} {p:Prop} {xs:List aG},mO s args=(p,some xs)->p->(∀i∈de s args,i∈l) ->
  od w (bO S0 w0.heap.size w (dy s l) (aL a)) xs (args.map a.eval).toArray:=by
 intro args;induction args with
 |nil=>intro p xs h _ _;simp only[mO,cA,b9]at h;obtain⟨_,rfl⟩:=h;exact⟨rfl,fun j x ac=>by simp at ac⟩
 |cons x r ba=>
  intro p xs h am al;simp only[mO]at h;split at h
  ·rename_i q v eI vs ax aK;simp only[cA,b9]at h;obtain⟨rfl,rfl⟩:=h;have aa:=OM af ax am.1 l (fun i ah=>al i (Ki kH ah));obtain⟨ab,au⟩:=ba aK am.2 (fun i ah=>al i (by
    simp only[de,hg];exact .inr ah))
   refine⟨by simpa using ab,fun j bJ ac=>?_⟩;cases j with
   |zero=>simp at ac;subst ac;exact⟨_,rfl,aa⟩
   |succ j=>simp only[A8]at ac;obtain⟨u,hu,ao⟩:=au j bJ ac;exact⟨u,by simpa using hu,ao⟩
  ·simp at h
def p6(s:aj)(args:List aW)(r:bH):aj:=
 match r.flat with
 |true=>s
 |false=>dy s (de s args)
def Kn{w w':bb}(h:Below w.heap.size w w'):w.grownBy w' none:=⟨h.os,h.tape,h.output,h.size,fun k ak _=>h.block k ak⟩
def od.append{S:Nat->Prop}{xs aV:List aG}{us vs:Array aI}(aa:od w S xs us)(ab:od w S aV vs):od w S (xs++aV) (us++vs):=by
 refine⟨by simp[aa.1,ab.1],fun j x ac=>?_⟩;by_cases ar:j<xs.length
 ·rw[kx ar]at ac;rw[G4 (by rw[aa.1];exact ar)];exact aa.2 j x ac
 ·rw[l_ (by omega)]at ac;rw[Ko (by rw[aa.1];omega),aa.1];exact ab.2 _ x ac
def DP{S:Nat->Prop}{B:Nat->Prop}{tm:Nat->aI}{v:ae}{u:aI}{g:FuncId}{caps:List aG}(h:dp w S B s tm v u)(aw:jX v=some (g,caps)) :
  ∃us:Array aI,u=.func (.func g) #[] us/\od w S caps us:=by
 unfold jX at aw;split at aw
 ·injection aw with aw;injection aw with A' vV
  subst A';subst vV;cases h;exact⟨#[],rfl,rfl,fun j x ac=>by simp at ac⟩
 ·rename_i we cs;injection aw with aw
  injection aw with A' vV
  subst A';subst vV;cases h with
  |jQ _ _ U lz=>
   refine⟨_,rfl,by simp,fun j x ac=>?_⟩;rw[eZ]at ac;cases ap:cs[j]? with
   |none=>rw[ap]at ac;cases ac
   |some c=>
    rw[ap]at ac;injection ac with ac
    subst ac;have ar:=(eQ.1 ap).1;exact⟨U j,by simp[DA ar],lz j c ap⟩
 ·cases aw
def od.mono{S S':Nat->Prop}{xs:List aG}{us:Array aI}(h:od w S xs us)(bS:∀b,S b->S' b):od w S' xs us:=
 ⟨h.1,fun j x ac=>let ⟨u,hu,ao⟩:=h.2 j x ac;⟨u,hu,cz.mono ao bS (fun _ _=>rfl)⟩⟩
def Rel.back{d:Nat}{r:bH}{v:aI}{w':bb}{S:Nat->Prop}(af:Rel S0 w0 n s a w)(aA:S0.m<=d/\d<n)(ad:Below w.heap.size w w')
  (ao:iT w' S r v)(bS:∀b,S b->(bO S0 w0.heap.size w s (aL a) b\/(w.heap.size<=b/\b<w'.heap.size)))(aw:∀b,r.ij v=some b->w.heap.size<=b):Rel S0 w0 n (Ab.put s d r.dj) (a.put (some d) v) w':=by
 have hf:∀b,(bO S0 w0.heap.size w s (aL a) b\/(w.heap.size<=b/\b<w'.heap.size))->bO S0 w0.heap.size w' s (aL a) b:=by
  intro b ew;rcases ew with h|⟨aa,ab⟩
  ·exact⟨h.1,s9 h.2.1 ad.size,h.2.2⟩
  ·refine⟨.inr (.inl (jc af.below.size aa)),ab,fun k ak=>?_⟩;have:=((af.rep k).gU ak).2;omega
 cases r with
 |x bP=>exact af.put aA (Kn ad) (fun j h=>by cases h) (cz.mono ao (fun b h=>hf b (bS b h)) (fun _ _=>rfl)) (fun b h=>by cases h) (fun b h=>by cases h)
 |b2 vs=>obtain⟨us,aF,al,ai⟩:=ao;exact af.put aA (Kn ad) (fun j h=>by cases h) ⟨us,aF,al,fun j x ac=>let ⟨u,hu,ao⟩:=ai j x ac;⟨u,hu,cz.mono ao (fun b h=>hf b (bS b h)) (fun _ _=>rfl)⟩⟩ (fun b h=>by cases h) (fun b h=>by cases h)
 |own e size xs=>obtain⟨us,bB,al,ai,hm,bk⟩:=ao;have jz:∀b,v.ownBlock=some b->nq S0 w0.heap.size b:=fun b h=>.inl (jc af.below.size (aw b h));refine af.put aA (Kn ad) (fun j h=>by cases h) ⟨us,bB,al.mono (fun b h=>hf b (bS b h.1)) (fun _ _=>rfl),ai,hm,jz⟩ aw (fun b ew=>?_);have zeA:v.ownBlock=some b:=ew;exact⟨us,bB,al.mono (fun c h=>⟨hf c (bS c h.1),fun e=>h.2 (by rw[zeA,e])⟩) (fun _ _=>rfl),ai,hm,jz⟩
def zeB(af:Rel S0 w0 n s a w){f:aW}{args:Array aW}{pp:Prop}{g:FuncId}{r5:List aG}(cC:callee s f args.toList=(pp,some (g,r5)))(r6:pp){post:aI->bb->Prop}(OS:tv P g)
  (pb:∀vs,pI ⟨bO S0 w0.heap.size w (dy s (de s args.toList)) (aL a),fun _=>False,0,fun _=>undef⟩ w->od w (bO S0 w0.heap.size w (dy s (de s args.toList)) (aL a)) r5 vs->Calls P g vs w fun kf w'=>∃v,kf=.returned v/\post v w')
  {o:Oper}(aB:∃ts,o.op=.call {callee:=.value f,args:=args,argTypes:=ts}){d:Nat}(eS:o.dst=some d){K:Act->bb->Prop}{Q:Exit->Act->bb->Prop}
  (ct:∀v w',post v w'->K (a.put (some d) v) w'):o.wp P a w K Q:=by
 obtain⟨ts,c4⟩:=aB;obtain⟨fn,ix,fJ,r7⟩:=OS;obtain⟨caps,xs,p,q,gd,hV,aK,ax,rfl,rfl⟩:∃caps xs p q gd,aJ s f=(p,gd)/\mO s args.toList=(q,some xs)/\jX gd=some (g,caps)/\pp=(p/\q)/\r5=xs++caps:=by
  unfold callee at cC;split at cC
  ·rename_i p gd q xs hV aK;split at cC
   ·rename_i bX caps ax;simp only[cA,b9]at cC;obtain⟨rfl,rfl,rfl⟩:=cC;exact⟨caps,xs,p,q,gd,hV,aK,ax,rfl,rfl⟩
   ·simp at cC
  ·simp at cC
 obtain⟨p7,am⟩:=r6;have oe:=af.aJ f (by rw[hV];exact p7);rw[hV]at oe;obtain⟨us,mP,hA⟩:=DP oe ax;have hm:args.map a.eval=(args.toList.map a.eval).toArray:=by apply rQ;simp
 have cP:(execOp a.eval o).run P w=.ok (.enter g (args.map a.eval++us)) w:=by simp only[execOp,c4,resolve,mP,Deferred.ofValue,Sem.run_bind,Sem.run_pure,Result.andThen_ok,invoke,callFunc,run_program,ix,fJ,r7,pP,hy];simp
 unfold Oper.wp;rw[cP];simp only[Oper.upon];rw[hm,eS];have tx:=af.lt.AO af.below;refine(pb _ ⟨fun b ad=>ad.2.1,fun b ad=>ad.elim,fun b _ ad=>ad.elim,tx,fun b _ ad=>ad.elim⟩ ((Vl af _ aK am (fun i ah=>ah)).append (hA.mono (fun b ad=>⟨ad.1,ad.2.1,fun k ak=>by
  have aB:(dy s (de s args.toList) k).aR=true:=by
   cases aB:(dy s (de s args.toList) k).aR with
   |true=>rfl
   |false=>rw[ks aB]at ak;cases ak
  rw[DN _ s k aB]at ak;exact ad.2.2 k ak⟩)))).mono ?_
 rintro e w' ⟨v,rfl,aF⟩;exact ct v w' aF
def OT(af:Rel S0 w0 n s a w){f:aW}{args:Array aW}{r:bH}(ap:p5 P s f args.toList r)
  {o:Oper}(aB:∃ts,o.op=.call {callee:=.value f,args:=args,argTypes:=ts}){d:Nat}(aA:S0.m<=d/\d<n)(eS:o.dst=some d){K:Act->bb->Prop}{Q:Exit->Act->bb->Prop}
  (ct:∀a' w',Rel S0 w0 n (Ab.put (p6 s args.toList r) d r.dj) a' w'->K a' w'):o.wp P a w K Q:=by
 obtain⟨ts,c4⟩:=aB;unfold p5 at ap;split at ap
 ·rename_i pp g r5 cC;obtain⟨r6,⟨fn,ix,fJ,r7⟩,pb⟩:=ap;obtain⟨caps,xs,p,q,gd,hV,aK,ax,rfl,rfl⟩:∃caps xs p q gd,aJ s f=(p,gd)/\mO s args.toList=(q,some xs)/\jX gd=some (g,caps)/\pp=(p/\q)/\r5=xs++caps:=by
   unfold callee at cC;split at cC
   ·rename_i p gd q xs hV aK;split at cC
    ·rename_i bX caps ax;simp only[cA,b9]at cC;obtain⟨rfl,rfl,rfl⟩:=cC;exact⟨caps,xs,p,q,gd,hV,aK,ax,rfl,rfl⟩
    ·simp at cC
   ·simp at cC
  obtain⟨p7,am⟩:=r6;have oe:=af.aJ f (by rw[hV];exact p7);rw[hV]at oe;obtain⟨us,mP,hA⟩:=DP oe ax;have hm:args.map a.eval=(args.toList.map a.eval).toArray:=by apply rQ;simp
  have cP:(execOp a.eval o).run P w=.ok (.enter g (args.map a.eval++us)) w:=by simp only[execOp,c4,resolve,mP,Deferred.ofValue,Sem.run_bind,Sem.run_pure,Result.andThen_ok,invoke,callFunc,run_program,ix,fJ,r7,pP,hy];simp
  unfold Oper.wp;rw[cP];simp only[Oper.upon];rw[hm,eS];have tx:=af.lt.AO af.below;cases fH:r.flat with
  |true=>
   have xv:p6 s args.toList r=s:=by unfold p6;rw[fH]
   rw[xv]at ct;refine(pb w (tq S0 w0.heap.size w) _ ⟨fun b ad=>ad.2,fun b ad=>ad.elim,fun b _ ad=>ad.elim,tx,fun b _ ad=>ad.elim⟩ ((Vk af aK am).append (hA.mono (fun b ad=>⟨ad.1,ad.2.1⟩)))).mono ?_;rintro e w' ⟨v,rfl,ad,ao,jz⟩;exact ct _ w' (af.back aA ad (ao.flat (S':=fun _=>False) fH) (fun b ad=>ad.elim) jz)
  |false=>
   have xv:p6 s args.toList r=dy s (de s args.toList):=by unfold p6;rw[fH]
   rw[xv]at ct;have bQ:=uI (de s args.toList) s af;refine(pb w (bO S0 w0.heap.size w (dy s (de s args.toList)) (aL a)) _ ⟨fun b ad=>ad.2.1,fun b ad=>ad.elim,fun b _ ad=>ad.elim,tx,fun b _ ad=>ad.elim⟩ ((Vl af _ aK am (fun i ah=>ah)).append (hA.mono (fun b ad=>⟨ad.1,ad.2.1,fun k ak=>by
    have aB:(dy s (de s args.toList) k).aR=true:=by
     cases aB:(dy s (de s args.toList) k).aR with
     |true=>rfl
     |false=>rw[ks aB]at ak;cases ak
    rw[DN _ s k aB]at ak;exact ad.2.2 k ak⟩)))).mono ?_
   rintro e w' ⟨v,rfl,ad,ao,jz⟩;exact ct _ w' (bQ.back aA ad ao (fun b h=>h) jz)
 ·exact ap.elim
def zeC(af:Rel S0 w0 n s a w):∀{args:List aW} {p:Prop} {xs:List aG},tw s args=(p,some xs)->p ->
  od w (tq S0 w0.heap.size w) xs (args.map a.eval).toArray:=by
 intro args;induction args with
 |nil=>intro p xs h _;simp only[tw,cA,b9]at h;obtain⟨_,rfl⟩:=h;exact⟨rfl,fun j x ac=>by simp at ac⟩
 |cons x r ba=>
  intro p xs h am;simp only[tw]at h;split at h
  ·rename_i q v eI vs ax aK;simp only[cA,b9]at h;obtain⟨rfl,rfl⟩:=h;have aa:=zeq af ax am.1;obtain⟨ab,au⟩:=ba aK am.2;refine⟨by simpa using ab,fun j y ac=>?_⟩;cases j with
   |zero=>simp at ac;subst ac;exact⟨a.eval x,by simp,aa⟩
   |succ j=>simp only[A8]at ac;obtain⟨u,hu,ao⟩:=au j y ac;exact⟨u,by simpa using hu,ao⟩
  ·simp at h
def zeD(af:Rel S0 w0 n s a w){f:aW}{args:Array aW}{d:Nat}{Kp:bH->Prop}{m:Prop}(ap:qV P (xu s f args.toList) Kp m)
  {o:Oper}(aB:∃ts,o.op=.call {callee:=.value f,args:=args,argTypes:=ts})(aA:S0.m<=d)(eS:o.dst=some d){K:Act->bb->Prop}{Q:Exit->Act->bb->Prop}
  (ct:∀r,Kp r->d<n/\∀a' w',Rel S0 w0 n (Ab.put s d r.dj) a' w'->K a' w')(hm:m->o.wp P a w K Q):o.wp P a w K Q:=by
 obtain⟨ts,c4⟩:=aB;unfold qV at ap;split at ap
 ·rename_i pp g r5 cC;obtain⟨r6,⟨r,⟨⟨fn,ix,fJ,r7⟩,pb⟩,fH,ak⟩|ht⟩:=ap;rotate_left
  ·exact hm ht
  obtain⟨hdn,ct⟩:=ct r ak;obtain⟨caps,xs,p,q,gd,hV,aK,ax,rfl,rfl⟩:∃caps xs p q gd,aJ s f=(p,gd)/\tw s args.toList=(q,some xs)/\jX gd=some (g,caps)/\pp=(p/\q)/\r5=xs++caps:=by
   unfold xu at cC;split at cC
   ·split at cC
    ·rename_i p gd q xs hV aK;split at cC
     ·rename_i bX caps ax;simp only[cA,b9]at cC;obtain⟨rfl,rfl,rfl⟩:=cC;exact⟨caps,xs,p,q,gd,hV,aK,ax,rfl,rfl⟩
     ·simp at cC
    ·simp at cC
   ·simp at cC
  obtain⟨p7,am⟩:=r6;have oe:=af.aJ f (by rw[hV];exact p7);rw[hV]at oe;obtain⟨us,mP,hA⟩:=DP oe ax;have hm:args.map a.eval=(args.toList.map a.eval).toArray:=by apply rQ;simp
  have cP:(execOp a.eval o).run P w=.ok (.enter g (args.map a.eval++us)) w:=by simp only[execOp,c4,resolve,mP,Deferred.ofValue,Sem.run_bind,Sem.run_pure,Result.andThen_ok,invoke,callFunc,run_program,ix,fJ,r7,pP,hy];simp
  unfold Oper.wp;rw[cP];simp only[Oper.upon];rw[hm,eS];have tx:=af.lt.AO af.below;refine(pb w (tq S0 w0.heap.size w) _ ⟨fun b ad=>ad.2,fun b ad=>ad.elim,fun b _ ad=>ad.elim,tx,fun b _ ad=>ad.elim⟩ ((zeC af aK am).append (hA.mono (fun b ad=>⟨ad.1,ad.2.1⟩)))).mono ?_;rintro e w' ⟨v,rfl,ad,ao,jz⟩;exact ct _ w' (af.back ⟨aA,hdn⟩ ad (ao.flat (S':=fun _=>False) fH) (fun b ad=>ad.elim) jz)
 ·exact hm ap
end
end
end Go.Ab
