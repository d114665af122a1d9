/- A part of the proof: lemmas and contracts of functions. -/
import Derived.Test.YtaalfcghmjkaeaaGreatDoorAbJ1
import Derived.Maps.AppendAt
import Derived.Laws.MakeOwn
import Derived.Lib.AppendZeros
set_option linter.all false
namespace Go.Ab
open Go Go.RowKit
variable [bf]
section
variable {P:Program}{S0:Env}{w0 w:World}{n:Nat}{s:ag}{a:Act}
def Mn(ah:Rel S0 w0 n s a w){o:Option Operand}{other b:Int}{q:Prop}(h:cN s o other=(q,some b))(br:q) :
  (o=none/\b=other)\/∃x k,o=some x/\a.eval x=.int k b:=by
 cases o with
 |none=>simp only[cN,cc,bS]at h;exact .inl ⟨rfl,h.2.symm⟩
 |some x=>
  have cW:=ah.aG x;simp only[cN]at h;split at h
  ·rename_i p k m e;simp only[cc,bS]at h;obtain⟨aa,ab⟩:=h;subst aa;subst ab;rw[e]at cW;exact .inr ⟨x,k,rfl,h5 (cW br)⟩
  ·simp at h
def u3(k:IntKind)(i:Int)(y:Nat)(code:BoundsCode)(aW:0<=i)(aa:i<=y) :
  (Instr.sliceBound (.int k i) y code).run P w=.ok i.toNat w:=run_sliceBound (P:=P) (w:=w) k i y code aW aa
def zaC(l:List UInt8)(x y:Int) :
  (⟨l.toArray⟩:ByteArray).extract x.toNat y.toNat=⟨(cutAt l x y).toArray⟩:=by
 apply ByteArray.ext;apply qk;simp only[cutAt];rw[ByteArray.data_extract,L7,L8];simp only[EF]
def bn.cut{S:Nat->Prop}{z:Nat}{xs:List (List af)}{b:Option Addr}{c:Nat}(h:bn w S (.list z xs) (.slice b xs.length c))(aK ai m:Nat)(aa:aK<=ai)(ab:ai<=m)(ar:m<=c)(aN:ai<=xs.length) :
  bn w S (.list z ((xs.take ai).drop aK)) (.slice (if m=aK then b else b.map (·.add (aK*z))) (ai-aK) (m-aK)):=by
 generalize aH:Value.slice b xs.length c=v at h;cases h with
 |kH bg c' _ hm aT=>
  simp only[Value.slice.injEq]at aH;obtain⟨rfl,_,rfl⟩:=aH;have u4:ai=0:=by simpa using aN
  subst u4;have dx:aK=0:=by omega
  subst dx;simp only[List.take_nil,List.drop_nil,Nat.sub_self];exact .kH _ _ _ (by omega) (fun ae=>by
   have ao:c=0:=by
    cases b with
    |none=>exact aT rfl
    |some b=>split at ae<;>simp at ae
   omega)
 |list bT cap _ _ U ap cU ao hm jL d7 bU=>
  simp only[Value.slice.injEq]at aH;obtain⟨rfl,_,rfl⟩:=aH;have hlen:((xs.take ai).drop aK).length=ai-aK:=by rw[eo,d'];omega
  by_cases he:ai=aK
  ·have u5:(xs.take ai).drop aK=[]:=ld (by omega);rw[u5];have:ai-aK=0:=by omega
   rw[this];exact .kH _ _ _ (by omega) (fun ae=>by split at ae<;>simp at ae)
  ·rw[au (by omega)];rw[<-hlen];have bO:∀(j:Nat) (c:af),((xs.take ai).drop aK).flatten[j]?=some c->xs.flatten[aK*z+j]?=some c:=by
    intro j c ac;rw[EB (fun x aj=>jL x (rU aj)),BE jL,h3,jl]at ac;split at ac
    ·exact ac
    ·cases ac
   refine .list (bT.add (aK*z)) _ _ _ (fun j=>U (aK*z+j)) (by rw[block_add];exact ap) (by unfold Addr.add;split<;>simp[cU]) (by omega) (by omega) (fun x aj=>jL x (rU (tw aj))) ?_ ?_
   ·intro j c ac;rw[Ei];exact d7 _ _ (bO j c ac)
   ·intro j c ac;exact bU _ _ (bO j c ac)
def w8(ah:Rel S0 w0 n s a w)(isSlice:Bool)(len cap:Nat){aK ai mx:Option Operand}{x y z:Int}{q r u:Prop}(tA:len<=cap)
  (qv:cN s aK 0=(q,some x))(zaD:cN s ai len=(r,some y))(w9:(mx=none/\u)\/(∃e,mx=some e/\cN s mx len=(u,some z)))(br:q)(an:r)(hu:u)
  (aW:0<=x)(aa:x<=y)(ab:y<=len)(aY:mx≠none->y<=z/\z<=len)(aT:ai=none->mx=none) :
  (Instr.sliceBounds isSlice len cap (aK.map a.eval) (ai.map a.eval) (mx.map a.eval)).run P w=.ok (x.toNat,y.toNat,if mx=none then cap else z.toNat) w:=by
 have al:=Mn ah qv br;have a1:=Mn ah zaD an;rcases w9 with⟨rfl,_⟩|⟨e,rfl,hm⟩
 ·simp only[BG,hB];rcases al with⟨rfl,rfl⟩|⟨zaE,w_,rfl,Ib⟩<;>rcases a1 with⟨rfl,Mo⟩|⟨zaF,EG,rfl,EH⟩
  ·simp[Instr.sliceBounds,Mo]
  ·simp[Instr.sliceBounds,EH,u3 (P:=P) (w:=w) EG y cap _ (by omega) (by omega)]
  ·simp[Instr.sliceBounds,Ib,Mo,u3 (P:=P) (w:=w) w_ x len _ (by omega) (by omega)]
  ·simp[Instr.sliceBounds,Ib,EH,u3 (P:=P) (w:=w) EG y cap _ (by omega) (by omega),u3 (P:=P) (w:=w) w_ x y.toNat _ (by omega) (by omega)]
 ·obtain⟨zop,zoq⟩:=aY (by simp);have dK:=Mn ah hm hu;rcases dK with⟨h,_⟩|⟨zor,fG,he,Se⟩
  ·cases h
  injection he with he;subst he
  rcases a1 with⟨rfl,Mo⟩|⟨zaF,EG,rfl,EH⟩
  ·have:=aT rfl;cases this
  rcases al with⟨rfl,rfl⟩|⟨zaE,w_,rfl,Ib⟩
  ·simp[Instr.sliceBounds,EH,Se,u3 (P:=P) (w:=w) fG z cap _ (by omega) (by omega),u3 (P:=P) (w:=w) EG y z.toNat _ (by omega) (by omega)]
  ·simp[Instr.sliceBounds,EH,Se,Ib,u3 (P:=P) (w:=w) fG z cap _ (by omega) (by omega),u3 (P:=P) (w:=w) EG y z.toNat _ (by omega) (by omega),u3 (P:=P) (w:=w) w_ x y.toNat _ (by omega) (by omega)]
def zaG{t:TypeId}{x:Prop×ad}{aK ai mx:Option Operand}(ak:(ir P s t x aK ai mx).1) :
  (∃l,x.2=.x (.one (.str l)))\/(∃z xs,x.2=.x (.one (.list z xs)))\/x.2=.x (.one .nil)\/(∃i e z xs,x.2=.alias i/\s i=.own e z xs)\/∃i aK len wh,x.2=.view i aK len wh:=by
 unfold ir at ak;split at ak
 ·exact .inl ⟨_,rfl⟩
 ·exact .inr (.inl ⟨_,_,rfl⟩)
 ·exact .inr (.inr (.inl rfl))
 ·split at ak
  ·rename_i h;exact .inr (.inr (.inr (.inl ⟨_,_,_,_,rfl,h⟩)))
  ·exact ak.elim
 ·exact .inr (.inr (.inr (.inr ⟨_,_,_,_,rfl⟩)))
 ·exact ak.elim
def Sf{s:ag}{tm:Nat->Value}{i:Nat}{v:Value}{b:Option Addr}{len c lo0:Nat}{wh:Bool}(aH:v=.slice b len c)(bq:(s i).aM=true)(hle:lo0+len<=(s i).len)(fT:c<=maxLen)
  (ae:b=none->c=0)(am:∀bT,b=some bT->∃g off,bT=⟨g,off,none⟩/\a' (s i) (tm i)=some g/\(0<len->off=lo0*(s i).size)/\(wh=true->lo0=0/\∃l,(s i).valOf (tm i)=.slice (some bT) l c)){S:Nat->Prop}{B:Nat->Prop}{w:World}
  (aK ai m z:Nat)(aY:z=(s i).size)(aa:aK<=ai)(ab:ai<=m)(ar:m<=c)(aN:ai<=len){wh':Bool}(BH:wh'=true->wh=true/\aK=0/\m=c) :
  cV w S B s tm (.view i (lo0+aK) (ai-aK) wh') (.slice (if m=aK then b else b.map (·.add (aK*z))) (ai-aK) (m-aK)):=by
 refine⟨bq,by omega,?_⟩;cases b with
 |none=>
  have Ic:=ae rfl;refine .inl ⟨?_,by omega⟩;have av:ai-aK=0:=by omega
  have aI:m-aK=0:=by omega
  simp[av,aI]
 |some bT=>
  obtain⟨g,off,rfl,aB,aw,hw⟩:=am bT rfl;by_cases rY:m=aK
  ·refine .inr ⟨g,off,m-aK,by rw[aC rY],by omega,by omega,aB,fun h=>by omega,fun h=>?_⟩;obtain⟨bD,b9,dw⟩:=BH h;obtain⟨d8,l,hN⟩:=hw bD;exact⟨by omega,l,by rw[hN,dw,b9];rfl⟩
  ·refine .inr ⟨g,off+aK*z,m-aK,by rw[au rY];simp[ln],by omega,by omega,aB,fun h=>by rw[aw (by omega),aY,j9],fun h=>?_⟩;obtain⟨bD,b9,dw⟩:=BH h;obtain⟨d8,l,hN⟩:=hw bD;refine⟨by omega,l,by rw[hN,dw,b9];simp⟩
def zaH{t:TypeId}{x:Prop×ad}{v:Value}{aK ai mx:Option Operand}(ah:Rel S0 w0 n s a w)(aj:dM S0 w0 s a w x v)(ak:(ir P s t x aK ai mx).1) :
  Yields P S0 w0 s a w (Instr.sliceAt t v (aK.map a.eval) (ai.map a.eval) (mx.map a.eval)) (ir P s t x aK ai mx).2:=by
 have i7:=zaG ak;obtain⟨p,x⟩:=x;dsimp only at i7;rcases i7 with⟨l,rfl⟩|⟨z,xs,rfl⟩|rfl|⟨i,e,z,xs,rfl,ap⟩|⟨i,lo0,len,wh,rfl⟩
 ·simp only[ir]at ak⊢;split at ak
  ·rename_i q qw r eN av aI;obtain⟨aa,ab,ar,aN,bD,b9,dw⟩:=ak;obtain⟨rfl,al⟩:=lp (aj aa);have hu:=rV aN;have ae:=w8 (P:=P) ah false l.length l.length (mx:=none) (u:=True) (z:=0) (eG _) av aI (.inl ⟨rfl,trivial⟩) ab ar trivial bD b9 dw (by simp) (by simp);simp only[BG,hB]at ae;refine⟨.string ⟨(cutAt l qw eN).toArray⟩,?_,bn.str _ ?_,rfl⟩
   ·simp[Instr.sliceAt,Instr.slice,run_underlying hu,HY,ae,zaC l qw eN]
   ·simp only[cutAt,eo,d'];omega
  ·exact ak.elim
 ·simp only[ir]at ak⊢;split at ak
  ·rename_i e size q qw r eN u xa b_ av aI b5;obtain⟨aa,ab,ar,aN,rfl,b9,dw,d8,hN,lY⟩:=ak;have an:=aj aa;obtain⟨i,hu,tB,b',_⟩:=oz b_;have EI:∃b c,v=.slice b xs.length c/\xs.length<=c:=by
    cases an with
    |kH b c _ _ _=>exact⟨b,c,rfl,cd _⟩
    |list bT cap _ _ _ _ _ ao=>exact⟨_,cap,rfl,ao⟩
   obtain⟨b,c,rfl,ao⟩:=EI;by_cases rZ:mx=none
   ·subst rZ;have ae:=w8 (P:=P) ah true xs.length c (mx:=none) (u:=True) (z:=0) ao av aI (.inl ⟨rfl,trivial⟩) ab ar trivial b9 dw (by omega) (by simp) (by simp);simp only[BG,hB]at ae;refine⟨_,?_,an.cut qw.toNat eN.toNat c (by omega) (by omega) (eG _) (by omega),rfl⟩;simp[Instr.sliceAt,Instr.slice,run_underlying hu,ae,run_sizeOf tB,b']
   ·obtain⟨em,rfl⟩:∃em,mx=some em:=Ie.1 rZ;have ae:=w8 (P:=P) ah true xs.length c (mx:=some em) (u:=u) (z:=xa) ao av aI (.inr ⟨em,rfl,b5⟩) ab ar aN b9 dw (by omega) (fun _=>⟨d8,hN⟩) lY;rw[au rZ]at ae;simp only[tC]at ae;refine⟨_,?_,an.cut qw.toNat eN.toNat xa.toNat (by omega) (by omega) (by omega) (by omega),rfl⟩;simp[Instr.sliceAt,Instr.slice,run_underlying hu,ae,run_sizeOf tB,b']
  ·exact ak.elim
 ·simp only[ir]at ak⊢;split at ak
  ·rename_i q qw r eN b_ av aI;obtain⟨aa,ab,ar,rfl,rfl⟩:=ak;obtain rfl:=qq (aj aa);obtain⟨i,hu,tB,b',_⟩:=oz b_;have ae:=w8 (P:=P) ah true 0 0 (mx:=none) (u:=True) (z:=0) (eG _) av aI (.inl ⟨rfl,trivial⟩) ab ar trivial (by omega) (by omega) (by omega) (by simp) (by simp);simp only[BG,hB]at ae;refine⟨_,?_,bn.nil,rfl⟩;simp[Instr.sliceAt,Instr.slice,run_underlying hu,ae,run_sizeOf tB,b']
  ·exact ak.elim
 ·simp only[ir,ap]at ak⊢;split at ak
  ·rename_i bV size q qw r eN u xa b_ av aI b5;obtain⟨aa,ab,ar,aN,rfl,b9,dw,d8,hN,lY⟩:=ak;obtain⟨rfl,kN⟩:=cV.wT (aj aa) ap;obtain⟨j,hu,tB,b',_⟩:=oz b_;have ai:=ah.rep i;rw[ap]at ai;obtain⟨us,bq,_,_,hm,_⟩:=ai;have EI:∃b c,aJ a i=.slice b xs.length c/\xs.length<=c/\c<=maxLen/\(b=none->c=0)/\∀bT,b=some bT->∃g,bT=⟨g,0,none⟩/\a' (s i) (aJ a i)=some g:=by
    rcases bq.2 with⟨h,aW⟩|⟨g,cap,cur,aH,_,_,ao,fT,_⟩
    ·exact⟨none,0,by rw[h,aW],by omega,by simp,fun _=>rfl,fun bT h=>(by cases h)⟩
    ·exact⟨_,cap,aH,ao,fT,fun h=>(by cases h),fun bT h=>by injection h with h;subst h;exact⟨g,rfl,by rw[ap];show Value.ownBlock _=_;rw[aH];rfl⟩⟩
   obtain⟨b,c,aH,tA,fT,Mp,Mq⟩:=EI;have ki:=fun (m:Nat) (wh':Bool) ab ar (BH:wh'=true->qw.toNat=0/\m=c)=>Sf (s:=s) (tm:=aJ a) (i:=i) (lo0:=0) (wh:=true) (S:=bR S0 w0.heap.size w s (aJ a)) (B:=lf S0 w0.heap.size) (w:=w) aH kN (by rw[ap];simp[ad.len]) fT Mp
    (fun bT Id=>by obtain⟨g,aa,ab⟩:=Mq bT Id;exact⟨g,0,aa,ab,fun _=>by simp,fun _=>⟨rfl,_,by rw[ap];exact(by rw[aH,Id]:aJ a i=_)⟩⟩) qw.toNat eN.toNat m z (by rw[ap];rfl) (by omega) ab ar (by omega) (wh':=wh') (fun h=>⟨rfl,BH h⟩)
   have fV:a.eval (.tmp i)=aJ a i:=rfl;by_cases rZ:mx=none
   ·subst rZ;have ae:=w8 (P:=P) ah true xs.length c (mx:=none) (u:=True) (z:=0) tA av aI (.inl ⟨rfl,trivial⟩) ab ar trivial b9 dw (by omega) (by simp) (by simp);simp only[BG,hB]at ae;have:=ki c (aK.isNone&&(none:Option Operand).isNone) (by omega) (eG _) (fun h=>⟨by
     have al:aK=none:=by simpa using h
     subst al;simp[cN]at av;rw[<-av.2];rfl,rfl⟩)
    rw[f_]at this;refine⟨_,?_,this,rfl⟩;rw[aH];simp[Instr.sliceAt,Instr.slice,run_underlying hu,ae,run_sizeOf tB,b']
   ·obtain⟨em,rfl⟩:∃em,mx=some em:=Ie.1 rZ;have ae:=w8 (P:=P) ah true xs.length c (mx:=some em) (u:=u) (z:=xa) tA av aI (.inr ⟨em,rfl,b5⟩) ab ar aN b9 dw (by omega) (fun _=>⟨d8,hN⟩) lY;rw[au rZ]at ae;simp only[tC]at ae;have:=ki xa.toNat (aK.isNone&&(some em).isNone) (by omega) (by omega) (fun h=>by simp at h);rw[f_]at this;refine⟨_,?_,this,rfl⟩;rw[aH];simp[Instr.sliceAt,Instr.slice,run_underlying hu,ae,run_sizeOf tB,b']
  ·exact ak.elim
 ·simp only[ir]at ak⊢;split at ak
  ·rename_i bV size q qw r eN u xa b_ av aI b5;obtain⟨aa,ab,ar,aN,bD,b9,dw,d8,hN,lY⟩:=ak;obtain⟨kN,hle,pw⟩:=aj aa;obtain⟨j,hu,tB,b',_⟩:=oz b_;have EI:∃b c,v=.slice b len c/\len<=c/\c<=maxLen/\(b=none->c=0)/\∀bT,b=some bT->∃g off,bT=⟨g,off,none⟩/\a' (s i) (aJ a i)=some g/\(0<len->off=lo0*(s i).size)/\(wh=true->lo0=0/\∃l,(s i).valOf (aJ a i)=.slice (some bT) l c):=by
    rcases pw with⟨h,aW⟩|⟨g,off,cap,aH,ao,fT,am,aY,hw⟩
    ·exact⟨none,0,by rw[h,aW],by omega,by simp,fun _=>rfl,fun bT h=>(by cases h)⟩
    ·exact⟨_,cap,aH,ao,fT,fun h=>(by cases h),fun bT h=>by injection h with h;subst h;exact⟨g,off,rfl,am,aY,hw⟩⟩
   obtain⟨b,c,aH,tA,fT,Mp,Mq⟩:=EI;have ki:=fun (m:Nat) (wh':Bool) ab ar (BH:wh'=true->wh=true/\qw.toNat=0/\m=c)=>Sf (s:=s) (tm:=aJ a) (i:=i) (lo0:=lo0) (wh:=wh) (S:=bR S0 w0.heap.size w s (aJ a)) (B:=lf S0 w0.heap.size) (w:=w) aH kN hle fT Mp
    Mq qw.toNat eN.toNat m size bD.symm (by omega) ab ar (by omega) (wh':=wh') BH
   by_cases rZ:mx=none
   ·subst rZ;have ae:=w8 (P:=P) ah true len c (mx:=none) (u:=True) (z:=0) tA av aI (.inl ⟨rfl,trivial⟩) ab ar trivial b9 dw (by omega) (by simp) (by simp);simp only[BG,hB]at ae;have:=ki c (wh&&(aK.isNone&&(none:Option Operand).isNone)) (by omega) (eG _) (fun h=>by
     rw[b4]at h;have al:aK=none:=by simpa using h.2
     subst al;simp[cN]at av;exact⟨h.1,by rw[<-av.2];rfl,rfl⟩)
    refine⟨_,?_,this,rfl⟩;rw[aH];simp[Instr.sliceAt,Instr.slice,run_underlying hu,ae,run_sizeOf tB,b']
   ·obtain⟨em,rfl⟩:∃em,mx=some em:=Ie.1 rZ;have ae:=w8 (P:=P) ah true len c (mx:=some em) (u:=u) (z:=xa) tA av aI (.inr ⟨em,rfl,b5⟩) ab ar aN b9 dw (by omega) (fun _=>⟨d8,hN⟩) lY;rw[au rZ]at ae;simp only[tC]at ae;have:=ki xa.toNat (wh&&(aK.isNone&&(some em).isNone)) (by omega) (by omega) (fun h=>by simp at h);refine⟨_,?_,this,rfl⟩;rw[aH];simp[Instr.sliceAt,Instr.slice,run_underlying hu,ae,run_sizeOf tB,b']
  ·exact ak.elim
def map_mk{α β:Type}(f:α->β)(l:List α):Array.map f ⟨l⟩=⟨l.map f⟩:=by apply qk;simp
def mM{m:Sem Value}{v:Value}(h:m.run P w=.ok v w):((do pure (.value (<-m)):Sem Next)).run P w=.ok (.value v) w:=by simp[h]
def Sg(ah:Rel S0 w0 n s a w):∀(l:List Operand) {p:Prop} {cs:List af},qo (l.map (Ab.aG s))=(p,some cs)->p ->
  l.length=cs.length/\∀(j:Nat) (c:af),cs[j]?=some c->bn w (bR S0 w0.heap.size w s (aJ a)) c (a.eval ((l[j]?).getD (.tmp 0)))
 |[],p,cs,h,_=>by simp only[u6,qo,cc,bS]at h;obtain⟨_,rfl⟩:=h;exact⟨rfl,fun j c ac=>by simp at ac⟩
 |x::l,p,cs,h,ak=>by
  simp only[iw]at h;have cW:=ah.aG x;generalize Ab.aG s x=q at h cW;obtain⟨q,v⟩:=q;unfold qo at h;split at h
  ·rename_i e;cases e
  ·rename_i dQ c r e;injection e with av aI
   injection av with av b5;subst av;subst b5;subst aI
   split at h
   ·rename_i hO cs' e;simp only[cc,bS]at h;obtain⟨rfl,rfl⟩:=h;obtain⟨aa,ab⟩:=Sg ah l e ak.2;refine⟨by simp[aa],fun j c' ac=>?_⟩;cases j with
    |zero=>simp at ac;subst ac;exact cW ak.1
    |succ j=>simp at ac;simpa using ab j c' ac
   ·simp at h
  ·simp at h
def Ig(ah:Rel S0 w0 n s a w):∀(l:List Operand) {p:Prop} {cs:List (af⊕(Nat×Nat))},jM (l.map (Ab.aG s))=(p,some cs)->p ->
  l.length=cs.length/\∀(j:Nat) (c:af⊕(Nat×Nat)),cs[j]?=some c->uZ w (bR S0 w0.heap.size w s (aJ a)) s (aJ a) c (a.eval ((l[j]?).getD (.tmp 0)))
 |[],p,cs,h,_=>by simp only[u6,jM,cc,bS]at h;obtain⟨_,rfl⟩:=h;exact⟨rfl,fun j c ac=>by simp at ac⟩
 |x::l,p,cs,h,ak=>by
  simp only[iw]at h;have cW:=ah.aG x;generalize Ab.aG s x=q at h cW;obtain⟨q,v⟩:=q;unfold jM at h;split at h
  ·rename_i e;cases e
  ·rename_i dQ c r e;injection e with av aI
   injection av with av b5;subst av;subst b5;subst aI
   split at h
   ·rename_i hO cs' e;simp only[cc,bS]at h;obtain⟨rfl,rfl⟩:=h;obtain⟨aa,ab⟩:=Ig ah l e ak.2;refine⟨by simp[aa],fun j c' ac=>?_⟩;cases j with
    |zero=>simp at ac;subst ac;exact cW ak.1
    |succ j=>simp at ac;simpa using ab j c' ac
   ·simp at h
  ·rename_i dQ i off r e;injection e with av aI
   injection av with av b5;subst av;subst b5;subst aI
   split at h
   ·rename_i hO cs' e;simp only[cc,bS]at h;obtain⟨rfl,rfl⟩:=h;obtain⟨aa,ab⟩:=Ig ah l e ak.2.2;refine⟨by simp[aa],fun j c' ac=>?_⟩;cases j with
    |zero=>simp at ac;subst ac;rw[qm,aC ak.2.1];exact cW ak.1
    |succ j=>simp at ac;simpa using ab j c' ac
   ·simp at h
  ·rename_i dQ i off r e;injection e with av aI
   injection av with av b5;subst av;subst b5;subst aI
   split at h
   ·rename_i hO cs' e;simp only[cc,bS]at h;obtain⟨rfl,rfl⟩:=h;obtain⟨aa,ab⟩:=Ig ah l e ak.2;refine⟨by simp[aa],fun j c' ac=>?_⟩;cases j with
    |zero=>simp at ac;subst ac;rw[qm,au (by simp),yU];exact cW ak.1
    |succ j=>simp at ac;simpa using ab j c' ac
   ·simp at h
  ·simp at h
def zaI{fn:Fn}{first captured:Array Operand}(ah:Rel S0 w0 n s a w)(ak:(u1 s fn first.toList captured.toList).1) :
  Yields P S0 w0 s a w (Instr.makeFunc fn (first.map a.eval) (captured.map a.eval)) (u1 s fn first.toList captured.toList).2:=by
 unfold u1 at ak⊢;split at ak
 ·rename_i f ay;split at ak
  ·rename_i p cs e;obtain⟨aa,ab⟩:=Sg ah captured.toList e ak;have Mr:first=#[]:=by cases first;simp_all
   subst Mr;refine⟨.func (.func f) #[] (captured.map a.eval),by simp[Instr.makeFunc],?_,rfl⟩;have he:captured.map a.eval=((List.range cs.length).map fun j=>a.eval ((captured.toList[j]?).getD (.tmp 0))).toArray:=by
    apply qk;rw[<-aa];apply tz;intro j;simp only[Array.toList_map,dO];by_cases ac:j<captured.toList.length
    ·have eI:j<captured.size:=by simpa using ac
     rw[BF ac,cn ac];simp[eI]
    ·rw[lX (by omega),lX (by simp at ac⊢;omega)];rfl
   rw[he];exact bn.ht f cs _ ab
  ·split at ak
   ·rename_i p cs e;obtain⟨aa,ab⟩:=Ig ah captured.toList e ak;have Mr:first=#[]:=by cases first;simp_all
    subst Mr;refine⟨.func (.func f) #[] (captured.map a.eval),by simp[Instr.makeFunc],⟨_,rfl,by simpa using aa,fun j c ac=>?_⟩,rfl⟩;have aq:j<captured.toList.length:=by rw[aa];exact(ep.1 ac).1
    have aO:j<captured.size:=by simpa using aq
    have:=ab j c ac;rw[cn aq]at this;refine⟨a.eval captured[j],by simp[aO],?_⟩;simpa using this
   ·exact ak.elim
 ·exact ak.elim
def zaJ(op:BinOp)(t:TypeId)(x y:Operand)(ah:Rel S0 w0 n s a w)(ak:(qp P s op t x y).1) :
  Yields P S0 w0 s a w (do eqGuard op t x y (a.eval x) (a.eval y);binOp op t (a.eval x) (a.eval y)) (qp P s op t x y).2:=by
 unfold qp at ak⊢;cases aS:Eo y with
 |true=>obtain rfl:=Z9 aS;rw[aS,cond_true]at ak;exact Z_ op t x (ah.aG x) ak
 |false=>rw[aS,cond_false]at ak;exact Z' op t x y (ah.aG x) (ah.aG y) ak
def zaK(ah:Rel S0 w0 n s a w)(o:Oper)(ak:(dP P s o.op).1) :
  ∃v,(execOp a.eval o).run P w=.ok (.value v) w/\ll S0 w0 s a w (dP P s o.op).2 v/\(dP P s o.op).2.aM=false:=by
 obtain⟨dst,op,type,pos,after,guard⟩:=o;dsimp only at ak⊢;cases op with
 |move x=>exact⟨_,rfl,ah.aG x ak,ah.RN x⟩
 |assign x=>exact⟨_,rfl,ah.look x,RM x⟩
 |pick c x y=>
  obtain⟨v,aa,ab,ar⟩:=zaa (P:=P) (ah.aG c) (ah.aG x) (ah.aG y) ak;refine⟨v,?_,ab,ar⟩;simp only[execOp];cases ae:(asBool (a.eval c)).run P w with
  |ok b w'=>
   simp only[Sem.run_bind,ae,Result.andThen_ok,Sem.run_pure]at aa⊢;injection aa with aa aN
   rw[aa,aN]
  |halt e w'=>simp only[Sem.run_bind,ae,Result.andThen_halt]at aa;cases aa
 |load t x=>
  by_cases If:∃p i off,Ab.aG s x=(p,.ds i off)
  ·obtain⟨p,i,off,e⟩:=If;have cW:=ah.aG x;simp only[dP,nx,e]at ak cW⊢;cases am:tk P t with
   |one=>rw[am]at ak;obtain⟨ef,b,aH,bW,ao,ae⟩:=cW ak;refine⟨.pointer (some ⟨b,off,none⟩),?_,⟨b,rfl,ae⟩,rfl⟩;simp only[execOp,aH];refine mM ?_;simp[Instr.loadAt,Instr.sureAddr,loadVar,H8 (w:=w) am,ao]
   |_=>rw[am]at ak;exact ak.elim
  have Sh:nx P s t (Ab.aG s x)=iu s (Ab.aG s x).2 (js (tk P t) (ea P t) (Ab.aG s x).1 (Ab.mem s (Ab.aG s x).2)):=by
   unfold nx;split
   ·rename_i e;exact absurd ⟨_,_,_,e⟩ If
   ·rfl
  have hv:(js (tk P t) (ea P t) (Ab.aG s x).1 (Ab.mem s (Ab.aG s x).2)).1:=by
   simp only[dP,Sh]at ak;rcases Ep s (Ab.aG s x).2 (js (tk P t) (ea P t) (Ab.aG s x).1 (Ab.mem s (Ab.aG s x).2))with e|⟨p,i,off,d,av,_,_,eH⟩
   ·rw[e]at ak;exact ak
   ·rw[eH]at ak;rw[av];exact ak
  obtain⟨v,aa,ab,ar⟩:=R_ (P:=P) (t:=t) (fun ak cs hm=>ah.mem (ah.aG x ak) hm) hv;simp only[dP,Sh];rcases Ep s (Ab.aG s x).2 (js (tk P t) (ea P t) (Ab.aG s x).1 (Ab.mem s (Ab.aG s x).2))with e|⟨p,i,off,d,av,aI,b5,eH⟩
  ·rw[e];exact⟨v,mM aa,ab,ar⟩
  ·rw[eH];refine⟨v,mM aa,?_,rfl⟩;have al:=ah.rep (b0 i off);rw[b5]at al;obtain⟨aw,cs,b,aF,aP,a7,b1⟩:=al;refine⟨?_,aw⟩;have am:tk P t=.one:=by
    have aW:=mH Prod.snd av;cases hm:Ab.mem s (Ab.aG s x).2 with
    |none=>rw[hm]at aW;cases aW
    |some cs=>
     rw[hm]at aW;simp only[js]at aW;cases am:tk P t with
     |one=>rfl
     |agg m=>rw[am]at aW;simp[tr,Br]at aW
     |bad=>rw[am]at aW;simp[tr,Br]at aW
   have cW:ll S0 w0 s a w (Ab.aG s x).2 (a.eval x):=by
    refine ah.aG x ?_;cases hm:Ab.mem s (Ab.aG s x).2 with
    |none=>rw[hm]at hv;exact hv.elim
    |some cs=>
     rw[hm,am]at hv;simp only[js]at hv;cases cs with
     |nil=>simp only[tr]at hv;split at hv<;>exact hv.elim
     |cons c cs=>exact hv
   rw[aI]at cW;obtain⟨bg,gb,cm⟩:=cW;rw[a7]at cm;injection cm with cm
   subst cm;rw[gb]at aa;simp[Instr.loadAt,Instr.sureAddr,loadVar,H8 (w:=w) am,b1]at aa;rw[<-aa];simp[aJ]
 |nilCheck x=>
  simp only[dP]at ak⊢;have cW:=ah.aG x;have cp:=ah.RN x;cases qx:L3 (Ab.aG s x).2 with
  |false=>rw[qx]at ak;exact ak.elim
  |true=>
   rw[qx]at ak;have an:=cW ak;refine⟨a.eval x,?_,an,cp⟩;have zaL:∃bT,a.eval x=.pointer (some bT):=by
    cases aj:(Ab.aG s x).2 with
    |ptr i off=>rw[aj]at an;obtain⟨b,h,_⟩:=an;exact⟨_,h⟩
    |dX i k off=>rw[aj]at an;obtain⟨b,h,_⟩:=an;exact⟨_,h⟩
    |elem cs=>rw[aj]at an;obtain⟨bT,h,_⟩:=an;exact⟨_,h⟩
    |_=>rw[aj]at qx;cases qx
   obtain⟨bT,Id⟩:=zaL;simp only[execOp,Id];rfl
 |binOp op t x y Ms=>obtain⟨v,aa,ab,ar⟩:=zaJ (P:=P) op t x y ah ak;exact⟨v,mM aa,ab,ar⟩
 |unOp op t x=>obtain⟨v,aa,ab,ar⟩:=zay (P:=P) (ah.aG x) ak;exact⟨v,mM aa,ab,ar⟩
 |convert src dst x=>obtain⟨v,aa,ab,ar⟩:=zaB (P:=P) ah (ah.aG x) ak;exact⟨v,mM aa,ab,ar⟩
 |slice t x aK ai mx=>obtain⟨v,aa,ab,ar⟩:=zaH (P:=P) ah (ah.aG x) ak;exact⟨v,mM aa,ab,ar⟩
 |fieldAddr t x f=>obtain⟨v,aa,ab,ar⟩:=zai (P:=P) (ah.aG x) ak;exact⟨v,mM aa,ab,ar⟩
 |field t x f=>obtain⟨v,aa,ab,ar⟩:=zaj (P:=P) (ah.aG x) ak;exact⟨v,mM aa,ab,ar⟩
 |indexAddr t x i=>obtain⟨v,aa,ab,ar⟩:=zao (P:=P) ah (ah.aG x) (ah.aG i) ak;exact⟨v,mM aa,ab,ar⟩
 |index t x i=>obtain⟨v,aa,ab,ar⟩:=zap (P:=P) (ah.aG x) (ah.aG i) ak;exact⟨v,mM aa,ab,ar⟩
 |makeFunc fn first captured=>obtain⟨v,aa,ab,ar⟩:=zaI (P:=P) ah ak;exact⟨v,mM aa,ab,ar⟩
 |lookup t x k ok=>obtain⟨v,aa,ab,ar⟩:=zav (P:=P) ah (ah.aG x) (ah.aG k) ak;exact⟨v,mM aa,ab,ar⟩
 |extract x i=>obtain⟨v,aa,ab,ar⟩:=zaq (P:=P) (ah.aG x) ak;exact⟨v,mM aa,ab,ar⟩
 |call c=>
  obtain⟨callee,⟨args⟩,⟨argTypes⟩⟩:=c;simp only[dP]at ak⊢;unfold rO at ak⊢;split at ak
  ·split at ak
   ·obtain⟨v,aa,ab,ar⟩:=zar (P:=P) (ty:=type) ah (ah.aG _) ak;refine⟨v,?_,ab,ar⟩;simp only[execOp,resolve,Sem.run_bind,Sem.run_pure,Result.andThen_ok,invoke,builtin,map_mk,iw,u6];exact mH (fun r=>Result.andThen r fun (a:Value) w'=>Result.ok (Next.value a) w') aa
   ·exact ak.elim
  ·split at ak
   ·obtain⟨v,aa,ab,ar⟩:=zas (P:=P) (ty:=type) (ah.aG _) ak;refine⟨v,?_,ab,ar⟩;simp only[execOp,resolve,Sem.run_bind,Sem.run_pure,Result.andThen_ok,invoke,builtin,map_mk,iw,u6];exact mH (fun r=>Result.andThen r fun (a:Value) w'=>Result.ok (Next.value a) w') aa
   ·exact ak.elim
  ·split at ak
   ·obtain⟨v,aa,ab,ar⟩:=zaw (P:=P) (ts:=⟨argTypes⟩) (ty:=type) (ah.aG _) (ah.aG _) ak;refine⟨v,?_,ab,ar⟩;simp only[execOp,resolve,Sem.run_bind,Sem.run_pure,Result.andThen_ok,invoke,builtin,map_mk,iw,u6];exact mH (fun r=>Result.andThen r fun (a:Value) w'=>Result.ok (Next.value a) w') aa
   ·exact ak.elim
  ·split at ak
   ·obtain⟨v,aa,ab,ar⟩:=zax (P:=P) (ts:=⟨argTypes⟩) (ty:=type) (ah.aG _) (ah.aG _) ak;refine⟨v,?_,ab,ar⟩;simp only[execOp,resolve,Sem.run_bind,Sem.run_pure,Result.andThen_ok,invoke,builtin,map_mk,iw,u6];exact mH (fun r=>Result.andThen r fun (a:Value) w'=>Result.ok (Next.value a) w') aa
   ·exact ak.elim
  ·exact ak.elim
 |_=>exact ak.elim
end
end Go.Ab
namespace Go.Ab
open Go Go.RowKit
variable [bf]
section
variable {P:Program}{S0:Env}{w0 w:World}{n:Nat}{s:ag}{a:Act}
def Si{S:Nat->Prop}{us:List Value}(h:us.all tn=true):cj w S (us.map tl) us:=by
 refine⟨by simp,fun j c ac=>?_⟩;rw[dO]at ac;cases hu:us[j]? with
 |none=>rw[hu]at ac;cases ac
 |some u=>
  rw[hu]at ac;injection ac with ac
  subst ac;exact⟨u,rfl,Eh (fm.1 h u (iq hu))⟩
def zeroOf(P:Program)(t:TypeId):Option (List af):=
 match P.info? t with
 |some i=>match i.zero with
  |some z=>if z.cells.toList.all tn then some (z.cells.toList.map tl)else none
  |none=>none
 |none=>none
def Mt{t:TypeId}{cs:List af}(h:zeroOf P t=some cs)(S:Nat->Prop):∃z,(zeroValue t).run P w=.ok z w/\cj w S cs z.cells.toList:=by
 unfold zeroOf at h;split at h
 ·rename_i i ai;split at h
  ·rename_i z aY;split at h
   ·rename_i fM;injection h with h
    subst h;exact⟨z,by simp[zeroValue,typeInfo,ai,aY],Si fM⟩
   ·cases h
  ·cases h
 ·cases h
def az.cells:az->List af
 |.one c=>[c]
 |.agg cs=>cs
def cg.cells{S:Nat->Prop}{x:az}{v:Value}(h:cg w S x v):cj w S x.cells v.cells.toList:=by
 cases x with
 |one c=>
  have aa:v.cells=#[v]:=by have:=bn.LX h;cases v<;>first|rfl|(simp[Value.oneCell']at this)
  rw[aa];refine⟨rfl,fun j c' ac=>?_⟩;cases j with
  |zero=>simp[az.cells]at ac;subst ac;exact⟨v,rfl,h⟩
  |succ j=>simp[az.cells]at ac
 |agg cs=>obtain⟨us,rfl,al⟩:=h;exact al
def cj.xb{S:Nat->Prop}{cs:List af}{us:List Value}(h:cj w S cs us):∀u∈us,u.oneCell'=true:=by
 intro u hu;obtain⟨j,ac⟩:=lh hu;have aq:j<cs.length:=by have:=(ep.1 ac).1;have:=h.1;omega
 obtain⟨mG,eZ,an⟩:=h.2 j cs[j] (cn aq);rw[ac]at eZ;injection eZ with eZ;subst eZ
 exact an.LX
def Sj{b:Nat}(o:Obj)(h:bR S0 w0.heap.size w s (aJ a) b):bR S0 w0.heap.size (w.alloc o) s (aJ a) b/\b≠w.heap.size:=
 ⟨⟨h.1,by have:=h.2.1;simp;omega,h.2.2⟩,by have:=h.2.1;omega⟩
def Rel.zaM{d i off b:Nat}{t:TypeId}(ah:Rel S0 w0 n s a w)(ax:S0.m<=d/\d<n)(ae:a' (s i) (aJ a i)=some b) :
  Rel S0 w0 n (Ab.put s d (.ds i off)) (a.put (some d) (.pointer (some ⟨w.heap.size,0,none⟩))) (w.alloc (.cells #[.pointer (some ⟨b,off,none⟩)] t)):=by
 have aq:∀k c,a' (s k) (aJ a k)=some c->c<w.heap.size:=fun k c ao=>((ah.rep k).gi ao).2;have aw:(s i).aM=true:=by
  cases aw:(s i).aM with
  |true=>rfl
  |false=>rw[jm aw]at ae;cases ae
 refine ah.put ax (World.grownBy_alloc w _ none) (fun j h=>?_) ⟨w.heap.size,b,rfl,⟨.inr (.inl ah.below.size),by simp,fun k am=>?_⟩,?_,ae⟩ (fun c ao=>by cases ao) (fun c ao=>by cases ao)
 ·obtain rfl:i=j:=by simpa[ad.refs]using h
  exact aw
 ·have:=aq k _ am;omega
 ·rw[cell_of_row _ w.heap.size 0 _ t (0,0) (heap_alloc_new w _)];rfl
def Rel.Mu{d:Nat}{cs:List af}{arr:Array Value}{t:TypeId}(ah:Rel S0 w0 n s a w)(ax:S0.m<=d/\d<n)(al:cj w (bR S0 w0.heap.size w s (aJ a)) cs arr.toList) :
  Rel S0 w0 n (Ab.put s d (.box cs)) (a.put (some d) (.pointer (some ⟨w.heap.size,0,none⟩))) (w.alloc (.cells arr t)):=by
 have ae:∀b,bR S0 w0.heap.size w s (aJ a) b->(w.alloc (.cells arr t)).heap[b]?=w.heap[b]?:=fun b ae=>Below.heap_alloc w _ b ae.2.1;refine ah.put ax (World.grownBy_alloc w _ none) (fun j h=>by cases h) ⟨_,arr,t,rfl,heap_alloc_new w _,al.mono (fun b ae=>(Sj _ ae).1) ae,.inl ah.below.size⟩ ?_ ?_
 ·intro b ae;have:w.heap.size=b:=by simpa[a']using ae
  omega
 ·intro b et;have:w.heap.size=b:=by simpa[a']using et
  subst this;exact⟨_,arr,t,rfl,heap_alloc_new w _,al.mono (fun b ae=>Sj _ ae) ae,.inl ah.below.size⟩
def Rel.BI{d e size:Nat}{xs:List (List af)}{v:Value}{us:List Value}{w':World}(ah:Rel S0 w0 n s a w)(ax:S0.m<=d/\d<n)
  (aB:w.grownBy w' none)(bq:w'.h0 0 e size v xs.length us)(al:cj w (bR S0 w0.heap.size w s (aJ a)) xs.flatten us)(aj:∀x∈xs,x.length=size)(hm:xs.length<=maxLen)
  (ay:∀b,v.ownBlock=some b->w.heap.size<=b) :
  Rel S0 w0 n (Ab.put s d (.own e size xs)) (a.put (some d) v) w':=by
 have ae:∀b,bR S0 w0.heap.size w s (aJ a) b->w'.heap[b]?=w.heap[b]?:=fun b ae=>aB.block b ae.2.1 (by simp);have da:∀b,bR S0 w0.heap.size w s (aJ a) b->bR S0 w0.heap.size w' s (aJ a) b:=fun b ae=>⟨ae.1,u0 ae.2.1 aB.size,ae.2.2⟩
 refine ah.put ax aB (fun j h=>by cases h) ⟨us,bq,al.mono da ae,aj,hm,fun b ae=>.inl (iJ ah.below.size (ay b ae))⟩ ay ?_;intro b et;have:=ay b et;exact⟨us,bq,al.mono (fun bg cm=>⟨da bg cm,by have:=cm.2.1;omega⟩) ae,aj,hm,fun b ae=>.inl (iJ ah.below.size (ay b ae))⟩
def cl{α:Type}(cs:List α)(off:Nat)(vs:List α):List α:=cs.take off++vs++cs.drop (off+vs.length)
def cj.cl{S:Nat->Prop}{cs vs:List af}{us ws:List Value}(h:cj w S cs us)(k:cj w S vs ws)(off:Nat):cj w S (cl cs off vs) (cl us off ws):=by
 have aa:=h.1;have aF:=k.1;refine⟨by simp only[Ab.cl,eE,d',eo,aa,aF],fun j c ac=>?_⟩;simp only[Ab.cl,pg]at ac⊢;rw[xc]at ac⊢;simp only[d',aa]at ac⊢;split at ac
 ·rename_i aq;rw[aC aq];rw[jl]at ac⊢;split at ac
  ·rename_i nC;rw[aC nC];exact h.2 _ _ ac
  ·cases ac
 ·rename_i k';rw[au k'];rw[xc]at ac⊢;rw[aF];split at ac
  ·rename_i aq;rw[aC aq];exact k.2 _ _ ac
  ·rename_i zaN;rw[au zaN];rw[h3]at ac⊢;exact h.2 _ _ ac
def Rel.write{i:Nat}{r:ad}{b:Nat}{w':World}(ah:Rel S0 w0 n s a w)(ae:a' (s i) (aJ a i)=some b)(aB:w.grownBy w' (some b))(b':w'.heap.size=w.heap.size)
  (h2:a' r (aJ a i)=some b)(xd:r.aM=true)(yV:r.size=(s i).size)(dA:r.len=(s i).len)(u7:r.valOf=(s i).valOf)
  (an:∀(s':ag),cV w' (bR S0 w0.heap.size w s (aJ a)) (lf S0 w0.heap.size) s' (aJ a) r (aJ a i))
  (kh:∀j off d cs,(s j).mC i off d->(s i).fz=some cs->(∃cs',r.fz=some cs'/\cs'[off]?=cs[off]?)/\w'.cell? ⟨b,off,none⟩=w.cell? ⟨b,off,none⟩) :
  Rel S0 w0 n (fun j=>if j=i then r else s j) a w':=by
 have r0:(s i).aM=true:=by
  cases h:(s i).aM with
  |true=>rfl
  |false=>rw[jm h]at ae;cases ae
 have cb:∀j c,a' (if j=i then r else s j) (aJ a j)=some c->a' (s j) (aJ a j)=some c:=by
  intro j c ao;by_cases ac:j=i
  ·subst ac;rw[aC rfl,h2]at ao;rw[ae];exact ao
  ·rw[au ac]at ao;exact ao
 have da:∀c,bR S0 w0.heap.size w s (aJ a) c->bR S0 w0.heap.size w' (fun j=>if j=i then r else s j) (aJ a) c:=
  fun c ao=>⟨ao.1,by rw[b'];exact ao.2.1,fun j ac=>ao.2.2 j (cb j c ac)⟩
 have jR:∀c,bR S0 w0.heap.size w s (aJ a) c->w'.heap[c]?=w.heap[c]?:=by
  intro c ao;refine aB.block c ao.2.1 (fun e=>?_);injection e with e
  exact ao.2.2 i (by rw[ae,e])
 refine⟨ah.defers,ah.size,?_,ah.lt,?_,?_,?_,?_,ah.lU⟩
 ·exact ah.below.grown aB (fun k am=>by injection am with am;subst am;exact((ah.rep i).gi ae).1)
 ·intro j;by_cases ac:j=i
  ·subst ac;simp only[aC];exact(an (fun k=>if k=j then r else s k)).mono da (fun _ _=>rfl) (fun _ _=>rfl) (fun k am=>⟨rfl,fun h=>⟨h,rfl,rfl,rfl⟩,fun c ao=>ao⟩)
    (fun bB off d cs bg al _ _=>by have:=kI (ad.nu al).1;rw[xd]at this;cases this)
  ·simp only[au ac];refine(ah.rep j).mono da jR (fun c ao=>?_) (fun k am=>⟨rfl,fun h=>?_,fun c ao=>?_⟩) (fun bB off d cs bg al cO cm=>?_)
   rotate_right
   ·by_cases eN:bB=i
    ·subst eN;obtain rfl:bg=b:=by rw[ae]at cm;injection cm with cm;exact cm.symm
     obtain⟨⟨cs',aF,aP⟩,a7⟩:=kh j off d cs al cO;exact⟨⟨cs',by rw[aC rfl];exact aF,aP⟩,a7⟩
    ·refine⟨⟨cs,by rw[au eN];exact cO,rfl⟩,World.cell?_of_block (aB.block bg ((ah.rep bB).gi cm).2 (fun e=>?_))⟩;injection e with e
     subst e;exact eN (ah.inj bB i _ cm ae)
   ·refine aB.block c ((ah.rep j).gi ao).2 (fun e=>?_);injection e with e
    subst e;exact ac (ah.inj j i c ao ae)
   ·by_cases eV:k=i
    ·subst eV;simp only[aC];exact⟨xd,yV,dA,u7⟩
    ·simp only[au eV];exact⟨h,trivial,trivial,trivial⟩
   ·by_cases eV:k=i
    ·subst eV;simp only[aC];rw[ae]at ao;injection ao with ao
     subst ao;exact h2
    ·simp only[au eV];exact ao
 ·intro j k c ac am;exact ah.inj j k c (cb j c ac) (cb k c am)
 ·intro j ac;by_cases fA:j=i
  ·subst fA;have ar:r.valOf (.bool true)=r.valOf (.bool false):=by
    rcases RF (ah.out j ac) r0 with⟨v,e,z,xs,h⟩|⟨v,e,z,xs,h⟩ <;>
     (rw[h]at u7
      have aa:=congrFun u7 (.bool true);have ab:=congrFun u7 (.bool false);exact aa.trans ab.symm)
   simp only[aC];cases r<;>first|rfl|(simp[ad.valOf]at ar;done)
  ·simp only[au fA];exact ah.out j ac
 ·intro j k bY;have zaO:(s j).refs k=true:=by
   by_cases ac:j=i
   ·subst ac;simp only[aC]at bY;have:=kI bY;rw[xd]at this;cases this
   ·simpa only[au ac]using bY
  have:=ah.wf j k zaO;by_cases am:k=i
  ·simp only[aC am];exact xd
  ·simp only[au am];exact this
def Rel.forget{s':ag}(ah:Rel S0 w0 n s a w)(h:∀i,s' i=s i\/s' i=.dead)(oA:∀i j,(s' i).refs j=true->s' j=s j):Rel S0 w0 n s' a w:=by
 have cb:∀j c,a' (s' j) (aJ a j)=some c->a' (s j) (aJ a j)=some c:=by
  intro j c ao;rcases h j with e|e<;>rw[e]at ao
  ·exact ao
  ·cases ao
 have da:∀c,bR S0 w0.heap.size w s (aJ a) c->bR S0 w0.heap.size w s' (aJ a) c:=fun c ao=>⟨ao.1,ao.2.1,fun j ac=>ao.2.2 j (cb j c ac)⟩
 refine⟨ah.defers,ah.size,ah.below,ah.lt,fun i=>?_,fun i j b ai ac=>ah.inj i j b (cb i b ai) (cb j b ac),fun i ai=>?_,fun i j ct=>?_,ah.lU⟩
 ·rcases h i with e|e
  ·rw[e];refine(ah.rep i).mono da (fun _ _=>rfl) (fun _ _=>rfl) (fun k am=>?_) ?_;have:=oA i k (by rw[e];exact ad.ot am);exact⟨rfl,fun h=>by rw[this];exact⟨h,rfl,rfl,rfl⟩,fun c ao=>by rw[this];exact ao⟩;exact fun bB off d cs b al cO _=>⟨⟨cs,by rw[oA i bB (by rw[e];exact(ad.nu al).1)];exact cO,rfl⟩,rfl⟩
  ·rw[e];trivial
 ·rcases h i with e|e
  ·rw[e];exact ah.out i ai
  ·rw[e];rfl
 ·rw[oA i j ct];rcases h i with e|e<;>rw[e]at ct
  ·exact ah.wf i j ct
  ·cases ct
def r1:ad->ad
 |.own _ size xs=>.x (.one (.list size xs))
 |.box cs=>.elem cs
 |a=>a
def iL:ad->ad->ad
 |.box cs,.ptr _ off=>.elem (cs.drop off)
 |.box cs,.cr f [.inr (_,0)]=>.x (.one (.ht f [.ref cs]))
 |_,_=>.dead
def BJ(a x:ad):iL a x=.dead\/(∃cs i off,a=.box cs/\x=.ptr i off/\iL a x=.elem (cs.drop off))\/∃cs f i,a=.box cs/\x=.cr f [.inr (i,0)]/\iL a x=.x (.one (.ht f [.ref cs])):=by
 unfold iL;split
 ·exact .inr (.inl ⟨_,_,_,rfl,rfl,rfl⟩)
 ·exact .inr (.inr ⟨_,_,_,rfl,rfl,rfl⟩)
 ·exact .inl rfl
def Mv(a x:ad):(iL a x).aM=false:=by rcases BJ a x with e|⟨_,_,_,_,_,e⟩|⟨_,_,_,_,_,e⟩<;>rw[e]<;>rfl
def BK(a x:ad)(j:Nat):(iL a x).refs j=false:=by rcases BJ a x with e|⟨_,_,_,_,_,e⟩|⟨_,_,_,_,_,e⟩<;>rw[e]<;>rfl
def zaP{a:ad}(x:ad)(h:∀cs,a≠.box cs):iL a x=.dead:=by
 rcases BJ a x with e|⟨cs,_,_,e,_⟩|⟨cs,_,_,e,_⟩
 ·exact e
 ·exact absurd e (h cs)
 ·exact absurd e (h cs)
def zaQ(a:ad){x:ad}(h:x.apart=true):(iL a x).apart=true:=by
 rcases BJ a x with e|⟨_,_,_,_,e,_⟩|⟨_,_,_,_,e,_⟩
 ·rw[e];rfl
 ·rw[e]at h;cases h
 ·rw[e]at h;cases h
def freeze(s:ag)(i:Nat):ag:=fun j=>if j=i then r1 (s i)else if (s j).refs i then iL (s i) (s j)else s j
def BL{S:Nat->Prop}{B e size:Nat}{v:Value}{xs:List (List af)}{us:List Value}(bq:w.h0 B e size v xs.length us)(al:cj w S xs.flatten us)(aj:∀x∈xs,x.length=size)(hm:xs.length<=maxLen)
  (bW:∀b,v.ownBlock=some b->S b):bn w S (.list size xs) v:=by
 rcases bq.2 with⟨rfl,aW⟩|⟨g,cap,cur,aH,ae,a1,aT,fT,en,ba⟩
 ·have:xs=[]:=ld aW;subst this;exact .kH _ _ _ (by simp) (fun _=>rfl)
 ·have cb:v.ownBlock=some g:=by rw[aH];rfl
  subst aH;refine .list ⟨g,0,none⟩ cap size xs (fun j=>us.getD j undef) (bW g cb) rfl aT fT aj (fun j c ac=>?_) (fun j c ac=>?_)
  ·obtain⟨u,hu,_⟩:=al.2 j c ac;have:=bq.cells cb j u hu;rw[this,jQ,hu];rfl
  ·obtain⟨u,hu,an⟩:=al.2 j c ac;simp only[jQ,hu,rW];exact an
def yW{S:Nat->Prop}{b:Nat}{arr:Array Value}{t:TypeId}{cs:List af}(a1:w.heap[b]?=some (.cells arr t (0,0)))(al:cj w S cs arr.toList):∀(off j:Nat) (c:af),(cs.drop off)[j]?=some c->∃u,w.cell? ((⟨b,off,none⟩:Addr).add j)=some u/\bn w S c u:=by intro off j c ac;rw[h3]at ac;obtain⟨u,hu,an⟩:=al.2 _ c ac;refine⟨u,?_,an⟩;rw[ln,cell_of_row w b (off+j) arr t (0,0) a1];simpa using hu
def Rel.freeze{i:Nat}(ah:Rel S0 w0 n s a w)(ai:(∃e size xs,s i=.own e size xs)\/∃cs,s i=.box cs):Rel S0 w0 n (Ab.freeze s i) a w:=by
 have lZ:(Ab.freeze s i i).aM=false/\∀j,(Ab.freeze s i i).refs j=false:=by rcases ai with⟨e,size,xs,ai⟩|⟨cs,ai⟩<;>simp[Ab.freeze,ai,r1,ad.aM,ad.refs]
 have tt:∀j,j≠i->Ab.freeze s i j=s j\/((s j).refs i=true/\Ab.freeze s i j=iL (s i) (s j)):=by
  intro j ac;unfold Ab.freeze;by_cases an:(s j).refs i=true
  ·exact .inr ⟨an,by simp[ac,an]⟩
  ·exact .inl (by simp[ac,an])
 have cb:∀j c,a' (Ab.freeze s i j) (aJ a j)=some c->j≠i/\a' (s j) (aJ a j)=some c:=by
  intro j c ao;by_cases ac:j=i
  ·subst ac;rw[jm lZ.1]at ao;cases ao
  ·rcases tt j ac with e|⟨_,e⟩<;>rw[e]at ao
   ·exact⟨ac,ao⟩
   ·rw[jm (Mv _ _)]at ao;cases ao
 have da:∀c,bR S0 w0.heap.size w s (aJ a) c->bR S0 w0.heap.size w (Ab.freeze s i) (aJ a) c:=fun c ao=>⟨ao.1,ao.2.1,fun j ac=>ao.2.2 j (cb j c ac).2⟩
 refine⟨ah.defers,ah.size,ah.below,ah.lt,fun j=>?_,fun j k b ac am=>ah.inj j k b (cb j b ac).2 (cb k b am).2,fun j ac=>?_,fun j k bY=>?_,ah.lU⟩
 ·by_cases ac:j=i
  ·subst ac;have h:=ah.rep j;rcases ai with⟨e,size,xs,ai⟩|⟨cs,ai⟩
   ·have oB:Ab.freeze s j j=.x (.one (.list size xs)):=by simp[Ab.freeze,ai,r1]
    rw[oB];rw[ai]at h;obtain⟨us,bq,al,aj,hm,cL⟩:=h;refine BL bq (al.mono da (fun _ _=>rfl)) aj hm (fun b ae=>?_);have aq:=bq.lt b ae;refine⟨.inr (cL b ae),aq.2,fun k am=>?_⟩;obtain⟨h8,px⟩:=cb k b am;exact h8 (ah.inj k j b px (by rw[ai];exact ae))
   ·have oB:Ab.freeze s j j=.elem cs:=by simp[Ab.freeze,ai,r1]
    rw[oB];rw[ai]at h;obtain⟨b,arr,t,aH,a1,al,cL⟩:=h;refine⟨⟨b,0,none⟩,aH,rfl,⟨.inr cL,(gM.1 a1).1,fun k am=>?_⟩,fun kj c eI=>?_⟩
    ·obtain⟨h8,px⟩:=cb k b am;exact h8 (ah.inj k j b px (by rw[ai,aH];rfl))
    ·obtain⟨u,hu,an⟩:=yW a1 al 0 kj c (by simpa using eI);exact⟨u,hu,bn.mono an da (fun _ _=>rfl)⟩
  ·rcases tt j ac with e|⟨kk,e⟩
   ·rw[e];have bq:∀k,(s j).refs k=true->(s k).aM=true->Ab.freeze s i k=s k:=by
     intro k bY aw;have dY:k≠i:=by
      rintro rfl;have bV:iL (s k) (s j)=s j:=by have bV:=e;unfold Ab.freeze at bV;simpa[ac,bY]using bV
      have ab:=BK (s k) (s j) k;rw[bV,bY]at ab;cases ab
     rcases tt k dY with bV|⟨an,_⟩
     ·exact bV
     ·rw[kI an]at aw;cases aw
    refine(ah.rep j).mono da (fun _ _=>rfl) (fun _ _=>rfl) (fun k am=>?_) (fun bB off d cs b al cO _=>⟨⟨cs,by rw[bq bB (ad.nu al).1 (ad.mB cO)];exact cO,rfl⟩,rfl⟩);have dY:k≠i:=by
     rintro rfl;have:=ad.ot am;have bV:iL (s k) (s j)=s j:=by have bV:=e;unfold Ab.freeze at bV;simpa[ac,this]using bV
     have ab:=BK (s k) (s j) k;rw[bV,this]at ab;cases ab
    have bq:(s k).aM=true->Ab.freeze s i k=s k:=by
     intro aw;rcases tt k dY with bV|⟨an,_⟩
     ·exact bV
     ·rw[kI an]at aw;cases aw
    refine⟨rfl,fun h=>by rw[bq h];exact⟨h,rfl,rfl,rfl⟩,fun c ao=>?_⟩;have aw:(s k).aM=true:=by
     cases h:(s k).aM with
     |true=>rfl
     |false=>rw[jm h]at ao;cases ao
    rw[bq aw];exact ao
   ·rw[e];rcases BJ (s i) (s j)with aI|⟨cs,bB,off,l0,qx,aI⟩|⟨cs,f,bB,l0,qx,aI⟩
    ·rw[aI];trivial
    ·rw[aI];have oC:bB=i:=by rw[qx]at kk;simpa[ad.refs]using kk
     subst oC;have ak:=ah.rep j;rw[qx]at ak;obtain⟨qy,lu,hM⟩:=ak;have lj:=ah.rep bB;rw[l0]at lj;obtain⟨b,arr,t,aH,a1,al,cL⟩:=lj;have et:b=qy:=by have Mw:aJ a bB=.pointer (some ⟨b,0,none⟩):=aH;rw[l0,Mw]at hM;have:some b=some qy:=hM;injection this
     subst et;refine⟨⟨b,off,none⟩,lu,rfl,⟨.inr cL,(gM.1 a1).1,fun k am=>?_⟩,fun kj c eI=>?_⟩
     ·obtain⟨h8,px⟩:=cb k b am;exact h8 (ah.inj k bB b px (by rw[l0];exact(by rw[show aJ a bB=.pointer (some ⟨b,0,none⟩)from aH];rfl)))
     ·obtain⟨u,hu,an⟩:=yW a1 al off kj c eI;exact⟨u,hu,bn.mono an da (fun _ _=>rfl)⟩
    ·rw[aI];have oC:bB=i:=by rw[qx]at kk;simpa[ad.refs,j_]using kk
     subst oC;have ak:=ah.rep j;rw[qx]at ak;obtain⟨us,lu,b',gA⟩:=ak;obtain⟨u,hu,qy,yX,hM⟩:=gA 0 (.inr (bB,0)) rfl;have lj:=ah.rep bB;rw[l0]at lj;obtain⟨b,arr,t,aH,a1,al,cL⟩:=lj;have et:b=qy:=by have Mw:aJ a bB=.pointer (some ⟨b,0,none⟩):=aH;rw[l0,Mw]at hM;have:some b=some qy:=hM;injection this
     subst et;have lr:us=#[u]:=by
      have aa:us.size=1:=b';apply yY
      ·simp[aa]
      ·intro k dx oD;have am:k=0:=by omega
       subst am;have:=(gM.1 hu).2;simpa using this
     have py:bn w (bR S0 w0.heap.size w (Ab.freeze s bB) (aJ a)) (.ref cs) u:=by
      rw[yX];refine .ref ⟨b,0,none⟩ cs (fun kj=>(w.cell? ((⟨b,0,none⟩:Addr).add kj)).getD undef) ⟨.inr cL,(gM.1 a1).1,fun k am=>?_⟩ rfl (fun kj c eI=>?_) (fun kj c eI=>?_)
      ·obtain⟨h8,px⟩:=cb k b am;exact h8 (ah.inj k bB b px (by rw[l0];exact(by rw[show aJ a bB=.pointer (some ⟨b,0,none⟩)from aH];rfl)))
      ·obtain⟨mG,eZ,_⟩:=yW a1 al 0 kj c (by simpa using eI);rw[eZ];rfl
      ·obtain⟨mG,eZ,an⟩:=yW a1 al 0 kj c (by simpa using eI);rw[eZ];exact bn.mono an da (fun _ _=>rfl)
     show bn w _ (.ht f [.ref cs]) (aJ a j);rw[show aJ a j=.func (.func f) #[] us from lu,lr];exact .ht f [.ref cs] (fun _=>u) (fun kj c eI=>by
      cases kj with
      |zero=>simp at eI;subst eI;exact py
      |succ kj=>simp at eI)
 ·by_cases fA:j=i
  ·subst fA;have:=ah.out j ac;rcases ai with⟨_,_,_,ai⟩|⟨_,ai⟩<;>(rw[ai]at this;cases this)
  ·rcases tt j fA with e|⟨an,e⟩
   ·rw[e];exact ah.out j ac
   ·rw[e];exact zaQ _ (ah.out j ac)
 ·by_cases ac:j=i
  ·subst ac;rw[lZ.2]at bY;cases bY
  ·rcases tt j ac with e|⟨_,e⟩
   ·rw[e]at bY;have ff:=ah.wf j k bY;have dY:k≠i:=by
     rintro rfl;have:Ab.freeze s k j=iL (s k) (s j):=by unfold Ab.freeze;simp[ac,bY]
     have ab:=BK (s k) (s j) k;rw[<-this,e,bY]at ab;cases ab
    rcases tt k dY with bV|⟨an,_⟩
    ·rw[bV];exact ff
    ·rw[kI an]at ff;cases ff
   ·rw[e,BK]at bY;cases bY
def Rel.take{i d:Nat}{r:ad}{v:Value}{w':World}(ah:Rel S0 w0 n s a w)(ax:S0.m<=d/\d<n)(ai:(s i).aM=true)
  (aB:w.grownBy w' (a' (s i) (aJ a i)))
  (h2:∀b,a' r v=some b->a' (s i) (aJ a i)=some b\/w.heap.size<=b)
  (oA:∀j,r.refs j=false)
  (an:∀(s':ag) (tm':Nat->Value) (S:Nat->Prop),(∀c,bR S0 w0.heap.size w s (aJ a) c->S c)->cV w' S (lf S0 w0.heap.size) s' tm' r v) :
  Rel S0 w0 n (Ab.put (Ab.put s i .dead) d r) (a.put (some d) v) w':=by
 have nv:d<a.tmps.size:=by rw[ah.size];exact ax.2
 have nw:∀j,j≠d->aJ (a.put (some d) v) j=aJ a j:=fun j ac=>by rw[yK a d v nv,au ac]
 have wU:aJ (a.put (some d) v) d=v:=by rw[yK a d v nv,aC rfl]
 have zaR:Ab.put s i .dead i=.dead:=jo rfl;have aa:∀j,Ab.put s i .dead j=s j/\j≠i/\(s j).refs i=false\/Ab.put s i .dead j=.dead:=by
  intro j;by_cases ac:j=i
  ·subst ac;exact .inr zaR
  ·cases an:(s j).refs i with
   |true=>refine .inr ?_;unfold Ab.put;rw[ai];simp[ac,an]
   |false=>exact .inl ⟨HU ac an,ac,rfl⟩
 have Sk:Ab.put (Ab.put s i .dead) d r d=r:=jo (oA d);have ab:∀j,j≠d->(Ab.put (Ab.put s i .dead) d r j=s j/\j≠i/\(s j).refs i=false/\((s d).aM=true->d≠i->(s j).refs d=false))\/Ab.put (Ab.put s i .dead) d r j=.dead:=by
  intro j ac;rcases ou (s:=Ab.put s i .dead) (v:=r) ac with e|⟨_,_,e⟩
  ·rcases aa j with⟨av,fA,kk⟩|av
   ·by_cases h9:(s d).aM=true/\d≠i
    ·cases j':(s j).refs d with
     |false=>exact .inl ⟨by rw[e,av],fA,kk,fun _ _=>rfl⟩
     |true=>
      refine .inr ?_;have EJ:(Ab.put s i .dead d).aM=true:=by rw[mD h9.2 h9.1];exact h9.1
      exact Ed ac EJ (by rw[av];exact j')
    ·exact .inl ⟨by rw[e,av],fA,kk,fun a b=>absurd ⟨a,b⟩ h9⟩
   ·exact .inr (by rw[e,av])
  ·exact .inr e
 have cb:∀j b,a' (Ab.put (Ab.put s i .dead) d r j) (aJ (a.put (some d) v) j)=some b->(j=d/\a' r v=some b)\/(j≠d/\j≠i/\a' (s j) (aJ a j)=some b):=by
  intro j b ae;by_cases ac:j=d
  ·subst ac;rw[wU,Sk]at ae;exact .inl ⟨rfl,ae⟩
  ·rw[nw j ac]at ae;rcases ab j ac with⟨e,fA,_⟩|e<;>rw[e]at ae
   ·exact .inr ⟨ac,fA,ae⟩
   ·cases ae
 have hold:∀c,bR S0 w0.heap.size w s (aJ a) c->w'.heap[c]?=w.heap[c]?:=fun c ao=>aB.block c ao.2.1 (fun e=>ao.2.2 i e.symm);have da:∀c,bR S0 w0.heap.size w s (aJ a) c->bR S0 w0.heap.size w' (Ab.put (Ab.put s i .dead) d r) (aJ (a.put (some d) v)) c:=by
  intro c ao;refine⟨ao.1,u0 ao.2.1 aB.size,fun j ac=>?_⟩;rcases cb j c ac with⟨_,h⟩|⟨_,_,h⟩
  ·rcases h2 c h with bE|bE
   ·exact ao.2.2 i bE
   ·have:=ao.2.1;omega
  ·exact ao.2.2 j h
 refine⟨ah.defers,by simp[Act.put,ah.size],?_,ah.lt,?_,?_,?_,fe (fe ah.wf (fun j h=>by cases h)) (fun j h=>by rw[oA j]at h;cases h),fun j ac=>by rw[nw j (by omega)];exact ah.lU j ac⟩
 ·exact ah.below.grown aB (fun k am=>((ah.rep i).gi am).1)
 ·intro j;by_cases ac:j=d
  ·subst ac;rw[wU,Sk];exact an _ _ _ da
  ·rw[nw j ac];rcases ab j ac with⟨e,fA,kk,j'⟩|e
   ·rw[e];have ga:∀k,(s j).refs k=true->(s k).aM=true->k≠i/\Ab.put (Ab.put s i .dead) d r k=s k:=by
     intro k oq ff;have dY:k≠i:=by rintro rfl;rw[oq]at kk;cases kk
     have tD:k≠d:=by rintro rfl;rw[j' ff dY]at oq;cases oq
     refine⟨dY,?_⟩;have ar:Ab.put s i .dead k=s k:=mD dY ff;have aN:Ab.put (Ab.put s i .dead) d r k=Ab.put s i .dead k:=mD tD (by rw[ar];exact ff);rw[aN,ar]
    refine(ah.rep j).mono da hold (fun c ao=>?_) (fun k am=>?_) (fun bB off bt cs b al cO cm=>?_)
    rotate_right
    ·obtain⟨aF,aP⟩:=ga bB (ad.nu al).1 (ad.mB cO);exact⟨⟨cs,by rw[aP];exact cO,rfl⟩,World.cell?_of_block (aB.block b ((ah.rep bB).gi cm).2 (fun h=>aF (ah.inj bB i b cm h.symm)))⟩
    ·exact aB.block c ((ah.rep j).gi ao).2 (fun h=>fA (ah.inj j i c ao h.symm))
    ·have oq:=ad.ot am;have dY:k≠i:=by rintro rfl;rw[oq]at kk;cases kk
     have ff:=(ah.rep j).leads am;have tD:k≠d:=by rintro rfl;rw[j' ff dY]at oq;cases oq
     have ga:=(ga k oq ff).2;exact⟨nw k tD,fun h=>by rw[ga];exact⟨h,rfl,rfl,rfl⟩,fun c ao=>by rw[ga];exact ao⟩
   ·rw[e];trivial
 ·intro j k b ac am;rcases cb j b ac with⟨eI,ar⟩|⟨eI,fA,ar⟩<;>rcases cb k b am with⟨eV,aN⟩|⟨eV,dY,aN⟩
  ·rw[eI,eV]
  ·exfalso;rcases h2 b ar with bD|bD
   ·exact dY (ah.inj k i b aN bD)
   ·have:=((ah.rep k).gi aN).2;omega
  ·exfalso;rcases h2 b aN with bD|bD
   ·exact fA (ah.inj j i b ar bD)
   ·have:=((ah.rep j).gi ar).2;omega
  ·exact ah.inj j k b ar aN
 ·intro j ac;have j':j≠d:=by omega
  rcases ab j j' with⟨e,_⟩|e
  ·rw[e];exact ah.out j ac
  ·rw[e];rfl
def qz(s:ag)(j g:Nat)(v:Value)(e z:Nat)(xs:List (List af)):ag:=fun k=>if k=j then .x (.one (.atom v))else if k=g then .cT v e z xs else if (s k).refs j then .dead else s k
def Rel.name{j g e z:Nat}{xs:List (List af)}(ah:Rel S0 w0 n s a w)(ac:s j=.own e z xs)(aT:n<=g)(aB:(s g).free=true):Rel S0 w0 n (qz s j g (aJ a j) e z xs) a w:=by
 have hl:g≠j:=by rintro rfl;rw[ac]at aB;cases aB
 have e5:j<n:=by
  rcases kJ j n with h|h
  ·exact h
  ·have:=ah.out j h;rw[ac]at this;cases this
 have bO:∀k,qz s j g (aJ a j) e z xs k=if k=j then .x (.one (.atom (aJ a j)))else if k=g then .cT (aJ a j) e z xs else if (s k).refs j then .dead else s k:=fun _=>rfl
 generalize qz s j g (aJ a j) e z xs=S at bO;have r2:S j=.x (.one (.atom (aJ a j))):=by rw[bO,aC rfl]
 have oE:S g=.cT (aJ a j) e z xs:=by rw[bO,au hl,aC rfl]
 have kO:∀k,k≠j->k≠g->S k=.dead\/S k=s k:=by
  intro k aa ab;rw[bO,au aa,au ab];split
  ·exact .inl rfl
  ·exact .inr rfl
 have bq:∀k,(s k).aM=true->k≠j->k≠g/\S k=s k:=by
  intro k am aa;have ab:k≠g:=by rintro rfl;rw[wP aB]at am;cases am
  refine⟨ab,?_⟩;rw[bO,au aa,au ab,au];intro an;rw[kI an]at am;cases am
 have cb:∀k b,a' (S k) (aJ a k)=some b->(k=g/\a' (s j) (aJ a j)=some b)\/(k≠g/\k≠j/\a' (s k) (aJ a k)=some b):=by
  intro k b ae;by_cases aa:k=j
  ·subst aa;rw[r2]at ae;cases ae
  ·by_cases ab:k=g
   ·subst ab;rw[oE]at ae;rw[ac];exact .inl ⟨rfl,ae⟩
   ·rcases kO k aa ab with h|h<;>rw[h]at ae
    ·cases ae
    ·exact .inr ⟨ab,aa,ae⟩
 have da:∀c,bR S0 w0.heap.size w s (aJ a) c->bR S0 w0.heap.size w S (aJ a) c:=by
  intro c ao;refine⟨ao.1,ao.2.1,fun k am=>?_⟩;rcases cb k c am with⟨_,h⟩|⟨_,_,h⟩
  ·exact ao.2.2 j h
  ·exact ao.2.2 k h
 have EK:=ah.rep j;rw[ac]at EK;obtain⟨us,aw,al,aj,hm,bl⟩:=EK;refine⟨ah.defers,ah.size,ah.below,ah.lt,fun k=>?_,fun k m b am dK=>?_,fun k am=>?_,fun k m d9=>?_,ah.lU⟩
 ·by_cases aa:k=j
  ·subst aa;rw[r2];refine bn.atom _ ?_;rcases aw.2 with⟨h,_⟩|⟨_,_,_,h,_⟩<;>rw[h]<;>rfl
  ·by_cases ab:k=g
   ·subst ab;rw[oE];exact⟨us,aw,al.mono da (fun _ _=>rfl),aj,hm,bl⟩
   ·rcases kO k aa ab with h|h
    ·rw[h];trivial
    ·rw[h];have py:∀m,(s k).refs m=true->(s m).aM=true/\S m=s m:=by
      intro m dK;have hn:=ah.wf k m dK;have gB:m≠j:=by
       rintro rfl;have:S k=.dead:=by rw[bO,au aa,au ab,aC dK]
       rw[h]at this;rw[this]at dK;cases dK
      exact⟨hn,(bq m hn gB).2⟩
     refine(ah.rep k).mono da (fun _ _=>rfl) (fun _ _=>rfl) (fun m dK=>?_) (fun bB off bt cs b du cO _=>?_)
     ·have:=(py m (ad.ot dK)).2;exact⟨rfl,fun h=>by rw[this];exact⟨h,rfl,rfl,rfl⟩,fun c ao=>by rw[this];exact ao⟩
     ·exact⟨⟨cs,by rw[(py bB (ad.nu du).1).2];exact cO,rfl⟩,rfl⟩
 ·rcases cb k b am with⟨aa,ab⟩|⟨aa,dx,ab⟩<;>rcases cb m b dK with⟨ar,aN⟩|⟨ar,qA,aN⟩
  ·rw[aa,ar]
  ·exact absurd (ah.inj m j b aN ab) qA
  ·exact absurd (ah.inj k j b ab aN) dx
  ·exact ah.inj k m b ab aN
 ·by_cases aa:k=j
  ·omega
  ·by_cases ab:k=g
   ·subst ab;rw[oE];rfl
   ·rcases kO k aa ab with h|h<;>rw[h]
    ·rfl
    ·exact ah.out k am
 ·by_cases aa:k=j
  ·subst aa;rw[r2]at d9;cases d9
  ·by_cases ab:k=g
   ·subst ab;rw[oE]at d9;cases d9
   ·have eV:(s k).refs m=true/\S k=s k:=by
     rcases kO k aa ab with h|h<;>rw[h]at d9
     ·cases d9
     ·exact⟨d9,h⟩
    have hn:=ah.wf k m eV.1;have gB:m≠j:=by
     rintro rfl;have:S k=.dead:=by rw[bO,au aa,au ab,aC eV.1]
     rw[this]at d9;cases d9
    rw[(bq m hn gB).2];exact hn
def ad.kP:ad->Bool
 |.cT _ _ _ _=>true
 |_=>false
def r3(s:ag):ad->Bool
 |.ptr i _=>(s i).kP
 |.ds i _=>(s i).kP
 |.dX i _ _=>(s i).kP
 |.alias i=>(s i).kP
 |.view i _ _ _=>(s i).kP
 |.cr _ _=>true
 |.cond _ v=>r3 s v
 |.link i _ d=>(s i).kP ||(s d).kP
 |_=>false
def Mx{m:Nat}(hm:(s m).kP=true):∀{v:ad},v.refs m=true->r3 s v=true
 |.ptr i _,h=>by obtain rfl:i=m:=by simpa[ad.refs]using h
                 exact hm
 |.ds i _,h=>by obtain rfl:i=m:=by simpa[ad.refs]using h
                exact hm
 |.dX i _ _,h=>by obtain rfl:i=m:=by simpa[ad.refs]using h
                  exact hm
 |.alias i,h=>by obtain rfl:i=m:=by simpa[ad.refs]using h
                 exact hm
 |.view i _ _ _,h=>by obtain rfl:i=m:=by simpa[ad.refs]using h
                      exact hm
 |.cr _ _,_=>rfl
 |.cond _ v,h=>Mx hm (v:=v) h
 |.link i _ d,h=>by
  simp only[ad.refs,eO,fB]at h;rcases h with rfl|rfl
  ·simp[r3,hm]
  ·simp[r3,hm]
def u9(s:ag)(i:Nat)(c:Nat)(bs:List Nat)(es:List (az×az)):ag:=fun k=>if k=i then .mp c bs es else if (s k).kP ||r3 s (s k)then .dead else s k
def Ih(s:ag)(es hP:List (az×az)):Prop:=hP.length=es.length/\∀(j:Nat) (x y:az×az),es[j]?=some x->hP[j]?=some y->x.1=y.1/\(x.2=y.2\/∃v g e z xs,x.2=.one (.atom v)/\s g=.cT v e z xs/\y.2=.one (.list z xs))
def Sl(c c':Nat)(bs My:List Nat)(es hP:List (az×az))(v:Value):a' (.mp c bs es) v=a' (.mp c' My hP) v:=by
 cases v with
 |map r=>cases r<;>rfl
 |_=>rfl
def Rel.u9{i c:Nat}{bs:List Nat}{es hP:List (az×az)}(ah:Rel S0 w0 n s a w)(ai:s i=.mp c bs es)(he:Ih s es hP):Rel S0 w0 n (u9 s i c bs hP) a w:=by
 have bO:∀k,Ab.u9 s i c bs hP k=if k=i then .mp c bs hP else if (s k).kP ||r3 s (s k)then .dead else s k:=fun _=>rfl
 generalize Ab.u9 s i c bs hP=S at bO;have EL:S i=.mp c bs hP:=by rw[bO,aC rfl]
 have kO:∀k,k≠i->S k=.dead\/((s k).kP=false/\r3 s (s k)=false/\S k=s k):=by
  intro k aa;rw[bO,au aa];cases ab:(s k).kP with
  |true=>exact .inl (by simp)
  |false=>
   cases ar:r3 s (s k)with
   |true=>exact .inl (by simp)
   |false=>exact .inr ⟨rfl,rfl,by simp⟩
 have cb:∀k b,a' (S k) (aJ a k)=some b->(s k).kP=false/\a' (s k) (aJ a k)=some b:=by
  intro k b ae;by_cases aa:k=i
  ·subst aa;rw[EL]at ae;rw[ai];exact⟨rfl,by rw[Sl c c bs bs es hP];exact ae⟩
  ·rcases kO k aa with h|⟨ab,_,h⟩<;>rw[h]at ae
   ·cases ae
   ·exact⟨ab,ae⟩
 have da:∀c,bR S0 w0.heap.size w s (aJ a) c->bR S0 w0.heap.size w S (aJ a) c:=fun c ao=>⟨ao.1,ao.2.1,fun k am=>ao.2.2 k (cb k c am).2⟩
 have pi:∀m,(s m).aM=true->(s m).kP=false->m≠i->S m=s m:=by
  intro m hn yZ gC;rw[bO,au gC,yZ];have:r3 s (s m)=false:=by cases h:s m<;>rw[h]at hn<;>first|rfl|cases hn
  simp[this]
 refine⟨ah.defers,ah.size,ah.below,ah.lt,fun k=>?_,fun k m b am dK=>ah.inj k m b (cb k b am).2 (cb m b dK).2,fun k am=>?_,fun k m d9=>?_,ah.lU⟩
 ·by_cases aa:k=i
  ·subst aa;rw[EL];have an:=ah.rep k;rw[ai]at an;obtain⟨b,ents,aH,a1,bl,fE⟩:=an;refine⟨b,ents,aH,a1,bl,fE.1.trans he.1.symm,fE.2.1.trans he.1.symm,fun j y ac=>?_⟩;have aq:j<es.length:=by rw[<-he.1];exact(ep.1 ac).1
   obtain⟨x,aj⟩:∃x,es[j]?=some x:=⟨_,cn aq⟩
   obtain⟨m,aF,aP,a7,b1⟩:=fE.2.2 j x aj;obtain⟨av,aI⟩:=he.2 j x y aj ac;refine⟨m,aF,aP,by rw[<-av];exact cg.mono a7 da (fun _ _=>rfl),?_⟩;rcases aI with aI|⟨v,g,e,z,xs,aI,b5,eH⟩
   ·rw[<-aI];exact cg.mono b1 da (fun _ _=>rfl)
   ·rw[eH];rw[aI]at b1;have b1:bn w _ (.atom v) m.val:=b1;have ev:m.val=v:=by cases b1;rfl
    rw[ev];have aB:=ah.rep g;rw[b5]at aB;obtain⟨us,aw,al,aj,hm,nD⟩:=aB;refine BL aw (al.mono da (fun _ _=>rfl)) aj hm (fun b ae=>⟨.inr (nD b ae),(aw.lt b ae).2,fun bu eV=>?_⟩);obtain⟨ab,ar⟩:=cb bu b eV;have:=ah.inj bu g b ar (by rw[b5];exact ae);subst this;rw[b5]at ab;cases ab
  ·rcases kO k aa with h|⟨ab,ar,h⟩
   ·rw[h];trivial
   ·rw[h];have py:∀m,(s k).refs m=true->((∀x,S m=.mp c bs x->m=i->(s m).aM=true)/\(m=i\/S m=s m)):=by
     intro m dK;refine⟨fun _ _ _=>ah.wf k m dK,?_⟩;by_cases gC:m=i
     ·exact .inl gC
     ·refine .inr (pi m (ah.wf k m dK) ?_ gC);cases dB:(s m).kP with
      |false=>rfl
      |true=>rw[Mx dB dK]at ar;cases ar
    refine(ah.rep k).mono da (fun _ _=>rfl) (fun _ _=>rfl) (fun m dK=>?_) (fun bB off bt cs b du cO _=>?_)
    ·rcases (py m (ad.ot dK)).2 with e|e
     ·subst e;rw[EL,ai];exact⟨rfl,fun _=>⟨rfl,rfl,rfl,rfl⟩,fun c' ao=>by rw[Sl c c bs bs hP es];exact ao⟩
     ·exact⟨rfl,fun h=>by rw[e];exact⟨h,rfl,rfl,rfl⟩,fun c ao=>by rw[e];exact ao⟩
    ·rcases (py bB (ad.nu du).1).2 with e|e
     ·subst e;rw[ai]at cO;cases cO
     ·exact⟨⟨cs,by rw[e];exact cO,rfl⟩,rfl⟩
 ·by_cases aa:k=i
  ·subst aa;have:=ah.out k am;rw[ai]at this;cases this
  ·rcases kO k aa with h|⟨_,_,h⟩<;>rw[h]
   ·rfl
   ·exact ah.out k am
 ·by_cases aa:k=i
  ·subst aa;rw[EL]at d9;cases d9
  ·rcases kO k aa with h|⟨_,ar,h⟩<;>rw[h]at d9
   ·cases d9
   ·have hn:=ah.wf k m d9;by_cases gC:m=i
    ·subst gC;rw[EL];rfl
    ·rw[pi m hn (by cases dB:(s m).kP with
      |false=>rfl
      |true=>rw[Mx dB d9]at ar;cases ar) gC]
     exact hn
def oF(s:ag)(j g e z:Nat)(xs:List (List af)):ag:=fun k=>if k=j then .own e z xs else if k=g then .dead else if (s k).refs g then .dead else s k
def Rel.zaS{j g e z:Nat}{v:Value}{xs:List (List af)}(ah:Rel S0 w0 n s a w)(ac:s j=.x (.one (.atom v)))(aB:s g=.cT v e z xs):Rel S0 w0 n (oF s j g e z xs) a w:=by
 have hl:g≠j:=by rintro rfl;rw[ac]at aB;cases aB
 have e5:j<n:=by
  rcases kJ j n with h|h
  ·exact h
  ·have:=ah.out j h;rw[ac]at this;cases this
 have aH:aJ a j=v:=by have h:=ah.rep j;rw[ac]at h;have h:bn w _ (.atom v) (aJ a j):=h;generalize aJ a j=u at h;cases h;rfl
 have bO:∀k,oF s j g e z xs k=if k=j then .own e z xs else if k=g then .dead else if (s k).refs g then .dead else s k:=fun _=>rfl
 generalize oF s j g e z xs=S at bO;have r2:S j=.own e z xs:=by rw[bO,aC rfl]
 have oE:S g=.dead:=by rw[bO,au hl,aC rfl]
 have kO:∀k,k≠j->k≠g->S k=.dead\/((s k).refs g=false/\S k=s k):=by
  intro k aa ab;rw[bO,au aa,au ab];cases h:(s k).refs g with
  |true=>exact .inl (by simp)
  |false=>exact .inr ⟨rfl,by simp⟩
 have bq:∀k,(s k).aM=true->k≠g->k≠j/\S k=s k:=by
  intro k am aa;have ab:k≠j:=by rintro rfl;rw[ac]at am;cases am
  refine⟨ab,?_⟩;rw[bO,au ab,au aa,au];intro an;rw[kI an]at am;cases am
 have cb:∀k b,a' (S k) (aJ a k)=some b->(k=j/\a' (s g) (aJ a g)=some b)\/(k≠g/\k≠j/\a' (s k) (aJ a k)=some b):=by
  intro k b ae;by_cases aa:k=j
  ·subst aa;rw[r2,aH]at ae;rw[aB];exact .inl ⟨rfl,ae⟩
  ·by_cases ab:k=g
   ·subst ab;rw[oE]at ae;cases ae
   ·rcases kO k aa ab with h|⟨_,h⟩<;>rw[h]at ae
    ·cases ae
    ·exact .inr ⟨ab,aa,ae⟩
 have da:∀c,bR S0 w0.heap.size w s (aJ a) c->bR S0 w0.heap.size w S (aJ a) c:=by
  intro c ao;refine⟨ao.1,ao.2.1,fun k am=>?_⟩;rcases cb k c am with⟨_,h⟩|⟨_,_,h⟩
  ·exact ao.2.2 g h
  ·exact ao.2.2 k h
 have EM:=ah.rep g;rw[aB]at EM;obtain⟨us,aw,al,aj,hm,bl⟩:=EM;refine⟨ah.defers,ah.size,ah.below,ah.lt,fun k=>?_,fun k m b am dK=>?_,fun k am=>?_,fun k m d9=>?_,ah.lU⟩
 ·by_cases aa:k=j
  ·subst aa;rw[r2,aH];exact⟨us,aw,al.mono da (fun _ _=>rfl),aj,hm,bl⟩
  ·by_cases ab:k=g
   ·subst ab;rw[oE];trivial
   ·rcases kO k aa ab with h|⟨ar,h⟩
    ·rw[h];trivial
    ·rw[h];have py:∀m,(s k).refs m=true->(s m).aM=true/\S m=s m:=by
      intro m dK;have hn:=ah.wf k m dK;have yZ:m≠g:=by rintro rfl;rw[ar]at dK;cases dK
      exact⟨hn,(bq m hn yZ).2⟩
     refine(ah.rep k).mono da (fun _ _=>rfl) (fun _ _=>rfl) (fun m dK=>?_) (fun bB Bj bt cs b du cO _=>?_)
     ·have:=(py m (ad.ot dK)).2;exact⟨rfl,fun h=>by rw[this];exact⟨h,rfl,rfl,rfl⟩,fun c ao=>by rw[this];exact ao⟩
     ·exact⟨⟨cs,by rw[(py bB (ad.nu du).1).2];exact cO,rfl⟩,rfl⟩
 ·rcases cb k b am with⟨aa,ab⟩|⟨aa,dx,ab⟩<;>rcases cb m b dK with⟨ar,aN⟩|⟨ar,qA,aN⟩
  ·rw[aa,ar]
  ·exact absurd (ah.inj m g b aN ab) ar
  ·exact absurd (ah.inj k g b ab aN) aa
  ·exact ah.inj k m b ab aN
 ·by_cases aa:k=j
  ·omega
  ·by_cases ab:k=g
   ·subst ab;rw[oE];rfl
   ·rcases kO k aa ab with h|⟨_,h⟩<;>rw[h]
    ·rfl
    ·exact ah.out k am
 ·by_cases aa:k=j
  ·subst aa;rw[r2]at d9;cases d9
  ·by_cases ab:k=g
   ·subst ab;rw[oE]at d9;cases d9
   ·rcases kO k aa ab with h|⟨ar,h⟩<;>rw[h]at d9
    ·cases d9
    ·have hn:=ah.wf k m d9;have yZ:m≠g:=by rintro rfl;rw[ar]at d9;cases d9
     rw[(bq m hn yZ).2];exact hn
def EN(s:ag)(j g b c:Nat)(bs:List Nat)(es:List (az×az)):ag:=fun k=>if k=j then .x (.one (.atom (.map (some b))))else if k=g then .fc b c bs es else if (s k).refs j then .dead else s k
def Rel.EO{j g c:Nat}{bs:List Nat}{es:List (az×az)}(ah:Rel S0 w0 n s a w)(ac:s j=.mp c bs es)(aT:n<=g)(aB:(s g).free=true):∃b,Rel S0 w0 n (EN s j g b c bs es) a w:=by
 have hl:g≠j:=by rintro rfl;rw[ac]at aB;cases aB
 have e5:j<n:=by
  rcases kJ j n with h|h
  ·exact h
  ·have:=ah.out j h;rw[ac]at this;cases this
 have EK:=ah.rep j;rw[ac]at EK;obtain⟨b,ents,aH,a1,bl,fE⟩:=EK;refine⟨b,?_⟩;have bO:∀k,EN s j g b c bs es k=if k=j then .x (.one (.atom (.map (some b))))else if k=g then .fc b c bs es else if (s k).refs j then .dead else s k:=fun _=>rfl
 generalize EN s j g b c bs es=S at bO;have r2:S j=.x (.one (.atom (.map (some b)))):=by rw[bO,aC rfl]
 have oE:S g=.fc b c bs es:=by rw[bO,au hl,aC rfl]
 have kO:∀k,k≠j->k≠g->S k=.dead\/S k=s k:=by
  intro k aa ab;rw[bO,au aa,au ab];split
  ·exact .inl rfl
  ·exact .inr rfl
 have bq:∀k,(s k).aM=true->k≠j->k≠g/\S k=s k:=by
  intro k am aa;have ab:k≠g:=by rintro rfl;rw[wP aB]at am;cases am
  refine⟨ab,?_⟩;rw[bO,au aa,au ab,au];intro an;rw[kI an]at am;cases am
 have Eg:a' (s j) (aJ a j)=some b:=by rw[ac,aH];rfl
 have cb:∀k bg,a' (S k) (aJ a k)=some bg->(k=g/\a' (s j) (aJ a j)=some bg)\/(k≠g/\k≠j/\a' (s k) (aJ a k)=some bg):=by
  intro k bg ae;by_cases aa:k=j
  ·subst aa;rw[r2]at ae;cases ae
  ·by_cases ab:k=g
   ·subst ab;rw[oE]at ae;have:b=bg:=by simpa[a']using ae
    subst this;exact .inl ⟨rfl,Eg⟩
   ·rcases kO k aa ab with h|h<;>rw[h]at ae
    ·cases ae
    ·exact .inr ⟨ab,aa,ae⟩
 have da:∀c,bR S0 w0.heap.size w s (aJ a) c->bR S0 w0.heap.size w S (aJ a) c:=by
  intro c ao;refine⟨ao.1,ao.2.1,fun k am=>?_⟩;rcases cb k c am with⟨_,h⟩|⟨_,_,h⟩
  ·exact ao.2.2 j h
  ·exact ao.2.2 k h
 refine⟨ah.defers,ah.size,ah.below,ah.lt,fun k=>?_,fun k m b am dK=>?_,fun k am=>?_,fun k m d9=>?_,ah.lU⟩
 ·by_cases aa:k=j
  ·subst aa;rw[r2,aH];exact bn.atom _ rfl
  ·by_cases ab:k=g
   ·subst ab;rw[oE];exact⟨ents,a1,bl,fE.mono da (fun _ _=>rfl)⟩
   ·rcases kO k aa ab with h|h
    ·rw[h];trivial
    ·rw[h];have py:∀m,(s k).refs m=true->(s m).aM=true/\S m=s m:=by
      intro m dK;have hn:=ah.wf k m dK;have gB:m≠j:=by
       rintro rfl;have:S k=.dead:=by rw[bO,au aa,au ab,aC dK]
       rw[h]at this;rw[this]at dK;cases dK
      exact⟨hn,(bq m hn gB).2⟩
     refine(ah.rep k).mono da (fun _ _=>rfl) (fun _ _=>rfl) (fun m dK=>?_) (fun bB off bt cs b du cO _=>?_)
     ·have:=(py m (ad.ot dK)).2;exact⟨rfl,fun h=>by rw[this];exact⟨h,rfl,rfl,rfl⟩,fun c ao=>by rw[this];exact ao⟩
     ·exact⟨⟨cs,by rw[(py bB (ad.nu du).1).2];exact cO,rfl⟩,rfl⟩
 ·rcases cb k b am with⟨aa,ab⟩|⟨aa,dx,ab⟩<;>rcases cb m b dK with⟨ar,aN⟩|⟨ar,qA,aN⟩
  ·rw[aa,ar]
  ·exact absurd (ah.inj m j b aN ab) qA
  ·exact absurd (ah.inj k j b ab aN) dx
  ·exact ah.inj k m b ab aN
 ·by_cases aa:k=j
  ·omega
  ·by_cases ab:k=g
   ·subst ab;rw[oE];rfl
   ·rcases kO k aa ab with h|h<;>rw[h]
    ·rfl
    ·exact ah.out k am
 ·by_cases aa:k=j
  ·subst aa;rw[r2]at d9;cases d9
  ·by_cases ab:k=g
   ·subst ab;rw[oE]at d9;cases d9
   ·have eV:(s k).refs m=true/\S k=s k:=by
     rcases kO k aa ab with h|h<;>rw[h]at d9
     ·cases d9
     ·exact⟨d9,h⟩
    have hn:=ah.wf k m eV.1;have gB:m≠j:=by
     rintro rfl;have:S k=.dead:=by rw[bO,au aa,au ab,aC eV.1]
     rw[this]at d9;cases d9
    rw[(bq m hn gB).2];exact hn
def partAt(a:Bool)(v:Value)(i:Nat):Value:=match a,v with
 |true,.agg us=>us.getD i v
 |_,v=>v
def Ii{A:Bool}{cs:List af}{v:Value}{S:Nat->Prop}(h:cg w S (tq A cs) v)(al:A=true\/cs.length=1):HT A ((List.range cs.length).map (partAt A v)) v/\∀(i:Nat) (c:af),cs[i]?=some c->bn w S c (partAt A v i):=by
 cases A with
 |true=>
  obtain⟨us,rfl,an⟩:=(h:cg w S (.agg cs) v)
  have hlen:us.size=cs.length:=by have:=an.1;simpa using this
  refine⟨?_,fun i c ao=>?_⟩
  ·show Value.agg us=.agg _;congr 1;apply yY
   ·simp[hlen]
   ·intro i aa ab;simp[partAt,aa]
  ·obtain⟨u,hu,w6⟩:=an.2 i c ao;have:us[i]?=some u:=by simpa using hu
   simp only[partAt,lg,this,rW];exact w6
 |false=>
  obtain⟨c,rfl⟩:=Ex.1 (al.resolve_left (by simp));have h:bn w S c v:=h;refine⟨rfl,fun i c' ao=>?_⟩
  match i,ao with
  |0,ao=>cases ao;exact h
  |i+1,ao=>simp at ao
def zaT{S:Nat->Prop}{b c:Nat}{bs:List Nat}{ents:Array MapEntry}{fi fj:Bool}{aU vs:List (List af)}(ap:S b)(a1:w.heap[b]?=some (.map ents c))(he:ql w S bs (gj fi fj aU vs) ents.toList)(hlen:vs.length=aU.length)
  (am:fi=true\/∀k∈aU,k.length=1)(aH:fj=true\/∀k∈vs,k.length=1):bn w S (.g8 fi fj aU vs) (.map (some b)):=by
 have rY:(gj fi fj aU vs).length=aU.length:=by simp[gj,hlen]
 have Mz:ents.size=aU.length:=by have:=he.1;rw[rY]at this;simpa using this
 have bO:∀(j:Nat) (k v:List af),aU[j]?=some k->vs[j]?=some v->∃e,ents.toList[j]?=some e/\cg w S (tq fi k) e.key/\cg w S (tq fj v) e.val:=by
  intro j k v aa ab;obtain⟨e,av,_,b5,eH⟩:=he.2.2 j (tq fi k,tq fj v) (by
   unfold gj;rw[dO];have:(aU.zip vs)[j]?=some (k,v):=by rw[List.getElem?_zip_eq_some];exact⟨aa,ab⟩
   rw[this];rfl)
  exact⟨e,av,b5,eH⟩
 have ga:∀(j:Nat) (k:List af),aU[j]?=some k->∃e,ents.toList[j]?=some e/\cg w S (tq fi k) e.key:=by intro j k aa;have ac:=(ep.1 aa).1;obtain⟨e,av,aI,_⟩:=bO j k _ aa (cn (by omega));exact⟨e,av,aI⟩
 have fp:∀(j:Nat) (v:List af),vs[j]?=some v->∃e,ents.toList[j]?=some e/\cg w S (tq fj v) e.val:=by intro j k aa;have ac:=(ep.1 aa).1;obtain⟨e,av,_,aI⟩:=bO j _ k (cn (by omega)) aa;exact⟨e,av,aI⟩
 have tE:∀(j:Nat) (e d:MapEntry),ents.toList[j]?=some e->ents.toList.getD j d=e:=by intro j e d h;rw[jQ,h];rfl
 have hQ:∀k∈aU,fi=true\/k.length=1:=fun k eV=>am.imp id (fun h=>h k eV);have qt:∀k∈vs,fj=true\/k.length=1:=fun k eV=>aH.imp id (fun h=>h k eV);refine .g8 b c ents fi fj aU vs (fun j=>partAt fi (ents.toList.getD j ⟨undef,undef,0⟩).key) (fun j=>partAt fj (ents.toList.getD j ⟨undef,undef,0⟩).val) ap a1 Mz hlen (fun j k aa=>?_) (fun j k aa=>?_) (fun j k i c aa ab=>?_) (fun j k i c aa ab=>?_)
 ·obtain⟨e,av,aI⟩:=ga j k aa;refine⟨e,av,?_⟩;rw[tE j e _ av];exact(Ii aI (hQ k (iq aa))).1
 ·obtain⟨e,av,aI⟩:=fp j k aa;refine⟨e,av,?_⟩;rw[tE j e _ av];exact(Ii aI (qt k (iq aa))).1
 ·obtain⟨e,av,aI⟩:=ga j k aa;rw[tE j e _ av];exact(Ii aI (hQ k (iq aa))).2 i c ab
 ·obtain⟨e,av,aI⟩:=fp j k aa;rw[tE j e _ av];exact(Ii aI (qt k (iq aa))).2 i c ab
end
end Go.Ab
namespace Go.Ab
open Go Go.RowKit
variable [bf]
def MA{s:ag}{tm:Nat->Value}{i e size:Nat}{xs:List (List af)}{S S':Nat->Prop}{B:Nat->Prop}{w:World}{aK len:Nat}{wh:Bool}{v:Value}{us:List Value}(ap:s i=.own e size xs)(h:cV w S' B s tm (.view i aK len wh) v)
  (bq:w.h0 0 e size (tm i) xs.length us)(al:cj w S xs.flatten us)(aj:∀x∈xs,x.length=size)(bW:∀b,(tm i).ownBlock=some b->S b):bn w S (.list size ((xs.drop aK).take len)) v:=by
 obtain⟨_,hle,aH⟩:=h;rw[ap]at hle;have ED:aK+len<=xs.length:=hle;have yT:((xs.drop aK).take len).length=len:=by rw[d',eo];omega
 rcases aH with⟨rfl,aW⟩|⟨b,off,cap,rfl,ao,hm,am,aY,_⟩
 ·have:(xs.drop aK).take len=[]:=ld (by omega);rw[this];exact .kH none 0 size (by simp) (fun _=>rfl)
 ·by_cases aW:len=0
  ·have:(xs.drop aK).take len=[]:=ld (by omega);rw[this,aW];exact .kH (some _) cap size hm (fun h=>by cases h)
  ·have jP:=aY (by omega);rw[ap]at am jP;have ae:(tm i).ownBlock=some b:=am;have MB:off=aK*size:=jP;have bO:∀(j:Nat) (c:af),((xs.drop aK).take len).flatten[j]?=some c->xs.flatten[aK*size+j]?=some c:=by
    intro j c ac;rw[BE (fun x eP=>aj x (tw eP)),EB aj,jl,h3]at ac;split at ac
    ·exact ac
    ·cases ac
   have gN:∀(j:Nat) (c:af),xs.flatten[j]?=some c->∃u,us[j]?=some u/\bn w S c u/\w.cell? ⟨b,j,none⟩=some u:=by intro j c ac;obtain⟨u,hu,an⟩:=al.2 j c ac;have:=bq.cells ae j u hu;rw[ln,f_]at this;exact⟨u,hu,an,this⟩
   rw[show Value.slice (some ⟨b,off,none⟩) len cap=Value.slice (some ⟨b,off,none⟩) ((xs.drop aK).take len).length cap by rw[yT]];refine .list ⟨b,off,none⟩ cap size ((xs.drop aK).take len) (fun j=>us.getD (aK*size+j) undef) (bW b ae) rfl (by omega) hm (fun x eP=>aj x (tw (rU eP))) (fun j c ac=>?_) (fun j c ac=>?_)
   ·obtain⟨u,hu,_,ao⟩:=gN _ c (bO j c ac);rw[ln,MB,jQ,hu];exact ao
   ·obtain⟨u,hu,an,_⟩:=gN _ c (bO j c ac);simp only[jQ,hu,rW];exact an
def MC{s:ag}{tm:Nat->Value}{i e size:Nat}{xs:List (List af)}{S S':Nat->Prop}{B:Nat->Prop}{w:World}{aK len:Nat}{v:Value}{us:List Value}(ap:s i=.own e size xs)(h:cV w S' B s tm (.view i aK len true) v)
  (bq:w.h0 0 e size (tm i) xs.length us)(al:cj w S xs.flatten us)(aj:∀x∈xs,x.length=size) :
  w.h0 0 e size v (xs.take len).length (us.take (len*size))/\(∀b,v.ownBlock=some b->(tm i).ownBlock=some b)/\cj w S (xs.take len).flatten (us.take (len*size))/\len<=xs.length:=by
 obtain⟨_,hle,pw⟩:=h;rw[ap]at hle;have ED:aK+len<=xs.length:=hle;have gl:us.length=xs.length*size:=bq.1;have hmul:len*size<=xs.length*size:=yJ _ (by omega);have Ij:(xs.take len).length=len:=by rw[d'];omega
 have aq:cj w S (xs.take len).flatten (us.take (len*size)):=by
  rw[BE aj len];refine⟨by simp only[d',gl,w5 aj],fun j c ac=>?_⟩;rw[jl]at ac⊢;split at ac
  ·rename_i aq;rw[aC aq];exact al.2 _ _ ac
  ·cases ac
 rw[Ij];rcases pw with⟨aa,aW⟩|⟨L0,off,cap,aa,ao,H_,eV,_,hw⟩
 ·subst aW;rw[aa];exact⟨by simpa using World.yH w 0 e size,fun b h=>(by cases h),aq,by omega⟩
 ·obtain⟨_,l,g9⟩:=hw rfl;rw[ap]at g9;have g9:tm i=_:=g9;rw[aa];rcases bq.2 with⟨aT,_⟩|⟨g,MD,cur,gb,_,a1,nl,fT,en,ge⟩
  ·rw[g9]at aT;cases aT
  ·rw[g9]at gb;simp only[Value.slice.injEq,bS,Addr.mk.injEq]at gb;obtain⟨⟨rfl,rfl,_⟩,rfl,rfl⟩:=gb;refine⟨⟨by rw[d',gl];omega,.inr ⟨L0,cap,cur,rfl,cd _,a1,ao,H_,en,?_⟩⟩,fun b h=>by rw[g9];exact h,aq,by omega⟩;rw[<-ge,List.take_take];congr 1;omega
def BM(s:ag):af⊕(Nat×Nat)->Option af
 |.inl c=>some c
 |.inr (i,off)=>match s i with
  |.box cs=>bif decide (off<1000000)then some (.ref (cs.drop off))else none
  |_=>none
def mN(s:ag):List (af⊕(Nat×Nat))->Option (List af)
 |[]=>some []
 |c::r=>match BM s c,mN s r with
  |some x,some xs=>some (x::xs)
  |_,_=>none
def mO:af⊕(Nat×Nat)->Option Nat
 |.inl _=>none
 |.inr p=>some p.1
def l1(s:ag)(x:Operand):Prop×Option az:=
 match aG s x with
 |(p,.x bK)=>(p,some bK)
 |(p,.alias i)=>match s i with
  |.own _ size xs=>(p,some (.one (.list size xs)))
  |_=>(False,none)
 |(p,.view i aK len _)=>match s i with
  |.own _ size xs=>(p,some (.one (.list size ((xs.drop aK).take len))))
  |_=>(False,none)
 |(p,.elem cs)=>(p,some (.one (.ref cs)))
 |(p,.cr f caps)=>match mN s caps with
  |some cs=>(p,some (.one (.ht f cs)))
  |none=>(False,none)
 |_=>(False,none)
section
variable {P:Program}{S0:Env}{w0 w:World}{n:Nat}{s:ag}{a:Act}
def qB(S0:Env)(B:Nat)(w:World):Nat->Prop:=fun b=>(S0.rd b\/lf S0 B b)/\b<w.heap.size
def Sm{S S' B:Nat->Prop}{tm:Nat->Value}{cs:List af}{v:Value}(h:cV w S B s tm (.elem cs) v)(bW:∀b,S b->S' b):bn w S' (.ref cs) v:=by
 obtain⟨bT,rfl,cU,ap,ao⟩:=h;refine .ref bT cs (fun j=>(w.cell? (bT.add j)).getD undef) (bW _ ap) cU (fun j c ac=>?_) (fun j c ac=>?_)
 ·obtain⟨u,hu,_⟩:=ao j c ac;rw[hu];rfl
 ·obtain⟨u,hu,an⟩:=ao j c ac;rw[hu];exact an.mono bW (fun _ _=>rfl)
def ME(ah:Rel S0 w0 n s a w){S:Nat->Prop}(bW:∀b,bR S0 w0.heap.size w s (aJ a) b->S b):∀{caps:List (af⊕(Nat×Nat))} {cs:List af} {us:List Value},(∀i,i∈caps.filterMap mO->∀b,a' (s i) (aJ a i)=some b->S b)->mN s caps=some cs->us.length=caps.length ->
  (∀(j:Nat) (c:af⊕(Nat×Nat)),caps[j]?=some c->∃u,us[j]?=some u/\uZ w (bR S0 w0.heap.size w s (aJ a)) s (aJ a) c u)->cj w S cs us/\cs.length=caps.length
 |[],cs,us,_,h,al,_=>by simp[mN]at h;subst h;exact⟨⟨by simpa using al,fun j c ac=>by simp at ac⟩,rfl⟩
 |c::r,cs,us,ae,h,al,ao=>by
  simp only[mN]at h;split at h
  ·rename_i x xs av aI;injection h with h
   subst h;cases us with
   |nil=>simp at al
   |cons u us=>
    obtain⟨mG,eZ,nE⟩:=ao 0 c rfl;simp at eZ;subst eZ;have da:∀i,i∈r.filterMap mO->i∈(c::r).filterMap mO:=by
     intro i ai;rw[qC];split
     ·exact ai
     ·exact l3 _ ai
    obtain⟨aa,ab⟩:=ME ah bW (us:=us) (fun i ai=>ae i (da i ai)) aI (by simpa using al) (fun j c' ac=>by simpa using ao (j+1) c' (by simpa using ac));have aj:bn w S x u:=by
     cases c with
     |inl c0=>
      simp only[BM]at av;injection av with av
      subst av;exact bn.mono nE bW (fun _ _=>rfl)
     |inr q=>
      obtain⟨i,off⟩:=q;simp only[BM]at av;split at av
      ·rename_i bs ap;by_cases jP:off<1000000
       case neg=>simp[jP]at av
       simp only[jP,decide_true,cond_true]at av;injection av with av
       subst av;rw[qm,aC jP]at nE;obtain⟨b,yX,Bl⟩:=nE;subst yX;have ai:=ah.rep i;rw[ap]at ai;obtain⟨bg,arr,ty,aH,a1,dA,cL⟩:=ai;have et:bg=b:=by rw[ap,aH]at Bl;simpa[a']using Bl
       subst et;have fH:=ae i (by rw[qC];simp[mO]) bg Bl;refine .ref ⟨bg,off,none⟩ (bs.drop off) (fun j=>(w.cell? ((⟨bg,off,none⟩:Addr).add j)).getD undef) fH rfl (fun j c ac=>?_) (fun j c ac=>?_)
       ·obtain⟨v,gb,_⟩:=yW a1 dA off j c ac;rw[gb];rfl
       ·obtain⟨v,gb,xe⟩:=yW a1 dA off j c ac;rw[gb];exact xe.mono bW (fun _ _=>rfl)
      ·cases av
    refine⟨⟨by simp[aa.1],fun j c' ac=>?_⟩,by simp[ab]⟩;cases j with
    |zero=>simp at ac;subst ac;exact⟨u,rfl,aj⟩
    |succ j=>simp at ac;simpa using aa.2 j c' ac
  ·cases h
def bn.Sn{S:Nat->Prop}{f:FuncId}{cs:List af}{us:Array Value}(h:cj w S cs us.toList):bn w S (.ht f cs) (.func (.func f) #[] us):=by
 have e:us=((List.range cs.length).map fun j=>us.toList.getD j undef).toArray:=by
  have al:us.toList.length=cs.length:=h.1;apply qk;apply tz;intro j;simp only[dO];rcases kJ j cs.length with ac|ac
  ·rw[BF ac];simp[show j<us.size by simpa using (al▸ac:j<us.toList.length)]
  ·rw[lX (by rw[al];exact ac),lX (by simpa using ac)];rfl
 rw[e];refine .ht f cs _ (fun j c ac=>?_);obtain⟨u,hu,an⟩:=h.2 j c ac;rw[jQ,hu];exact an
def Sp(ah:Rel S0 w0 n s a w){x:Operand}{p:Prop}{bK:az}(h:l1 s x=(p,some bK))(ak:p):cg w (qB S0 w0.heap.size w) bK (a.eval x):=by
 have cW:=ah.aG x;unfold l1 at h;split at h
 ·rename_i q So e;simp only[cc,bS]at h;obtain⟨rfl,rfl⟩:=h;rw[e]at cW;exact cg.mono (cW ak) (fun b ae=>⟨ae.1,ae.2.1⟩) (fun _ _=>rfl)
 ·rename_i q i e;split at h
  ·rename_i bV size xs ap;simp only[cc,bS]at h;obtain⟨rfl,rfl⟩:=h;rw[e]at cW;obtain⟨aH,_⟩:=cV.wT (cW ak) ap;have ai:=ah.rep i;rw[ap]at ai;obtain⟨us,bq,al,aj,hm,cL⟩:=ai;rw[aH];exact BL bq (al.mono (fun b ae=>⟨ae.1,ae.2.1⟩) (fun _ _=>rfl)) aj hm (fun b ae=>⟨.inr (cL b ae),(bq.lt b ae).2⟩)
  ·simp at h
 ·rename_i q i aK len wh e;split at h
  ·rename_i bV size xs ap;simp only[cc,bS]at h;obtain⟨rfl,rfl⟩:=h;rw[e]at cW;have ai:=ah.rep i;rw[ap]at ai;obtain⟨us,bq,al,aj,hm,cL⟩:=ai;exact MA ap (cW ak) bq (al.mono (fun b ae=>⟨ae.1,ae.2.1⟩) (fun _ _=>rfl)) aj (fun b ae=>⟨.inr (cL b ae),(bq.lt b ae).2⟩)
  ·simp at h
 ·rename_i q cs e;simp only[cc,bS]at h;obtain⟨rfl,rfl⟩:=h;rw[e]at cW;exact Sm (cW ak) (fun b ae=>⟨ae.1,ae.2.1⟩)
 ·rename_i q f caps e;split at h
  ·rename_i cs en;simp only[cc,bS]at h;obtain⟨rfl,rfl⟩:=h;rw[e]at cW;obtain⟨us,aH,b',gA⟩:=cW ak;rw[aH];refine bn.Sn (ME ah (fun b ae=>⟨ae.1,ae.2.1⟩) (fun i _ b ae=>?_) en (by simpa using b') (fun j c ac=>by simpa using gA j c ac)).1;exact⟨.inr ((ah.rep i).gi ae).1,((ah.rep i).gi ae).2⟩
  ·simp at h
 ·simp at h
def pz(s:ag)(i o:Nat)(c:af):af:=
 match c with
 |.any=>match s (b0 i o)with
  |.link bB cv d=>match bB==i&&cv==o with
   |true=>match s d with
    |.own _ z xs=>.list z xs
    |_=>.any
   |false=>.any
  |_=>.any
 |c=>c
def r4(s:ag)(i:Nat):Nat->List af->List af
 |_,[]=>[]
 |o,c::r=>pz s i o c::r4 s i (o+1) r
def MF{s:ag}{i:Nat}:∀{cs:List af} {o j:Nat} {c:af},(r4 s i o cs)[j]?=some c->∃c',cs[j]?=some c'/\c=pz s i (o+j) c'
 |[],o,j,c,h=>by simp[r4]at h
 |x::r,o,0,c,h=>by simp[r4]at h;subst h;exact⟨x,rfl,rfl⟩
 |x::r,o,j+1,c,h=>by simp only[r4,BN]at h;obtain⟨c',aa,ab⟩:=MF h;exact⟨c',by simpa using aa,by rw[ab];congr 1;omega⟩
def zaU(s:ag)(i o:Nat)(c:af):pz s i o c=c\/∃d e z xs,c=.any/\s (b0 i o)=.link i o d/\s d=.own e z xs/\pz s i o c=.list z xs:=by
 unfold pz;split
 ·split
  ·rename_i bB cv d ap;split
   ·rename_i h;simp only[b4,fB]at h;obtain⟨rfl,rfl⟩:=h;split
    ·rename_i e z xs ax;exact .inr ⟨d,e,z,xs,rfl,ap,ax,rfl⟩
    ·exact .inl rfl
   ·exact .inl rfl
  ·exact .inl rfl
 ·exact .inl rfl
def zaV(ah:Rel S0 w0 n s a w){i o b:Nat}{cs:List af}{arr:Array Value}{t:TypeId}{c:af}{u:Value}(ap:s i=.box cs)(aH:aJ a i=.pointer (some ⟨b,0,none⟩))(a1:w.heap[b]?=some (.cells arr t (0,0)))(hu:arr[o]?=some u)(an:bn w (bR S0 w0.heap.size w s (aJ a)) c u) :
  bn w (qB S0 w0.heap.size w) (pz s i o c) u:=by
 rcases zaU s i o c with e|⟨d,bV,z,xs,av,aI,b5,eH⟩
 ·rw[e];exact bn.mono an (fun b ae=>⟨ae.1,ae.2.1⟩) (fun _ _=>rfl)
 ·rw[eH];have al:=ah.rep (b0 i o);rw[aI]at al;obtain⟨_,kQ,dv,aF,_,a7,b1⟩:=al;rw[ap,aH]at a7;have:dv=b:=by
   have:some b=some dv:=a7;injection this with this;exact this.symm
  subst this;rw[cell_of_row w dv o arr t (0,0) a1,hu]at b1;injection b1 with b1
  have ax:=ah.rep d;rw[b5]at ax;obtain⟨us,bq,al,aj,hm,cL⟩:=ax;rw[b5]at b1;have b1:u=aJ a d:=b1;rw[b1];exact BL bq (al.mono (fun b ae=>⟨ae.1,ae.2.1⟩) (fun _ _=>rfl)) aj hm (fun b ae=>⟨.inr (cL b ae),(bq.lt b ae).2⟩)
def Ik(s:ag)(x:Operand):Bool:=
 match (aG s x).2 with
 |.ptr i _=>!(s i).told
 |_=>false
def BO(s:ag)(x:Operand):Prop×Option az:=
 match aG s x with
 |(p,.ptr i off)=>match s i with
  |.box cs=>(p,some (.one (.ref (r4 s i off (cs.drop off)))))
  |_=>(False,none)
 |_=>l1 s x
def zaW(ah:Rel S0 w0 n s a w){x:Operand}{p:Prop}{bK:az}(h:BO s x=(p,some bK))(ak:p):cg w (qB S0 w0.heap.size w) bK (a.eval x):=by
 unfold BO at h;split at h
 ·rename_i q i off e;split at h
  ·rename_i cs ap;simp only[cc,bS]at h;obtain⟨rfl,rfl⟩:=h;have cW:=ah.aG x (by rw[e];exact ak);rw[e]at cW;obtain⟨b,aH,am⟩:=cW;have ai:=ah.rep i;rw[ap]at ai am;obtain⟨bg,arr,t,gb,a1,al,bl⟩:=ai;rw[gb]at am;obtain rfl:bg=b:=by simpa[a']using am
   rw[aH];refine bn.ref ⟨bg,off,none⟩ _ (fun j=>(w.cell? ((⟨bg,off,none⟩:Addr).add j)).getD undef) ⟨.inr bl,(gM.1 a1).1⟩ rfl (fun j c ac=>?_) (fun j c ac=>?_)
   ·obtain⟨c',aa,_⟩:=MF ac;obtain⟨u,hu,_⟩:=yW a1 al off j c' aa;rw[hu];rfl
   ·obtain⟨c',aa,ab⟩:=MF ac;rw[h3]at aa;obtain⟨u,hu,an⟩:=al.2 _ _ aa;have eZ:arr[off+j]?=some u:=by simpa using hu
    have gN:w.cell? ((⟨bg,off,none⟩:Addr).add j)=some u:=by rw[ln,cell_of_row w bg (off+j) arr t (0,0) a1];exact eZ
    rw[gN,ab];exact zaV ah ap gb a1 eZ an
  ·simp at h
 ·exact Sp ah h ak
def MG{a:ad}:((∃e size xs,a=.own e size xs)\/∃cs,a=.box cs)\/r1 a=a:=by
 cases a with
 |own e size xs=>exact .inl (.inl ⟨e,size,xs,rfl⟩)
 |box cs=>exact .inl (.inr ⟨cs,rfl⟩)
 |_=>exact .inr rfl
def zaX(ah:Rel S0 w0 n s a w)(i:Nat):Rel S0 w0 n (freeze s i) a w:=by
 rcases MG (a:=s i)with ap|ap
 ·exact ah.freeze ap
 ·have ai:freeze s i i=s i:=by unfold freeze;simp[ap]
  have aw:∀j,j≠i->(s j).refs i=false->freeze s i j=s j:=by intro j ac an;unfold freeze;simp[ac,an]
  have MH:∀cs,s i≠.box cs:=fun cs e=>by rw[e]at ap;cases ap
  have am:∀j,j≠i->(s j).refs i=true->freeze s i j=.dead:=by intro j ac an;unfold freeze;simp[ac,an,zaP _ MH]
  refine ah.forget (fun j=>?_) (fun j k bY=>?_)
  ·by_cases ac:j=i
   ·subst ac;exact .inl ai
   ·cases an:(s j).refs i with
    |true=>exact .inr (am j ac an)
    |false=>exact .inl (aw j ac an)
  ·by_cases dY:k=i
   ·subst dY;exact ai
   ·have mL:freeze s i j=s j:=by
     by_cases ac:j=i
     ·subst ac;exact ai
     ·cases an:(s j).refs i with
      |true=>rw[am j ac an]at bY;cases bY
      |false=>exact aw j ac an
    rw[mL]at bY;have ff:=ah.wf j k bY;refine aw k dY ?_;cases an:(s k).refs i with
    |true=>rw[kI an]at ff;cases ff
    |false=>rfl
def y0:ad->List Nat
 |.alias i=>[i]
 |.view i _ _ _=>[i]
 |.cr _ caps=>caps.filterMap mO
 |_=>[]
def dc(s:ag):List Operand->List Nat
 |[]=>[]
 |x::r=>y0 (aG s x).2++dc s r
def Sq:ad->List Nat
 |.cr _ caps=>caps.filterMap mO
 |_=>[]
def y1(s:ag):List Operand->List Nat
 |[]=>[]
 |x::r=>Sq (aG s x).2++y1 s r
def Sr:ad->List Nat
 |.ptr i 0=>[i]
 |_=>[]
def y2(s:ag):List Operand->List Nat
 |[]=>[]
 |x::r=>Sr (aG s x).2++y2 s r
def y3(l m:List Nat):List Nat:=m.filter fun i=>!l.contains i
def qD(s:ag)(l:List Operand):List Nat:=y3 (y2 s l) (y1 s l)
def dt(s:ag):List Nat->ag
 |[]=>s
 |i::r=>dt (freeze s i) r
def oG(s:ag)(l:List Nat)(k:ag->Prop):Prop:=k (dt s l)
def tF:∀(l:List Nat) (s:ag),Rel S0 w0 n s a w->Rel S0 w0 n (dt s l) a w
 |[],_,h=>h
 |i::r,_,h=>tF r _ (zaX h i)
def zaY{i k:Nat}(h:(freeze s i k).aM=true):freeze s i k=s k:=by
 unfold freeze at h⊢;by_cases am:k=i
 ·subst am;simp only[aC]at h⊢;rcases MG (a:=s k)with (⟨e,size,xs,ap⟩|⟨cs,ap⟩)|ap
  ·rw[ap]at h;cases h
  ·rw[ap]at h;cases h
  ·exact ap
 ·simp only[au am]at h⊢;cases an:(s k).refs i with
  |true=>rw[an]at h;simp only[hB]at h;rw[Mv]at h;cases h
  |false=>rfl
def EP:∀(l:List Nat) (s:ag) (k:Nat),(dt s l k).aM=true->dt s l k=s k
 |[],_,_,_=>rfl
 |i::r,s,k,h=>by have aa:=EP r (freeze s i) k h;simp only[dt]at h⊢;rw[aa]at h⊢;exact zaY h
def Il:∀(l:List Nat) (s:ag) (i:Nat),((∃e size xs,s i=.own e size xs)\/∃cs,s i=.box cs)->i∈l->(dt s l i).aM=false
 |[],_,_,_,h=>by cases h
 |j::r,s,i,ap,hm=>by
  simp only[dt];by_cases ct:i=j
  ·subst ct;cases aw:(dt (freeze s i) r i).aM with
   |false=>rfl
   |true=>have:=EP r _ _ aw;rw[this]at aw;unfold freeze at aw;rcases ap with⟨e,size,xs,ap⟩|⟨cs,ap⟩<;>simp[ap,r1,ad.aM]at aw
  ·refine Il r _ i ?_ (by simpa[ct]using hm);unfold freeze;rcases ap with⟨e,size,xs,ap⟩|⟨cs,ap⟩
   ·exact .inl ⟨e,size,xs,by simp[ct,ap,ad.refs]⟩
   ·exact .inr ⟨cs,by simp[ct,ap,ad.refs]⟩
def MI(ah:Rel S0 w0 n s a w){x:Operand}{p:Prop}{bK:az}(h:l1 s x=(p,some bK))(ak:p)(l:List Nat)(al:∀i∈y0 (aG s x).2,i∈l) :
  cg w (bR S0 w0.heap.size w (dt s l) (aJ a)) bK (a.eval x):=by
 have cW:=ah.aG x;have cb:∀k b,a' (dt s l k) (aJ a k)=some b->(dt s l k).aM=true/\a' (s k) (aJ a k)=some b:=by
  intro k b ae;have aw:(dt s l k).aM=true:=by
   cases aw:(dt s l k).aM with
   |true=>rfl
   |false=>rw[jm aw]at ae;cases ae
  rw[EP l s k aw]at ae;exact⟨aw,ae⟩
 have da:∀b,bR S0 w0.heap.size w s (aJ a) b->bR S0 w0.heap.size w (dt s l) (aJ a) b:=fun b ae=>⟨ae.1,ae.2.1,fun k am=>ae.2.2 k (cb k b am).2⟩
 unfold l1 at h;split at h
 ·rename_i q So e;simp only[cc,bS]at h;obtain⟨rfl,rfl⟩:=h;rw[e]at cW;exact cg.mono (cW ak) da (fun _ _=>rfl)
 ·rename_i q i e;split at h
  ·rename_i bV size xs ap;simp only[cc,bS]at h;obtain⟨rfl,rfl⟩:=h;have i8:=al i (by rw[e];exact kl);rw[e]at cW;obtain⟨aH,_⟩:=cV.wT (cW ak) ap;have ai:=ah.rep i;rw[ap]at ai;obtain⟨us,bq,MJ,aj,hm,cL⟩:=ai;rw[aH];refine BL bq (MJ.mono da (fun _ _=>rfl)) aj hm (fun b ae=>⟨.inr (cL b ae),(bq.lt b ae).2,fun k am=>?_⟩);obtain⟨aw,px⟩:=cb k b am;have dY:=ah.inj k i b px (by rw[ap];exact ae);subst dY;rw[Il l s k (.inl ⟨_,_,_,ap⟩) i8]at aw;cases aw
  ·simp at h
 ·rename_i q i aK len wh e;split at h
  ·rename_i bV size xs ap;simp only[cc,bS]at h;obtain⟨rfl,rfl⟩:=h;have i8:=al i (by rw[e];exact kl);rw[e]at cW;have ai:=ah.rep i;rw[ap]at ai;obtain⟨us,bq,MJ,aj,hm,cL⟩:=ai;refine MA ap (cW ak) bq (MJ.mono da (fun _ _=>rfl)) aj (fun b ae=>⟨.inr (cL b ae),(bq.lt b ae).2,fun k am=>?_⟩);obtain⟨aw,px⟩:=cb k b am;have dY:=ah.inj k i b px (by rw[ap];exact ae);subst dY;rw[Il l s k (.inl ⟨_,_,_,ap⟩) i8]at aw;cases aw
  ·simp at h
 ·rename_i q cs e;simp only[cc,bS]at h;obtain⟨rfl,rfl⟩:=h;rw[e]at cW;exact Sm (cW ak) da
 ·rename_i q f caps e;split at h
  ·rename_i cs en;simp only[cc,bS]at h;obtain⟨rfl,rfl⟩:=h;have du:∀i∈caps.filterMap mO,i∈l:=fun i ai=>al i (by rw[e];exact ai);rw[e]at cW;obtain⟨us,aH,b',gA⟩:=cW ak;rw[aH];refine bn.Sn (ME ah da (fun i ai b ae=>?_) en (by simpa using b') (fun j c ac=>by simpa using gA j c ac)).1;refine⟨.inr ((ah.rep i).gi ae).1,((ah.rep i).gi ae).2,fun k am=>?_⟩;obtain⟨aw,px⟩:=cb k b am;have dY:=ah.inj k i b px ae;subst dY;have u_:(∃e size xs,s k=.own e size xs)\/∃cs,s k=.box cs:=by
    have:∀{caps:List (af⊕(Nat×Nat))} {cs:List af},mN s caps=some cs->k∈caps.filterMap mO->∃bs,s k=.box bs:=by
     intro caps;induction caps with
     |nil=>intro cs _ h;cases h
     |cons c r aX=>
      intro cs h hm;simp only[mN]at h;split at h
      ·rename_i x xs av aI;rw[qC]at hm;cases c with
       |inl c0=>exact aX aI (by simpa[mO]using hm)
       |inr q=>
        simp only[mO,eT]at hm;rcases hm with hm|hm
        ·subst hm;simp only[BM]at av;split at av
         ·rename_i bs ap;exact⟨bs,ap⟩
         ·cases av
        ·exact aX aI hm
      ·cases h
    exact .inr (this en ai)
   rw[Il l s k u_ (du k ai)]at aw;cases aw
  ·simp at h
 ·simp at h
def h_(s:ag)(x:Operand):Prop×ad:=
 match l1 s x with
 |(p,some bK)=>(p,.x bK)
 |_=>(False,.dead)
def Im{s:ag}{x:Operand}{i:Nat}:∀{l:List Operand},x∈l->i∈y0 (aG s x).2->i∈dc s l
 |y::r,aj,h=>by
  simp only[dc,gv];rcases eT.1 aj with rfl|aj
  ·exact .inl h
  ·exact .inr (Im aj h)
def Io(ah:Rel S0 w0 n s a w)(l:List Operand){x:Operand}(aj:x∈l)(ak:(h_ s x).1):ll S0 w0 (dt s (dc s l)) a w (h_ s x).2 (a.eval x):=by
 unfold h_ at ak⊢;split at ak
 ·rename_i p bK e;exact MI ah e ak _ (fun i ai=>Im aj ai)
 ·exact ak.elim
def zaZ{s:ag}{x:Operand}{p:Prop}{bK:az}(h:aG s x=(p,.x bK)):h_ s x=(p,.x bK)/\dc s [x]=[]:=by unfold h_ l1;simp only[h,dc,y0];exact⟨trivial,rfl⟩
end
end Go.Ab
namespace Go.Ab
open Go Go.RowKit
variable [bf]
def Ss(off:Nat):∀(l:List Value) (k:Nat) (cells:Array Value),off+k+l.length<=cells.size ->
  ((l.zipIdx k).foldl (fun (cs:Array Value) (x:Value×Nat)=>cs.setIfInBounds (off+x.2) x.1) cells).toList=cl cells.toList (off+k) l:=by
 intro l;induction l with
 |nil=>intro k cells _;simp[cl]
 |cons v l aX=>
  intro k cells h;simp only[List.zipIdx_cons,Er];rw[aX (k+1) _ (by simp at h⊢;omega)];simp only[cl,Array.toList_setIfInBounds,eg];have aq:off+k<cells.toList.length:=by simp at h⊢;omega
  rw[List.drop_set_of_lt (by omega)];have av:off+(k+1)=(off+k)+1:=by omega
  rw[av,nF (by simpa using aq)];rw[List.take_set_of_le (by omega)];simp only[List.getElem_set_self,pg,gO,nt];congr 3;congr 1;omega
section
variable {P:Program}{S0:Env}{w0 w:World}{n:Nat}{s:ag}{a:Act}
def lv(P:Program)(t:TypeId):Option (List af×List (Nat×Nat)):=
 match P.info? t,P.underlying t with
 |some it,some (.struct fields)=>match it.zero,fields.toList.mapM (fun f=>(P.info? f.type).map fun i=>(f.offset,i.size))with
  |some z,some places=>if z.cells.toList.all tn then some (z.cells.toList.map tl,places)else none
  |_,_=>none
 |_,_=>none
def mP(places:List (Nat×Nat)):List af->List (Nat×(Prop×ad))->Prop×List af
 |cells,[]=>(True,cells)
 |cells,(i,(p,.x bK))::r=>match places[i]? with
  |some (off,size)=>(p/\bK.cells.length=size/\off+size<=cells.length/\(mP places (cl cells off bK.cells) r).1,(mP places (cl cells off bK.cells) r).2)
  |none=>(False,cells)
 |cells,_=>(False,cells)
def nG(P:Program)(f:Operand->Prop×ad)(t:TypeId)(parts:List (Nat×Operand)):Prop×ad:=
 match lv P t with
 |some (cs,places)=>((mP places cs (parts.map fun x=>(x.1,f x.2))).1,.x (.agg (mP places cs (parts.map fun x=>(x.1,f x.2))).2))
 |none=>(False,.dead)
def u'{α:Type}(cs vs:List α)(off:Nat)(h:off+vs.length<=cs.length):(cl cs off vs).length=cs.length:=by simp only[cl,eE,d',eo];omega
def zba{f:Operand->Prop×ad}(places:List (Nat×Nat)):∀(parts:List (Nat×Operand)) (cs:List af) (arr:Array Value),(∀x∈parts,dM S0 w0 s a w (f x.2) (a.eval x.2))->cj w (bR S0 w0.heap.size w s (aJ a)) cs arr.toList ->
  (mP places cs (parts.map fun x=>(x.1,f x.2))).1 ->
  ∃km,Instr.fill (places.toArray[·]?) arr (parts.map fun x=>(x.1,a.eval x.2))=some km/\cj w (bR S0 w0.heap.size w s (aJ a)) (mP places cs (parts.map fun x=>(x.1,f x.2))).2 km.toList:=by
 intro parts;induction parts with
 |nil=>intro cs arr _ h _;exact⟨arr,rfl,h⟩
 |cons x parts aX=>
  intro cs arr ay h ak;obtain⟨i,x⟩:=x;have cW:=ay _ kl;dsimp only at cW;simp only[iw]at ak⊢;generalize f x=MK at ak cW⊢;obtain⟨p,r⟩:=MK;cases r with
  |x bK=>
   simp only[mP]at ak⊢;cases fI:places[i]? with
   |none=>rw[fI]at ak;exact ak.elim
   |some os=>
    obtain⟨off,size⟩:=os;rw[fI]at ak;obtain⟨aa,ab,ar,aN⟩:=ak;have bU:=cg.cells (cW aa);have b':(a.eval x).cells.size=size:=by have:=bU.1;simp only[iZ]at this;rw[this,ab]
    have hC:arr.size=cs.length:=by have:=h.1;simpa using this
    have ML:((a.eval x).cells.zipIdx.foldl (fun cs (c,j)=>cs.setIfInBounds (off+j) c) arr).toList=cl arr.toList off (a.eval x).cells.toList:=by have:=Ss off (a.eval x).cells.toList 0 arr (by simp;omega);rw[<-Ip,Array.toList_zipIdx];exact this
    have l4:=h.cl bU off;rw[<-ML]at l4;obtain⟨km,ay,an⟩:=aX _ _ (fun y aS=>ay y (l3 _ aS)) l4 aN;refine⟨km,?_,an⟩;have bO:places.toArray[i]?=some (off,size):=by simpa using fI
    simp only[Instr.fill,bO,b',ne_eq,Bx,va,decide_false];rw[au (by simp;omega)];exact ay
  |_=>exact ak.elim
def St{f:Operand->Prop×ad}{t:TypeId}{parts:Array (Nat×Operand)}(ay:∀x∈parts.toList,dM S0 w0 s a w (f x.2) (a.eval x.2))(ak:(nG P f t parts.toList).1) :
  ∃v,(Instr.build t (parts.map fun (i,x)=>(i,a.eval x))).run P w=.ok v w/\ll S0 w0 s a w (nG P f t parts.toList).2 v/\(nG P f t parts.toList).2.aM=false:=by
 unfold nG at ak⊢;split at ak
 ·rename_i cs places ae;unfold lv at ae;split at ae
  ·rename_i it fields ai hu;split at ae
   ·rename_i z zbb aY fI;split at ae
    ·rename_i fM;injection ae with ae
     injection ae with oH r5;subst oH;subst r5
     obtain⟨km,ay,an⟩:=zba zbb parts.toList _ z.cells ay (Si fM) ak;refine⟨.agg km,run_build (P:=P) w t _ km ?_,⟨km,rfl,an⟩,rfl⟩;simp only[Program.built,ai,hu,aY,fI];rw[<-ay];congr 1;simp
    ·cases ae
   ·cases ae
  ·cases ae
 ·exact ak.elim
def nH(size:Nat):List (List af)->List (Nat×(Prop×ad))->Prop×List (List af)
 |xs,[]=>(True,xs)
 |xs,(i,(p,.x bK))::r=>(p/\bK.cells.length=size/\i<xs.length/\(nH size (xs.set i bK.cells) r).1,(nH size (xs.set i bK.cells) r).2)
 |xs,_=>(False,xs)
def ix(P:Program)(t:TypeId):Option (TypeId×Nat×List af):=
 match fC P t with
 |some (e,size)=>match zeroOf P e with
  |some z=>if z.length=size then some (e,size,z)else none
  |none=>none
 |none=>none
def jS(P:Program)(f:Operand->Prop×ad)(t:TypeId)(len:Nat)(parts:List (Nat×Operand)):Prop×ad:=
 match ix P t with
 |some (e,size,z)=>(len*size<=16777216/\(nH size (List.replicate len z) (parts.map fun x=>(x.1,f x.2))).1,.own e size (nH size (List.replicate len z) (parts.map fun x=>(x.1,f x.2))).2)
 |none=>(False,.dead)
def Su{xs:List (List af)}{size:Nat}(aj:∀x∈xs,x.length=size){i:Nat}(ai:i<xs.length){c:List af}(ao:c.length=size) :
  (xs.set i c).flatten=cl xs.flatten (i*size) c:=by
 induction xs generalizing i with
 |nil=>simp at ai
 |cons x xs aX=>
  have al:=aj x (by simp);cases i with
  |zero=>simp only[List.set_cons_zero,qn,cl,Nat.zero_mul,List.take_zero,nt,f_];rw[List.drop_append,kf (by omega:x.length<=c.length),ao,al];simp
  |succ i=>
   simp only[List.set_cons_succ,qn];rw[aX (fun y aS=>aj y (by simp[aS])) (by simpa using ai)];have av:(i+1)*size=x.length+i*size:=by rw[j9,al];omega
   have aI:(x++xs.flatten).drop (x.length+i*size+c.length)=xs.flatten.drop (i*size+c.length):=by rw[List.drop_append,kf (by omega),nt];congr 1;omega
   have b5:(x++xs.flatten).take (x.length+i*size)=x++xs.flatten.take (i*size):=by rw[List.take_append,iv (by omega)];congr 2;omega
   simp only[cl,av,aI,b5,pg]
def zbc{f:Operand->Prop×ad}(size:Nat):∀(parts:List (Nat×Operand)) (xs:List (List af)) (arr:Array Value),(∀x∈parts,dM S0 w0 s a w (f x.2) (a.eval x.2))->(∀x∈xs,x.length=size)->cj w (bR S0 w0.heap.size w s (aJ a)) xs.flatten arr.toList ->
  (nH size xs (parts.map fun x=>(x.1,f x.2))).1 ->
  (nH size xs (parts.map fun x=>(x.1,f x.2))).2.length=xs.length/\(∀x∈(nH size xs (parts.map fun x=>(x.1,f x.2))).2,x.length=size) /\
  ∃km,Instr.fill (fun i=>some (i*size,size)) arr (parts.map fun x=>(x.1,a.eval x.2))=some km/\cj w (bR S0 w0.heap.size w s (aJ a)) (nH size xs (parts.map fun x=>(x.1,f x.2))).2.flatten km.toList:=by
 intro parts;induction parts with
 |nil=>intro xs arr _ aj h _;exact⟨rfl,aj,arr,rfl,h⟩
 |cons x parts aX=>
  intro xs arr ay aj h ak;obtain⟨i,x⟩:=x;have cW:=ay _ kl;dsimp only at cW;simp only[iw]at ak⊢;generalize f x=MK at ak cW⊢;obtain⟨p,r⟩:=MK;cases r with
  |x bK=>
   simp only[nH]at ak⊢;obtain⟨aa,ab,ar,aN⟩:=ak;have bU:=cg.cells (cW aa);have b':(a.eval x).cells.size=size:=by have:=bU.1;simp only[iZ]at this;rw[this,ab]
   have hC:arr.size=xs.length*size:=by have:=h.1;rw[w5 aj]at this;simpa using this
   have fH:i*size+size<=arr.size:=by rw[hC];have:(i+1)*size<=xs.length*size:=yJ _ ar;rw[j9]at this;omega
   have ML:((a.eval x).cells.zipIdx.foldl (fun cs (c,j)=>cs.setIfInBounds (i*size+j) c) arr).toList=cl arr.toList (i*size) (a.eval x).cells.toList:=by have:=Ss (i*size) (a.eval x).cells.toList 0 arr (by simp;omega);rw[<-Ip,Array.toList_zipIdx];exact this
   have l4:=h.cl bU (i*size);rw[<-ML,<-Su aj ar ab]at l4;have eP:∀y∈xs.set i bK.cells,y.length=size:=by
    intro y aS;rcases Iq aS with aS|aS
    ·exact aj y aS
    ·rw[aS,ab]
   obtain⟨al,fD,km,ay,an⟩:=aX _ _ (fun y aS=>ay y (l3 _ aS)) eP l4 aN;refine⟨by rw[al];simp,fD,km,?_,an⟩;simp only[Instr.fill,b',ne_eq,Bx,va,decide_false];rw[au (by simp;omega)];exact ay
  |_=>exact ak.elim
def Ir{S:Nat->Prop}{dH:List af}{z:Array Value}(h:cj w S dH z.toList)(len:Nat) :
  cj w S (List.replicate len dH).flatten ((Array.range (len*z.size)).map (z[· % z.size]!)).toList:=by
 have al:dH.length=z.size:=by have:=h.1;simpa using this.symm
 refine⟨by simp[al],fun j c ac=>?_⟩;have aq:j<len*z.size:=by have:=(ep.1 ac).1;simpa[al]using this
 have ke:0<z.size:=by
  rcases Nat.eq_zero_or_pos z.size with aW|aW
  ·rw[aW]at aq;simp at aq
  ·exact aW
 have eI:dH[j%z.size]?=some c:=by
  have key:∀(len j:Nat),j<len*dH.length->(List.replicate len dH).flatten[j]?=dH[j%dH.length]?:=by
   intro len;induction len with
   |zero=>intro j h;simp at h
   |succ len aX=>
    intro j h;simp only[List.replicate_succ,qn];rw[xc];split
    ·rename_i aq;rw[ER aq]
    ·rename_i k';rw[aX _ (by rw[j9]at h;omega)];congr 1;have:j=(j-dH.length)+dH.length:=by omega
     conv=>rhs;rw[this,Nat.add_mod_right]
  rw[key _ _ (by rw[al];exact aq),al]at ac;exact ac
 obtain⟨u,hu,an⟩:=h.2 _ c eI;refine⟨u,?_,an⟩;have hm:j%z.size<z.size:=Nat.mod_lt _ ke;have aY:z[j%z.size]=u:=by rw[Ez,qs hm]at hu;injection hu
 simp[aq,hm,aY]
def ES{t e:TypeId}{size:Nat}{dH:List af}(h:ix P t=some (e,size,dH)) :
  ∃i z,P.underlying t=some (.slice e)/\P.info? e=some i/\i.size=size/\0<size/\(zeroValue e).run P w=.ok z w/\(∀S,cj w S dH z.cells.toList)/\dH.length=size:=by
 unfold ix at h;split at h
 ·rename_i bV dU b_;split at h
  ·rename_i z aY;split at h
   ·rename_i hD;injection h with h
    simp only[cc]at h;obtain⟨rfl,rfl,rfl⟩:=h;obtain⟨i,hu,ai,ap,ak⟩:=oz b_;obtain⟨Ia,cx,_⟩:=Mt (P:=P) (w:=w) aY (fun _=>True);refine⟨i,Ia,hu,ai,ap,ak,cx,fun S=>?_,hD⟩;obtain⟨zos,Sv,bU⟩:=Mt (P:=P) (w:=w) aY S;rw[cx]at Sv;injection Sv with av
    subst av;exact bU
   ·cases h
  ·cases h
 ·cases h
def MM{f:Operand->Prop×ad}{t:TypeId}{len d:Nat}{parts:Array (Nat×Operand)}(ah:Rel S0 w0 n s a w)(ay:∀x∈parts.toList,dM S0 w0 s a w (f x.2) (a.eval x.2))(ax:S0.m<=d/\d<n)(ak:(jS P f t len parts.toList).1) :
  ∃v w',(Instr.buildSlice t len (parts.map fun (i,x)=>(i,a.eval x))).run P w=.ok v w'/\Rel S0 w0 n (Ab.put s d (jS P f t len parts.toList).2) (a.put (some d) v) w':=by
 unfold jS at ak⊢;split at ak
 ·rename_i e size dH b_;obtain⟨zbd,ak⟩:=ak;obtain⟨i,z,hu,ai,ap,ke,aY,qu,hD⟩:=ES (w:=w) b_;have EQ:z.cells.size=size:=by have:=(qu (fun _=>True)).1;rw[hD]at this;simpa using this
  have bU:=Ir (qu (bR S0 w0.heap.size w s (aJ a))) len;rw[EQ]at bU;have aj:∀x∈List.replicate len dH,x.length=size:=fun x aj=>by rw[ET aj,hD]
  obtain⟨al,fD,km,ay,an⟩:=zbc size parts.toList _ _ ay aj bU ak;have hlen:(nH size (List.replicate len dH) (parts.toList.map fun x=>(x.1,f x.2))).2.length=len:=by rw[al];simp
  have zbe:Instr.fill (fun i=>some (i*size,size)) ((Array.range (len*size)).map (z.cells[· % size]!)) (parts.map fun (i,x)=>(i,a.eval x)).toList=some km:=by rw[<-ay];congr 1;simp
  have nI:km.size=len*size:=by have:=an.1;rw[w5 fD,hlen]at this;simpa using this
  have gA:len<=maxLen:=by have:len*1<=len*size:=Nat.mul_le_mul_left _ ke;simp only[maxLen];omega
  refine⟨.slice (some ⟨w.heap.size,0,none⟩) len len,w.alloc (.cells km e),?_,?_⟩
  ·have zbf:¬len*size > 2^24:=by omega
   have kR:∀c:Array Value,c=((Array.range (len*size)).map (z.cells[· % size]!))->(Instr.fill (fun i=>some (i*size,size)) c (parts.map fun (i,x)=>(i,a.eval x)).toList)=some km:=fun c ao=>by rw[ao];exact zbe
   by_cases aW:len*size=0
   ·have aa:=kR #[] (by rw[aW];simp);have xf:∀f:Nat->Value,Array.map f (Array.range 0)=#[]:=fun f=>by simp
    simp only[Instr.buildSlice,Sem.run_bind,run_underlying hu,Result.andThen_ok,run_sizeOf ai,ap];rw[aW];simp only[show ¬((0:Nat) > 2^24) by omega,h6,hB,Sem.run_pure,Result.andThen_ok,xf,aa,Sem.run_bind];rfl
   ·have aa:=kR _ rfl;simp only[Instr.buildSlice,Sem.run_bind,run_underlying hu,Result.andThen_ok,run_sizeOf ai,ap,au zbf,au aW,aY,Sem.run_pure,EQ,aa];rfl
  ·refine ah.BI ax (World.grownBy_alloc w _ none) (us:=km.toList) ⟨by simp[nI,hlen],.inr ⟨w.heap.size,len,km,by rw[hlen],cd _,⟨_,heap_alloc_new w _,.inl rfl⟩,by omega,gA,nI,?_⟩⟩ an fD (by rw[hlen];exact gA) ?_
   ·rw[hlen,iv (by simp[nI])]
   ·intro b ae;have:w.heap.size=b:=by simpa[Value.ownBlock]using ae
    omega
 ·exact ak.elim
end
end Go.Ab
namespace Go.Ab
open Go Go.RowKit
variable [bf]
inductive bw where
 |x (v:az)
 |b2 (vs:List az)
 |own (e size:Nat) (xs:List (List af))
def bw.cP:bw->ad
 |.x v=>.x v
 |.b2 vs=>.b2 vs
 |.own e size xs=>.own e size xs
def bw.ha:bw->Value->Option Nat
 |.own _ _ _,v=>v.ownBlock
 |_,_=>none
def iy(w:World)(S:Nat->Prop):bw->Value->Prop
 |.x bK,v=>cg w S bK v
 |.b2 vs,v=>∃us:Array Value,v=.tuple us/\us.size=vs.length/\∀(j:Nat) (x:az),vs[j]?=some x->∃u,us[j]?=some u/\cg w S x u
 |.own e size xs,v=>∃us:List Value,w.h0 0 e size v xs.length us/\cj w (fun b=>S b/\v.ownBlock≠some b) xs.flatten us/\(∀x∈xs,x.length=size)/\xs.length<=maxLen/\∀b,v.ownBlock=some b->S b
def iy.mono{w w':World}{S S':Nat->Prop}{r:bw}{v:Value}(h:iy w S r v)(bW:∀b,S b->S' b)
  (ae:∀b,S b->w'.heap[b]?=w.heap[b]?):iy w' S' r v:=by
 cases r with
 |x bK=>exact cg.mono h bW ae
 |b2 vs=>obtain⟨us,aH,al,aj⟩:=h;exact⟨us,aH,al,fun j x ac=>let ⟨u,hu,an⟩:=aj j x ac;⟨u,hu,an.mono bW ae⟩⟩
 |own e size xs=>
  obtain⟨us,bq,al,aj,hm,bl⟩:=h;refine⟨us,⟨bq.1,?_⟩,al.mono (fun b cm=>⟨bW b cm.1,cm.2⟩) (fun b cm=>ae b cm.1),aj,hm,fun b cm=>bW b (bl b cm)⟩;rcases bq.2 with aT|⟨g,cap,cur,rfl,lb,a1,rest⟩
  ·exact .inl aT
  ·exact .inr ⟨g,cap,cur,rfl,lb,by rw[ae g (bl g rfl)];exact a1,rest⟩
def nJ(w:World)(S:Nat->Prop)(args:List az)(vs:Array Value):Prop:=
 vs.size=args.length/\∀(j:Nat) (x:az),args[j]?=some x->∃u,vs[j]?=some u/\cg w S x u
def r6(P:Program)(f:FuncId):Prop:=∃fn,P.funcs[f]?=some fn/\(fn.name== "runtime.NumGoroutine")=false/\fn.body.isNone=false
def aD(P:Program)(f:FuncId)(args:List az)(r:bw):Prop:=
 r6 P f/\∀(w:World) (S:Nat->Prop) (vs:Array Value),ph ⟨S,fun _=>False,0,fun _=>undef⟩ w->nJ w S args vs ->
  Calls P f vs w fun e w'=>∃v,e=.returned v/\Below w.heap.size w w'/\iy w' (fun b=>S b\/(w.heap.size<=b/\b<w'.heap.size)) r v/\∀b,r.ha v=some b->w.heap.size<=b
def af.flat:af->Bool
 |.list _ _=>false
 |.nil=>false
 |.empty _=>false
 |.ht _ _=>false
 |.ref _=>false
 |.g8 _ _ _ _=>false
 |_=>true
def az.flat:az->Bool
 |.one c=>c.flat
 |.agg cs=>cs.all af.flat
def bw.flat:bw->Bool
 |.x v=>v.flat
 |.b2 vs=>vs.all az.flat
 |.own _ _ _=>false
def bn.flat{w w':World}{S S':Nat->Prop}{c:af}{v:Value}(h:bn w S c v)(ay:c.flat=true):bn w' S' c v:=by
 cases h with
 |bool b=>exact .bool b
 |int k n=>exact .int k n
 |str l h=>exact .str l h
 |atom v h=>exact .atom v h
 |any v h=>exact .any v h
 |_=>cases ay
def cg.flat{w w':World}{S S':Nat->Prop}{x:az}{v:Value}(h:cg w S x v)(ay:x.flat=true):cg w' S' x v:=by
 cases x with
 |one c=>exact bn.flat h ay
 |agg cs=>obtain⟨us,aH,al,aj⟩:=h;exact⟨us,aH,al,fun j c ac=>let ⟨u,hu,an⟩:=aj j c ac;⟨u,hu,an.flat (fm.1 ay c (iq ac))⟩⟩
def iy.flat{w w':World}{S S':Nat->Prop}{r:bw}{v:Value}(h:iy w S r v)(ay:r.flat=true):iy w' S' r v:=by
 cases r with
 |x bK=>exact cg.flat h ay
 |b2 vs=>obtain⟨us,aH,al,aj⟩:=h;exact⟨us,aH,al,fun j x ac=>let ⟨u,hu,an⟩:=aj j x ac;⟨u,hu,an.flat (fm.1 ay x (iq ac))⟩⟩
 |own e size xs=>cases ay
def lx(s:ag):List Operand->Prop×Option (List az)
 |[]=>(True,some [])
 |x::r=>match l1 s x,lx s r with
  |(p,some v),(q,some vs)=>(p/\q,some (v::vs))
  |_,_=>(False,none)
def iz:ad->Option (FuncId×List az)
 |.x (.one (.atom (.func (.func f) ⟨[]⟩ ⟨[]⟩)))=>some (f,[])
 |.x (.one (.ht f caps))=>some (f,caps.map .one)
 |_=>none
def callee(s:ag)(f:Operand)(args:List Operand):Prop×Option (FuncId×List az):=
 match aG s f,lx s args with
 |(p,a),(q,some xs)=>match iz a with
  |some (g,caps)=>(p/\q,some (g,xs++caps))
  |none=>(False,none)
 |_,_=>(False,none)
def qE(s:ag):List Operand->Prop×Option (List az)
 |[]=>(True,some [])
 |x::r=>match BO s x,qE s r with
  |(p,some v),(q,some vs)=>(p/\q,some (v::vs))
  |_,_=>(False,none)
def vb(s:ag)(f:Operand)(args:List Operand):Prop×Option (FuncId×List az):=
 match args.any (Ik s)with
 |true=>match aG s f,qE s args with
  |(p,a),(q,some xs)=>match iz a with
   |some (g,caps)=>(p/\q,some (g,xs++caps))
   |none=>(False,none)
  |_,_=>(False,none)
 |false=>(False,none)
def oI(P:Program)(c:Prop×Option (FuncId×List az))(k:bw->Prop)(m:Prop):Prop:=
 match c with
 |(p,some (g,xs))=>p/\((∃r,aD P g xs r/\r.flat=true/\k r)\/m)
 |_=>m
def nK(P:Program)(s:ag)(f:Operand)(args:List Operand)(r:bw):Prop:=
 match callee s f args with
 |(p,some (g,xs))=>p/\aD P g xs r
 |_=>False
def Is(P:Program)(e:Bool)(g:FuncId)(xs:List az)(k:bw->Prop):Prop:=∃r,(e=true->aD P g xs r)/\r.flat=true/\k r
def pA(P:Program)(e:Bool)(c:Prop×Option (FuncId×List az))(k:bw->Prop):Prop:=
 match c with
 |(p,some (g,xs))=>(e=true->p)/\Is P e g xs k
 |_=>False
def Sw{P:Program}{s:ag}{e:Bool}{f:Operand}{args:List Operand}{k:bw->Prop}(h:pA P e (callee s f args) k):∃r,(e=true->nK P s f args r)/\r.flat=true/\k r:=by
 unfold pA Is at h;unfold nK;split at h
 ·obtain⟨ak,r,ao,ay,am⟩:=h;exact⟨r,fun he=>⟨ak he,ao he⟩,ay,am⟩
 ·exact h.elim
def EU{P:Program}{e:Bool}{c:Prop×Option (FuncId×List az)}{k:bw->Prop}(h:pA P e c k):∃r,(∀bu:bw->Prop,bu r->pA P e c bu)/\k r:=by
 unfold pA Is at h⊢;split at h
 ·obtain⟨ak,r,ao,ay,am⟩:=h;exact⟨r,fun bu eV=>⟨ak,r,ao,ay,eV⟩,am⟩
 ·exact h.elim
section
variable {P:Program}{S0:Env}{w0 w:World}{n:Nat}{s:ag}{a:Act}
def Sx(ah:Rel S0 w0 n s a w):∀{args:List Operand} {p:Prop} {xs:List az},lx s args=(p,some xs)->p->nJ w (qB S0 w0.heap.size w) xs (args.map a.eval).toArray:=by
 intro args;induction args with
 |nil=>intro p xs h _;simp only[lx,cc,bS]at h;obtain⟨_,rfl⟩:=h;exact⟨rfl,fun j x ac=>by simp at ac⟩
 |cons x r aX=>
  intro p xs h ak;simp only[lx]at h;split at h
  ·rename_i q v dQ vs av aI;simp only[cc,bS]at h;obtain⟨rfl,rfl⟩:=h;have aa:=Sp ah av ak.1;obtain⟨ab,ar⟩:=aX aI ak.2;refine⟨by simpa using ab,fun j bH ac=>?_⟩;cases j with
   |zero=>simp at ac;subst ac;exact⟨_,rfl,aa⟩
   |succ j=>simp only[BN]at ac;obtain⟨u,hu,an⟩:=ar j bH ac;exact⟨u,by simpa using hu,an⟩
  ·simp at h
def zbg(ah:Rel S0 w0 n s a w)(l:List Nat):∀{args:List Operand} {p:Prop} {xs:List az},lx s args=(p,some xs)->p->(∀i∈dc s args,i∈l) ->
  nJ w (bR S0 w0.heap.size w (dt s l) (aJ a)) xs (args.map a.eval).toArray:=by
 intro args;induction args with
 |nil=>intro p xs h _ _;simp only[lx,cc,bS]at h;obtain⟨_,rfl⟩:=h;exact⟨rfl,fun j x ac=>by simp at ac⟩
 |cons x r aX=>
  intro p xs h ak al;simp only[lx]at h;split at h
  ·rename_i q v dQ vs av aI;simp only[cc,bS]at h;obtain⟨rfl,rfl⟩:=h;have aa:=MI ah av ak.1 l (fun i ai=>al i (Im kl ai));obtain⟨ab,ar⟩:=aX aI ak.2 (fun i ai=>al i (by
    simp only[dc,gv];exact .inr ai))
   refine⟨by simpa using ab,fun j bH ac=>?_⟩;cases j with
   |zero=>simp at ac;subst ac;exact⟨_,rfl,aa⟩
   |succ j=>simp only[BN]at ac;obtain⟨u,hu,an⟩:=ar j bH ac;exact⟨u,by simpa using hu,an⟩
  ·simp at h
def nL(s:ag)(args:List Operand)(r:bw):ag:=
 match r.flat with
 |true=>s
 |false=>dt s (dc s args)
def It{w w':World}(h:Below w.heap.size w w'):w.grownBy w' none:=⟨h.os,h.tape,h.output,h.size,fun k am _=>h.block k am⟩
def nJ.append{S:Nat->Prop}{xs aQ:List az}{us vs:Array Value}(aa:nJ w S xs us)(ab:nJ w S aQ vs):nJ w S (xs++aQ) (us++vs):=by
 refine⟨by simp[aa.1,ab.1],fun j x ac=>?_⟩;by_cases aq:j<xs.length
 ·rw[jr aq]at ac;rw[y4 (by rw[aa.1];exact aq)];exact aa.2 j x ac
 ·rw[kb (by omega)]at ac;rw[Iu (by rw[aa.1];omega),aa.1];exact ab.2 _ x ac
def EV{S:Nat->Prop}{B:Nat->Prop}{tm:Nat->Value}{v:ad}{u:Value}{g:FuncId}{caps:List az}(h:cV w S B s tm v u)(ay:iz v=some (g,caps)) :
  ∃us:Array Value,u=.func (.func g) #[] us/\nJ w S caps us:=by
 unfold iz at ay;split at ay
 ·injection ay with ay;injection ay with MN Et
  subst MN;subst Et;cases h;exact⟨#[],rfl,rfl,fun j x ac=>by simp at ac⟩
 ·rename_i tG cs;injection ay with ay
  injection ay with MN Et;subst MN;subst Et
  cases h with
  |ht _ _ U d7=>
   refine⟨_,rfl,by simp,fun j x ac=>?_⟩;rw[dO]at ac;cases ao:cs[j]? with
   |none=>rw[ao]at ac;cases ac
   |some c=>
    rw[ao]at ac;injection ac with ac
    subst ac;have aq:=(ep.1 ao).1;exact⟨U j,by simp[BF aq],d7 j c ao⟩
 ·cases ay
def nJ.mono{S S':Nat->Prop}{xs:List az}{us:Array Value}(h:nJ w S xs us)(bW:∀b,S b->S' b):nJ w S' xs us:=
 ⟨h.1,fun j x ac=>let ⟨u,hu,an⟩:=h.2 j x ac;⟨u,hu,cg.mono an bW (fun _ _=>rfl)⟩⟩
def Rel.back{d:Nat}{r:bw}{v:Value}{w':World}{S:Nat->Prop}(ah:Rel S0 w0 n s a w)(ax:S0.m<=d/\d<n)(ae:Below w.heap.size w w')
  (an:iy w' S r v)(bW:∀b,S b->(bR S0 w0.heap.size w s (aJ a) b\/(w.heap.size<=b/\b<w'.heap.size)))(ay:∀b,r.ha v=some b->w.heap.size<=b):Rel S0 w0 n (Ab.put s d r.cP) (a.put (some d) v) w':=by
 have i7:∀b,(bR S0 w0.heap.size w s (aJ a) b\/(w.heap.size<=b/\b<w'.heap.size))->bR S0 w0.heap.size w' s (aJ a) b:=by
  intro b et;rcases et with h|⟨aa,ab⟩
  ·exact⟨h.1,u0 h.2.1 ae.size,h.2.2⟩
  ·refine⟨.inr (.inl (iJ ah.below.size aa)),ab,fun k am=>?_⟩;have:=((ah.rep k).gi am).2;omega
 cases r with
 |x bK=>exact ah.put ax (It ae) (fun j h=>by cases h) (cg.mono an (fun b h=>i7 b (bW b h)) (fun _ _=>rfl)) (fun b h=>by cases h) (fun b h=>by cases h)
 |b2 vs=>obtain⟨us,aH,al,aj⟩:=an;exact ah.put ax (It ae) (fun j h=>by cases h) ⟨us,aH,al,fun j x ac=>let ⟨u,hu,an⟩:=aj j x ac;⟨u,hu,cg.mono an (fun b h=>i7 b (bW b h)) (fun _ _=>rfl)⟩⟩ (fun b h=>by cases h) (fun b h=>by cases h)
 |own e size xs=>obtain⟨us,bq,al,aj,hm,bl⟩:=an;have fq:∀b,v.ownBlock=some b->lf S0 w0.heap.size b:=fun b h=>.inl (iJ ah.below.size (ay b h));refine ah.put ax (It ae) (fun j h=>by cases h) ⟨us,bq,al.mono (fun b h=>i7 b (bW b h.1)) (fun _ _=>rfl),aj,hm,fq⟩ ay (fun b et=>?_);have zbh:v.ownBlock=some b:=et;exact⟨us,bq,al.mono (fun c h=>⟨i7 c (bW c h.1),fun e=>h.2 (by rw[zbh,e])⟩) (fun _ _=>rfl),aj,hm,fq⟩
def MO(ah:Rel S0 w0 n s a w){f:Operand}{args:Array Operand}{r:bw}(ao:nK P s f args.toList r)
  {o:Oper}(aw:∃ts,o.op=.call {callee:=.value f,args:=args,argTypes:=ts}){d:Nat}(ax:S0.m<=d/\d<n)(eu:o.dst=some d){K:Act->World->Prop}{Q:Exit->Act->World->Prop}
  (b6:∀aZ w',Rel S0 w0 n (Ab.put (nL s args.toList r) d r.cP) aZ w'->K aZ w'):o.wp P a w K Q:=by
 obtain⟨ts,cF⟩:=aw;unfold nK at ao;split at ao
 ·rename_i pp g vc ch;obtain⟨qF,⟨fn,hL,fO,r7⟩,oJ⟩:=ao;obtain⟨caps,xs,p,q,gn,gP,aI,av,rfl,rfl⟩:∃caps xs p q gn,aG s f=(p,gn)/\lx s args.toList=(q,some xs)/\iz gn=some (g,caps)/\pp=(p/\q)/\vc=xs++caps:=by
   unfold callee at ch;split at ch
   ·rename_i p gn q xs gP aI;split at ch
    ·rename_i bQ caps av;simp only[cc,bS]at ch;obtain⟨rfl,rfl,rfl⟩:=ch;exact⟨caps,xs,p,q,gn,gP,aI,av,rfl,rfl⟩
    ·simp at ch
   ·simp at ch
  obtain⟨kS,ak⟩:=qF;have oK:=ah.aG f (by rw[gP];exact kS);rw[gP]at oK;obtain⟨us,nM,gA⟩:=EV oK av;have hm:args.map a.eval=(args.toList.map a.eval).toArray:=by apply qk;simp
  have cx:(execOp a.eval o).run P w=.ok (.enter g (args.map a.eval++us)) w:=by simp only[execOp,cF,resolve,nM,Deferred.ofValue,Sem.run_bind,Sem.run_pure,Result.andThen_ok,invoke,callFunc,run_program,hL,fO,r7,kg,h6];simp
  unfold Oper.wp;rw[cx];simp only[Oper.upon];rw[hm,eu];have tH:=ah.lt.Bk ah.below;cases eh:r.flat with
  |true=>
   have vd:nL s args.toList r=s:=by unfold nL;rw[eh]
   rw[vd]at b6;refine(oJ w (qB S0 w0.heap.size w) _ ⟨fun b ae=>ae.2,fun b ae=>ae.elim,fun b _ ae=>ae.elim,tH,fun b _ ae=>ae.elim⟩ ((Sx ah aI ak).append (gA.mono (fun b ae=>⟨ae.1,ae.2.1⟩)))).mono ?_;rintro e w' ⟨v,rfl,ae,an,fq⟩;exact b6 _ w' (ah.back ax ae (an.flat (S':=fun _=>False) eh) (fun b ae=>ae.elim) fq)
  |false=>
   have vd:nL s args.toList r=dt s (dc s args.toList):=by unfold nL;rw[eh]
   rw[vd]at b6;have bM:=tF (dc s args.toList) s ah;refine(oJ w (bR S0 w0.heap.size w (dt s (dc s args.toList)) (aJ a)) _ ⟨fun b ae=>ae.2.1,fun b ae=>ae.elim,fun b _ ae=>ae.elim,tH,fun b _ ae=>ae.elim⟩ ((zbg ah _ aI ak (fun i ai=>ai)).append (gA.mono (fun b ae=>⟨ae.1,ae.2.1,fun k am=>by
    have aw:(dt s (dc s args.toList) k).aM=true:=by
     cases aw:(dt s (dc s args.toList) k).aM with
     |true=>rfl
     |false=>rw[jm aw]at am;cases am
    rw[EP _ s k aw]at am;exact ae.2.2 k am⟩)))).mono ?_
   rintro e w' ⟨v,rfl,ae,an,fq⟩;exact b6 _ w' (bM.back ax ae an (fun b h=>h) fq)
 ·exact ao.elim
def zbi(ah:Rel S0 w0 n s a w):∀{args:List Operand} {p:Prop} {xs:List az},qE s args=(p,some xs)->p ->
  nJ w (qB S0 w0.heap.size w) xs (args.map a.eval).toArray:=by
 intro args;induction args with
 |nil=>intro p xs h _;simp only[qE,cc,bS]at h;obtain⟨_,rfl⟩:=h;exact⟨rfl,fun j x ac=>by simp at ac⟩
 |cons x r aX=>
  intro p xs h ak;simp only[qE]at h;split at h
  ·rename_i q v dQ vs av aI;simp only[cc,bS]at h;obtain⟨rfl,rfl⟩:=h;have aa:=zaW ah av ak.1;obtain⟨ab,ar⟩:=aX aI ak.2;refine⟨by simpa using ab,fun j y ac=>?_⟩;cases j with
   |zero=>simp at ac;subst ac;exact⟨a.eval x,by simp,aa⟩
   |succ j=>simp only[BN]at ac;obtain⟨u,hu,an⟩:=ar j y ac;exact⟨u,by simpa using hu,an⟩
  ·simp at h
def zbj(ah:Rel S0 w0 n s a w){f:Operand}{args:Array Operand}{d:Nat}{Iv:bw->Prop}{m:Prop}(ao:oI P (vb s f args.toList) Iv m)
  {o:Oper}(aw:∃ts,o.op=.call {callee:=.value f,args:=args,argTypes:=ts})(ax:S0.m<=d)(eu:o.dst=some d){K:Act->World->Prop}{Q:Exit->Act->World->Prop}
  (b6:∀r,Iv r->d<n/\∀aZ w',Rel S0 w0 n (Ab.put s d r.cP) aZ w'->K aZ w')(hm:m->o.wp P a w K Q):o.wp P a w K Q:=by
 obtain⟨ts,cF⟩:=aw;unfold oI at ao;split at ao
 ·rename_i pp g vc ch;obtain⟨qF,⟨r,⟨⟨fn,hL,fO,r7⟩,oJ⟩,eh,am⟩|fT⟩:=ao;rotate_left
  ·exact hm fT
  obtain⟨hdn,b6⟩:=b6 r am;obtain⟨caps,xs,p,q,gn,gP,aI,av,rfl,rfl⟩:∃caps xs p q gn,aG s f=(p,gn)/\qE s args.toList=(q,some xs)/\iz gn=some (g,caps)/\pp=(p/\q)/\vc=xs++caps:=by
   unfold vb at ch;split at ch
   ·split at ch
    ·rename_i p gn q xs gP aI;split at ch
     ·rename_i bQ caps av;simp only[cc,bS]at ch;obtain⟨rfl,rfl,rfl⟩:=ch;exact⟨caps,xs,p,q,gn,gP,aI,av,rfl,rfl⟩
     ·simp at ch
    ·simp at ch
   ·simp at ch
  obtain⟨kS,ak⟩:=qF;have oK:=ah.aG f (by rw[gP];exact kS);rw[gP]at oK;obtain⟨us,nM,gA⟩:=EV oK av;have hm:args.map a.eval=(args.toList.map a.eval).toArray:=by apply qk;simp
  have cx:(execOp a.eval o).run P w=.ok (.enter g (args.map a.eval++us)) w:=by simp only[execOp,cF,resolve,nM,Deferred.ofValue,Sem.run_bind,Sem.run_pure,Result.andThen_ok,invoke,callFunc,run_program,hL,fO,r7,kg,h6];simp
  unfold Oper.wp;rw[cx];simp only[Oper.upon];rw[hm,eu];have tH:=ah.lt.Bk ah.below;refine(oJ w (qB S0 w0.heap.size w) _ ⟨fun b ae=>ae.2,fun b ae=>ae.elim,fun b _ ae=>ae.elim,tH,fun b _ ae=>ae.elim⟩ ((zbi ah aI ak).append (gA.mono (fun b ae=>⟨ae.1,ae.2.1⟩)))).mono ?_;rintro e w' ⟨v,rfl,ae,an,fq⟩;exact b6 _ w' (ah.back ⟨ax,hdn⟩ ae (an.flat (S':=fun _=>False) eh) (fun b ae=>ae.elim) fq)
 ·exact hm ao
end
end Go.Ab
