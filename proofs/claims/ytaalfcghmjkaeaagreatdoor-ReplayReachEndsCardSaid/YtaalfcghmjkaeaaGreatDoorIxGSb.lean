/- A part of the proof: lemmas and contracts of functions. -/
import Derived.Test.YtaalfcghmjkaeaaGreatDoorIxGSa
import Derived.Test.YtaalfcghmjkaeaaGreatDoorAbJ0
import Derived.Shelf.Lays
import Derived.Test.YtaalfcghmjkaeaaGreatDoorProg
import Derived.KernelRfl
import Derived.Shelf.Strings.Cut
set_option linter.all false
namespace Go.Proofs.YtaalfcghmjkaeaaGreatDoor
open Go Go.Ab Go.Proofs.Tryz Go.IntKind
variable [bf]
set_option maxRecDepth 100000
set_option maxHeartbeats 4000000
def Kp(p:UInt8->Bool)(s:List UInt8):(s.takeWhile p).length<=s.length:=(List.takeWhile_prefix p).length_le
def V_(s:List UInt8):ku s=(if lF (s.takeWhile hW)=false then (false,0,s.takeWhile hW,[])else if (s.drop (s.takeWhile hW).length).head?=some 58 then
 (if gh ((s.drop ((s.takeWhile hW).length+1)).takeWhile df)=0 then (false,(s.takeWhile hW).length+1,s.takeWhile hW,(s.drop ((s.takeWhile hW).length+1)).takeWhile df)else (q2 (s.drop ((s.takeWhile hW).length+1+((s.drop ((s.takeWhile hW).length+1)).takeWhile df).length)),(s.takeWhile hW).length+1+((s.drop ((s.takeWhile hW).length+1)).takeWhile df).length,s.takeWhile hW,(s.drop ((s.takeWhile hW).length+1)).takeWhile df))
 else (q2 (s.drop (s.takeWhile hW).length),(s.takeWhile hW).length,s.takeWhile hW,[])):=rfl
def GG(s:List UInt8)(c:UInt8):hH s [c]=decide (s.head?=some c):=by
 cases s with
 |nil=>rfl
 |cons a r=>show ((c==a)&&List.isPrefixOf [] r)=_;rw[List.isPrefixOf_nil_left,Bool.and_true,List.head?_cons,q4,fB,hF,bS,eq_comm]
def zgv(c:UInt8):([47,63,35]:List UInt8).contains c=vV c:=by simp[vV]
def V'{t:List UInt8}{k:Nat}(h:k<t.length):q2 (t.drop k)=vV t[k]:=by rw[g' h];rfl
def Wa{t:List UInt8}{k:Nat}(h:¬k<t.length):q2 (t.drop k)=true:=by rw[kf (by omega)];rfl
def Wb(c:UInt8):decide (0<=ih [47,63,35] c)=vV c:=by
 rw[<-zgv];cases h:([47,63,35]:List UInt8).contains c
 ·rw[Am h];rfl
 ·have:=sL h;simpa using this
def zgw(t:List UInt8)(at':Nat)(a:Addr)(ba:t.length<=2000)(bj:at'<=t.length)(x2:a.port=[]) :
  cB prog 262 [.box (fu t at' a)] (.x (.one (.bool (ku (t.drop at')).1))) [.box (fu t (at'+(ku (t.drop at')).2.1) {a with host:=(ku (t.drop at')).2.2.1,port:=(ku (t.drop at')).2.2.2})]:=by
 obtain⟨s,es⟩:∃s,s=t.drop at':=⟨_,rfl⟩
 obtain⟨x,ex⟩:∃x,x=s.takeWhile hW:=⟨_,rfl⟩
 obtain⟨k,ek⟩:∃k,k=at'+x.length:=⟨_,rfl⟩
 have Cj:s.length=t.length-at':=by rw[es,eo]
 have jL:x.length<=s.length:=by rw[ex];exact Kp _ _
 have zgx:x=s.take x.length:=by
  have:=take_takeWhile hW s;rw[<-ex]at this
  conv=>rhs;rw[this]
  simp
 have fI:=V_ s;rw[<-ex]at fI;have rS:k<=t.length:=by omega
 have Kq:t.drop k=s.drop x.length:=by rw[es,pr,ek]
 have ki:cutAt t (at':Int) (k:Int)=x:=by
  rw[Kn,<-es]
  conv=>rhs;rw[zgx]
  congr 1;omega
 have Pt:=zgu s (by omega);rw[<-ex]at Pt;have bG:i64.wrap ((at':Int)+(x.length:Int))=(k:Int):=by rw[bk _ (by omega)];omega
 have g1:((at':Int)<=(t.length:Int))=True:=aL (by omega);have g2:(at'<=t.length)=True:=aL bj;have g3:((at':Int)<=(k:Int))=True:=aL (by omega);have Kr:(at'<=k)=True:=aL (by omega);have g4:((k:Int)<=(t.length:Int))=True:=aL (by omega);have Do:(k<=t.length)=True:=aL (by omega);obtain⟨de,a2,a3,a4,a5,lJ,Ao,Pu⟩:=a;simp only at x2;subst x2;rw[<-es];cases Ks:lF x
 ·rw[aC Ks]at fI;rw[fI];refine cB.a6 f262 mixed fun aE=>?_;simp-implicitDefEqProofs[fu,Addr.row,g1];rw[<-es];refine aA.of Pt ?_;simp-implicitDefEqProofs;refine hc.l ⟨by kernel_rfl,?_⟩;simp-implicitDefEqProofs[bG,g3,g4,ki]
  skip
  refine aA.of (Pm x) ?_;rw[Ks];simp-implicitDefEqProofs[fu,Addr.row]
 rw[au (by simp[Ks])]at fI;refine cB.a6 f262 mixed fun aE=>?_;simp-implicitDefEqProofs[fu,Addr.row,g1];rw[<-es];refine aA.of Pt ?_;simp-implicitDefEqProofs;refine hc.l ⟨by kernel_rfl,?_⟩;simp-implicitDefEqProofs[bG,g3,g4,ki];refine aA.of (Pm x) ?_;rw[Ks];simp-implicitDefEqProofs[bG,g4];refine aA.of (strings_HasPrefix (t.drop k) [58]) ?_;rw[GG,Kq];by_cases q_:(s.drop x.length).head?=some 58;rotate_left
 ·have ax:decide ((s.drop x.length).head?=some 58)=false:=by simpa using q_
  rw[au q_]at fI;rw[ax,fI];by_cases am:k<t.length
  ·have aF:((k:Int)=(t.length:Int))=False:=aV (by omega);have aP:((k:Int)==(t.length:Int))=false:=by rw[jz];omega
   have ae:=Wb t[k];have he:q2 (s.drop x.length)=vV t[k]:=by rw[<-Kq];exact V' am
   simp-implicitDefEqProofs[aP,am];refine bp.of (fun _=>strings_IndexByte [47,63,35] t[k]) rfl ?_;simp-implicitDefEqProofs[fu,Addr.row,ae,he]
   try omega
  ·have aF:((k:Int)=(t.length:Int))=True:=aL (by omega);have aP:((k:Int)==(t.length:Int))=true:=by rw[fB];omega
   have he:q2 (s.drop x.length)=true:=by rw[<-Kq];exact Wa am
   simp-implicitDefEqProofs[aP,am];refine bp.of (fun h=>by cases h) (r:=.x (.one (.int .i64 0))) rfl ?_;simp-implicitDefEqProofs[fu,Addr.row,he]
   try omega
 have hQ:k<t.length:=by
  rw[<-Kq]at q_;by_cases h:k<t.length
  ·exact h
  ·rw[kf (by omega)]at q_;cases q_
 have ax:decide ((s.drop x.length).head?=some 58)=true:=by simpa using q_
 rw[ax];rw[aC q_]at fI;have cH:i64.wrap ((k:Int)+1)=((k+1:Nat):Int):=by rw[bk _ (by omega)];omega
 obtain⟨p,kv⟩:∃p,p=(s.drop (x.length+1)).takeWhile df:=⟨_,rfl⟩
 obtain⟨j,m7⟩:∃j,j=k+1:=⟨_,rfl⟩
 obtain⟨m,em⟩:∃m,m=j+p.length:=⟨_,rfl⟩
 rw[<-m7]at cH;have ed:t.drop j=s.drop (x.length+1):=by rw[es,pr];congr 1;omega
 rw[<-kv]at fI;have qx:=Kp df (t.drop j);rw[ed,<-kv,<-ed,eo]at qx;simp-implicitDefEqProofs[cH];refine cI.of Nat (fun i=>[(0,.box (fu t j ⟨de,x,[],a4,a5,lJ,Ao,Pu⟩)),(4,.x (.one (.int .i64 ((j+i:Nat):Int))))]) (gF df (t.drop j)) (fun i=>t.length-(j+i)) 0 gF.zero ?_ ?_
 ·simp[fu,Addr.row]
 intro i ai;have hle:=ai.1;rw[eo]at hle;obtain⟨q,eq⟩:∃q,q=j+i:=⟨_,rfl⟩
 rw[<-eq];by_cases aj:∃h:q<t.length,df t[q]=true
 ·obtain⟨aq,ul⟩:=aj;have aO:((q:Int)<(t.length:Int))=True:=aL (by omega);have Wc:i64.wrap ((q:Int)+1)=(q:Int)+1:=bk _ (by omega);simp-implicitDefEqProofs[fu,Addr.row,aq,aO];refine bp.of (fun _=>x5 t[q]) rfl ?_;rw[ul];simp-implicitDefEqProofs[Wc];refine bI.of (i+1) (ai.step (by rw[eo];omega) (by rw[List.getElem_drop];simpa only[<-eq]using ul)) (by omega) ?_;simp[fu,Addr.row];omega
 have Wd:p=(t.drop j).take i:=by
  rw[kv,<-ed];refine Ps ai (fun h=>?_);rw[eo]at h;rw[List.getElem_drop];cases ao:df t[j+i]with
  |false=>rfl
  |true=>exact absurd ⟨by omega,by simpa only[eq]using ao⟩ aj
 have We:q=m:=by have:=mH List.length Wd;rw[d',eo]at this;omega
 have Dp:cutAt t (j:Int) (m:Int)=p:=by rw[Kn,Wd];congr 1;omega
 have aH:=Pn p;have g5:((j:Int)<=(m:Int))=True:=aL (by omega);have g6:((m:Int)<=(t.length:Int))=True:=aL (by omega);have Kt:(j<=m)=True:=aL (by omega);have Ku:(m<=t.length)=True:=aL (by omega);have dV:t.drop m=s.drop (x.length+1+p.length):=by rw[es,pr];congr 1;omega
 have K:(∃h:q<t.length,df t[q]=false)\/¬q<t.length:=by
  by_cases h:q<t.length
  ·left;refine⟨h,?_⟩;cases ao:df t[q]with
   |false=>rfl
   |true=>exact absurd ⟨h,ao⟩ aj
  ·exact .inr h
 rw[We]at K⊢;clear aj We eq ai hle;rcases K with⟨aq,ul⟩|aq
 ·have aO:((m:Int)<(t.length:Int))=True:=aL (by omega);have aF:((m:Int)=(t.length:Int))=False:=aV (by omega);have aP:((m:Int)==(t.length:Int))=false:=by rw[jz];omega
  simp-implicitDefEqProofs[fu,Addr.row,aq,aO];refine bp.of (fun _=>x5 t[m]) rfl ?_;rw[ul];simp-implicitDefEqProofs;refine hc.l ⟨by kernel_rfl,?_⟩;simp-implicitDefEqProofs[g5,g6,Dp];refine aA.of aH ?_;by_cases lu:gh p=0
  ·rw[aC lu]at fI;rw[fI];have v1:((gh p:Int)=0)=True:=aL (by omega);have v2:((gh p:Int)==0)=true:=by rw[fB];omega
   have vW:at'+(x.length+1)=j:=by omega
   simp-implicitDefEqProofs[fu,Addr.row,lu,vW]
  rw[au lu]at fI;rw[fI];have v1:((gh p:Int)=0)=False:=aV (by omega);have v2:((gh p:Int)==0)=false:=by rw[jz];omega
  have vW:at'+(x.length+1+p.length)=m:=by omega
  have ae:=Wb t[m];have he:q2 (s.drop (x.length+1+p.length))=vV t[m]:=by rw[<-dV];exact V' aq
  simp-implicitDefEqProofs[aP,v2,aq];refine bp.of (fun _=>strings_IndexByte [47,63,35] t[m]) rfl ?_;simp-implicitDefEqProofs[fu,Addr.row,ae,he,vW]
 ·have aO:((m:Int)<(t.length:Int))=False:=aV (by omega);have aF:((m:Int)=(t.length:Int))=True:=aL (by omega);have aP:((m:Int)==(t.length:Int))=true:=by rw[fB];omega
  simp-implicitDefEqProofs[fu,Addr.row,aq,aO];refine bp.of (fun h=>by cases h) (r:=.x (.one (.bool false))) rfl ?_;simp-implicitDefEqProofs;refine hc.l ⟨by kernel_rfl,?_⟩;simp-implicitDefEqProofs[g5,g6,Dp];refine aA.of aH ?_;by_cases lu:gh p=0
  ·rw[aC lu]at fI;rw[fI];have v1:((gh p:Int)=0)=True:=aL (by omega);have v2:((gh p:Int)==0)=true:=by rw[fB];omega
   have vW:at'+(x.length+1)=j:=by omega
   simp-implicitDefEqProofs[fu,Addr.row,lu,vW]
  rw[au lu]at fI;rw[fI];have v1:((gh p:Int)=0)=False:=aV (by omega);have v2:((gh p:Int)==0)=false:=by rw[jz];omega
  have vW:at'+(x.length+1+p.length)=m:=by omega
  have he:q2 (s.drop (x.length+1+p.length))=true:=by rw[<-dV];exact Wa aq
  simp-implicitDefEqProofs[aP,v2,aq];refine bp.of (fun h=>by cases h) (r:=.x (.one (.int .i64 0))) rfl ?_;simp-implicitDefEqProofs[fu,Addr.row,he,vW]
end Go.Proofs.YtaalfcghmjkaeaaGreatDoor
namespace Go.Proofs.YtaalfcghmjkaeaaGreatDoor
open Go Go.Ab Go.Proofs.Tryz Go.IntKind
def Pv:∀u t:List UInt8,hr u t<=u.length/\hr u t<=t.length
 |[],t=>by simp[hr]
 |w::ws,[]=>by simp[hr]
 |w::ws,t::ts=>by
  have:=Pv ws ts;simp only[hr];split
  ·simp only[eg];omega
  ·simp
structure n2(u t:List UInt8)(i:Nat):Prop where
 le:i<=u.length
 Wf:i<=t.length
 eq:hr u t=i+hr (u.drop i) (t.drop i)
def n2.zero(u t:List UInt8):n2 u t 0:=⟨cd _,cd _,by simp⟩
def n2.step{u t:List UInt8}{i:Nat}(h:n2 u t i)(aa:i<u.length)(ab:i<t.length)(he:hf t[i]=u[i]):n2 u t (i+1):=by refine⟨aa,ab,?_⟩;rw[h.eq,g' aa,g' ab];simp only[hr];rw[aC he];omega
def n2.Wg{u t:List UInt8}{i:Nat}(h:n2 u t i)(aa:i<u.length)(ab:i<t.length)(he:hf t[i]≠u[i]):hr u t=i:=by rw[h.eq,g' aa,g' ab];simp only[hr];rw[au he];omega
def n2.short{u t:List UInt8}{i:Nat}(h:n2 u t i)(ab:¬i<t.length):hr u t=i:=by have ch:t.drop i=[]:=kf (by omega);rw[h.eq,ch];cases u.drop i<;>simp[hr]
def n2.full{u t:List UInt8}{i:Nat}(h:n2 u t i)(ab:¬i<u.length):hr u t=u.length/\i=u.length:=by
 have ai:i=u.length:=by have:=h.le;omega
 refine⟨?_,ai⟩;have ch:u.drop i=[]:=kf (by omega);rw[h.eq,ch];simp[hr,ai]
end Go.Proofs.YtaalfcghmjkaeaaGreatDoor
namespace Go.Proofs.YtaalfcghmjkaeaaGreatDoor
open Go Go.Ab Go.Proofs.Tryz Go.IntKind
variable [bf]
set_option maxRecDepth 100000
set_option maxHeartbeats 4000000
def zgy:∀c:UInt8,([63,35]:List UInt8).contains c=true->gG c=false:=ur (by decide +kernel)
def zgz:∀c:UInt8,([35]:List UInt8).contains c=true->gG c=false:=ur (by decide +kernel)
def Wh:∀c:UInt8,([]:List UInt8).contains c=true->gG c=false:=fun c h=>by cases h
def zgA(t:List UInt8)(k:Nat):hE (t.drop k) =
  (if (cy [63,35] (t.drop k)).2=false then ⟨false,(cy [63,35] (t.drop k)).1,(t.drop k).take (cy [63,35] (t.drop k)).1,[],false,[],false⟩
  else if (gu 63 [35] (t.drop (k+(cy [63,35] (t.drop k)).1))).1=false then ⟨false,(cy [63,35] (t.drop k)).1+(gu 63 [35] (t.drop (k+(cy [63,35] (t.drop k)).1))).2.1,(t.drop k).take (cy [63,35] (t.drop k)).1,(gu 63 [35] (t.drop (k+(cy [63,35] (t.drop k)).1))).2.2.1,(gu 63 [35] (t.drop (k+(cy [63,35] (t.drop k)).1))).2.2.2,[],false⟩
  else ⟨(gu 35 [] (t.drop (k+(cy [63,35] (t.drop k)).1+(gu 63 [35] (t.drop (k+(cy [63,35] (t.drop k)).1))).2.1))).1,
   (cy [63,35] (t.drop k)).1+(gu 63 [35] (t.drop (k+(cy [63,35] (t.drop k)).1))).2.1+(gu 35 [] (t.drop (k+(cy [63,35] (t.drop k)).1+(gu 63 [35] (t.drop (k+(cy [63,35] (t.drop k)).1))).2.1))).2.1,
   (t.drop k).take (cy [63,35] (t.drop k)).1,(gu 63 [35] (t.drop (k+(cy [63,35] (t.drop k)).1))).2.2.1,(gu 63 [35] (t.drop (k+(cy [63,35] (t.drop k)).1))).2.2.2,
   (gu 35 [] (t.drop (k+(cy [63,35] (t.drop k)).1+(gu 63 [35] (t.drop (k+(cy [63,35] (t.drop k)).1))).2.1))).2.2.1,(gu 35 [] (t.drop (k+(cy [63,35] (t.drop k)).1+(gu 63 [35] (t.drop (k+(cy [63,35] (t.drop k)).1))).2.1))).2.2.2⟩):=by
 unfold hE;simp only[pr,rG]
def Pw{c:UInt8}{w s:List UInt8}(h:¬s.head?=some c):gu c w s=(true,0,[],false):=by unfold gu;rw[au h]
def Px{c:UInt8}{w t:List UInt8}{k:Nat}(h:(t.drop k).head?=some c):gu c w (t.drop k)=((cy w (t.drop (k+1))).2,(cy w (t.drop (k+1))).1+1,(t.drop (k+1)).take (cy w (t.drop (k+1))).1,true):=by unfold gu;rw[aC h,pr]
def Kv{t:List UInt8}{k:Nat}{c:UInt8}(h:(t.drop k).head?=some c):k<t.length:=by
 by_cases am:k<t.length
 ·exact am
 ·rw[kf (by omega)]at h;cases h
def zgB(t:List UInt8)(k:Nat)(cX aw cM:List UInt8)(ba:t.length<=2000)(am:k<=t.length) :
  cB prog 263 [.box (fu t k ⟨cX,aw,cM,[],[],false,[],false⟩)] (.x (.one (.bool (hE (t.drop k)).ok)))
   [.box (fu t (k+(hE (t.drop k)).n) ⟨cX,aw,cM,(hE (t.drop k)).path,(hE (t.drop k)).query,(hE (t.drop k)).jD,(hE (t.drop k)).gH,(hE (t.drop k)).k3⟩)]:=by
 have ah:=zgA t k;obtain⟨R,aR⟩:∃R,R=hE (t.drop k):=⟨_,rfl⟩
 rw[<-aR]at ah⊢;have x9:=Ko t [63,35] k ⟨cX,aw,cM,[],[],false,[],false⟩ ba am zgy;have zgC:=Kg [63,35] (t.drop k);obtain⟨P,GE⟩:∃P,P=cy [63,35] (t.drop k):=⟨_,rfl⟩
 obtain⟨pa,Wi⟩:∃pa,pa=(t.drop k).take P.1:=⟨_,rfl⟩
 obtain⟨aF,Py⟩:∃aF,aF=k+P.1:=⟨_,rfl⟩
 rw[<-GE,<-Py,<-Wi]at ah x9;rw[<-GE,eo]at zgC;simp only[fu,Addr.row]at x9;have Ap:aF<=t.length:=by omega
 have g1:((aF:Int)<=(t.length:Int))=True:=aL (by omega);have Dq:(aF<=t.length)=True:=aL (by omega);have un:=GG (t.drop aF) 63;clear GE aR Wi;cases GH:P.2
 ·rw[aC GH]at ah;refine cB.a6 f263 mixed fun aE=>?_;simp-implicitDefEqProofs[fu,Addr.row];refine gg.of x9 ?_;rw[GH];simp-implicitDefEqProofs[ah,fu,Addr.row,Py]
 rw[au (by simp[GH])]at ah;by_cases br:(t.drop aF).head?=some 63;rotate_left
 ·have Pz:decide ((t.drop aF).head?=some 63)=false:=by simpa using br
  rw[Pz]at un;rw[Pw br]at ah;simp only[GF,h6,ti]at ah;have kS:=GG (t.drop aF) 35;refine cB.a6 f263 mixed fun aE=>?_;simp-implicitDefEqProofs[fu,Addr.row];refine gg.of x9 ?_;rw[GH];simp-implicitDefEqProofs[g1];refine aA.of (strings_HasPrefix (t.drop aF) [63]) ?_;rw[un];by_cases ay:(t.drop aF).head?=some 35;rotate_left
  ·have mJ:decide ((t.drop aF).head?=some 35)=false:=by simpa using ay
   rw[mJ]at kS;rw[Pw ay]at ah;simp-implicitDefEqProofs[g1];refine aA.of (strings_HasPrefix (t.drop aF) [35]) ?_;rw[kS];simp-implicitDefEqProofs[ah,fu,Addr.row,Py]
  have mJ:decide ((t.drop aF).head?=some 35)=true:=by simpa using ay
  rw[mJ]at kS;rw[Px ay]at ah;have zgD:=Kv ay;obtain⟨m,em⟩:∃m,m=aF+1:=⟨_,rfl⟩
  have Aq:=Ko t [] m ⟨cX,aw,cM,pa,[],false,[],true⟩ ba (by omega) Wh;rw[<-em]at ah;have PA:i64.wrap ((aF:Int)+1)=(m:Int):=by rw[bk _ (by omega)];omega
  obtain⟨F,a8⟩:∃F,F=cy [] (t.drop m):=⟨_,rfl⟩
  rw[<-a8]at ah Aq;simp only[fu,Addr.row]at Aq;simp-implicitDefEqProofs[g1];refine aA.of (strings_HasPrefix (t.drop aF) [35]) ?_;rw[kS];simp-implicitDefEqProofs[PA];refine gg.of Aq ?_;cases GI:F.2
  ·have nO:m+F.1=k+R.n:=by rw[ah];simp only;omega
   simp-implicitDefEqProofs[ah,fu,Addr.row,GI]
   first|done|(rw[ah]at nO;omega)
  ·have nO:m+F.1=k+R.n:=by rw[ah];simp only;omega
   simp-implicitDefEqProofs[ah,fu,Addr.row,GI]
   first|done|(rw[ah]at nO;omega)
 have Pz:decide ((t.drop aF).head?=some 63)=true:=by simpa using br
 rw[Pz]at un;rw[Px br]at ah;have UB:=Kv br;obtain⟨j,m7⟩:∃j,j=aF+1:=⟨_,rfl⟩
 have xi:=Ko t [35] j ⟨cX,aw,cM,pa,[],true,[],false⟩ ba (by omega) zgz;rw[<-m7]at ah;have mo:i64.wrap ((aF:Int)+1)=(j:Int):=by rw[bk _ (by omega)];omega
 have c8:=Kg [35] (t.drop j);obtain⟨Q,GJ⟩:∃Q,Q=cy [35] (t.drop j):=⟨_,rfl⟩
 obtain⟨ej,PB⟩:∃ej,ej=(t.drop j).take Q.1:=⟨_,rfl⟩
 obtain⟨aP,zgE⟩:∃aP,aP=j+Q.1:=⟨_,rfl⟩
 rw[<-GJ]at ah xi;rw[<-PB,<-zgE]at xi;rw[<-PB]at ah;rw[<-GJ,eo]at c8;have v6:aP<=t.length:=by omega
 have g2:((aP:Int)<=(t.length:Int))=True:=aL (by omega);have Wj:(aP<=t.length)=True:=aL (by omega);simp only[fu,Addr.row]at xi;clear GJ PB;refine cB.a6 f263 mixed fun aE=>?_;simp-implicitDefEqProofs[fu,Addr.row];refine gg.of x9 ?_;rw[GH];simp-implicitDefEqProofs[g1];refine aA.of (strings_HasPrefix (t.drop aF) [63]) ?_;rw[un];simp-implicitDefEqProofs[mo];refine gg.of xi ?_;cases PC:Q.2
 ·rw[aC PC]at ah;have nO:aP=k+R.n:=by rw[ah];simp only;omega
  simp-implicitDefEqProofs[ah,fu,Addr.row]
  first|done|(rw[ah]at nO;omega)
 ·rw[au (by simp[PC])]at ah;simp only at ah;have Wk:aF+(Q.1+1)=aP:=by omega
  have zIf:k+(P.1+(Q.1+1))=aP:=by omega
  rw[Wk]at ah;have kS:=GG (t.drop aP) 35;by_cases ay:(t.drop aP).head?=some 35;rotate_left
  ·have mJ:decide ((t.drop aP).head?=some 35)=false:=by simpa using ay
   rw[mJ]at kS;rw[Pw ay]at ah;simp-implicitDefEqProofs[g2];refine aA.of (strings_HasPrefix (t.drop aP) [35]) ?_;rw[kS];simp-implicitDefEqProofs[ah,fu,Addr.row];omega
  have mJ:decide ((t.drop aP).head?=some 35)=true:=by simpa using ay
  rw[mJ]at kS;rw[Px ay]at ah;have zgD:=Kv ay;obtain⟨m,em⟩:∃m,m=aP+1:=⟨_,rfl⟩
  have Aq:=Ko t [] m ⟨cX,aw,cM,pa,ej,true,[],true⟩ ba (by omega) Wh;rw[<-em]at ah;have PA:i64.wrap ((aP:Int)+1)=(m:Int):=by rw[bk _ (by omega)];omega
  obtain⟨F,a8⟩:∃F,F=cy [] (t.drop m):=⟨_,rfl⟩
  rw[<-a8]at ah Aq;simp only[fu,Addr.row]at Aq;simp-implicitDefEqProofs[g2];refine aA.of (strings_HasPrefix (t.drop aP) [35]) ?_;rw[kS];simp-implicitDefEqProofs[PA];refine gg.of Aq ?_;cases GI:F.2
  ·have nO:m+F.1=k+R.n:=by rw[ah];simp only;omega
   simp-implicitDefEqProofs[ah,fu,Addr.row,GI]
   first|done|(rw[ah]at nO;omega)
  ·have nO:m+F.1=k+R.n:=by rw[ah];simp only;omega
   simp-implicitDefEqProofs[ah,fu,Addr.row,GI]
   first|done|(rw[ah]at nO;omega)
def x_{s:List UInt8}{i:Nat}(h:i<s.length):cutAt s (i:Int) ((i:Int)+1)=[s[i]]:=by rw[show ((i:Int)+1)=((i+1:Nat):Int)from by omega,Kn,g' h];rw[show i+1-i=1 from by omega];rfl
def Kw(c:UInt8):cD [c]=[hf c]:=rfl
def uy(t:List UInt8):List UInt8×Nat×Bool:=match x1 t with
 |.ok n=>(t.take n,n+3,true)
 |.error k=>([],k,false)
def Dr:List UInt8:=[104,116,116,112,58,47,47]
def Ds:List UInt8:=[104,116,116,112,115,58,47,47]
def zgF(t:List UInt8):uy t=if hr Dr t=7 then (t.take 4,7,true)else if hr Ds t=8 then (t.take 5,8,true)else ([],max (hr Dr t) (hr Ds t),false):=by
 have aa:j2++[58,47,47]=Dr:=rfl;have ab:iS++[58,47,47]=Ds:=rfl;unfold uy x1;rw[aa,ab];split
 ·rename_i n h;split at h
  ·rename_i dw;injection h with h;subst h;rw[aC dw]
  ·rename_i dw;split at h
   ·rename_i d8;injection h with h;subst h;rw[au dw,aC d8]
   ·cases h
 ·rename_i n h;split at h
  ·cases h
  ·rename_i dw;split at h
   ·cases h
   ·rename_i d8;injection h with h;subst h;rw[au dw,au d8]
def zgG(t:List UInt8)(ba:t.length<=4000000000000000):aD prog 261 [.one (.str t)] (.b2 [.one (.str (uy t).1),.one (.int .i64 (uy t).2.1),.one (.bool (uy t).2.2)]):=by
 have hR:=zgF t;obtain⟨X,cS⟩:∃X,X=uy t:=⟨_,rfl⟩
 rw[<-cS]at hR⊢;clear cS;obtain⟨bA,Kx⟩:∃c,c=hr Dr t:=⟨_,rfl⟩
 obtain⟨c2,Ky⟩:∃c,c=hr Ds t:=⟨_,rfl⟩
 rw[<-Kx,<-Ky]at hR;have o1:i64.wrap 1=1:=bk _ (by omega);have sM:i64.wrap 2=2:=bk _ (by omega);have Wl:i64.wrap 4=4:=bk _ (by omega);have Wm:i64.wrap 5=5:=bk _ (by omega);refine aD.a6 f261 mixed fun aE=>?_;simp-implicitDefEqProofs;refine cI.of Nat (fun i=>[(0,.x (.one (.str t))),(3,.x (.one (.int .i64 ((if i=0 then 0 else if i=1 then bA else max bA c2:Nat):Int)))),(8,.own 9 1 [[.str [104,116,116,112,58,47,47]],[.str [104,116,116,112,115,58,47,47]]]),(9,.x (.one (.int .i64 2))),(10,.x (.one (.int .i64 i)))])
  (fun i=>i=0\/(i=1/\bA≠7)\/(i=2/\bA≠7/\c2≠8)) (fun i=>2-i) 0 (.inl rfl) ?_ ?_
 ·simp
 rintro i (rfl|⟨rfl,jw⟩|⟨rfl,jw,mV⟩)
 ·obtain⟨u,Ar⟩:∃u,u=Dr:=⟨_,rfl⟩
  have gl:u.length=7:=by rw[Ar];rfl
  rw[<-Ar]at Kx;obtain⟨a,gt⟩:∃a:Nat,a=0:=⟨_,rfl⟩
  simp-implicitDefEqProofs;refine cI.of Nat (fun n=>[(0,.x (.one (.str t))),(3,.x (.one (.int .i64 a))),(6,.x (.one (.str u))),(7,.x (.one (.int .i64 n))),(8,.own 9 1 [[.str [104,116,116,112,58,47,47]],[.str [104,116,116,112,115,58,47,47]]]),(9,.x (.one (.int .i64 2))),(10,.x (.one (.int .i64 0)))])
   (n2 u t) (fun n=>u.length-n) 0 (n2.zero u t) ?_ ?_
  ·simp[Ar,gt,Dr]
  intro n aT;have hle:=aT.le;have Kz:=aT.Wf;have cH:i64.wrap ((n:Int)+1)=(n:Int)+1:=bk _ (by omega);by_cases hu:n<u.length;rotate_left
  ·obtain⟨ay,x'⟩:=aT.full hu;rw[<-Kx,gl]at ay;rw[gl]at x';subst x';have f1:((7:Int)<(u.length:Int))=False:=aV (by omega);have f2:((7:Int)=(u.length:Int))=True:=aL (by omega);have f3:((7:Int)<=(t.length:Int))=True:=aL (by omega);have f4:((7-3:Int)<=(t.length:Int))=True:=aL (by omega);rw[aC ay]at hR;simp-implicitDefEqProofs[gl];refine bp.of (fun h=>by cases h) (r:=.x (.one (.str []))) rfl ?_;simp-implicitDefEqProofs[gl,hR,Wl]
   try omega
  have eZ:((n:Int)<(u.length:Int))=True:=aL (by omega);have bC:((n:Int)=(u.length:Int))=False:=aV (by omega);by_cases aj:∃h:n<t.length,hf t[n]=u[n]
  ·obtain⟨aq,he⟩:=aj;have aO:((n:Int)<(t.length:Int))=True:=aL (by omega);have nC:((n:Int)<=(t.length:Int))=True:=aL (by omega);have pY:((n:Int)+1<=(t.length:Int))=True:=aL (by omega);have sN:((n:Int)+1<=(u.length:Int))=True:=aL (by omega);have q1:=x_ aq;have hO:=x_ hu;have j3:((n:Int)<=(n:Int)+1)=True:=aL (by omega);have pZ:=q6 [t[n]];rw[Kw,he]at pZ;simp-implicitDefEqProofs[eZ,aO,cH,pY,q1,j3];refine bp.of (fun _=>pZ) rfl ?_;simp-implicitDefEqProofs[cH,sN,hO,j3];refine bI.of (n+1) (aT.step hu aq he) (by omega) (by simp)
  have sb:bA=n:=by
   rw[Kx];by_cases h:n<t.length
   ·exact aT.Wg hu h (fun he=>aj ⟨h,he⟩)
   ·exact aT.short h
  have K:(∃h:n<t.length,¬hf t[n]=u[n])\/¬n<t.length:=by
   by_cases h:n<t.length
   ·exact .inl ⟨h,fun he=>aj ⟨h,he⟩⟩
   ·exact .inr h
  rcases K with⟨aq,he⟩|aq
  ·have aO:((n:Int)<(t.length:Int))=True:=aL (by omega);have nC:((n:Int)<=(t.length:Int))=True:=aL (by omega);have pY:((n:Int)+1<=(t.length:Int))=True:=aL (by omega);have sN:((n:Int)+1<=(u.length:Int))=True:=aL (by omega);have q1:=x_ aq;have hO:=x_ hu;have j3:((n:Int)<=(n:Int)+1)=True:=aL (by omega);have pZ:=q6 [t[n]];rw[Kw]at pZ;have oS:(hf t[n]=u[n])=False:=aV he;have sO:(hf t[n]==u[n])=false:=by rw[jz];exact he
   simp-implicitDefEqProofs[eZ,aO,cH,pY,q1,j3];refine bp.of (fun _=>pZ) rfl ?_;simp-implicitDefEqProofs[cH,sN,hO,j3,sO,bC];refine bI.of 1 (.inr (.inl ⟨rfl,by omega⟩)) (by omega) ?_;simp[gt,sb,o1]
   try omega
  ·have aO:((n:Int)<(t.length:Int))=False:=aV (by omega);simp-implicitDefEqProofs[eZ,aO];refine bp.of (fun h=>by cases h) (r:=.x (.one (.str []))) rfl ?_;simp-implicitDefEqProofs[bC];refine bI.of 1 (.inr (.inl ⟨rfl,by omega⟩)) (by omega) ?_;simp[gt,sb,o1]
   try omega
 ·obtain⟨u,Ar⟩:∃u,u=Ds:=⟨_,rfl⟩
  have gl:u.length=8:=by rw[Ar];rfl
  rw[<-Ar]at Ky;obtain⟨a,gt⟩:∃a:Nat,a=bA:=⟨_,rfl⟩
  simp-implicitDefEqProofs;refine cI.of Nat (fun n=>[(0,.x (.one (.str t))),(3,.x (.one (.int .i64 a))),(6,.x (.one (.str u))),(7,.x (.one (.int .i64 n))),(8,.own 9 1 [[.str [104,116,116,112,58,47,47]],[.str [104,116,116,112,115,58,47,47]]]),(9,.x (.one (.int .i64 2))),(10,.x (.one (.int .i64 1)))])
   (n2 u t) (fun n=>u.length-n) 0 (n2.zero u t) ?_ ?_
  ·simp[Ar,gt,Ds]
  intro n aT;have hle:=aT.le;have Kz:=aT.Wf;have cH:i64.wrap ((n:Int)+1)=(n:Int)+1:=bk _ (by omega);by_cases hu:n<u.length;rotate_left
  ·obtain⟨ay,x'⟩:=aT.full hu;rw[<-Ky,gl]at ay;rw[gl]at x';subst x';have f1:((8:Int)<(u.length:Int))=False:=aV (by omega);have f2:((8:Int)=(u.length:Int))=True:=aL (by omega);have f3:((8:Int)<=(t.length:Int))=True:=aL (by omega);have f4:((8-3:Int)<=(t.length:Int))=True:=aL (by omega);rw[au jw,aC ay]at hR;simp-implicitDefEqProofs[gl];refine bp.of (fun h=>by cases h) (r:=.x (.one (.str []))) rfl ?_;simp-implicitDefEqProofs[gl,hR,Wm]
   try omega
  have eZ:((n:Int)<(u.length:Int))=True:=aL (by omega);have bC:((n:Int)=(u.length:Int))=False:=aV (by omega);by_cases aj:∃h:n<t.length,hf t[n]=u[n]
  ·obtain⟨aq,he⟩:=aj;have aO:((n:Int)<(t.length:Int))=True:=aL (by omega);have nC:((n:Int)<=(t.length:Int))=True:=aL (by omega);have pY:((n:Int)+1<=(t.length:Int))=True:=aL (by omega);have sN:((n:Int)+1<=(u.length:Int))=True:=aL (by omega);have q1:=x_ aq;have hO:=x_ hu;have j3:((n:Int)<=(n:Int)+1)=True:=aL (by omega);have pZ:=q6 [t[n]];rw[Kw,he]at pZ;simp-implicitDefEqProofs[eZ,aO,cH,pY,q1,j3];refine bp.of (fun _=>pZ) rfl ?_;simp-implicitDefEqProofs[cH,sN,hO,j3];refine bI.of (n+1) (aT.step hu aq he) (by omega) (by simp)
  have sb:c2=n:=by
   rw[Ky];by_cases h:n<t.length
   ·exact aT.Wg hu h (fun he=>aj ⟨h,he⟩)
   ·exact aT.short h
  have K:(∃h:n<t.length,¬hf t[n]=u[n])\/¬n<t.length:=by
   by_cases h:n<t.length
   ·exact .inl ⟨h,fun he=>aj ⟨h,he⟩⟩
   ·exact .inr h
  rcases K with⟨aq,he⟩|aq
  ·have aO:((n:Int)<(t.length:Int))=True:=aL (by omega);have nC:((n:Int)<=(t.length:Int))=True:=aL (by omega);have pY:((n:Int)+1<=(t.length:Int))=True:=aL (by omega);have sN:((n:Int)+1<=(u.length:Int))=True:=aL (by omega);have q1:=x_ aq;have hO:=x_ hu;have j3:((n:Int)<=(n:Int)+1)=True:=aL (by omega);have pZ:=q6 [t[n]];rw[Kw]at pZ;have oS:(hf t[n]=u[n])=False:=aV he;have sO:(hf t[n]==u[n])=false:=by rw[jz];exact he
   simp-implicitDefEqProofs[eZ,aO,cH,pY,q1,j3];refine bp.of (fun _=>pZ) rfl ?_;simp-implicitDefEqProofs[cH,sN,hO,j3,sO,bC];refine bI.of 2 (.inr (.inr ⟨rfl,jw,by omega⟩)) (by omega) ?_;simp[gt,sb,sM]
   try omega
  ·have aO:((n:Int)<(t.length:Int))=False:=aV (by omega);simp-implicitDefEqProofs[eZ,aO];refine bp.of (fun h=>by cases h) (r:=.x (.one (.str []))) rfl ?_;simp-implicitDefEqProofs[bC];refine bI.of 2 (.inr (.inr ⟨rfl,jw,by omega⟩)) (by omega) ?_;simp[gt,sb,sM]
   try omega
 ·rw[au jw,au mV]at hR;simp-implicitDefEqProofs[hR]
def zgH(s:List UInt8):(ku s).2.1<=s.length:=by
 rw[V_];have aa:=Kp hW s;split
 ·simp
 split
 ·rename_i q_;have al:=Kv q_;have ab:=Kp df (s.drop ((s.takeWhile hW).length+1));rw[eo]at ab;split<;>simp only<;>omega
 ·simpa using aa
def zgI{t:List UInt8}{n:Nat}(h:x1 t=.ok n):n+3<=t.length:=by
 unfold x1 at h;have aa:=(Pv (j2++[58,47,47]) t).2;have ab:=(Pv (iS++[58,47,47]) t).2;split at h
 ·injection h;omega
 ·split at h
  ·injection h;omega
  ·cases h
def Wn(t:List UInt8):aD prog 214 [.one (.str t)] (.b2 [.agg (nd t).1.row,.one (.int .i64 (nd t).2.1),.one (.int .i64 (nd t).2.2)]):=by
 obtain⟨X,cS⟩:∃X,X=nd t:=⟨_,rfl⟩
 rw[<-cS];unfold nd at cS;refine aD.a6 f214 mixed fun aE=>?_;by_cases al:2000<t.length
 ·rw[aC al]at cS;have du:(2000<(t.length:Int))=True:=aL (by omega);subst cS;simp-implicitDefEqProofs[du,dG,Addr.row]
 rw[au al]at cS;have du:(2000<(t.length:Int))=False:=aV (by omega);have ub:=zgG t (by omega);unfold C7 at cS;simp-implicitDefEqProofs[du];refine aA.of ub ?_;cases ap:x1 t with
 |error k=>
  have hR:uy t=([],k,false):=by unfold uy;rw[ap]
  rw[hR];rw[ap]at cS;subst cS;simp-implicitDefEqProofs[dG,Addr.row]
 |ok n=>
  have hR:uy t=(t.take n,n+3,true):=by unfold uy;rw[ap]
  have aT:=zgI ap;rw[hR];rw[ap]at cS;obtain⟨k,ek⟩:∃k,k=n+3:=⟨_,rfl⟩
  obtain⟨cX,zgJ⟩:∃cX,cX=t.take n:=⟨_,rfl⟩
  simp only[<-ek,<-zgJ]at cS⊢;have ak:=zgw t k ⟨cX,[],[],[],[],false,[],false⟩ (by omega) (by omega) rfl;have fI:=zgH (t.drop k);obtain⟨P,GE⟩:∃P,P=ku (t.drop k):=⟨_,rfl⟩
  rw[<-GE]at cS ak fI;rw[eo]at fI;obtain⟨m,em⟩:∃m,m=k+P.2.1:=⟨_,rfl⟩
  simp only[fu,Addr.row,<-em,pr]at cS ak;have an:=zgB t m cX P.2.2.1 P.2.2.2 (by omega) (by omega);simp only[fu,Addr.row]at an;obtain⟨R,aR⟩:∃R,R=hE (t.drop m):=⟨_,rfl⟩
  rw[<-aR]at cS an;simp-implicitDefEqProofs;refine gg.of ak ?_;cases b:P.1
  ·rw[b]at cS;simp only[hB]at cS;subst cS;simp-implicitDefEqProofs;refine hc.r ⟨[26],by kernel_rfl,?_⟩;simp-implicitDefEqProofs
   first|rfl|exact Th rfl
  ·rw[b]at cS;simp only[GF,h6]at cS;simp-implicitDefEqProofs;refine gg.of an ?_;cases Wo:R.ok
   ·rw[Wo]at cS;simp only[hB]at cS;subst cS;simp-implicitDefEqProofs;refine hc.r ⟨[26],by kernel_rfl,?_⟩;simp-implicitDefEqProofs[em]
    first|rfl|exact Th rfl
   ·rw[Wo]at cS;simp only[GF,h6]at cS;subst cS;simp-implicitDefEqProofs[Addr.row]
structure zIg where
 path:List UInt8
 query:List UInt8
 jD:Bool
 gH:List UInt8
 k3:Bool
 bad:Int
end Go.Proofs.YtaalfcghmjkaeaaGreatDoor
namespace Go.Proofs.YtaalfcghmjkaeaaGreatDoor
open Go Go.Ab Go.Proofs.Tryz Go.IntKind
def zmd{t:List UInt8}(h:(nd t).2.2=0):t.length<=2000/\C7 t=.ok (nd t).1:=by
 unfold nd at h⊢;split at h
 ·cases h
 ·rename_i al;rw[au al];split at h
  ·cases h
  ·rename_i a bj;exact⟨by omega,bj⟩
end Go.Proofs.YtaalfcghmjkaeaaGreatDoor
namespace Go.Proofs.YtaalfcghmjkaeaaGreatDoor
open Go Go.Ab Go.Proofs.Tryz Go.IntKind
variable [bf]
set_option maxRecDepth 100000
set_option maxHeartbeats 4000000
def zgK(s p:List UInt8):aD prog 157 [.one (.str s),.one (.str p)] (.b2 [.one (.str (if hH s p=true then s.drop p.length else s)),.one (.bool (hH s p))]):=by
 refine aD.a6 f157 mixed fun aE=>?_;simp-implicitDefEqProofs;refine aA.of (stringslite_HasPrefix s p) ?_;cases h:hH s p
 ·simp-implicitDefEqProofs
 ·have al:p.length<=s.length:=(As.1 h).length_le;have g1:((p.length:Int)<=(s.length:Int))=True:=aL (by omega);simp-implicitDefEqProofs[g1]
def PD(s p:List UInt8):aD prog 92 [.one (.str s),.one (.str p)] (.b2 [.one (.str (if hH s p=true then s.drop p.length else s)),.one (.bool (hH s p))]):=by refine aD.a6 f92 mixed fun aE=>?_;simp-implicitDefEqProofs;refine aA.of (zgK s p) ?_;simp-implicitDefEqProofs
end Go.Proofs.YtaalfcghmjkaeaaGreatDoor
namespace Go.Proofs.YtaalfcghmjkaeaaGreatDoor
open Go Go.Ab Go.Proofs.Tryz Go.IntKind
variable [bf][cK prog]
set_option maxRecDepth 100000
set_option maxHeartbeats 4000000
def AK:List UInt8:=[33,35,36,37,38,39,42,43,45,46,94,95,124,126]
def wg(c:UInt8):Bool:=(decide (97<=c.toNat)&&decide (c.toNat<=122)) ||(decide (65<=c.toNat)&&decide (c.toNat<=90)) ||(decide (48<=c.toNat)&&decide (c.toNat<=57)) ||AK.contains c
def Qd{c:UInt8}(h:(97<=c.toNat/\c.toNat<=122)\/(65<=c.toNat/\c.toNat<=90)\/(48<=c.toNat/\c.toNat<=57)):wg c=true:=by unfold wg;rcases h with h|h|h<;>simp[h.1,h.2]
def KZ{c:UInt8}(h:AK.contains c=true):wg c=true:=by unfold wg;rw[h,Bool.or_true]
def K0{c:UInt8}(h:¬((97<=c.toNat/\c.toNat<=122)\/(65<=c.toNat/\c.toNat<=90)\/(48<=c.toNat/\c.toNat<=57)))(ao:AK.contains c=false):wg c=false:=by
 unfold wg;rw[ao];cases aa:decide (97<=c.toNat)<;>cases ab:decide (c.toNat<=122)<;>cases ar:decide (65<=c.toNat)<;>cases aN:decide (c.toNat<=90)<;>cases bD:decide (48<=c.toNat)<;>cases b9:decide (c.toNat<=57) <;>
  simp only[hF,Dl]at aa ab ar aN bD b9<;>first|rfl|(exfalso;omega)
def rj(s:List UInt8):Bool:=gV 1 40 s.length&&s.all wg
def zja(s:List UInt8):aD prog 194 [.one (.str s)] (.x (.one (.bool (rj s)))):=by
 obtain⟨B,di⟩:∃B,B=rj s:=⟨_,rfl⟩
 rw[<-di];have jG:∀i (h:i<s.length),wg s[i]=false->B=false:=fun i h ao=>by rw[di];unfold rj;rw[C4 h ao,vH]
 refine aD.a6 f194 mixed fun aE=>?_;cases fH:gV 1 40 s.length
 ·have bl:B=false:=by rw[di];unfold rj;rw[fH,kq]
  by_cases aa:s.length<1
  ·have dx:((s.length:Int)<1)=True:=aL (by omega);simp-implicitDefEqProofs[dx,bl]
  ·have dx:((s.length:Int)<1)=False:=aV (by omega);have ab:(40<(s.length:Int))=True:=aL (by simp[gV]at fH;omega);simp-implicitDefEqProofs[dx,ab,bl]
 have aa:((s.length:Int)<1)=False:=by simp[gV]at fH;exact aV (by omega)
 have ab:(40<(s.length:Int))=False:=by simp[gV]at fH;exact aV (by omega)
 simp-implicitDefEqProofs[aa,ab];refine cI.of Nat (fun i=>[(0,.x (.one (.str s))),(14,.x (.one (.int .i64 s.length))),(15,.x (.one (.int .i64 i)))]) (gF wg s) (fun i=>s.length-i) 0 gF.zero ?_ ?_
 ·simp
 intro i ai;have hle:=ai.1;by_cases aq:i<s.length
 ·have aO:((i:Int)<(s.length:Int))=True:=aL (by omega);have bG:i64.wrap ((i:Int)+1)=(i:Int)+1:=bk _ (by simp[gV]at fH;omega);have zjb:=s[i].toNat_lt;have hC:(s[i].toNat<=47)\/(48<=s[i].toNat/\s[i].toNat<=57)\/(58<=s[i].toNat/\s[i].toNat<=64)\/(65<=s[i].toNat/\s[i].toNat<=90)\/(91<=s[i].toNat/\s[i].toNat<=96)\/(97<=s[i].toNat/\s[i].toNat<=122)\/(123<=s[i].toNat):=by omega
  rcases hC with hC|hC|hC|hC|hC|hC|hC
  ·-- 0..47
   have hY:(97<=(s[i].toNat:Int))=False:=aV (by omega);have dm:((s[i].toNat:Int)<=122)=True:=aL (by omega);have dF:(65<=(s[i].toNat:Int))=False:=aV (by omega);have je:((s[i].toNat:Int)<=90)=True:=aL (by omega);have jf:(48<=(s[i].toNat:Int))=False:=aV (by omega);have kA:((s[i].toNat:Int)<=57)=True:=aL (by omega);simp-implicitDefEqProofs[aq,aO,hY,dm,dF,je,jf,kA];refine bp.of (fun _=>strings_IndexByte [33,35,36,37,38,39,42,43,45,46,94,95,124,126] s[i]) rfl ?_;cases ao:AK.contains s[i]
   ·have g:ih [33,35,36,37,38,39,42,43,45,46,94,95,124,126] s[i]=-1:=Am ao;have bl:=jG i aq (K0 (by omega) ao);simp-implicitDefEqProofs[g,bl]
   ·have g:(0<=ih [33,35,36,37,38,39,42,43,45,46,94,95,124,126] s[i])=True:=aL (sL ao);have g2:(ih [33,35,36,37,38,39,42,43,45,46,94,95,124,126] s[i]<0)=False:=aV (by have aW:0<=ih [33,35,36,37,38,39,42,43,45,46,94,95,124,126] s[i]:=sL ao;omega);simp-implicitDefEqProofs[g,bG];exact bI.of (i+1) (ai.step aq (KZ ao)) (by omega) (by simp)
  ·-- 48..57
   have hY:(97<=(s[i].toNat:Int))=False:=aV (by omega);have dm:((s[i].toNat:Int)<=122)=True:=aL (by omega);have dF:(65<=(s[i].toNat:Int))=False:=aV (by omega);have je:((s[i].toNat:Int)<=90)=True:=aL (by omega);have jf:(48<=(s[i].toNat:Int))=True:=aL (by omega);have kA:((s[i].toNat:Int)<=57)=True:=aL (by omega);simp-implicitDefEqProofs[aq,aO,hY,dm,dF,je,jf,kA];refine bp.of (fun h=>by cases h) (r:=.x (.one (.int .i64 0))) rfl ?_;simp-implicitDefEqProofs[bG];exact bI.of (i+1) (ai.step aq (Qd (by omega))) (by omega) (by simp)
  ·-- 58..64
   have hY:(97<=(s[i].toNat:Int))=False:=aV (by omega);have dm:((s[i].toNat:Int)<=122)=True:=aL (by omega);have dF:(65<=(s[i].toNat:Int))=False:=aV (by omega);have je:((s[i].toNat:Int)<=90)=True:=aL (by omega);have jf:(48<=(s[i].toNat:Int))=True:=aL (by omega);have kA:((s[i].toNat:Int)<=57)=False:=aV (by omega);simp-implicitDefEqProofs[aq,aO,hY,dm,dF,je,jf,kA];refine bp.of (fun _=>strings_IndexByte [33,35,36,37,38,39,42,43,45,46,94,95,124,126] s[i]) rfl ?_;cases ao:AK.contains s[i]
   ·have g:ih [33,35,36,37,38,39,42,43,45,46,94,95,124,126] s[i]=-1:=Am ao;have bl:=jG i aq (K0 (by omega) ao);simp-implicitDefEqProofs[g,bl]
   ·have g:(0<=ih [33,35,36,37,38,39,42,43,45,46,94,95,124,126] s[i])=True:=aL (sL ao);have g2:(ih [33,35,36,37,38,39,42,43,45,46,94,95,124,126] s[i]<0)=False:=aV (by have aW:0<=ih [33,35,36,37,38,39,42,43,45,46,94,95,124,126] s[i]:=sL ao;omega);simp-implicitDefEqProofs[g,bG];exact bI.of (i+1) (ai.step aq (KZ ao)) (by omega) (by simp)
  ·-- 65..90
   have hY:(97<=(s[i].toNat:Int))=False:=aV (by omega);have dm:((s[i].toNat:Int)<=122)=True:=aL (by omega);have dF:(65<=(s[i].toNat:Int))=True:=aL (by omega);have je:((s[i].toNat:Int)<=90)=True:=aL (by omega);have jf:(48<=(s[i].toNat:Int))=True:=aL (by omega);have kA:((s[i].toNat:Int)<=57)=False:=aV (by omega);simp-implicitDefEqProofs[aq,aO,hY,dm,dF,je,jf,kA];refine bp.of (fun h=>by cases h) (r:=.x (.one (.int .i64 0))) rfl ?_;simp-implicitDefEqProofs[bG];exact bI.of (i+1) (ai.step aq (Qd (by omega))) (by omega) (by simp)
  ·-- 91..96
   have hY:(97<=(s[i].toNat:Int))=False:=aV (by omega);have dm:((s[i].toNat:Int)<=122)=True:=aL (by omega);have dF:(65<=(s[i].toNat:Int))=True:=aL (by omega);have je:((s[i].toNat:Int)<=90)=False:=aV (by omega);have jf:(48<=(s[i].toNat:Int))=True:=aL (by omega);have kA:((s[i].toNat:Int)<=57)=False:=aV (by omega);simp-implicitDefEqProofs[aq,aO,hY,dm,dF,je,jf,kA];refine bp.of (fun _=>strings_IndexByte [33,35,36,37,38,39,42,43,45,46,94,95,124,126] s[i]) rfl ?_;cases ao:AK.contains s[i]
   ·have g:ih [33,35,36,37,38,39,42,43,45,46,94,95,124,126] s[i]=-1:=Am ao;have bl:=jG i aq (K0 (by omega) ao);simp-implicitDefEqProofs[g,bl]
   ·have g:(0<=ih [33,35,36,37,38,39,42,43,45,46,94,95,124,126] s[i])=True:=aL (sL ao);have g2:(ih [33,35,36,37,38,39,42,43,45,46,94,95,124,126] s[i]<0)=False:=aV (by have aW:0<=ih [33,35,36,37,38,39,42,43,45,46,94,95,124,126] s[i]:=sL ao;omega);simp-implicitDefEqProofs[g,bG];exact bI.of (i+1) (ai.step aq (KZ ao)) (by omega) (by simp)
  ·-- 97..122
   have hY:(97<=(s[i].toNat:Int))=True:=aL (by omega);have dm:((s[i].toNat:Int)<=122)=True:=aL (by omega);have dF:(65<=(s[i].toNat:Int))=True:=aL (by omega);have je:((s[i].toNat:Int)<=90)=False:=aV (by omega);have jf:(48<=(s[i].toNat:Int))=True:=aL (by omega);have kA:((s[i].toNat:Int)<=57)=False:=aV (by omega);simp-implicitDefEqProofs[aq,aO,hY,dm,dF,je,jf,kA];refine bp.of (fun h=>by cases h) (r:=.x (.one (.int .i64 0))) rfl ?_;simp-implicitDefEqProofs[bG];exact bI.of (i+1) (ai.step aq (Qd (by omega))) (by omega) (by simp)
  ·-- 123..255
   have hY:(97<=(s[i].toNat:Int))=True:=aL (by omega);have dm:((s[i].toNat:Int)<=122)=False:=aV (by omega);have dF:(65<=(s[i].toNat:Int))=True:=aL (by omega);have je:((s[i].toNat:Int)<=90)=False:=aV (by omega);have jf:(48<=(s[i].toNat:Int))=True:=aL (by omega);have kA:((s[i].toNat:Int)<=57)=False:=aV (by omega);simp-implicitDefEqProofs[aq,aO,hY,dm,dF,je,jf,kA];refine bp.of (fun _=>strings_IndexByte [33,35,36,37,38,39,42,43,45,46,94,95,124,126] s[i]) rfl ?_;cases ao:AK.contains s[i]
   ·have g:ih [33,35,36,37,38,39,42,43,45,46,94,95,124,126] s[i]=-1:=Am ao;have bl:=jG i aq (K0 (by omega) ao);simp-implicitDefEqProofs[g,bl]
   ·have g:(0<=ih [33,35,36,37,38,39,42,43,45,46,94,95,124,126] s[i])=True:=aL (sL ao);have g2:(ih [33,35,36,37,38,39,42,43,45,46,94,95,124,126] s[i]<0)=False:=aV (by have aW:0<=ih [33,35,36,37,38,39,42,43,45,46,94,95,124,126] s[i]:=sL ao;omega);simp-implicitDefEqProofs[g,bG];exact bI.of (i+1) (ai.step aq (KZ ao)) (by omega) (by simp)
 ·have aO:((i:Int)<(s.length:Int))=False:=aV (by omega);have bl:B=true:=by rw[di];unfold rj;rw[fH,ai.done aq];rfl
  simp-implicitDefEqProofs[aO,bl]
def AL(c:UInt8):Bool:=(decide (32<=c.toNat)&&decide (c.toNat<=126)) ||decide (c.toNat=9)
def Xk{c:UInt8}(h:(32<=c.toNat/\c.toNat<=126)\/c.toNat=9):AL c=true:=by
 unfold AL;rcases h with h|h
 ·simp[h.1,h.2]
 ·simp[h]
def Qe{c:UInt8}(h:¬((32<=c.toNat/\c.toNat<=126)\/c.toNat=9)):AL c=false:=by
 unfold AL;cases aa:decide (32<=c.toNat)<;>cases ab:decide (c.toNat<=126)<;>cases ar:decide (c.toNat=9) <;>
  simp only[hF,Dl]at aa ab ar<;>first|rfl|(exfalso;omega)
def Qf:List UInt8:=[32,9]
def trimB(s:List UInt8):List UInt8:=Lib.trimS s Qf
def n8(s:List UInt8):Bool:=decide (s.length<=1000)&&(decide (trimB s=s)&&s.all AL)
def zjc(s:List UInt8):aD prog 193 [.one (.str s)] (.x (.one (.str (trimB s)))):=by have h:=x4 s Qf (by decide) (by decide);unfold trimB;unfold Qf at*;generalize Lib.trimS s [32,9]=T at h⊢;refine aD.a6 f193 mixed fun aE=>?_;simp-implicitDefEqProofs;refine aA.of h ?_;simp-implicitDefEqProofs
def Xl(s:List UInt8):aD prog 132 [.one (.str s)] (.x (.one (.bool (n8 s)))):=by
 obtain⟨B,di⟩:∃B,B=n8 s:=⟨_,rfl⟩
 rw[<-di];have jG:∀i (h:i<s.length),AL s[i]=false->B=false:=fun i h ao=>by rw[di];unfold n8;rw[C4 h ao,vH,vH]
 have ba:=zjc s;refine aD.a6 f132 mixed fun aE=>?_;by_cases aa:1000<s.length
 ·have bl:B=false:=by rw[di];unfold n8;rw[nb (by omega),kq]
  have dx:(1000<(s.length:Int))=True:=aL (by omega);simp-implicitDefEqProofs[dx];refine bp.of (fun h=>by cases h) (r:=.x (.one (.str []))) rfl ?_;simp-implicitDefEqProofs[bl]
 have dx:(1000<(s.length:Int))=False:=aV (by omega);simp-implicitDefEqProofs[dx];refine bp.of (fun _=>ba) rfl ?_;by_cases b_:trimB s=s;rotate_left
 ·have bl:B=false:=by rw[di];unfold n8;rw[nb b_,kq,vH]
  have ef:(trimB s==s)=false:=by simpa using b_
  have dv:(trimB s != s)=true:=by simpa using b_
  simp-implicitDefEqProofs[ef,bl]
 have ef:(trimB s==s)=true:=by simpa using b_
 have dv:(trimB s != s)=false:=by simpa using b_
 simp-implicitDefEqProofs[ef];refine cI.of Nat (fun i=>[(0,.x (.one (.str s))),(14,.x (.one (.int .i64 s.length))),(15,.x (.one (.int .i64 i)))]) (gF AL s) (fun i=>s.length-i) 0 gF.zero ?_ ?_
 ·simp
 intro i ai;have hle:=ai.1;by_cases aq:i<s.length
 ·have aO:((i:Int)<(s.length:Int))=True:=aL (by omega);have bG:i64.wrap ((i:Int)+1)=(i:Int)+1:=bk _ (by omega);have zjb:=s[i].toNat_lt;have hC:(s[i].toNat<=8)\/(9<=s[i].toNat/\s[i].toNat<=9)\/(10<=s[i].toNat/\s[i].toNat<=31)\/(32<=s[i].toNat/\s[i].toNat<=126)\/(127<=s[i].toNat):=by omega
  rcases hC with hC|hC|hC|hC|hC
  ·-- 0..8
   have hY:((s[i].toNat:Int)<32)=True:=aL (by omega);have dm:(126<(s[i].toNat:Int))=False:=aV (by omega);have dF:((s[i].toNat:Int)=9)=False:=aV (by omega);have q:((s[i].toNat:Int) != 9)=true:=by rw[xE];omega
   have bl:=jG i aq (Qe (by omega));simp-implicitDefEqProofs[aq,aO,q,bl,hY,dm]
  ·-- 9..9
   have hY:((s[i].toNat:Int)<32)=True:=aL (by omega);have dm:(126<(s[i].toNat:Int))=False:=aV (by omega);have dF:((s[i].toNat:Int)=9)=True:=aL (by omega);have q:((s[i].toNat:Int) != 9)=false:=by rw[Pr];omega
   simp-implicitDefEqProofs[aq,aO,q,bG,hY,dm];exact bI.of (i+1) (ai.step aq (Xk (by omega))) (by omega) (by simp)
  ·-- 10..31
   have hY:((s[i].toNat:Int)<32)=True:=aL (by omega);have dm:(126<(s[i].toNat:Int))=False:=aV (by omega);have dF:((s[i].toNat:Int)=9)=False:=aV (by omega);have q:((s[i].toNat:Int) != 9)=true:=by rw[xE];omega
   have bl:=jG i aq (Qe (by omega));simp-implicitDefEqProofs[aq,aO,q,bl,hY,dm]
  ·-- 32..126
   have hY:((s[i].toNat:Int)<32)=False:=aV (by omega);have dm:(126<(s[i].toNat:Int))=False:=aV (by omega);have dF:((s[i].toNat:Int)=9)=False:=aV (by omega);have q:((s[i].toNat:Int) != 9)=true:=by rw[xE];omega
   simp-implicitDefEqProofs[aq,aO,q,bG,hY,dm];exact bI.of (i+1) (ai.step aq (Xk (by omega))) (by omega) (by simp)
  ·-- 127..255
   have hY:((s[i].toNat:Int)<32)=False:=aV (by omega);have dm:(126<(s[i].toNat:Int))=True:=aL (by omega);have dF:((s[i].toNat:Int)=9)=False:=aV (by omega);have q:((s[i].toNat:Int) != 9)=true:=by rw[xE];omega
   have bl:=jG i aq (Qe (by omega));simp-implicitDefEqProofs[aq,aO,q,bl,hY,dm]
 ·have aO:((i:Int)<(s.length:Int))=False:=aV (by omega);have bl:B=true:=by rw[di];unfold n8;rw[ai.done aq,s6 b_,s6 (by omega)];rfl
  simp-implicitDefEqProofs[aO,bl]
structure Head where
 name:List UInt8
 value:List UInt8
def Head.row(h:Head):List af:=[.str h.name,.str h.value]
abbrev wi(l:List Head):az:=.one (.list 2 (l.map Head.row))
def DH(h:Head):Int:=if rj h.name=false then 5 else if n8 h.value=false then 3 else 0
def DI:List Head->Int
 |[]=>0
 |h::r=>if DH h=0 then DI r else DH h
def s7(l:List Head):Int:=if 100<l.length then 2 else DI l
def Xm(l:List Head):aD prog 133 [wi l] (.x (.one (.int .i64 (s7 l)))):=by
 obtain⟨F,a8⟩:∃F,F=s7 l:=⟨_,rfl⟩
 rw[<-a8];unfold s7 at a8;refine aD.a6 f133 mixed fun aE=>?_;by_cases aa:100<l.length
 ·have dx:(100<(l.length:Int))=True:=aL (by omega);rw[aC aa]at a8;subst a8;simp-implicitDefEqProofs[dx]
 have dx:(100<(l.length:Int))=False:=aV (by omega);rw[au aa]at a8;simp-implicitDefEqProofs[dx];refine cI.of Nat (fun i=>[(8,.x (wi l)),(9,.x (.one (.int .i64 l.length))),(10,.x (.one (.int .i64 i)))]) (fun i=>i<=l.length/\F=DI (l.drop i)) (fun i=>l.length-i) 0 ⟨cd _,a8⟩ ?_ ?_
 ·simp
 rintro i ⟨ai,bc⟩;by_cases aq:i<l.length
 ·have aO:((i:Int)<(l.length:Int))=True:=aL (by omega);have bG:i64.wrap ((i:Int)+1)=(i:Int)+1:=bk _ (by omega);rw[g' aq,DI]at bc;have bm:l[i].row=[.str l[i].name,.str l[i].value]:=rfl;have aF:=zja l[i].name;have aP:=Xl l[i].value;have ay:DH l[i]=if rj l[i].name=false then 5 else if n8 l[i].value=false then 3 else 0:=rfl
  generalize rj l[i].name=p at aF ay;generalize n8 l[i].value=q at aP ay;simp-implicitDefEqProofs[aq,aO,bm];refine aA.of aF ?_;cases p
  ·rw[aC rfl]at ay;rw[ay,au (by decide)]at bc;subst bc;simp-implicitDefEqProofs
  ·rw[au (by decide)]at ay;simp-implicitDefEqProofs;refine aA.of aP ?_;cases q
   ·rw[aC rfl]at ay;rw[ay,au (by decide)]at bc;subst bc;simp-implicitDefEqProofs
   ·rw[au (by decide)]at ay;rw[ay,aC rfl]at bc;simp-implicitDefEqProofs[bG];exact bI.of (i+1) ⟨by omega,bc⟩ (by omega) (by simp)
 ·have aO:((i:Int)<(l.length:Int))=False:=aV (by omega);have bc:F=0:=by rw[bc,List.drop_of_length_le (by omega)];rfl
  subst bc;simp-implicitDefEqProofs[aO]
end Go.Proofs.YtaalfcghmjkaeaaGreatDoor
namespace Go.Proofs.YtaalfcghmjkaeaaGreatDoor
open Go Go.Ab Go.Proofs.Tryz Go.IntKind
variable [bf]
set_option maxRecDepth 100000
set_option maxHeartbeats 4000000
abbrev dj(b:List UInt8):af:=.list 1 (bL b)
def j5:List UInt8->Option (List UInt8)
 |[]=>none
 |c::r=>if c=13/\r.head?=some 10 then some []else if c=13\/c=10 then none else (j5 r).map (c::·)
def fx(b:List UInt8)(a:Nat):List UInt8:=(j5 (b.drop a)).getD []
def gX(b:List UInt8)(a:Nat):Nat:=match j5 (b.drop a)with
 |some l=>a+l.length+2
 |none=>a
def kB(b:List UInt8)(a:Nat):Bool:=(j5 (b.drop a)).isSome
def Qj:∀{b l:List UInt8},j5 b=some l->l=b.take l.length/\l.length+2<=b.length
 |[],l,h=>by simp[j5]at h
 |c::r,l,h=>by
  unfold j5 at h;split at h
  ·rename_i ao;injection h with h
   subst h;cases r with
   |nil=>simp at ao
   |cons d r=>exact⟨rfl,by simp⟩
  ·split at h
   ·cases h
   ·cases al:j5 r with
    |none=>rw[al]at h;cases h
    |some kd=>rw[al]at h;simp only[tC,bS]at h;subst h;obtain⟨aa,ab⟩:=Qj al;exact⟨by simp[<-aa],by simp;omega⟩
def rk(b:List UInt8)(a i:Nat):Prop:=a<=i/\i<=b.length/\∀k,j5 (b.drop i)=k->j5 (b.drop a)=k.map ((b.drop a).take (i-a)++·)
def rk.zero{b:List UInt8}{a:Nat}(h:a<=b.length):rk b a a:=⟨eG _,h,fun k am=>by rw[am];cases k<;>simp⟩
def Qk{b:List UInt8}{i:Nat}(h:i<b.length):b.drop i=b[i]::b.drop (i+1):=g' h
def zjk{b:List UInt8}{a i:Nat}(aa:a<=i)(ab:i<b.length):(b.drop a).take (i+1-a)=(b.drop a).take (i-a)++[b[i]]:=by rw[show i+1-a=(i-a)+1 by omega,C5,h3,show a+(i-a)=i by omega,cn ab];rfl
def rk.step{b:List UInt8}{a i:Nat}(h:rk b a i)(aq:i<b.length)(aa:b[i]≠13)(ab:b[i]≠10):rk b a (i+1):=by
 obtain⟨aF,aP,a7⟩:=h;refine⟨by omega,by omega,fun k am=>?_⟩;rw[a7 (k.map (b[i]::·)) ?_]
 ·rw[zjk aF aq];cases k<;>simp
 ·rw[Qk aq];unfold j5;rw[au (by rintro⟨h,_⟩;exact aa h),au (by rintro (h|h);exact aa h;exact ab h),am]
def rk.none{b:List UInt8}{a i:Nat}(h:rk b a i)(he:j5 (b.drop i)=none):j5 (b.drop a)=none:=by rw[h.2.2 Option.none he];rfl
def rk.some{b:List UInt8}{a i:Nat}(h:rk b a i)(he:j5 (b.drop i)=some []):j5 (b.drop a)=some ((b.drop a).take (i-a)):=by rw[h.2.2 _ he];simp
def Xr(k:Nat)(am:k<256)(c:UInt8):((c.toNat:Int)=(k:Int))=(c=UInt8.ofNat k):=by
 apply propext;constructor
 ·intro h;have:c.toNat=k:=by exact_mod_cast h
  rw[<-this];simp
 ·rintro rfl;simp[ER am]
def Xs(c:UInt8):((c.toNat:Int)=13)=(c=13):=Xr 13 (by decide) c
def Xt(c:UInt8):((c.toNat:Int)=10)=(c=10):=Xr 10 (by decide) c
def G9{b:List UInt8}{a i:Nat}(h:a<=i):cutAt (bL b) (a:Int) (i:Int)=bL ((b.drop a).take (i-a)):=by unfold cutAt bL;rw[show ((i:Int)).toNat=i by omega,show ((a:Int)).toNat=a by omega,EF,yc,AO]
def G_(b:List UInt8)(a:Nat)(ae:b.length<=16777216)(bj:a<=b.length):aD prog 127 [.one (dj b),.one (.int .i64 a)] (.b2 [.one (.str (fx b a)),.one (.int .i64 (gX b a)),.one (.bool (kB b a))]):=by
 obtain⟨S,G'⟩:∃S,S=fx b a:=⟨_,rfl⟩
 obtain⟨M,o3⟩:∃M,M=gX b a:=⟨_,rfl⟩
 obtain⟨B,di⟩:∃B,B=kB b a:=⟨_,rfl⟩
 rw[<-G',<-o3,<-di];have cp:j5 (b.drop a)=none->S=[]/\M=a/\B=false:=fun h=>by subst G' o3 di;simp[fx,gX,kB,h]
 have zjl:∀l,j5 (b.drop a)=some l->S=l/\M=a+l.length+2/\B=true:=fun l h=>by subst G' o3 di;simp[fx,gX,kB,h]
 refine aD.a6 f127 mixed fun aE=>?_;simp-implicitDefEqProofs +contextual[-Bool.and_eq_false_imp];refine cI.of Nat (fun i=>[(0,.x (.one (dj b))),(1,.x (.one (.int .i64 a))),(4,.x (.one (.str []))),(5,.x (.one (.int .i64 0))),(6,.x (.one (.bool false))),(7,.x (.one (.int .i64 i)))]) (fun i=>rk b a i) (fun i=>b.length-i) a (rk.zero bj) ?_ ?_
 ·simp
 rintro i ai;obtain⟨aa,ab,ar⟩:=id ai;have ki:cutAt (bL b) (a:Int) (i:Int)=bL ((b.drop a).take (i-a)):=G9 aa;by_cases aq:i<b.length
 ·have aO:((i:Int)<(b.length:Int))=True:=aL (by omega);have bG:i64.wrap ((i:Int)+1)=(i:Int)+1:=bk _ (by omega);have K1:i64.wrap ((i:Int)+2)=(i:Int)+2:=bk _ (by omega);have fQ:=Qk aq;have bO:∀h,(bL b)[i]'h=[.int .u8 b[i].toNat]:=fun h=>by simp[bL,g_]
  have BR:b[i]=13\/b[i]=10->¬(b[i]=13/\(b.drop (i+1)).head?=some 10)->S=[]/\(M:Int)=(a:Int)/\B=false:=by intro ao ax;obtain⟨aF,aP,a7⟩:=cp (ai.none (by rw[fQ];unfold j5;rw[au ax,aC ao]));exact⟨aF,by rw[aP],a7⟩
  have tM:¬b[i]=13->¬b[i]=10->rk b a (i+1):=fun bA c2=>ai.step aq bA c2;by_cases aT:i+1<b.length
  ·have BQ:((i:Int)+1<(b.length:Int))=True:=aL (by omega);have NM:∀h,(bL b)[i+1]'h=[.int .u8 b[i+1].toNat]:=fun h=>by simp[bL,g_]
   have ye:(b.drop (i+1)).head?=some b[i+1]:=by rw[Qk aT];rfl
   simp-implicitDefEqProofs[aq,aO,bG,K1,aT,BQ,bO,NM,ki,Xs,Xt];refine⟨fun c=>by first|omega|exact⟨c,by omega⟩,fun bA c2=>?_,fun c=>⟨fun d=>BR d (by rw[ye];rintro⟨d1,d2⟩;exact c d1 (by simpa using d2)),fun bA c2=>bI.of (i+1) (tM bA c2) (by omega) ?_⟩⟩
   ·obtain⟨aF,aP,a7⟩:=zjl _ (ai.some (by rw[fQ];unfold j5;rw[aC ⟨bA,by rw[ye,c2]⟩]));refine⟨⟨aa,ab⟩,aF,?_,a7⟩;rw[aP,d',eo,K2 (by omega)];omega
   ·simp
  ·have BQ:((i:Int)+1<(b.length:Int))=False:=aV (by omega);have ye:(b.drop (i+1)).head?=none:=by rw[kf (by omega)];rfl
   have aY:b[i+1]?=none:=lX (by omega);simp-implicitDefEqProofs[aq,aO,bG,BQ,bO,aY,Xs,Xt];exact⟨fun d=>BR d (by rw[ye];rintro⟨_,d2⟩;cases d2),fun bA c2=>bI.of (i+1) (tM bA c2) (by omega) (by simp)⟩
 ·have aO:((i:Int)<(b.length:Int))=False:=aV (by omega);obtain⟨aF,aP,a7⟩:=cp (ai.none (by rw[kf (by omega)];rfl));simp-implicitDefEqProofs[aO,aF,aP,a7]
structure bx where
 b:List UInt8
 at_:Nat
 kind:Int
 id:List UInt8
 of:List UInt8
 time:Int
 key:List UInt8
 bd:List Head
 length:Int
 hX:List UInt8
def rl(l:List Head):af:=if l=[]then .nil else .list 2 (l.map Head.row)
@[simp]def zIV(l:List Head):(rl l).isAny=false:=by unfold rl;split<;>rfl
def bx.cells(x:bx):List af:=[dj x.b,.int .i64 x.at_,.int .i64 x.kind,.str x.id,.str x.of,.int .i64 x.time,.str x.key,rl x.bd,.nil,.int .i64 x.length,.str x.hX]
def bx.ok(x:bx):Prop:=x.b.length<=16777216/\x.at_<=x.b.length
def colonS:List UInt8:=[58,32]
def o6{b:List UInt8}{a:Nat}(h:a<=b.length):gX b a<=b.length:=by
 unfold gX;split
 ·rename_i l e;have:=(Qj e).2;simp at this;omega
 ·exact h
def Ql(b:List UInt8)(a:Nat):(fx b a).length<=b.length:=by
 unfold fx;cases e:j5 (b.drop a)with
 |none=>simp
 |some l=>have:=(Qj e).2;simp at this⊢;omega
def Ha(x:bx)(w:List UInt8):Bool:=kB x.b x.at_&&decide (fx x.b x.at_=w)
def p6(x:bx)(w:List UInt8):bx:=if Ha x w=true then {x with at_:=gX x.b x.at_} else x
def zjm(x:bx)(w:List UInt8)(aj:x.ok):cB prog 230 [.box x.cells,.x (.one (.str w))] (.x (.one (.bool (Ha x w)))) [.box (p6 x w).cells,.dead]:=by
 have k:=G_ x.b x.at_ aj.1 aj.2;obtain⟨X,cS⟩:∃X,X=p6 x w:=⟨_,rfl⟩
 obtain⟨B,di⟩:∃B,B=Ha x w:=⟨_,rfl⟩
 rw[<-cS,<-di];unfold p6 at cS;rw[<-di]at cS;unfold Ha at di;generalize fx x.b x.at_=S at k di;generalize gX x.b x.at_=N at k cS;generalize kB x.b x.at_=L at k di;unfold bx.cells at*;refine cB.a6 f230 mixed fun aE=>?_;simp-implicitDefEqProofs;refine aA.of k ?_;cases L
 ·simp only[kq]at di;subst di;rw[au (by decide)]at cS;subst cS;simp-implicitDefEqProofs
 ·by_cases bW:S=w
  ·have Xu:(S==w)=true:=by simpa using bW
   simp only[kL,s6 bW]at di;subst di;rw[aC rfl]at cS;subst cS;simp-implicitDefEqProofs[bW]
  ·simp only[kL,nb bW]at di;subst di;rw[au (by decide)]at cS;subst cS;simp-implicitDefEqProofs[bW]
def p7(x:bx)(w:List UInt8):Bool:=hH (x.b.drop x.at_) (w++colonS)
def zjn(x:bx)(w:List UInt8)(aj:x.ok)(M:Nat)(o3:M=min x.b.length (x.at_+w.length+2)):hH ((x.b.drop x.at_).take (M-x.at_)) (w++colonS)=p7 x w:=by
 have ab:=aj.2;unfold p7 hH;rw[q4,As,As];constructor
 ·exact fun h=>h.trans (List.take_prefix _ _)
 ·intro h;rw[List.prefix_take_iff];refine⟨h,?_⟩;have:=h.length_le;simp[colonS]at this⊢;omega
def Xv(x:bx)(w:List UInt8)(aj:x.ok)(hw:w.length<=100):cB prog 232 [.box x.cells,.x (.one (.str w))] (.x (.one (.bool (p7 x w)))) [.box x.cells,.dead]:=by
 obtain⟨M,o3⟩:∃M,M=min x.b.length (x.at_+w.length+2):=⟨_,rfl⟩
 have k:=strings_HasPrefix ((x.b.drop x.at_).take (M-x.at_)) (w++colonS);have e:hH ((x.b.drop x.at_).take (M-x.at_)) (w++colonS)=p7 x w:=by
  have ab:=aj.2;unfold p7 hH;rw[q4,As,As];constructor
  ·exact fun h=>h.trans (List.take_prefix _ _)
  ·intro h;rw[List.prefix_take_iff];refine⟨h,?_⟩;have:=h.length_le;simp[colonS]at this⊢;omega
 rw[e]at k;generalize p7 x w=B at k;have ab:=aj.2;have aa:=aj.1;have ic:i64.wrap ((x.at_:Int)+(w.length:Int))=(x.at_:Int)+(w.length:Int):=bk _ (by omega);have sm:i64.wrap ((x.at_:Int)+(w.length:Int)+2)=(x.at_:Int)+(w.length:Int)+2:=bk _ (by omega);have Qm:min (x.b.length:Int) ((x.at_:Int)+(w.length:Int)+2)=(M:Int):=by omega
 have ki:cutAt (bL x.b) (x.at_:Int) (M:Int)=bL ((x.b.drop x.at_).take (M-x.at_)):=G9 (by omega);unfold bx.cells at*;refine cB.a6 f232 mixed fun aE=>?_;simp-implicitDefEqProofs[ic,sm,Qm,ki];refine⟨by omega,by unfold maxLen;omega,aA.of k ?_⟩;simp-implicitDefEqProofs
def zjo(s p:List UInt8):aD prog 157 [.one (.str s),.one (.str p)] (.b2 [.one (.str (if hH s p=true then s.drop p.length else s)),.one (.bool (hH s p))]):=by
 refine aD.a6 f157 mixed fun aE=>?_;simp-implicitDefEqProofs;refine aA.of (stringslite_HasPrefix s p) ?_;cases h:hH s p
 ·simp-implicitDefEqProofs
 ·have al:p.length<=s.length:=(As.1 h).length_le;have g1:((p.length:Int)<=(s.length:Int))=True:=aL (by omega);simp-implicitDefEqProofs[g1]
def Xw(s p:List UInt8):aD prog 92 [.one (.str s),.one (.str p)] (.b2 [.one (.str (if hH s p=true then s.drop p.length else s)),.one (.bool (hH s p))]):=by refine aD.a6 f92 mixed fun aE=>?_;simp-implicitDefEqProofs;refine aA.of (zjo s p) ?_;simp-implicitDefEqProofs
def Xx(s:List UInt8)(cs:List af)(off:Nat)(h:off<cs.length)(ba:oY ((cs.drop off).take 1)=false)(b:Nat):cB prog 229 [.x (.one (.str s)),.ds 2 off,.cf b cs] (.x (.one (.bool true))) [.dead,.dead,.cf b (cl cs off [.str s])]:=by refine cB.of mixed (fn:=f229) (by kernel_rfl) (by kernel_rfl) rfl (by kernel_rfl) (by kernel_rfl) (by simp[gd,dR]) (by simp[f229]) (fun aE=>?_);simp-implicitDefEqProofs[ba];exact h
def zjp(s:List UInt8)(x:bx)(b:Nat):cB prog 233 [.x (.one (.str s)),.ds 2 0,.cf b x.cells] (.x (.one (.bool (decide (s≠[]))))) [.dead,.dead,.cf b {x with of:=s}.cells]:=by
 unfold bx.cells;refine cB.of mixed (fn:=f233) (by kernel_rfl) (by kernel_rfl) rfl (by kernel_rfl) (by kernel_rfl) (by simp[gd,dR]) (by simp[f233]) (fun aE=>?_);cases s with
 |nil=>simp-implicitDefEqProofs
 |cons c r=>simp-implicitDefEqProofs
def p8:List (List UInt8):=[[105,110,102,111],[114,101,113,117,101,115,116],[97,110,115,119,101,114],[114,101,118,105,115,105,116],[112,105,101,99,101]]
def Qn:aD prog 185 [] (.x (strs p8)):=by refine aD.a6 f185 mixed fun aE=>?_;simp-implicitDefEqProofs[p8]
def K3(x:bx)(w:List UInt8)(F:List UInt8->Bool):Bool:=kB x.b x.at_&&(hH (fx x.b x.at_) (w++colonS)&&F ((fx x.b x.at_).drop (w.length+2)))
def o7(x:bx)(w:List UInt8)(F:List UInt8->Bool)(G:List UInt8->bx):bx:=
 if kB x.b x.at_=true/\hH (fx x.b x.at_) (w++colonS)=true then
  (if F ((fx x.b x.at_).drop (w.length+2))=true then {G ((fx x.b x.at_).drop (w.length+2))with at_:=gX x.b x.at_} else G ((fx x.b x.at_).drop (w.length+2)))
 else x
def AP(x:bx)(w:List UInt8)(g off:Nat)(F:List UInt8->Bool)(G:List UInt8->bx)(aj:x.ok)(hw:w.length<=100)
  (aB:∀s,s.length<=x.b.length->∀b,cB prog g [.x (.one (.str s)),.ds 2 off,.cf b x.cells] (.x (.one (.bool (F s)))) [.dead,.dead,.cf b (G s).cells]) :
  cB prog 231 [.box x.cells,.x (.one (.str w)),.cr g [.inr (0,off+1000000)]] (.x (.one (.bool (K3 x w F)))) [.box (o7 x w F G).cells,.dead,.dead]:=by
 have k:=G_ x.b x.at_ aj.1 aj.2;have aP:=Xw (fx x.b x.at_) (w++colonS);have eJ:=aB ((fx x.b x.at_).drop (w.length+2)) (by have:=Ql x.b x.at_;simp;omega);have hlen:(w++colonS).length=w.length+2:=by simp[colonS]
 rw[hlen]at aP;obtain⟨X,cS⟩:∃X,X=o7 x w F G:=⟨_,rfl⟩
 obtain⟨B,di⟩:∃B,B=K3 x w F:=⟨_,rfl⟩
 rw[<-cS,<-di];unfold o7 at cS;unfold K3 at di;generalize fx x.b x.at_=S at k aP eJ di cS;generalize gX x.b x.at_=N at k cS;generalize kB x.b x.at_=L at k di cS;generalize hH S (w++colonS)=H at aP di cS;unfold colonS at aP;refine cB.a6 f231 mixed fun aE=>?_;unfold bx.cells at eJ⊢;simp-implicitDefEqProofs;refine aA.of k ?_;simp-implicitDefEqProofs;refine⟨by unfold maxLen;omega,aA.of aP ?_⟩;cases L
 ·rw[au (by simp)]at cS;simp only[kq]at di;subst cS;subst di;simp-implicitDefEqProofs
 ·cases H
  ·rw[au (by simp)]at cS;simp only[kq,vH]at di;subst cS;subst di;simp-implicitDefEqProofs
  ·rw[aC (by simp)]at cS;simp only[kL]at di;simp-implicitDefEqProofs;refine JI.of (outs:=[.dead,.dead]) eJ ?_;generalize G (S.drop (w.length+2))=Y at cS⊢;cases bc:F (S.drop (w.length+2))<;>rw[bc]at cS di<;>subst di
   ·rw[au (by decide)]at cS;subst cS;simp-implicitDefEqProofs
   ·rw[aC rfl]at cS;subst cS;simp-implicitDefEqProofs
def mu(k:Nat)(s:List UInt8):Bool:=s.all df&&(decide (1<=s.length)&&(decide (s.length<=k)&&!Xo s))
def zjq(k:Nat)(b:UInt8)(r:List UInt8):mu k (b::r)=((b::r).all df&&(decide (r.length+1<=k)&&(decide (b≠48) ||decide (r=[])))):=by
 unfold mu Xo;rw[eg,List.head?_cons];have aa:decide (1<=r.length+1)=true:=by simp
 rw[aa,kL];congr 2;cases r with
 |nil=>simp
 |cons x y=>simp
def K4(k:Nat)(am:k<=100000)(s:List UInt8):aD prog 128 [.one (.str s),.one (.int .i64 k)] (.x (.one (.bool (mu k s)))):=by
 refine aD.a6 f128 mixed fun aE=>?_;cases s with
 |nil=>simp-implicitDefEqProofs;refine bp.of (fun h=>by cases h) (r:=.x (.one (.str []))) rfl ?_;simp-implicitDefEqProofs;rfl
 |cons b r=>
  rw[zjq];by_cases al:r.length+1<=k
  ·have du:((r.length:Int)+1<=(k:Int))=True:=aL (by omega);simp-implicitDefEqProofs[du];refine bp.of (fun _=>x4 (b::r) wj (by decide) (by decide)) rfl ?_;by_cases ax:(b::r).all df=true
   ·have ba:=(Qg (b::r)).2 ax;rw[ax];by_cases ae:b=48
    ·subst ae;simp-implicitDefEqProofs[al,ba];cases r<;>simp
    ·have cm:((b.toNat:Int)=48)=False:=aV fun h=>ae (by rw[<-uw];simp;omega);have ak:(1<=(r.length:Int)+1)=True:=aL (by omega);simp-implicitDefEqProofs[al,ba,ae,cm,ak]
   ·have ba:¬Lib.trimS (b::r) wj=[]:=fun h=>ax ((Qg (b::r)).1 h);rw[Bool.eq_false_iff.2 ax];simp-implicitDefEqProofs[al,ba]
  ·have du:((r.length:Int)+1<=(k:Int))=False:=aV (by omega);simp-implicitDefEqProofs[du];refine bp.of (fun h=>by cases h) (r:=.x (.one (.str []))) rfl ?_;simp-implicitDefEqProofs[al]
def DJ{k:Nat}{s:List UInt8}(h:mu k s=true):Lib.atoi s=some (dk s:Int)/\s.length<=k/\s.all df=true:=by simp only[mu,b4,hF]at h;exact⟨by rw[Xq h.1 (by rintro rfl;simp at h)],h.2.2.1,h.1⟩
def wk(s:List UInt8):Nat:=match p8.findIdx? (·==s)with
 |some i=>i+1
 |none=>0
def zjr(s:List UInt8)(x:bx)(b:Nat):cB prog 234 [.x (.one (.str s)),.ds 2 0,.cf b x.cells] (.x (.one (.bool (decide (0<wk s))))) [.dead,.dead,.cf b {x with kind:=wk s}.cells]:=by
 have k:aD prog 17 [strs p8,.one (.str s)] (.x (.one (.int .i64 ((wk s:Int)-1)))):=by
  have k:=Qh p8 s;unfold wk;cases h:p8.findIdx? (·==s)with
  |none=>rw[h]at k;exact k
  |some i=>rw[h]at k;simpa using k
 have ae:wk s<=5:=by
  unfold wk;cases h:p8.findIdx? (·==s)with
  |none=>simp
  |some i=>have:=(s8.1 h).1;simp[p8]at this⊢;omega
 generalize wk s=K at*;have hw:i64.wrap ((K:Int)-1+1)=(K:Int):=by rw[bk _ (by omega)];omega
 unfold bx.cells;refine cB.of mixed (fn:=f234) (by kernel_rfl) (by kernel_rfl) rfl (by kernel_rfl) (by kernel_rfl) (by simp[gd,dR]) (by simp[f234]) (fun aE=>?_);simp-implicitDefEqProofs;refine hc.l ⟨by kernel_rfl,?_⟩;simp-implicitDefEqProofs;refine aA.of Qn ?_;simp-implicitDefEqProofs;refine aA.of k ?_;simp-implicitDefEqProofs;have Qo:i64.wrap (K:Int)=(K:Int):=bk _ (by omega);rw[Qo];exact⟨by omega,rfl⟩
def zjs(lL:List UInt8->Int)(lM:List UInt8->Bool)(hA:∀s,aD prog 236 [.one (.str s)] (.b2 [.one (.int .i64 (lL s)),.one (.int .i64 (if lM s=true then 0 else 10))]))(s:List UInt8)(x:bx)(b:Nat) :
  cB prog 235 [.x (.one (.str s)),.ds 2 0,.cf b x.cells] (.x (.one (.bool (lM s)))) [.dead,.dead,.cf b {x with time:=lL s}.cells]:=by
 have k:=hA s;generalize lL s=T at*;generalize lM s=O at*;unfold bx.cells;refine cB.of mixed (fn:=f235) (by kernel_rfl) (by kernel_rfl) rfl (by kernel_rfl) (by kernel_rfl) (by simp[gd,dR]) (by simp[f235]) (fun aE=>?_);simp-implicitDefEqProofs;refine aA.of k ?_;cases O
 ·simp-implicitDefEqProofs
 ·simp-implicitDefEqProofs
def zjt(s:List UInt8)(x:bx)(b:Nat):cB prog 238 [.x (.one (.str s)),.ds 2 0,.cf b x.cells] (.x (.one (.bool (mu 9 s)))) [.dead,.dead,.cf b (if mu 9 s=true then {x with length:=dk s} else x).cells]:=by
 have k:=K4 9 (by omega) s;unfold bx.cells;refine cB.of mixed (fn:=f238) (by kernel_rfl) (by kernel_rfl) rfl (by kernel_rfl) (by kernel_rfl) (by simp[gd,dR]) (by simp[f238]) (fun aE=>?_);simp-implicitDefEqProofs;refine aA.of k ?_;cases h:mu 9 s
 ·simp-implicitDefEqProofs
 ·obtain⟨aa,ab,_⟩:=DJ h;have aP:=Hb s _ (by omega) aa;simp-implicitDefEqProofs;refine hc.l ⟨by kernel_rfl,?_⟩;simp-implicitDefEqProofs;refine aA.of aP ?_;simp-implicitDefEqProofs
def zju(s:List UInt8):aD prog 240 [.one (.str s)] (.x (.one (.bool (Al s)))):=by
 have e:=Gv s vY;simp only[VY]at e;have k:=x4 s vY (by decide) (by decide);refine aD.a6 f240 mixed fun aE=>?_;unfold Al;by_cases h:s.length=16
 ·have bE:((s.length:Int)==16)=true:=by rw[h];rfl
  have ab:(s.length==16)=true:=by simpa using h
  simp-implicitDefEqProofs[h];refine bp.of (fun _=>k) rfl ?_;by_cases b_:Lib.trimS s vY=[]
  ·rw[b_,e.1 b_];simp-implicitDefEqProofs[h]
  ·have ay:s.all De=false:=by
    cases ae:s.all De with
    |true=>exact absurd (e.2 ae) b_
    |false=>rfl
   rw[ay];simp-implicitDefEqProofs[h,b_]
 ·have bE:((s.length:Int)==16)=false:=by simp;omega
  have ab:(s.length==16)=false:=by simpa using h
  simp-implicitDefEqProofs[bE];refine bp.of (fun h=>by cases h) (r:=.x (.one (.str []))) rfl ?_;simp-implicitDefEqProofs[h]
def zjv(s:List UInt8)(x:bx)(b:Nat):cB prog 239 [.x (.one (.str s)),.ds 2 0,.cf b x.cells] (.x (.one (.bool (Al s)))) [.dead,.dead,.cf b {x with hX:=s}.cells]:=by have k:=zju s;unfold bx.cells;refine cB.of mixed (fn:=f239) (by kernel_rfl) (by kernel_rfl) rfl (by kernel_rfl) (by kernel_rfl) (by simp[gd,dR]) (by simp[f239]) (fun aE=>?_);simp-implicitDefEqProofs;refine aA.of k ?_;simp-implicitDefEqProofs
def Qp:zC prog 228 229:=by refine zC.of mixed (fn:=f228) (t:=2) (by kernel_rfl) rfl rfl (by kernel_rfl) (by simp[f228]) rfl (fun v=>?_);simp-implicitDefEqProofs;exact⟨.inr rfl,1,by simp,by simp⟩
def Qq:List UInt8:=[75,69,80,84,47,49]
def K5:List UInt8:=[105,100]
def uE:List UInt8:=[111,102]
def K6:List UInt8:=[107,105,110,100]
def K7:List UInt8:=[100,97,116,101]
def K8:List UInt8:=[107,101,121]
def lN:List UInt8:=[108,101,110,103,116,104]
def K9:List UInt8:=[100,105,103,101,115,116]
def p9(r:Bool×bx)(f:bx->Bool×bx):Bool×bx:=match r with
 |(true,x)=>f x
 |(false,x)=>(false,x)
@[simp]def nj(x:bx)(f:bx->Bool×bx):p9 (true,x) f=f x:=rfl
@[simp]def n9(x:bx)(f:bx->Bool×bx):p9 (false,x) f=(false,x):=rfl
def n_(w:List UInt8)(x:bx):Bool×bx:=(Ha x w,p6 x w)
def lO(w:List UInt8)(F:List UInt8->Bool)(G:bx->List UInt8->bx)(x:bx):Bool×bx:=(K3 x w F,o7 x w F (G x))
def Hc:bx->Bool×bx:=lO K5 (fun _=>true) fun x s=>{x with id:=s}
def K_(x:bx):Bool×bx:=if p7 x uE=true then lO uE (fun s=>decide (s≠[])) (fun x s=>{x with of:=s}) x else (true,x)
def DK:bx->Bool×bx:=lO K6 (fun s=>decide (0<wk s)) fun x s=>{x with kind:=wk s}
def DL(lL:List UInt8->Int)(lM:List UInt8->Bool):bx->Bool×bx:=lO K7 lM fun x s=>{x with time:=lL s}
def DM:bx->Bool×bx:=lO K8 (fun _=>true) fun x s=>{x with key:=s}
def DN:bx->Bool×bx:=lO lN (mu 9) fun x s=>if mu 9 s=true then {x with length:=dk s} else x
def DO:bx->Bool×bx:=lO K9 Al fun x s=>{x with hX:=s}
def Qr{x:bx}(h:x.ok)(w:List UInt8):(n_ w x).2.ok:=by
 show (p6 x w).ok;unfold p6;split
 ·exact⟨h.1,o6 h.2⟩
 ·exact h
def yp{x:bx}(h:x.ok)(w:List UInt8)(F:List UInt8->Bool)(G:bx->List UInt8->bx)(dB:∀s,(G x s).b=x.b/\(G x s).at_=x.at_):(lO w F G x).2.ok:=by
 show (o7 x w F (G x)).ok;unfold o7;split
 ·obtain⟨g1,g2⟩:=dB ((fx x.b x.at_).drop (w.length+2));split
  ·exact⟨by simp only[g1];exact h.1,by simp only[g1];exact o6 h.2⟩
  ·exact⟨by rw[g1];exact h.1,by rw[g1,g2];exact h.2⟩
 ·exact h
@[simp]def zIW(x:bx):oY x.cells=false:=by simp[bx.cells,oY]
def zjw(x:bx)(w:List UInt8):(n_ w x).2.bd=x.bd:=by show (p6 x w).bd=_;unfold p6;split<;>rfl
def Hd(x:bx)(w:List UInt8)(F:List UInt8->Bool)(G:bx->List UInt8->bx)(dB:∀s,(G x s).bd=x.bd):(lO w F G x).2.bd=x.bd:=by
 show (o7 x w F (G x)).bd=_;unfold o7;split
 ·split
  ·exact dB _
  ·exact dB _
 ·rfl
def bx.iG(x:bx):Prop:=x.ok/\x.bd=[]
def rm(lL:List UInt8->Int)(lM:List UInt8->Bool)(ah:bx->Bool×bx)(x:bx):Bool×bx:=
 p9 (n_ Qq x) fun x=>p9 (Hc x) fun x=>p9 (K_ x) fun x=>p9 (DK x) fun x=>p9 (DL lL lM x) fun x=>p9 (DM x) fun x=>p9 (ah x) fun x=>p9 (DN x) fun x=>p9 (DO x) fun x=>n_ [] x
def zjx(lL:List UInt8->Int)(lM:List UInt8->Bool)(hA:∀s,aD prog 236 [.one (.str s)] (.b2 [.one (.int .i64 (lL s)),.one (.int .i64 (if lM s=true then 0 else 10))]))
  (ah:bx->Bool×bx)(DP:∀x:bx,x.iG->cB prog 237 [.box x.cells] (.x (.one (.bool (ah x).1))) [.box (ah x).2.cells]/\(ah x).2.ok)(x:bx)(aj:x.iG) :
  cB prog 181 [.box x.cells] (.x (.one (.bool (rm lL lM ah x).1))) [.box (rm lL lM ah x).2.cells]:=by
 have kw:∀(w:List UInt8) (y:bx),y.ok->cB prog 230 [.box y.cells,.x (.one (.str w))] (.x (.one (.bool (n_ w y).1))) [.box (n_ w y).2.cells,.dead]:=fun w y aS=>zjm y w aS;have zjy:∀(y:bx),y.iG->cB prog 231 [.box y.cells,.x (.one (.str K5)),.cr 229 [.inr (0,3+1000000)]] (.x (.one (.bool (Hc y).1))) [.box (Hc y).2.cells,.dead,.dead]:=fun y aS=>AP y K5 _ 3 _ _ aS.1 (by decide) (fun s _ b=>Xx s y.cells 3 (by simp[bx.cells]) (by simp[bx.cells]) b);have Xy:∀(y:bx),y.iG->cB prog 231 [.box y.cells,.x (.one (.str K8)),.cr 229 [.inr (0,6+1000000)]] (.x (.one (.bool (DM y).1))) [.box (DM y).2.cells,.dead,.dead]:=fun y aS=>AP y K8 _ 6 _ _ aS.1 (by decide) (fun s _ b=>Xx s y.cells 6 (by simp[bx.cells]) (by simp[bx.cells]) b);have zjz:∀(y:bx),y.iG->cB prog 231 [.box y.cells,.x (.one (.str uE)),.cr 233 [.inr (0,0+1000000)]] (.x (.one (.bool (lO uE (fun s=>decide (s≠[])) (fun x s=>{x with of:=s}) y).1))) [.box (lO uE (fun s=>decide (s≠[])) (fun x s=>{x with of:=s}) y).2.cells,.dead,.dead]:=fun y aS=>AP y uE _ 0 _ _ aS.1 (by decide) (fun s _ b=>zjp s y b);have Xz:∀(y:bx),y.iG->cB prog 231 [.box y.cells,.x (.one (.str K6)),.cr 234 [.inr (0,0+1000000)]] (.x (.one (.bool (DK y).1))) [.box (DK y).2.cells,.dead,.dead]:=fun y aS=>AP y K6 _ 0 _ _ aS.1 (by decide) (fun s _ b=>zjr s y b);have XA:∀(y:bx),y.iG->cB prog 231 [.box y.cells,.x (.one (.str K7)),.cr 235 [.inr (0,0+1000000)]] (.x (.one (.bool (DL lL lM y).1))) [.box (DL lL lM y).2.cells,.dead,.dead]:=fun y aS=>AP y K7 _ 0 _ _ aS.1 (by decide) (fun s _ b=>zjs lL lM hA s y b);have XB:∀(y:bx),y.ok->cB prog 231 [.box y.cells,.x (.one (.str lN)),.cr 238 [.inr (0,0+1000000)]] (.x (.one (.bool (DN y).1))) [.box (DN y).2.cells,.dead,.dead]:=fun y aS=>AP y lN _ 0 _ _ aS (by decide) (fun s _ b=>zjt s y b);have XC:∀(y:bx),y.ok->cB prog 231 [.box y.cells,.x (.one (.str K9)),.cr 239 [.inr (0,0+1000000)]] (.x (.one (.bool (DO y).1))) [.box (DO y).2.cells,.dead,.dead]:=fun y aS=>AP y K9 _ 0 _ _ aS (by decide) (fun s _ b=>zjv s y b);have zjA:=fun (y:bx) (aS:y.iG)=>Xv y uE aS.1 (by decide);have zjB:∀(w:List UInt8) (y:bx),y.iG->(n_ w y).2.iG:=fun w y aS=>⟨Qr aS.1 w,by rw[zjw];exact aS.2⟩
 have iG:∀(w:List UInt8) (y:bx),y.ok->(n_ w y).2.ok:=fun w y aS=>Qr aS w;have K':∀y:bx,y.iG->(Hc y).2.iG:=fun y aS=>⟨yp aS.1 _ _ _ fun s=>⟨rfl,rfl⟩,(Hd y _ _ _ fun s=>rfl).trans aS.2⟩
 have Qs:∀y:bx,y.iG->(lO uE (fun s=>decide (s≠[])) (fun x s=>{x with of:=s}) y).2.iG:=fun y aS=>⟨yp aS.1 _ _ _ fun s=>⟨rfl,rfl⟩,(Hd y _ _ _ fun s=>rfl).trans aS.2⟩
 have XD:∀y:bx,y.iG->(DK y).2.iG:=fun y aS=>⟨yp aS.1 _ _ _ fun s=>⟨rfl,rfl⟩,(Hd y _ _ _ fun s=>rfl).trans aS.2⟩
 have XE:∀y:bx,y.iG->(DL lL lM y).2.iG:=fun y aS=>⟨yp aS.1 _ _ _ fun s=>⟨rfl,rfl⟩,(Hd y _ _ _ fun s=>rfl).trans aS.2⟩
 have XF:∀y:bx,y.iG->(DM y).2.iG:=fun y aS=>⟨yp aS.1 _ _ _ fun s=>⟨rfl,rfl⟩,(Hd y _ _ _ fun s=>rfl).trans aS.2⟩
 have XG:∀y:bx,y.ok->(DN y).2.ok:=fun y aS=>yp aS _ _ _ fun s=>by split<;>exact⟨rfl,rfl⟩
 have XH:∀y:bx,y.ok->(DO y).2.ok:=fun y aS=>yp aS _ _ _ fun s=>⟨rfl,rfl⟩
 unfold Qq K5 uE K6 K7 K8 lN K9 at*;obtain⟨R,aR⟩:∃R,R=rm lL lM ah x:=⟨_,rfl⟩
 rw[<-aR];unfold rm K_ at aR;unfold Qq uE at aR;refine @cB.of _ (xM [(2,[1,0,1,1,1,1,1,1,1,1,2,0,1,1]),(6,[1,1,0,1,1,1,0,1,1,1,1,1,1,1,1,2,0,1,1,1,0,1,1,1,1,0,1,1,1,1,0,1,1,1,0,1,1])]) _ _ _ _ _ _ mixed (fn:=f181) (by kernel_rfl) (by kernel_rfl) rfl (by kernel_rfl) (by kernel_rfl) rfl (by simp[f181]) (fun aE=>?_);simp-implicitDefEqProofs;have bA:=kw [75,69,80,84,47,49] x aj.1;have gz:=zjB [75,69,80,84,47,49] x aj;generalize n_ [75,69,80,84,47,49] x=gm at bA gz aR;obtain⟨zjC,cA⟩:=gm;dsimp only at bA gz;refine gg.of bA ?_;cases zjC
 ·rw[n9]at aR;subst aR;simp-implicitDefEqProofs
 rw[nj]at aR;simp-implicitDefEqProofs;have c2:=zjy cA gz;have e4:=K' cA gz;generalize Hc cA=iK at c2 e4 aR;obtain⟨zjD,db⟩:=iK;dsimp only at c2 e4;refine xT.of Qp ?_;simp-implicitDefEqProofs;refine gg.of c2 ?_;cases zjD
 ·rw[n9]at aR;subst aR;simp-implicitDefEqProofs
 rw[nj]at aR;simp-implicitDefEqProofs;have c3:=zjA db e4;generalize p7 db [111,102]=I at c3 aR;refine gg.of c3 ?_;cases I
 ·rw[au (by decide),nj]at aR;simp-implicitDefEqProofs;have c4:=Xz db e4;have wm:=XD db e4;generalize DK db=Da at c4 wm aR;obtain⟨Qt,lE⟩:=Da;dsimp only at c4 wm;refine gg.of c4 ?_;cases Qt
  ·rw[n9]at aR;subst aR;simp-implicitDefEqProofs
  rw[nj]at aR;simp-implicitDefEqProofs;have c5:=XA lE wm;have wo:=XE lE wm;generalize DL lL lM lE=Db at c5 wo aR;obtain⟨Qu,AQ⟩:=Db;dsimp only at c5 wo;refine gg.of c5 ?_;cases Qu
  ·rw[n9]at aR;subst aR;simp-implicitDefEqProofs
  rw[nj]at aR;simp-implicitDefEqProofs;have jg:=Xy AQ wo;have AR:=XF AQ wo;generalize DM AQ=lH at jg AR aR;obtain⟨Qv,p_⟩:=lH;dsimp only at jg AR;refine xT.of Qp ?_;simp-implicitDefEqProofs;refine gg.of jg ?_;cases Qv
  ·rw[n9]at aR;subst aR;simp-implicitDefEqProofs
  rw[nj]at aR;simp-implicitDefEqProofs;obtain⟨AS,wq⟩:=DP p_ AR;generalize ah p_=He at AS wq aR;obtain⟨Qw,n'⟩:=He;dsimp only at AS wq;refine gg.of AS ?_;cases Qw
  ·rw[n9]at aR;subst aR;simp-implicitDefEqProofs
  rw[nj]at aR;simp-implicitDefEqProofs;have AT:=XB n' wq;have wt:=XG n' wq;generalize DN n'=Qx at AT wt aR;obtain⟨Qy,AU⟩:=Qx;dsimp only at AT wt;refine gg.of AT ?_;cases Qy
  ·rw[n9]at aR;subst aR;simp-implicitDefEqProofs
  rw[nj]at aR;simp-implicitDefEqProofs;have c9:=XC AU wt;have wu:=XH AU wt;generalize DO AU=Qz at c9 wu aR;obtain⟨QA,AV⟩:=Qz;dsimp only at c9 wu;refine gg.of c9 ?_;cases QA
  ·rw[n9]at aR;subst aR;simp-implicitDefEqProofs
  rw[nj]at aR;simp-implicitDefEqProofs;have AW:=kw [] AV wu;have Hf:=iG [] AV wu;generalize n_ [] AV=QB at AW Hf aR;obtain⟨zjE,zjF⟩:=QB;dsimp only at AW Hf;refine gg.of AW ?_;subst aR;simp-implicitDefEqProofs
 ·rw[aC rfl]at aR;simp-implicitDefEqProofs;have c3:=zjz db e4;have La:=Qs db e4;generalize lO [111,102] (fun s=>decide (s≠[])) (fun x s=>{x with of:=s}) db=C' at c3 La aR;obtain⟨zjG,lD⟩:=C';dsimp only at c3 La;refine gg.of c3 ?_;cases zjG
  ·rw[n9]at aR;subst aR;simp-implicitDefEqProofs
  rw[nj]at aR;simp-implicitDefEqProofs;have c4:=Xz lD La;have wm:=XD lD La;generalize DK lD=Da at c4 wm aR;obtain⟨Qt,lE⟩:=Da;dsimp only at c4 wm;refine gg.of c4 ?_;cases Qt
  ·rw[n9]at aR;subst aR;simp-implicitDefEqProofs
  rw[nj]at aR;simp-implicitDefEqProofs;have c5:=XA lE wm;have wo:=XE lE wm;generalize DL lL lM lE=Db at c5 wo aR;obtain⟨Qu,AQ⟩:=Db;dsimp only at c5 wo;refine gg.of c5 ?_;cases Qu
  ·rw[n9]at aR;subst aR;simp-implicitDefEqProofs
  rw[nj]at aR;simp-implicitDefEqProofs;have jg:=Xy AQ wo;have AR:=XF AQ wo;generalize DM AQ=lH at jg AR aR;obtain⟨Qv,p_⟩:=lH;dsimp only at jg AR;refine xT.of Qp ?_;simp-implicitDefEqProofs;refine gg.of jg ?_;cases Qv
  ·rw[n9]at aR;subst aR;simp-implicitDefEqProofs
  rw[nj]at aR;simp-implicitDefEqProofs;obtain⟨AS,wq⟩:=DP p_ AR;generalize ah p_=He at AS wq aR;obtain⟨Qw,n'⟩:=He;dsimp only at AS wq;refine gg.of AS ?_;cases Qw
  ·rw[n9]at aR;subst aR;simp-implicitDefEqProofs
  rw[nj]at aR;simp-implicitDefEqProofs;have AT:=XB n' wq;have wt:=XG n' wq;generalize DN n'=Qx at AT wt aR;obtain⟨Qy,AU⟩:=Qx;dsimp only at AT wt;refine gg.of AT ?_;cases Qy
  ·rw[n9]at aR;subst aR;simp-implicitDefEqProofs
  rw[nj]at aR;simp-implicitDefEqProofs;have c9:=XC AU wt;have wu:=XH AU wt;generalize DO AU=Qz at c9 wu aR;obtain⟨QA,AV⟩:=Qz;dsimp only at c9 wu;refine gg.of c9 ?_;cases QA
  ·rw[n9]at aR;subst aR;simp-implicitDefEqProofs
  rw[nj]at aR;simp-implicitDefEqProofs;have AW:=kw [] AV wu;have Hf:=iG [] AV wu;generalize n_ [] AV=QB at AW Hf aR;obtain⟨zjE,zjF⟩:=QB;dsimp only at AW Hf;refine gg.of AW ?_;subst aR;simp-implicitDefEqProofs
end Go.Proofs.YtaalfcghmjkaeaaGreatDoor
namespace Go.Proofs.YtaalfcghmjkaeaaGreatDoor
open Go Go.Proofs.Tryz
set_option maxRecDepth 100000
def ziU:Go.Shelf.Ren:=⟨iF [(145,90),(217,222),(219,209),(220,154),(224,224),(225,225),(266,273),(267,258),(314,286)],iF [(3,3),(4,4),(5,5),(9,9),(46,180),(51,242),(59,181),(146,344)],iF [(1,0)]⟩
def ziV:Go.Proofs.Lays.n145 prog ziU where
 mixed:=by kernel_rfl
 f145:=bJ func90
 f217:=bJ func222
 f219:=bJ func209
 f220:=bJ func154
 f224:=bJ func224
 f225:=bJ func225
 f266:=bJ func273
 f267:=bJ func258
 f314:=bJ func286
 t3:=underlying3
 a3:=isAgg3
 z3:=sizeOf3
 v3:=zeroValue3
 t4:=underlying4
 a4:=isAgg4
 z4:=sizeOf4
 v4:=zeroValue4
 t5:=underlying5
 a5:=isAgg5
 z5:=sizeOf5
 v5:=zeroValue5
 t9:=underlying9
 a9:=isAgg9
 z9:=sizeOf9
 v9:=zeroValue9
 t46:=underlying180
 a46:=isAgg180
 z46:=sizeOf180
 v46:=zeroValue180
 t51:=underlying242
 a51:=isAgg242
 z51:=sizeOf242
 v51:=zeroValue242
 t59:=underlying181
 a59:=isAgg181
 z59:=sizeOf181
 v59:=zeroValue181
 t146:=underlying344
 a146:=isAgg344
 z146:=sizeOf344
 v146:=zeroValue344
 g1:=by kernel_rfl
end Go.Proofs.YtaalfcghmjkaeaaGreatDoor
namespace Go.Proofs.YtaalfcghmjkaeaaGreatDoor
open Go Go.Ab Go.Proofs.Tryz Go.IntKind
class ee[bf](g:Nat):Prop where
 int:∀w,bf.holds w->∃m,w.cell? ⟨g,0,none⟩=some (.int .i64 m)
variable [bf][ee 0]
set_option maxRecDepth 100000
set_option maxHeartbeats 4000000
def C1{f:FuncId}{args:List az}{r:bw}(vs:List Value)(ao:r6 prog f)(bj:vR args=some vs)(ae:∀v,r.ha v=none)
  (h:(∀x∈args,x.ok)->∀w,bf.holds w->Calls prog f vs.toArray w fun e w'=>∃v,e=.returned v/\RowKit.Below w.heap.size w w'/\∀S,iy w' S r v):aD prog f args r:=by
 refine⟨ao,fun w S us bW fJ=>?_⟩;have e:us=vs.toArray:=by have:=Gb (us:=us.toList) (by rw[iZ];exact fJ.1) (fun j x ac=>by simpa using fJ.2 j x ac) bj;rw[<-this]
 have aE:=O6 fJ;subst e;refine(h aE w bW.wR).mono ?_;rintro e w' ⟨v,rfl,r5,an⟩;exact⟨v,rfl,r5,an _,fun b et=>by rw[ae]at et;cases et⟩
def zjH(s:List UInt8)(ap:s.length<=16777216):aD prog 90 [.one (.str s),.one (.str colonS)] (.b2 [.one (.str (Lib.cut s colonS).1),.one (.str (Lib.cut s colonS).2.1),.one (.bool (Lib.cut s colonS).2.2)]):=by
 refine C1 [.string ⟨s.toArray⟩,.string ⟨colonS.toArray⟩] (nc f90 (by kernel_rfl) (by kernel_rfl) rfl) rfl (fun _=>rfl) (fun _ w hw=>?_);obtain⟨m,hm⟩:=ee.int (g:=0) w hw;refine(Any.strings_Cut ziV ⟨s.toArray⟩ ⟨colonS.toArray⟩ m w (by simp only[ByteArray.size,lS];omega) hm).mono ?_;rintro e w' ⟨rfl,n,rfl⟩;have aa:(Lib.cut s colonS).1.length<=maxLen/\(Lib.cut s colonS).2.1.length<=maxLen:=by unfold Lib.cut;split<;>(unfold maxLen;simp;try omega)
 refine⟨_,rfl,⟨rfl,rfl,rfl,eG _,fun k _=>rfl⟩,fun S=>⟨_,rfl,rfl,fun j x ac=>?_⟩⟩
 match j,ac with
 |0,ac=>cases ac;exact⟨_,rfl,bn.str _ aa.1⟩
 |1,ac=>cases ac;exact⟨_,rfl,bn.str _ aa.2⟩
 |2,ac=>cases ac;exact⟨_,rfl,bn.bool _⟩
 |j+3,ac=>simp at ac
def zjI(s:List UInt8)(c:UInt8):aD prog 252 [.one (.str s),.one (.str [c])] (.x (.one (.int .i64 (if c∈s then ((cu c s).length:Int)else -1)))):=by refine aD.a6 f252 mixed fun aE=>?_;simp-implicitDefEqProofs;refine aA.of (XI s c) ?_;simp-implicitDefEqProofs
def zjJ(s:List UInt8)(c:UInt8):aD prog 250 [.one (.str s),.one (.str [c])] (.x (.one (.bool (decide (c∈s))))):=by
 refine aD.a6 f250 mixed fun aE=>?_;simp-implicitDefEqProofs;refine aA.of (zjI s c) ?_;by_cases h:c∈s
 ·simp-implicitDefEqProofs[h]
 ·simp-implicitDefEqProofs[h]
def yq(s:List UInt8):Option Head:=if (Lib.cut s colonS).2.2=true/\(Lib.cut s colonS).1≠[]/\58∉(Lib.cut s colonS).1 then some ⟨(Lib.cut s colonS).1,(Lib.cut s colonS).2.1⟩else none
def headD(s:List UInt8):Head:=(yq s).getD ⟨[],[]⟩
def XJ(s:List UInt8)(ap:s.length<=16777216):aD prog 192 [.one (.str s)] (.b2 [.agg (headD s).row,.one (.bool (yq s).isSome)]):=by
 have k:=zjH s ap;have aP:=zjJ (Lib.cut s colonS).1 58;unfold headD yq;generalize Lib.cut s colonS=T at*;obtain⟨n,v,b⟩:=T;dsimp only at*;unfold colonS at k;refine aD.a6 f192 mixed fun aE=>?_;simp-implicitDefEqProofs;refine aA.of k ?_;cases b
 ·simp-implicitDefEqProofs;refine bp.of (fun h=>by cases h) (r:=.x (.one (.bool false))) rfl ?_;simp-implicitDefEqProofs[Head.row]
 ·cases n with
  |nil=>simp-implicitDefEqProofs;refine bp.of (fun h=>by cases h) (r:=.x (.one (.bool false))) rfl ?_;simp-implicitDefEqProofs[Head.row]
  |cons c r=>
   simp-implicitDefEqProofs;refine bp.of (fun _=>aP) rfl ?_;by_cases h:(58:UInt8)∈c::r
   ·have ax:decide ((58:UInt8)∈c::r)=true:=by simpa using h
    rw[ax,au (by simp[h])];simp-implicitDefEqProofs[Head.row]
   ·have ax:decide ((58:UInt8)∈c::r)=false:=by simpa using h
    rw[ax,aC ⟨rfl,by simp,h⟩];simp-implicitDefEqProofs[Head.row]
def rn:Nat->bx->Bool×bx
 |0,x=>(false,x)
 |n+1,x=>if p7 x lN=true then (true,x)else if kB x.b x.at_=true/\(yq (fx x.b x.at_)).isSome=true then rn n {x with bd:=x.bd++[headD (fx x.b x.at_)],at_:=gX x.b x.at_} else (false,x)
def o8(x:bx):Bool×bx:=rn (x.b.length+1) x
def DQ{b:List UInt8}{a:Nat}(h:kB b a=true):a<gX b a:=by
 unfold kB at h;unfold gX;cases e:j5 (b.drop a)with
 |none=>rw[e]at h;cases h
 |some l=>simp only;omega
def XK:∀(n m:Nat) (y:bx),y.ok->y.b.length<n+y.at_->y.b.length<m+y.at_->rn n y=rn m y
 |0,_,y,h,aa,_=>by have:=h.2;omega
 |_+1,0,y,h,_,ab=>by have:=h.2;omega
 |n+1,m+1,y,h,aa,ab=>by
  unfold rn;split
  ·rfl
  ·split
   ·rename_i ao;have aB:=DQ ao.1;exact XK n m _ ⟨h.1,o6 h.2⟩ (by simp only;omega) (by simp only;omega)
   ·rfl
def XL:∀(n:Nat) (y:bx),y.ok->(rn n y).2.ok
 |0,y,h=>h
 |n+1,y,h=>by
  unfold rn;split
  ·exact h
  ·split
   ·exact XL n _ ⟨h.1,o6 h.2⟩
   ·exact h
def zjK{y:bx}(h:y.ok):o8 y=if p7 y lN=true then (true,y)else if kB y.b y.at_=true/\(yq (fx y.b y.at_)).isSome=true then o8 {y with bd:=y.bd++[headD (fx y.b y.at_)],at_:=gX y.b y.at_} else (false,y):=by
 conv=>lhs;unfold o8 rn
 split
 ·rfl
 ·split
  ·rename_i ao;have aB:=DQ ao.1;exact XK _ _ _ ⟨h.1,o6 h.2⟩ (by simp only;omega) (by simp only;omega)
  ·rfl
def zjL(x:bx)(w:List UInt8)(aj:x.ok)(hw:w.length<=100):aD prog 232 [.one (.ref x.cells),.one (.str w)] (.x (.one (.bool (p7 x w)))):=by
 obtain⟨M,o3⟩:∃M,M=min x.b.length (x.at_+w.length+2):=⟨_,rfl⟩
 have k:=strings_HasPrefix ((x.b.drop x.at_).take (M-x.at_)) (w++colonS);rw[zjn x w aj M o3]at k;generalize p7 x w=B at k;have ab:=aj.2;have aa:=aj.1;have ic:i64.wrap ((x.at_:Int)+(w.length:Int))=(x.at_:Int)+(w.length:Int):=bk _ (by omega);have sm:i64.wrap ((x.at_:Int)+(w.length:Int)+2)=(x.at_:Int)+(w.length:Int)+2:=bk _ (by omega);have Qm:min (x.b.length:Int) ((x.at_:Int)+(w.length:Int)+2)=(M:Int):=by omega
 have ki:cutAt (bL x.b) (x.at_:Int) (M:Int)=bL ((x.b.drop x.at_).take (M-x.at_)):=G9 (by omega);unfold bx.cells at*;refine aD.a6 f232 mixed fun aE=>?_;simp-implicitDefEqProofs[ic,sm,Qm,ki];refine⟨by omega,by unfold maxLen;omega,aA.of k ?_⟩;simp-implicitDefEqProofs
def Hg(y:bx):List (Nat×ad):=match y.bd with
 |[]=>[(0,.box [dj y.b,.int .i64 y.at_,.int .i64 y.kind,.str y.id,.str y.of,.int .i64 y.time,.str y.key,.nil,.nil,.int .i64 y.length,.str y.hX]),(999999,.res [(0,7)])]
 |h::r=>[(0,.box [dj y.b,.int .i64 y.at_,.int .i64 y.kind,.str y.id,.str y.of,.int .i64 y.time,.str y.key,.any,.nil,.int .i64 y.length,.str y.hX]),(44,.own 212 2 ((h::r).map Head.row)),(1000007,.link 0 7 44),(999999,.res [(0,7)])]
def zjM(x:bx)(aj:x.iG):cB prog 237 [.box x.cells] (.x (.one (.bool (o8 x).1))) [.box (o8 x).2.cells]:=by
 obtain⟨R,aR⟩:∃R,R=o8 x:=⟨_,rfl⟩
 rw[<-aR];obtain⟨zjN,zjO⟩:=R;dsimp only;have ao:x.cells=[dj x.b,.int .i64 x.at_,.int .i64 x.kind,.str x.id,.str x.of,.int .i64 x.time,.str x.key,.nil,.nil,.int .i64 x.length,.str x.hX]:=by unfold bx.cells rl;rw[aC aj.2]
 rw[ao];refine @cB.J8 _ (xM [(6,[6,6,1,1,1,1,1,1,1,4,6,1,1,1,5,1,1,0])]) [(0,7)] [(0,7)] _ _ _ _ _ _ (by simp) mixed (fn:=f237) (by kernel_rfl) (by kernel_rfl) rfl (by kernel_rfl) (by kernel_rfl) rfl (by simp[f237]) (fun aE=>?_);simp-implicitDefEqProofs;refine cI.of bx Hg (fun y=>(y.ok/\y.bd.length<=y.at_)/\(zjN,zjO)=o8 y) (fun y=>y.b.length-y.at_) x ⟨⟨aj.1,by rw[aj.2];simp⟩,aR⟩ ?_ ?_
 ·unfold Hg;rw[aj.2];simp
 rintro y ⟨⟨aS,zIX⟩,ah⟩;rw[zjK aS]at ah;have aF:=Xv y lN aS (by decide);have ro:=zjL y lN aS (by decide);have aP:=G_ y.b y.at_ aS.1 aS.2;have a7:=XJ (fx y.b y.at_) (by have:=Ql y.b y.at_;have:=aS.1;omega);have yr:=DQ (b:=y.b) (a:=y.at_);have aE:∀l:List Head,({y with bd:=l,at_:=gX y.b y.at_}:bx).ok:=fun l=>⟨aS.1,o6 aS.2⟩
 have hle:=o6 aS.2;unfold lN at aF ro ah;unfold bx.cells at aF ro;generalize p7 y [108,101,110,103,116,104]=I at ah aF ro;generalize fx y.b y.at_=S at*;generalize gX y.b y.at_=N at*;generalize kB y.b y.at_=L at*;have bm:(headD S).row=[.str (headD S).name,.str (headD S).value]:=rfl;generalize headD S=H at*;generalize (yq S).isSome=Q at*;unfold Hg;cases a1:y.bd with
 |nil=>
  dsimp only;have sg:rl y.bd=.nil:=by rw[a1];rfl
  rw[sg]at aF;simp-implicitDefEqProofs;refine gg.of aF ?_;cases I
  ·rw[au (by decide)]at ah;simp-implicitDefEqProofs;refine aA.of aP ?_;simp-implicitDefEqProofs;refine aA.of a7 ?_;cases L
   ·rw[au (by simp)]at ah;obtain⟨rfl,rfl⟩:=DR ah;simp-implicitDefEqProofs[bm];unfold bx.cells;rw[sg]
   ·cases Q
    ·rw[au (by simp)]at ah;obtain⟨rfl,rfl⟩:=DR ah;simp-implicitDefEqProofs[bm];unfold bx.cells;rw[sg]
    ·rw[aC ⟨rfl,rfl⟩]at ah;simp-implicitDefEqProofs[bF,bm];exact bI.of {y with bd:=y.bd++[H],at_:=N} ⟨⟨aE _,by have:=yr rfl;simp only[a1,nt,rT];omega⟩,ah⟩ (by have:=yr rfl;have:=aS.2;simp only;omega) (by simp[a1,Head.row])
  ·rw[aC rfl]at ah;obtain⟨rfl,rfl⟩:=DR ah;simp-implicitDefEqProofs;unfold bx.cells;rw[sg]
 |cons h r=>
  dsimp only;have sg:rl y.bd=.list 2 ((h::r).map Head.row):=by rw[a1];rfl
  rw[sg]at ro;simp-implicitDefEqProofs;refine aA.of ro ?_;cases I
  ·rw[au (by decide)]at ah;simp-implicitDefEqProofs;refine aA.of aP ?_;simp-implicitDefEqProofs;refine aA.of a7 ?_;cases L
   ·rw[au (by simp)]at ah;obtain⟨rfl,rfl⟩:=DR ah;simp-implicitDefEqProofs[bm];unfold bx.cells;rw[sg];rfl
   ·cases Q
    ·rw[au (by simp)]at ah;obtain⟨rfl,rfl⟩:=DR ah;simp-implicitDefEqProofs[bm];unfold bx.cells;rw[sg];rfl
    ·rw[aC ⟨rfl,rfl⟩]at ah;simp-implicitDefEqProofs[bF,bm];have hlen:y.bd.length=r.length+1:=by rw[a1];rfl
     have Ax:=aS.1;have zIY:=aS.2;refine⟨⟨by omega,by unfold maxLen;omega⟩,?_⟩;exact bI.of {y with bd:=y.bd++[H],at_:=N} ⟨⟨aE _,by have:=yr rfl;simp only[eE,rT];omega⟩,ah⟩ (by have:=yr rfl;simp only;omega) (by simp[a1,Head.row])
  ·rw[aC rfl]at ah;obtain⟨rfl,rfl⟩:=DR ah;simp-implicitDefEqProofs;unfold bx.cells;rw[sg];rfl
end Go.Proofs.YtaalfcghmjkaeaaGreatDoor
namespace Go.Proofs.YtaalfcghmjkaeaaGreatDoor
open Go Go.Ab Go.Proofs.Tryz Go.IntKind
variable [bf]
set_option maxRecDepth 100000
set_option maxHeartbeats 4000000
def AX(n:Int)(c:UInt8):Int:=u64.wrap (bitsOf .xor .u64 n c.toNat*1099511628211)
def s9(b:List UInt8):Int:=b.foldl AX 14695981039346656037
def XR(b:List UInt8)(c:UInt8):s9 (b++[c])=AX (s9 b) c:=by simp[s9]
def zko(n:Int)(c:UInt8):0<=AX n c/\AX n c<18446744073709551616:=by unfold AX;generalize bitsOf .xor .u64 n c.toNat*1099511628211=z;simp only[IntKind.wrap,IntKind.signed,IntKind.bits];simp only[kq,kg,h6];omega
def zkp(b:List UInt8):0<=s9 b/\s9 b<18446744073709551616:=by
 rcases List.eq_nil_or_concat b with rfl|⟨r,c,rfl⟩
 ·decide
 ·rw[List.concat_eq_append,XR];exact zko _ _
def zkq(c:UInt8):u64.wrap (c.toNat:Int)=(c.toNat:Int):=by have:=c.toNat_lt;simp only[IntKind.wrap,IntKind.signed,IntKind.bits];simp only[kq,kg,h6];omega
def zkr(b:List UInt8)(ae:b.length<=4611686018427387904):aD prog 242 [.one (dj b)] (.x (.one (.int .u64 (s9 b)))):=by
 refine aD.a6 f242 mixed fun aE=>?_;simp-implicitDefEqProofs;have ah:=j4 b;refine cI.of Nat (fun i=>[(0,.x (.one (dj b))),(3,.x (.one (.int .u64 (s9 (b.take i))))),(6,.x (.one (.int .i64 b.length))),(7,.x (.one (.int .i64 i)))]) (fun i=>i<=b.length) (fun i=>b.length-i) 0 (cd _) ?_ ?_
 ·simp[s9]
 intro i ai;by_cases aq:i<b.length
 ·have aO:((i:Int)<(b.length:Int))=True:=aL (by omega);have bG:i64.wrap ((i:Int)+1)=(i:Int)+1:=bk _ (by omega);have bO:∀h,(bL b)[i]'h=g_ b[i]:=fun h=>by rw[Kl]
  have b3:s9 (b.take (i+1))=AX (s9 (b.take i)) b[i]:=by rw[nF aq,XR]
  have Od:=zkq b[i];simp-implicitDefEqProofs[aq,aO,ah,bO,Od];refine bI.of (i+1) aq (by omega) ?_;simp[b3,bG,AX]
 ·have aO:((i:Int)<(b.length:Int))=False:=aV (by omega);have eN:i=b.length:=by omega
  subst eN;simp-implicitDefEqProofs[aO]
def Lb(n:Int):UInt8:=([48,49,50,51,52,53,54,55,56,57,97,98,99,100,101,102]:List UInt8).getD n.toNat 0
def mv:Nat->Int->List UInt8
 |0,_=>[]
 |k+1,n=>Lb (n/16^k%16)::mv k n
def QF(k:Nat)(n:Int):(mv k n).length=k:=by
 induction k with
 |zero=>rfl
 |succ k aX=>simp[mv,aX]
def zks(m:Int)(aW:0<=m)(aa:m<18446744073709551616):bitsOf .and .u64 m 15=m%16:=by
 obtain⟨M,rfl⟩:∃M:Nat,m=M:=⟨m.toNat,by omega⟩
 have ho:M<2^64:=by omega
 have e:(BitVec.ofInt 64 (M:Int) &&& BitVec.ofInt 64 15).toNat=M%16:=by
  have aI:(BitVec.ofInt 64 (15:Int)).toNat=2^4-1:=by decide
  rw[BitVec.toNat_and,aI,BitVec.ofInt_natCast,BitVec.toNat_ofNat,ER ho,Nat.and_two_pow_sub_one_eq_mod]
 show u64.wrap ((BitVec.ofInt 64 (M:Int) &&& BitVec.ofInt 64 15).toNat:Int)=_;rw[e];have:=Nat.mod_lt M (show 16 > 0 by decide);simp only[IntKind.wrap,IntKind.signed,IntKind.bits,kq,kg,h6];omega
def zkt(n:Int)(aW:0<=n)(i:Nat):0<=n/16^i/\n/16^i<=n/\n/16^(i+1)=(n/16^i)/16:=by have ak:(0:Int)<16^i:=Int.pow_pos (by decide);refine⟨Int.ediv_nonneg aW (by omega),Int.ediv_le_self _ aW,?_⟩;rw[Int.pow_succ,Int.ediv_ediv,au (by omega)];omega
def zku(n:Int)(aW:0<=n)(aa:n<18446744073709551616):aD prog 241 [.one (.int .u64 n)] (.x (.one (.str (mv 16 n)))):=by
 refine aD.a6 f241 mixed fun aE=>?_;simp-implicitDefEqProofs;refine cI.of Nat (fun i=>[(0,.x (.one (.int .u64 (n/16^i)))),(3,.own 5 1 (bL (List.replicate (16-i) 0++mv i n))),(7,.x (.one (.int .i64 16))),(8,.x (.one (.int .i64 i)))]) (fun i=>i<=16) (fun i=>16-i) 0 (cd _) ?_ ?_
 ·simp[mv,bL,g_]
 intro i ai;by_cases aq:i<16
 ·have aO:((i:Int)<16)=True:=aL (by omega);have bG:i64.wrap ((i:Int)+1)=(i:Int)+1:=bk _ (by omega);have K1:i64.wrap (15-(i:Int))=((15-i:Nat):Int):=by rw[show (15:Int)-i=((15-i:Nat):Int) by omega];exact bk _ (by omega)
  obtain⟨d0,d1,d2⟩:=zkt n aW i;have hand:=zks (n/16^i) d0 (by omega);have al:=QF i n;obtain⟨D,we⟩:∃D,D=n/16^i%16:=⟨_,rfl⟩
  have zkv:(0<=D)=True:=aL (by omega);have zkw:(D<16)=True:=aL (by omega);have b3:mv (i+1) n=Lb D::mv i n:=by rw[we];rfl
  rw[<-we]at hand;have dA:(bL (List.replicate (16-i) 0++mv i n)).length=16:=by simp[bL,al];omega
  have nC:15-i<16:=by omega
  have pY:(((15-i:Nat):Int)<16)=True:=aL (by omega);have zkx:D.toNat<16:=by omega
  obtain⟨C,XS⟩:∃C,C=Lb D:=⟨_,rfl⟩
  have gQ:([48,49,50,51,52,53,54,55,56,57,97,98,99,100,101,102]:List UInt8)[D.toNat]?=some C:=by rw[XS];unfold Lb;rw[jQ,cn (by simpa using zkx)];rfl
  have zky:∀h,([48,49,50,51,52,53,54,55,56,57,97,98,99,100,101,102]:List UInt8)[D.toNat]'h=C:=fun h=>by have:=cn h;rw[this]at gQ;injection gQ
  have l8:bL (List.replicate (15-i) 0++C::mv i n)=(bL (List.replicate (16-i) 0++mv i n)).set (15-i) (g_ C):=by rw[J3];congr 1;rw[show 16-i=(15-i)+1 by omega,List.replicate_succ',pg,List.set_append_right _ _ (by simp)];simp
  have bO:∀h,(bL (List.replicate (16-i) 0++mv i n))[15-i]'h=g_ ((List.replicate (16-i) 0++mv i n)[15-i]'(by simpa[bL]using h)):=fun h=>by rw[Kl]
  have mJ:(n/16^i).fdiv 16=n/16^(i+1):=by rw[d2,PH _ (by decide)]
  simp-implicitDefEqProofs[aO,K1,hand,zkv,zkw,dA,nC,pY,bO,zky,g_];refine bI.of (i+1) aq (by omega) ?_;rw[<-XS]at b3;simp[b3,bG,l8,g_,IntKind.bits,mJ,show 16-(i+1)=15-i by omega]
 ·have aO:((i:Int)<16)=False:=aV (by omega);have eN:i=16:=by omega
  subst eN;have JB:=Dg (mv 16 n);have oH:=Df (mv 16 n);have al:=QF 16 n;have dA:(bL (mv 16 n)).length=16:=by simp[bL,al]
  simp-implicitDefEqProofs[JB,oH]
def wv(b:List UInt8):List UInt8:=mv 16 (s9 b)
def zkz(b:List UInt8):(wv b).length=16:=QF _ _
def QG(b:List UInt8)(ae:b.length<=4611686018427387904):aD prog 182 [.one (dj b)] (.x (.one (.str (wv b)))):=by refine aD.a6 f182 mixed fun aE=>?_;simp-implicitDefEqProofs;refine aA.of (zkr b ae) ?_;obtain⟨aW,aa⟩:=zkp b;simp-implicitDefEqProofs;refine aA.of (zku _ aW aa) ?_;simp-implicitDefEqProofs[wv]
def zkA(l:List UInt8)(ae:l.length<=16777216):aD prog 123 [.one (dj l)] (.x (.one (dj l))):=by
 cases l with
 |nil=>
  refine aD.O9 (pre:=[]) (post:=[]) ?_ ?_
  ·refine aD.a6 f123 mixed fun aE=>?_;simp-implicitDefEqProofs +contextual[-Bool.and_eq_false_imp,bL]
  ·refine aD.a6 f123 mixed fun aE=>?_;simp-implicitDefEqProofs +contextual[-Bool.and_eq_false_imp,bL]
 |cons x r=>refine aD.a6 f123 mixed fun aE=>?_;simp-implicitDefEqProofs +contextual[-Bool.and_eq_false_imp,bL,g_];simp at ae;unfold maxLen;omega
def iX(w v:List UInt8):List UInt8:=w++[58,32]++v++[13,10]
def Lc(w v:List UInt8):(iX w v).length=w.length+v.length+4:=by simp[iX];omega
def zkB(w v:List UInt8)(xs:List (List af))(h:xs.length+(w.length+v.length+4)<=1099511627776):vr prog 184 [.x (.one (.str w)),.x (.one (.str v)),.box [.any]] [(5,1,xs)] [(2,0)] (.b2 []) [.dead,.dead,.box [.any]] [(5,1,xs++bL (iX w v))]:=by
 refine vr.of [(2,0)] (by simp) mixed (fn:=f184) (by kernel_rfl) (by kernel_rfl) rfl (by kernel_rfl) (by kernel_rfl) rfl (by simp[f184]) rfl rfl (fun _=>rfl) (fun g aE=>?_);have hw:iX w v=w++58::32::(v++[13,10]):=by simp[iX]
 simp-implicitDefEqProofs[bF,hw];unfold maxLen;omega
def o'(acc w v rR:List UInt8)(e:rR=acc++iX w v)(h:rR.length<=1099511627776):vr prog 184 [.x (.one (.str w)),.x (.one (.str v)),.box [.any]] [(5,1,bL acc)] [(2,0)] (.b2 []) [.dead,.dead,.box [.any]] [(5,1,bL rR)]:=by
 have al:rR.length=acc.length+(w.length+v.length+4):=by rw[e,eE,Lc]
 have k:=zkB w v (bL acc) (by rw[j4];omega);have:bL acc++bL (iX w v)=bL rR:=by rw[e];simp[bL]
 rw[this]at k;exact k
end Go.Proofs.YtaalfcghmjkaeaaGreatDoor
namespace Go.Proofs.YtaalfcghmjkaeaaGreatDoor
open Go Go.Ab Go.Proofs.Tryz Go.IntKind
variable [bf][cK prog]
set_option maxRecDepth 100000
set_option maxHeartbeats 4000000
structure Rec where
 kind:Int
 id:List UInt8
 of:List UInt8
 time:Int
 key:List UInt8
 bd:List Head
 block:List UInt8
def Rec.row(r:Rec):List af:=[.int .i64 r.kind,.str r.id,.str r.of,.int .i64 r.time,.str r.key,.list 2 (r.bd.map Head.row),dj r.block]
def QH:List UInt8:=[75,69,80,84,47,49,13,10]
def hZ(l:List Head):List UInt8:=l.flatMap fun h=>iX h.name h.value
def yt(k:Int):List UInt8:=p8.getD (k-1).toNat []
def uK(r:Rec):List UInt8:=QH++iX [105,100] r.id
def s_(r:Rec):List UInt8:=if r.of=[]then uK r else uK r++iX [111,102] r.of
def ta(r:Rec):List UInt8:=s_ r++iX [107,105,110,100] (yt r.kind)
def wx(r:Rec):List UInt8:=ta r++iX [100,97,116,101] (mr r.time)
def mw(r:Rec):List UInt8:=wx r++iX [107,101,121] r.key
def oa(r:Rec):List UInt8:=mw r++hZ r.bd
def wy(r:Rec):List UInt8:=oa r++iX [108,101,110,103,116,104] (Az r.block.length)
def tc(r:Rec):List UInt8:=wy r++iX [100,105,103,101,115,116] (wv r.block)
def qa(r:Rec):List UInt8:=tc r++([13,10]++(r.block++[13,10,13,10]))
def Rec.fits(r:Rec):Prop:=1<=r.kind/\r.kind<=5/\hV r.time=true/\(qa r).length<=1099511627776
def XT:∀l:List Head,l.length<=(hZ l).length
 |[]=>eG _
 |h::r=>by have:=XT r;unfold hZ at this⊢;simp only[List.flatMap_cons,eE,eg,Lc];omega
def zkC(r:Rec)(an:r.fits):aD prog 120 [.one .nil,.agg r.row] (.own 5 1 (bL (qa r))):=by
 obtain⟨Ap,v6,hm,hlen⟩:=an;have zJj:(tc r).length+r.block.length+6<=1099511627776:=by unfold qa at hlen;simp at hlen;omega
 have zJk:(wy r).length<=(tc r).length:=by unfold tc;simp
 have GC:(oa r).length<=(wy r).length:=by unfold wy;simp
 have q9:(mw r).length<=(oa r).length:=by unfold oa;simp
 have mn:(wx r).length<=(mw r).length:=by unfold mw;simp
 have lI:(ta r).length<=(wx r).length:=by unfold wx;simp
 have l2:(s_ r).length<=(ta r).length:=by unfold ta;simp
 have ec:(uK r).length<=(s_ r).length:=by unfold s_;split<;>simp
 refine @aD.J8 _ (Jx [3,5,6,8,9,13,15,16] [(6,[1,1,1,1,1,1,1,0]),(17,[1,4,7,7,0,0])]) [(2,0)] [] _ _ _ _ _ (by simp) mixed (fn:=f120) (by kernel_rfl) (by kernel_rfl) rfl (by kernel_rfl) (by simp[f120]) (fun aE=>?_);unfold Rec.row;simp-implicitDefEqProofs[bF];refine mh.of (o' QH [105,100] r.id (uK r) rfl (by omega)) ?_;intro g1;obtain⟨K,XU⟩:∃K:Nat,r.kind=(K:Int)+1:=⟨(r.kind-1).toNat,by omega⟩
 have zkD:K<5:=by omega
 have XV:i64.wrap (r.kind-1)=(K:Int):=by rw[XU,show (K:Int)+1-1=K by omega];exact bk _ (by omega)
 have XW:((K:Int)<(p8.length:Int))=True:=aL (by show (K:Int)<5;omega);have XX:p8[K]?=some (yt r.kind):=by unfold yt;rw[jQ,XU,show ((K:Int)+1-1).toNat=K by omega,cn (show K<p8.length from zkD)];rfl
 have zJl:r.bd.length<=1099511627776:=by
  have:=XT r.bd;have:(hZ r.bd).length<=(oa r).length:=by unfold oa;simp
  omega
 have xr:=zkn r.time;rw[aC hm,aC hm]at xr;by_cases aw:r.of=[]
 ·have b5:ta r=uK r++iX [107,105,110,100] (yt r.kind):=by unfold ta s_;rw[aC aw]
  have QI:(r.of=[])=True:=aL aw;simp-implicitDefEqProofs[bF,QI];refine aA.of Qn ?_;simp-implicitDefEqProofs[bF,XV,XW,XX];refine mh.of (o' (uK r) [107,105,110,100] (yt r.kind) (ta r) b5 (by omega)) ?_;intro g2;simp-implicitDefEqProofs;refine aA.of xr ?_;simp-implicitDefEqProofs[bF];refine mh.of (o' (ta r) [100,97,116,101] (mr r.time) (wx r) rfl (by omega)) ?_;intro g3;simp-implicitDefEqProofs[bF];refine mh.of (o' (wx r) [107,101,121] r.key (mw r) rfl (by omega)) ?_;intro g4;simp-implicitDefEqProofs;refine cI.of (Nat×Value) (fun x=>[(2,.box [.any]),(3,.box r.row),(5,.cr 184 [.inr (2,0)]),(12,.cT x.2 5 1 (bL (mw r++hZ (r.bd.take x.1)))),(46,.x (.one (.list 2 (r.bd.map Head.row)))),(47,.x (.one (.int .i64 r.bd.length))),(48,.x (.one (.int .i64 x.1))),(999999,.res [(2,0)]),(1002000,.link 2 0 12)])
   (fun x=>x.1<=r.bd.length) (fun x=>r.bd.length-x.1) (0,g4 0) (cd _) ?_ ?_
  ·simp[hZ,Rec.row]
  rintro⟨i,v⟩ ai;dsimp only at ai⊢;by_cases aq:i<r.bd.length
  ·have aO:((i:Int)<(r.bd.length:Int))=True:=aL (by omega);have bG:i64.wrap ((i:Int)+1)=(i:Int)+1:=bk _ (by omega);have bm:∀h:Head,h.row=[.str h.name,.str h.value]:=fun _=>rfl;have b3:hZ (r.bd.take (i+1))=hZ (r.bd.take i)++iX r.bd[i].name r.bd[i].value:=by
    unfold hZ;rw[nF aq,Ld];simp
   have un:(mw r++hZ (r.bd.take (i+1))).length<=(oa r).length:=by
    unfold oa hZ;have:(r.bd.take (i+1)).flatMap (fun h=>iX h.name h.value) <+: r.bd.flatMap (fun h=>iX h.name h.value):=by
     conv=>rhs;rw[<-uX (i+1) r.bd]
     rw[Ld];exact List.prefix_append _ _
    have:=this.length_le;simp only[eE];omega
   unfold Rec.row;simp-implicitDefEqProofs[bF,aq,aO,bm];refine mh.of (o' (mw r++hZ (r.bd.take i)) r.bd[i].name r.bd[i].value (mw r++hZ (r.bd.take (i+1))) (by rw[b3,pg]) (by omega)) ?_;intro g5;simp-implicitDefEqProofs;refine bI.of (i+1,g5 0) aq (by simp only;omega) ?_;simp[bG]
  have aO:((i:Int)<(r.bd.length:Int))=False:=aV (by omega);have eN:i=r.bd.length:=by omega
  subst eN;have dg:=j4 r.block;have b_:mw r++hZ (r.bd.take r.bd.length)=oa r:=by rw[sQ];rfl
  have QJ:=strconv_Itoa (r.block.length:Int) (by unfold Ay;omega);rw[b_];unfold Rec.row;simp-implicitDefEqProofs[aO];refine aA.of QJ ?_;simp-implicitDefEqProofs[bF];refine mh.of (o' (oa r) [108,101,110,103,116,104] (Az r.block.length) (wy r) rfl (by omega)) ?_;intro g6;simp-implicitDefEqProofs;refine aA.of (QG r.block (by omega)) ?_;simp-implicitDefEqProofs[bF];refine mh.of (o' (wy r) [100,105,103,101,115,116] (wv r.block) (tc r) rfl (by omega)) ?_;intro g7;have QK:(bL (tc r)).length=(tc r).length:=j4 _;simp-implicitDefEqProofs[bF,dg,QK];exact⟨by omega,⟨by omega,by unfold maxLen;omega⟩,by omega,by simp[qa,bL]⟩
 ·have aI:s_ r=uK r++iX [111,102] r.of:=by unfold s_;rw[au aw]
  have QI:(r.of=[])=False:=aV aw;simp-implicitDefEqProofs[bF,QI];refine mh.of (o' (uK r) [111,102] r.of (s_ r) aI (by omega)) ?_;intro zJm;simp-implicitDefEqProofs;refine aA.of Qn ?_;simp-implicitDefEqProofs[bF,XV,XW,XX];refine mh.of (o' (s_ r) [107,105,110,100] (yt r.kind) (ta r) rfl (by omega)) ?_;intro g2;simp-implicitDefEqProofs;refine aA.of xr ?_;simp-implicitDefEqProofs[bF];refine mh.of (o' (ta r) [100,97,116,101] (mr r.time) (wx r) rfl (by omega)) ?_;intro g3;simp-implicitDefEqProofs[bF];refine mh.of (o' (wx r) [107,101,121] r.key (mw r) rfl (by omega)) ?_;intro g4;simp-implicitDefEqProofs;refine cI.of (Nat×Value) (fun x=>[(2,.box [.any]),(3,.box r.row),(5,.cr 184 [.inr (2,0)]),(12,.cT x.2 5 1 (bL (mw r++hZ (r.bd.take x.1)))),(46,.x (.one (.list 2 (r.bd.map Head.row)))),(47,.x (.one (.int .i64 r.bd.length))),(48,.x (.one (.int .i64 x.1))),(999999,.res [(2,0)]),(1002000,.link 2 0 12)])
   (fun x=>x.1<=r.bd.length) (fun x=>r.bd.length-x.1) (0,g4 0) (cd _) ?_ ?_
  ·simp[hZ,Rec.row]
  rintro⟨i,v⟩ ai;dsimp only at ai⊢;by_cases aq:i<r.bd.length
  ·have aO:((i:Int)<(r.bd.length:Int))=True:=aL (by omega);have bG:i64.wrap ((i:Int)+1)=(i:Int)+1:=bk _ (by omega);have bm:∀h:Head,h.row=[.str h.name,.str h.value]:=fun _=>rfl;have b3:hZ (r.bd.take (i+1))=hZ (r.bd.take i)++iX r.bd[i].name r.bd[i].value:=by
    unfold hZ;rw[nF aq,Ld];simp
   have un:(mw r++hZ (r.bd.take (i+1))).length<=(oa r).length:=by
    unfold oa hZ;have:(r.bd.take (i+1)).flatMap (fun h=>iX h.name h.value) <+: r.bd.flatMap (fun h=>iX h.name h.value):=by
     conv=>rhs;rw[<-uX (i+1) r.bd]
     rw[Ld];exact List.prefix_append _ _
    have:=this.length_le;simp only[eE];omega
   unfold Rec.row;simp-implicitDefEqProofs[bF,aq,aO,bm];refine mh.of (o' (mw r++hZ (r.bd.take i)) r.bd[i].name r.bd[i].value (mw r++hZ (r.bd.take (i+1))) (by rw[b3,pg]) (by omega)) ?_;intro g5;simp-implicitDefEqProofs;refine bI.of (i+1,g5 0) aq (by simp only;omega) ?_;simp[bG]
  have aO:((i:Int)<(r.bd.length:Int))=False:=aV (by omega);have eN:i=r.bd.length:=by omega
  subst eN;have dg:=j4 r.block;have b_:mw r++hZ (r.bd.take r.bd.length)=oa r:=by rw[sQ];rfl
  have QJ:=strconv_Itoa (r.block.length:Int) (by unfold Ay;omega);rw[b_];unfold Rec.row;simp-implicitDefEqProofs[aO];refine aA.of QJ ?_;simp-implicitDefEqProofs[bF];refine mh.of (o' (oa r) [108,101,110,103,116,104] (Az r.block.length) (wy r) rfl (by omega)) ?_;intro g6;simp-implicitDefEqProofs;refine aA.of (QG r.block (by omega)) ?_;simp-implicitDefEqProofs[bF];refine mh.of (o' (wy r) [100,105,103,101,115,116] (wv r.block) (tc r) rfl (by omega)) ?_;intro g7;have QK:(bL (tc r)).length=(tc r).length:=j4 _;simp-implicitDefEqProofs[bF,dg,QK];exact⟨by omega,⟨by omega,by unfold maxLen;omega⟩,by omega,by simp[qa,bL]⟩
def DU:List (List UInt8):=[[105,100],[111,102],[107,105,110,100],[100,97,116,101],[107,101,121],[108,101,110,103,116,104],[100,105,103,101,115,116]]
def XY:aD prog 183 [] (.x (strs DU)):=by refine aD.a6 f183 mixed fun aE=>?_;simp-implicitDefEqProofs[DU]
def uL(h:Head):Bool:=decide (cD h.name∈DU)
def ji(r:Rec):Int:=
 if r.kind<1\/5<r.kind then 4 else if ng r.id=false\/(r.of≠[]/\ng r.of=false)then 5 else if r.of=r.id\/(r.of=[]/\(r.kind=4\/r.kind=5))\/(r.of≠[]/\r.kind=1)then 12
 else if hV r.time=false then 1 else if k2 r.key=false then 3 else if 30<r.bd.length then 2 else if s7 r.bd≠0 then s7 r.bd else if r.bd.any uL=true then 12
 else if 200000<r.block.length then 2 else if r.kind=4/\r.block≠[]then 3 else 0
def Le(r:Rec):aD prog 119 [.agg r.row] (.x (.one (.int .i64 (ji r)))):=by
 obtain⟨F,a8⟩:∃F,F=ji r:=⟨_,rfl⟩
 rw[<-a8];unfold ji at a8;have aF:=isName r.id;have aP:=isName r.of;have a7:=C6 r.time;have b1:=isKey r.key;have dZ:=Xm r.bd;have dg:=j4 r.block;have XZ:∀h,uL h=decide (cD h.name∈DU):=fun _=>rfl;obtain⟨A,iT⟩:∃A,A=r.bd.any uL:=⟨_,rfl⟩
 have Fd:∀i (h:i<r.bd.length),uL r.bd[i]=true->A=true:=fun i h ae=>by rw[iT,Ee];exact⟨_,jN h,ae⟩
 have za:(∀i (h:i<r.bd.length),uL r.bd[i]=false)->A=false:=fun h=>by rw[iT,Bm];intro x aj;obtain⟨i,ai,rfl⟩:=Ma aj;simp[h i ai]
 rw[<-iT]at a8;unfold Rec.row;generalize ng r.id=X0 at aF a8;generalize ng r.of=QL at aP a8;generalize hV r.time=X1 at a7 a8;generalize k2 r.key=X2 at b1 a8;generalize s7 r.bd=X3 at dZ a8;clear iT;obtain⟨kind,id,of,time,key,bd,block⟩:=r;dsimp only at*;refine aD.a6 f119 mixed fun aE=>?_;by_cases aa:kind<1
 ·rw[aC (.inl aa)]at a8;subst a8;have dx:(kind<1)=True:=aL aa;simp-implicitDefEqProofs[dx]
 have dx:(kind<1)=False:=aV aa;by_cases ab:5<kind
 ·rw[aC (.inr ab)]at a8;subst a8;have oD:(5<kind)=True:=aL ab;simp-implicitDefEqProofs[dx,oD]
 have oD:(5<kind)=False:=aV ab;rw[au (by omega)]at a8;simp-implicitDefEqProofs[dx,oD];refine aA.of aF ?_;cases X0
 ·rw[aC (.inl rfl)]at a8;subst a8;simp-implicitDefEqProofs;refine bp.of (fun h=>by cases h) (r:=.x (.one (.bool false))) rfl ?_;simp-implicitDefEqProofs
 cases of with
 |nil=>
  rw[au (by simp)]at a8;simp-implicitDefEqProofs;refine bp.of (fun h=>by cases h) (r:=.x (.one (.bool false))) rfl ?_;by_cases hid:id=[]
  ·rw[aC (.inl hid.symm)]at a8;subst a8;have uM:(id=[])=True:=aL hid;have Hk:([]=id)=True:=aL hid.symm;simp-implicitDefEqProofs[uM]
  have uM:(id=[])=False:=aV hid;have Hk:([]=id)=False:=aV (fun h=>hid h.symm);by_cases AY:kind=4\/kind=5
  ·rw[aC (.inr (.inl ⟨rfl,AY⟩))]at a8;subst a8;rcases AY with AY|AY
   ·have Hl:(kind=4)=True:=aL AY;simp-implicitDefEqProofs[uM,Hl]
   ·have Hl:(kind=4)=False:=aV (by omega);have AZ:(kind=5)=True:=aL AY;simp-implicitDefEqProofs[uM,Hl,AZ]
  have Hl:(kind=4)=False:=aV (by omega);have AZ:(kind=5)=False:=aV (by omega);rw[au (by rintro (h|⟨_,h⟩|⟨h,_⟩);exact hid h.symm;exact AY h;exact h rfl)]at a8;simp-implicitDefEqProofs[uM,Hl,AZ];refine aA.of a7 ?_;cases X1
  ·rw[aC rfl]at a8;subst a8;simp-implicitDefEqProofs
  rw[au (by decide)]at a8;simp-implicitDefEqProofs;refine aA.of b1 ?_;cases X2
  ·rw[aC rfl]at a8;subst a8;simp-implicitDefEqProofs
  rw[au (by decide)]at a8;by_cases x7:30<bd.length
  ·rw[aC x7]at a8;subst a8;have A0:(30<(bd.length:Int))=True:=aL (by omega);simp-implicitDefEqProofs[A0]
  rw[au x7]at a8;have A0:(30<(bd.length:Int))=False:=aV (by omega);simp-implicitDefEqProofs[A0];refine aA.of dZ ?_;by_cases ww:X3=0
  ·rw[au (by simpa using ww)]at a8;subst ww;simp-implicitDefEqProofs;refine cI.of Nat (fun i=>[(1,.box [.int .i64 kind,.str id,.str [],.int .i64 time,.str key,.list 2 (bd.map Head.row),dj block]),(80,.x (.one (.list 2 (bd.map Head.row)))),(81,.x (.one (.int .i64 bd.length))),(82,.x (.one (.int .i64 i)))])
    (fun i=>i<=bd.length/\∀j (h:j<bd.length),j<i->uL bd[j]=false) (fun i=>bd.length-i) 0 ⟨cd _,fun j h bE=>by omega⟩ ?_ ?_
   ·simp
   rintro i ⟨ai,ak⟩;by_cases aq:i<bd.length
   ·have aO:((i:Int)<(bd.length:Int))=True:=aL (by omega);have bG:i64.wrap ((i:Int)+1)=(i:Int)+1:=bk _ (by omega);have bm:∀h:Head,h.row=[.str h.name,.str h.value]:=fun _=>rfl;simp-implicitDefEqProofs[aq,aO,bm];refine aA.of XY ?_;simp-implicitDefEqProofs;refine aA.of (q6 bd[i].name) ?_;simp-implicitDefEqProofs;have jV:=AN DU (cD bd[i].name);rw[<-XZ]at jV;refine aA.of jV ?_;cases ao:uL bd[i]
    ·simp-implicitDefEqProofs;refine bI.of (i+1) ⟨aq,fun j h ac=>?_⟩ (by omega) ?_
     ·rcases kJ j i with bE|bE
      ·exact ak j h bE
      ·obtain rfl:j=i:=by omega
       exact ao
     ·simp[bG]
    ·rw[aC (Fd i aq ao)]at a8;subst a8;simp-implicitDefEqProofs
   have aO:((i:Int)<(bd.length:Int))=False:=aV (by omega);have cY:A=false:=za (fun j h=>ak j h (by omega));rw[au (by rw[cY];decide)]at a8;by_cases bl:200000<block.length
   ·rw[aC bl]at a8;subst a8;have nD:(200000<(block.length:Int))=True:=aL (by omega);simp-implicitDefEqProofs[aO,dg,nD]
   rw[au bl]at a8;have nD:(200000<(block.length:Int))=False:=aV (by omega);by_cases am:kind=4
   ·have eV:(kind=4)=True:=aL am;by_cases hM:block=[]
    ·rw[au (by simp[hM])]at a8;subst a8;have A1:(block=[])=True:=aL hM;simp-implicitDefEqProofs[aO,dg,nD,eV,A1]
    ·rw[aC ⟨am,hM⟩]at a8;subst a8;have A1:(block=[])=False:=aV hM;simp-implicitDefEqProofs[aO,dg,nD,eV,A1]
   ·rw[au (by rintro⟨h,_⟩;exact am h)]at a8;subst a8;have eV:(kind=4)=False:=aV am;simp-implicitDefEqProofs[aO,dg,nD,eV]
  ·rw[aC ww]at a8;subst a8;have QM:(F=0)=False:=aV ww;simp-implicitDefEqProofs[QM]
 |cons Lf ol=>
  simp-implicitDefEqProofs;refine bp.of (fun _=>aP) rfl ?_;cases QL
  ·rw[aC (.inr ⟨by simp,rfl⟩)]at a8;subst a8;simp-implicitDefEqProofs
  rw[au (by simp)]at a8;by_cases hid:Lf::ol=id
  ·rw[aC (.inl hid)]at a8;subst a8;have uM:(Lf::ol=id)=True:=aL hid;simp-implicitDefEqProofs[uM]
  have uM:(Lf::ol=id)=False:=aV hid;by_cases Ap:kind=1
  ·rw[aC (.inr (.inr ⟨by simp,Ap⟩))]at a8;subst a8;have QN:(kind=1)=True:=aL Ap;simp-implicitDefEqProofs[uM,QN]
  have QN:(kind=1)=False:=aV Ap;rw[au (by rintro (h|⟨h,_⟩|⟨_,h⟩);exact hid h;cases h;exact Ap h)]at a8;simp-implicitDefEqProofs[uM,QN];refine aA.of a7 ?_;cases X1
  ·rw[aC rfl]at a8;subst a8;simp-implicitDefEqProofs
  rw[au (by decide)]at a8;simp-implicitDefEqProofs;refine aA.of b1 ?_;cases X2
  ·rw[aC rfl]at a8;subst a8;simp-implicitDefEqProofs
  rw[au (by decide)]at a8;by_cases x7:30<bd.length
  ·rw[aC x7]at a8;subst a8;have A0:(30<(bd.length:Int))=True:=aL (by omega);simp-implicitDefEqProofs[A0]
  rw[au x7]at a8;have A0:(30<(bd.length:Int))=False:=aV (by omega);simp-implicitDefEqProofs[A0];refine aA.of dZ ?_;by_cases ww:X3=0
  ·rw[au (by simpa using ww)]at a8;subst ww;simp-implicitDefEqProofs;refine cI.of Nat (fun i=>[(1,.box [.int .i64 kind,.str id,.str (Lf::ol),.int .i64 time,.str key,.list 2 (bd.map Head.row),dj block]),(80,.x (.one (.list 2 (bd.map Head.row)))),(81,.x (.one (.int .i64 bd.length))),(82,.x (.one (.int .i64 i)))])
    (fun i=>i<=bd.length/\∀j (h:j<bd.length),j<i->uL bd[j]=false) (fun i=>bd.length-i) 0 ⟨cd _,fun j h bE=>by omega⟩ ?_ ?_
   ·simp
   rintro i ⟨ai,ak⟩;by_cases aq:i<bd.length
   ·have aO:((i:Int)<(bd.length:Int))=True:=aL (by omega);have bG:i64.wrap ((i:Int)+1)=(i:Int)+1:=bk _ (by omega);have bm:∀h:Head,h.row=[.str h.name,.str h.value]:=fun _=>rfl;simp-implicitDefEqProofs[aq,aO,bm];refine aA.of XY ?_;simp-implicitDefEqProofs;refine aA.of (q6 bd[i].name) ?_;simp-implicitDefEqProofs;have jV:=AN DU (cD bd[i].name);rw[<-XZ]at jV;refine aA.of jV ?_;cases ao:uL bd[i]
    ·simp-implicitDefEqProofs;refine bI.of (i+1) ⟨aq,fun j h ac=>?_⟩ (by omega) ?_
     ·rcases kJ j i with bE|bE
      ·exact ak j h bE
      ·obtain rfl:j=i:=by omega
       exact ao
     ·simp[bG]
    ·rw[aC (Fd i aq ao)]at a8;subst a8;simp-implicitDefEqProofs
   have aO:((i:Int)<(bd.length:Int))=False:=aV (by omega);have cY:A=false:=za (fun j h=>ak j h (by omega));rw[au (by rw[cY];decide)]at a8;by_cases bl:200000<block.length
   ·rw[aC bl]at a8;subst a8;have nD:(200000<(block.length:Int))=True:=aL (by omega);simp-implicitDefEqProofs[aO,dg,nD]
   rw[au bl]at a8;have nD:(200000<(block.length:Int))=False:=aV (by omega);by_cases am:kind=4
   ·have eV:(kind=4)=True:=aL am;by_cases hM:block=[]
    ·rw[au (by simp[hM])]at a8;subst a8;have A1:(block=[])=True:=aL hM;simp-implicitDefEqProofs[aO,dg,nD,eV,A1]
    ·rw[aC ⟨am,hM⟩]at a8;subst a8;have A1:(block=[])=False:=aV hM;simp-implicitDefEqProofs[aO,dg,nD,eV,A1]
   ·rw[au (by rintro⟨h,_⟩;exact am h)]at a8;subst a8;have eV:(kind=4)=False:=aV am;simp-implicitDefEqProofs[aO,dg,nD,eV]
  ·rw[aC ww]at a8;subst a8;have QM:(F=0)=False:=aV ww;simp-implicitDefEqProofs[QM]
end Go.Proofs.YtaalfcghmjkaeaaGreatDoor
namespace Go.Proofs.YtaalfcghmjkaeaaGreatDoor
open Go Go.Ab Go.Proofs.Tryz Go.IntKind
variable [bf][ee 0][cK prog]
set_option maxRecDepth 100000
set_option maxHeartbeats 4000000
def pb(b:List UInt8)(a:Nat):bx:=⟨b,a,0,[],[],0,[],[],0,[]⟩
def bx.pc(b:List UInt8)(x:bx):Prop:=x.ok/\x.b=b/\0<=x.length/\x.length<1000000000
def wz{b:List UInt8}{r:Bool×bx}{f:bx->Bool×bx}(h:r.2.pc b)(ay:∀x:bx,x.pc b->(f x).2.pc b):(p9 r f).2.pc b:=by
 obtain⟨c,x⟩:=r;cases c
 ·exact h
 ·exact ay x h
def X4{b:List UInt8}(w:List UInt8){x:bx}(h:x.pc b):(n_ w x).2.pc b:=by
 have aW:=Qr h.1 w;have:(n_ w x).2.b=x.b/\(n_ w x).2.length=x.length:=by show (p6 x w).b=_/\(p6 x w).length=_;unfold p6;split<;>exact⟨rfl,rfl⟩
 exact⟨aW,this.1.trans h.2.1,by rw[this.2];exact h.2.2.1,by rw[this.2];exact h.2.2.2⟩
def A2{b:List UInt8}(w:List UInt8)(F:List UInt8->Bool)(G:bx->List UInt8->bx){x:bx}(h:x.pc b)(dB:∀s,(G x s).b=x.b/\(G x s).at_=x.at_)
  (al:∀s,0<=(G x s).length/\(G x s).length<1000000000):(lO w F G x).2.pc b:=by
 have aW:=yp h.1 w F G dB;have:(lO w F G x).2.b=x.b/\0<=(lO w F G x).2.length/\(lO w F G x).2.length<1000000000:=by
  show (o7 x w F (G x)).b=_/\0<=(o7 x w F (G x)).length/\(o7 x w F (G x)).length<_;unfold o7;split
  ·split
   ·exact⟨(dB _).1,al _⟩
   ·exact⟨(dB _).1,al _⟩
  ·exact⟨rfl,h.2.2⟩
 exact⟨aW,this.1.trans h.2.1,this.2⟩
def X5{b:List UInt8}:∀(n:Nat) {y:bx},y.pc b->(rn n y).2.pc b
 |0,y,h=>h
 |n+1,y,h=>by
  unfold rn;split
  ·exact h
  ·split
   ·exact X5 n ⟨⟨h.1.1,o6 h.1.2⟩,h.2⟩
   ·exact h
def zkE{s:List UInt8}(h:mu 9 s=true):dk s<1000000000:=by obtain⟨_,aa,ab⟩:=DJ h;have:=ux s ab;have ak:(10:Nat)^s.length<=10^9:=Dh (by decide) aa;omega
def X6{b:List UInt8}{x:bx}(h:x.pc b):(rm o_ o9 o8 x).2.pc b:=by
 unfold rm;refine wz (X4 _ h) fun x h=>wz (A2 _ _ _ h (fun _=>⟨rfl,rfl⟩) (fun _=>h.2.2)) fun x h=>wz ?_ fun x h=>wz (A2 _ _ _ h (fun _=>⟨rfl,rfl⟩) (fun _=>h.2.2)) fun x h=>
  wz (A2 _ _ _ h (fun _=>⟨rfl,rfl⟩) (fun _=>h.2.2)) fun x h=>wz (A2 _ _ _ h (fun _=>⟨rfl,rfl⟩) (fun _=>h.2.2)) fun x h=>wz (X5 _ h) fun x h=>
  wz (A2 _ _ _ h (fun s=>by split<;>exact⟨rfl,rfl⟩) (fun s=>?_)) fun x h=>wz (A2 _ _ _ h (fun _=>⟨rfl,rfl⟩) (fun _=>h.2.2)) fun x h=>X4 _ h
 ·unfold K_;split
  ·exact A2 _ _ _ h (fun _=>⟨rfl,rfl⟩) (fun _=>h.2.2)
  ·exact h
 ·split
  ·rename_i aT;have:=zkE aT;exact⟨by simp,by simp only;omega⟩
  ·exact h.2.2
def j6:Rec:=⟨0,[],[],0,[],[],[]⟩
def bx.yu(x:bx)(k:List UInt8):Rec:=⟨x.kind,x.id,x.of,x.time,x.key,x.bd,k⟩
def Hm:List UInt8:=[13,10,13,10]
def iH(b:List UInt8)(a:Nat):Rec×Nat×Int:=
 let r:=rm o_ o9 o8 (pb b a)
 if r.1=false then (j6,r.2.at_,10)
 else if b.length<r.2.at_+r.2.length.toNat+4 then (j6,b.length,10)
 else if (b.drop (r.2.at_+r.2.length.toNat)).take 4≠Hm then (j6,r.2.at_+r.2.length.toNat,10)
 else if wv ((b.drop r.2.at_).take r.2.length.toNat)≠r.2.hX then (j6,r.2.at_,15)
 else if ji (r.2.yu ((b.drop r.2.at_).take r.2.length.toNat))≠0 then (j6,a,ji (r.2.yu ((b.drop r.2.at_).take r.2.length.toNat)))
 else (r.2.yu ((b.drop r.2.at_).take r.2.length.toNat),r.2.at_+r.2.length.toNat+4,0)
def QO(r:Rec×Nat×Int):bw:=.b2 [.agg r.1.row,.one (.int .i64 r.2.1),.one (.int .i64 r.2.2)]
def zkF(l:List Head):OY (rl l) (.list 2 (l.map Head.row)):=by
 unfold rl;split
 ·rename_i h;subst h;exact .inr ⟨rfl,2,rfl⟩
 ·exact .inl rfl
@[simp]def zJn(l:List Head):mU (.list 2 (l.map Head.row)) (rl l)=True:=by
 unfold rl;split
 ·rename_i h;subst h;simp
 ·simp
def zkG(x:bx)(k:List UInt8):aD prog 119 [.agg [.int .i64 x.kind,.str x.id,.str x.of,.int .i64 x.time,.str x.key,rl x.bd,dj k]] (.x (.one (.int .i64 (ji (x.yu k))))):=
 aD.zfg (cs':=(x.yu k).row) ⟨.inl rfl,.inl rfl,.inl rfl,.inl rfl,.inl rfl,zkF _,.inl rfl,trivial⟩ (Le _)
def zkH(b:List UInt8)(a:Nat)(ae:b.length<=16777216)(bj:a<=b.length):aD prog 117 [.one (dj b),.one (.int .i64 a)] (QO (iH b a)):=by
 have Hn:(pb b a).iG:=⟨⟨ae,bj⟩,rfl⟩
 have aF:=zjx o_ o9 zkm o8 (fun x aj=>⟨zjM x aj,XL _ _ aj.1⟩) (pb b a) Hn;have aB:(rm o_ o9 o8 (pb b a)).2.pc b:=X6 ⟨Hn.1,rfl,by simp[pb],by simp[pb]⟩;obtain⟨R,aR⟩:∃R,R=iH b a:=⟨_,rfl⟩
 rw[<-aR];unfold iH at aR;have Ic:(pb b a).cells=[dj b,.int .i64 a,.int .i64 0,.str [],.str [],.int .i64 0,.str [],.nil,.nil,.int .i64 0,.str []]:=by simp[bx.cells,pb,rl]
 rw[Ic]at aF;generalize rm o_ o9 o8 (pb b a)=r at*;obtain⟨B,x⟩:=r;dsimp only at*;obtain⟨⟨_,Mm⟩,so,Ho,pq⟩:=aB;obtain⟨L,X7⟩:∃L:Nat,x.length=(L:Int):=⟨x.length.toNat,by omega⟩
 rw[X7,re]at aR;have zJo:x.at_<=b.length:=by rw[<-so];exact Mm
 have dg:=j4 b;have ic:i64.wrap ((x.at_:Int)+(L:Int))=(x.at_:Int)+(L:Int):=bk _ (by omega);have sm:i64.wrap ((x.at_:Int)+(L:Int)+4)=(x.at_:Int)+(L:Int)+4:=bk _ (by omega);unfold QO;refine aD.a6 f117 mixed fun aE=>?_;simp-implicitDefEqProofs;refine gg.of aF ?_;unfold bx.cells;rw[X7,so];cases B
 ·rw[aC rfl]at aR;subst aR;simp-implicitDefEqProofs;refine hc.r ⟨[13],by kernel_rfl,?_⟩;simp-implicitDefEqProofs[j6,Rec.row]
 rw[au (by decide)]at aR;by_cases aa:b.length<x.at_+L+4
 ·have dx:((b.length:Int)<(x.at_:Int)+(L:Int)+4)=True:=aL (by omega);rw[aC aa]at aR;subst aR;simp-implicitDefEqProofs[ic,sm,dx,j6,Rec.row,dg]
 rw[au aa]at aR;have dx:((b.length:Int)<(x.at_:Int)+(L:Int)+4)=False:=aV (by omega);have ki:cutAt (bL b) ((x.at_:Int)+(L:Int)) ((x.at_:Int)+(L:Int)+4)=bL ((b.drop (x.at_+L)).take 4):=by have:=G9 (b:=b) (a:=x.at_+L) (i:=x.at_+L+4) (by omega);rw[show x.at_+L+4-(x.at_+L)=4 by omega]at this;exact_mod_cast this
 have Dp:cutAt (bL b) (x.at_:Int) ((x.at_:Int)+(L:Int))=bL ((b.drop x.at_).take L):=by have:=G9 (b:=b) (a:=x.at_) (i:=x.at_+L) (by omega);rw[show x.at_+L-x.at_=L by omega]at this;exact_mod_cast this
 have g1:(0<=(x.at_:Int)+(L:Int))=True:=aL (by omega);have g2:((x.at_:Int)+(L:Int)+4<=(b.length:Int))=True:=aL (by omega);have g3:((x.at_:Int)+(L:Int)<=(x.at_:Int)+(L:Int)+4)=True:=aL (by omega);have g4:((x.at_:Int)+(L:Int)<=(b.length:Int))=True:=aL (by omega);have g5:((x.at_:Int)<=(x.at_:Int)+(L:Int))=True:=aL (by omega);generalize b_:(b.drop (x.at_+L)).take 4=T at*;by_cases ab:T=Hm
 ·rw[au (by simpa using ab)]at aR;subst ab;have aP:=zkA ((b.drop x.at_).take L) (by simp;omega);have a7:=QG ((b.drop x.at_).take L) (by simp;omega);have b1:=zkG x ((b.drop x.at_).take L);have k4:((b.drop x.at_).take L).length=L:=by simp;omega
  generalize (b.drop x.at_).take L=W at*;unfold Hm at ki;have iM:=Df [13,10,13,10];have gc:=Dg [13,10,13,10];simp-implicitDefEqProofs[ic,sm,dx,dg,ki,Dp,g1,g2,g3,g4,g5,iM,gc];refine aA.of aP ?_;simp-implicitDefEqProofs;refine aA.of a7 ?_;by_cases ar:wv W=x.hX
  ·rw[au (by simpa using ar)]at aR;simp-implicitDefEqProofs[ar];refine aA.of b1 ?_;generalize ji (x.yu W)=F at*;by_cases aN:F=0
   ·rw[au (by simpa using aN)]at aR;subst aR;subst aN;simp-implicitDefEqProofs[bx.yu,Rec.row,sm]
   ·rw[aC aN]at aR;subst aR;simp-implicitDefEqProofs[aN,j6,Rec.row]
  ·rw[aC ar]at aR;subst aR;simp-implicitDefEqProofs[ar];refine hc.r ⟨[13],by kernel_rfl,?_⟩;simp-implicitDefEqProofs[j6,Rec.row]
 ·rw[aC ab]at aR;subst aR;have iM:=Df T;have gc:=Dg T;unfold Hm at ab;simp-implicitDefEqProofs[ic,sm,dx,dg,ki,g1,g2,g3,iM,gc,ab,j6,Rec.row]
end Go.Proofs.YtaalfcghmjkaeaaGreatDoor
namespace Go.Proofs.YtaalfcghmjkaeaaGreatDoor
open Go Go.Ab Go.Proofs.Tryz Go.IntKind
variable [bf]
def DC:∀a:List UInt8,eB a a=false
 |[]=>rfl
 |a::x=>by have aX:=DC x;unfold eB at aX⊢;simp[Op.bytesLess,aX]
def G1:∀{a b c:List UInt8},eB a b=true->eB b c=true->eB a c=true
 |a,b,[],_,ab=>by unfold eB at ab;cases b<;>simp[Op.bytesLess]at ab
 |a,[],c::z,aa,_=>by unfold eB at aa;cases a<;>simp[Op.bytesLess]at aa
 |[],b::y,c::z,_,_=>by simp[eB,Op.bytesLess]
 |a::x,b::y,c::z,aa,ab=>by
  have aX:=@G1 x y z;unfold eB at aa ab aX⊢;simp only[Op.bytesLess,eO,hF,b4,fB]at aa ab⊢;rcases aa with aa|⟨rfl,aa⟩
  ·rcases ab with ab|⟨rfl,ab⟩
   ·exact .inl (UInt8.lt_trans aa ab)
   ·exact .inl aa
  ·rcases ab with ab|⟨rfl,ab⟩
   ·exact .inl ab
   ·exact .inr ⟨rfl,aX aa ab⟩
def P3:∀{a b:List UInt8},eB a b=false->eB b a=false->a=b
 |[],[],_,_=>rfl
 |[],b::y,h,_=>by simp[eB,Op.bytesLess]at h
 |a::x,[],_,h=>by simp[eB,Op.bytesLess]at h
 |a::x,b::y,aa,ab=>by have aX:=@P3 x y;unfold eB at aa ab aX;simp only[Op.bytesLess,Kf,Dl]at aa ab;have Ag:a=b:=UInt8.le_antisymm (UInt8.not_lt.1 ab.1) (UInt8.not_lt.1 aa.1);subst Ag;simp only[BEq.rfl,kL]at aa ab;rw[aX aa.2 ab.2]
def zhX{a b:List UInt8}(h:eB a b=true):eB b a=false:=by
 cases ae:eB b a with
 |false=>rfl
 |true=>have:=G1 h ae;rw[DC]at this;cases this
def P4{a b:List UInt8}:Lib.compareBytes a b<0↔eB a b=true:=by
 rw[Pc];split
 ·simp[*]
 ·rename_i h;split<;>simp[h]
def P5{a b:List UInt8}:Lib.compareBytes a b=0↔a=b:=by
 rw[Pc];split
 ·rename_i h;simp;rintro rfl;rw[DC]at h;cases h
 ·split<;>simp[*]
def W0{a b:Int}:iR a b<0↔a<b:=by unfold iR;split<;>(try split)<;>omega
def zhY{a b:Int}:iR a b=0↔a=b:=by unfold iR;split<;>(try split)<;>omega
def zhZ{a b c d:Int}:ky [a,b,c,d]<0↔a<0\/(a=0/\(b<0\/(b=0/\(c<0\/(c=0/\d<0))))):=by simp only[ky];split<;>(try split)<;>(try split)<;>(try split)<;>omega
def p3(a b:Entry):Prop:=eB a.key b.key=true\/(a.key=b.key/\(a.time<b.time\/(a.time=b.time/\(eB a.file b.file=true\/(a.file=b.file/\a.aK<b.aK)))))
def zia{a b:Entry}:GK a b<0↔p3 a b:=by unfold GK cmpL p3;rw[zhZ,P4,P5,W0,zhY,P4,P5,W0]
def p3.trans{a b c:Entry}(aa:p3 a b)(ab:p3 b c):p3 a c:=by
 unfold p3 at*;rcases aa with aa|⟨av,aa⟩
 ·rcases ab with ab|⟨aI,_⟩
  ·exact .inl (G1 aa ab)
  ·exact .inl (aI▸aa)
 ·rcases ab with ab|⟨aI,ab⟩
  ·exact .inl (av▸ab)
  ·refine .inr ⟨av.trans aI,?_⟩;rcases aa with aa|⟨t1,aa⟩
   ·rcases ab with ab|⟨t2,_⟩<;>exact .inl (by omega)
   ·rcases ab with ab|⟨t2,ab⟩
    ·exact .inl (by omega)
    ·refine .inr ⟨t1.trans t2,?_⟩;rcases aa with aa|⟨f1,aa⟩
     ·rcases ab with ab|⟨f2,_⟩
      ·exact .inl (G1 aa ab)
      ·exact .inl (f2▸aa)
     ·rcases ab with ab|⟨f2,ab⟩
      ·exact .inl (f1▸ab)
      ·exact .inr ⟨f1.trans f2,by omega⟩
abbrev G2(l:List Entry):Prop:=l.Pairwise p3
def P6:∀{l:List Entry} {p:Option Entry},n6 p l=0->G2 l/\(∀q,p=some q->∀x∈l,p3 q x)/\∀x∈l,sX x=0
 |[],p,_=>⟨.nil,fun q _ x aj=>(by cases aj),fun x aj=>(by cases aj)⟩
 |e::r,none,h=>by
  simp only[n6]at h;split at h
  ·rename_i he;obtain⟨aa,ab,ar⟩:=P6 h;exact⟨.cons (ab e rfl) aa,fun q br=>(by cases br),fun x aj=>by rcases eT.1 aj with rfl|aj;exact he;exact ar x aj⟩
  ·exact absurd h (by assumption)
 |e::r,some q,h=>by
  simp only[n6]at h;split at h
  ·rename_i he;split at h
   ·cases h
   ·split at h
    ·cases h
    ·rename_i aN bD;obtain⟨aa,ab,ar⟩:=P6 h;have W1:p3 q e:=zia.1 (by omega);refine⟨.cons (ab e rfl) aa,fun dQ br=>?_,fun x aj=>by rcases eT.1 aj with rfl|aj;exact he;exact ar x aj⟩;injection br with br
     subst br;intro x aj;rcases eT.1 aj with rfl|aj
     ·exact W1
     ·exact W1.trans (ab e rfl x aj)
  ·exact absurd h (by assumption)
def W2{l:List Entry}(h:lK l=0):G2 l/\∀x∈l,sX x=0:=by
 unfold lK at h;split at h
 ·cases h
 ·obtain⟨aa,_,ab⟩:=P6 h;exact⟨aa,ab⟩
def p3.key{a b:Entry}(h:p3 a b):eB b.key a.key=false:=by
 rcases h with h|⟨e,_⟩
 ·exact zhX h
 ·rw[e];exact DC _
set_option maxRecDepth 100000
set_option maxHeartbeats 4000000
abbrev W3(f:Nat):az:=.one (.atom (.func (.func f) #[] #[]))
def W4(e:Entry)(k:List UInt8):aD prog 171 [.agg e.row,.one (.str k)] (.x (.one (.int .i64 (Lib.compareBytes e.key k)))):=by refine aD.a6 f171 mixed fun aE=>?_;simp-implicitDefEqProofs +contextual[-Bool.and_eq_false_imp];refine aA.of (strings_Compare _ _) ?_;simp-implicitDefEqProofs +contextual[-Bool.and_eq_false_imp]
def lowerB(l:List Entry)(k:List UInt8):Nat:=(l.takeWhile fun e=>eB e.key k).length
def W5{l:List Entry}{k:List UInt8}{i:Nat}(ai:i<=l.length)(aa:∀(j:Nat) (x:Entry),j<i->l[j]?=some x->eB x.key k=true)(ab:∀x,l[i]?=some x->eB x.key k=false):lowerB l k=i:=by
 induction l generalizing i with
 |nil=>simp at ai;subst ai;rfl
 |cons a r aX=>
  unfold lowerB at aX⊢;cases i with
  |zero=>have:=ab a rfl;rw[Gr (by simp[this])];rfl
  |succ i=>have:=aa 0 a (by omega) rfl;rw[C9 (by exact this),eg,aX (by simpa using ai) (fun j x ac aj=>aa (j+1) x (by omega) (by simpa using aj)) (fun x aj=>ab x (by simpa using aj))]
def zib(l:List Entry)(k:List UInt8)(ap:G2 l)(ae:l.length<=3000):aD prog 170 [entries l,.one (.str k),W3 171] (.b2 [.one (.int .i64 (lowerB l k)),.one (.bool (match l[lowerB l k]? with|some x=>decide (x.key=k)|none=>false))]):=by
 refine aD.a6 f170 mixed fun aE=>?_;have G0:∀i j (ac:j<l.length) (ct:i<=j),eB l[j].key k=true->eB l[i].key k=true:=by
  intro i j ac ct h;by_cases he:i=j
  ·subst he;exact h
  ·have:=(P7.1 ap) i j (by omega) ac (by omega);cases ae:eB l[i].key k with
   |true=>rfl
   |false=>
    have ab:=this.key;cases ao:eB l[i].key l[j].key with
    |true=>rw[G1 ao h]at ae;cases ae
    |false=>rw[P3 ao ab]at ae;rw[ae]at h;cases h
 simp-implicitDefEqProofs +contextual[-Bool.and_eq_false_imp];refine cI.of (Nat×Nat) (fun i=>[(0,.x (.one (.list 9 (l.map Entry.row)))),(1,.x (.one (.str k))),(2,.x (W3 171)),(8,.x (.one (.int .i64 l.length))),(9,.x (.one (.int .i64 i.1))),(10,.x (.one (.int .i64 i.2)))])
  (fun i=>i.1<=i.2/\i.2<=l.length/\(∀(j:Nat) (h:j<l.length),j<i.1->eB l[j].key k=true)/\(∀(j:Nat) (h:j<l.length),i.2<=j->eB l[j].key k=false)) (fun i=>i.2-i.1) (0,l.length) ⟨cd _,eG _,by intro j h ac;omega,by intro j h ac;simp only at ac;omega⟩ ?_ ?_
 ·simp
 rintro⟨i,j⟩ ⟨aa,ab,ar,aN⟩;simp only at aa ab ar aN;by_cases aq:i<j
 ·have hm:i64.wrap ((u64.wrap (i64.wrap ((i:Int)+j))).fdiv (2^min 1 u64.bits))=(((i+j)/2:Nat):Int):=by
   rw[bk ((i:Int)+j) (by omega)];have:u64.wrap ((i:Int)+j)=(i:Int)+j:=by simp[IntKind.wrap,IntKind.signed,IntKind.bits];omega
   rw[this];have:((i:Int)+j).fdiv (2^min 1 u64.bits)=((i+j)/2:Nat):=by show ((i:Int)+j).fdiv 2=_;rw[PH _ (by omega)];omega
   rw[this];exact bk _ (by omega)
  obtain⟨m,em⟩:∃m,m=(i+j)/2:=⟨_,rfl⟩
  rw[<-em]at hm;have rY:m<l.length:=by omega
  simp-implicitDefEqProofs +contextual[-Bool.and_eq_false_imp,aq,hm,rY];refine aA.of (W4 _ _) ?_;have ao:=P4 (a:=l[m].key) (b:=k);simp-implicitDefEqProofs +contextual[-Bool.and_eq_false_imp];refine⟨fun h=>?_,fun h=>?_⟩
  ·refine bI.of (m+1,j) ⟨by simp only;omega,ab,fun x aj DD=>G0 x m rY (by simp only at DD;omega) (ao.1 h),aN⟩ (by simp only;omega) ?_;simp;exact bk _ (by omega)
  ·refine bI.of (i,m) ⟨by simp only;omega,by simp only;omega,ar,fun x aj DD=>?_⟩ (by simp only;omega) ?_
   ·simp only at DD;cases ae:eB l[x].key k with
    |false=>rfl
    |true=>have:=G0 m x aj DD ae;rw[<-ao]at this;omega
   ·simp
 ·have ct:i=j:=by omega
  subst ct;have qv:lowerB l k=i:=W5 ab (fun x y aj aS=>by
   obtain⟨aO,rfl⟩:=ep.1 aS;exact ar x aO aj) (fun y aS=>by
   obtain⟨aO,rfl⟩:=ep.1 aS;exact aN i aO (eG _))
  rw[qv];by_cases i8:i<l.length
  ·simp-implicitDefEqProofs +contextual[-Bool.and_eq_false_imp,i8];refine bp.of (fun _=>W4 _ _) rfl ?_;have ao:=P5 (a:=l[i].key) (b:=k);simp-implicitDefEqProofs +contextual[-Bool.and_eq_false_imp,i8];rw[q4];simp[ao]
  ·simp-implicitDefEqProofs[i8];refine bp.of (r:=.x (.one (.int .i64 0))) (fun h=>by cases h) rfl ?_;simp-implicitDefEqProofs +contextual[-Bool.and_eq_false_imp,i8]
def p4(l:List Entry)(k:List UInt8):List Entry:=l.filter fun e=>decide (e.key=k)
def takeWhile_eq{α:Type}(p:α->Bool):∀(l:List α) (i:Nat),i<=l.length->(∀(j:Nat) (x:α),j<i->l[j]?=some x->p x=true)->(∀x,l[i]?=some x->p x=false)->l.takeWhile p=l.take i
 |[],i,ai,_,_=>by simp
 |a::r,0,_,_,ab=>by rw[Gr (by simp[ab a rfl])];rfl
 |a::r,i+1,ai,aa,ab=>by rw[C9 (aa 0 a (by omega) rfl),takeWhile_eq p r i (by simpa using ai) (fun j x ac aj=>aa (j+1) x (by omega) (by simpa using aj)) (fun x aj=>ab x (by simpa using aj))];rfl
def P8{k:List UInt8}:∀{l:List Entry},G2 l->p4 l k=(l.drop (lowerB l k)).takeWhile fun e=>decide (e.key=k)
 |[],_=>rfl
 |a::r,h=>by
  have an:=IZ.1 h;unfold p4 lowerB;by_cases aq:eB a.key k=true
  ·have bC:¬a.key=k:=by rintro rfl;rw[DC]at aq;cases aq
   rw[C9 (by exact aq),eg,BB,List.filter_cons_of_neg (by simp[bC])];exact P8 an.2
  ·rw[Gr (by exact aq),rF,List.drop_zero];by_cases he:a.key=k
   ·rw[List.filter_cons_of_pos (by simp[he]),C9 (by simp[he])];congr 1;have:=P8 (k:=k) an.2;unfold p4 at this;rw[this];have aW:lowerB r k=0:=W5 (cd _) (fun j x ac=>by omega) (fun x aj=>by
     have:=(an.1 x (iq aj)).key;rw[he]at this;exact this)
    rw[aW,List.drop_zero]
   ·rw[List.filter_cons_of_neg (by simp[he]),Gr (by simp[he])];rw[P9];intro x aj;simp only[hF];rintro rfl;have aa:=(an.1 x aj).key;exact he (P3 (by simpa using aq) aa)
def zic(l:List Entry)(k:List UInt8)(ap:G2 l)(ae:l.length<=3000):aD prog 105 [entries l,.one (.str k)] (.x (entries (p4 l k))):=by
 refine aD.a6 f105 mixed fun aE=>?_;simp-implicitDefEqProofs +contextual[-Bool.and_eq_false_imp];refine aA.of (zib l k ap ae) ?_;have qv:lowerB l k<=l.length:=by unfold lowerB;exact(KU _).length_le
 rw[P8 ap];generalize lowerB l k=aK at qv;simp-implicitDefEqProofs +contextual[-Bool.and_eq_false_imp];refine cI.of Nat (fun i=>[(0,.x (.one (.list 9 (l.map Entry.row)))),(1,.x (.one (.str k))),(5,.x (.one (.int .i64 aK))),(7,.x (.one (.int .i64 i)))]) (fun i=>aK<=i/\i<=l.length/\∀(j:Nat) (x:Entry),aK<=j->j<i->l[j]?=some x->x.key=k) (fun i=>l.length-i) aK ⟨eG _,qv,fun j x aa ab=>by omega⟩ ?_ ?_
 ·simp
 rintro i ⟨aa,ab,ar⟩;have Ki:(∀x,l[i]?=some x->¬x.key=k)->(l.drop aK).takeWhile (fun e=>decide (e.key=k))=(l.take i).drop aK:=by
  intro aj;rw[takeWhile_eq _ (l.drop aK) (i-aK) (by simp;omega) (fun j x ac s0=>by
   rw[h3]at s0;simp[ar (aK+j) x (by omega) (by omega) s0]) (fun x s0=>by
   rw[h3,show aK+(i-aK)=i by omega]at s0;simp[aj x s0])]
  rw[EF]
 by_cases aq:i<l.length
 ·simp-implicitDefEqProofs +contextual[-Bool.and_eq_false_imp,aq];refine⟨fun he=>bI.of (i+1) ⟨by omega,aq,fun j x vS rg s0=>?_⟩ (by omega) ?_,fun bC=>?_⟩
  ·by_cases fA:j=i
   ·subst fA;rw[cn aq]at s0;injection s0 with s0
    rw[<-s0];exact he
   ·exact ar j x vS (by omega) s0
  ·simp;exact bk _ (by omega)
  ·rw[Ki (fun x aj=>by rw[cn aq]at aj;injection aj with aj;rw[<-aj];exact bC)];refine⟨by omega,?_⟩;simp[cutAt]
 ·simp-implicitDefEqProofs[aq];rw[Ki (fun x aj=>by rw[lX (by omega)]at aj;cases aj)];refine⟨by omega,?_⟩;simp[cutAt]
structure KV where
 key:List UInt8
 many:Int
 other:Int
 first:Int
 last:Int
 deriving DecidableEq
def KV.row(x:KV):List af:=[.str x.key,.int .i64 x.many,.int .i64 x.other,.int .i64 x.first,.int .i64 x.last]
abbrev zIO(l:List KV):az:=.one (.list 5 (l.map KV.row))
def yl(aU:List (List UInt8)):List (az×az):=aU.map fun d=>(.one (.str d),.one (.bool true))
def W6(d:List UInt8):∀(aU:List (List UInt8)) (i:Nat),(d∉aU->er .s (.one (.str d)) (yl aU) i=some none)/\(d∈aU->∃j,er .s (.one (.str d)) (yl aU) i=some (some (i+j))/\aU[j]?=some d)
 |[],i=>⟨fun _=>rfl,fun h=>by cases h⟩
 |k::r,i=>by
  have aX:=W6 d r (i+1);simp only[yl,iw,er,rK];by_cases h:d=k
  ·subst h;simp only[BEq.rfl];exact⟨fun h=>absurd (kl) h,fun _=>⟨0,rfl,rfl⟩⟩
  ·have ae:(d==k)=false:=by simpa using h
   rw[ae];refine⟨fun aT=>aX.1 (fun hm=>aT (l3 _ hm)),fun hm=>?_⟩;obtain⟨j,aa,ab⟩:=aX.2 ((eT.1 hm).resolve_left h);exact⟨j+1,by rw[show i+(j+1)=i+1+j by omega];exact aa,ab⟩
end Go.Proofs.YtaalfcghmjkaeaaGreatDoor
namespace Go.Proofs.YtaalfcghmjkaeaaGreatDoor
open Go Go.Ab Go.Proofs.Tryz Go.IntKind
variable [bf][ee 0][cK prog]
set_option maxRecDepth 100000
set_option maxHeartbeats 4000000
@[simp]def zJp(e z:Nat)(xs:List (List af)):bw.cP (.own e z xs)=.own e z xs:=rfl
def X8:∀{l:List Head},DI l=0->∀h∈l,rj h.name=true/\n8 h.value=true
 |[],_,h,hm=>by cases hm
 |x::r,e,h,hm=>by
  have aj:DH x=if rj x.name=false then 5 else if n8 x.value=false then 3 else 0:=rfl
  unfold DI at e;have av:DH x=0:=by
   by_cases aW:DH x=0
   ·exact aW
   ·rw[au aW]at e;exact absurd e aW
  rw[aC av]at e;rcases eT.1 hm with rfl|hm
  ·rw[av]at aj;cases aa:rj h.name<;>cases ab:n8 h.value<;>rw[aa,ab]at aj<;>first|exact⟨rfl,rfl⟩|(simp at aj)
  ·exact X8 e h hm
def zkI{l:List Head}(h:s7 l=0):∀x∈l,x.name.length<=40/\x.value.length<=1000:=by
 intro x aj;unfold s7 at h;split at h
 ·cases h
 ·obtain⟨aa,ab⟩:=X8 h x aj;unfold rj gV at aa;unfold n8 at ab;simp only[b4,hF]at aa ab;exact⟨by omega,ab.1⟩
def X9:∀{l:List Head},(∀x∈l,x.name.length<=40/\x.value.length<=1000)->(hZ l).length<=1044*l.length
 |[],_=>by simp[hZ]
 |h::r,aj=>by have aa:=aj h (by simp);have aX:=X9 (l:=r) (fun x hm=>aj x (by simp[hm]));unfold hZ at aX⊢;simp only[List.flatMap_cons,eE,Lc,eg];omega
structure Rec.Lg(r:Rec):Prop where
 zkJ:1<=r.kind
 zkK:r.kind<=5
 id:ng r.id=true
 of:r.of=[]\/ng r.of=true
 X_:hV r.time=true
 key:k2 r.key=true
 QP:r.bd.length<=30
 bd:s7 r.bd=0
 own:r.bd.any uL=false
 block:r.block.length<=200000
def DV{r:Rec}(h:ji r=0):r.Lg:=by
 unfold ji at h;split at h
 ·cases h
 rename_i aa;split at h
 ·cases h
 rename_i ab;split at h
 ·cases h
 rename_i ar;split at h
 ·cases h
 rename_i aN;split at h
 ·cases h
 rename_i bD;split at h
 ·cases h
 rename_i b9;split at h
 ·rename_i dw;exact absurd h dw
 rename_i dw;split at h
 ·cases h
 rename_i d8;split at h
 ·cases h
 rename_i hN;refine⟨by omega,by omega,?_,?_,by simpa using aN,by simpa using bD,by omega,by simpa using dw,by simpa using d8,by omega⟩
 ·cases e:ng r.id with
  |true=>rfl
  |false=>exact absurd (.inl e) ab
 ·by_cases e:r.of=[]
  ·exact .inl e
  ·right;cases aI:ng r.of with
   |true=>rfl
   |false=>exact absurd (.inr ⟨e,aI⟩) ab
def X'{s:List UInt8}(h:ng s=true):1<=s.length/\s.length<=40:=by unfold ng gV at h;simp only[b4,hF]at h;omega
def zkL{s:List UInt8}(h:k2 s=true):1<=s.length/\s.length<=2000:=by unfold k2 vU gV at h;simp only[b4,hF]at h;omega
def zkM(k:Int):(yt k).length<=7:=by
 unfold yt;rw[jQ];generalize (k-1).toNat=n
 match n with
 |0=>decide
 |1=>decide
 |2=>decide
 |3=>decide
 |4=>decide
 |n+5=>simp[p8]
def QQ{r:Rec}(h:r.Lg):(qa r).length<=300000:=by
 have aa:=(X' h.id).2;have ab:r.of.length<=40:=by
  rcases h.of with e|e
  ·rw[e];simp
  ·exact(X' e).2
 have ar:=zkM r.kind;have aN:=(zhW r.time h.X_).1;have bD:=(zkL h.key).2;have b9:=X9 (zkI h.bd);have dw:=h.QP;have ae:=h.block;have d8:(Az r.block.length).length<=21:=Ya (by unfold Ay;omega);have hN:=zkz r.block;have dW:(s_ r).length<=(uK r).length+(iX [111,102] r.of).length:=by unfold s_;split<;>simp
 unfold qa tc wy oa mw wx ta;unfold uK at dW;simp only[eE,Lc,eg,rF]at dW⊢;have:QH.length=8:=rfl;omega
def zkN{r:Rec}(h:r.Lg):r.fits:=⟨h.zkJ,h.zkK,h.X_,by have:=QQ h;omega⟩
def jj(l:List Rec):az:=.one (.list 7 (l.map Rec.row))
def A3:List (List UInt8)->Nat->List Rec->Int
 |_,n,[]=>if 500000<n then 2 else 0
 |seen,n,r::l=>if ji r≠0 then ji r else if r.id∈seen then 7 else A3 (seen++[r.id]) (n+(qa r).length) l
def nk(l:List Rec):Int:=if 1000<l.length then 2 else A3 [] 0 l
def qb(l:List Rec):Nat:=(l.map fun r=>(qa r).length).sum
def Yb:∀{l:List Rec},(∀r∈l,ji r=0)->qb l<=300000*l.length
 |[],_=>by simp[qb]
 |r::l,h=>by have aa:=QQ (DV (h r (by simp)));have aX:=Yb (l:=l) (fun x aj=>h x (by simp[aj]));unfold qb at aX⊢;simp only[iw,List.sum_cons,eg];omega
def Yc(l:List Rec)(r:Rec):qb (l++[r])=qb l+(qa r).length:=by simp[qb]
def Yd(l:List Rec):aD prog 70 [jj l] (.x (.one (.int .i64 (nk l)))):=by
 obtain⟨F,a8⟩:∃F,F=nk l:=⟨_,rfl⟩
 rw[<-a8];unfold nk at a8;unfold jj;refine aD.a6 f70 mixed fun aE=>?_;by_cases aa:1000<l.length
 ·rw[aC aa]at a8;subst a8;have dx:(1000<(l.length:Int))=True:=aL (by omega);simp-implicitDefEqProofs[dx]
 rw[au aa]at a8;have dx:(1000<(l.length:Int))=False:=aV (by omega);simp-implicitDefEqProofs[dx];refine cI.of Nat (fun i=>[(3,.mp i (List.range i) (yl ((l.take i).map Rec.id))),(4,.x (.one (.int .i64 (qb (l.take i))))),(12,.x (.one (.list 7 (l.map Rec.row)))),(13,.x (.one (.int .i64 l.length))),(14,.x (.one (.int .i64 i)))])
  (fun i=>i<=l.length/\F=A3 ((l.take i).map Rec.id) (qb (l.take i)) (l.drop i)/\∀r∈l.take i,ji r=0) (fun i=>l.length-i) 0 ⟨cd _,by simpa[qb]using a8,by simp⟩ ?_ ?_
 ·simp[yl,qb]
 rintro i ⟨ai,bc,Hn⟩;have zJq:=Yb Hn;have Ij:(l.take i).length<=1000:=by simp;omega
 by_cases aq:i<l.length
 ·have aO:((i:Int)<(l.length:Int))=True:=aL (by omega);have bG:i64.wrap ((i:Int)+1)=(i:Int)+1:=bk _ (by omega);have bm:l[i].row=[.int .i64 l[i].kind,.str l[i].id,.str l[i].of,.int .i64 l[i].time,.str l[i].key,.list 2 (l[i].bd.map Head.row),dj l[i].block]:=rfl;have aF:=Le l[i];rw[g' aq]at bc;unfold A3 at bc;have ge:l.take (i+1)=l.take i++[l[i]]:=nF aq;obtain⟨f1,f2⟩:=W6 l[i].id ((l.take i).map Rec.id) 0;rw[bm]at aF;simp-implicitDefEqProofs[aq,aO,bm];refine aA.of aF ?_;by_cases an:ji l[i]=0
  ·rw[au (by simpa using an)]at bc;have eF:=zkN (DV an);have hlen:=QQ (DV an);have aP:=zkC l[i] eF;rw[bm]at aP;rw[an];have dg:=j4 (qa l[i]);have zkO:i64.wrap ((qb (l.take i):Int)+((qa l[i]).length:Int))=((qb (l.take i):Int)+((qa l[i]).length:Int)):=bk _ (by omega);by_cases fH:l[i].id∈(l.take i).map Rec.id
   ·obtain⟨j,ay,ac⟩:=f2 fH;rw[f_]at ay;rw[aC fH]at bc;subst bc;have Ye:(yl ((l.take i).map Rec.id))[j]?=some (.one (.str l[i].id),.one (.bool true)):=by
     unfold yl;rw[dO,ac];rfl
    simp only[yc]at ay Ye;simp-implicitDefEqProofs[ay,Ye]
   ·have ay:=f1 fH;rw[au fH]at bc;simp only[yc]at ay;simp-implicitDefEqProofs[ay];refine aA.of aP ?_;simp-implicitDefEqProofs[dg];refine bI.of (i+1) ⟨aq,?_,fun r hm=>?_⟩ (by omega) ?_
    ·rw[ge,Yc,vn];exact bc
    ·rw[ge]at hm;rcases gv.1 hm with h|h
     ·exact Hn r h
     ·obtain rfl:r=l[i]:=by simpa using h
      exact an
    ·rw[ge,Yc];simp[bG,zkO,yl,List.range_succ];rw[nF (by simpa using aq)];simp
  ·rw[aC an]at bc;subst bc;simp-implicitDefEqProofs[an]
 ·have eN:i=l.length:=by omega
  subst eN;have aO:((l.length:Int)<(l.length:Int))=False:=aV (by omega);rw[Dj]at bc;unfold A3 at bc;generalize qb (l.take l.length)=n at*;by_cases bD:500000<n
  ·rw[aC bD]at bc;subst bc;have QR:(500000<(n:Int))=True:=aL (by omega);simp-implicitDefEqProofs[QR]
  ·rw[au bD]at bc;subst bc;have QR:(500000<(n:Int))=False:=aV (by omega);simp-implicitDefEqProofs[QR]
def QS(b:List UInt8)(a:Nat):a<=gX b a:=by unfold gX;split<;>omega
def wA{P:bx->Prop}{r:Bool×bx}{f:bx->Bool×bx}(h:P r.2)(ay:∀x:bx,P x->P (f x).2):P (p9 r f).2:=by
 obtain⟨c,x⟩:=r;cases c
 ·exact h
 ·exact ay x h
def bx.from_(a:Nat)(x:bx):Prop:=a<=x.at_
def Yf{a:Nat}(w:List UInt8){x:bx}(h:x.from_ a):(n_ w x).2.from_ a:=by
 show a<=(p6 x w).at_;unfold p6;split
 ·exact iJ h (QS _ _)
 ·exact h
def A4{a:Nat}(w:List UInt8)(F:List UInt8->Bool)(G:bx->List UInt8->bx){x:bx}(h:x.from_ a)(dB:∀s,(G x s).at_=x.at_):(lO w F G x).2.from_ a:=by
 show a<=(o7 x w F (G x)).at_;unfold o7;split
 ·split
  ·exact iJ h (QS _ _)
  ·rw[dB];exact h
 ·exact h
def Yg{a:Nat}:∀(n:Nat) {y:bx},y.from_ a->(rn n y).2.from_ a
 |0,y,h=>h
 |n+1,y,h=>by
  unfold rn;split
  ·exact h
  ·split
   ·exact Yg n (y:={y with bd:=_,at_:=_}) (iJ h (QS _ _))
   ·exact h
def zkP{a:Nat}{x:bx}(h:x.from_ a):(rm o_ o9 o8 x).2.from_ a:=by
 unfold rm;refine wA (Yf _ h) fun x h=>wA (A4 _ _ _ h fun _=>rfl) fun x h=>wA ?_ fun x h=>wA (A4 _ _ _ h fun _=>rfl) fun x h=>
  wA (A4 _ _ _ h fun _=>rfl) fun x h=>wA (A4 _ _ _ h fun _=>rfl) fun x h=>wA (Yg _ h) fun x h=>
  wA (A4 _ _ _ h fun s=>by split<;>rfl) fun x h=>wA (A4 _ _ _ h fun _=>rfl) fun x h=>Yf _ h
 unfold K_;split
 ·exact A4 _ _ _ h fun _=>rfl
 ·exact h
def zkQ{b:List UInt8}{a:Nat}(ae:b.length<=16777216)(bj:a<=b.length):(pb b a).pc b:=⟨⟨ae,bj⟩,rfl,by simp[pb],by simp[pb]⟩
def QT{b:List UInt8}{a:Nat}(ae:b.length<=16777216)(bj:a<=b.length)(h:(iH b a).2.2=0):a<(iH b a).2.1/\(iH b a).2.1<=b.length/\ji (iH b a).1=0:=by
 have aB:=X6 (zkQ ae bj);have ay:=zkP (a:=a) (x:=pb b a) (eG a);unfold iH at h⊢;generalize rm o_ o9 o8 (pb b a)=r at*;dsimp only at h⊢;unfold bx.from_ at ay;by_cases aa:r.1=false
 ·rw[aC aa]at h;cases h
 rw[au aa]at h⊢;by_cases ab:b.length<r.2.at_+r.2.length.toNat+4
 ·rw[aC ab]at h;cases h
 rw[au ab]at h⊢;by_cases ar:(b.drop (r.2.at_+r.2.length.toNat)).take 4≠Hm
 ·rw[aC ar]at h;cases h
 rw[au ar]at h⊢;by_cases aN:wv ((b.drop r.2.at_).take r.2.length.toNat)≠r.2.hX
 ·rw[aC aN]at h;cases h
 rw[au aN]at h⊢;by_cases bD:ji (r.2.yu ((b.drop r.2.at_).take r.2.length.toNat))≠0
 ·rw[aC bD]at h;exact absurd h bD
 rw[au bD];exact⟨by simp only;omega,by simp only;omega,by simpa using bD⟩
structure Mark where
 id:List UInt8
 aK:Nat
 ai:Nat
def Mark.row(m:Mark):List af:=[.str m.id,.int .i64 m.aK,.int .i64 m.ai]
def A5(l:List Mark):az:=.one (.list 3 (l.map Mark.row))
def nm:Nat->List UInt8->Nat->List Rec->List Mark->List Rec×List Mark×Nat×Int
 |0,_,_,_,_=>([],[],0,0)
 |n+1,b,a,L,M=>
  if a<b.length then
   if (iH b a).2.2≠0 then ([],[],(iH b a).2.1,(iH b a).2.2)
   else nm n b (iH b a).2.1 (L++[(iH b a).1]) (M++[⟨(iH b a).1.id,a,(iH b a).2.1⟩])
  else if nk L≠0 then ([],[],0,nk L)else (L,M,0,0)
def Hp(b:List UInt8)(a:Nat)(L:List Rec)(M:List Mark):List Rec×List Mark×Nat×Int:=nm (b.length+1) b a L M
def e'(b:List UInt8):List Rec×List Mark×Nat×Int:=if 500000<b.length then ([],[],0,2)else Hp b 0 [] []
def Yh{b:List UInt8}(ae:b.length<=16777216):∀(n m a:Nat) (L:List Rec) (M:List Mark),a<=b.length->b.length<n+a->b.length<m+a->nm n b a L M=nm m b a L M
 |0,_,a,_,_,h,aa,_=>by omega
 |_+1,0,a,_,_,h,_,ab=>by omega
 |n+1,m+1,a,L,M,h,aa,ab=>by
  unfold nm;by_cases aq:a<b.length
  ·rw[aC aq,aC aq];by_cases ay:(iH b a).2.2≠0
   ·rw[aC ay,aC ay]
   ·rw[au ay,au ay];obtain⟨aF,aP,_⟩:=QT ae h (by simpa using ay);exact Yh ae n m _ _ _ aP (by omega) (by omega)
  ·rw[au aq,au aq]
def zkR{b:List UInt8}(ae:b.length<=16777216){a:Nat}(h:a<=b.length)(L:List Rec)(M:List Mark):Hp b a L M =
  if a<b.length then
   if (iH b a).2.2≠0 then ([],[],(iH b a).2.1,(iH b a).2.2)
   else Hp b (iH b a).2.1 (L++[(iH b a).1]) (M++[⟨(iH b a).1.id,a,(iH b a).2.1⟩])
  else if nk L≠0 then ([],[],0,nk L)else (L,M,0,0):=by
 conv=>lhs;unfold Hp nm
 by_cases aq:a<b.length
 ·rw[aC aq,aC aq];by_cases ay:(iH b a).2.2≠0
  ·rw[aC ay,aC ay]
  ·rw[au ay,au ay];obtain⟨aF,aP,_⟩:=QT ae h (by simpa using ay);exact Yh ae _ _ _ _ _ aP (by omega) (by omega)
 ·rw[au aq,au aq]
def Yi(b:List UInt8):aD prog 65 [.one (dj b)] (.b2 [jj (e' b).1,A5 (e' b).2.1,.one (.int .i64 (e' b).2.2.1),.one (.int .i64 (e' b).2.2.2)]):=by
 obtain⟨R,aR⟩:∃R,R=e' b:=⟨_,rfl⟩
 rw[<-aR];unfold e' at aR;unfold jj A5;have dg:=j4 b;refine @aD.of _ (xM [(10,[1,1,1,4,8,7,7,7,7,7,7,7,9,0,0])]) _ _ _ _ _ mixed (fn:=f65) (by kernel_rfl) (by kernel_rfl) rfl (by kernel_rfl) (by simp[f65]) (fun aE=>?_);by_cases aa:500000<b.length
 ·rw[aC aa]at aR;subst aR;have dx:(500000<(b.length:Int))=True:=aL (by omega);simp-implicitDefEqProofs[dg,dx]
 rw[au aa]at aR;have dx:(500000<(b.length:Int))=False:=aV (by omega);simp-implicitDefEqProofs[dg,dx];refine cI.of (Nat×List Rec×List Mark) (fun x=>[(0,.x (.one (dj b))),(6,.own 108 7 (x.2.1.map Rec.row)),(7,.own 104 3 (x.2.2.map Mark.row)),(8,.x (.one (.int .i64 x.1)))])
  (fun x=>x.1<=b.length/\R=Hp b x.1 x.2.1 x.2.2/\x.2.1.length<=x.1/\x.2.2.length<=x.1) (fun x=>b.length-x.1) (0,[],[]) ⟨cd _,aR,eG _,eG _⟩ ?_ ?_
 ·simp
 rintro⟨a,L,M⟩ ⟨bj,ah,jn,ho⟩;dsimp only at bj ah jn ho⊢;have ae:b.length<=16777216:=by omega
 rw[zkR ae bj]at ah;by_cases aq:a<b.length
 ·rw[aC aq]at ah;have aO:((a:Int)<(b.length:Int))=True:=aL (by omega);have aF:=zkH b a ae bj;have aT:=QT ae bj;generalize iH b a=o at*;obtain⟨r,A6,f⟩:=o;unfold QO at aF;dsimp only at*;have bm:r.row=[.int .i64 r.kind,.str r.id,.str r.of,.int .i64 r.time,.str r.key,.list 2 (r.bd.map Head.row),dj r.block]:=rfl;rw[bm]at aF;simp-implicitDefEqProofs[dg,aO];refine aA.of aF ?_;by_cases ay:f=0
  ·subst ay;rw[au (by decide)]at ah;obtain⟨jw,mV,_⟩:=aT rfl;simp-implicitDefEqProofs;refine⟨by unfold maxLen;omega,by unfold maxLen;omega,?_⟩;exact bI.of (A6,L++[r],M++[⟨r.id,a,A6⟩]) ⟨mV,ah,by simp;omega,by simp;omega⟩ (by simp only;omega) (by simp[bm,Mark.row])
  ·rw[aC ay]at ah;subst ah;have mi:(f=0)=False:=aV ay;simp-implicitDefEqProofs[mi]
 ·rw[au aq]at ah;have aO:((a:Int)<(b.length:Int))=False:=aV (by omega);have aP:=Yd L;unfold jj at aP;generalize nk L=f at*;simp-implicitDefEqProofs[dg,aO];refine aA.of aP ?_;by_cases ay:f=0
  ·rw[au (by simpa using ay)]at ah;subst ah;subst ay;simp-implicitDefEqProofs
  ·rw[aC ay]at ah;subst ah;have mi:(f=0)=False:=aV ay;simp-implicitDefEqProofs[mi]
def Yj(b:List UInt8):aD prog 36 [.one (dj b)] (.b2 [jj (e' b).1,.one (.int .i64 (e' b).2.2.1),.one (.int .i64 (e' b).2.2.2)]):=by have k:=Yi b;generalize e' b=R at*;unfold jj A5 at*;refine aD.a6 f36 mixed fun aE=>?_;simp-implicitDefEqProofs;refine aA.of k ?_;simp-implicitDefEqProofs
def Yk(b:List UInt8):aD prog 37 [.one (dj b)] (.b2 [A5 (e' b).2.1,.one (.int .i64 (e' b).2.2.2)]):=by have k:=Yi b;generalize e' b=R at*;unfold jj A5 at*;refine aD.a6 f37 mixed fun aE=>?_;simp-implicitDefEqProofs;refine aA.of k ?_;simp-implicitDefEqProofs
end Go.Proofs.YtaalfcghmjkaeaaGreatDoor
