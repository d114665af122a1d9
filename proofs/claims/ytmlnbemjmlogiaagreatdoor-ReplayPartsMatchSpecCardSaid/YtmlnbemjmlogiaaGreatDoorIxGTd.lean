/- Lemmas. -/
import Derived.Test.YtmlnbemjmlogiaaGreatDoorIxGTc
import Derived.Shelf.Strings.IndexAnyAll
set_option linter.all false
set_option maxHeartbeats 8000000
set_option maxRecDepth 100000
namespace Go.Proofs.YtmlnbemjmlogiaaGreatDoor
open Go Go.Ab Go.IntKind Go.Proofs.Tryz
section
variable [bn][cF prog]
def zpR(s Y D H I S:aq)(m:Nat)(tT:Y.all da=true)(hM:D.all da=true)(tU:H.all da=true)(lc:I.all da=true)(bS:S.all da=true)
  (eo:D.length=2)(i6:Y.length=4)(jI:H.length=2)(sw:I.length=2)(zX:S.length=2)(hm:1<=m/\m<=12)
  (al:s.length=29)(bw:b4 s 8 11=jJ m)(bA:b4 s 12 16=Y)(cJ:b4 s 5 7=D)(fv:b4 s 17 19=H)(lh:b4 s 20 22=I)(qr:b4 s 23 25=S)
  (B:Prop)[Decidable B](bk:B↔(Rz Y D H I S m/\hl (tS Y D H I S m)=s)) :
  az prog 54 [.one (.str s)] (.b2 [.one (.int .i64 (if B then tS Y D H I S m else 0)),.one (.int .i64 (if B then 0 else 10))]):=by
 have lm:=RM m hm;have lA:=fun ak=>YS (Y:=Y) (D:=D) (H:=H) (I:=I) (S:=S) (m:=m) ak tT hM tU lc bS eo i6 jI sw zX;have TN:∀j:Nat,1<=j/\j<=12->jJ j=jJ m->j=m:=fun j h e=>zkp h hm e;have zbO:=qo Y tT;have zbP:=qo D hM;have zbQ:=qo H tU;have FH:=qo I lc;have Jz:=qo S bS;rw[i6]at zbO;rw[eo]at zbP;rw[jI]at zbQ;rw[sw]at FH;rw[zX]at Jz;have AA:=vk Y;have AB:=vk D;have AC:=vk H;have AD:=vk I;have AE:=vk S;rw[tT,show decide (Y≠[])=true by simp;intro e;rw[e]at i6;cases i6]at AA;rw[hM,show decide (D≠[])=true by simp;intro e;rw[e]at eo;cases eo]at AB;rw[tU,show decide (H≠[])=true by simp;intro e;rw[e]at jI;cases jI]at AC;rw[lc,show decide (I≠[])=true by simp;intro e;rw[e]at sw;cases sw]at AD;rw[bS,show decide (S≠[])=true by simp;intro e;rw[e]at zX;cases zX]at AE;have NB:=wU Y tT (by omega) (by omega);have NC:=wU D hM (by omega) (by omega);have ND:=wU H tU (by omega) (by omega);have NE:=wU I lc (by omega) (by omega);have NF:=wU S bS (by omega) (by omega);have ql:B↔(yi (bV Y:Nat) m (bV D:Nat) (bV H:Nat) (bV I:Nat) (bV S:Nat)/\hl (tS Y D H I S m)=s):=bk;have AF:yi (bV Y:Nat) m (bV D:Nat) (bV H:Nat) (bV I:Nat) (bV S:Nat)->fM (tS Y D H I S m)=true:=fun ak=>(lA ak).1;have gS:tS Y D H I S m=(dn (bV Y:Nat)+ef (bV Y:Nat) m+(bV D:Nat)-1)*86400+(bV H:Nat)*3600+(bV I:Nat)*60+(bV S:Nat):=rfl;clear bk lA;generalize tS Y D H I S m=N at ql AF gS⊢;generalize bV Y=y at NB zbO ql AF gS;generalize bV D=d at NC zbP ql AF gS;generalize bV H=h at ND zbQ ql AF gS;generalize bV I=qH at NE FH ql AF gS;generalize bV S=ul at NF Jz ql AF gS;unfold yi at ql AF;refine az.bd f54 mixed fun aD=>?_;simp[al];refine ck.of Nat (fun i=>[(0,.x (.one (.str s))),(4,.box [.int .i64 ((if 0<i then d else 0:Nat):Int),.int .i64 ((if 1<i then y else 0:Nat):Int),.int .i64 ((if 2<i then h else 0:Nat):Int),.int .i64 ((if 3<i then qH else 0:Nat):Int),.int .i64 ((if 4<i then ul else 0:Nat):Int)]),(16,.own 3 1 [[.int .i64 5],[.int .i64 12],[.int .i64 17],[.int .i64 20],[.int .i64 23]]),(17,.x (.one (.int .i64 5))),(18,.x (.one (.int .i64 i)))]) (fun i=>i=0\/i=1\/i=2\/i=3\/i=4\/i=5) (fun i=>5-i) 0 (.inl rfl) ?_ ?_
 ·simp
 have sQ:=bc 1;have w6:=bc 2;have TO:=bc 3;have TP:=bc 4;have TQ:=bc 5;have F5:=bc 7;have F6:=bc 16;have F7:=bc 19;have F8:=bc 22;have F9:=bc 25;rintro i (rfl|rfl|rfl|rfl|rfl|rfl)
 ·simp[al,F5,cJ];refine aH.of AB ?_;simp[al,F5,cJ];refine aH.of NC ?_;simp;refine bt.of 1 (by omega) (by omega) ?_;simp[sQ]
 ·simp[al,F6,bA];refine aH.of AA ?_;simp[al,F6,bA];refine aH.of NB ?_;simp;refine bt.of 2 (by omega) (by omega) ?_;simp[w6]
 ·simp[al,F7,fv];refine aH.of AC ?_;simp[al,F7,fv];refine aH.of ND ?_;simp;refine bt.of 3 (by omega) (by omega) ?_;simp[TO]
 ·simp[al,F8,lh];refine aH.of AD ?_;simp[al,F8,lh];refine aH.of NE ?_;simp;refine bt.of 4 (by omega) (by omega) ?_;simp[TP]
 ·simp[al,F9,qr];refine aH.of AE ?_;simp[al,F9,qr];refine aH.of NF ?_;simp;refine bt.of 5 (by omega) (by omega) ?_;simp[TQ]
 simp;refine ck.of Nat (fun j=>[(0,.x (.one (.str s))),(4,.box [.int .i64 (d:Int),.int .i64 (y:Int),.int .i64 (h:Int),.int .i64 (qH:Int),.int .i64 (ul:Int)]),(8,.x (.one (.int .i64 j)))]) (fun j=>1<=j/\j<=m) (fun j=>m-j) 1 ⟨by omega,hm.1⟩ ?_ ?_
 ·simp
 rintro j ⟨zpS,zpT⟩;have um:((j:Int)<=12)=True:=aY;have TR:=bc ((j:Int)+1);have fW:=RL j ⟨by omega,by omega⟩;by_cases gP:j=m;rotate_left
 ·have bY:¬jJ j=jJ m:=fun e=>gP (TN j ⟨by omega,by omega⟩ e);simp[um];refine b_.of (fun _=>fW) rfl ?_;simp[um,al,bw,bY,TR];refine bt.of (j+1) ⟨by omega,by omega⟩ (by omega) (by simp)
 subst gP;have g12:(12<(j:Int))=False:=a8;by_cases aE:(1970:Int)<=y;rotate_left
 ·have F_:((y:Int)<1970)=True:=aY;have ad:¬B:=fun ad=>by have:=(ql.1 ad).1;omega
  rw[an ad,an ad];simp[um];refine b_.of (fun _=>fW) rfl ?_;simp[al,bw,g12,F_];refine gH 0 ?_;simp;refine e7 false ?_;simp
 have F_:((y:Int)<1970)=False:=a8;by_cases aQ:(h:Int)<=23;rotate_left
 ·have JA:(23<(h:Int))=True:=aY;have ad:¬B:=fun ad=>by have:=(ql.1 ad).1;omega
  rw[an ad,an ad];simp[um];refine b_.of (fun _=>fW) rfl ?_;simp[al,bw,g12,F_,JA];refine gH 0 ?_;simp;refine e7 false ?_;simp
 have JA:(23<(h:Int))=False:=a8;by_cases bf:(qH:Int)<=59;rotate_left
 ·have NG:(59<(qH:Int))=True:=aY;have ad:¬B:=fun ad=>by have:=(ql.1 ad).1;omega
  rw[an ad,an ad];simp[um];refine b_.of (fun _=>fW) rfl ?_;simp[al,bw,g12,F_,JA,NG];refine gH 0 ?_;simp;refine e7 false ?_;simp
 have NG:(59<(qH:Int))=False:=a8;by_cases bM:(ul:Int)<=59;rotate_left
 ·have TS:(59<(ul:Int))=True:=aY;have ad:¬B:=fun ad=>by have:=(ql.1 ad).1;omega
  rw[an ad,an ad];simp[um];refine b_.of (fun _=>fW) rfl ?_;simp[al,bw,g12,F_,JA,NG,TS];refine gH 0 ?_;simp;refine e7 false ?_;simp
 have TS:(59<(ul:Int))=False:=a8;have ji:=Mu (y:Int) (j:Int) (by omega) (by omega);have Ln:=yl (y:Int) (j:Int);simp[um];refine b_.of (fun _=>fW) rfl ?_;simp[al,bw,g12,F_,JA,NG,TS];refine b_.of (fun _=>ji) rfl ?_;simp;refine b_.of (fun _=>Ry _ _ _) rfl ?_;cases dz:dh 1 (km (y:Int) (j:Int)) (d:Int)
 ·have ad:¬B:=fun ad=>by
   have:=(ql.1 ad).1.2.2.1;simp[dh]at dz;omega
  rw[an ad,an ad];simp
 have zpU:1<=(d:Int)/\(d:Int)<=km (y:Int) (j:Int):=by simpa only[dh,b7,hk]using dz
 have ak:1970<=(y:Int)/\(1<=(j:Int)/\(j:Int)<=12)/\(1<=(d:Int)/\(d:Int)<=km (y:Int) (j:Int))/\(0<=(h:Int)/\(h:Int)<=23)/\(0<=(qH:Int)/\(qH:Int)<=59)/\(0<=(ul:Int)/\(ul:Int)<=59):=⟨aE,by omega,zpU,by omega,by omega,by omega⟩
 have fK:=AF ak;have zbR:B↔hl N=s:=by rw[ql];exact⟨fun x=>x.2,fun x=>⟨ak,x⟩⟩
 have wd:=bc ((d:Int)-1);have mZ:=Y3 N fK;have v_:∀z:Int,1970<=z->z<=10000->0<=dn z/\dn z<=2932897:=fun z aa ab=>by
  have c_:=sy (a:=1970) (b:=z) aa;have a2:=sy (a:=z) (b:=10000) ab;rw[MK]at c_;have a3:dn 10000=2932897:=by decide
  omega
 have zpV:∀z:Int,1<=z->z<=13->0<=ef (y:Int) z/\ef (y:Int) z<=366:=fun z aa ab=>by have c_:=sx (y:Int) (a:=1) (b:=z) (by omega) aa;have a2:=sx (y:Int) (a:=z) (b:=13) (by omega) ab;rw[yj]at c_;rw[Mq]at a2;have:=Fe (y:Int);omega
 simp[wd];refine ck.of Nat (fun z=>[(0,.x (.one (.str s))),(4,.box [.int .i64 (d:Int),.int .i64 (y:Int),.int .i64 (h:Int),.int .i64 (qH:Int),.int .i64 (ul:Int)]),(8,.x (.one (.int .i64 j))),(9,.x (.one (.int .i64 ((d:Int)-1+dn z)))),(10,.x (.one (.int .i64 z)))]) (fun z=>1970<=z/\z<=y) (fun z=>y-z) 1970 ⟨by omega,by omega⟩ ?_ ?_
 ·simp[MK]
 rintro z ⟨Ee,z2⟩;obtain⟨zpW,zpX⟩:=v_ z (by omega) (by omega);by_cases aZ:z<y
 ·have TT:((z:Int)<(y:Int))=True:=aY;have uS:=Fe (z:Int);have zpY:=RI (z:Int) (by omega);have ds:=bc ((d:Int)-1+dn z+oC z);have dV:=bc ((z:Int)+1);have cu:=Cu (z:Int);simp[TT];refine aH.of zpY ?_;simp[ds,dV];refine bt.of (z+1) ⟨by omega,by omega⟩ (by omega) ?_;simp;omega
 have TT:((z:Int)<(y:Int))=False:=a8;have zpZ:z=y:=by omega
 subst zpZ;simp[TT];refine ck.of Nat (fun n=>[(0,.x (.one (.str s))),(4,.box [.int .i64 (d:Int),.int .i64 (z:Int),.int .i64 (h:Int),.int .i64 (qH:Int),.int .i64 (ul:Int)]),(8,.x (.one (.int .i64 j))),(9,.x (.one (.int .i64 ((d:Int)-1+dn z+ef z n)))),(11,.x (.one (.int .i64 n)))]) (fun n=>1<=n/\n<=j) (fun n=>j-n) 1 ⟨by omega,by omega⟩ ?_ ?_
 ·simp[yj]
 rintro n ⟨kI,jE⟩;obtain⟨zqa,zqb⟩:=zpV n (by omega) (by omega);by_cases aX:n<j
 ·have wk:((n:Int)<(j:Int))=True:=aY;have nx:=yl (z:Int) (n:Int);have zqc:=Mu (z:Int) (n:Int) (by omega) (by omega);have ds:=bc ((d:Int)-1+dn z+ef z n+km z n);have dV:=bc ((n:Int)+1);have cu:=yk (z:Int) (n:Int) (by omega);simp[wk];refine aH.of zqc ?_;simp[ds,dV];refine bt.of (n+1) ⟨by omega,by omega⟩ (by omega) ?_;simp;omega
 have wk:((n:Int)<(j:Int))=False:=a8;have zqd:n=j:=by omega
 subst zqd;obtain⟨Q,Cx⟩:∃Q,Q=dn (z:Int):=⟨_,rfl⟩
 obtain⟨R,aC⟩:∃R,R=ef (z:Int) (n:Int):=⟨_,rfl⟩
 rw[<-Cx]at zpW zpX gS⊢;rw[<-aC]at zqa zqb gS⊢;have cd:=bc (((d:Int)-1+Q+R)*86400);have fI:=bc ((h:Int)*3600);have gp:i64.wrap (((d:Int)-1+Q+R)*86400+(h:Int)*3600)=((d:Int)-1+Q+R)*86400+h*3600:=bc _;have tH:=bc ((qH:Int)*60);have mr:i64.wrap (((d:Int)-1+Q+R)*86400+(h:Int)*3600+(qH:Int)*60)=((d:Int)-1+Q+R)*86400+h*3600+qH*60:=bc _;have C7:i64.wrap (((d:Int)-1+Q+R)*86400+(h:Int)*3600+(qH:Int)*60+(ul:Int))=((d:Int)-1+Q+R)*86400+h*3600+qH*60+ul:=bc _;have zqe:((d:Int)-1+Q+R)*86400+h*3600+qH*60+ul=N:=by rw[gS];omega
 have C7:=C7.trans zqe;simp[wk,cd,fI,gp,tH,mr,C7];refine aH.of mZ ?_;by_cases ad:B
 ·have aA:=zbR.1 ad;rw[av ad,av ad];simp[aA]
 ·have aA:¬hl N=s:=fun e=>ad (zbR.2 e);rw[an ad,an ad];simp[aA]
def qI{s:aq}{a b:Nat}(h:s.length=29)(ad:b<=29):(b4 s (a:Int) (b:Int)).length=b-a:=by
 unfold b4;simp only[kO]
 first
  |(rw[e',eP];omega)
  |(rw[eP,e'];omega)
def zqf(s:aq)(gI:¬(s.length=29/\(i' s).all (fun x=>x.all da)=true/\jo s≠0)):az prog 54 [.one (.str s)] (.b2 [.one (.int .i64 0),.one (.int .i64 10)]):=by
 by_cases al:s.length=29;rotate_left
 ·have dK:((s.length:Int)=29)=False:=a8;refine az.bd f54 mixed fun aD=>?_;simp[dK]
 have zbS:(b4 s 5 7).length=2:=qI (a:=5) (b:=7) al (by omega);have AB:=vk (b4 s 5 7);have zqg:decide (b4 s 5 7≠[])=true:=by simp;intro e;rw[e]at zbS;cases zbS
 rw[zqg,sE]at AB;have NC:=fun h=>wU (b4 s 5 7) h (by omega) (by omega);have zqh:i' s=[b4 s 5 7,b4 s 12 16,b4 s 17 19,b4 s 20 22,b4 s 23 25]:=rfl;generalize j6:b4 s 5 7=D at*;have zbT:(b4 s 12 16).length=4:=qI (a:=12) (b:=16) al (by omega);have AA:=vk (b4 s 12 16);have zqi:decide (b4 s 12 16≠[])=true:=by simp;intro e;rw[e]at zbT;cases zbT
 rw[zqi,sE]at AA;have NB:=fun h=>wU (b4 s 12 16) h (by omega) (by omega);generalize j4:b4 s 12 16=Y at*;have zbU:(b4 s 17 19).length=2:=qI (a:=17) (b:=19) al (by omega);have AC:=vk (b4 s 17 19);have zqj:decide (b4 s 17 19≠[])=true:=by simp;intro e;rw[e]at zbU;cases zbU
 rw[zqj,sE]at AC;have ND:=fun h=>wU (b4 s 17 19) h (by omega) (by omega);generalize pu:b4 s 17 19=H at*;have zbV:(b4 s 20 22).length=2:=qI (a:=20) (b:=22) al (by omega);have AD:=vk (b4 s 20 22);have zqk:decide (b4 s 20 22≠[])=true:=by simp;intro e;rw[e]at zbV;cases zbV
 rw[zqk,sE]at AD;have NE:=fun h=>wU (b4 s 20 22) h (by omega) (by omega);generalize sB:b4 s 20 22=I at*;have zbW:(b4 s 23 25).length=2:=qI (a:=23) (b:=25) al (by omega);have AE:=vk (b4 s 23 25);have zql:decide (b4 s 23 25≠[])=true:=by simp;intro e;rw[e]at zbW;cases zbW
 rw[zql,sE]at AE;have NF:=fun h=>wU (b4 s 23 25) h (by omega) (by omega);generalize oD:b4 s 23 25=S at*;have sQ:=bc 1;have w6:=bc 2;have TO:=bc 3;have TP:=bc 4;have TQ:=bc 5;have F5:=bc 7;have F6:=bc 16;have F7:=bc 19;have F8:=bc 22;have F9:=bc 25;refine az.bd f54 mixed fun aD=>?_;simp[al];refine ck.of (Nat×Int×Int×Int×Int×Int) (fun x=>[(0,.x (.one (.str s))),(4,.box [.int .i64 x.2.1,.int .i64 x.2.2.1,.int .i64 x.2.2.2.1,.int .i64 x.2.2.2.2.1,.int .i64 x.2.2.2.2.2]),(16,.own 3 1 [[.int .i64 5],[.int .i64 12],[.int .i64 17],[.int .i64 20],[.int .i64 23]]),(17,.x (.one (.int .i64 5))),(18,.x (.one (.int .i64 x.1)))]) (fun x=>(x.1=0\/x.1=1\/x.1=2\/x.1=3\/x.1=4\/x.1=5)/\(0<x.1->D.all da=true)/\(1<x.1->Y.all da=true)/\(2<x.1->H.all da=true)/\(3<x.1->I.all da=true)/\(4<x.1->S.all da=true)) (fun x=>5-x.1) (0,0,0,0,0,0) ⟨.inl rfl,by simp,by simp,by simp,by simp,by simp⟩ ?_ ?_
 ·simp
 rintro⟨i,v0,v1,v2,v3,v4⟩ ⟨ah,tW,q1,dt,d_,fi⟩;dsimp only at ah tW q1 dt d_ fi⊢;rcases ah with rfl|rfl|rfl|rfl|rfl|rfl
 ·cases h:D.all da
  ·rw[h]at AB;simp[al,F5,j6];refine aH.of AB ?_;simp
  ·rw[h]at AB;simp[al,F5,j6];refine aH.of AB ?_;simp[al,F5,j6];refine aH.of (NC h) ?_;simp;refine bt.of (1,(bV D:Nat),v1,v2,v3,v4) ⟨by omega,fun _=>rfl,fun e=>absurd e (by simp),fun e=>absurd e (by simp),fun e=>absurd e (by simp),fun e=>absurd e (by simp)⟩ (by dsimp only;omega) ?_;simp[sQ]
 ·cases h:Y.all da
  ·rw[h]at AA;simp[al,F6,j4];refine aH.of AA ?_;simp
  ·rw[h]at AA;simp[al,F6,j4];refine aH.of AA ?_;simp[al,F6,j4];refine aH.of (NB h) ?_;simp;refine bt.of (2,v0,(bV Y:Nat),v2,v3,v4) ⟨by omega,fun _=>tW (by omega),fun _=>rfl,fun e=>absurd e (by simp),fun e=>absurd e (by simp),fun e=>absurd e (by simp)⟩ (by dsimp only;omega) ?_;simp[w6]
 ·cases h:H.all da
  ·rw[h]at AC;simp[al,F7,pu];refine aH.of AC ?_;simp
  ·rw[h]at AC;simp[al,F7,pu];refine aH.of AC ?_;simp[al,F7,pu];refine aH.of (ND h) ?_;simp;refine bt.of (3,v0,v1,(bV H:Nat),v3,v4) ⟨by omega,fun _=>tW (by omega),fun _=>q1 (by omega),fun _=>rfl,fun e=>absurd e (by simp),fun e=>absurd e (by simp)⟩ (by dsimp only;omega) ?_;simp[TO]
 ·cases h:I.all da
  ·rw[h]at AD;simp[al,F8,sB];refine aH.of AD ?_;simp
  ·rw[h]at AD;simp[al,F8,sB];refine aH.of AD ?_;simp[al,F8,sB];refine aH.of (NE h) ?_;simp;refine bt.of (4,v0,v1,v2,(bV I:Nat),v4) ⟨by omega,fun _=>tW (by omega),fun _=>q1 (by omega),fun _=>dt (by omega),fun _=>rfl,fun e=>absurd e (by simp)⟩ (by dsimp only;omega) ?_;simp[TP]
 ·cases h:S.all da
  ·rw[h]at AE;simp[al,F9,oD];refine aH.of AE ?_;simp
  ·rw[h]at AE;simp[al,F9,oD];refine aH.of AE ?_;simp[al,F9,oD];refine aH.of (NF h) ?_;simp;refine bt.of (5,v0,v1,v2,v3,(bV S:Nat)) ⟨by omega,fun _=>tW (by omega),fun _=>q1 (by omega),fun _=>dt (by omega),fun _=>d_ (by omega),fun _=>rfl⟩ (by dsimp only;omega) ?_;simp[TQ]
 have fK:jo s=0:=by refine Nz fun h=>gI ⟨al,?_,h⟩;rw[zqh];simp[tW (by omega),q1 (by omega),dt (by omega),d_ (by omega),fi (by omega)]
 have TN:∀j:Nat,1<=j/\j<=12->jJ j≠b4 s 8 11:=by
  intro j ac e;unfold jo at fK;have hU:∀m:Fin 13,1<=m.val->(py.findIdx? fun x=>x==jJ m.val)=some (m.val-1):=by decide
  have:=hU ⟨j,by omega⟩ (by simp only;omega);simp only at this;rw[<-e,this]at fK;simp at fK
 simp;refine ck.of Nat (fun j=>[(0,.x (.one (.str s))),(4,.box [.int .i64 v0,.int .i64 v1,.int .i64 v2,.int .i64 v3,.int .i64 v4]),(8,.x (.one (.int .i64 j)))]) (fun j=>1<=j/\j<=13) (fun j=>13-j) 1 ⟨by omega,by omega⟩ ?_ ?_
 ·simp
 rintro j ⟨zpS,zpT⟩;generalize ap:b4 s 8 11=C at*;by_cases ac:j<=12
 ·have um:((j:Int)<=12)=True:=aY;have TR:=bc ((j:Int)+1);have fW:=RL j ⟨by omega,by omega⟩;have bY:=TN j ⟨by omega,ac⟩;simp[um];refine b_.of (fun _=>fW) rfl ?_;simp[um,al,ap,bY,TR];refine bt.of (j+1) ⟨by omega,by omega⟩ (by omega) (by simp)
 ·have um:((j:Int)<=12)=False:=a8;have g12:(12<(j:Int))=True:=aY;simp[um];refine ya ?_;simp[g12,al,ap];refine gH 0 ?_;simp;refine e7 false ?_;simp
def zqm{t:Int}(h:fM t=true):yi (bV (mu (hl t)):Nat) (jo (hl t):Nat) (bV (oI (hl t)):Nat) (bV (oJ (hl t)):Nat) (bV (oK (hl t)):Nat) (bV (oL (hl t)):Nat):=by
 obtain⟨zk,bw,bA,cJ,fv,lh,qr⟩:=Y5 t h;obtain⟨v_,fa⟩:=IS h;obtain⟨ak,he⟩:=zlr v_;have aU:g' (t/86400)<=9999:=(Cv (t/86400) (by omega)).top (by omega);obtain⟨aE,aQ,bf,bM,dz,iV⟩:=ak;have gc:=yl (g' (t/86400)) (kQ (t/86400));obtain⟨Y,j4⟩:∃Y:Nat,g' (t/86400)=Y:=⟨(g' (t/86400)).toNat,by omega⟩
 obtain⟨M,j5⟩:∃M:Nat,kQ (t/86400)=M:=⟨(kQ (t/86400)).toNat,by omega⟩
 obtain⟨D,j6⟩:∃D:Nat,na (t/86400)=D:=⟨(na (t/86400)).toNat,by omega⟩
 obtain⟨H,pu⟩:∃H:Nat,t%86400/3600=H:=⟨(t%86400/3600).toNat,by omega⟩
 obtain⟨I,sB⟩:∃I:Nat,t%86400/60%60=I:=⟨(t%86400/60%60).toNat,by omega⟩
 obtain⟨S,oD⟩:∃S:Nat,t%86400%60=S:=⟨(t%86400%60).toNat,by omega⟩
 rw[j5,kO]at bw;rw[j4,kO]at bA;rw[j6,kO]at cJ;rw[pu,kO]at fv;rw[sB,kO]at lh;rw[oD,kO]at qr;rw[j4,j5,j6,pu,sB,oD]at he;rw[j5,j4]at gc;rw[j4]at aE aU;rw[j5]at aQ;rw[j6,j4,j5]at bf;rw[pu]at bM;rw[sB]at dz;rw[oD]at iV;have fK:jo (hl t)=M:=by
  unfold jo;rw[bw];have hU:∀m:Fin 13,1<=m.val->(py.findIdx? fun x=>x==jJ m.val)=some (m.val-1):=by decide
  have:=hU ⟨M,by omega⟩ (by simp only;omega);simp only at this;rw[this];simp only;omega
 unfold mu oI oJ oK oL;rw[fK,bA,cJ,fv,lh,qr,Fw 4 Y (by omega),Fw 2 D (by omega),Fw 2 H (by omega),Fw 2 I (by omega),Fw 2 S (by omega)];exact⟨by omega,by omega,by omega,by omega,by omega,by omega⟩
def zbX(s:aq):az prog 54 [.one (.str s)] (.b2 [.one (.int .i64 (h9 s)),.one (.int .i64 (if hn s=true then 0 else 10))]):=by
 by_cases ay:s.length=29/\(i' s).all (fun x=>x.all da)=true/\jo s≠0;rotate_left
 ·have cl:hn s=false:=by
   rw[zN];intro h;unfold hn at h;simp only[b7,hk]at h;exact ay ⟨h.1,h.2.1,h.2.2.1⟩
  have Ck:h9 s=0:=by unfold h9;rw[cl];rfl
  rw[Ck,cl];exact zqf s ay
 obtain⟨al,aA,hm⟩:=ay;have am:i' s=[oI s,mu s,oJ s,oK s,oL s]:=rfl;rw[am]at aA;simp only[pr,Iv,sE,b7]at aA;obtain⟨TU,TV,TW,TX,TY⟩:=aA;have Su:=ZT s;have bw:b4 s 8 11=jJ (jo s):=by
  rw[<-ZR (jo s) ⟨by omega,Su⟩];unfold jo at hm⊢;cases h:py.findIdx? (·==b4 s 8 11)with
  |none=>rw[h]at hm;exact absurd rfl hm
  |some i=>
   have ab:=kT.1 h;obtain⟨ah,he,_⟩:=ab;simp only[zc];rw[lF,cr ah];have:py[i]=b4 s 8 11:=by simpa using he
   simp[this]
 have gS:tS (mu s) (oI s) (oJ s) (oK s) (oL s) (jo s)=yv s:=rfl;have bk:hn s=true↔(Rz (mu s) (oI s) (oJ s) (oK s) (oL s) (jo s)/\hl (tS (mu s) (oI s) (oJ s) (oK s) (oL s) (jo s))=s):=by
  rw[gS];constructor
  ·intro h;unfold hn at h;simp only[b7,hk]at h;obtain⟨_,_,_,_,h2,NH⟩:=h;refine⟨?_,NH⟩;have:=zqm h2;rw[NH]at this;exact this
  ·rintro⟨ak,NH⟩;have h2:=(YS ak TV TU TW TX TY (qI (a:=5) (b:=7) al (by omega)) (qI (a:=12) (b:=16) al (by omega)) (qI (a:=17) (b:=19) al (by omega)) (qI (a:=20) (b:=22) al (by omega)) (qI (a:=23) (b:=25) al (by omega))).1;rw[gS]at h2;have zqn:1970<=bV (mu s):=by have:=ak.1;omega
   unfold hn;rw[am];simp[al,TU,TV,TW,TX,TY,hm,zqn,h2,NH]
 have:=zpR s (mu s) (oI s) (oJ s) (oK s) (oL s) (jo s) TV TU TW TX TY (qI (a:=5) (b:=7) al (by omega)) (qI (a:=12) (b:=16) al (by omega)) (qI (a:=17) (b:=19) al (by omega)) (qI (a:=20) (b:=22) al (by omega)) (qI (a:=23) (b:=25) al (by omega)) ⟨by omega,Su⟩ al bw rfl rfl rfl rfl rfl (hn s=true) bk;rw[gS]at this;exact this
end
def uk(b:aq)(p:Nat)(w:aq):Bool:=eO b p&&e9 (dk b p) (w++dw)
def vE(b:aq)(p:Nat)(w:aq):aq:=(dk b p).drop (w.length+2)
def TH(b:aq)(p:Nat)(w:aq):cK.said ⟨b,p,-1⟩ w=if uk b p w=true then (vE b p w,⟨b,p,-1⟩)else ([],⟨b,p,p⟩):=by unfold cK.said;rw[an (by dsimp only;omega)];rfl
def TI{x:cK}(h:0<=x.bad)(w:aq):x.said w=([],x):=by unfold cK.said;rw[av h]
def zbJ(b:aq)(p:Nat):cK.stop ⟨b,p,-1⟩=⟨b,p,p⟩:=rfl
def NA{x:cK}(h:0<=x.bad):x.stop=x:=by unfold cK.stop;rw[an (by omega)]
section
variable [bn][c1 0][cF prog]
def TJ{x:bh}{w:aq}{F:aq->Bool}{G:bh->aq->bh}(h:uk x.b x.at_ w=true)(a6:F (vE x.b x.at_ w)=true) :
  jL w F G x=(true,{G x (vE x.b x.at_ w)with at_:=x.at_+(dk x.b x.at_).length+2}):=by
 unfold uk at h;rw[b7]at h;have bS:=xc h.1;have gS:=Nx h.1;unfold jL CD oG;unfold vE at*;rw[bS,gS,h.1,h.2,a6];rfl
def TK{x:bh}{w:aq}{F:aq->Bool}{G:bh->aq->bh}(h:uk x.b x.at_ w=false):jL w F G x=(false,x):=by
 unfold uk at h;unfold jL CD oG;cases ap:eO x.b x.at_
 ·rw[an (by simp)];rfl
 ·rw[ap,ig]at h;rw[xc ap,h,an (by simp)];rfl
def zbK{x:bh}{w:aq}{F:aq->Bool}{G:bh->aq->bh}(h:uk x.b x.at_ w=true)(a6:F (vE x.b x.at_ w)=false):jL w F G x=(false,G x (vE x.b x.at_ w)):=by unfold uk at h;rw[b7]at h;have bS:=xc h.1;unfold jL CD oG;unfold vE at*;rw[bS,h.1,h.2,a6];rfl
def TL:∀{w l:aq},(13:UInt8)∉w->(10:UInt8)∉w->(ha l=some w↔e9 l (w++nm)=true)
 |[],l,_,_=>by
  unfold e9 nm;cases l with
  |nil=>simp[ha]
  |cons c r=>
   unfold ha;by_cases h:c=13/\r.head?=some 10
   ·rw[av h];obtain⟨rfl,h⟩:=h;cases r with
    |nil=>cases h
    |cons d r=>simp at h;subst h;simp[List.isPrefixOf]
   ·rw[an h];have aa:([13,10]:aq).isPrefixOf (c::r)=false:=by
     rw[zN];intro e;cases r with
     |nil=>simp[List.isPrefixOf]at e
     |cons d r=>simp only[List.isPrefixOf,b7,fc]at e;exact h ⟨e.1.symm,by simp[e.2.1]⟩
    rw[List.nil_append,aa];constructor
    ·intro e;split at e
     ·cases e
     ·cases ao:ha r with
      |none=>rw[ao]at e;cases e
      |some t=>rw[ao]at e;simp at e
    ·intro e;cases e
 |a::w,l,IM,k5=>by
  have zbL:a≠13:=fun e=>IM (by simp[e]);have zpM:a≠10:=fun e=>k5 (by simp[e]);unfold e9;cases l with
  |nil=>simp[ha]
  |cons c r=>
   have ba:=TL (w:=w) (l:=r) (fun h=>IM (oc _ h)) (fun h=>k5 (oc _ h));unfold e9 at ba;show ha (c::r)=some (a::w)↔((a==c)&&(w++nm).isPrefixOf r)=true
   rw[b7,fc,<-ba];rw[show ha (c::r)=if c=13/\r.head?=some 10 then some []else if c=13\/c=10 then none else (ha r).map (c::·)from rfl];by_cases h:c=13/\r.head?=some 10
   ·rw[av h];constructor
    ·intro e;cases e
    ·rintro⟨e,_⟩;exact absurd (e.trans h.1) zbL
   ·rw[an h];by_cases ab:c=13\/c=10
    ·rw[av ab];constructor
     ·intro e;cases e
     ·rintro⟨e,_⟩;rcases ab with ab|ab
      ·exact absurd (e.trans ab) zbL
      ·exact absurd (e.trans ab) zpM
    ·rw[an ab];cases ao:ha r with
     |none=>simp
     |some t=>
      constructor
      ·intro e;have e:=yo e;injection e with ax aK
       exact⟨ax.symm,by rw[aK]⟩
      ·rintro⟨rfl,e⟩;rw[yo e];rfl
def zbM(x:bh){w:aq}(IM:(13:UInt8)∉w)(k5:(10:UInt8)∉w):w3 x w=e9 (x.b.drop x.at_) (w++nm):=by
 rw[mm,<-TL IM k5];unfold w3 eO fj;cases ap:ha (x.b.drop x.at_)with
 |none=>simp
 |some t=>simp
def zpN(x:bh):w3 x []=(eO x.b x.at_&&decide (dk x.b x.at_=[])):=by
 unfold w3;cases ap:eO x.b x.at_
 ·rfl
 ·rw[xc ap]
def Jy(s:aq):k0 s=(lT s:Int):=by unfold k0 lT;cases hQ.findIdx? (·==s)<;>simp
def TM{b:aq}{p:Nat}{w:aq}(h:uk b p w=true):(w++dw++vE b p w).length=(dk b p).length:=by unfold uk at h;rw[b7]at h;have ab:=(tX.1 h.2).length_le;unfold vE;simp only[eG,eP,dw,hz,ur]at ab⊢;omega
def zpO{s:aq}(h:0<lT s):hQ[lT s-1]?=some s:=by
 unfold lT at*;cases e:hQ.findIdx? (·==s)with
 |none=>rw[e]at h;simp at h
 |some i=>
  obtain⟨ah,aa,-⟩:=kT.1 e;simp only[fc]at aa;show hQ[i+1-1]?=some s
  rw[zc,cr ah,aa]
def zpP{s:aq}(h:0<lT s):nd (k0 s)=s:=by have e:=zpO h;rw[Jy];unfold nd;rw[show ((lT s:Int)-1).toNat=lT s-1 by omega,lF,e];rfl
def zbN(s:aq):(k0 s=0)=(lT s=0):=by rw[Jy];simp
def zpQ:lT []=0:=by rfl
abbrev fG:=cK×bh
def h0(r:Bool×bh)(s:fG):Prop:=if r.1=true then s=(⟨r.2.b,r.2.at_,-1⟩,r.2)else s.1.b=r.2.b/\s.1.bad=r.2.at_
def h0.step{I:bh->Prop}{r:Bool×bh}{s:fG}{f:bh->Bool×bh}{g:fG->fG}(h:h0 r s)(lc:I r.2)(ay:∀y:bh,I y->h0 (f y) (g (⟨y.b,y.at_,-1⟩,y)))(ad:∀s:fG,0<=s.1.bad->(g s).1.b=s.1.b/\(g s).1.bad=s.1.bad) :
  h0 (eF r f) (g s):=by
 obtain⟨c,y⟩:=r;cases c
 ·obtain⟨aa,ab⟩:=h;obtain⟨aE,aQ⟩:=ad s (by rw[ab];exact FU _);exact⟨aE.trans aa,aQ.trans ab⟩
 ·have e:s=(⟨y.b,y.at_,-1⟩,y):=h;rw[e];exact ay y lc
def nn(x:cK)(y:bh):fG:=(x,{y with at_:=x.at_})
def vF(w:aq)(G:bh->aq->bh)(s:fG):fG:=nn (s.1.told w).2 (G s.2 (s.1.told w).1)
def qJ(w:aq)(F:aq->Bool)(G:bh->aq->bh)(s:fG):fG:=
 nn ((if F (s.1.said w).1=true then (s.1.said w).2 else (s.1.said w).2.stop).next (w++dw++(s.1.said w).1)) (G s.2 (s.1.said w).1)
def AG(s:fG):fG:=
 nn (if k0 (s.1.said ir).1=0 then (s.1.said ir).2.stop else (s.1.said ir).2.next (ir++dw++nd (k0 (s.1.said ir).1))) {s.2 with kind:=k0 (s.1.said ir).1}
def NI(s:fG):fG:=nn (if e9 (s.1.b.drop s.1.at_) (rz++nm)=true then s.1.next rz else s.1.stop) s.2
def vG(s:fG):fG:=if s.1.bad<0/\e9 (s.1.b.drop s.1.at_) (iJ++dw)=true then qJ iJ (fun s=>decide (s≠[])) (fun y s=>{y with of:=s}) s else s
def uo(s:fG):fG:=if s.1.bad<0 then nn (F1 s.1.b s.1.at_ s.1.bad) {s.2 with aT:=xd s.1.b s.1.at_} else s
def s4(s:fG):fG:=if s.1.bad<0 then nn ((if (eO s.1.b s.1.at_&&decide (dk s.1.b s.1.at_=[]))=true then s.1 else s.1.stop).next []) s.2 else s
def zqo{x:cK}(h:0<=x.bad)(w:aq):x.told w=([],x):=by unfold cK.told;rw[TI h];dsimp only;rw[an (by omega)]
def zbY(w:aq)(G:bh->aq->bh)(dN:∀y s,(G y s).b=y.b/\(G y s).at_=y.at_)(y:bh):h0 (jL w (fun _=>true) G y) (vF w G (⟨y.b,y.at_,-1⟩,y)):=by
 unfold vF cK.told;dsimp only;rw[TH];cases h:uk y.b y.at_ w
 ·rw[an h5,TK h];dsimp only;rw[an (by omega)];exact⟨rfl,rfl⟩
 ·rw[av rfl,TJ h rfl];dsimp only;rw[av (by decide)];show _=_
  unfold nn cK.next;dsimp only;rw[(dN y _).1,TM h,rN]
def NJ(w:aq)(F:aq->Bool)(G zbZ:bh->aq->bh)(dN:∀y s,(G y s).b=y.b/\(G y s).at_=y.at_)(he:∀y s,F s=true->zbZ y s=G y s)(y:bh):h0 (jL w F G y) (qJ w F zbZ (⟨y.b,y.at_,-1⟩,y)):=by
 unfold qJ;dsimp only;rw[TH];cases h:uk y.b y.at_ w
 ·rw[an h5,TK h];dsimp only;split
  ·exact⟨rfl,rfl⟩
  ·rw[NA (FU _)];exact⟨rfl,rfl⟩
 ·rw[av rfl];dsimp only;cases a6:F (vE y.b y.at_ w)
  ·rw[an h5,zbK h a6,zbJ];exact⟨(dN y _).1.symm,by show ((y.at_:Nat):Int)=_;rw[(dN y _).2]⟩
  ·rw[av rfl,TJ h a6,he _ _ a6];show _=_
   unfold nn cK.next;dsimp only;rw[(dN y _).1,TM h,rN]
def zca(w:aq)(G:bh->aq->bh)(s:fG)(h:0<=s.1.bad):(vF w G s).1.b=s.1.b/\(vF w G s).1.bad=s.1.bad:=by unfold vF nn;rw[zqo h];exact⟨rfl,rfl⟩
def TZ(w:aq)(F:aq->Bool)(G:bh->aq->bh)(s:fG)(h:0<=s.1.bad):(qJ w F G s).1.b=s.1.b/\(qJ w F G s).1.bad=s.1.bad:=by unfold qJ nn;rw[TI h];dsimp only;rw[NA h,ite_self];exact⟨rfl,rfl⟩
def zqp(s:aq):0<=k0 s/\k0 s<=5:=by
 rw[Jy];unfold lT;cases h:hQ.findIdx? (·==s)with
 |none=>simp
 |some i=>have:=(kT.1 h).1;simp[hQ]at this⊢;omega
def zcb:k0 []=0:=by rw[Jy,zpQ];rfl
def zqq(y:bh):h0 (yt y) (AG (⟨y.b,y.at_,-1⟩,y)):=by
 unfold AG yt;dsimp only;rw[TH];cases h:uk y.b y.at_ ir
 ·rw[an h5,TK h];dsimp only;rw[zcb,av rfl,NA (FU _)];exact⟨rfl,rfl⟩
 ·rw[av rfl];dsimp only;by_cases ak:0<lT (vE y.b y.at_ ir)
  ·rw[TJ h (gw ak),an (by rw[zbN];omega),zpP ak];show _=_
   unfold nn cK.next;dsimp only;rw[TM h,rN,Jy]
  ·rw[zbK h (iI ak),av (by rw[zbN];omega),zbJ];exact⟨rfl,rfl⟩
def zqr(s:fG)(h:0<=s.1.bad):(AG s).1.b=s.1.b/\(AG s).1.bad=s.1.bad:=by unfold AG nn;rw[TI h];dsimp only;rw[zcb,av rfl,NA h];exact⟨rfl,rfl⟩
def zqs(y:bh):h0 (lg rz y) (NI (⟨y.b,y.at_,-1⟩,y)):=by
 unfold NI lg qt;dsimp only;rw[zbM y (by decide) (by decide)];have hw:=zbM y (w:=rz) (by decide) (by decide);cases h:e9 (y.b.drop y.at_) (rz++nm)
 ·rw[an h5,an h5];exact⟨rfl,rfl⟩
 ·rw[av rfl,av rfl];rw[h]at hw;unfold w3 fj at hw;have ap:ha (y.b.drop y.at_)=some rz:=(TL (by decide) (by decide)).2 h;show _=_
  unfold nn cK.next eE;dsimp only;rw[ap];rfl
def zqt(y:bh):h0 (ys y) (vG (⟨y.b,y.at_,-1⟩,y)):=by
 unfold ys vG nR;dsimp only;cases h:e9 (y.b.drop y.at_) (iJ++dw)
 ·rw[an (by decide),an (fun e=>by cases e.2)];rfl
 ·rw[av rfl,av ⟨by decide,rfl⟩];exact NJ iJ (fun s=>decide (s≠[])) (fun y s=>{y with of:=s}) _ (fun _ _=>⟨rfl,rfl⟩) (fun _ _ _=>rfl) y
def zqu(s:fG)(h:0<=s.1.bad):(vG s).1.b=s.1.b/\(vG s).1.bad=s.1.bad:=by unfold vG;rw[an (fun e=>by omega)];exact⟨rfl,rfl⟩
def zcc:∀(n:Nat) (y z:bh),y.b=z.b->y.at_=z.at_->y.aT=z.aT->(kp n y).1=(kp n z).1/\(kp n y).2={y with aT:=(kp n z).2.aT,at_:=(kp n z).2.at_}
 |0,y,z,aa,ab,au=>⟨rfl,by unfold kp;dsimp only;rw[<-ab,<-au]⟩
 |n+1,y,z,aa,ab,au=>by
  unfold kp nR;rw[<-aa,<-ab];split
  ·exact⟨rfl,by dsimp only;rw[<-ab,<-au]⟩
  ·split
   ·exact zcc n _ _ rfl rfl (by dsimp only;rw[au])
   ·exact⟨rfl,by dsimp only;rw[<-ab,<-au]⟩
def zqv(y:bh)(aU:y.aT=[]):h0 (h8 y) (uo (⟨y.b,y.at_,-1⟩,y)):=by
 unfold uo;dsimp only;rw[av (show (-1:Int)<0 by decide)];obtain⟨aE,aQ⟩:=zcc (y.b.length+1) y (fk y.b y.at_) rfl rfl aU;have e:h8 (fk y.b y.at_)=kp (y.b.length+1) (fk y.b y.at_):=rfl;unfold xd F1;rw[e];have aK:h8 y=kp (y.b.length+1) y:=rfl;rw[aK,<-Prod.eta (kp (y.b.length+1) y),aE,aQ];generalize kp (y.b.length+1) (fk y.b y.at_)=R;obtain⟨c,z⟩:=R;cases c
 ·exact⟨rfl,rfl⟩
 ·exact rfl
def zqw(s:fG)(h:0<=s.1.bad):(uo s).1.b=s.1.b/\(uo s).1.bad=s.1.bad:=by unfold uo;rw[an (by omega)];exact⟨rfl,rfl⟩
def zqx(y:bh):h0 (lg [] y) (s4 (⟨y.b,y.at_,-1⟩,y)):=by
 unfold s4 lg qt;dsimp only;rw[zpN,av (show (-1:Int)<0 by decide)];cases h:(eO y.b y.at_&&decide (dk y.b y.at_=[]))
 ·rw[an h5,an h5];exact⟨rfl,rfl⟩
 ·rw[av rfl,av rfl];rw[b7,mA]at h;show _=_
  unfold nn cK.next;dsimp only;rw[Nx h.1,h.2];rfl
def zqy(s:fG)(h:0<=s.1.bad):(s4 s).1.b=s.1.b/\(s4 s).1.bad=s.1.bad:=by unfold s4;rw[an (by omega)];exact⟨rfl,rfl⟩
def NK(y:bh)(s:aq):bh:={y with id:=s}
def JB(y:bh)(s:aq):bh:={y with key:=s}
def JC(y:bh)(s:aq):bh:={y with time:=h9 s}
def NL(y:bh)(s:aq):bh:={y with length:=if fw 9 s=true then bV s else 0}
def JD(y:bh)(s:aq):bh:={y with ee:=s}
def q1(b:aq)(a:Nat):fG:=NI (⟨b,a,-1⟩,fk b a)
def dt(b:aq)(a:Nat):fG:=vF CG NK (q1 b a)
def d_(b:aq)(a:Nat):fG:=vG (dt b a)
def fi(b:aq)(a:Nat):fG:=AG (d_ b a)
def ps(b:aq)(a:Nat):fG:=qJ j9 hn JC (fi b a)
def ey(b:aq)(a:Nat):fG:=vF CH JB (ps b a)
def fx(b:aq)(a:Nat):fG:=uo (ey b a)
def ka(b:aq)(a:Nat):fG:=qJ dS (fw 9) NL (fx b a)
def gi(b:aq)(a:Nat):fG:=qJ lf nO JD (ka b a)
def jO(b:aq)(a:Nat):fG:=s4 (gi b a)
def zcd{P:bh->Prop}{r:Bool×bh}{f:bh->Bool×bh}(h:P r.2)(aw:∀y,P y->P (f y).2):P (eF r f).2:=by
 obtain⟨c,y⟩:=r;cases c
 ·exact h
 ·exact aw y h
def zqz(r:Bool×bh)(f g:bh->Bool×bh):eF r (fun x=>eF (f x) g)=eF (eF r f) g:=by obtain⟨c,y⟩:=r;cases c<;>rfl
def h0.ok{r:Bool×bh}{s:fG}(h:h0 r s)(ao:r.2.ok)(bj:s.1.at_<=1000000000):s.1.ok:=by
 obtain⟨c,y⟩:=r;cases c
 ·obtain⟨aa,ab⟩:=h;exact⟨by rw[aa];exact ao.1,fun h=>by have:s.1.bad=(y.at_:Int):=ab;omega,bj⟩
 ·have e:s=(⟨y.b,y.at_,-1⟩,y):=h;subst e;exact⟨ao.1,fun _=>ao.2,bj⟩
def T0(k:Nat):bh->Bool×bh:=match k with
 |0=>Fz
 |1=>ys
 |2=>yt
 |3=>CI h9 hn
 |4=>CJ
 |5=>h8
 |6=>CK
 |_=>CL
def lx(b:aq)(a:Nat):Nat->Bool×bh
 |0=>lg rz (fk b a)
 |k+1=>eF (lx b a k) (T0 k)
def zqA(b:aq)(a:Nat):oH h9 hn h8 (fk b a)=eF (lx b a 8) (lg []):=by unfold oH;simp only[zqz];rfl
def T1{b:aq}{a:Nat}(ad:b.length<=16777216)(bj:a<=b.length):∀k,(lx b a k).2.ok
 |0=>MP (x:=fk b a) ⟨ad,bj⟩ _
 |k+1=>zcd (P:=bh.ok) (T1 ad bj k) fun y h=>by
  unfold T0;split
  ·exact qu h _ _ _ fun s=>⟨rfl,rfl⟩
  ·unfold ys;split
   ·exact qu h _ _ _ fun s=>⟨rfl,rfl⟩
   ·exact h
  ·exact qu h _ _ _ fun s=>⟨rfl,rfl⟩
  ·exact qu h _ _ _ fun s=>⟨rfl,rfl⟩
  ·exact qu h _ _ _ fun s=>⟨rfl,rfl⟩
  ·exact Ss _ _ h
  ·exact qu h _ _ _ fun s=>by split<;>exact⟨rfl,rfl⟩
  ·exact qu h _ _ _ fun s=>⟨rfl,rfl⟩
def zce(b:aq)(a:Nat):∀k,k<=5->(lx b a k).2.aT=[]
 |0,_=>by show (lg rz (fk b a)).2.aT=_;rw[ZB];rfl
 |k+1,ak=>zcd (P:=fun y=>y.aT=[]) (zce b a k (by omega)) fun y h=>by
  unfold T0;split<;>first|omega|skip
  ·exact(vu y _ _ _ fun s=>rfl).trans h
  ·unfold ys;split
   ·exact(vu y _ _ _ fun s=>rfl).trans h
   ·exact h
  ·exact(vu y _ _ _ fun s=>rfl).trans h
  ·exact(vu y _ _ _ fun s=>rfl).trans h
  ·exact(vu y _ _ _ fun s=>rfl).trans h
  ·exact(vu y _ _ _ fun s=>rfl).trans h
def T2(b:aq)(a:Nat):h0 (lx b a 0) (q1 b a)/\h0 (lx b a 1) (dt b a)/\h0 (lx b a 2) (d_ b a)/\h0 (lx b a 3) (fi b a)/\h0 (lx b a 4) (ps b a)/\h0 (lx b a 5) (ey b a)/\h0 (lx b a 6) (fx b a)/\h0 (lx b a 7) (ka b a)/\h0 (lx b a 8) (gi b a):=by have aa:h0 (lx b a 0) (q1 b a):=zqs (fk b a);have ab:h0 (lx b a 1) (dt b a):=aa.step (I:=fun _=>True) trivial (fun y _=>zbY CG NK (fun _ _=>⟨rfl,rfl⟩) y) (zca _ _);have au:h0 (lx b a 2) (d_ b a):=ab.step (I:=fun _=>True) trivial (fun y _=>zqt y) zqu;have aN:h0 (lx b a 3) (fi b a):=au.step (I:=fun _=>True) trivial (fun y _=>zqq y) zqr;have bE:h0 (lx b a 4) (ps b a):=aN.step (I:=fun _=>True) trivial (fun y _=>NJ j9 hn JC JC (fun _ _=>⟨rfl,rfl⟩) (fun _ _ _=>rfl) y) (TZ _ _ _);have cS:h0 (lx b a 5) (ey b a):=bE.step (I:=fun _=>True) trivial (fun y _=>zbY CH JB (fun _ _=>⟨rfl,rfl⟩) y) (zca _ _);have d8:h0 (lx b a 6) (fx b a):=cS.step (I:=fun y=>y.aT=[]) (zce b a 5 (f_ _)) (fun y h=>zqv y h) zqw;have ei:h0 (lx b a 7) (ka b a):=d8.step (I:=fun _=>True) trivial (fun y _=>NJ dS (fw 9) (fun x s=>if fw 9 s=true then {x with length:=bV s} else x) NL (fun _ s=>by split<;>exact⟨rfl,rfl⟩) (fun y s h=>by unfold NL;rw[av h,av h]) y) (TZ _ _ _);have fA:h0 (lx b a 8) (gi b a):=ei.step (I:=fun _=>True) trivial (fun y _=>NJ lf nO JD JD (fun _ _=>⟨rfl,rfl⟩) (fun _ _ _=>rfl) y) (TZ _ _ _);exact⟨aa,ab,au,aN,bE,cS,d8,ei,fA⟩
def zqB(b:aq)(a:Nat):h0 (oH h9 hn h8 (fk b a)) (jO b a):=by rw[zqA];exact(T2 b a).2.2.2.2.2.2.2.2.step (I:=fun _=>True) trivial (fun y _=>zqx y) zqy
def zqC(s:fG):(s4 s).2={s.2 with at_:=(s4 s).2.at_}:=by unfold s4;split<;>rfl
def zqD(s:fG):(uo s).2={s.2 with at_:=(uo s).2.at_,aT:=if s.1.bad<0 then xd s.1.b s.1.at_ else s.2.aT}:=by unfold uo;split<;>rfl
def zqE(s:fG):(vG s).2={s.2 with at_:=(vG s).2.at_,of:=(vG s).2.of}:=by unfold vG;split<;>rfl
def zqF(b:aq)(a:Nat):(jO b a).2.kind=(fi b a).2.kind/\(jO b a).2.id=(dt b a).2.id/\(jO b a).2.of=(d_ b a).2.of/\(jO b a).2.time=(ps b a).2.time/\(jO b a).2.key=(ey b a).2.key/\(jO b a).2.aT=(if (ey b a).1.bad<0 then xd (ey b a).1.b (ey b a).1.at_ else [])/\(jO b a).2.length=(ka b a).2.length/\(jO b a).2.ee=(gi b a).2.ee:=by
 have e:=zqC (gi b a);have h:=zqD (ey b a);have o:=zqE (dt b a);have tH:(ey b a).2.aT=[]:=by simp only[ey,vF,nn,JB,ps,qJ,JC,fi,AG,d_];rw[o];simp only[dt,vF,nn,NK,q1,NI,fk]
 rw[tH]at h;unfold jO;rw[e];dsimp only;have aa:(gi b a).2.kind=(fx b a).2.kind/\(gi b a).2.id=(fx b a).2.id/\(gi b a).2.of=(fx b a).2.of/\(gi b a).2.time=(fx b a).2.time/\(gi b a).2.key=(fx b a).2.key/\(gi b a).2.aT=(fx b a).2.aT:=by refine⟨?_,?_,?_,?_,?_,?_⟩<;>simp only[gi,ka,qJ,nn,JD,NL]
 have ab:(ey b a).2.kind=(fi b a).2.kind/\(ey b a).2.id=(d_ b a).2.id/\(ey b a).2.of=(d_ b a).2.of/\(ey b a).2.time=(ps b a).2.time:=by refine⟨?_,?_,?_,?_⟩<;>simp only[ey,vF,nn,JB,ps,qJ,JC,fi,AG]
 have au:(d_ b a).2.id=(dt b a).2.id:=by unfold d_;rw[o]
 have g:(fx b a).2.kind=(ey b a).2.kind/\(fx b a).2.id=(ey b a).2.id/\(fx b a).2.of=(ey b a).2.of/\(fx b a).2.time=(ey b a).2.time/\(fx b a).2.key=(ey b a).2.key:=by unfold fx;rw[h];exact⟨rfl,rfl,rfl,rfl,rfl⟩
 have zqG:(fx b a).2.aT=(if (ey b a).1.bad<0 then xd (ey b a).1.b (ey b a).1.at_ else []):=by unfold fx;rw[h]
 have aN:(gi b a).2.length=(ka b a).2.length:=by simp only[gi,qJ,nn,JD]
 obtain⟨c_,a2,a3,a4,a5,Jm⟩:=aa;obtain⟨fa,eV,q9,RN⟩:=ab;obtain⟨g1,g2,g3,g4,g5⟩:=g;exact⟨c_.trans (g1.trans fa),a2.trans (g2.trans (eV.trans au)),a3.trans (g3.trans q9),a4.trans (g4.trans RN),a5.trans g5,Jm.trans zqG,aN,rfl⟩
def zqH(x:cK)(ai:x.ok):cx prog 192 [.box x.cells] (.x (.one (.list 2 ((if x.bad<0 then xd x.b x.at_ else []).map Head.row)))) [.box (if x.bad<0 then F1 x.b x.at_ x.bad else x).cells]:=by
 obtain⟨b,p,bad⟩:=x;by_cases h:bad<0
 ·rw[av h,av h];exact zpH b p bad h ai.1 (ai.2.1 h)
 rw[an h,an h];have bx:(bad<0)=False:=bz h;unfold cK.cells;refine cx.bd f192 mixed fun aD=>?_;simp;refine ck.of Unit (fun _=>[(0,.box [b5 b,.int .i64 p,.int .i64 bad]),(2,.x (.one .nil)),(3,.own 153 2 [])]) (fun _=>True) (fun _=>0) () trivial ?_ ?_
 ·simp
 rintro y -;simp[bx]
def hr(n:Nat)(b:aq)(x:cK):Prop:=x.b=b/\x.at_<=n*20000000
def T3{n:Nat}{b:aq}{x:cK}(h:hr n b x):hr n b x.stop:=by
 unfold cK.stop;split
 ·exact h
 ·exact h
def F'{n:Nat}{b:aq}{x:cK}(h:hr n b x)(w:aq):hr n b (x.said w).2:=by obtain⟨aa,ab⟩:=Nw x w;exact⟨ab.trans h.1,by rw[aa];exact h.2⟩
def NM{n:Nat}{b:aq}{x:cK}(h:hr n b x){s:aq}(hs:s.length<=17000000):hr (n+1) b (x.next s):=⟨h.1,by unfold cK.next;have:=h.2;dsimp only;omega⟩
def JE{n:Nat}{b:aq}{x:cK}(h:hr n b x):hr (n+1) b x:=by obtain⟨aa,ab⟩:=h;exact⟨aa,jc ab (yX _ (Nat.le_succ n))⟩
def zcf{b:aq}(ad:b.length<=16777216){n:Nat}{x:cK}(h:hr n b x){w:aq}(hw:w.length<=100):(w++dw++(x.said w).1).length<=17000000:=by have:=TG x w;rw[h.1]at this;simp only[eG,dw,hz,ur];omega
def zcg{b:aq}(ad:b.length<=16777216){n:Nat}{s:fG}(h:hr n b s.1){w:aq}(hw:w.length<=100)(G:bh->aq->bh):hr (n+1) b (vF w G s).1:=by
 show hr (n+1) b (s.1.told w).2;unfold cK.told;dsimp only;split
 ·exact NM (F' h w) (zcf ad h hw)
 ·exact JE (F' h w)
def NN{b:aq}(ad:b.length<=16777216){n:Nat}{s:fG}(h:hr n b s.1){w:aq}(hw:w.length<=100)(F:aq->Bool)(G:bh->aq->bh):hr (n+1) b (qJ w F G s).1:=by
 refine NM ?_ (zcf ad h hw);split
 ·exact F' h w
 ·exact T3 (F' h w)
def zqI{b:aq}{a:Nat}(ad:b.length<=16777216)(bj:a<=b.length) :
  hr 2 b (q1 b a).1/\hr 3 b (dt b a).1/\hr 4 b (d_ b a).1/\hr 5 b (fi b a).1/\hr 6 b (ps b a).1/\hr 7 b (ey b a).1/\hr 8 b (fx b a).1/\hr 9 b (ka b a).1/\hr 10 b (gi b a).1:=by
 have a1:hr 1 b ⟨b,a,-1⟩:=⟨rfl,by dsimp only;omega⟩
 have aa:hr 2 b (q1 b a).1:=by
  show hr 2 b (if _ then _ else _);split
  ·exact NM a1 (by decide)
  ·exact JE (T3 a1)
 have ab:hr 3 b (dt b a).1:=zcg ad aa (by decide) NK;have au:hr 4 b (d_ b a).1:=by
  unfold d_ vG;split
  ·exact NN ad ab (by decide) _ _
  ·exact JE ab
 have aN:hr 5 b (fi b a).1:=by
  show hr 5 b (if _ then _ else _);split
  ·exact JE (T3 (F' au _))
  ·refine NM (F' au _) ?_;have:=MX (k0 ((d_ b a).1.said ir).1);have ax:ir.length=4:=rfl;have aK:dw.length=2:=rfl;rw[eG,eG,ax,aK];omega
 have bE:hr 6 b (ps b a).1:=NN ad aN (by decide) _ _;have cS:hr 7 b (ey b a).1:=zcg ad bE (by decide) JB;have d8:hr 8 b (fx b a).1:=by
  unfold fx uo;split
  ·rename_i aX;have aB:=(T2 b a).2.2.2.2.2.1.ok (T1 ad bj 5) (by have:=cS.2;omega);have ay:=SE ((ey b a).1.b.length+1) (y:=fk (ey b a).1.b (ey b a).1.at_) (b:=b) ⟨⟨aB.1,aB.2.1 aX⟩,cS.1,by simp[fk],by simp[fk]⟩;refine⟨cS.1,?_⟩;have ei:=ay.1.2;rw[ay.2.1]at ei;show (kp ((ey b a).1.b.length+1) (fk (ey b a).1.b (ey b a).1.at_)).2.at_<=_
   omega
  ·exact JE cS
 have ei:hr 9 b (ka b a).1:=NN ad d8 (by decide) _ _;have fA:hr 10 b (gi b a).1:=NN ad ei (by decide) _ _;exact⟨aa,ab,au,aN,bE,cS,d8,ei,fA⟩
def zqJ{b:aq}{a:Nat}(ad:b.length<=16777216)(bj:a<=b.length) :
  (q1 b a).1.ok/\(dt b a).1.ok/\(d_ b a).1.ok/\(fi b a).1.ok/\(ps b a).1.ok/\(ey b a).1.ok/\(fx b a).1.ok/\(ka b a).1.ok/\(gi b a).1.ok:=by
 obtain⟨kI,jE,FB,Sv,Sw,zqK,zqL,zqM,zqN⟩:=zqI ad bj;obtain⟨s1,s2,FM,T4,zqO,zqP,zqQ,zqR,zqS⟩:=T2 b a;have o:=fun k=>T1 ad bj k;exact⟨s1.ok (o _) (by have:=kI.2;omega),s2.ok (o _) (by have:=jE.2;omega),FM.ok (o _) (by have:=FB.2;omega),T4.ok (o _) (by have:=Sv.2;omega),zqO.ok (o _) (by have:=Sw.2;omega),zqP.ok (o _) (by have:=zqK.2;omega),zqQ.ok (o _) (by have:=zqL.2;omega),zqR.ok (o _) (by have:=zqM.2;omega),zqS.ok (o _) (by have:=zqN.2;omega)⟩
abbrev oW(x:cK):ae:=.box [b5 x.b,.int .i64 x.at_,.int .i64 x.bad]
abbrev yS(x:cK)(k:Int)(id of:aq)(t:Int)(key:aq)(h:ag):List (Nat×ae):=
 [(0,oW x),(2,.box [.int .i64 0,.str [],.str [],.int .i64 0,.str [],.nil,.nil]),(3,.x (.one (.int .i64 0))),(4,.x (.one (.str []))),(5,.box [.int .i64 k,.str id,.str of,.int .i64 t,.str key,h,.nil])]
def xe(x:cK)(w:aq)(c:Bool):cK:=if c=true then (x.said w).2 else (x.said w).2.stop
def NO{x:cK}(ai:x.ok)(w:aq)(c:Bool):(xe x w c).at_<=1000000000:=by
 have:=(Nw x w).1;have h:=ai.2.2;unfold xe cK.stop;split
 ·omega
 ·split
  ·show (x.said w).2.at_<=_;omega
  ·omega
def zqT(b:aq)(a:Nat)(ad:b.length<=16777216)(bj:a<=b.length) :
  cx prog 135 [oW ⟨b,a,-1⟩] (.b2 [.agg [.int .i64 (jO b a).2.kind,.str (jO b a).2.id,.str (jO b a).2.of,.int .i64 (jO b a).2.time,.str (jO b a).2.key,.list 2 ((jO b a).2.aT.map Head.row),.nil],.one (.int .i64 (jO b a).2.length),.one (.str (jO b a).2.ee)]) [oW (jO b a).1]:=by
 obtain⟨gN,e0,CT,sG,vv,yu,sH,sI,sJ⟩:=zqJ ad bj;have JF:∀(x:cK) (w:aq),x.ok->w.length<=100->cx prog 189 [oW x,.x (.one (.str w))] (.x (.one (.str (x.said w).1))) [oW (x.said w).2,.dead]:=fun x w=>zbE x w;have sp:∀x:cK,cx prog 187 [oW x] (.b2 []) [oW x.stop]:=Tv;have sP:∀(x:cK) (s:aq),x.at_<=1000000000->s.length<=1000000000->cx prog 186 [oW x,.x (.one (.str s))] (.b2 []) [oW (x.next s),.dead]:=fun x s aa ab=>Tw x s (by omega) (by omega);have zch:∀(x:cK) (s:aq),x.ok->x.bad<0->s.length<=100->cx prog 185 [oW x,.x (.one (.str s))] (.x (.one (.bool (e9 (x.b.drop x.at_) s)))) [oW x,.dead]:=fun x s aa ab au=>zbx x s (aa.2.1 ab) aa.1 (by omega);have al:∀(x:cK) (w:aq),x.ok->(x.said w).1.length<=16777216:=fun x w h=>jc (TG x w) h.1;refine @cx.of _ (x7 [5,10,11,15,19,27,31,36,37] [] []) _ _ _ _ _ _ mixed (fn:=f135) (by kernel_rfl) (by kernel_rfl) rfl (by kernel_rfl) (by kernel_rfl) rfl (by simp[f135]) (fun aD=>?_);simp;apply b0.share (ι:=Unit) (fun _=>yS (q1 b a).1 0 [] [] 0 [] .nil) (fun _=>True)
 ·intro K;have aE:=zch ⟨b,a,-1⟩ [75,69,80,84,47,49,13,10] ⟨ad,fun _=>bj,by dsimp only;omega⟩ (show (-1:Int)<0 by decide) (by decide);have aQ:=sP ⟨b,a,-1⟩ rz (by dsimp only;omega) (by decide);have bf:=sp ⟨b,a,-1⟩;dsimp only at aE;refine c6.of aE ?_;cases ap:e9 (b.drop a) [75,69,80,84,47,49,13,10]
  ·have ax:(q1 b a).1=cK.stop ⟨b,a,-1⟩:=an (by rw[show (b.drop a)=(((⟨b,a,-1⟩,fk b a):fG).1.b.drop ((⟨b,a,-1⟩,fk b a):fG).1.at_)from rfl]at ap;rw[show rz++nm=[75,69,80,84,47,49,13,10]from rfl,ap];decide);simp;refine c6.of bf ?_;simp;refine b0.fL ?_ (K () trivial);rw[ax];simp
  ·have ax:(q1 b a).1=cK.next ⟨b,a,-1⟩ rz:=av ap;simp;refine c6.of aQ ?_;simp;refine b0.fL ?_ (K () trivial);rw[ax];simp
 rintro - -;have k:=zbF (q1 b a).1 CG gN (by decide);have k:cx prog 188 [oW (q1 b a).1,.x (.one (.str [105,100]))] (.x (.one (.str (dt b a).2.id))) [oW (dt b a).1,.dead]:=k;simp;refine c6.of k ?_;simp;clear k;apply b0.share (ι:=Unit) (fun _=>yS (d_ b a).1 0 (dt b a).2.id (d_ b a).2.of 0 [] .nil) (fun _=>True)
 ·intro K;by_cases eJ:(dt b a).1.bad<0
  ·have cm:((dt b a).1.bad<0)=True:=bW eJ;have aE:=zch (dt b a).1 [111,102,58,32] e0 eJ (by decide);simp[cm];refine c6.of aE ?_;cases ap:e9 ((dt b a).1.b.drop (dt b a).1.at_) [111,102,58,32]
   ·have cd:d_ b a=dt b a:=an (by rw[show iJ++dw=[111,102,58,32]from rfl,ap];simp);have fI:(dt b a).2.of=[]:=rfl;simp[cm];refine b0.fL ?_ (K () trivial);rw[cd,fI];simp
   ·have cd:d_ b a=qJ iJ (fun s=>decide (s≠[])) (fun y s=>{y with of:=s}) (dt b a):=av ⟨eJ,ap⟩;have aQ:=JF (dt b a).1 iJ e0 (by decide);have tH:(d_ b a).2.of=((dt b a).1.said iJ).1:=by rw[cd];rfl
    have aX:=al (dt b a).1 iJ e0;obtain⟨z,fZ⟩:∃z,z=xe (dt b a).1 iJ (decide (((dt b a).1.said iJ).1≠[])):=⟨_,rfl⟩
    have aZ:=NO e0 iJ (decide (((dt b a).1.said iJ).1≠[]));rw[<-fZ]at aZ;have bM:=sP z (111::102::58::32::((dt b a).1.said iJ).1) aZ (by simp only[hz];omega);have gp:(d_ b a).1=z.next (111::102::58::32::((dt b a).1.said iJ).1):=by rw[cd,fZ];rfl
    rw[<-gp]at bM;have bf:=sp ((dt b a).1.said iJ).2;simp[cm];refine c6.of aQ ?_;simp;apply b0.share (ι:=Unit) (fun _=>yS z 0 (dt b a).2.id ((dt b a).1.said iJ).1 0 [] .nil) (fun _=>True)
    ·intro jP;unfold xe at fZ;by_cases aZ:((dt b a).1.said iJ).1=[]
     ·rw[iI (by simpa using aZ),an h5]at fZ;rw[fZ]at jP;simp[aZ];refine c6.of bf ?_;simp;refine b0.fL ?_ (jP () trivial);simp[aZ]
     ·rw[gw aZ,av rfl]at fZ;rw[fZ]at jP;simp[aZ];refine b0.fL ?_ (jP () trivial);simp
    rintro - -;have hm:((dt b a).1.said iJ).1.length+4<=maxLen:=by unfold maxLen;omega
    simp;refine⟨by omega,c6.of bM ?_⟩;simp;refine b0.fL ?_ (K () trivial);rw[tH];simp
  ·have cm:((dt b a).1.bad<0)=False:=bz eJ;have r2:(0<=(dt b a).1.bad)=True:=aY;have cd:d_ b a=dt b a:=an (fun h=>eJ h.1);have fI:(dt b a).2.of=[]:=rfl;simp[cm,r2];refine b0.fL ?_ (K () trivial);rw[cd,fI];simp
 rintro - -;have aQ:=JF (d_ b a).1 ir CT (by decide);have Vv:=zpj ((d_ b a).1.said ir).1;have bf:=sp ((d_ b a).1.said ir).2;have fI:(fi b a).2.kind=k0 ((d_ b a).1.said ir).1:=rfl;simp;refine c6.of aQ ?_;simp;refine aH.of Vv ?_;simp;apply b0.share (ι:=Unit) (fun _=>yS (fi b a).1 (fi b a).2.kind (dt b a).2.id (d_ b a).2.of 0 [] .nil) (fun _=>True)
 ·intro K;rw[fI]at K;by_cases ak:k0 ((d_ b a).1.said ir).1=0
  ·have gp:(fi b a).1=((d_ b a).1.said ir).2.stop:=av ak;have dx:(k0 ((d_ b a).1.said ir).1=0)=True:=bW ak;rw[gp]at K;simp[dx];refine c6.of bf ?_;simp;refine b0.fL ?_ (K () trivial);simp
  ·have gp:(fi b a).1=((d_ b a).1.said ir).2.next (107::105::110::100::58::32::nd (k0 ((d_ b a).1.said ir).1)):=an ak;have dx:(k0 ((d_ b a).1.said ir).1=0)=False:=bz ak;have vy:=zqp ((d_ b a).1.said ir).1;have kw:=Tq (k0 ((d_ b a).1.said ir).1) (by omega) vy.2;have kG:=MX (k0 ((d_ b a).1.said ir).1);have bM:=sP ((d_ b a).1.said ir).2 (107::105::110::100::58::32::nd (k0 ((d_ b a).1.said ir).1)) (by rw[(Nw _ _).1];exact CT.2.2) (by simp only[hz];omega);rw[<-gp]at bM;simp[dx];refine aH.of kw ?_;have hm:(nd (k0 ((d_ b a).1.said ir).1)).length+6<=maxLen:=by unfold maxLen;omega
   simp;refine⟨by omega,c6.of bM ?_⟩;simp;exact b0.fL (by simp) (K () trivial)
 rintro - -;have aQ:=JF (fi b a).1 j9 sG (by decide);have aX:=al (fi b a).1 j9 sG;obtain⟨z,fZ⟩:∃z,z=xe (fi b a).1 j9 (hn ((fi b a).1.said j9).1):=⟨_,rfl⟩
 have aZ:=NO sG j9 (hn ((fi b a).1.said j9).1);rw[<-fZ]at aZ;have bM:=sP z (100::97::116::101::58::32::((fi b a).1.said j9).1) aZ (by simp only[hz];omega);have gp:(ps b a).1=z.next (100::97::116::101::58::32::((fi b a).1.said j9).1):=by rw[fZ];rfl
 rw[<-gp]at bM;have bf:=sp ((fi b a).1.said j9).2;have oS:=zbX ((fi b a).1.said j9).1;simp;refine c6.of aQ ?_;simp;apply b0.share (ι:=Unit) (fun _=>yS z (fi b a).2.kind (dt b a).2.id (d_ b a).2.of 0 [] .nil++[(6,.x (.one (.str ((fi b a).1.said j9).1))),(7,.x (.one (.int .i64 (h9 ((fi b a).1.said j9).1))))]) (fun _=>True)
 ·intro jP;unfold xe at fZ;refine aH.of oS ?_;cases aZ:hn ((fi b a).1.said j9).1
  ·rw[aZ,an h5]at fZ;rw[fZ]at jP;simp;refine c6.of bf ?_;simp;refine b0.fL ?_ (jP () trivial);simp
  ·rw[aZ,av rfl]at fZ;rw[fZ]at jP;simp;refine b0.fL ?_ (jP () trivial);simp
 rintro - -;have hm:((fi b a).1.said j9).1.length+6<=maxLen:=by unfold maxLen;omega
 simp;refine⟨by omega,c6.of bM ?_⟩;simp;have k:cx prog 188 [oW (ps b a).1,.x (.one (.str [107,101,121]))] (.x (.one (.str (ey b a).2.key))) [oW (ey b a).1,.dead]:=zbF (ps b a).1 CH vv (by decide);refine c6.of k ?_;clear k;have mr:(fx b a).1=if (ey b a).1.bad<0 then F1 (ey b a).1.b (ey b a).1.at_ (ey b a).1.bad else (ey b a).1:=by show (uo (ey b a)).1=_;unfold uo;split<;>rfl
 have k:cx prog 192 [oW (ey b a).1] (.x (.one (.list 2 ((if (ey b a).1.bad<0 then xd (ey b a).1.b (ey b a).1.at_ else []).map Head.row)))) [oW (fx b a).1]:=by rw[mr];exact zqH (ey b a).1 yu
 obtain⟨Ga,pu⟩:∃Ga,Ga=(if (ey b a).1.bad<0 then xd (ey b a).1.b (ey b a).1.at_ else []):=⟨_,rfl⟩
 rw[<-pu]at k;simp;refine c6.of k ?_;simp;have aQ:=JF (fx b a).1 dS sH (by decide);have aX:=al (fx b a).1 dS sH;obtain⟨z,fZ⟩:∃z,z=xe (fx b a).1 dS (fw 9 ((fx b a).1.said dS).1):=⟨_,rfl⟩
 have aZ:=NO sH dS (fw 9 ((fx b a).1.said dS).1);rw[<-fZ]at aZ;have bM:=sP z (108::101::110::103::116::104::58::32::((fx b a).1.said dS).1) aZ (by simp only[hz];omega);have gp:(ka b a).1=z.next (108::101::110::103::116::104::58::32::((fx b a).1.said dS).1):=by rw[fZ];rfl
 rw[<-gp]at bM;have bf:=sp ((fx b a).1.said dS).2;have oS:=zbG ((fx b a).1.said dS).1;refine c6.of aQ ?_;simp;apply b0.share (ι:=Unit) (fun _=>yS z (fi b a).2.kind (dt b a).2.id (d_ b a).2.of (h9 ((fi b a).1.said j9).1) (ey b a).2.key (.list 2 (Ga.map Head.row))++[(9,.x (.one (.str ((fx b a).1.said dS).1))),(10,.x (.one (.int .i64 (if fw 9 ((fx b a).1.said dS).1=true then (bV ((fx b a).1.said dS).1:Int)else 0))))]) (fun _=>True)
 ·intro jP;unfold xe at fZ;refine aH.of oS ?_;cases aZ:fw 9 ((fx b a).1.said dS).1
  ·rw[aZ,an h5]at fZ;rw[fZ]at jP;simp;refine c6.of bf ?_;simp;refine b0.fL ?_ (jP () trivial);simp[aZ]
  ·rw[aZ,av rfl]at fZ;rw[fZ]at jP;simp;refine b0.fL ?_ (jP () trivial);simp[aZ]
 rintro - -;have hm:((fx b a).1.said dS).1.length+8<=maxLen:=by unfold maxLen;omega
 simp;refine⟨by omega,c6.of bM ?_⟩;simp;have aQ:=JF (ka b a).1 lf sI (by decide);have aX:=al (ka b a).1 lf sI;obtain⟨z,fZ⟩:∃z,z=xe (ka b a).1 lf (nO ((ka b a).1.said lf).1):=⟨_,rfl⟩
 have aZ:=NO sI lf (nO ((ka b a).1.said lf).1);rw[<-fZ]at aZ;have bM:=sP z (100::105::103::101::115::116::58::32::((ka b a).1.said lf).1) aZ (by simp only[hz];omega);have gp:(gi b a).1=z.next (100::105::103::101::115::116::58::32::((ka b a).1.said lf).1):=by rw[fZ];rfl
 rw[<-gp]at bM;have bf:=sp ((ka b a).1.said lf).2;have oS:=zpi ((ka b a).1.said lf).1;refine c6.of aQ ?_;simp;apply b0.share (ι:=Unit) (fun _=>yS z (fi b a).2.kind (dt b a).2.id (d_ b a).2.of (h9 ((fi b a).1.said j9).1) (ey b a).2.key (.list 2 (Ga.map Head.row))++[(10,.x (.one (.int .i64 (if fw 9 ((fx b a).1.said dS).1=true then (bV ((fx b a).1.said dS).1:Int)else 0)))),(12,.x (.one (.str ((ka b a).1.said lf).1)))]) (fun _=>True)
 ·intro jP;unfold xe at fZ;refine aH.of oS ?_;cases aZ:nO ((ka b a).1.said lf).1
  ·rw[aZ,an h5]at fZ;rw[fZ]at jP;simp;refine c6.of bf ?_;simp;refine b0.fL ?_ (jP () trivial);simp
  ·rw[aZ,av rfl]at fZ;rw[fZ]at jP;simp;refine b0.fL ?_ (jP () trivial);simp
 rintro - -;have hm:((ka b a).1.said lf).1.length+8<=maxLen:=by unfold maxLen;omega
 simp;refine⟨by omega,c6.of bM ?_⟩;simp;apply b0.share (ι:=Unit) (fun _=>yS (jO b a).1 (fi b a).2.kind (dt b a).2.id (d_ b a).2.of (h9 ((fi b a).1.said j9).1) (ey b a).2.key (.list 2 (Ga.map Head.row))++[(10,.x (.one (.int .i64 (if fw 9 ((fx b a).1.said dS).1=true then (bV ((fx b a).1.said dS).1:Int)else 0)))),(12,.x (.one (.str ((ka b a).1.said lf).1)))]) (fun _=>True)
 ·intro K;by_cases eJ:(gi b a).1.bad<0
  ·have cm:((gi b a).1.bad<0)=True:=bW eJ;have zqU:(0<=(gi b a).1.bad)=False:=a8;have rX:=TE (gi b a).1 (sJ.2.1 eJ) sJ.1;unfold cK.cells at rX;have bf:=sp (gi b a).1;obtain⟨z,fZ⟩:∃z,z=(if (eO (gi b a).1.b (gi b a).1.at_&&decide (dk (gi b a).1.b (gi b a).1.at_=[]))=true then (gi b a).1 else (gi b a).1.stop):=⟨_,rfl⟩
   have aZ:z.at_<=1000000000:=by
    have:=sJ.2.2;rw[fZ];unfold cK.stop
    repeat' split
    all_goals exact this
   have bM:=sP z [] aZ (by decide);have gp:(jO b a).1=z.next []:=by show (s4 (gi b a)).1=_;unfold s4;rw[av eJ,fZ];rfl
   rw[<-gp]at bM;simp[cm,zqU];refine c6.of rX ?_;generalize dk (gi b a).1.b (gi b a).1.at_=L at*;generalize eO (gi b a).1.b (gi b a).1.at_=C at*;simp[cm];apply b0.share (ι:=Unit) (fun _=>yS z (fi b a).2.kind (dt b a).2.id (d_ b a).2.of (h9 ((fi b a).1.said j9).1) (ey b a).2.key (.list 2 (Ga.map Head.row))++[(10,.x (.one (.int .i64 (if fw 9 ((fx b a).1.said dS).1=true then (bV ((fx b a).1.said dS).1:Int)else 0)))),(12,.x (.one (.str ((ka b a).1.said lf).1)))]) (fun _=>True)
   ·intro jP;cases C
    ·rw[h7,an h5]at fZ;rw[fZ]at jP;simp;refine c6.of bf ?_;simp;refine b0.fL ?_ (jP () trivial);simp
    ·by_cases l6:L=[]
     ·rw[gw l6,ig,av rfl]at fZ;rw[fZ]at jP;simp[l6];refine b0.fL ?_ (jP () trivial);simp
     ·rw[iI l6,ig,an h5]at fZ;rw[fZ]at jP;simp[l6];refine c6.of bf ?_;simp;refine b0.fL ?_ (jP () trivial);simp
   rintro - -;simp;refine c6.of bM ?_;simp;refine b0.fL ?_ (K () trivial);simp
  ·have cm:((gi b a).1.bad<0)=False:=bz eJ;have r2:(0<=(gi b a).1.bad)=True:=aY;have gp:(jO b a).1=(gi b a).1:=by
    show (s4 (gi b a)).1=_;unfold s4;rw[an eJ]
   simp[cm,r2];refine b0.fL ?_ (K () trivial);rw[gp];simp
 rintro - -;obtain⟨f1,f2,f3,f4,f5,f6,f7,f8⟩:=zqF b a;rw[<-pu]at f6;have f4:(jO b a).2.time=h9 ((fi b a).1.said j9).1:=f4;have f7:(jO b a).2.length=if fw 9 ((fx b a).1.said dS).1=true then (bV ((fx b a).1.said dS).1:Int)else 0:=f7
 have f8:(jO b a).2.ee=((ka b a).1.said lf).1:=f8;rw[f1,f2,f3,f4,f5,f6,f7,f8];simp
def zqV(b:aq)(a:Nat)(ad:b.length<=16777216)(bj:a<=b.length):az prog 78 [.one (b5 b),.one (.int .i64 a)] (FJ (iL b a)):=by
 have aE:=zqT b a ad bj;have hs:=zqB b a;have ay:(oH h9 hn h8 (fk b a)).2.nf b:=Z4 ⟨⟨ad,bj⟩,rfl,by simp[fk],by simp[fk]⟩;obtain⟨R,aC⟩:∃R,R=iL b a:=⟨_,rfl⟩
 rw[<-aC];unfold iL at aC;generalize oH h9 hn h8 (fk b a)=r at*;generalize jO b a=T at*;obtain⟨B,x⟩:=r;dsimp only at*;obtain⟨⟨_,GN⟩,oo,zmG,mJ⟩:=ay;obtain⟨L,Ak⟩:∃L:Nat,x.length=(L:Int):=⟨x.length.toNat,by omega⟩
 rw[Ak,kO]at aC;have bU:=e8 b;have iZ:=bc ((x.at_:Int)+(L:Int));have qd:=bc ((x.at_:Int)+(L:Int)+4);have NP:=bc ((b.length:Int)-(x.at_:Int));have T5:=bc ((b.length:Int)-((x.at_:Int)+(L:Int)));unfold FJ;refine @az.of _ (wH [(7,[1,1,1,1,1,1,1,1,1,1,1,1,1,1,4,1,0])]) _ _ _ _ _ mixed (fn:=f78) (by kernel_rfl) (by kernel_rfl) rfl (by kernel_rfl) (by simp[f78]) (fun aD=>?_);simp;refine c6.of aE ?_;cases B
 ·obtain⟨aa,ab⟩:=hs;dsimp only at aa ab;rw[av rfl]at aC;subst aC;simp[ab];refine m_.r ⟨[16],by kernel_rfl,?_⟩;simp[fS,Rec.row]
 have hs:T=(⟨x.b,x.at_,-1⟩,x):=hs;subst hs;rw[an (by decide)]at aC;by_cases bw:b.length<x.at_+L
 ·have c7:((b.length:Int)-(x.at_:Int)<(L:Int))=True:=aY;rw[av (by omega)]at aC;subst aC;simp[Ak,oo,NP,c7,fS,Rec.row,bU]
 have c7:((b.length:Int)-(x.at_:Int)<(L:Int))=False:=a8;have sO:b4 (bq b) (x.at_:Int) ((x.at_:Int)+(L:Int))=bq ((b.drop x.at_).take L):=by have:=oE (b:=b) (a:=x.at_) (i:=x.at_+L) (by omega);rw[show x.at_+L-x.at_=L by omega]at this;exact_mod_cast this
 have g4:((x.at_:Int)+(L:Int)<=(b.length:Int))=True:=aY;have g5:((x.at_:Int)<=(x.at_:Int)+(L:Int))=True:=aY;have qj:((b.drop x.at_).take L).length=L:=by simp;omega
 have g6:(bq ((b.drop x.at_).take L)).length=L:=by rw[e8,qj]
 have g7:(L<=140737488355328)=True:=aY;have g8:(L<=maxLen)=True:=bW (by unfold maxLen;omega);by_cases aa:b.length<x.at_+L+4
 ·have dd:((b.length:Int)-((x.at_:Int)+(L:Int))<4)=True:=aY;rw[av aa]at aC;subst aC;simp[Ak,oo,iZ,NP,T5,c7,dd,sO,g4,g5,g6,g7,g8,fS,Rec.row,bU]
 rw[an aa]at aC;have dd:((b.length:Int)-((x.at_:Int)+(L:Int))<4)=False:=a8;have e1:b4 (bq b) ((x.at_:Int)+(L:Int)) ((x.at_:Int)+(L:Int)+4)=bq ((b.drop (x.at_+L)).take 4):=by have:=oE (b:=b) (a:=x.at_+L) (i:=x.at_+L+4) (by omega);rw[show x.at_+L+4-(x.at_+L)=4 by omega]at this;exact_mod_cast this
 have g1:(0<=(x.at_:Int)+(L:Int))=True:=aY;have g2:((x.at_:Int)+(L:Int)+4<=(b.length:Int))=True:=aY;have g3:((x.at_:Int)+(L:Int)<=(x.at_:Int)+(L:Int)+4)=True:=aY;generalize cp:(b.drop (x.at_+L)).take 4=T at*;have jC:=vi T;have gD:=vj T;by_cases ab:T=FI
 ·rw[an (by simpa using ab)]at aC;have ny:(T=[13,10,13,10])=True:=bW ab;have bf:=zbs ((b.drop x.at_).take L) (by simp;omega);have bM:az prog 137 [.agg [.int .i64 x.kind,.str x.id,.str x.of,.int .i64 x.time,.str x.key,.list 2 (x.aT.map Head.row),b5 ((b.drop x.at_).take L)]] (.x (.one (.int .i64 (hH (x.t_ ((b.drop x.at_).take L)))))):=Tr (x.t_ ((b.drop x.at_).take L));generalize (b.drop x.at_).take L=W at*;simp[Ak,oo,iZ,qd,NP,T5,c7,dd,bU,e1,sO,g1,g2,g3,g4,g5,g6,g7,g8,jC,gD,ny];refine aH.of bf ?_;by_cases au:sL W=x.ee
  ·rw[an (by simpa using au)]at aC;simp[au];refine aH.of bM ?_;generalize hH (x.t_ W)=F at*;by_cases aN:F=0
   ·rw[an (by simpa using aN)]at aC;subst aC;subst aN;simp[bh.t_,Rec.row,qd]
   ·rw[av aN]at aC;subst aC;simp[aN,fS,Rec.row]
  ·rw[av au]at aC;subst aC;simp[au];refine m_.r ⟨[16],by kernel_rfl,?_⟩;simp[fS,Rec.row]
 ·rw[av ab]at aC;subst aC;have ny:(T=[13,10,13,10])=False:=bz ab;simp[Ak,oo,iZ,qd,NP,T5,c7,dd,bU,e1,sO,g1,g2,g3,g4,g5,g6,g7,g8,jC,gD,ny,fS,Rec.row]
def zci(b:aq):az prog 45 [.one (b5 b)] (.b2 [fP (cE b).1,rB (cE b).2.1,.one (.int .i64 (cE b).2.2.1),.one (.int .i64 (cE b).2.2.2)]):=by
 obtain⟨R,aC⟩:∃R,R=cE b:=⟨_,rfl⟩
 rw[<-aC];unfold cE at aC;unfold fP rB;have bU:=e8 b;refine az.bd f45 mixed fun aD=>?_;by_cases aa:500000<b.length
 ·rw[av aa]at aC;subst aC;have dd:(500000<(b.length:Int))=True:=aY;simp[bU,dd]
 rw[an aa]at aC;have dd:(500000<(b.length:Int))=False:=a8;simp[bU,dd];refine ck.of (Nat×List Rec×List Mark) (fun x=>[(0,.x (.one (b5 b))),(6,.own 78 7 (x.2.1.map Rec.row)),(7,.own 97 3 (x.2.2.map Mark.row)),(8,.x (.one (.int .i64 x.1)))])
  (fun x=>x.1<=b.length/\R=FL b x.1 x.2.1 x.2.2/\x.2.1.length<=x.1/\x.2.2.length<=x.1) (fun x=>b.length-x.1) (0,[],[]) ⟨cj _,aC,f_ _,f_ _⟩ ?_ ?_
 ·simp
 rintro⟨a,L,M⟩ ⟨bj,af,l6,fK⟩;dsimp only at bj af l6 fK⊢;have ad:b.length<=16777216:=by omega
 rw[zag ad bj]at af;by_cases ar:a<b.length
 ·rw[av ar]at af;have aS:((a:Int)<(b.length:Int))=True:=aY;have aE:=zqV b a ad bj;have aX:=Jc ad bj;generalize iL b a=o at*;obtain⟨r,sP,f⟩:=o;unfold FJ at aE;dsimp only at*;have a_:r.row=[.int .i64 r.kind,.str r.id,.str r.of,.int .i64 r.time,.str r.key,.list 2 (r.aT.map Head.row),b5 r.block]:=rfl;rw[a_]at aE;simp[bU,aS];refine aH.of aE ?_;by_cases aw:f=0
  ·subst aw;rw[an (by decide)]at af;obtain⟨kI,jE,_⟩:=aX rfl;simp;refine⟨by unfold maxLen;omega,by unfold maxLen;omega,?_⟩;exact bt.of (sP,L++[r],M++[⟨r.id,a,sP⟩]) ⟨jE,af,by simp;omega,by simp;omega⟩ (by simp only;omega) (by simp[a_,Mark.row])
  ·rw[av aw]at af;subst af;have hC:(f=0)=False:=bz aw;simp[hC]
 ·rw[an ar]at af;have aS:((a:Int)<(b.length:Int))=False:=a8;have aQ:=zpr L;unfold fP at aQ;generalize kq L=f at*;simp[bU,aS];refine aH.of aQ ?_;by_cases aw:f=0
  ·rw[an (by simpa using aw)]at af;subst af;subst aw;simp
  ·rw[av aw]at af;subst af;have hC:(f=0)=False:=bz aw;simp[hC]
def zcj(b:aq):az prog 23 [.one (b5 b)] (.b2 [fP (cE b).1,.one (.int .i64 (cE b).2.2.1),.one (.int .i64 (cE b).2.2.2)]):=by have k:=zci b;generalize cE b=R at*;unfold fP rB at*;refine az.bd f23 mixed fun aD=>?_;simp;refine aH.of k ?_;simp
def zck(b:aq):az prog 24 [.one (b5 b)] (.b2 [rB (cE b).2.1,.one (.int .i64 (cE b).2.2.2)]):=by have k:=zci b;generalize cE b=R at*;unfold fP rB at*;refine az.bd f24 mixed fun aD=>?_;simp;refine aH.of k ?_;simp
def zqW(r:Rec)(bo:r.aT.length<=16777216)(ak:r.block.length<=16777216):az prog 139 [.agg r.row,.one (.int .i64 0),.one (.int .i64 r.block.length)] (.x (.agg r.row)):=by
 have lY:=e8 r.block;have m1:(r.aT.length<=maxLen)=True:=bW (by unfold maxLen;omega);have m2:(r.block.length<=maxLen)=True:=bW (by unfold maxLen;omega);have m3:(r.block.length<=140737488355328)=True:=aY;have e1:b4 (bq r.block) 0 (r.block.length:Int)=bq r.block:=by have:=oE (b:=r.block) (a:=0) (i:=r.block.length) (by omega);simpa using this
 refine @az.of _ (wH [(4,[1,1,1,1,1,1,1,4,1,0])]) _ _ _ _ _ mixed (fn:=f139) (by kernel_rfl) (by kernel_rfl) rfl (by kernel_rfl) (by simp[f139]) (fun aD=>?_);unfold Rec.row;simp[lY,m1,m2,m3,e1];omega
def T6(r:Rec)(v:aI):List ag:=[.int .i64 r.kind,.str r.id,.str r.of,.int .i64 r.time,.str r.key,.list 2 (r.aT.map Head.row),.atom v]
def zqX(r:Rec)(bo:r.aT.length<=16777216)(ak:r.block.length<=16777216):A_ prog 139 [.agg r.row,.one (.int .i64 0),.one (.int .i64 r.block.length)] (T6 r) 5 1 (bq r.block):=by
 have lY:=e8 r.block;have m1:(r.aT.length<=maxLen)=True:=bW (by unfold maxLen;omega);have m2:(r.block.length<=maxLen)=True:=bW (by unfold maxLen;omega);have m3:(r.block.length<=140737488355328)=True:=aY;have m4:(r.aT.length*32<=140737488355328)=True:=aY;have e1:b4 (bq r.block) 0 (r.block.length:Int)=bq r.block:=by have:=oE (b:=r.block) (a:=0) (i:=r.block.length) (by omega);simpa using this
 refine @A_.of _ (x7 [5] [] [(4,[1,1,1,1,1,1,1,4,1,5])]) [(7,6)] _ _ _ _ _ _ _ _ (by simp) mixed (fn:=f139) (by kernel_rfl) (by kernel_rfl) rfl (by kernel_rfl) (by simp[f139]) (fun aD=>?_);unfold Rec.row;simp[cU,lY,m1,m2,m3,m4,e1];refine b0.named 7 6 24 1000 rfl rfl rfl (by decide) rfl (fun v=>b0.done ?_);simp;refine⟨.inr rfl,v,1000,?_,?_⟩
 ·simp[T6]
 ·simp
def zcl(r:Rec)(w:aq)(bo:r.aT.length<=1000000000):az prog 140 [.agg r.row,.one (.str w)] (.x (.one (.int .i64 (match dC r.aT w with|v::_=>if fw 9 v=true then (bV v:Int)else -1|[]=>-1)))):=by
 have aE:=C5 r.aT w bo;unfold Rec.row;generalize dC r.aT w=V at*;refine az.bd f140 mixed fun aD=>?_;simp;refine aH.of aE ?_;cases V with
 |nil=>simp
 |cons v q=>
  have aQ:=zbG v;have a1:((q.length:Int)+1=0)=False:=a8;simp[a1];refine aH.of aQ ?_;cases h:fw 9 v
  ·simp[h]
  ·simp[h]
def yT(v:aq):Int:=if fw 9 v=true then (bV v:Int)else -1
def zcm{v:aq}{m:Nat}(ab:2<=m)(fA:m<=9999):yT v=m↔uc v=m:=by
 unfold yT uc;constructor
 ·intro h;split at h;rotate_left
  ·omega
  rename_i ak;have aA:bV v=m:=by omega
  rw[av,aA];unfold fw at ak⊢;simp only[b7,hk]at ak⊢;obtain⟨aE,aQ,bf,bM⟩:=ak;refine⟨aE,aQ,?_,bM⟩;refine Nz fun bE=>?_;cases v with
  |nil=>simp at aQ
  |cons c t=>
   have ap:c≠48:=by rintro rfl;unfold I0 at bM;simp only[hz]at bE;simp at bM;simp[bM]at bE
   have zHL:48<=c.toNat:=by rw[pr,b7]at aE;have:=aE.1;unfold da at this;simp only[b7,hk]at this;exact this.1
   have x1:c.toNat≠48:=fun e=>ap (su.1 e);have ay:=zaT (c:=c) (by omega) t;have:(10:Nat)^4<=10^t.length:=Cs (by decide) (by simp only[hz]at bE;omega);omega
 ·intro h;split at h;rotate_left
  ·omega
  rename_i ak;rw[av,h];unfold fw at ak⊢;simp only[b7,hk]at ak⊢;exact⟨ak.1,ak.2.1,by omega,ak.2.2.2⟩
def T7(w:aq):∀hs:List Head,(dC hs w=[]/\ub hs w=none)\/∃(k:Nat) (v:aq) (q:List (aq)),dC hs w=v::q/\ub hs w=some k/\((hs[k]?).getD ⟨[],[]⟩).value=v
 |[]=>.inl ⟨rfl,rfl⟩
 |h::r=>by
  unfold dC ub;rw[L1,M1];cases am:eN h.name==w
  ·rcases T7 w r with⟨aa,ab⟩|⟨k,v,q,aa,ab,au⟩
   ·left;unfold dC at aa;unfold ub at ab;refine⟨aa,?_⟩;rw[ab];rfl
   ·right;unfold dC at aa;unfold ub at ab;refine⟨k+1,v,q,aa,?_,by simpa using au⟩;rw[ab];rfl
  ·exact .inr ⟨0,h.value,_,rfl,rfl,rfl⟩
def Gb(hs:List Head)(w:aq):Int:=match dC hs w with
 |v::_=>yT v
 |[]=>-1
def zqY(x:Rec){n:Nat}(ab:2<=n)(fA:n<=9999):Gb x.aT sR=n↔(ub x.aT sR).isSome=true/\j' x=n:=by
 unfold Gb j';rcases T7 sR x.aT with⟨aa,au⟩|⟨k,v,q,aa,au,aN⟩
 ·rw[aa,au];simp
 ·rw[aa,au];have e:(((some k).bind fun j=>x.aT[j]?).getD ⟨[],[]⟩).value=v:=aN;rw[e];simp only[Option.isSome_some,mX];exact zcm ab fA
def xf(r:Rec)(id:aq)(n:Nat)(x:Rec):Bool:=x.kind==5&&(x.of==id&&(x.time==r.time&&(x.key==r.key&&Gb x.aT sR==n)))
def zqZ(l:List Rec)(r:Rec)(id:aq){n:Nat}(ab:2<=n)(fA:n<=9999):qz l r id n=l.filter (xf r id n):=by
 unfold qz;congr 1;funext x;have e:=zqY x ab fA;rw[mm];unfold mw xf;simp only[b7,fc];constructor
 ·rintro⟨⟨a,b,c,d,f⟩,g⟩;exact⟨a,b,d,f,e.2 ⟨c,g⟩⟩
 ·rintro⟨a,b,c,d,f⟩;exact⟨⟨a,b,(e.1 f).1,c,d⟩,(e.1 f).2⟩
def rL(l:List Rec)(r:Rec)(id:aq)(n i:Nat):Nat:=((l.take i).filter (xf r id n)).length
def s5(l:List Rec)(r:Rec)(id:aq)(n i:Nat)(b:aq):aq:=b++((l.take i).filter (xf r id n)).flatMap Rec.block
def zra{l:List Rec}(r:Rec)(id:aq)(n:Nat){i:Nat}(h:i<l.length)(b:aq):rL l r id n (i+1)=(if xf r id n l[i]=true then rL l r id n i+1 else rL l r id n i)/\s5 l r id n (i+1) b=if xf r id n l[i]=true then s5 l r id n i b++l[i].block else s5 l r id n i b:=by unfold rL s5;rw[k6 h,ME];cases h:xf r id n l[i]<;>simp[h]
def zrb(l:List Rec)(r:Rec)(id:aq)(hs:List Head)(k:Nat){n:Nat}(ab:2<=n)(fA:n<=9999)(b:aq):rC r hs (qz l r id) (k+1) n b=if rL l r id n l.length≠1 then (fS,9)else rC r hs (qz l r id) k (n+1) (s5 l r id n l.length b):=by
 conv=>lhs;unfold rC
 unfold rL s5;rw[zqZ l r id ab fA,pw];by_cases h:(l.filter (xf r id n)).length≠1
 ·rw[av h,av h]
 ·rw[an h,an h]
  match aw:l.filter (xf r id n),h with
  |[x],_=>simp
  |[],h=>simp at h
  |_::_::_,h=>simp at h
def ia(h:Head):Bool:=eN h.name==oP
def zrc{hs:List Head}{k:Nat}(h:ub hs oP=some k):hs.eraseP ia=hs.take k++hs.drop (k+1):=by rw[List.eraseP_eq_eraseIdx];have e:hs.findIdx? ia=some k:=h;rw[e];exact List.eraseIdx_eq_take_drop_succ _ _
def zrd{hs:List Head}{i:Nat}(h:i<hs.length):(hs.take (i+1)).eraseP ia=(if (hs.take i).any ia=false/\ia hs[i]=true then (hs.take i).eraseP ia else (hs.take i).eraseP ia++[hs[i]])/\(hs.take (i+1)).any ia=((hs.take i).any ia ||ia hs[i]):=by
 rw[k6 h,List.eraseP_append,List.any_append];constructor
 ·cases bj:(hs.take i).any ia
  ·rw[an h5];have e:(hs.take i).eraseP ia=hs.take i:=List.eraseP_of_forall_not fun x ai am=>by
    rw[y3]at bj;exact bj x ai am
   rw[e];cases ad:ia hs[i]
   ·rw[an (fun e=>h5 e.2)];simp[ad]
   ·rw[av ⟨rfl,rfl⟩];simp[ad]
  ·rw[av rfl,an (fun e=>by cases e.1)]
 ·simp
def zre(r:Rec)(hs:List Head)(k:aq):az prog 137 [.agg [.int .i64 r.kind,.str r.id,.str r.of,.int .i64 r.time,.str r.key,nc hs,b5 k]] (.x (.one (.int .i64 (hH {r with aT:=hs,block:=k})))):=
 az.Q8 (cs':=({r with aT:=hs,block:=k}:Rec).row) ⟨.inl rfl,.inl rfl,.inl rfl,.inl rfl,.inl rfl,Z5 _,.inl rfl,trivial⟩ (Tr _)
def oX(l:List Rec)(id:aq)(r:Rec)(M:Nat)(v:aI)(hs:List Head)(g:Bool)(i:Nat):List (Nat×ae):=
 [(0,.x (.one (.list 7 (l.map Rec.row)))),(1,.x (.one (.str id))),(4,.box [.int .i64 0,.str [],.str [],.int .i64 0,.str [],.nil,.nil]),(7,.box r.row),(8,.x (.one (.int .i64 M))),(10,.x (.one (.bool g))),(11,.x (.one (.int .i64 i))),(1000,.db v 5 1 (bq r.block)),(999999,.res [(9,5)])] ++
 (match hs with
  |[]=>[(9,.box [.int .i64 r.kind,.str r.id,.str r.of,.int .i64 r.time,.str r.key,.nil,.atom v])]
  |h::q=>[(9,.box [.int .i64 r.kind,.str r.id,.str r.of,.int .i64 r.time,.str r.key,.any,.atom v]),(84,.own 153 2 ((h::q).map Head.row)),(1009005,.link 9 5 84)])
def zrf(l:List Rec)(id:aq)(al:l.length<=1000)(ao:∀r∈l,hH r=0):az prog 87 [fP l,.one (.str id)] (.b2 [.agg (nh l id).1.row,.one (.int .i64 (nh l id).2)]):=by
 obtain⟨R,aC⟩:∃R,R=nh l id:=⟨_,rfl⟩
 rw[<-aC];unfold nh at aC;have aE:=S3 l id (by omega);have dW:=yA (fun x:Rec=>x.id==id) l;have aZ:fS.row=[.int .i64 0,.str [],.str [],.int .i64 0,.str [],.list 2 [],.list 1 []]:=rfl;have a_:∀x:Rec,x.row=[.int .i64 x.kind,.str x.id,.str x.of,.int .i64 x.time,.str x.key,.list 2 (x.aT.map Head.row),b5 x.block]:=fun _=>rfl;have hU:ng l id=l.findIdx? (fun x:Rec=>x.id==id):=rfl;unfold fP at*;refine @az.E2 _ (En [(10,5)] [10,18,19,25,32] [29] [(18,[1,1,1,1,1,1,1,1,4,1,5])]) [(9,5)] [] _ _ _ _ _ (by simp) mixed (fn:=f87) (by kernel_rfl) (by kernel_rfl) rfl (by kernel_rfl) (by simp[f87]) (fun aD=>?_);simp;refine aH.of aE ?_;rcases dW with⟨ax,aK⟩|⟨k,ax,aK,ak⟩
 ·rw[ax];rw[hU,aK,av (.inl rfl)]at aC;subst aC;cases l with
  |nil=>simp[aZ]
  |cons x q=>simp[aZ,a_ x]
 rw[ax];have th:h_ l id=l[k]:=by unfold h_;rw[hU,aK];simp[cr ak]
 rw[th,hU,aK]at aC;have pl:((k:Int)<0)=False:=a8;have kG:((k:Int)<(l.length:Int))=True:=aY;have mR:l[k]?=some l[k]:=cr ak;have rx:=w5 (ao l[k] (hS ak));obtain⟨r,wY⟩:∃r,r=l[k]:=⟨_,rfl⟩
 rw[<-wY]at aC mR rx;by_cases vy:r.kind=5
 ·rw[av (.inr vy)]at aC;subst aC;simp[pl,kG,ak,a_,<-wY,vy,fS]
 rw[an (by simp[vy])]at aC;have sN:(r.kind=5)=False:=bz vy;have bo:=rx.Jb;have ad:=rx.block;have aQ:=C5 r.aT oP (by omega);unfold oP at aQ;simp[pl,kG,ak,a_,<-wY,sN];refine aH.of aQ ?_;rcases T7 oP r.aT with⟨v1,v2⟩|⟨j,w,q,v1,v2,v3⟩
 ·unfold oP at v1;have bf:=zqW r (by omega) (by omega);rw[a_ r]at bf;rw[v1];rw[v2]at aC;subst aC;have lY:=e8 r.block;simp[lY];refine aH.of bf ?_;simp[a_]
 rw[v2]at aC;dsimp only at aC;rw[v3]at aC;unfold oP at v1;have bM:=zcl r oP (by omega);rw[a_ r]at bM;unfold oP at bM;rw[v1]at bM;have bM:az prog 140 [.agg [.int .i64 r.kind,.str r.id,.str r.of,.int .i64 r.time,.str r.key,.list 2 (r.aT.map Head.row),b5 r.block],.one (.str [112,105,101,99,101,115])] (.x (.one (.int .i64 (yT w)))):=bM;have a1:((q.length:Int)+1=0)=False:=a8;rw[v1];simp[a1];refine aH.of bM ?_;have dz:=Nt (yT w) 2 9999;simp;refine aH.of dz ?_;have zrg:=zaA (s:=w);have zcn:=fun (m:Nat)=>zcm (v:=w) (m:=m);generalize uc w=M at*;by_cases fK:M<2
 ·rw[av fK]at aC;subst aC;have d9:dh 2 9999 (yT w)=false:=by
   unfold dh;rw[ss,rp,rp];refine Nz fun h=>?_;rw[not_or,Decidable.not_not,Decidable.not_not]at h;have:=(zcn (yT w).toNat (by omega) (by omega)).1 (by omega);omega
  rw[d9];simp[fS,a_]
 rw[an fK]at aC;have lc:yT w=(M:Int):=(zcn M (by omega) zrg).2 rfl;have d9:dh 2 9999 (yT w)=true:=by rw[lc];unfold dh;rw[gw (by omega),gw (by omega)];rfl
 rw[d9,lc];have lY:=e8 r.block;have oS:=zqX r (by omega) (by omega);rw[a_ r]at oS;simp[lY];refine m_.r ?_;simp;refine Ey.of 1000 oS (by decide) (by simp) (fun v0=>?_);unfold T6;simp;refine b0.done ?_;simp;refine ck.of Nat (fun i=>oX l id r M v0 ((r.aT.take i).eraseP ia) ((r.aT.take i).any ia) i) (fun i=>i<=r.aT.length) (fun i=>r.aT.length-i) 0 (cj _) ?_ ?_
 ·simp[oX,a_]
 rintro i ah;by_cases ar:i<r.aT.length
 ·have aS:((i:Int)<(r.aT.length:Int))=True:=aY;have bC:=bc ((i:Int)+1);have D0:r.aT[i]?=some r.aT[i]:=cr ar;have qB:∀h:Head,h.row=[.str h.name,.str h.value]:=fun _=>rfl;have Jz:=Rv r.aT[i].name;obtain⟨s1,s2⟩:=zrd ar;have NQ:ia r.aT[i]=(eN r.aT[i].name==[112,105,101,99,101,115]):=rfl;have A2:((r.aT.take i).eraseP ia).length<=30:=jc (List.eraseP_sublist.length_le) (by rw[e'];omega);generalize (r.aT.take i).eraseP ia=hs at*;generalize (r.aT.take i).any ia=g at*;have fin:∀s,nM s (oX l id r M v0 (if g=false/\ia r.aT[i]=true then hs else hs++[r.aT[i]]) (g ||ia r.aT[i]) (i+1)) (oX l id r M v0 (if g=false/\ia r.aT[i]=true then hs else hs++[r.aT[i]]) (g ||ia r.aT[i]) (i+1)) ->
  nM s (oX l id r M v0 ((r.aT.take (i+1)).eraseP ia) ((r.aT.take (i+1)).any ia) (i+1)) (oX l id r M v0 ((r.aT.take (i+1)).eraseP ia) ((r.aT.take (i+1)).any ia) (i+1)):=fun s h=>by rw[s1,s2];exact h
  generalize ia r.aT[i]=p at*;apply b0.share (ι:=Unit) (fun _=>oX l id r M v0 hs g i) (fun _=>p=false\/g=true)
  ·intro K;have hit:g=false->p=true->(if g=false/\p=true then hs else hs++[r.aT[i]])=hs:=fun a b=>av ⟨a,b⟩;cases hs with
   |nil=>
    unfold oX at K⊢;dsimp only[List.append_eq,List.cons_append,List.nil_append]at K⊢;cases g
    ·simp[ar,aS,a_,qB];refine b_.of (fun _=>Jz) rfl ?_;cases p
     ·have p7:=jj.1 NQ.symm;simp[p7];refine b0.fL ?_ (K () (.inl rfl));simp[a_]
     ·have qR:=eq_of_beq NQ.symm;simp[qR];refine bt.of (i+1) ar (by omega) (fin _ ?_);rw[hit rfl rfl];simp[oX,bC,a_]
    ·simp[ar,aS,a_,qB];refine ya ?_;simp;refine b0.fL ?_ (K () (.inr rfl));simp[a_]
   |cons a1 tW=>
    unfold oX at K⊢;dsimp only[List.append_eq,List.cons_append,List.nil_append]at K⊢;cases g
    ·simp[ar,aS,a_,qB];refine b_.of (fun _=>Jz) rfl ?_;cases p
     ·have p7:=jj.1 NQ.symm;simp[p7];refine b0.fL ?_ (K () (.inl rfl));simp[a_,qB]
     ·have qR:=eq_of_beq NQ.symm;simp[qR];refine bt.of (i+1) ar (by omega) (fin _ ?_);rw[hit rfl rfl];simp[oX,bC,a_,qB]
    ·simp[ar,aS,a_,qB];refine ya ?_;simp;refine b0.fL ?_ (K () (.inr rfl));simp[a_,qB]
  rintro-NR;have aK:(if g=false/\p=true then hs else hs++[r.aT[i]])=hs++[r.aT[i]]:=an (by rintro⟨a,b⟩;rw[a,b]at NR;simp at NR);have cd:(g ||p)=g:=by cases g<;>simp at NR⊢;exact NR
  rw[aK,cd]at fin;cases hs with
  |nil=>unfold oX;dsimp only[List.append_eq,List.cons_append,List.nil_append];simp[cU,ar,aS,a_,qB];refine bt.of (i+1) ar (by omega) (fin _ ?_);simp[oX,bC,a_,qB]
  |cons a1 tW=>unfold oX;dsimp only[List.append_eq,List.cons_append,List.nil_append];simp[cU,ar,aS,a_,qB];rw[hz]at A2;refine⟨⟨by omega,by unfold maxLen;omega⟩,bt.of (i+1) ar (by omega) (fin _ ?_)⟩;simp[oX,bC,a_,qB]
 obtain rfl:i=r.aT.length:=by omega
 have aS:((r.aT.length:Int)<(r.aT.length:Int))=False:=a8;rw[pw];rw[<-zrc v2]at aC;have A2:(r.aT.eraseP ia).length<=30:=jc (List.eraseP_sublist.length_le) (by omega);generalize r.aT.eraseP ia=hs at*;generalize r.aT.any ia=g at*;apply b0.share (ι:=Unit) (fun _=>[(0,.x (.one (.list 7 (l.map Rec.row)))),(1,.x (.one (.str id))),(4,.box [.int .i64 0,.str [],.str [],.int .i64 0,.str [],.nil,.nil]),(7,.box r.row),(8,.x (.one (.int .i64 M))),
  (9,.box [.int .i64 r.kind,.str r.id,.str r.of,.int .i64 r.time,.str r.key,nc hs,.atom v0]),(1000,.db v0 5 1 (bq r.block))]) (fun _=>True)
 ·intro K;cases hs with
  |nil=>unfold oX;dsimp only[List.append_eq,List.cons_append,List.nil_append];simp[aS,a_];refine b0.fL ?_ (K () trivial);simp[nc,a_]
  |cons a1 tW=>unfold oX;dsimp only[List.append_eq,List.cons_append,List.nil_append];simp[aS,a_];refine b0.fold 9 5 ?_;refine b0.fL ?_ (K () trivial);simp[nc,a_]
 rintro - -;obtain⟨m,em⟩:∃m,M=m+1:=⟨M-1,by omega⟩
 subst em;rw[zc]at aC;simp[a_];refine ck.of (Nat×aI×aq) (fun x=>[(0,.x (.one (.list 7 (l.map Rec.row)))),(1,.x (.one (.str id))),(4,.box [.int .i64 0,.str [],.str [],.int .i64 0,.str [],.nil,.nil]),(7,.box r.row),(8,.x (.one (.int .i64 (m+1:Nat)))),
  (9,.box [.int .i64 r.kind,.str r.id,.str r.of,.int .i64 r.time,.str r.key,nc hs,.atom x.2.1]),(12,.x (.one (.int .i64 (x.1+2:Nat)))),(1000,.db x.2.1 5 1 (bq x.2.2))])
  (fun x=>x.1<=m/\x.2.2.length<=200000*(1+1000*x.1)/\R=rC r hs (qz l r id) (m-x.1) (x.1+2) x.2.2) (fun x=>m-x.1) (0,v0,r.block) ⟨cj _,by omega,aC⟩ ?_ ?_
 ·simp[a_]
 rintro⟨n,v,B⟩ ⟨aX,bk,af⟩;dsimp only at aX bk af⊢;by_cases Wc:n<m;rotate_left
 ·have T8:((n:Int)+2<=(m:Int)+1)=False:=a8;rw[show m-n=0 by omega]at af;unfold rC at af;have Kp:=zre r hs B;simp[T8,a_];refine b0.Qd 9 6 1000 rfl rfl rfl ?_;refine b0.done ?_;simp;refine aH.of Kp ?_;generalize hH {r with aT:=hs,block:=B}=F at*;by_cases a6:F=0
  ·rw[an (by simpa using a6)]at af;subst af;subst a6;simp[a_]
  ·rw[av a6]at af;subst af;have qC:(F=0)=False:=bz a6;simp[qC,fS,a_]
 have T8:((n:Int)+2<=(m:Int)+1)=True:=aY;rw[show m-n=(m-n-1)+1 by omega,zrb l r id hs _ (by omega) (by omega)]at af;simp[T8,a_];refine ck.of (Nat×aI) (fun x=>[(0,.x (.one (.list 7 (l.map Rec.row)))),(1,.x (.one (.str id))),(4,.box [.int .i64 0,.str [],.str [],.int .i64 0,.str [],.nil,.nil]),(7,.box r.row),(8,.x (.one (.int .i64 (m+1:Nat)))),
  (9,.box [.int .i64 r.kind,.str r.id,.str r.of,.int .i64 r.time,.str r.key,nc hs,.atom x.2]),(12,.x (.one (.int .i64 (n+2:Nat)))),(13,.x (.one (.int .i64 (rL l r id (n+2) x.1:Nat)))),(14,.x (.one (.int .i64 x.1))),(1000,.db x.2 5 1 (bq (s5 l r id (n+2) x.1 B)))])
  (fun x=>x.1<=l.length/\(s5 l r id (n+2) x.1 B).length<=200000*(1+1000*n)+200000*x.1/\rL l r id (n+2) x.1<=x.1) (fun x=>l.length-x.1) (0,v) ⟨cj _,by simpa[s5]using bk,f_ _⟩ ?_ ?_
 ·simp[a_,rL,s5]
 rintro⟨i,y⟩ ⟨ah,zrh,zri⟩;dsimp only at ah zrh zri⊢;by_cases ar:i<l.length
 ·have aS:((i:Int)<(l.length:Int))=True:=aY;have bC:=bc ((i:Int)+1);have D0:l[i]?=some l[i]:=cr ar;have Bt:=w5 (ao l[i] (hS ar));have zrj:=Bt.Jb;have oo:=Bt.block;have yB:=zcl l[i] sR (by omega);rw[a_ l[i]]at yB;have yB:az prog 140 [.agg [.int .i64 l[i].kind,.str l[i].id,.str l[i].of,.int .i64 l[i].time,.str l[i].key,.list 2 (l[i].aT.map Head.row),b5 l[i].block],.one (.str [110,117,109,98,101,114])] (.x (.one (.int .i64 (Gb l[i].aT sR)))):=yB;obtain⟨s1,s2⟩:=zra r id (n+2) ar B;have bK:xf r id (n+2) l[i]=(l[i].kind==5&&(l[i].of==id&&(l[i].time==r.time&&(l[i].key==r.key&&Gb l[i].aT sR==((n+2:Nat):Int))))):=rfl;have sm:=a_ l[i];obtain⟨x,ex⟩:∃x,l[i]=x:=⟨_,rfl⟩
  rw[ex]at D0 zrj oo yB s1 s2 bK sm;clear Bt;apply b0.share (ι:=aI) (fun y=>[(0,.x (.one (.list 7 (l.map Rec.row)))),(1,.x (.one (.str id))),(4,.box [.int .i64 0,.str [],.str [],.int .i64 0,.str [],.nil,.nil]),(7,.box r.row),(8,.x (.one (.int .i64 (m+1:Nat)))),
  (9,.box [.int .i64 r.kind,.str r.id,.str r.of,.int .i64 r.time,.str r.key,nc hs,.atom y]),(12,.x (.one (.int .i64 (n+2:Nat)))),(13,.x (.one (.int .i64 (rL l r id (n+2) (i+1):Nat)))),(14,.x (.one (.int .i64 i))),(1000,.db y 5 1 (bq (s5 l r id (n+2) (i+1) B)))]) (fun _=>True)
  ·intro K;rw[s1,s2]at K;by_cases bw:x.kind=5;rotate_left
   ·rw[jj.2 bw,h7]at bK;rw[bK,an h5,an h5]at K;have c7:(x.kind=5)=False:=bz bw;have d1:(x.kind==5)=false:=jj.2 bw;simp[ar,aS,ex,sm,a_ r,d1];refine gH 0 ?_;simp;refine b0.fL ?_ (K y trivial);simp[a_ r]
   have c7:(x.kind=5)=True:=bW bw;have d1:(x.kind==5)=true:=fc.2 bw;by_cases bA:x.of=id;rotate_left
   ·rw[jj.2 bA]at bK;simp only[h7,kJ]at bK;rw[bK,an h5,an h5]at K;have eU:(x.of=id)=False:=bz bA;have d2:(x.of==id)=false:=jj.2 bA;simp[ar,aS,ex,sm,a_ r,d1,d2];refine gH 0 ?_;simp;refine b0.fL ?_ (K y trivial);simp[a_ r]
   have eU:(x.of=id)=True:=bW bA;have d2:(x.of==id)=true:=fc.2 bA;by_cases cJ:x.time=r.time;rotate_left
   ·rw[jj.2 cJ]at bK;simp only[h7,kJ]at bK;rw[bK,an h5,an h5]at K;have jH:(x.time=r.time)=False:=bz cJ;have d3:(x.time==r.time)=false:=jj.2 cJ;simp[ar,aS,ex,sm,a_ r,d1,d2,d3];refine gH 0 ?_;simp;refine b0.fL ?_ (K y trivial);simp[a_ r]
   have jH:(x.time=r.time)=True:=bW cJ;have d3:(x.time==r.time)=true:=fc.2 cJ;by_cases fv:x.key=r.key;rotate_left
   ·rw[jj.2 fv]at bK;simp only[h7,kJ]at bK;rw[bK,an h5,an h5]at K;have Ji:(x.key=r.key)=False:=bz fv;have d4:(x.key==r.key)=false:=jj.2 fv;simp[ar,aS,ex,sm,a_ r,d1,d2,d3,d4];refine gH 0 ?_;simp;refine b0.fL ?_ (K y trivial);simp[a_ r]
   have Ji:(x.key=r.key)=True:=bW fv;have d4:(x.key==r.key)=true:=fc.2 fv;rw[bw,bA,cJ,fv]at bK;simp only[nw,ig]at bK;simp[ar,aS,ex,sm,a_ r,d1,d2,d3,d4];refine b_.of (fun _=>yB) rfl ?_;generalize Gb x.aT sR=N at*;by_cases lh:N=((n+2:Nat):Int)
   rotate_left
   ·rw[jj.2 lh]at bK;rw[bK,an h5,an h5]at K;have T9:(N=(n:Int)+2)=False:=a8;simp[T9];refine b0.fL ?_ (K y trivial);simp[a_ r]
   rw[fc.2 lh]at bK;rw[bK,av rfl,av rfl]at K;have T9:(N=(n:Int)+2)=True:=aY;have wf:=bc ((rL l r id (n+2) i:Int)+1);simp[T9,wf];refine XU 1000 5 1 (bq (s5 l r id (n+2) i B)) ?_ ?_ ?_
   ·decide
   ·simp
   simp;refine⟨⟨by omega,by unfold maxLen;omega⟩,?_⟩;refine yd.of 136 1000 rfl (by decide) (by simp) (fun r_=>?_);simp;refine b0.fL ?_ (K r_ trivial);simp[a_ r];unfold bq;rw[qa]
  ·rintro r_ -;simp[bC];refine bt.of (i+1,r_) ⟨ar,?_,?_⟩ (by dsimp only;omega) ?_
   ·dsimp only;rw[s2];split
    ·rw[eG];omega
    ·omega
   ·dsimp only;rw[s1];split<;>omega
   ·simp[a_ r]
 obtain rfl:i=l.length:=by omega
 have aS:((l.length:Int)<(l.length:Int))=False:=a8;by_cases aw:rL l r id (n+2) l.length=1
 ·rw[an (by simpa using aw)]at af;have hC:((rL l r id (n+2) l.length:Int)=1)=True:=aY;have M4:i64.wrap ((n:Int)+2+1)=(n:Int)+3:=by rw[bc _];omega
  simp[aS,hC,a_ r,M4];refine bt.of (n+1,y,s5 l r id (n+2) l.length B) ⟨by dsimp only;omega,by dsimp only;omega,by dsimp only;rw[show m-(n+1)=m-n-1 by omega];exact af⟩ (by dsimp only;omega) ?_;simp[a_ r];omega
 ·rw[av aw]at af;subst af;have hC:((rL l r id (n+2) l.length:Int)=1)=False:=a8;simp[aS,hC,fS,a_]
def zrk{l:List Rec}{w:aq}(h:w∈l.map Rec.id):(ng l w).isSome=true:=by obtain⟨r,ao,rfl⟩:=hx.1 h;unfold ng;rw[List.findIdx?_isSome,AP];exact⟨r,ao,by simp⟩
def zco(r:Rec)(hs:List Head)(vO:Nat->List Rec):∀(k n:Nat) (b:aq),(rC r hs vO k n b).2≠0->(rC r hs vO k n b).1=fS
 |0,n,b=>by
  unfold rC;split
  ·exact fun _=>rfl
  ·exact fun h=>absurd rfl h
 |k+1,n,b=>by
  unfold rC;split
  ·exact fun _=>rfl
  ·exact zco r hs vO k _ _
def zrl(l:List Rec)(w:aq):(nh l w).2≠0->(nh l w).1=fS:=by
 unfold nh;split
 ·exact fun _=>rfl
 ·split
  ·exact fun h=>absurd rfl h
  ·split
   ·exact fun _=>rfl
   ·exact zco _ _ _ _ _ _
def zrm(l:List Rec)(w:aq)(al:l.length<=1000)(ao:∀r∈l,hH r=0):az prog 51 [fP l,.one (.str w)] (.b2 [.one (b5 (w7 l (l.length+1) [] w).1),.one (.int .i64 (w7 l (l.length+1) [] w).2)]):=by
 obtain⟨R,aC⟩:∃R,R=w7 l (l.length+1) [] w:=⟨_,rfl⟩
 rw[<-aC];have a_:∀x:Rec,x.row=[.int .i64 x.kind,.str x.id,.str x.of,.int .i64 x.time,.str x.key,.list 2 (x.aT.map Head.row),b5 x.block]:=fun _=>rfl;unfold fP at*;refine az.bd f51 mixed fun aD=>?_;simp;refine ck.of (List (aq)×aq) (fun x=>[(0,.x (.one (.list 7 (l.map Rec.row)))),(1,.x (.one (.str x.2))),(6,.own 9 1 (x.1.map fun s=>[ag.str s]))])
  (fun x=>(x.1.Nodup/\∀s∈x.1,s∈l.map Rec.id)/\R=w7 l (l.length+1-x.1.length) x.1 x.2) (fun x=>l.length+1-x.1.length) ([],w) ⟨⟨by simp,by simp⟩,aC⟩ ?_ ?_
 ·simp
 rintro⟨seen,w⟩ ⟨⟨hi,dg⟩,af⟩;dsimp only at hi dg af⊢;have cX:=SU hi dg;rw[GG]at cX;have C0:l.length+1-seen.length=(l.length-seen.length)+1:=by omega
 rw[C0]at af;unfold w7 at af;simp;refine ck.of Nat (fun i=>[(0,.x (.one (.list 7 (l.map Rec.row)))),(1,.x (.one (.str w))),(6,.own 9 1 (seen.map fun s=>[ag.str s])),(7,.x (.one (.int .i64 i)))]) (fun i=>i<=seen.length/\w∉seen.take i) (fun i=>seen.length-i) 0 ⟨cj _,by simp⟩ ?_ ?_
 ·simp
 rintro i ⟨ah,xA⟩;by_cases ar:i<seen.length
 ·have aS:((i:Int)<(seen.length:Int))=True:=aY;have bC:=bc ((i:Int)+1);by_cases hs:seen[i]=w
  ·have hw:w∈seen:=hs▸hS ar;rw[an (by rw[zrk (dg w hw)];decide),av hw]at af;subst af;simp[ar,aS,hs]
  ·simp[ar,aS,hs];refine bt.of (i+1) ⟨ar,?_⟩ (by omega) (by simp[bC]);rw[k6 ar,hg,nE];rintro (h|h)
   ·exact xA h
   ·exact hs h.symm
 obtain rfl:i=seen.length:=by omega
 have aS:((seen.length:Int)<(seen.length:Int))=False:=a8;rw[pw]at xA;rw[an xA]at af;have aE:=S3 l w (by omega);have dW:=yA (fun x:Rec=>x.id==w) l;have hU:ng l w=l.findIdx? (fun x:Rec=>x.id==w):=rfl;unfold fP at aE;simp[aS];refine⟨⟨by omega,by unfold maxLen;omega⟩,aH.of aE ?_⟩;rcases dW with⟨ax,aK⟩|⟨k,ax,aK,ak⟩
 ·rw[ax];rw[hU,aK,av Option.isSome_none]at af;subst af;simp
 rw[ax];have th:h_ l w=l[k]:=by unfold h_;rw[hU,aK];simp[cr ak]
 have zrn:w∈l.map Rec.id:=zaD (by rw[hU,aK];rfl);rw[th,hU,aK,an (show ¬(some k).isSome=false by simp)]at af;have pl:((k:Int)<0)=False:=a8;have kG:((k:Int)<(l.length:Int))=True:=aY;have mR:l[k]?=some l[k]:=cr ak;have sm:=a_ l[k];obtain⟨x,ex⟩:∃x,l[k]=x:=⟨_,rfl⟩
 rw[ex]at af mR sm;by_cases aN:x.kind=4
 ·rw[av aN]at af;have kB:(x.kind=4)=True:=bW aN;simp[pl,kG,ak,ex,sm,kB];refine bt.of (seen++[w],x.of) ⟨⟨by rw[Iq];exact⟨hi,by simp,fun a bj b ad e=>by rw[nE]at ad;subst ad e;exact xA bj⟩,fun s hs=>(hg.1 hs).elim (dg s) fun h=>by rw[nE]at h;rw[h];exact zrn⟩,?_⟩ (by simp;omega) ?_
  ·dsimp only;rw[af];congr 1;simp
  ·simp
 ·rw[an aN]at af;have kB:(x.kind=4)=False:=bz aN;have bM:=zrf l w al ao;rw[a_ (nh l w).1]at bM;have ac:=zrl l w;generalize nh l w=J at*;subst af;unfold fP at bM;simp[pl,kG,ak,ex,sm,kB];refine aH.of bM ?_;by_cases aw:J.2=0
  ·simp[aw]
  ·have hC:(J.2=0)=False:=bz aw;simp[hC,ac aw,fS]
end
def Zk:Go.Shelf.Ren:=⟨kn [(119,209),(137,128),(150,56),(152,153),(153,104),(217,176),(224,201),(225,210),(226,154),(227,109),(228,155),(266,237)],kn [(0,0),(3,3),(4,4),(5,5),(9,9),(21,21),(46,209),(116,161),(117,162),(124,165)],fun x=>x⟩
def Zl:Go.Proofs.Lays.n150 prog Zk where
 mixed:=by kernel_rfl
 f119:=b1 func209
 f137:=b1 func128
 f150:=b1 func56
 f152:=b1 func153
 f153:=b1 func104
 f217:=b1 func176
 f224:=b1 func201
 f225:=b1 func210
 f226:=b1 func154
 f227:=b1 func109
 f228:=b1 func155
 f266:=b1 func237
 t0:=underlying0
 a0:=isAgg0
 z0:=sizeOf0
 v0:=zeroValue0
 t3:=underlying3
 a3:=isAgg3
 z3:=sizeOf3
 v3:=zeroValue3
 t4:=underlying4
 a4:=isAgg4
 z4:=sizeOf4
 v4:=zeroValue4
 t5:=underlying5
 a5:=isAgg5
 z5:=sizeOf5
 v5:=zeroValue5
 t9:=underlying9
 a9:=isAgg9
 z9:=sizeOf9
 v9:=zeroValue9
 t21:=underlying21
 a21:=isAgg21
 z21:=sizeOf21
 v21:=zeroValue21
 t46:=underlying209
 a46:=isAgg209
 z46:=sizeOf209
 v46:=zeroValue209
 t116:=underlying161
 a116:=isAgg161
 z116:=sizeOf161
 t117:=underlying162
 a117:=isAgg162
 z117:=sizeOf162
 v117:=zeroValue162
 t124:=underlying165
 a124:=isAgg165
 z124:=sizeOf165
 v124:=zeroValue165
section
variable [bn][c1 0][cF prog]
def w9(s:aq):Prop:=∀c∈s,c.toNat<128
def w9.at{s:aq}(h:w9 s):∀(j:Nat) b,s[j]?=some b->b.toNat<128:=fun _ b ad=>h b (kt ad)
def rF(w:aq):List ag:=(List.range 256).map fun k=>.bool (w.contains (UInt8.ofNat k))
def S9(w:aq):(rF w).length=256:=by simp[rF]
def zbd(w:aq)(c:UInt8):(rF w)[c.toNat]?=some (.bool (w.contains c)):=by have h:c.toNat<256:=UInt8.toNat_lt c;unfold rF;rw[eZ,DA h];simp
def zot(w:aq){W:bb}{S:Nat->Prop}:cO W S (rF w) (Lib.setCells w).toList:=by
 refine⟨by rw[S9,l4,Lib.setCells_size],fun j c ac=>?_⟩;have ar:j<256:=by have:=(eQ.1 ac).1;rwa[S9]at this
 have zou:(UInt8.ofNat j).toNat=j:=by rw[UInt8.toNat_ofNat'];omega
 have aa:=zbd w (UInt8.ofNat j);have ab:=Lib.setCells_at w (UInt8.ofNat j);rw[zou]at aa ab;rw[aa]at ac;injection ac with ac
 subst ac;exact⟨_,by simpa using ab,bD.bool _⟩
def S_:(prog.info? (Zk.t 116)).map (fun i=>(i.zero,i.size))=some (some (.agg (Array.replicate 256 (.bool false))),256):=by kernel_rfl
def strings_makeASCIISet(w:aq)(hw:w9 w)(al:w.length<4294967281):az prog 109 [.one (.str w)] (.b2 [.agg (rF w),.one (.bool true)]):=by
 refine E9 [.string ⟨w.toArray⟩] (rf f109 (by kernel_rfl) (by kernel_rfl) rfl) rfl (fun _=>rfl) (fun _ W _=>?_);have ap:=(Go.Proofs.Any.strings_makeASCIISet {Zl with} (zero_of_info S_).1 (zero_of_info S_).2 ⟨w.toArray⟩ W (by simp only[ByteArray.size,n3];omega) (fun j b ad=>hw.at j b (by simpa using ad)))
 refine ap.mono ?_;rintro e w' ⟨rfl,rfl⟩;refine⟨_,rfl,(RowKit.Below.refl _ _).alloc (f_ _) _,fun S=>⟨_,rfl,rfl,fun j x ac=>?_⟩⟩
 match j,ac with
 |0,ac=>cases ac;exact⟨_,rfl,_,rfl,zot w⟩
 |1,ac=>cases ac;exact⟨_,rfl,bD.bool _⟩
 |j+2,ac=>simp at ac
def zov(w:aq)(c:UInt8):(rF w).drop c.toNat=.bool (w.contains c)::(rF w).drop (c.toNat+1):=by have h:=zbd w c;obtain⟨ar,he⟩:=eQ.1 h;rw[jw ar,he]
def zow(w:aq)(c:UInt8):cx prog 155 [.box (rF w),.x (.one (.int .u8 c.toNat))] (.x (.one (.bool (w.contains c)))) [.box (rF w),.dead]:=by have h:=zov w c;generalize w.contains c=v at*;generalize rF w=B at*;have ar:((c.toNat:Int)<256)=True:=bW (by have:=UInt8.toNat_lt c;omega);refine cx.bd f155 mixed fun aD=>?_;simp[h,ar]
def zox(n:Int):az prog 154 [.one (.int .i64 n)] (.x (.one (.bool (decide (8<n))))):=by refine az.bd f154 mixed fun aD=>?_;simp
def zoy(s w:aq)(hw:w9 w)(al:2<=w.length)(ke:w.length<4294967281)(ei:8<s.length):az prog 104 [.one (.str s),.one (.str w)] (.x (.one (.int .i64 (Lib.indexAny s w)))):=by
 obtain⟨R,aC⟩:∃R,R=Lib.indexAny s w:=⟨_,rfl⟩
 rw[<-aC];have aE:=strings_makeASCIISet w hw ke;have oS:=zow w;have cX:=S9 w;have a1:(w=[])=False:=bz (by rintro rfl;simp at al);have aa:((w.length:Int)=1)=False:=a8;have sX:((8:Int)<(s.length:Int))=True:=aY;have fH:(rF w).all ag.flat=true:=by refine hJ.2 (fun c ap=>?_);obtain⟨k,_,rfl⟩:=hx.1 ap;rfl
 have oj:so (rF w)=false:=by rw[<-H5,y3];intro c ap;obtain⟨k,_,rfl⟩:=hx.1 ap;simp[ag.isAny]
 generalize rF w=B at*;refine az.bd f104 mixed fun aD=>?_;have As:s.length<=maxLen:=by have:=aD _ kH;simp[aG.ok,ag.ok]at this;exact this
 unfold maxLen at As;simp[a1,aa];refine aH.of (zox s.length) ?_;simp[sX];refine aH.of aE ?_;simp[cX,fH];refine ck.of Nat (fun i=>[(0,.x (.one (.str s))),(6,.box B),(8,.x (.one (.int .i64 i)))]) (fun i=>i<=s.length/\Lib.NoAny s w i) (fun i=>s.length-i) 0 ⟨cj _,Lib.NoAny.zero _ _⟩ ?_ ?_
 ·simp
 rintro i ⟨ah,cl⟩;by_cases ar:i<s.length
 ·have aS:((i:Int)<(s.length:Int))=True:=aY;have bC:=bc ((i:Int)+1);have ai:s[i]?=some s[i]:=cr ar;simp[ar,aS,oj];refine c6.of (oS s[i]) ?_;cases ap:w.contains s[i]
  ·simp;refine bt.of (i+1) ⟨ar,cl.succ ai ap⟩ (by omega) ?_;simp[bC]
  ·rw[Lib.indexAny_hit cl ai ap]at aC;subst aC;simp
 ·have aS:((i:Int)<(s.length:Int))=False:=a8;obtain rfl:i=s.length:=by omega
  rw[Lib.indexAny_none cl]at aC;subst aC;simp[aS]
def Ta(s w:aq)(hs:w9 s)(hw:w9 w)(al:2<=w.length)(ke:w.length<4294967281):az prog 56 [.one (.str s),.one (.str w)] (.x (.one (.bool (Lib.containsAny s w)))):=by
 by_cases ei:s.length<=8
 ·refine E9 [.string ⟨s.toArray⟩,.string ⟨w.toArray⟩] (rf f56 (by kernel_rfl) (by kernel_rfl) rfl) rfl (fun _=>rfl) (fun _ W _=>?_);have ap:=Go.Proofs.Any.strings_ContainsAny_laid Zl S_ ⟨s.toArray⟩ ⟨w.toArray⟩ W (by simp only[ByteArray.size,n3];omega) (by simp only[ByteArray.size,n3];omega) (fun j b ad=>hs.at j b (by simpa using ad)) (fun j b ad=>hw.at j b (by simpa using ad));refine ap.mono ?_;rintro e w' ⟨rfl,ad⟩;exact⟨_,rfl,ad,fun S=>bD.bool _⟩
 ·have k:=zoy s w hw al ke (by omega);unfold Lib.containsAny;refine az.bd f56 mixed fun aD=>?_;simp;refine aH.of k ?_;simp
structure ep where
 kind:Int
 name:aq
def ep.row(r:ep):List ag:=[.int .i64 r.kind,.str r.name]
def ep.fit(r:ep):Prop:=r.name.length<=300000000000000
def sY:aq:=[47,63,38,61,37,65,66,67,68,69,70,71,72,73,74,75,76,77,78,79,80,81,82,83,84,85,86,87,88,89,90]
def rG(a b:ep):Int:=kP [hY a.kind b.kind,Lib.compareBytes a.name b.name]
def yI(p:Option ep)(x:ep):Int:=
 if x.kind<1\/7<x.kind then 4
 else if decide (x.kind=5\/x.kind=7)≠decide (x.name≠[])then 3
 else if lb [] x.name=false then 3
 else if Lib.containsAny x.name sY=true then 3
 else match p with
  |some q=>if 0<=rG q x then 8 else 0
  |none=>0
def qD:Option ep->List ep->Int
 |_,[]=>0
 |p,x::r=>if yI p x≠0 then yI p x else qD (some x) r
def qE(l:List ep):Int:=if 50<l.length then 2 else qD none l
def kZ(l:List ep):Nat->Option ep
 |0=>none
 |i+1=>l[i]?
def Tb:w9 sY:=by unfold w9;decide
def zbe:∀{s:aq},(fN [] s).2=true->w9 s
 |[],_=>fun _ h=>by cases h
 |c::r,h=>by
  unfold fN at h;rw[an (by simp)]at h;split at h
  ·cases h
  ·rename_i ap;intro x ai;rcases fp.1 ai with rfl|ai
   ·have ao:j3 x=true:=by cases e:j3 x with|true=>rfl|false=>exact absurd (.inl e) ap
    unfold j3 at ao;rw[b7,b7,mA,mA]at ao;omega
   ·exact zbe h x ai
def Tc{s:aq}(h:lb [] s=true):w9 s:=by unfold lb at h;rw[b7]at h;exact zbe h.1
def zbf{l:List ep}{i:Nat}(h:i<l.length):qD (kZ l i) (l.drop i)=if yI (kZ l i) l[i]≠0 then yI (kZ l i) l[i]else qD (kZ l (i+1)) (l.drop (i+1)):=by rw[jw h];have:kZ l (i+1)=some l[i]:=cr h;rw[this];rfl
def zoz(l:List ep)(aw:∀r∈l,r.fit):az prog 34 [.one (.list 2 (l.map ep.row))] (.x (.one (.int .i64 (qE l)))):=by
 obtain⟨R,aC⟩:∃R,R=qE l:=⟨_,rfl⟩
 rw[<-aC];unfold qE at aC;refine az.bd f34 mixed fun aD=>?_;by_cases Jp:50<l.length
 ·rw[av Jp]at aC;subst aC;have C8:((50:Int)<(l.length:Int))=True:=aY;simp[C8]
 rw[an Jp]at aC;have C8:((50:Int)<(l.length:Int))=False:=a8;simp[C8];refine ck.of Nat (fun i=>[(0,.x (.one (.list 2 (l.map ep.row)))),(9,.x (.one (.list 2 (l.map ep.row)))),(10,.x (.one (.int .i64 l.length))),(11,.x (.one (.int .i64 i)))]) (fun i=>i<=l.length/\R=qD (kZ l i) (l.drop i)) (fun i=>l.length-i) 0 ⟨cj _,by simpa[kZ]using aC⟩ ?_ ?_
 ·simp
 rintro i ⟨ah,af⟩;by_cases ar:i<l.length;rotate_left
 ·have aS:((i:Int)<(l.length:Int))=False:=a8;obtain rfl:i=l.length:=by omega
  rw[wT]at af;have af:R=0:=by rw[af];unfold qD;rfl
  subst af;simp[aS]
 have aS:((i:Int)<(l.length:Int))=True:=aY;have bC:=bc ((i:Int)+1);have a_:l[i].row=[.int .i64 l[i].kind,.str l[i].name]:=rfl;rw[zbf ar]at af;have fm:=aw l[i] (hS ar);unfold ep.fit at fm;have aE:=zjo l[i].name [] (by omega) (by simp);obtain⟨v,ev⟩:∃v,v=yI (kZ l i) l[i]:=⟨_,rfl⟩
 rw[<-ev]at af;unfold yI at ev;rcases (by omega:l[i].kind<1\/7<l[i].kind\/l[i].kind=5\/l[i].kind=7\/(1<=l[i].kind/\l[i].kind<=7/\l[i].kind≠5/\l[i].kind≠7))with ak|ak|ak|ak|ak
 ·rw[av (.inl ak)]at ev;subst ev;have af:R=4:=af;subst af;have ax:(l[i].kind<1)=True:=bW ak;simp[ar,aS,a_,ax]
 ·rw[av (.inr ak)]at ev;subst ev;have af:R=4:=af;subst af;have ax:(l[i].kind<1)=False:=a8;have mr:(7<l[i].kind)=True:=bW ak;simp[ar,aS,a_,ax,mr]
 ·rw[an (by omega)]at ev;have ax:(l[i].kind<1)=False:=a8;have mr:(7<l[i].kind)=False:=a8;have gp:(l[i].kind==5)=true:=by simp[ak]
  by_cases aX:l[i].name=[]
  ·have kf:(l[i].name=[])=True:=bW aX;rw[av (by rw[aX];simp[ak])]at ev;subst ev;have af:R=3:=af;subst af;simp[ar,aS,a_,ax,mr,gp,kf]
  rw[an (by simp[aX,ak])]at ev;have kf:l[i].name.isEmpty=false:=by simp[aX]
  simp[ar,aS,a_,ax,mr,gp,kf];refine aH.of aE ?_;cases ad:lb [] l[i].name
  ·rw[av ad]at ev;subst ev;have af:R=3:=af;subst af;simp;refine e7 true ?_;simp
  rw[an (by rw[ad];decide)]at ev;have aQ:=Ta l[i].name sY (Tc ad) Tb (by decide) (by decide);unfold sY at aQ ev;simp;refine b_.of (fun _=>aQ) rfl ?_;cases ap:Lib.containsAny l[i].name [47,63,38,61,37,65,66,67,68,69,70,71,72,73,74,75,76,77,78,79,80,81,82,83,84,85,86,87,88,89,90];rotate_left
  ·rw[av ap]at ev;subst ev;have af:R=3:=af;subst af;simp
  rw[an (by rw[ap];decide)]at ev;cases i with
  |zero=>
   have ev:v=0:=ev;subst ev;have af:R=qD (kZ l 1) (l.drop 1):=af;have iZ:i64.wrap (-1)=-1:=by decide
   simp[ar,a_,iZ];refine gH 0 ?_;simp[ar,a_,iZ];refine gH 0 ?_;simp;refine gH 0 ?_;simp;refine bt.of 1 ⟨ar,af⟩ (by omega) ?_;simp[show i64.wrap 1=1 by decide]
  |succ i=>
   have lp:i<l.length:=by omega
   have pC:i64.wrap (i:Int)=(i:Int):=bc _;have sZ:=bc ((i:Int)+1+1);have pD:l[i].row=[.int .i64 l[i].kind,.str l[i].name]:=rfl;have am:kZ l (i+1)=some l[i]:=cr lp;rw[am]at ev;dsimp only at ev;simp[lp,pC,pD];refine b_.of (fun _=>IA _ _) rfl ?_;simp[lp,pC,pD];refine b_.of (fun _=>strings_Compare _ _) rfl ?_;simp;have bf:az prog 57 [.one (.list 1 [[.int .i64 (hY l[i].kind l[i+1].kind)],[.int .i64 (Lib.compareBytes l[i].name l[i+1].name)]])] (.x (.one (.int .i64 (kP [hY l[i].kind l[i+1].kind,Lib.compareBytes l[i].name l[i+1].name])))):=Mp [hY l[i].kind l[i+1].kind,Lib.compareBytes l[i].name l[i+1].name];refine b_.of (fun _=>bf) rfl ?_;by_cases ei:0<=rG l[i] l[i+1]
   ·rw[av ei]at ev;subst ev;have af:R=8:=af;subst af;unfold rG at ei;have sX:(0<=kP [hY l[i].kind l[i+1].kind,Lib.compareBytes l[i].name l[i+1].name])=True:=bW ei;simp[sX]
   ·rw[an ei]at ev;subst ev;have af:R=qD (kZ l (i+1+1)) (l.drop (i+1+1)):=af;unfold rG at ei;have sX:(0<=kP [hY l[i].kind l[i+1].kind,Lib.compareBytes l[i].name l[i+1].name])=False:=bz ei;simp[sZ,sX];refine bt.of (i+1+1) ⟨ar,af⟩ (by omega) ?_;simp
 ·rw[an (by omega)]at ev;have ax:(l[i].kind<1)=False:=a8;have mr:(7<l[i].kind)=False:=a8;have gp:(l[i].kind==5)=false:=by simp;omega
  have Jq:(l[i].kind==7)=true:=by simp[ak]
  by_cases aX:l[i].name=[]
  ·have kf:(l[i].name=[])=True:=bW aX;rw[av (by rw[aX];simp[ak])]at ev;subst ev;have af:R=3:=af;subst af;simp[ar,aS,a_,ax,mr,gp,Jq,kf]
  rw[an (by simp[aX,ak])]at ev;have kf:l[i].name.isEmpty=false:=by simp[aX]
  simp[ar,aS,a_,ax,mr,gp,Jq,kf];refine aH.of aE ?_;cases ad:lb [] l[i].name
  ·rw[av ad]at ev;subst ev;have af:R=3:=af;subst af;simp;refine e7 true ?_;simp
  rw[an (by rw[ad];decide)]at ev;have aQ:=Ta l[i].name sY (Tc ad) Tb (by decide) (by decide);unfold sY at aQ ev;simp;refine b_.of (fun _=>aQ) rfl ?_;cases ap:Lib.containsAny l[i].name [47,63,38,61,37,65,66,67,68,69,70,71,72,73,74,75,76,77,78,79,80,81,82,83,84,85,86,87,88,89,90];rotate_left
  ·rw[av ap]at ev;subst ev;have af:R=3:=af;subst af;simp
  rw[an (by rw[ap];decide)]at ev;cases i with
  |zero=>
   have ev:v=0:=ev;subst ev;have af:R=qD (kZ l 1) (l.drop 1):=af;have iZ:i64.wrap (-1)=-1:=by decide
   simp[ar,a_,iZ];refine gH 0 ?_;simp[ar,a_,iZ];refine gH 0 ?_;simp;refine gH 0 ?_;simp;refine bt.of 1 ⟨ar,af⟩ (by omega) ?_;simp[show i64.wrap 1=1 by decide]
  |succ i=>
   have lp:i<l.length:=by omega
   have pC:i64.wrap (i:Int)=(i:Int):=bc _;have sZ:=bc ((i:Int)+1+1);have pD:l[i].row=[.int .i64 l[i].kind,.str l[i].name]:=rfl;have am:kZ l (i+1)=some l[i]:=cr lp;rw[am]at ev;dsimp only at ev;simp[lp,pC,pD];refine b_.of (fun _=>IA _ _) rfl ?_;simp[lp,pC,pD];refine b_.of (fun _=>strings_Compare _ _) rfl ?_;simp;have bf:az prog 57 [.one (.list 1 [[.int .i64 (hY l[i].kind l[i+1].kind)],[.int .i64 (Lib.compareBytes l[i].name l[i+1].name)]])] (.x (.one (.int .i64 (kP [hY l[i].kind l[i+1].kind,Lib.compareBytes l[i].name l[i+1].name])))):=Mp [hY l[i].kind l[i+1].kind,Lib.compareBytes l[i].name l[i+1].name];refine b_.of (fun _=>bf) rfl ?_;by_cases ei:0<=rG l[i] l[i+1]
   ·rw[av ei]at ev;subst ev;have af:R=8:=af;subst af;unfold rG at ei;have sX:(0<=kP [hY l[i].kind l[i+1].kind,Lib.compareBytes l[i].name l[i+1].name])=True:=bW ei;simp[sX]
   ·rw[an ei]at ev;subst ev;have af:R=qD (kZ l (i+1+1)) (l.drop (i+1+1)):=af;unfold rG at ei;have sX:(0<=kP [hY l[i].kind l[i+1].kind,Lib.compareBytes l[i].name l[i+1].name])=False:=bz ei;simp[sZ,sX];refine bt.of (i+1+1) ⟨ar,af⟩ (by omega) ?_;simp
 ·rw[an (by omega)]at ev;have ax:(l[i].kind<1)=False:=a8;have mr:(7<l[i].kind)=False:=a8;have gp:(l[i].kind==5)=false:=by simp;omega
  have Jq:(l[i].kind==7)=false:=by simp;omega
  by_cases aX:l[i].name≠[]
  ·have kf:l[i].name.isEmpty=false:=by simp;exact aX
   rw[av (by rw[iI (by omega),gw aX];decide)]at ev;subst ev;have af:R=3:=af;subst af;simp[ar,aS,a_,ax,mr,gp,Jq,kf]
  have aX:l[i].name=[]:=nY aX;rw[an (by rw[iI (by omega),iI (p:=l[i].name≠[]) (by simp[aX])];decide)]at ev;have kf:l[i].name.isEmpty=true:=by simp[aX]
  simp[ar,aS,a_,ax,mr,gp,Jq,kf];refine aH.of aE ?_;cases ad:lb [] l[i].name
  ·rw[av ad]at ev;subst ev;have af:R=3:=af;subst af;simp;refine e7 true ?_;simp
  rw[an (by rw[ad];decide)]at ev;have aQ:=Ta l[i].name sY (Tc ad) Tb (by decide) (by decide);unfold sY at aQ ev;simp;refine b_.of (fun _=>aQ) rfl ?_;cases ap:Lib.containsAny l[i].name [47,63,38,61,37,65,66,67,68,69,70,71,72,73,74,75,76,77,78,79,80,81,82,83,84,85,86,87,88,89,90];rotate_left
  ·rw[av ap]at ev;subst ev;have af:R=3:=af;subst af;simp
  rw[an (by rw[ap];decide)]at ev;cases i with
  |zero=>
   have ev:v=0:=ev;subst ev;have af:R=qD (kZ l 1) (l.drop 1):=af;have iZ:i64.wrap (-1)=-1:=by decide
   simp[ar,a_,iZ];refine gH 0 ?_;simp[ar,a_,iZ];refine gH 0 ?_;simp;refine gH 0 ?_;simp;refine bt.of 1 ⟨ar,af⟩ (by omega) ?_;simp[show i64.wrap 1=1 by decide]
  |succ i=>
   have lp:i<l.length:=by omega
   have pC:i64.wrap (i:Int)=(i:Int):=bc _;have sZ:=bc ((i:Int)+1+1);have pD:l[i].row=[.int .i64 l[i].kind,.str l[i].name]:=rfl;have am:kZ l (i+1)=some l[i]:=cr lp;rw[am]at ev;dsimp only at ev;simp[lp,pC,pD];refine b_.of (fun _=>IA _ _) rfl ?_;simp[lp,pC,pD];refine b_.of (fun _=>strings_Compare _ _) rfl ?_;simp;have bf:az prog 57 [.one (.list 1 [[.int .i64 (hY l[i].kind l[i+1].kind)],[.int .i64 (Lib.compareBytes l[i].name l[i+1].name)]])] (.x (.one (.int .i64 (kP [hY l[i].kind l[i+1].kind,Lib.compareBytes l[i].name l[i+1].name])))):=Mp [hY l[i].kind l[i+1].kind,Lib.compareBytes l[i].name l[i+1].name];refine b_.of (fun _=>bf) rfl ?_;by_cases ei:0<=rG l[i] l[i+1]
   ·rw[av ei]at ev;subst ev;have af:R=8:=af;subst af;unfold rG at ei;have sX:(0<=kP [hY l[i].kind l[i+1].kind,Lib.compareBytes l[i].name l[i+1].name])=True:=bW ei;simp[sX]
   ·rw[an ei]at ev;subst ev;have af:R=qD (kZ l (i+1+1)) (l.drop (i+1+1)):=af;unfold rG at ei;have sX:(0<=kP [hY l[i].kind l[i+1].kind,Lib.compareBytes l[i].name l[i+1].name])=False:=bz ei;simp[sZ,sX];refine bt.of (i+1+1) ⟨ar,af⟩ (by omega) ?_;simp
def mB{α β:Type}[DecidableEq α](l:List (α×β))(k:α)(v:β):List (α×β):=match l.findIdx? (fun p=>decide (k=p.1))with
 |some i=>l.set i (k,v)
 |none=>l++[(k,v)]
def nj{α β:Type}[DecidableEq α](l:List (α×β))(k:α):Option β:=(l.find? (fun p=>decide (k=p.1))).map (·.2)
def lX{α β:Type}(ek:α->aG)(ev:β->aG)(l:List (α×β)):List (aG×aG):=l.map fun p=>(ek p.1,ev p.2)
def yJ{α β:Type}[DecidableEq α]{cn:gA}{ek:α->aG}{ev:β->aG}(h:∀a b,uw cn (ek a) (ek b)=some (decide (a=b)))(k:α):∀(l:List (α×β)) (i:Nat),fz cn (ek k) (lX ek ev l) i=some ((l.findIdx? (fun p=>decide (k=p.1))).map (·+i))
 |[],i=>rfl
 |p::r,i=>by
  have ba:=yJ h k r (i+1) (ev:=ev);show (match uw cn (ek k) (ek p.1)with|some true=>some (some i)|some false=>fz cn (ek k) (lX ek ev r) (i+1)|none=>none)=_
  rw[h];by_cases ak:k=p.1
  ·rw[M1];simp[ak]
  ·rw[M1];simp only[ak,decide_false];rw[ba];cases r.findIdx? (fun p=>decide (k=p.1))with
   |none=>rfl
   |some j=>simp;omega
def Nj{α β:Type}[DecidableEq α]{ek:α->aG}{ev:β->aG}{l:List (α×β)}{k:α}{v:β}(c:Nat)(bs:List Nat) :
  ∀o,l.findIdx? (fun p=>decide (k=p.1))=o->(ic c bs (lX ek ev l) (ek k) (ev v) o).2.2=lX ek ev (mB l k v)
 |some i,h=>by unfold mB;rw[h];simp[ic,lX,List.map_set]
 |none,h=>by unfold mB;rw[h];simp[ic,lX]
def Nk{α β:Type}[DecidableEq α]{l:List (α×β)}{k:α}:∀{o:Option Nat},l.findIdx? (fun p=>decide (k=p.1))=o->(∃i v,o=some i/\nj l k=some v/\l[i]?=some (k,v))\/(o=none/\nj l k=none)
 |some i,h=>by
  obtain⟨ar,he,aX⟩:=kT.1 h;have ak:k=l[i].1:=vM he;refine .inl ⟨i,l[i].2,rfl,?_,by rw[cr ar,ak]⟩;unfold nj;have:l.find? (fun p=>decide (k=p.1))=some l[i]:=by rw[RD];exact⟨he,i,ar,rfl,fun j ac=>by simpa using aX j ac⟩
  rw[this];rfl
 |none,h=>by refine .inr ⟨rfl,?_⟩;unfold nj;rw[sF]at h;have:l.find? (fun p=>decide (k=p.1))=none:=KW.2 (fun p am=>by rw[h p am];decide);rw[this];rfl
abbrev At:=List ((Int×Int)×aq)
def yK(k:Int×Int):aG:=.agg [.int .i64 k.1,.int .i64 k.2]
def pE(s:aq):aG:=.one (.str s)
def Nl(a b:Int×Int):uw (.st [.i,.i]) (yK a) (yK b)=some (decide (a=b)):=by
 obtain⟨c_,a2⟩:=a;obtain⟨fa,eV⟩:=b;show (if jS [.i,.i] [.int .i64 c_,.int .i64 a2] [.int .i64 fa,.int .i64 eV]=true then some (jt [.int .i64 c_,.int .i64 a2] [.int .i64 fa,.int .i64 eV])else none)=_
 rw[av (by simp)];congr 1;by_cases aa:c_=fa<;>by_cases ab:a2=eV<;>simp[jt,aa,ab]
def Nn(a b:aq):uw .s (pE a) (pE b)=some (decide (a=b)):=by show some (a==b)=_;congr 1;by_cases h:a=b<;>simp[h]
def lq(m:At):List (aG×aG):=lX yK pE m
def mC(m:At):List (List ag):=m.map fun p=>[.int .i64 p.1.1,.int .i64 p.1.2]
def mD(m:At):List (List ag):=m.map fun p=>[.str p.2]
def Td(m:At):ag:=.i8 true false (mC m) (mD m)
def No(m:At):lq m=hR true false (mC m) (mD m):=by
 unfold hR mC mD;rw[List.zip_map,List.map_map];unfold lq lX;induction m with
 |nil=>rfl
 |cons p r ba=>simp only[kC,List.zip_cons_cons,ba];rfl
structure qF where
 fE:List Rec
 ids:At
def qF.row(f:qF):List ag:=[.list 7 (f.fE.map Rec.row),Td f.ids]
abbrev iv:=List (aq×qF)
def yL(f:qF):aG:=.agg f.row
def lr(m:iv):List (aG×aG):=lX pE yL m
def rH(m:iv):List (List ag):=m.map fun p=>[.str p.1]
def rI(m:iv):List (List ag):=m.map fun p=>p.2.row
def C9(m:iv):ag:=.i8 false true (rH m) (rI m)
def Te(m:iv):lr m=hR false true (rH m) (rI m):=by
 unfold hR rH rI;rw[List.zip_map,List.map_map];unfold lr lX;induction m with
 |nil=>rfl
 |cons p r ba=>simp only[kC,List.zip_cons_cons,ba];rfl
def e5(M:List Mark):At:=M.foldl (fun m x=>mB m ((x.aO:Int),(x.ah:Int)) x.id) []
def zbg{M:List Mark}{i:Nat}(h:i<M.length):e5 (M.take (i+1))=mB (e5 (M.take i)) ((M[i].aO:Int),(M[i].ah:Int)) M[i].id:=by rw[k6 h];unfold e5;rw[Fp];rfl
def Tf{α β:Type}[DecidableEq α]{l:List (α×β)}{k:α}{v:β}{p:α×β}(h:p∈mB l k v):p∈l\/p=(k,v):=by
 unfold mB at h;split at h
 ·exact(OQ h)
 ·rcases hg.1 h with h|h
  ·exact .inl h
  ·exact .inr (nE.1 h)
def zoA:∀{M:List Mark} {p:(Int×Int)×aq},p∈e5 M->∃m∈M,m.id=p.2:=by
 intro M;have key:∀(M:List Mark) (a:At) (p:(Int×Int)×aq),p∈M.foldl (fun m x=>mB m ((x.aO:Int),(x.ah:Int)) x.id) a->p∈a\/∃m∈M,m.id=p.2:=by
  intro M;induction M with
  |nil=>exact fun a p h=>.inl h
  |cons x r ba=>
   intro a p h;rcases ba _ _ h with h|⟨m,hm,e⟩
   ·rcases Tf h with h|rfl
    ·exact .inl h
    ·exact .inr ⟨x,by simp,rfl⟩
   ·exact .inr ⟨m,by simp[hm],e⟩
 intro p h;exact(key M [] p h).resolve_left (by simp)
def zbh(b:aq):∀(n a:Nat) (L:List Rec) (M:List Mark),(∀m∈M,∃r∈L,r.id=m.id)->∀m∈(lk n b a L M).2.1,∃r∈(lk n b a L M).1,r.id=m.id
 |0,_,_,_,_=>fun m hm=>by cases hm
 |n+1,a,L,M,h=>by
  unfold lk;split
  ·split
   ·intro m hm;cases hm
   ·refine zbh b n _ _ _ (fun m hm=>?_);rcases hg.1 hm with hm|hm
    ·obtain⟨r,ao,e⟩:=h m hm;exact⟨r,List.mem_append_left _ ao,e⟩
    ·rw[nE]at hm;subst hm;exact⟨_,List.mem_append_right _ (nE.2 rfl),rfl⟩
  ·split
   ·intro m hm;cases hm
   ·exact h
def zoB(b:aq):∀m∈(cE b).2.1,∃r∈(cE b).1,r.id=m.id:=by
 unfold cE;split
 ·intro m hm;cases hm
 ·exact zbh b _ _ _ _ (fun m hm=>by cases hm)
def qF.ok(f:qF):Prop:=(∀p∈f.ids,∃r∈f.fE,r.id=p.2)/\f.fE.length<=1000
def oT(f:qF)(aO ah:Int):Rec×Bool:=match nj f.ids (aO,ah)with
 |some w=>(h_ f.fE w,true)
 |none=>(fS,false)
def zoC(r:Rec)(w:aq):az prog 65 [.agg r.row,.one (.ref [.str w])] (.x (.one (.bool (r.id==w)))):=by unfold Rec.row;refine az.bd f65 mixed fun aD=>?_;simp
def zoD(f:qF)(aw:f.ok)(aO ah:Int):az prog 39 [.agg f.row,.agg [.int .i64 aO,.int .i64 ah]] (.b2 [.agg (oT f aO ah).1.row,.one (.bool (oT f aO ah).2)]):=by
 have c8:=yJ (ev:=pE) Nl (aO,ah) f.ids 0;have eW:lX yK pE f.ids=hR true false (mC f.ids) (mD f.ids):=No f.ids;rw[eW]at c8;unfold yK at c8;obtain⟨M5,cX⟩:=aw;have ay:=Nk (α:=Int×Int) (β:=aq) (l:=f.ids) (k:=(aO,ah)) rfl;have Jr:∀(i:Nat) (w:aq),f.ids[i]?=some ((aO,ah),w)->(hR true false (mC f.ids) (mD f.ids))[i]?=some (aG.agg [.int .i64 aO,.int .i64 ah],aG.one (.str w)):=by intro i w h;rw[<-eW];unfold lX;rw[eZ,h];rfl
 unfold qF.row Td oT;generalize f.ids.findIdx? (fun p=>decide ((aO,ah)=p.1))=O at*;rcases ay with⟨i,w,rfl,uf,Au⟩|⟨rfl,uf⟩
 ·rw[uf];dsimp only at c8⊢;have Tg:=Jr i w Au;have c8:fz (.st [.i,.i]) (.agg [.int .i64 aO,.int .i64 ah]) (hR true false (mC f.ids) (mD f.ids)) 0=some (some i):=c8;obtain⟨kL,DO,cC⟩:=M5 _ (kt Au);have k:=zam f.fE 65 (.ref [.str w]) (fun r=>r.id==w) (fun r _=>zoC r w) (by omega);have hs:=yA (fun r:Rec=>r.id==w) f.fE;unfold fP at k;unfold h_ ng;generalize f.fE=L at*;generalize jN (fun r:Rec=>r.id==w) L=I at*;rcases hs with⟨rfl,aX⟩|⟨j,rfl,ac,ar⟩
  ·exfalso;rw[sF]at aX;have:=aX kL DO;simp[cC]at this
  rw[ac];have aS:((j:Int)<(L.length:Int))=True:=aY;have a_:L[j].row=[.int .i64 L[j].kind,.str L[j].id,.str L[j].of,.int .i64 L[j].time,.str L[j].key,.list 2 (L[j].aT.map Head.row),b5 L[j].block]:=rfl;refine az.bd f39 mixed fun aD=>?_;simp[c8,Tg];refine aH.of k ?_;simp[ar,aS,a_]
 ·rw[uf];have c8:fz (.st [.i,.i]) (.agg [.int .i64 aO,.int .i64 ah]) (hR true false (mC f.ids) (mD f.ids)) 0=some none:=c8;refine az.bd f39 mixed fun aD=>?_;simp[c8,fS,Rec.row]
structure dT where
 name:aq
 bytes:aq
def dT.row(f:dT):List ag:=[.str f.name,b5 f.bytes]
structure c9 where
 entries:List Entry
 files:List dT
 rules:List ep
def c9.cs(s:c9):List ag:=[.list 9 (s.entries.map Entry.row),.list 2 (s.files.map dT.row),.list 2 (s.rules.map ep.row)]
def c9.fit(s:c9):Prop:=∀r∈s.rules,r.fit
def nk(b:aq):qF:=⟨(cE b).1,e5 (cE b).2.1⟩
def ug:Option (aq)->aq->Bool
 |some q,n=>dD n q ||decide (n=q)
 |none,_=>false
def gj:Option (aq)->iv->List dT->iv×Int
 |_,m,[]=>(m,0)
 |p,m,x::r=>if kl x.name=false then (m,5)else if ug p x.name=true then (m,8)
  else if (cE x.bytes).2.2.2≠0 then (m,(cE x.bytes).2.2.2)else gj (some x.name) (mB m x.name (nk x.bytes)) r
def qG(m:iv):List Entry->Int
 |[]=>0
 |e::r=>match nj m e.file with
  |none=>9
  |some f=>if (oT f e.aO e.ah).2=false\/(oT f e.aO e.ah).1.key≠e.key\/(oT f e.aO e.ah).1.time≠e.time then 12 else qG m r
def lu(s:c9):iv×Int:=
 if qE s.rules≠0 then ([],qE s.rules)
 else if 20<s.files.length then ([],2)
 else if (gj none [] s.files).2≠0 then ([],(gj none [] s.files).2)
 else if iq s.entries≠0 then ([],iq s.entries)
 else if qG (gj none [] s.files).1 s.entries≠0 then ([],qG (gj none [] s.files).1 s.entries)
 else ((gj none [] s.files).1,0)
def c9.open_(s:c9)(m:iv):ag:=.ref (s.cs++[C9 m])
def FV(s:c9):ag:=if (lu s).2=0 then s.open_ (lu s).1 else .atom (.pointer none)
def oU(l:List dT):Nat->Option (aq)
 |0=>none
 |i+1=>(l[i]?).map dT.name
def fF(l:List dT):iv:=l.foldl (fun m x=>mB m x.name (nk x.bytes)) []
def Js{l:List dT}{i:Nat}(h:i<l.length):fF (l.take (i+1))=mB (fF (l.take i)) l[i].name (nk l[i].bytes):=by rw[k6 h];unfold fF;rw[Fp];rfl
def zbi{l:List dT}{i:Nat}(h:i<l.length)(m:iv):gj (oU l i) m (l.drop i)=if kl l[i].name=false then (m,5)else if ug (oU l i) l[i].name=true then (m,8)
  else if (cE l[i].bytes).2.2.2≠0 then (m,(cE l[i].bytes).2.2.2)else gj (oU l (i+1)) (mB m l[i].name (nk l[i].bytes)) (l.drop (i+1)):=by
 rw[jw h];have:oU l (i+1)=some l[i].name:=by show (l[i]?).map dT.name=_;rw[cr h];rfl
 rw[this];rfl
def zbj(b:aq):∀(n a:Nat) (L:List Rec) (M:List Mark),(lk n b a L M).1.length<=1000
 |0,_,_,_=>cj _
 |n+1,a,L,M=>by
  unfold lk;split
  ·split
   ·exact cj _
   ·exact zbj b n _ _ _
  ·split
   ·exact cj _
   ·rename_i h;exact(C1 (nY h)).1
def Th(b:aq):(nk b).ok:=by
 refine⟨fun p am=>?_,?_⟩
 ·obtain⟨m,hm,e⟩:=zoA am;obtain⟨r,ao,aK⟩:=zoB b m hm;exact⟨r,ao,aK.trans e⟩
 ·unfold nk cE;dsimp only;split
  ·exact cj _
  ·exact zbj b _ _ _ _
def zoE(F:List dT):∀p∈fF F,p.2.ok:=by
 have key:∀(F:List dT) (m:iv),(∀p∈m,p.2.ok)->∀p∈F.foldl (fun m x=>mB m x.name (nk x.bytes)) m,p.2.ok:=by
  intro F;induction F with
  |nil=>exact fun m h=>h
  |cons x r ba=>
   intro m h;refine ba _ (fun p am=>?_);rcases Tf am with am|rfl
   ·exact h p am
   ·exact Th _
 exact key F [] (fun p am=>by cases am)
def zoF{m:iv}{l:List Entry}{i:Nat}(h:i<l.length):qG m (l.drop i)=match nj m l[i].file with
  |none=>9
  |some f=>if (oT f l[i].aO l[i].ah).2=false\/(oT f l[i].aO l[i].ah).1.key≠l[i].key\/(oT f l[i].aO l[i].ah).1.time≠l[i].time then 12 else qG m (l.drop (i+1)):=by
 rw[jw h];rfl
def zoG(s:c9)(hs:s.fit):az prog 13 [.agg s.cs] (.b2 [.one (FV s),.one (.int .i64 (lu s).2)]):=by
 obtain⟨E,F,R⟩:=s;have aE:=zoz R hs;obtain⟨V,dB⟩:∃V,V=FV ⟨E,F,R⟩:=⟨_,rfl⟩
 obtain⟨O,dM⟩:∃O,O=lu ⟨E,F,R⟩:=⟨_,rfl⟩
 unfold FV at dB;rw[<-dM]at dB;rw[<-dM];show az prog 13 [.agg [.list 9 (E.map Entry.row),.list 2 (F.map dT.row),.list 2 (R.map ep.row)]] (.b2 [.one (FV ⟨E,F,R⟩),.one (.int .i64 O.2)])
 unfold FV;rw[<-dM,<-dB];unfold lu at dM;dsimp only at dM;refine @az.of _ (En [(6,2),(18,2)] [6,18,24,26,39] [] [(24,[1,1,1,1,1,1,1,0])]) _ _ _ _ _ mixed (fn:=f13) (by kernel_rfl) (by kernel_rfl) rfl (by kernel_rfl) (by simp[f13]) (fun aD=>?_);simp;refine aH.of aE ?_;by_cases aa:qE R=0;rotate_left
 ·rw[av aa]at dM;subst dM;dsimp only at dB;rw[an aa]at dB;subst dB;have dd:(qE R=0)=False:=bz aa;simp[dd]
 rw[an (by simp[aa])]at dM;rw[aa];by_cases ab:20<F.length
 ·rw[av ab]at dM;subst dM;have dB:V=.atom (.pointer none):=dB;subst dB;have ny:((20:Int)<(F.length:Int))=True:=aY;simp[ny]
 rw[an ab]at dM;have ny:((20:Int)<(F.length:Int))=False:=a8;simp[ny];refine b0.GX 34 300 rfl (by decide) rfl (fun fa=>b0.done ?_);simp;refine ck.of (Nat×Nat×List Nat) (fun x=>[(1,.box [.list 9 (E.map Entry.row),.list 2 (F.map dT.row),.list 2 (R.map ep.row)]),(5,.ptr 36 0),(36,.box [.list 9 (E.map Entry.row),.list 2 (F.map dT.row),.list 2 (R.map ep.row),.atom (.map (some fa))]),(38,.x (.one (.list 2 (F.map dT.row)))),(39,.x (.one (.int .i64 F.length))),(40,.x (.one (.int .i64 x.1))),(300,.gL fa x.2.1 x.2.2 (lr (fF (F.take x.1))))])
  (fun x=>x.1<=F.length/\gj none [] F=gj (oU F x.1) (fF (F.take x.1)) (F.drop x.1)) (fun x=>F.length-x.1) (0,0,[]) ⟨cj _,by simp[oU,fF]⟩ ?_ ?_
 ·simp[lr,fF,lX]
 rintro⟨i,c,bs⟩ ⟨ah,a6⟩;dsimp only at ah a6;by_cases ar:i<F.length;rotate_left
 ·have aS:((i:Int)<(F.length:Int))=False:=a8;obtain rfl:i=F.length:=by omega
  rw[pw,wT]at a6;have a6:gj none [] F=(fF F,0):=by rw[a6];unfold gj;rfl
  rw[a6]at dM;rw[an (by simp)]at dM;rw[pw];simp[aS];refine b0.HU 36 3 300 false true (rH (fF F)) (rI (fF F)) rfl rfl rfl (Te _) (by simp[rH,rI]) (.inr (by intro k ak;obtain⟨p,_,rfl⟩:=hx.1 ak;rfl)) (.inl rfl) (b0.done ?_);simp;refine aH.of (YX E) ?_;by_cases au:iq E=0;rotate_left
  ·rw[av au]at dM;subst dM;dsimp only at dB;rw[an au]at dB;subst dB;have zh:(iq E=0)=False:=bz au;simp[zh]
  rw[an (by simp[au])]at dM;rw[au];simp;have FW:=zoE F;generalize fF F=m at*;dsimp only at dM;refine ck.of Nat (fun i=>[(5,.ptr 36 0),(36,.box [.list 9 (E.map Entry.row),.list 2 (F.map dT.row),.list 2 (R.map ep.row),.i8 false true (rH m) (rI m)]),(110,.x (.one (.list 9 (E.map Entry.row)))),(111,.x (.one (.int .i64 E.length))),(112,.x (.one (.int .i64 i)))])
   (fun i=>i<=E.length/\qG m E=qG m (E.drop i)) (fun i=>E.length-i) 0 ⟨cj _,rfl⟩ ?_ ?_
  ·simp
  rintro i ⟨ah,en⟩;by_cases ar:i<E.length;rotate_left
  ·have aS:((i:Int)<(E.length:Int))=False:=a8;obtain rfl:i=E.length:=by omega
   rw[wT]at en;have en:qG m E=0:=en;rw[en]at dM;rw[an (by simp)]at dM;subst dM;have dB:V=.ref [.list 9 (E.map Entry.row),.list 2 (F.map dT.row),.list 2 (R.map ep.row),.i8 false true (rH m) (rI m)]:=dB;subst dB;simp[aS];refine b0.freeze [36] (b0.done ?_);simp
  rw[zoF ar]at en;have aS:((i:Int)<(E.length:Int))=True:=aY;have bC:i64.wrap ((i:Int)+1)=(i:Int)+1:=lR _ (by have:=Mw au;omega);have a_:E[i].row=[.str E[i].key,.int .i64 E[i].time,.int .i64 E[i].status,.str E[i].type,.str E[i].ee,.str E[i].file,.int .i64 E[i].aO,.int .i64 E[i].ah,.bool E[i].same]:=rfl;have c8:=yJ (ev:=yL) Nn E[i].file m 0;have eW:lX pE yL m=hR false true (rH m) (rI m):=Te m;rw[eW]at c8;have ay:=Nk (l:=m) (k:=E[i].file) rfl;have Jr:∀(q:Nat) (f:qF),m[q]?=some (E[i].file,f)->(hR false true (rH m) (rI m))[q]?=some (aG.one (.str E[i].file),aG.agg [.list 7 (f.fE.map Rec.row),.i8 true false (mC f.ids) (mD f.ids)]):=by intro q f h;rw[<-eW];unfold lX;rw[eZ,h];rfl
  generalize m.findIdx? (fun p=>decide (E[i].file=p.1))=yM at*;rcases ay with⟨q,f,rfl,uf,Au⟩|⟨rfl,uf⟩
  ·rw[uf]at en;dsimp only at en;have c8:fz .s (.one (.str E[i].file)) (hR false true (rH m) (rI m)) 0=some (some q):=c8;have Ti:=Jr q f Au;have dz:=zoD f (FW _ (kt Au)) E[i].aO E[i].ah;unfold qF.row Td at dz;have kc:∀r:Rec,r.row=[.int .i64 r.kind,.str r.id,.str r.of,.int .i64 r.time,.str r.key,.list 2 (r.aT.map Head.row),b5 r.block]:=fun _=>rfl;rw[kc]at dz;generalize oT f E[i].aO E[i].ah=A at*;obtain⟨r,b⟩:=A;dsimp only at*;simp[ar,aS,a_];refine m_.l ⟨by kernel_rfl,?_⟩;simp[c8,Ti];refine aH.of dz ?_;have gI:qG m E=12->O=([],12)/\V=.atom (.pointer none):=by
    intro h;rw[h]at dM;rw[av (by decide)]at dM;subst dM;exact⟨rfl,dB⟩
   cases b
   ·obtain⟨rfl,rfl⟩:=gI (by rw[en,av (.inl rfl)]);simp
   by_cases ak:r.key=E[i].key;rotate_left
   ·obtain⟨rfl,rfl⟩:=gI (by rw[en,av (.inr (.inl ak))]);have dx:(r.key=E[i].key)=False:=bz ak;simp[dx]
   by_cases bv:r.time=E[i].time;rotate_left
   ·obtain⟨rfl,rfl⟩:=gI (by rw[en,av (.inr (.inr bv))]);have N2:(r.time=E[i].time)=False:=bz bv;simp[ak,N2]
   rw[an (by simp[ak,bv])]at en;simp[ak,bv];refine bt.of (i+1) ⟨ar,en⟩ (by omega) ?_;simp[bC]
  ·rw[uf]at en;have en:qG m E=9:=en;rw[en]at dM;rw[av (by decide)]at dM;subst dM;have dB:V=.atom (.pointer none):=dB;subst dB;have c8:fz .s (.one (.str E[i].file)) (hR false true (rH m) (rI m)) 0=some none:=c8;simp[ar,aS,a_];refine m_.l ⟨by kernel_rfl,?_⟩;simp[c8]
 rw[zbi ar]at a6;have aS:((i:Int)<(F.length:Int))=True:=aY;have bC:=bc ((i:Int)+1);have a_:F[i].row=[.str F[i].name,b5 F[i].bytes]:=rfl;have aQ:=Mi F[i].name;simp[ar,aS,a_];refine aH.of aQ ?_;cases aX:kl F[i].name
 ·rw[av aX]at a6;rw[a6]at dM;rw[av (by simp)]at dM;subst dM;have dB:V=.atom (.pointer none):=dB;subst dB;simp
 rw[an (by rw[aX];decide)]at a6;have step:(ug (oU F i) F[i].name=true->O=([],8)):=by intro al;rw[av al]at a6;rw[a6]at dM;rw[av (by simp)]at dM;exact dM
 cases i with
 |zero=>
  have al:¬ug (oU F 0) F[0].name=true:=by simp[oU,ug]
  rw[an al]at a6;have iZ:i64.wrap (-1)=-1:=by decide
  simp[ar,a_,iZ];have bf:=zai F[0].bytes;have bM:=zaj F[0].bytes;have mP:nk F[0].bytes=⟨(cE F[0].bytes).1,e5 (cE F[0].bytes).2.1⟩:=rfl;have gB:(cE F[0].bytes).2.2.2=0->(cE F[0].bytes).1.length<=1000/\(cE F[0].bytes).2.1.length=(cE F[0].bytes).1.length:=fun h=>⟨(C1 (Ap h).1).1,(Ap h).2⟩
  generalize cE F[0].bytes=D at*;obtain⟨L,M,at',rJ⟩:=D;dsimp only at*;unfold fP at bf;unfold rB at bM;refine aH.of bf ?_;by_cases aw:rJ=0;rotate_left
  ·rw[av aw]at a6;rw[a6]at dM;rw[av aw]at dM;subst dM;dsimp only at dB;rw[an aw]at dB;subst dB;have hC:(rJ=0)=False:=bz aw;simp[hC]
  rw[an (by simp[aw])]at a6;subst aw;obtain⟨l6,fK⟩:=gB rfl;simp;refine aH.of bM ?_;simp;refine b0.GX 80 301 rfl (by decide) rfl (fun eV=>b0.done ?_);simp;refine ck.of (Nat×Nat×List Nat) (fun x=>[(1,.box [.list 9 (E.map Entry.row),.list 2 (F.map dT.row),.list 2 (R.map ep.row)]),(5,.ptr 36 0),(7,.box [.str F[0].name,b5 F[0].bytes]),(13,.box [.list 7 (L.map Rec.row),.atom (.map (some eV))]),(36,.box [.list 9 (E.map Entry.row),.list 2 (F.map dT.row),.list 2 (R.map ep.row),.atom (.map (some fa))]),(38,.x (.one (.list 2 (F.map dT.row)))),(39,.x (.one (.int .i64 F.length))),(40,.x (.one (.int .i64 (0)))),(82,.x (.one (.list 3 (M.map Mark.row)))),(83,.x (.one (.int .i64 M.length))),(84,.x (.one (.int .i64 x.1))),(300,.gL fa c bs (lr (fF (F.take 0)))),(301,.gL eV x.2.1 x.2.2 (lq (e5 (M.take x.1))))])
   (fun x=>x.1<=M.length) (fun x=>M.length-x.1) (0,0,[]) (cj _) ?_ ?_
  ·simp[lq,e5,lX]
  rintro⟨j,bA,yN⟩ ac;dsimp only at ac;by_cases yO:j<M.length
  ·have C_:((j:Int)<(M.length:Int))=True:=aY;have sZ:=bc ((j:Int)+1);have Tj:M[j].row=[.str M[j].id,.int .i64 M[j].aO,.int .i64 M[j].ah]:=rfl;have cu:=zbg yO;have c8:=yJ (ev:=pE) Nl ((M[j].aO:Int),(M[j].ah:Int)) (e5 (M.take j)) 0;have h':=Nj (ek:=yK) (ev:=pE) (l:=e5 (M.take j)) (k:=((M[j].aO:Int),(M[j].ah:Int))) (v:=M[j].id) bA yN _ rfl;rw[<-cu]at h';have c8:fz (.st [.i,.i]) (.agg [.int .i64 M[j].aO,.int .i64 M[j].ah]) (lq (e5 (M.take j))) 0=_:=c8;generalize (e5 (M.take j)).findIdx? (fun p=>decide ((((M[j].aO:Nat):Int),((M[j].ah:Nat):Int))=p.1))=yM at*;simp[yO,C_,Tj];refine LP 301 eV bA yN (lq (e5 (M.take j))) (by decide) rfl ?_;cases yM with
   |none=>have c8:fz (.st [.i,.i]) (.agg [.int .i64 M[j].aO,.int .i64 M[j].ah]) (lq (e5 (M.take j))) 0=some none:=c8;have h':lq (e5 (M.take j))++[(.agg [.int .i64 M[j].aO,.int .i64 M[j].ah],.one (.str M[j].id))]=lq (e5 (M.take (j+1))):=h';simp[c8];refine bt.of (j+1,bA+1,yN++[bA]) yO (by dsimp only;omega) ?_;simp[sZ,h']
   |some q=>have c8:fz (.st [.i,.i]) (.agg [.int .i64 M[j].aO,.int .i64 M[j].ah]) (lq (e5 (M.take j))) 0=some (some q):=c8;have h':(lq (e5 (M.take j))).set q (.agg [.int .i64 M[j].aO,.int .i64 M[j].ah],.one (.str M[j].id))=lq (e5 (M.take (j+1))):=h';simp[c8];refine bt.of (j+1,bA,yN) yO (by dsimp only;omega) ?_;simp[sZ,h']
  have C_:((j:Int)<(M.length:Int))=False:=a8;obtain rfl:j=M.length:=by omega
  rw[pw];simp[C_];refine b0.HU 13 1 301 true false (mC (e5 M)) (mD (e5 M)) rfl rfl rfl (No _) (by simp[mC,mD]) (.inl rfl) (.inr (by intro k ak;obtain⟨p,_,rfl⟩:=hx.1 ak;rfl)) (b0.done ?_);simp;have p3:gj none [] F=gj (oU F (0+1)) (fF (F.take (0+1))) (F.drop (0+1)):=by rw[a6,Js ar]
  have cu:fF (F.take (0+1))=mB (fF []) F[0].name (nk F[0].bytes):=Js ar;rw[mP]at cu;have c8:=yJ (ev:=yL) Nn F[0].name (fF []) 0;have h':=Nj (ek:=pE) (ev:=yL) (l:=fF []) (k:=F[0].name) (v:=⟨L,e5 M⟩) c bs _ rfl;rw[<-cu]at h';have c8:fz .s (.one (.str F[0].name)) (lr (fF [])) 0=_:=c8;generalize (fF []).findIdx? (fun p=>decide (F[0].name=p.1))=yM at*;refine LP 300 fa c bs (lr (fF [])) (by decide) rfl ?_;cases yM with
  |none=>
   have c8:fz .s (.one (.str F[0].name)) (lr (fF [])) 0=some none:=c8;have h':lr (fF [])++[(.one (.str F[0].name),.agg [.list 7 (L.map Rec.row),.i8 true false (mC (e5 M)) (mD (e5 M))])]=lr (fF (F.take (0+1))):=h';simp[c8];refine bt.of (0+1,c+1,bs++[c]) ⟨ar,p3⟩ (by dsimp only;omega) ?_;simp[h']
   try decide
  |some q=>
   have c8:fz .s (.one (.str F[0].name)) (lr (fF [])) 0=some (some q):=c8;have h':(lr (fF [])).set q (.one (.str F[0].name),.agg [.list 7 (L.map Rec.row),.i8 true false (mC (e5 M)) (mD (e5 M))])=lr (fF (F.take (0+1))):=h';simp[c8];refine bt.of (0+1,c,bs) ⟨ar,p3⟩ (by dsimp only;omega) ?_;simp[h']
   try decide
 |succ i=>
  have lp:i<F.length:=by omega
  have pC:i64.wrap (i:Int)=(i:Int):=bc _;have bC:=bc ((i:Int)+1+1);have pD:F[i].row=[.str F[i].name,b5 F[i].bytes]:=rfl;have am:oU F (i+1)=some F[i].name:=by show (F[i]?).map dT.name=_;rw[cr lp];rfl
  rw[am]at a6 step;have vB:ug (some F[i].name) F[i+1].name=(dD F[i+1].name F[i].name ||decide (F[i+1].name=F[i].name)):=rfl;cases al:ug (some F[i].name) F[i+1].name;rotate_left
  ·have dM:=step al;subst dM;have dB:V=.atom (.pointer none):=dB;subst dB;rw[al]at vB;simp[lp,pC,pD];intro aa ab;simp[aa,ab]at vB
  rw[an (by rw[al];decide)]at a6;rw[al]at vB;have vn:dD F[i+1].name F[i].name=false:=by cases h:dD F[i+1].name F[i].name<;>simp[h]at vB⊢
  have Tk:(F[i+1].name=F[i].name)=False:=bz (by intro h;simp[h]at vB);simp[lp,pC,pD,vn,Tk];have bf:=zai F[i+1].bytes;have bM:=zaj F[i+1].bytes;have mP:nk F[i+1].bytes=⟨(cE F[i+1].bytes).1,e5 (cE F[i+1].bytes).2.1⟩:=rfl;have gB:(cE F[i+1].bytes).2.2.2=0->(cE F[i+1].bytes).1.length<=1000/\(cE F[i+1].bytes).2.1.length=(cE F[i+1].bytes).1.length:=fun h=>⟨(C1 (Ap h).1).1,(Ap h).2⟩
  generalize cE F[i+1].bytes=D at*;obtain⟨L,M,at',rJ⟩:=D;dsimp only at*;unfold fP at bf;unfold rB at bM;refine aH.of bf ?_;by_cases aw:rJ=0;rotate_left
  ·rw[av aw]at a6;rw[a6]at dM;rw[av aw]at dM;subst dM;dsimp only at dB;rw[an aw]at dB;subst dB;have hC:(rJ=0)=False:=bz aw;simp[hC]
  rw[an (by simp[aw])]at a6;subst aw;obtain⟨l6,fK⟩:=gB rfl;simp;refine aH.of bM ?_;simp;refine b0.GX 80 301 rfl (by decide) rfl (fun eV=>b0.done ?_);simp;refine ck.of (Nat×Nat×List Nat) (fun x=>[(1,.box [.list 9 (E.map Entry.row),.list 2 (F.map dT.row),.list 2 (R.map ep.row)]),(5,.ptr 36 0),(7,.box [.str F[i+1].name,b5 F[i+1].bytes]),(13,.box [.list 7 (L.map Rec.row),.atom (.map (some eV))]),(36,.box [.list 9 (E.map Entry.row),.list 2 (F.map dT.row),.list 2 (R.map ep.row),.atom (.map (some fa))]),(38,.x (.one (.list 2 (F.map dT.row)))),(39,.x (.one (.int .i64 F.length))),(40,.x (.one (.int .i64 ((i:Int)+1)))),(82,.x (.one (.list 3 (M.map Mark.row)))),(83,.x (.one (.int .i64 M.length))),(84,.x (.one (.int .i64 x.1))),(300,.gL fa c bs (lr (fF (F.take (i+1))))),(301,.gL eV x.2.1 x.2.2 (lq (e5 (M.take x.1))))])
   (fun x=>x.1<=M.length) (fun x=>M.length-x.1) (0,0,[]) (cj _) ?_ ?_
  ·simp[lq,e5,lX]
  rintro⟨j,bA,yN⟩ ac;dsimp only at ac;by_cases yO:j<M.length
  ·have C_:((j:Int)<(M.length:Int))=True:=aY;have sZ:=bc ((j:Int)+1);have Tj:M[j].row=[.str M[j].id,.int .i64 M[j].aO,.int .i64 M[j].ah]:=rfl;have cu:=zbg yO;have c8:=yJ (ev:=pE) Nl ((M[j].aO:Int),(M[j].ah:Int)) (e5 (M.take j)) 0;have h':=Nj (ek:=yK) (ev:=pE) (l:=e5 (M.take j)) (k:=((M[j].aO:Int),(M[j].ah:Int))) (v:=M[j].id) bA yN _ rfl;rw[<-cu]at h';have c8:fz (.st [.i,.i]) (.agg [.int .i64 M[j].aO,.int .i64 M[j].ah]) (lq (e5 (M.take j))) 0=_:=c8;generalize (e5 (M.take j)).findIdx? (fun p=>decide ((((M[j].aO:Nat):Int),((M[j].ah:Nat):Int))=p.1))=yM at*;simp[yO,C_,Tj];refine LP 301 eV bA yN (lq (e5 (M.take j))) (by decide) rfl ?_;cases yM with
   |none=>have c8:fz (.st [.i,.i]) (.agg [.int .i64 M[j].aO,.int .i64 M[j].ah]) (lq (e5 (M.take j))) 0=some none:=c8;have h':lq (e5 (M.take j))++[(.agg [.int .i64 M[j].aO,.int .i64 M[j].ah],.one (.str M[j].id))]=lq (e5 (M.take (j+1))):=h';simp[c8];refine bt.of (j+1,bA+1,yN++[bA]) yO (by dsimp only;omega) ?_;simp[sZ,h']
   |some q=>have c8:fz (.st [.i,.i]) (.agg [.int .i64 M[j].aO,.int .i64 M[j].ah]) (lq (e5 (M.take j))) 0=some (some q):=c8;have h':(lq (e5 (M.take j))).set q (.agg [.int .i64 M[j].aO,.int .i64 M[j].ah],.one (.str M[j].id))=lq (e5 (M.take (j+1))):=h';simp[c8];refine bt.of (j+1,bA,yN) yO (by dsimp only;omega) ?_;simp[sZ,h']
  have C_:((j:Int)<(M.length:Int))=False:=a8;obtain rfl:j=M.length:=by omega
  rw[pw];simp[C_];refine b0.HU 13 1 301 true false (mC (e5 M)) (mD (e5 M)) rfl rfl rfl (No _) (by simp[mC,mD]) (.inl rfl) (.inr (by intro k ak;obtain⟨p,_,rfl⟩:=hx.1 ak;rfl)) (b0.done ?_);simp;have p3:gj none [] F=gj (oU F (i+1+1)) (fF (F.take (i+1+1))) (F.drop (i+1+1)):=by rw[a6,Js ar]
  have cu:fF (F.take (i+1+1))=mB (fF (F.take (i+1))) F[i+1].name (nk F[i+1].bytes):=Js ar;rw[mP]at cu;have c8:=yJ (ev:=yL) Nn F[i+1].name (fF (F.take (i+1))) 0;have h':=Nj (ek:=pE) (ev:=yL) (l:=fF (F.take (i+1))) (k:=F[i+1].name) (v:=⟨L,e5 M⟩) c bs _ rfl;rw[<-cu]at h';have c8:fz .s (.one (.str F[i+1].name)) (lr (fF (F.take (i+1)))) 0=_:=c8;generalize (fF (F.take (i+1))).findIdx? (fun p=>decide (F[i+1].name=p.1))=yM at*;refine LP 300 fa c bs (lr (fF (F.take (i+1)))) (by decide) rfl ?_;cases yM with
  |none=>
   have c8:fz .s (.one (.str F[i+1].name)) (lr (fF (F.take (i+1)))) 0=some none:=c8;have h':lr (fF (F.take (i+1)))++[(.one (.str F[i+1].name),.agg [.list 7 (L.map Rec.row),.i8 true false (mC (e5 M)) (mD (e5 M))])]=lr (fF (F.take (i+1+1))):=h';simp[c8];refine bt.of (i+1+1,c+1,bs++[c]) ⟨ar,p3⟩ (by dsimp only;omega) ?_;simp[bC,h']
   try decide
  |some q=>
   have c8:fz .s (.one (.str F[i+1].name)) (lr (fF (F.take (i+1)))) 0=some (some q):=c8;have h':(lr (fF (F.take (i+1)))).set q (.one (.str F[i+1].name),.agg [.list 7 (L.map Rec.row),.i8 true false (mC (e5 M)) (mD (e5 M))])=lr (fF (F.take (i+1+1))):=h';simp[c8];refine bt.of (i+1+1,c,bs) ⟨ar,p3⟩ (by dsimp only;omega) ?_;simp[bC,h']
   try decide
end
section
variable [bn]
def z_(l:List Entry)(k:aq):Int:=if iq l≠0 then iq l else if j2 k=false then 3 else 0
def zkw(l:List Entry)(k:aq):az prog 66 [entries l,.one (.str k)] (.x (.one (.int .i64 (z_ l k)))):=by
 refine az.bd f66 mixed fun aD=>?_;generalize a6:z_ l k=F;unfold z_ at a6;simp +contextual[-Bool.and_eq_false_imp];refine aH.of (YX l) ?_;simp +contextual[-Bool.and_eq_false_imp];refine⟨fun h=>?_,fun h=>aH.of (Md _) ?_⟩
 ·rw[av h]at a6;exact a6.symm
 rw[an (by simp[h])]at a6;simp +contextual[-Bool.and_eq_false_imp];refine⟨fun h=>?_,fun h=>?_⟩
 ·rw[av h]at a6;exact a6.symm
 ·rw[an (by simp[h])]at a6;exact a6.symm
def Zh{l:List Entry}{k:aq}(h:z_ l k=0):iq l=0/\j2 k=true:=by
 unfold z_ at h;split at h
 ·rename_i aa;exact absurd h aa
 ·rename_i aa;split at h
  ·cases h
  ·rename_i ab;exact⟨by omega,by simpa using ab⟩
def RV(l:List Entry)(k:aq):(j7 l k).length<=l.length:=MC _ _
def zkx(l:List Entry)(k:aq)(ad:l.length<=3000):az prog 49 [entries l,.one (.str k)] (.x (entries (j7 l k))):=by
 refine az.bd f49 mixed fun aD=>?_;simp +contextual[-Bool.and_eq_false_imp];refine ck.of Nat (fun i=>[(0,.x (entries l)),(1,.x (.one (.str k))),(5,.own 50 9 ((j7 (l.take i) k).map Entry.row)),(6,.x (.one (.int .i64 i)))]) (fun i=>i<=l.length) (fun i=>l.length-i) 0 (cj _) ?_ ?_
 ·simp[j7]
 intro i ah;by_cases ar:i<l.length
 ·have MD:j7 (l.take (i+1)) k=j7 (l.take i) k++(if l[i].key=k then [l[i]]else []):=by
   unfold j7;rw[Co,cr ar,ME];congr 1;simp only[Option.toList,L1,List.filter_nil,hk]
  have cG:(j7 (l.take i) k).length<=3000:=by have:=RV (l.take i) k;rw[e']at this;omega
  simp +contextual[-Bool.and_eq_false_imp,ar];refine⟨fun cm=>⟨⟨by omega,by unfold maxLen;omega⟩,?_⟩,fun cm=>?_⟩
  ·rw[av cm]at MD;refine bt.of (i+1) ar (by omega) ?_;simp[MD];exact bc _
  ·rw[an cm]at MD;refine bt.of (i+1) ar (by omega) ?_;simp[MD];exact bc _
 ·rw[show l.take i=l from k4 (by omega)];simp[ar]
def MF{α:Type}{P:List α->Prop}(a1:P [])(aa:∀p e,P p->P (p++[e]))(l:List α):P l:=by
 have:∀n,P (l.take n):=by
  intro n;induction n with
  |zero=>simpa using a1
  |succ n ba=>
   by_cases aX:n<l.length
   ·rw[Co,cr aX];exact aa _ _ ba
   ·rw[k4 (by omega)];rw[k4 (by omega)]at ba;exact ba
 have:=this l.length;rwa[pw]at this
def rq(p:List Entry)(t:Int):Option Entry:=p.foldl (fun o x=>if x.time<=t then some x else o) none
def jn(t:Int)(o:Option Entry)(x:Entry):Option Entry:=match o with
 |none=>if t<=x.time then some x else none
 |some a=>if t<=x.time/\x.time=a.time then some x else some a
def rr(p:List Entry)(t:Int):Option Entry:=p.foldl (jn t) none
def jK(t way:Int)(b a:Option Entry):Option Entry:=
 if way=3 then a else if way=2 then b else match b,a with
 |none,a=>a
 |some b,none=>some b
 |some b,some a=>if a.time-t<t-b.time then some a else some b
def wZ(l:List Entry)(t way:Int):Option Entry:=jK t way (rq l t) (rr l t)
def RW(p:List Entry)(e:Entry)(t:Int):rq (p++[e]) t=if e.time<=t then some e else rq p t:=by simp[rq]
def RX(p:List Entry)(e:Entry)(t:Int):rr (p++[e]) t=jn t (rr p t) e:=by simp[rr]
def RY{t:Int}:∀(p:List Entry) {x:Entry},rq p t=some x->x∈p/\x.time<=t:=by
 intro p;refine MF (P:=fun p=>∀{x:Entry},rq p t=some x->x∈p/\x.time<=t) ?_ ?_ p
 ·intro x h;cases h
 ·intro p e ba x h;rw[RW]at h;split at h
  ·injection h with h;subst h;exact⟨by simp,by assumption⟩
  ·obtain⟨aa,ab⟩:=ba h;exact⟨by simp[aa],ab⟩
def RZ{t:Int}:∀(p:List Entry) {x:Entry},rr p t=some x->x∈p/\t<=x.time:=by
 intro p;refine MF (P:=fun p=>∀{x:Entry},rr p t=some x->x∈p/\t<=x.time) ?_ ?_ p
 ·intro x h;cases h
 ·intro p e ba x h;rw[RX]at h;unfold jn at h;split at h
  ·split at h
   ·injection h with h;subst h;exact⟨by simp,by assumption⟩
   ·cases h
  ·rename_i a bj;split at h
   ·rename_i ap;injection h with h;subst h;exact⟨by simp,ap.1⟩
   ·injection h with h;subst h
    obtain⟨aa,ab⟩:=ba bj;exact⟨by simp[aa],ab⟩
def fD(a b:Int):Int:=max (a-b) (b-a)
def ld(t way:Int)(o:Option Entry)(e:Entry):Option Entry:=
 if (way=2/\t<e.time)\/(way=3/\e.time<t)then o
 else match o with
 |none=>some e
 |some x=>if e.time=x.time\/fD e.time t<fD x.time t then some e else some x
def sD(l:List Entry)(t way:Int):Option Entry:=l.foldl (ld t way) none
def R0(p:List Entry)(e:Entry)(t way:Int):sD (p++[e]) t way=ld t way (sD p t way) e:=by simp[sD]
def zky{t way:Int}(hw:way=1\/way=2\/way=3):∀(p:List Entry),p.Pairwise (fun a b=>a.time<=b.time)->sD p t way=wZ p t way:=by
 intro p;refine MF (P:=fun p=>p.Pairwise (fun a b:Entry=>a.time<=b.time)->sD p t way=wZ p t way) ?_ ?_ p
 ·intro _;unfold sD wZ rq rr jK;simp only[List.foldl_nil];split<;>(try split)<;>rfl
 ·intro p e ba am;obtain⟨aa,_,au⟩:=KV.1 am;have cG:∀x∈p,x.time<=e.time:=fun x ai=>au x ai e (by simp);have ad:∀x,rq p t=some x->x.time<=e.time/\x.time<=t:=fun x ai=>⟨cG x (RY p ai).1,(RY p ai).2⟩
  have bj:∀x,rr p t=some x->x.time<=e.time/\t<=x.time:=fun x ai=>⟨cG x (RZ p ai).1,(RZ p ai).2⟩
  rw[R0,ba aa];unfold wZ;rw[RW,RX];generalize rq p t=b at ad;generalize rr p t=a at bj;have ro:¬(1:Int)=2:=by decide
  have rt:¬(1:Int)=3:=by decide
  have ru:¬(2:Int)=3:=by decide
  have rv:¬(3:Int)=2:=by decide
  clear cG aa au ba am;have aO:∀x:Int,x<=t->fD x t=t-x:=fun x ai=>by unfold fD;omega
  have ah:∀x:Int,t<=x->fD x t=x-t:=fun x ai=>by unfold fD;omega
  have key:∀o:Option Entry,(∀x,o=some x->(x.time<=e.time/\(x.time<=t\/t<=x.time)))->True:=fun _ _=>trivial;rcases Int.lt_trichotomy e.time t with c|c|c
  ·-- Dl entry is ahead of Dl time
   have bw:e.time<=t:=by omega
   have bA:¬t<=e.time:=by omega
   have cJ:¬t<e.time:=by omega
   have aX:a=none:=by
    cases a with
    |none=>rfl
    |some a=>have:=bj a rfl;omega
   subst aX;have ax:=aO _ bw;rcases hw with rfl|rfl|rfl<;>cases b with
   |none=>simp only[ld,jn,jK,c,bw,bA,cJ,ro,rt,ru,rv,gW,hy,px,ry,lS,or_true]
   |some b=>
    obtain⟨fa,eV⟩:=ad b rfl;have aK:=aO _ eV;have ap:e.time=b.time\/fD e.time t<fD b.time t:=by omega
    simp only[ld,jn,jK,c,bw,bA,cJ,ap,ro,rt,ru,rv,gW,hy,px,ry,lS,or_true]
  ·-- it is of Dl time
   have bw:e.time<=t:=by omega
   have bA:t<=e.time:=by omega
   have cJ:¬t<e.time:=by omega
   have fv:¬e.time<t:=by omega
   have ax:=aO _ bw;have fZ:∀z:Entry,¬e.time-t<t-z.time\/z.time<t:=fun z=>by omega
   rcases hw with rfl|rfl|rfl<;>cases b with
   |none=>cases a with
    |none=>simp only[ld,jn,jK,bw,bA,cJ,fv,ro,rt,ru,rv,gW,hy,ry,lS]<;>(try rw[an (by omega)])
    |some a=>
     obtain⟨c_,a2⟩:=bj a rfl;have ai:e.time=a.time:=by omega
     simp only[ld,jn,jK,bw,bA,cJ,fv,bW ai,ro,rt,ru,rv,gW,hy,px,ry,lS,true_or]<;>(try rw[an (by omega)])
   |some b=>
    obtain⟨fa,eV⟩:=ad b rfl;have aK:=aO _ eV;have ap:e.time=b.time\/fD e.time t<fD b.time t:=by omega
    cases a with
    |none=>simp only[ld,jn,jK,bw,bA,cJ,fv,ap,ro,rt,ru,rv,gW,hy,ry,lS]<;>(try rw[an (by omega)])
    |some a=>
     obtain⟨c_,a2⟩:=bj a rfl;have ai:e.time=a.time:=by omega
     have cd:=ah _ a2;have aA:e.time=a.time\/fD e.time t<fD a.time t:=.inl ai;have bK:¬e.time-t<t-e.time:=by omega
     by_cases zkz:a.time-t<t-b.time<;>simp only[ld,jn,jK,bw,bA,cJ,fv,ap,bW ai,bK,zkz,ro,rt,ru,rv,gW,hy,px,ry,lS,true_or]
     all_goals (try split)
     all_goals (try split)
     all_goals first|rfl|(exfalso;omega)|(rw[av ap];done)|(rw[av aA];done)|skip
  ·-- it is behind Dl time
   have bw:¬e.time<=t:=by omega
   have bA:t<=e.time:=by omega
   have fv:¬e.time<t:=by omega
   have ax:=ah _ bA;rcases hw with rfl|rfl|rfl<;>cases b with
   |none=>cases a with
    |none=>simp only[ld,jn,jK,c,bw,bA,fv,ro,rt,ru,rv,gW,hy,px,ry,lS]<;>(try first|rw[av (by omega)]|rw[an (by omega)])
    |some a=>
     obtain⟨c_,a2⟩:=bj a rfl;have cd:=ah _ a2;by_cases ai:e.time=a.time
     ·simp only[ld,jn,jK,c,bw,bA,fv,bW ai,ro,rt,ru,rv,gW,hy,px,ry,lS,true_or]<;>(try first|rw[av (by omega)]|rw[an (by omega)])
     ·have aA:¬(e.time=a.time\/fD e.time t<fD a.time t):=by omega
      simp only[ld,jn,jK,c,bw,bA,fv,ai,ro,rt,ru,rv,gW,hy,px,ry,lS,false_or]<;>(try first|rw[av (by omega)]|rw[an (by omega)])
   |some b=>
    obtain⟨fa,eV⟩:=ad b rfl;have aK:=aO _ eV;have nG:(e.time=b.time\/fD e.time t<fD b.time t)↔e.time-t<t-b.time:=by omega
    cases a with
    |none=>simp only[ld,jn,jK,c,bw,bA,fv,nG,ro,rt,ru,rv,gW,hy,px,ry,lS]<;>(try first|rw[av (by omega)]|rw[an (by omega)])
    |some a=>
     obtain⟨c_,a2⟩:=bj a rfl;have cd:=ah _ a2;by_cases bK:a.time-t<t-b.time
     ·by_cases ai:e.time=a.time
      ·have tR:e.time-t<t-b.time:=by omega
       have aA:e.time=a.time\/fD e.time t<fD a.time t:=.inl ai;simp only[ld,jn,jK,c,bw,bA,fv,bK,aA,px,ro,rt,ru,rv,gW,hy,mX,px,ry,lS]<;>(try first|rw[av (by omega)]|rw[an (by omega)])<;>(try simp only[tR,gW])
      ·have aA:¬(e.time=a.time\/fD e.time t<fD a.time t):=by omega
       simp only[ld,jn,jK,c,bw,bA,fv,bK,ai,ro,rt,ru,rv,gW,hy,px,ry,lS,false_or]<;>(try first|rw[av (by omega)]|rw[an (by omega)])
     ·by_cases ai:e.time=a.time
      ·have tR:¬e.time-t<t-b.time:=by omega
       have aA:e.time=a.time\/fD e.time t<fD a.time t:=.inl ai;simp only[ld,jn,jK,c,bw,bA,fv,bK,tR,nG,aA,ro,rt,ru,rv,gW,hy,mX,px,ry,lS]<;>(try first|rw[av (by omega)]|rw[an (by omega)])<;>(try simp only[tR,hy])
      ·have aA:¬(e.time=a.time\/fD e.time t<fD a.time t):=by omega
       have tR:¬e.time-t<t-b.time:=by omega
       simp only[ld,jn,jK,c,bw,bA,fv,bK,tR,ai,nG,ro,rt,ru,rv,gW,hy,px,ry,lS,false_or]<;>(try first|rw[av (by omega)]|rw[an (by omega)])
def vp:Entry:=⟨[],0,0,[],[],[],0,0,false⟩
def mo:[ag.str [],ag.int i64 0,ag.int i64 0,ag.str [],ag.str [],ag.str [],ag.int i64 0,ag.int i64 0,ag.bool false]=vp.row:=rfl
def R1(l:List Entry):Prop:=∀x∈l,0<=x.time/\x.time<=253402300799
def zli{e:Entry}(h:rm e=0):0<=e.time/\e.time<=253402300799:=by
 unfold rm at h;split at h
 ·cases h
 ·split at h
  ·cases h
  ·rename_i aa ab;have:fM e.time=true:=by
    cases ad:fM e.time with
    |true=>rfl
    |false=>exact absurd (.inl ad) ab
   simpa[fM,dh]using this
def R2{l:List Entry}(k:aq)(h:iq l=0):R1 (j7 l k)/\(j7 l k).Pairwise (fun a b=>a.time<=b.time):=by
 obtain⟨aa,ab⟩:=Za h;refine⟨fun x ai=>zli (ab x ((Cz.1 ai).1)),?_⟩;have am:(j7 l k).Pairwise sC:=aa.filter _;refine List.Pairwise.imp_of_mem ?_ am;intro a b bj ad wS;have ik:a.key=k:=by simpa using (Cz.1 bj).2
 have tV:b.key=k:=by simpa using (Cz.1 ad).2
 rcases wS with h|⟨_,h|⟨h,_⟩⟩
 ·rw[ik,tV,z7]at h;cases h
 ·omega
 ·omega
def MH:Option Nat->Int
 |none=>-1
 |some j=>j
attribute[simp]MH.eq_1 MH.eq_2
def kR(l:List Entry)(o:Option Nat):Option Entry:=o.bind fun j=>l[j]?
def CA(l:List Entry)(o:Option Nat):Prop:=∀j,o=some j->j<l.length
@[simp]def zGY(e:Entry):so e.row=false:=(rfl)
def zlj(l:List Entry)(t way:Int)(ad:l.length<=3000)(bv:R1 l)(a1:0<=t/\t<=253402300799)(hw:way=1\/way=2\/way=3) :
  az prog 68 [entries l,.one (.int .i64 t),.one (.int .i64 way)] (.b2 [.agg ((wZ l t way).getD vp).row,.one (.bool (wZ l t way).isSome)]):=by
 refine az.bd f68 mixed fun aD=>?_;simp +contextual[-Bool.and_eq_false_imp];refine ck.of (Nat×Option Nat×Option Nat) (fun x=>[(0,.x (entries l)),(1,.x (.one (.int .i64 t))),(2,.x (.one (.int .i64 way))),(6,.box vp.row),(8,.x (.one (.int .i64 (MH x.2.1)))),(9,.x (.one (.int .i64 (MH x.2.2)))),(13,.x (entries l)),(14,.x (.one (.int .i64 l.length))),(15,.x (.one (.int .i64 x.1)))])
  (fun x=>x.1<=l.length/\CA l x.2.1/\CA l x.2.2/\kR l x.2.1=rq (l.take x.1) t/\kR l x.2.2=rr (l.take x.1) t) (fun x=>l.length-x.1) (0,none,none) ⟨cj _,(by intro j h;cases h),(by intro j h;cases h),rfl,rfl⟩ ?_ ?_
 ·simp[mo]
 rintro⟨i,b,a⟩ ⟨ah,IX,w2,tV,ik⟩;simp only at ah IX w2 tV ik;by_cases ar:i<l.length
 ·have ot:l.take (i+1)=l.take i++[l[i]]:=by rw[Co,cr ar];rfl
  have z':rq (l.take (i+1)) t=if l[i].time<=t then some l[i]else rq (l.take i) t:=by rw[ot,RW]
  have Aa:rr (l.take (i+1)) t=jn t (rr (l.take i) t) l[i]:=by rw[ot,RX]
  have bF:kR l (some i)=some l[i]:=by simp[kR,ar]
  have li:CA l (some i):=by intro j h;injection h with h;omega
  have fin:∀(br a':Option Nat),CA l br->CA l a'->kR l br=rq (l.take (i+1)) t->kR l a'=rr (l.take (i+1)) t->(i+1<=l.length/\CA l br/\CA l a'/\kR l br=rq (l.take (i+1)) t/\kR l a'=rr (l.take (i+1)) t):=fun br a' aa ab au aN=>⟨ar,aa,ab,au,aN⟩
  have aZ:0<l.length:=by omega
  have bC:=bc ((i:Int)+1);by_cases bw:l[i].time<=t<;>by_cases bA:t<=l[i].time
  ·-- both
   cases a with
   |none=>
    simp +contextual[-Bool.and_eq_false_imp,ar,aZ,bw,bA];refine bt.of (i+1,some i,some i) (fin _ _ li li ?_ ?_) (by simp only;omega) ?_
    ·rw[z',av bw,bF]
    ·rw[Aa,<-ik];simp[jn,kR,bA,ar]
    ·simp[bC]
   |some j=>
    have ac:=w2 j rfl;have IY:kR l (some j)=some l[j]:=by simp[kR,ac]
    by_cases cJ:l[i].time=l[j].time
    ·have CB:(l[i].time==l[j].time)=true:=by simp[cJ]
     simp +contextual[-Bool.and_eq_false_imp,ar,bw,bA,ac,CB];refine bt.of (i+1,some i,some i) (fin _ _ li li ?_ ?_) (by simp only;omega) ?_
     ·rw[z',av bw,bF]
     ·rw[Aa,<-ik,IY,bF];simp only[jn];rw[av ⟨bA,cJ⟩]
     ·simp[bC]
    ·have CB:(l[i].time==l[j].time)=false:=by simp[cJ]
     have fQ:((j:Int)<0)=False:=by simp
     simp +contextual[-Bool.and_eq_false_imp,ar,bw,bA,ac,CB,fQ];refine bt.of (i+1,some i,some j) (fin _ _ li w2 ?_ ?_) (by simp only;omega) ?_
     ·rw[z',av bw,bF]
     ·rw[Aa,<-ik,IY];simp only[jn];rw[an (fun h=>cJ h.2)]
     ·simp[bC]
  ·-- ahead of Dl time
   have aw:∀o,jn t o l[i]=o:=by
    intro o;cases o with
    |none=>simp only[jn];rw[an bA]
    |some z=>simp only[jn];rw[an (fun h=>bA h.1)]
   cases a with
   |none=>
    simp +contextual[-Bool.and_eq_false_imp,ar,aZ,bw,bA];refine bt.of (i+1,some i,none) (fin _ _ li w2 ?_ ?_) (by simp only;omega) ?_
    ·rw[z',av bw,bF]
    ·rw[Aa,<-ik,aw]
    ·simp[bC]
   |some j=>
    have ac:=w2 j rfl;simp +contextual[-Bool.and_eq_false_imp,ar,bw,bA,ac];refine bt.of (i+1,some i,some j) (fin _ _ li w2 ?_ ?_) (by simp only;omega) ?_
    ·rw[z',av bw,bF]
    ·rw[Aa,<-ik,aw]
    ·simp[bC]
  ·-- behind it
   cases a with
   |none=>
    simp +contextual[-Bool.and_eq_false_imp,ar,aZ,bw,bA];refine bt.of (i+1,b,some i) (fin _ _ IX li ?_ ?_) (by simp only;omega) ?_
    ·rw[z',an bw,tV]
    ·rw[Aa,<-ik,bF];simp[jn,kR,bA]
    ·simp[bC]
   |some j=>
    have ac:=w2 j rfl;have IY:kR l (some j)=some l[j]:=by simp[kR,ac]
    by_cases cJ:l[i].time=l[j].time
    ·have CB:(l[i].time==l[j].time)=true:=by simp[cJ]
     simp +contextual[-Bool.and_eq_false_imp,ar,bw,bA,ac,CB];refine bt.of (i+1,b,some i) (fin _ _ IX li ?_ ?_) (by simp only;omega) ?_
     ·rw[z',an bw,tV]
     ·rw[Aa,<-ik,IY,bF];simp only[jn];rw[av ⟨bA,cJ⟩]
     ·simp[bC]
    ·have CB:(l[i].time==l[j].time)=false:=by simp[cJ]
     have fQ:((j:Int)<0)=False:=by simp
     simp +contextual[-Bool.and_eq_false_imp,ar,bw,bA,ac,CB,fQ];refine bt.of (i+1,b,some j) (fin _ _ IX w2 ?_ ?_) (by simp only;omega) ?_
     ·rw[z',an bw,tV]
     ·rw[Aa,<-ik,IY];simp only[jn];rw[an (fun h=>cJ h.2)]
     ·simp[bC]
  ·exact absurd (by omega) bw
 ·rw[show l.take i=l from k4 (by omega)]at tV ik;have gS:wZ l t way=jK t way (kR l b) (kR l a):=by rw[tV,ik];rfl
  rw[gS];have d9:∀(j:Nat) (h:j<l.length),0<=l[j].time/\l[j].time<=253402300799:=fun j h=>bv _ (hS h);have zlk:∀(j:Nat) (h:j<l.length),i64.wrap (l[j].time-t)=l[j].time-t:=fun j h=>lR _ (by have:=d9 j h;omega);have zll:∀(j:Nat) (h:j<l.length),i64.wrap (t-l[j].time)=t-l[j].time:=fun j h=>lR _ (by have:=d9 j h;omega);have Fr:∀j:Nat,((j:Int)<0)=False:=fun j=>by simp
  have je:∀j:Nat,(0<=(j:Int))=True:=fun j=>by simp
  cases b with
  |none=>cases a with
   |none=>
    have aZ:l[0]?=none\/∃z,l[0]?=some z:=by
     cases h:l[0]? with
     |none=>exact .inl rfl
     |some z=>exact .inr ⟨z,rfl⟩
    rcases aZ with aZ|⟨z,aZ⟩<;>rcases hw with rfl|rfl|rfl<;>simp +contextual[-Bool.and_eq_false_imp,ar,aZ,jK,kR,mo]
   |some j=>
    have ac:=w2 j rfl;have aZ:0<l.length:=by omega
    rcases hw with rfl|rfl|rfl<;>simp +contextual[-Bool.and_eq_false_imp,ar,aZ,jK,kR,mo,ac,Fr,je]
  |some m=>
   have hm:=IX m rfl;cases a with
   |none=>
    have aZ:0<l.length:=by omega
    rcases hw with rfl|rfl|rfl<;>simp +contextual[-Bool.and_eq_false_imp,ar,aZ,jK,kR,mo,hm,Fr,je]
   |some j=>
    have ac:=w2 j rfl;have ds:=zlk j ac;have dV:=zll m hm;rcases hw with rfl|rfl|rfl
    ·by_cases bK:l[j].time-t<t-l[m].time
     ·have R3:decide (l[j].time-t<t-l[m].time)=true:=by simp[bK]
      simp[ar,jK,kR,mo,hm,ac,ds,dV,R3,Fr,je];rw[av bK];simp
     ·have R3:decide (l[j].time-t<t-l[m].time)=false:=by simp[bK]
      simp[ar,jK,kR,mo,hm,ac,ds,dV,R3,Fr,je];rw[an bK];simp
    ·simp +contextual[-Bool.and_eq_false_imp,ar,jK,kR,mo,hm,ac,ds,dV,Fr,je]
    ·simp +contextual[-Bool.and_eq_false_imp,ar,jK,kR,mo,ac,Fr,je]
def Fs(x t:Int)(aa:0<=x/\x<=253402300799)(ab:0<=t/\t<=253402300799):az prog 50 [.one (.int .i64 x),.one (.int .i64 t)] (.x (.one (.int .i64 (fD x t)))):=by refine az.bd f50 mixed fun aD=>?_;have ds:=bc (x-t);have dV:=bc (t-x);simp +contextual[-Bool.and_eq_false_imp,ds,dV,fD]
end
section
section
variable [bn]
@[simp]def zHA(e:Entry):e.row.all ag.flat=true:=(rfl)
def Av(l:List Entry)(k:aq)(t way:Int):Int:=
 if z_ l k≠0 then z_ l k else if dh 1 3 way=false then 4 else if fM t=false then 1 else 0
def lv(l:List Entry)(k:aq)(t way:Int):Option Entry:=if Av l k t way=0 then wZ (j7 l k) t way else none
def zoH(l:List Entry)(k:aq)(t way:Int):az prog 40 [entries l,.one (.str k),.one (.int .i64 t),.one (.int .i64 way)]
  (.b2 [.agg ((lv l k t way).getD vp).row,.one (.bool (lv l k t way).isSome),.one (.int .i64 (Av l k t way))]):=by
 refine az.bd f40 mixed fun aD=>?_;have cY:lv l k t way=if Av l k t way=0 then wZ (j7 l k) t way else none:=rfl
 generalize a6:Av l k t way=F at cY;unfold Av at a6;simp +contextual[-Bool.and_eq_false_imp];refine aH.of (zkw l k) ?_;simp +contextual[-Bool.and_eq_false_imp];refine⟨fun h=>?_,fun h=>aH.of (Ix _ _ _) ?_⟩
 ·rw[av h]at a6;subst a6;rw[cY,an h];exact⟨by simp[mo],rfl,rfl⟩
 rw[an (by simp[h])]at a6;obtain⟨aa,ab⟩:=Zh h;have hs:=Mw aa;obtain⟨bv,_⟩:=R2 k aa;have cG:=RV l k;simp +contextual[-Bool.and_eq_false_imp];refine⟨fun au=>?_,fun au=>aH.of (E' _) ?_⟩
 ·rw[av au]at a6;subst a6;rw[cY];exact⟨by simp[mo],rfl,rfl⟩
 rw[an (by simp[au])]at a6;simp +contextual[-Bool.and_eq_false_imp];refine⟨fun aN=>?_,fun aN=>aH.of (zkv l k (Za aa).1 hs) ?_⟩
 ·rw[av aN]at a6;subst a6;rw[cY];exact⟨by simp[mo],rfl,rfl⟩
 rw[an (by simp[aN])]at a6;subst a6;rw[cY,av rfl];simp only[dh,fM,b7,hk]at au aN;simp +contextual[-Bool.and_eq_false_imp];refine aH.of (zlj _ t way (by omega) bv aN (by omega)) ?_;simp +contextual[-Bool.and_eq_false_imp]
end
end
section
variable [bn]
def zsv:az prog 33 [.one .nil] (.x (.one (.int .i64 0))):=by
 refine az.bd f33 mixed fun aD=>?_;simp +contextual[-Bool.and_eq_false_imp];refine ck.of Unit (fun _=>[(8,.x (.one .nil)),(9,.x (.one (.int .i64 0))),(10,.x (.one (.int .i64 0)))]) (fun _=>True) (fun _=>0) () trivial ?_ ?_
 ·simp
 intro _ _;simp +contextual[-Bool.and_eq_false_imp]
abbrev zcN:aG:=.agg [.bool false,.nil,.str [],.int .i64 0,.int .i64 0,.str [],.str [],.str [],.int .i64 0,.int .i64 0,.bool false,.nil,.nil,.int .i64 0]
def zsw:az prog 12 [zcN] (.b2 [.agg [.int .i64 1,.int .i64 1],.one (.int .i64 0)]):=by
 refine az.bd f12 mixed fun aD=>?_;simp +contextual[-Bool.and_eq_false_imp];refine aH.of zsv ?_;simp +contextual[-Bool.and_eq_false_imp];refine ck.of Unit (fun _=>[(1,.box zcN.cells),(2,.box [.int .i64 0,.int .i64 0]),(5,.x (.one (.int .i64 0))),(18,.x (.one .nil)),(19,.x (.one (.int .i64 0))),(20,.x (.one (.int .i64 0)))]) (fun _=>True) (fun _=>0) () trivial ?_ ?_
 ·simp
 intro _ _;simp +contextual[-Bool.and_eq_false_imp]
def zsu:az prog 6 [] (.x (.one (.bool true))):=by refine az.bd f6 mixed fun aD=>?_;simp +contextual[-Bool.and_eq_false_imp];refine aH.of zsw ?_;simp +contextual[-Bool.and_eq_false_imp]
end
end Go.Proofs.YtmlnbemjmlogiaaGreatDoor
