/- Lemmas. -/
import Derived.Test.YtmlnbemjmlogiaaGreatDoorIxGTd
import Derived.MakeChecks
import Derived.Test.YtmlnbemjmlogiaaGreatDoorRows
import Derived.HandedShaped
import Derived.Shelf.Vars
set_option linter.all false
set_option maxHeartbeats 8000000
set_option maxRecDepth 100000
namespace Go.Proofs.YtmlnbemjmlogiaaGreatDoor
open Go Go.Ab Go.IntKind Go.Proofs.Tryz
section
variable [bn][c1 0][cF prog]
def C'(hs:List Head)(w:aq):List (aq)×Int:=
 if j8 hs≠0 then ([],j8 hs)else if mq w=false then ([],5)else (dC hs (eN w),0)
def zbk{l:List Head}(h:j8 l=0):l.length<=1000000000:=by
 unfold j8 at h;split at h
 ·cases h
 ·rename_i aa;omega
def zoI(hs:List Head)(w:aq):az prog 42 [qs hs,.one (.str w)] (.b2 [strs (C' hs w).1,.one (.int .i64 (C' hs w).2)]):=by
 have aE:=R4 hs;have aQ:=Zo w;have bf:=IF w;unfold C';refine az.bd f42 mixed fun aD=>?_;simp;refine aH.of aE ?_;by_cases aa:j8 hs=0;rotate_left
 ·have dd:(j8 hs=0)=False:=bz aa;rw[av aa];simp[dd]
 rw[an (by simp[aa])];have bM:=M8 hs (eN w) (zbk aa);rw[aa];simp;refine aH.of aQ ?_;cases ab:mq w
 ·rw[av rfl];simp
 rw[an (by decide)];simp;refine aH.of bf ?_;simp;refine aH.of bM ?_;simp
structure Jt(s:c9)(m:iv):Prop where
 right:iq s.entries=0
 there:qG m s.entries=0
 ok:∀p∈m,p.2.ok
def Tl{m:iv}:∀{l:List Entry} {e:Entry},qG m l=0->e∈l->∃f w,nj m e.file=some f/\nj f.ids (e.aO,e.ah)=some w
 |x::r,e,h,he=>by
  unfold qG at h;cases ay:nj m x.file with
  |none=>rw[ay]at h;cases h
  |some f=>
   rw[ay]at h;dsimp only at h;split at h
   ·cases h
   ·rename_i aX;rcases fp.1 he with rfl|he
    ·refine⟨f,?_⟩;cases hw:nj f.ids (e.aO,e.ah)with
     |some w=>exact⟨w,ay,rfl⟩
     |none=>exact absurd (.inl (by unfold oT;rw[hw])) aX
    ·exact Tl h he
def zoJ{s:c9}(h:(lu s).2=0):Jt s (lu s).1:=by
 unfold lu at*;split at h
 ·rename_i aa;exact absurd h aa
 rename_i aa;rw[an aa];split at h
 ·cases h
 rename_i ab;rw[an ab];split at h
 ·rename_i au;exact absurd h au
 rename_i au;rw[an au];split at h
 ·rename_i aN;exact absurd h aN
 rename_i aN;rw[an aN];split at h
 ·rename_i bE;exact absurd h bE
 rename_i bE;rw[an bE];refine⟨nY aN,nY bE,?_⟩;have key:∀(F:List dT) (p:Option (aq)) (m:iv),(∀p∈m,p.2.ok)->∀q∈(gj p m F).1,q.2.ok:=by
  intro F;induction F with
  |nil=>intro p m h;unfold gj;exact h
  |cons x r ba=>
   intro p m h;unfold gj;split
   ·exact h
   split
   ·exact h
   split
   ·exact h
   ·refine ba _ _ (fun q bK=>?_);rcases Tf bK with bK|rfl
    ·exact h q bK
    ·exact Th _
 exact key s.files none [] (fun p am=>by cases am)
def w_(f:qF)(w:aq):hp×Int:=
 if (kW f.fE w).2≠0 then (hI,(kW f.fE w).2)
 else ((hc (kW f.fE w).1).1,if 0<(hc (kW f.fE w).1).2.2.1/\((hc (kW f.fE w).1).2.2.2=15\/(hc (kW f.fE w).1).2.2.2=3)then 0 else (hc (kW f.fE w).1).2.2.2)
def yP(m:iv)(e:Entry):hp×Int:=match nj m e.file with
 |some f=>match nj f.ids (e.aO,e.ah)with
  |some w=>w_ f w
  |none=>(hI,0)
 |none=>(hI,0)
def zoK(s:c9)(m:iv)(aB:Jt s m)(e:Entry)(he:e∈s.entries):az prog 41 [.one (s.open_ m),.agg e.row] (.b2 [.agg (yP m e).1.row,.one (.int .i64 (yP m e).2)]):=by
 obtain⟨f,w,k_,q7⟩:=Tl aB.there he;have c8:=yJ (ev:=yL) Nn e.file m 0;have eW:lX pE yL m=hR false true (rH m) (rI m):=Te m;rw[eW]at c8;have ay:=Nk (l:=m) (k:=e.file) rfl;have Jr:∀(q:Nat) (f:qF),m[q]?=some (e.file,f)->(hR false true (rH m) (rI m))[q]?=some (aG.one (.str e.file),aG.agg [.list 7 (f.fE.map Rec.row),.i8 true false (mC f.ids) (mD f.ids)]):=by intro q f h;rw[<-eW];unfold lX;rw[eZ,h];rfl
 generalize m.findIdx? (fun p=>decide (e.file=p.1))=yM at*;rcases ay with⟨q,we,rfl,uf,Au⟩|⟨rfl,uf⟩
 rotate_left
 ·rw[uf]at k_;cases k_
 rw[uf]at k_;cases k_;have c8:fz .s (.one (.str e.file)) (hR false true (rH m) (rI m)) 0=some (some q):=c8;have Ti:=Jr q f Au;have aD:=aB.ok _ (kt Au);have Ju:=yJ (ev:=pE) Nl (e.aO,e.ah) f.ids 0;have zbl:lX yK pE f.ids=hR true false (mC f.ids) (mD f.ids):=No f.ids;rw[zbl]at Ju;unfold yK at Ju;have dO:=Nk (α:=Int×Int) (β:=aq) (l:=f.ids) (k:=(e.aO,e.ah)) rfl;have zoL:∀(i:Nat) (w:aq),f.ids[i]?=some ((e.aO,e.ah),w)->(hR true false (mC f.ids) (mD f.ids))[i]?=some (aG.agg [.int .i64 e.aO,.int .i64 e.ah],aG.one (.str w)):=by intro i w h;rw[<-zbl];unfold lX;rw[eZ,h];rfl
 generalize f.ids.findIdx? (fun p=>decide ((e.aO,e.ah)=p.1))=zHB at*;rcases dO with⟨i,w',rfl,Nm,zoM⟩|⟨rfl,Nm⟩
 rotate_left
 ·rw[Nm]at q7;cases q7
 rw[Nm]at q7;cases q7;have Ju:fz (.st [.i,.i]) (.agg [.int .i64 e.aO,.int .i64 e.ah]) (hR true false (mC f.ids) (mD f.ids)) 0=some (some i):=Ju;have Tg:=zoL i w zoM;have aE:=znm f.fE w (jc aD.2 (by decide));have Ha:yP m e=w_ f w:=by unfold yP;rw[uf];dsimp only;rw[Nm]
 rw[Ha];unfold w_;unfold fP at aE;generalize kW f.fE w=S at*;obtain⟨ij,rJ⟩:=S;dsimp only at*;have aQ:=znE ij;generalize hc ij=A at*;obtain⟨s0,zbm,at',Np⟩:=A;dsimp only at*;have a_:s0.row=[.int .i64 s0.st,.str s0.io,.list 2 (s0.hs.map Head.row),b5 s0.mt]:=rfl;rw[a_]at aQ;have Aw:e.row=[.str e.key,.int .i64 e.time,.int .i64 e.status,.str e.type,.str e.ee,.str e.file,.int .i64 e.aO,.int .i64 e.ah,.bool e.same]:=rfl;rw[Aw];unfold c9.open_ c9.cs C9;rw[List.cons_append,List.cons_append,List.cons_append,List.nil_append];refine az.bd f41 mixed fun aD=>?_;simp;refine m_.l ⟨by kernel_rfl,?_⟩;simp[c8,Ti,Ju,Tg];refine aH.of aE ?_;by_cases aw:rJ=0;rotate_left
 ·have hC:(rJ=0)=False:=bz aw;rw[av aw];simp[hC,hI,hp.row]
  skip;done
 rw[an (by simp[aw])];subst aw;simp;refine aH.of aQ ?_;by_cases a1:0<at'
 ·have m9:(0<at')=True:=bW a1;by_cases Aq:Np=15
  ·subst Aq;rw[av ⟨a1,.inl rfl⟩];simp[m9,a_]
  ·have zoN:(Np=15)=False:=bz Aq;by_cases au:Np=3
   ·subst au;rw[av ⟨a1,.inr rfl⟩];simp[m9,a_]
   ·have zh:(Np=3)=False:=bz au;rw[an (by omega)];simp[m9,zoN,zh,a_]
 ·obtain rfl:at'=0:=by omega
  rw[an (by omega)];simp[a_]
def uh:aq:=[109,111,100,105,102,105,101,100]
def Ax(m:iv)(e:Entry)(t:Int):Bool:=
 if (yP m e).2≠0 then false
 else match (C' (yP m e).1.hs uh).1 with
  |v::_=>hn v&&decide (t<h9 v)
  |[]=>false
def zoO(s:c9)(m:iv)(aB:Jt s m)(e:Entry)(he:e∈s.entries)(t:Int):az prog 20 [.one (s.open_ m),.agg e.row,.one (.int .i64 t)] (.x (.one (.bool (Ax m e t)))):=by
 have aE:=zoK s m aB e he;unfold Ax;generalize yP m e=K at*;obtain⟨s0,n_⟩:=K;dsimp only at*;have aQ:=zoI s0.hs uh;generalize C' s0.hs uh=W at*;obtain⟨vs,zHC⟩:=W;dsimp only at*;unfold uh at aQ;have a_:s0.row=[.int .i64 s0.st,.str s0.io,.list 2 (s0.hs.map Head.row),b5 s0.mt]:=rfl;rw[a_]at aE;have Aw:e.row=[.str e.key,.int .i64 e.time,.int .i64 e.status,.str e.type,.str e.ee,.str e.file,.int .i64 e.aO,.int .i64 e.ah,.bool e.same]:=rfl;rw[Aw]at*;unfold c9.open_ c9.cs C9 at*;rw[List.cons_append,List.cons_append,List.cons_append,List.nil_append]at*;refine az.bd f20 mixed fun aD=>?_;simp;refine aH.of aE ?_;by_cases ak:n_=0;rotate_left
 ·have dx:(n_=0)=False:=bz ak;rw[av ak];simp[dx]
 rw[an (by simp[ak])];subst ak;simp;refine aH.of aQ ?_;cases vs with
 |nil=>simp
 |cons v r=>
  have bf:=ZW v;have aa:((r.length:Int)+1=0)=False:=a8;simp[aa];refine aH.of bf ?_;cases ao:hn v
  ·simp[ao]
  ·simp[ao]
def zbn(e:Entry)(t:Int)(aa:0<=e.time/\e.time<=253402300799)(ab:0<=t/\t<=253402300799):az prog 18 [.agg e.row,.one (.int .i64 t)] (.x (.one (.int .i64 (fD e.time t)))):=by have ds:=bc (e.time-t);have dV:=bc (t-e.time);have Aw:e.row=[.str e.key,.int .i64 e.time,.int .i64 e.status,.str e.type,.str e.ee,.str e.file,.int .i64 e.aO,.int .i64 e.ah,.bool e.same]:=rfl;rw[Aw];unfold fD;refine az.bd f18 mixed fun aD=>?_;simp[ds,dV]
def FX(d:Int):Bool:=decide (0<=d)&&decide (d<=1000000000000)
def zoP(d:Int):az prog 16 [.one (.int .i64 d)] (.x (.one (.bool (FX d)))):=by unfold FX;refine az.bd f16 mixed fun aD=>?_;simp
def Tm(s:c9)(m:iv)(k:aq)(t way:Int):az prog 19 [.one (s.open_ m),.one (.str k),.one (.int .i64 t),.one (.int .i64 way)] (.b2 [.agg ((lv s.entries k t way).getD vp).row,.one (.bool (lv s.entries k t way).isSome)]):=by have aE:=zoH s.entries k t way;unfold entries at aE;generalize lv s.entries k t way=o at*;have a_:∀e:Entry,e.row=[.str e.key,.int .i64 e.time,.int .i64 e.status,.str e.type,.str e.ee,.str e.file,.int .i64 e.aO,.int .i64 e.ah,.bool e.same]:=fun _=>rfl;rw[a_]at*;unfold c9.open_ c9.cs C9 at*;rw[List.cons_append,List.cons_append,List.cons_append,List.nil_append]at*;refine az.bd f19 mixed fun aD=>?_;simp;refine aH.of aE ?_;simp
def zoQ{t way:Int}{b a:Option Entry}{e:Entry}(h:jK t way b a=some e):b=some e\/a=some e:=by
 unfold jK at h;split at h
 ·exact .inr h
 split at h
 ·exact .inl h
 cases b with
 |none=>cases a with
  |none=>cases h
  |some a=>exact .inr h
 |some b=>cases a with
  |none=>exact .inl h
  |some a=>
   dsimp only at h;split at h
   ·exact .inr h
   ·exact .inl h
def Nq{l:List Entry}{k:aq}{t way:Int}{e:Entry}(h:lv l k t way=some e):e∈l/\(0<=t/\t<=253402300799)/\(0<=e.time/\e.time<=253402300799)/\iq l=0:=by
 unfold lv at h;split at h;rotate_left
 ·cases h
 rename_i a1;unfold Av at a1;split at a1
 ·rename_i aa;exact absurd a1 aa
 rename_i aa;split at a1
 ·cases a1
 split at a1
 ·cases a1
 rename_i au;have hm:fM t=true:=by simpa using au
 obtain⟨eW,_⟩:=Zh (nY aa);have hw:e∈j7 l k:=by
  unfold wZ at h;rcases zoQ h with h|h
  ·exact(RY (j7 l k) h).1
  ·exact(RZ (j7 l k) h).1
 refine⟨(Cz.1 hw).1,?_,(R2 k eW).1 e hw,eW⟩;unfold fM dh at hm;rw[b7,mA,mA]at hm;exact hm
def vC(l:List Entry)(k:aq)(t d:Int):Option Entry:=match lv l k t 1 with
 |some e=>if d<fD e.time t then none else some e
 |none=>none
def zoR(s:c9)(m:iv)(k:aq)(t d:Int):az prog 17 [.one (s.open_ m),.one (.str k),.one (.int .i64 t),.one (.int .i64 d)] (.b2 [.agg ((vC s.entries k t d).getD vp).row,.one (.bool (vC s.entries k t d).isSome)]):=by
 have aE:=Tm s m k t 1;have hs:=fun e=>Nq (l:=s.entries) (k:=k) (t:=t) (way:=1) (e:=e);unfold vC;generalize lv s.entries k t 1=o at*;have a_:∀e:Entry,e.row=[.str e.key,.int .i64 e.time,.int .i64 e.status,.str e.type,.str e.ee,.str e.file,.int .i64 e.aO,.int .i64 e.ah,.bool e.same]:=fun _=>rfl;unfold c9.open_ c9.cs C9 at*;rw[List.cons_append,List.cons_append,List.cons_append,List.nil_append]at*;cases o with
 |none=>dsimp only;simp only[FY]at aE⊢;refine az.bd f17 mixed fun aD=>?_;simp;refine aH.of aE ?_;simp;refine gH 0 ?_;simp[mo]
 |some e=>
  obtain⟨_,aa,ab,_⟩:=hs e rfl;have aQ:=zbn e t ab aa;rw[oa,a_]at aE;rw[a_]at aQ;dsimp only;refine az.bd f17 mixed fun aD=>?_;simp;refine aH.of aE ?_;simp;refine b_.of (fun _=>aQ) rfl ?_;by_cases aA:d<fD e.time t
  ·have e2:(d<fD e.time t)=True:=bW aA;rw[av aA];simp[e2,mo]
  ·have e2:(d<fD e.time t)=False:=bz aA;rw[an aA];simp[e2,a_]
def s3(s:c9)(k:aq)(t d:Int):Int:=
 if (lu s).2≠0 then (lu s).2 else if j2 k=false then 3 else if fM t=false\/FX d=false then 1 else 0
def Tn(s:c9)(k:aq)(t d:Int):ag:=if s3 s k t d=0 then s.open_ (lu s).1 else .atom (.pointer none)
def zoS(s:c9)(hs:s.fit)(k:aq)(t d:Int):az prog 7 [.agg s.cs,.one (.str k),.one (.int .i64 t),.one (.int .i64 d)] (.b2 [.one (Tn s k t d),.one (.int .i64 (s3 s k t d))]):=by
 have aE:=zoG s hs;have aQ:=Md k;have bf:=E' t;have bM:=zoP d;unfold Tn;obtain⟨A,jM⟩:∃A,A=s3 s k t d:=⟨_,rfl⟩
 rw[<-jM];unfold s3 at jM;unfold FV at aE;generalize lu s=O at*;obtain⟨m,f⟩:=O;dsimp only at*;unfold c9.open_ c9.cs C9 at*;rw[List.cons_append,List.cons_append,List.cons_append,List.nil_append]at*;by_cases aw:f=0;rotate_left
 ·rw[an aw]at aE;rw[av aw]at jM;subst jM;rw[an aw];have hC:(A=0)=False:=bz aw;refine az.bd f7 mixed fun aD=>?_;simp;refine aH.of aE ?_;simp[hC]
 rw[an (by simp[aw])]at jM;subst aw;rw[av rfl]at aE;refine az.bd f7 mixed fun aD=>?_;simp;refine aH.of aE ?_;simp;refine aH.of aQ ?_;cases ab:j2 k
 ·rw[av ab]at jM;subst jM;simp
 rw[an (by simp[ab])]at jM;simp;refine aH.of bf ?_;cases au:fM t
 ·rw[av (.inl au)]at jM;subst jM;simp;refine e7 true ?_;simp
 ·simp;refine b_.of (fun _=>bM) rfl ?_;cases aN:FX d
  ·rw[av (.inr aN)]at jM;subst jM;simp
  ·rw[an (by simp[au,aN])]at jM;subst jM;simp
structure rK where
 key:aq
 kind:Int
 state:Int
 time:Int
 zbo:Int
def rK.row(x:rK):List ag:=[.str x.key,.int .i64 x.kind,.int .i64 x.state,.int .i64 x.time,.int .i64 x.zbo]
def FZ:rK:=⟨[],0,0,0,0⟩
def oV(b a:Option Entry):Bool:=match b,a with
 |some b,some a=>decide (b.ee=a.ee)
 |_,_=>false
def To(m:iv)(t:Int)(e:Entry)(b a:Option Entry):Int:=
 if fD e.time t=0 then 1 else if oV b a=true/\e.time<t then 2 else if oV b a=true then 3 else if t<e.time/\Ax m e t=true then 5 else 4
def yQ(s:c9)(m:iv)(k:aq)(t d:Int):rK:=match vC s.entries k t d with
 |some e=>⟨k,0,To m t e (lv s.entries k t 2) (lv s.entries k t 3),e.time,fD e.time t⟩
 |none=>⟨k,0,6,0,0⟩
def zbp{l:List Entry}{k:aq}{t d:Int}{e:Entry}(h:vC l k t d=some e):lv l k t 1=some e/\fD e.time t<=d:=by
 unfold vC at h;split at h
 ·rename_i x ai;split at h
  ·cases h
  ·rename_i aA;cases h;exact⟨ai,by omega⟩
 ·cases h
def zoT(s:c9)(m:iv)(aB:Jt s m)(k:aq)(t d:Int):az prog 8 [.one (s.open_ m),.one (.str k),.one (.int .i64 t),.one (.int .i64 d)] (.x (.agg (yQ s m k t d).row)):=by
 have aE:=zoR s m k t d;have aQ:=Tm s m k t 2;have bf:=Tm s m k t 3;have hs:=fun e=>zbp (l:=s.entries) (k:=k) (t:=t) (d:=d) (e:=e);have al:=fun e he=>zoO s m aB e he t;unfold yQ;generalize vC s.entries k t d=o at*;generalize lv s.entries k t 2=b at*;generalize lv s.entries k t 3=a at*;have a_:∀e:Entry,e.row=[.str e.key,.int .i64 e.time,.int .i64 e.status,.str e.type,.str e.ee,.str e.file,.int .i64 e.aO,.int .i64 e.ah,.bool e.same]:=fun _=>rfl;unfold c9.open_ c9.cs C9 at*;rw[List.cons_append,List.cons_append,List.cons_append,List.nil_append]at*;cases o with
 |none=>dsimp only;simp only[FY]at aE;unfold rK.row;refine az.bd f8 mixed fun aD=>?_;simp;refine aH.of aE ?_;simp[mo]
 |some e=>
  obtain⟨aX,aA⟩:=hs e rfl;obtain⟨he,aa,ab,_⟩:=Nq aX;have bM:=zbn e t ab aa;have dz:=al e he;rw[oa]at aE;rw[a_]at aE aQ bf bM dz;dsimp only;unfold rK.row To;generalize Ax m e t=L at*;generalize fD e.time t=A at*;refine az.bd f8 mixed fun aD=>?_;simp;refine aH.of aE ?_;simp;refine m_.l ⟨by kernel_rfl,?_⟩;simp;refine aH.of bM ?_;simp;refine aH.of aQ ?_;simp;refine aH.of bf ?_;by_cases c0:A=0
  ·subst c0;rw[av rfl];simp
  rw[an c0];have ui:(A=0)=False:=bz c0;cases b with
  |none=>
   rw[an (by simp[oV]),an (by simp[oV])];by_cases ay:t<e.time
   ·have dO:(t<e.time)=True:=bW ay;simp[ui,dO];refine b_.of (fun _=>dz) rfl ?_;cases L
    ·rw[an (by simp)];simp
    ·rw[av ⟨ay,rfl⟩];simp
   ·have dO:(t<e.time)=False:=bz ay;rw[an (by intro h;exact ay h.1)];simp[ui,dO];refine e7 true ?_;simp
  |some b=>cases a with
   |none=>
    rw[an (by simp[oV]),an (by simp[oV])];by_cases ay:t<e.time
    ·have dO:(t<e.time)=True:=bW ay;simp[ui,dO];refine b_.of (fun _=>dz) rfl ?_;cases L
     ·rw[an (by simp)];simp
     ·rw[av ⟨ay,rfl⟩];simp
    ·have dO:(t<e.time)=False:=bz ay;rw[an (by intro h;exact ay h.1)];simp[ui,dO];refine e7 true ?_;simp
   |some a=>
    by_cases aA:b.ee=a.ee
    ·have e2:(b.ee=a.ee)=True:=bW aA;have cm:(b.ee==a.ee)=true:=by simp[aA]
     by_cases al:e.time<t
     ·have dK:(e.time<t)=True:=bW al;rw[av ⟨by simp[oV,aA],al⟩];simp[ui,cm,dK]
     ·have dK:(e.time<t)=False:=bz al;rw[an (fun h=>al h.2),av (by simp[oV,aA])];simp[ui,cm,dK]
    ·have e2:(b.ee=a.ee)=False:=bz aA;have cm:(b.ee==a.ee)=false:=by simp[aA]
     rw[an (by simp[oV,aA]),an (by simp[oV,aA])];by_cases ay:t<e.time
     ·have dO:(t<e.time)=True:=bW ay;simp[ui,cm,dO];refine b_.of (fun _=>dz) rfl ?_;cases L
      ·rw[an (by simp)];simp
      ·rw[av ⟨ay,rfl⟩];simp
     ·have dO:(t<e.time)=False:=bz ay;rw[an (by intro h;exact ay h.1)];simp[ui,cm,dO];refine e7 true ?_;simp
def zoU{s:c9}{k:aq}{t d:Int}(h:s3 s k t d=0):Jt s (lu s).1:=by
 refine zoJ ?_;unfold s3 at h;split at h
 ·rename_i aa;exact absurd h aa
 ·rename_i aa;exact nY aa
def Nr(s:c9)(k:aq)(t d:Int):rK:=if s3 s k t d=0 then yQ s (lu s).1 k t d else FZ
def zoV(s:c9)(hs:s.fit)(k:aq)(t d:Int):az prog 4 [.agg s.cs,.one (.str k),.one (.int .i64 t),.one (.int .i64 d)] (.b2 [.agg (Nr s k t d).row,.one (.int .i64 (s3 s k t d))]):=by
 have aE:=zoS s hs k t d;have aB:=zoU (s:=s) (k:=k) (t:=t) (d:=d);unfold Nr;unfold Tn at aE;generalize s3 s k t d=A at*;by_cases c0:A=0
 ·have aQ:=zoT s (lu s).1 (aB c0) k t d;subst c0;rw[av rfl]at aE⊢;generalize (lu s).1=m at*;generalize yQ s m k t d=p at*;have a_:p.row=[.str p.key,.int .i64 p.kind,.int .i64 p.state,.int .i64 p.time,.int .i64 p.zbo]:=rfl;rw[a_]at aQ⊢;unfold c9.open_ at*;unfold c9.cs at*;rw[List.cons_append,List.cons_append,List.cons_append,List.nil_append]at*;refine az.bd f4 mixed fun aD=>?_;simp;refine aH.of aE ?_;simp;refine aH.of aQ ?_;simp
 ·rw[an c0]at aE⊢;have ui:(A=0)=False:=bz c0;unfold FZ rK.row;unfold c9.cs at*;refine az.bd f4 mixed fun aD=>?_;simp;refine aH.of aE ?_;simp[ui]
def Da(x:ep):Int:=
 if x.kind<1\/7<x.kind then 4
 else if decide (x.kind=5\/x.kind=7)≠decide (x.name≠[])then 3
 else if lb [] x.name=false then 3
 else if Lib.containsAny x.name sY=true then 3 else 0
def zpa(p:Option ep)(x:ep):yI p x=if Da x≠0 then Da x else match p with
  |some q=>if 0<=rG q x then 8 else 0
  |none=>0:=by
 unfold yI Da;by_cases aa:x.kind<1\/7<x.kind
 ·rw[av aa,av aa];rfl
 rw[an aa,an aa];by_cases ab:decide (x.kind=5\/x.kind=7)≠decide (x.name≠[])
 ·rw[av ab,av ab];rfl
 rw[an ab,an ab];by_cases au:lb [] x.name=false
 ·rw[av au,av au];rfl
 rw[an au,an au];by_cases aN:Lib.containsAny x.name sY=true
 ·rw[av aN,av aN];rfl
 rw[an aN,an aN];rfl
def zpb{s w:aq}{i:Nat}{c:UInt8}(h:Lib.NoAny s w i)(ai:s[i]?=some c)(ap:w.contains c=true):Lib.containsAny s w=true:=by unfold Lib.containsAny;rw[Lib.indexAny_hit h ai ap];simp
def any_none{s w:aq}(h:Lib.NoAny s w s.length):Lib.containsAny s w=false:=by unfold Lib.containsAny;rw[Lib.indexAny_none h];rfl
def zpc(c:UInt8):sY.contains c=decide (c.toNat=47\/c.toNat=63\/c.toNat=38\/c.toNat=61\/c.toNat=37\/(65<=c.toNat/\c.toNat<=90)):=by
 have h:∀n:Fin 256,sY.contains (UInt8.ofNat n.val)=decide ((UInt8.ofNat n.val).toNat=47\/(UInt8.ofNat n.val).toNat=63\/(UInt8.ofNat n.val).toNat=38\/(UInt8.ofNat n.val).toNat=61\/(UInt8.ofNat n.val).toNat=37\/(65<=(UInt8.ofNat n.val).toNat/\(UInt8.ofNat n.val).toNat<=90)):=by decide +kernel
 have:=h ⟨c.toNat,c.toNat_lt⟩;simpa using this
def zpd(x:ep)(aw:x.fit):az prog 44 [.agg x.row] (.x (.one (.int .i64 (Da x)))):=by
 have aE:=zju x.name (by unfold ep.fit at aw;omega);obtain⟨R,aC⟩:∃R,R=Da x:=⟨_,rfl⟩
 rw[<-aC];unfold Da at aC;unfold ep.row;obtain⟨kind,name⟩:=x;dsimp only at*;refine az.bd f44 mixed fun aD=>?_;simp;refine⟨fun h=>by rw[aC,av h],fun aa d8=>?_⟩;rw[an (by omega)]at aC;have Ay:(name.isEmpty != (kind==5 ||kind==7))=!(decide (decide (kind=5\/kind=7)≠decide (name≠[]))):=by
  have ax:decide (kind=5\/kind=7)=(kind==5 ||kind==7):=by by_cases a:kind=5<;>by_cases b:kind=7<;>simp[a,b]
  have aK:decide (name≠[])=!name.isEmpty:=by cases name<;>simp
  rw[ax,aK];cases (kind==5 ||kind==7)<;>cases name.isEmpty<;>decide
 by_cases ay:decide (kind=5\/kind=7)≠decide (name≠[])
 ·rw[av ay]at aC;subst aC;rw[gw ay]at Ay;have Ay:(name.isEmpty != (kind==5 ||kind==7))=false:=Ay;rw[Ay];refine e7 true ?_;simp
 rw[an ay]at aC;rw[iI ay]at Ay;have Ay:(name.isEmpty != (kind==5 ||kind==7))=true:=Ay;rw[Ay];refine b_.of (fun _=>aE) rfl ?_;cases ad:lb [] name
 ·rw[av ad]at aC;subst aC;simp
 rw[an (by rw[ad];decide)]at aC;simp;have As:name.length<=300000000000000:=aw;refine ck.of Nat (fun i=>[(1,.box [.int .i64 kind,.str name]),(4,.x (.one (.int .i64 i)))]) (fun i=>i<=name.length/\Lib.NoAny name sY i) (fun i=>name.length-i) 0 ⟨cj _,Lib.NoAny.zero _ _⟩ ?_ ?_
 ·simp
 rintro i ⟨ah,cl⟩;by_cases ar:i<name.length
 ·have aS:((i:Int)<(name.length:Int))=True:=aY;have bC:=bc ((i:Int)+1);have ai:name[i]?=some name[i]:=cr ar;have hm:=zpc name[i];simp[ar,aS];refine⟨fun _ _ _ _ _=>⟨⟨⟨⟨⟨by assumption,by assumption⟩,by assumption⟩,by assumption⟩,by assumption⟩,fun _=>⟨⟨⟨⟨⟨by assumption,by assumption⟩,by assumption⟩,by assumption⟩,by assumption⟩,by assumption⟩⟩,fun h=>?_,fun a b c d e f=>?_⟩
  ·rw[gw (by omega)]at hm;rw[av (zpb cl ai hm)]at aC;exact aC
  ·rw[iI (by omega)]at hm;refine bt.of (i+1) ⟨ar,cl.succ ai hm⟩ (by omega) ?_;simp[bC]
 ·have aS:((i:Int)<(name.length:Int))=False:=a8;obtain rfl:i=name.length:=by omega
  rw[an (by rw[any_none cl];decide)]at aC;subst aC;simp[aS]
def zpe(q x:ep):0<=rG q x↔x.kind<q.kind\/(x.kind=q.kind/\(dD x.name q.name=true\/x.name=q.name)):=by
 have h:=Iz q.name x.name;have bv:dD q.name x.name=false->dD x.name q.name=false->q.name=x.name:=IU;have bj:dD q.name x.name=true->dD x.name q.name=false:=Y9;have ah:x.name=q.name->dD q.name x.name=false:=fun e=>by rw[e];exact z7 _
 have key:∀a b:Int,kP [a,b]=if a=0 then b else a:=by
  intro a b;simp only[kP];split
  ·split
   ·rename_i ad;exact ad.symm
   ·rfl
  ·rfl
 unfold rG;rw[key];rcases Int.lt_trichotomy q.kind x.kind with aa|aa|aa
 ·have ap:hY q.kind x.kind=-1:=by unfold hY;rw[av aa]
  rw[ap,an (by decide)];constructor
  ·intro h;omega
  ·intro h;omega
 ·have ap:hY q.kind x.kind=0:=by unfold hY;rw[an (by omega),an (by omega)]
  rw[ap,av rfl,h];cases ax:dD q.name x.name
  ·rw[an (by simp)];by_cases e:q.name=x.name
   ·rw[av e];exact⟨fun _=>.inr ⟨aa.symm,.inr e.symm⟩,fun _=>Int.le_refl _⟩
   ·rw[an e];cases aK:dD x.name q.name
    ·exact absurd (bv ax aK) e
    ·exact⟨fun _=>.inr ⟨aa.symm,.inl rfl⟩,fun _=>by decide⟩
  ·have aK:=bj ax;have cd:x.name≠q.name:=fun e=>by rw[ah e]at ax;cases ax
   rw[av rfl];constructor
   ·intro h;omega
   ·rintro (h|⟨_,h|h⟩)
    ·omega
    ·rw[aK]at h;cases h
    ·exact absurd h cd
 ·have ap:hY q.kind x.kind=1:=by unfold hY;rw[an (by omega),av aa]
  rw[ap,an (by decide)];exact⟨fun _=>.inl aa,fun _=>by decide⟩
def zpf(l:List ep)(aw:∀r∈l,r.fit):az prog 21 [.one (.list 2 (l.map ep.row))] (.x (.one (.int .i64 (qE l)))):=by
 obtain⟨R,aC⟩:∃R,R=qE l:=⟨_,rfl⟩
 rw[<-aC];unfold qE at aC;refine az.bd f21 mixed fun aD=>?_;by_cases Jp:50<l.length
 ·rw[av Jp]at aC;subst aC;have C8:((50:Int)<(l.length:Int))=True:=aY;simp[C8]
 rw[an Jp]at aC;have C8:((50:Int)<(l.length:Int))=False:=a8;simp[C8];refine ck.of Nat (fun i=>[(0,.x (.one (.list 2 (l.map ep.row)))),(3,.x (.one (.int .i64 i)))]) (fun i=>i<=l.length/\R=qD (kZ l i) (l.drop i)) (fun i=>l.length-i) 0 ⟨cj _,by simpa[kZ]using aC⟩ ?_ ?_
 ·simp
 rintro i ⟨ah,af⟩;by_cases ar:i<l.length;rotate_left
 ·have aS:((i:Int)<(l.length:Int))=False:=a8;obtain rfl:i=l.length:=by omega
  rw[wT]at af;have af:R=0:=by rw[af];unfold qD;rfl
  subst af;simp[aS]
 have a_:l[i].row=[.int .i64 l[i].kind,.str l[i].name]:=rfl;rw[zbf ar]at af;have bK:=zpa (kZ l i) l[i];have aE:=zpd l[i] (aw _ (hS ar));rw[a_]at aE;generalize Da l[i]=v at*;have gI:v≠0->R=v:=fun aF=>by rw[av aF]at bK;rw[bK,av aF]at af;exact af
 have yR:v=0->_:=fun aF=>bK.trans (an (by simp[aF]));clear bK;cases i with
 |zero=>
  have iZ:i64.wrap (-1)=-1:=by decide
  simp[ar,a_];refine aH.of aE ?_;by_cases aF:v=0;rotate_left
  ·have h1:(v=0)=False:=bz aF;obtain rfl:=gI aF;simp[h1]
  have aZ:=yR aF;have aZ:yI (kZ l 0) l[0]=0:=aZ;rw[aZ]at af;subst aF;have af:R=qD (kZ l 1) (l.drop 1):=af;simp[ar,a_,iZ];refine bt.of 1 ⟨ar,af⟩ (by omega) ?_;simp[show i64.wrap 1=1 by decide]
 |succ i=>
  have lp:i<l.length:=by omega
  have pC:i64.wrap (i:Int)=(i:Int):=bc _;have sZ:=bc ((i:Int)+1+1);have pD:l[i].row=[.int .i64 l[i].kind,.str l[i].name]:=rfl;have am:kZ l (i+1)=some l[i]:=cr lp;rw[am]at af yR;have iN:=zpe l[i] l[i+1];have DF:((i:Int)+1<(l.length:Int))=True:=aY;simp[ar,DF,a_];refine⟨by omega,aH.of aE ?_⟩;by_cases aF:v=0;rotate_left
  ·have h1:(v=0)=False:=bz aF;obtain rfl:=gI aF;simp[h1]
  have aZ:=yR aF;dsimp only at aZ;rw[aZ]at af;subst aF;simp[ar,DF,a_,lp,pC,sZ,pD];refine⟨by omega,fun h=>⟨h,by omega⟩,fun h ab=>⟨⟨h,ab⟩,by omega⟩,fun h=>⟨h,fun ab=>⟨h,ab⟩⟩,fun h=>?_,fun aa ab=>?_⟩
  ·rw[av (iN.2 h)]at af;exact af.trans (av (by decide))
  ·have aX:¬0<=rG l[i] l[i+1]:=fun h=>by
    rcases iN.1 h with h|⟨h,au⟩
    ·omega
    ·obtain⟨aN,bE⟩:=ab h;rcases au with au|au
     ·rw[aN]at au;cases au
     ·exact bE au
   rw[an aX]at af;refine bt.of (i+1+1) ⟨ar,af.trans (an (by decide))⟩ (by omega) ?_;simp
def vD(k:aq)(t d:Int):Int:=if j2 k=false then 3 else if fM t=false\/FX d=false then 1 else 0
def zpg(k:aq)(t d:Int):az prog 10 [.one (.str k),.one (.int .i64 t),.one (.int .i64 d)] (.x (.one (.int .i64 (vD k t d)))):=by
 obtain⟨R,aC⟩:∃R,R=vD k t d:=⟨_,rfl⟩
 rw[<-aC];unfold vD j2 ri at aC;have aE:=Rx (k.length:Int) 1 2000;have aQ:=Rx t 0 253402300799;have bf:=Rx d 0 1000000000000;have hm:fM t=dh 0 253402300799 t:=rfl;have aA:FX d=dh 0 1000000000000 d:=rfl;rw[hm,aA]at aC;generalize dh 0 253402300799 t=T at*;generalize dh 0 1000000000000 d=D at*;generalize dh 1 2000 (k.length:Int)=L at*;refine az.bd f10 mixed fun aD=>?_;have As:k.length<=maxLen:=by have:=aD _ kH;simp[aG.ok,ag.ok]at this;exact this
 unfold maxLen at As;simp;refine ck.of Nat (fun i=>[(0,.x (.one (.str k))),(1,.x (.one (.int .i64 t))),(2,.x (.one (.int .i64 d))),(7,.x (.one (.int .i64 i)))]) (ft rh k) (fun i=>k.length-i) 0 ft.zero ?_ ?_
 ·simp
 intro i ah;have cG:=ah.1;by_cases ar:i<k.length
 ·have aS:((i:Int)<(k.length:Int))=True:=aY;have bC:=bc ((i:Int)+1);have ai:k[i]?=some k[i]:=cr ar;simp[ar,aS];refine⟨fun h=>?_,fun aa ab=>bt.of (i+1) (ah.step ar ?_) (by omega) ?_⟩
  ·have am:oB k=false:=by
    unfold oB;rw[Iu];refine⟨k[i],hS ar,?_⟩;unfold rh;simp;omega
   rw[am,h7,av rfl]at aC;exact aC
  ·unfold rh;simp;omega
  ·simp[bC]
 ·have aS:((i:Int)<(k.length:Int))=False:=a8;obtain rfl:i=k.length:=by omega
  have am:oB k=true:=ah.done ar;rw[am,ig]at aC;simp[aS];refine aH.of aE ?_;cases L
  ·rw[av rfl]at aC;subst aC;simp
  rw[an (by decide)]at aC;simp;refine aH.of aQ ?_;cases T
  ·rw[av (.inl rfl)]at aC;subst aC;simp;refine e7 true ?_;simp
  ·simp;refine b_.of (fun _=>bf) rfl ?_;cases D
   ·rw[av (.inr rfl)]at aC;subst aC;simp
   ·rw[an (by decide)]at aC;subst aC;simp
def zcy{α:Type}{p:α->Bool}{l:List α}(h:∀j (ac:j<l.length),p l[j]=false):l.findIdx? p=none:=by rw[sF];intro x ai;obtain⟨j,ac,rfl⟩:=List.mem_iff_getElem.1 ai;exact h j ac
def Ui{α:Type}{p:α->Bool}{l:List α}{i:Nat}(ah:i<l.length)(h:p l[i]=true)(ab:∀j (ac:j<l.length),j<i->p l[j]=false):l.findIdx? p=some i:=by rw[kT];exact⟨ah,h,fun j ac=>by simp[ab j (by omega) ac]⟩
def oY(f:dT):List ag:=[.list 7 ((cE f.bytes).1.map Rec.row)]
def pF(f:dT):List ag:=[.list 3 ((cE f.bytes).2.1.map Mark.row)]
def AL(F:List dT)(c:dT->List ag):ag:=if F=[]then .nil else .list 1 (F.map c)
def Gf{F:List dT}{k:Nat}(c:dT->List ag)(h:k<F.length):AL F c=.list 1 (F.map c):=an (by intro e;rw[e]at h;cases h)
def c9.ly(s:c9):List ag:=[.list 9 (s.entries.map Entry.row),.list 2 (s.files.map dT.row),.list 2 (s.rules.map ep.row),AL s.files oY,AL s.files pF]
def zrU(s:c9)(n:aq)(al:s.files.length<=20):az prog 48 [.one (.ref s.ly),.one (.str n)] (.x (.one (.int .i64 (jN (fun f:dT=>f.name==n) s.files)))):=by
 unfold c9.ly;generalize AL s.files oY=zrV;generalize AL s.files pF=zrW;generalize s.rules.map ep.row=U;generalize s.entries.map Entry.row=E;generalize s.files=F at*;refine az.bd f48 mixed fun aD=>?_;simp;refine ck.of Nat (fun i=>[(0,.x (.one (.ref [.list 9 E,.list 2 (F.map dT.row),.list 2 U,zrV,zrW]))),(1,.x (.one (.str n))),(5,.x (.one (.int .i64 i)))])
  (fun i=>i<=F.length/\∀j (ac:j<F.length),j<i->(F[j].name==n)=false) (fun i=>F.length-i) 0 ⟨cj _,fun j _ h=>absurd h (Nat.not_lt_zero _)⟩ ?_ ?_
 ·simp
 rintro i ⟨ah,a6⟩;by_cases ar:i<F.length;rotate_left
 ·have aS:((i:Int)<(F.length:Int))=False:=a8;obtain rfl:i=F.length:=by omega
  have h:jN (fun f:dT=>f.name==n) F=-1:=by unfold jN;rw[zcy (fun j ac=>a6 j ac ac)]
  rw[h];simp[aS]
 have aS:((i:Int)<(F.length:Int))=True:=aY;have bC:=bc ((i:Int)+1);have a_:F[i].row=[.str F[i].name,b5 F[i].bytes]:=rfl;by_cases h:F[i].name=n
 ·have aa:jN (fun f:dT=>f.name==n) F=i:=by unfold jN;rw[Ui ar (by simp[h]) (fun j ac h=>a6 j ac h)]
  rw[aa];simp[ar,aS,a_,h]
 ·simp[ar,aS,a_,h];refine bt.of (i+1) ⟨ar,fun j ac fU=>?_⟩ (by omega) ?_
  ·by_cases e:j=i
   ·subst e;simpa using h
   ·exact a6 j ac (by omega)
  ·simp[bC]
def yV(e:Entry)(m:Mark):Bool:=decide ((m.aO:Int)=e.aO/\(m.ah:Int)=e.ah)
def n1(s:c9)(e:Entry):Rec×Int×Bool:=match s.files.findIdx? (fun f=>f.name==e.file)with
 |none=>(fS,-1,false)
 |some k=>match (cE (s.files[k]?.getD ⟨[],[]⟩).bytes).2.1.findIdx? (yV e)with
  |none=>(fS,k,false)
  |some i=>((cE (s.files[k]?.getD ⟨[],[]⟩).bytes).1[i]?.getD fS,k,true)
def c9.nf(s:c9):Prop:=s.files.length<=20/\∀f∈s.files,(cE f.bytes).2.1.length=(cE f.bytes).1.length/\(cE f.bytes).1.length<=1000
def zcz(s:c9)(e:Entry)(ay:s.nf):az prog 26 [.one (.ref s.ly),.agg e.row] (.b2 [.agg (n1 s e).1.row,.one (.int .i64 (n1 s e).2.1),.one (.bool (n1 s e).2.2)]):=by
 have aE:=zrU s e.file ay.1;obtain⟨R,aC⟩:∃R,R=n1 s e:=⟨_,rfl⟩
 rw[<-aC];have dW:=yA (fun f:dT=>f.name==e.file) s.files;unfold n1 at aC;have aZ:fS.row=[.int .i64 0,.str [],.str [],.int .i64 0,.str [],.list 2 [],.list 1 []]:=rfl;have a_:∀x:Rec,x.row=[.int .i64 x.kind,.str x.id,.str x.of,.int .i64 x.time,.str x.key,.list 2 (x.aT.map Head.row),b5 x.block]:=fun _=>rfl;have Uj:e.row=[.str e.key,.int .i64 e.time,.int .i64 e.status,.str e.type,.str e.ee,.str e.file,.int .i64 e.aO,.int .i64 e.ah,.bool e.same]:=rfl;have aw:=ay.2;unfold c9.ly at*;generalize s.rules.map ep.row=U at*;generalize s.entries.map Entry.row=E at*;generalize s.files=F at*;rw[Uj];rcases dW with⟨aa,ab⟩|⟨k,aa,ab,ak⟩
 ·rw[ab]at aC;subst aC;rw[aa]at aE;refine az.bd f26 mixed fun aD=>?_;simp;refine aH.of aE ?_;simp[aZ]
 rw[Gf _ ak,Gf _ ak]at*;refine az.bd f26 mixed fun aD=>?_;simp;refine aH.of aE ?_;rw[ab]at aC;rw[aa];have mR:F[k]?=some F[k]:=cr ak;dsimp only at aC;rw[mR,oa]at aC;obtain⟨f1,f2⟩:=aw F[k] (hS ak);have pl:((k:Int)<0)=False:=a8;have pA:oY F[k]=[.list 7 ((cE F[k].bytes).1.map Rec.row)]:=rfl;have r8:pF F[k]=[.list 3 ((cE F[k].bytes).2.1.map Mark.row)]:=rfl;generalize (cE F[k].bytes).1=L at*;generalize (cE F[k].bytes).2.1=M at*;simp[pl];refine ck.of Nat (fun i=>[(0,.x (.one (.ref [.list 9 E,.list 2 (F.map dT.row),.list 2 U,.list 1 (F.map oY),.list 1 (F.map pF)]))),(3,.box [.str e.key,.int .i64 e.time,.int .i64 e.status,.str e.type,.str e.ee,.str e.file,.int .i64 e.aO,.int .i64 e.ah,.bool e.same]),(4,.box [.int .i64 0,.str [],.str [],.int .i64 0,.str [],.nil,.nil]),(7,.x (.one (.int .i64 k))),(8,.x (.one (.int .i64 i)))])
  (fun i=>i<=M.length/\∀j (ac:j<M.length),j<i->yV e M[j]=false) (fun i=>M.length-i) 0 ⟨cj _,fun j _ h=>absurd h (Nat.not_lt_zero _)⟩ ?_ ?_
 ·simp
 rintro i ⟨ah,fK⟩;by_cases ar:i<M.length;rotate_left
 ·have aS:((i:Int)<(M.length:Int))=False:=a8;obtain rfl:i=M.length:=by omega
  rw[zcy (fun j ac=>fK j ac ac)]at aC;dsimp only at aC;subst aC;simp[ak,r8,aS,aZ]
 have aS:((i:Int)<(M.length:Int))=True:=aY;have bC:=bc ((i:Int)+1);have zcA:i<L.length:=by omega
 have zcB:M[i].row=[.str M[i].id,.int .i64 M[i].aO,.int .i64 M[i].ah]:=rfl;cases h:yV e M[i]
 ·simp[ak,pA,r8,ar,aS,zcB];have aX:(M[i].aO:Int)=e.aO->¬(M[i].ah:Int)=e.ah:=fun a c=>of_decide_eq_false h ⟨a,c⟩;refine⟨fun a c=>absurd c (aX a),fun _=>?_⟩;refine bt.of (i+1) ⟨ar,fun j ac fU=>?_⟩ (by omega) ?_
  ·by_cases e:j=i
   ·subst e;exact h
   ·exact fK j ac (by omega)
  ·simp[bC]
 ·have bx:=h;unfold yV at bx;obtain⟨m1,m2⟩:=vM bx;rw[Ui ar h fK]at aC;dsimp only at aC;rw[cr zcA,oa]at aC;subst aC;have kc:=a_ L[i];simp[ak,pA,r8,ar,aS,zcA,zcB,m1,m2,kc]
def zcC(L:List Rec)(w:aq)(x:hp×Int):Prop:=(x.2=0↔(w_ ⟨L,[]⟩ w).2=0)/\(x.2=0->x.1.hs=(w_ ⟨L,[]⟩ w).1.hs)
def zrX(s:c9)(e:Entry)(ay:s.nf){k:Nat}{r:Rec}(ak:k<s.files.length)(ao:n1 s e=(r,(k:Int),true))(aw:∀f∈s.files,kq (cE f.bytes).1=0) :
  ∃x,zcC (cE s.files[k].bytes).1 r.id x/\az prog 31 [.one (.ref s.ly),.agg e.row] (.b2 [.agg x.1.row,.one (.int .i64 x.2)]):=by
 have aE:=zcz s e ay;have a6:=aw s.files[k] (hS ak);have a_:∀x:Rec,x.row=[.int .i64 x.kind,.str x.id,.str x.of,.int .i64 x.time,.str x.key,.list 2 (x.aT.map Head.row),b5 x.block]:=fun _=>rfl;have NY:∀a:hp,a.row=[.int .i64 a.st,.str a.io,.list 2 (a.hs.map Head.row),b5 a.mt]:=fun _=>rfl;have Uj:e.row=[.str e.key,.int .i64 e.time,.int .i64 e.status,.str e.type,.str e.ee,.str e.file,.int .i64 e.aO,.int .i64 e.ah,.bool e.same]:=rfl;rw[ao,a_]at aE;dsimp only at aE;have aQ:=zrm (cE s.files[k].bytes).1 r.id (C1 a6).1 (C1 a6).2;have pA:oY s.files[k]=[.list 7 ((cE s.files[k].bytes).1.map Rec.row)]:=rfl;generalize (cE s.files[k].bytes).1=L at*;have bS:kW L r.id=w7 L (L.length+1) [] r.id:=by unfold kW;rw[an (by simp[a6])]
 rw[<-bS]at aQ;have aZ:hI.row=[.int .i64 0,.str [],.list 2 [],.list 1 []]:=rfl;obtain⟨x,ai,bf⟩:=zrN (kW L r.id).1;unfold NX at bf;unfold JJ at ai;have g9:w_ ⟨L,[]⟩ r.id=if (kW L r.id).2≠0 then (hI,(kW L r.id).2)else ((hc (kW L r.id).1).1,if 0<(hc (kW L r.id).1).2.2.1/\((hc (kW L r.id).1).2.2.2=15\/(hc (kW L r.id).1).2.2.2=3)then 0 else (hc (kW L r.id).1).2.2.2):=rfl
 unfold zcC;rw[g9];generalize kW L r.id=S at*;obtain⟨b,v⟩:=S;dsimp only at*;unfold fP at aQ;unfold c9.ly at*;rw[Gf _ ak,Gf _ ak]at*;generalize s.rules.map ep.row=U at*;generalize s.entries.map Entry.row=E at*;generalize s.files=F at*;rw[Uj]at*;by_cases aF:v=0;rotate_left
 ·refine⟨(hI,v),?_,?_⟩
  ·rw[av aF];exact⟨jB,fun _=>rfl⟩
  have h1:(v=0)=False:=bz aF;refine az.bd f31 mixed fun aD=>?_;simp;refine aH.of aE ?_;simp[ak,pA];refine aH.of aQ ?_;simp[h1,aZ]
 subst aF;rw[an (by simp)];obtain⟨aa,ab⟩:=ai;unfold rM at aa;unfold lZ at aa ab;generalize hc b=Y at*;obtain⟨A,b6,at',f⟩:=x;dsimp only at*;rw[NY]at bf;have fin:az prog 31 [.one (.ref [.list 9 E,.list 2 (F.map dT.row),.list 2 U,.list 1 (F.map oY),.list 1 (F.map pF)]),.agg [.str e.key,.int .i64 e.time,.int .i64 e.status,.str e.type,.str e.ee,.str e.file,.int .i64 e.aO,.int .i64 e.ah,.bool e.same]] (.b2 [.agg A.row,.one (.int .i64 (if f=15\/f=3/\0<at' then 0 else f))]):=by
  rw[NY];refine az.bd f31 mixed fun aD=>?_;simp;refine aH.of aE ?_;simp[ak,pA];refine aH.of aQ ?_;simp;refine aH.of bf ?_;by_cases bw:f=15
  ·subst bw;rw[av (.inl rfl)];simp
  have c7:(f=15)=False:=bz bw;by_cases bA:f=3
  ·subst bA;by_cases cJ:0<at'
   ·have jH:(0<at')=True:=bW cJ;rw[av (.inr ⟨rfl,cJ⟩)];simp[jH]
   ·have jH:(0<at')=False:=bz cJ;rw[an (by simp[cJ])];simp[jH]
  have eU:(f=3)=False:=bz bA;rw[an (by simp[bw,bA])];simp[c7,eU]
 refine⟨(A,if f=15\/f=3/\0<at' then 0 else f),?_,fin⟩;dsimp only;have au:(if f=15\/f=3/\0<at' then (0:Int)else f)=0↔(f=15\/f=3/\0<at'\/f=0):=by
  split
  ·rename_i h;exact⟨fun _=>by rcases h with h|h;exact .inl h;exact .inr (.inl h),fun _=>rfl⟩
  ·rename_i h;exact⟨fun h=>.inr (.inr h),fun q=>by
    rcases q with q|q|q
    ·exact absurd (.inl q) h
    ·exact absurd (.inr q) h
    ·exact q⟩
 exact⟨au.trans aa,fun h=>ab ((au.trans aa).1 h)⟩
end
section
variable [bn]
def zls(l:List Entry)(k:aq)(t way:Int)(ad:l.length<=3000)(bv:R1 (j7 l k))(a1:0<=t/\t<=253402300799)(hw:way=1\/way=2\/way=3) :
  az prog 30 [entries l,.one (.str k),.one (.int .i64 t),.one (.int .i64 way)] (.b2 [.agg ((sD (j7 l k) t way).getD vp).row,.one (.bool (sD (j7 l k) t way).isSome)]):=by
 refine az.bd f30 mixed fun aD=>?_;simp +contextual[-Bool.and_eq_false_imp];refine aH.of (zkx l k ad) ?_;have nx:=RV l k;generalize j7 l k=m at bv nx;simp +contextual[-Bool.and_eq_false_imp];refine ck.of (Nat×Option Entry) (fun x=>[(2,.x (.one (.int .i64 t))),(3,.x (.one (.int .i64 way))),(8,.box vp.row),(10,.box ((x.2).getD vp).row),(11,.x (.one (.bool x.2.isSome))),(16,.x (entries m)),(17,.x (.one (.int .i64 m.length))),(18,.x (.one (.int .i64 x.1)))])
  (fun x=>x.1<=m.length/\x.2=sD (m.take x.1) t way) (fun x=>m.length-x.1) (0,none) ⟨cj _,rfl⟩ ?_ ?_
 ·simp[mo]
 rintro⟨i,o⟩ ⟨ah,aB⟩;simp only at ah aB;by_cases ar:i<m.length
 ·have ot:m.take (i+1)=m.take i++[m[i]]:=by rw[Co,cr ar];rfl
  have ko:sD (m.take (i+1)) t way=ld t way o m[i]:=by rw[ot,R0,<-aB]
  have wt:=bv _ (hS ar);have bC:=bc ((i:Int)+1);have Bz:∀x,o=some x->x∈m:=by
   have:∀(p:List Entry),(∀x∈p,x∈m)->∀x,sD p t way=some x->x∈m:=by
    intro p;refine MF (P:=fun p=>(∀x∈p,x∈m)->∀x,sD p t way=some x->x∈m) ?_ ?_ p
    ·intro _ x h;cases h
    ·intro p e ba am x h;rw[R0]at h;have ML:=ba (fun x ai=>am x (by simp[ai]));unfold ld at h;split at h
     ·exact ML x h
     ·split at h
      ·injection h with h;rw[<-h];exact am e (by simp)
      ·rename_i y aU;split at h
       ·injection h with h;rw[<-h];exact am e (by simp)
       ·injection h with h;rw[<-h];exact ML y aU
   intro x ai;exact this (m.take i) (fun y aU=>v7 aU) x (by rw[<-aB];exact ai)
  have tY:∀(xs:List aG) (K:bH->Prop),K (.x (.one (.int .i64 0)))->@b_ _ prog false 50 xs ⟨K⟩:=fun xs K ct=>b_.of (fun h=>by cases h) rfl ct;by_cases hs:(way=2/\t<m[i].time)\/(way=3/\m[i].time<t)
  ·have bK:ld t way o m[i]=o:=by unfold ld;rw[av hs]
   rw[bK]at ko;rcases hs with⟨rfl,hs⟩|⟨rfl,hs⟩
   ·simp +contextual[-Bool.and_eq_false_imp,ar,hs];refine bt.of (i+1,o) ⟨ar,ko.symm⟩ (by simp only;omega) ?_;simp[bC]
   ·simp +contextual[-Bool.and_eq_false_imp,ar,hs];refine bt.of (i+1,o) ⟨ar,ko.symm⟩ (by simp only;omega) ?_;simp[bC]
  ·have bK:ld t way o m[i]=match o with|none=>some m[i]|some x=>if m[i].time=x.time\/fD m[i].time t<fD x.time t then some m[i]else some x:=by unfold ld;rw[an hs];cases o<;>rfl
   rw[bK]at ko;have bA:way=2->(t<m[i].time)=False:=fun h=>by simp;omega
   have cJ:way=3->(m[i].time<t)=False:=fun h=>by simp;omega
   cases o with
   |none=>
    rcases hw with rfl|rfl|rfl
    ·simp +contextual[-Bool.and_eq_false_imp,ar];refine tY _ _ ?_;simp +contextual[-Bool.and_eq_false_imp];refine tY _ _ ?_;simp +contextual[-Bool.and_eq_false_imp];refine bt.of (i+1,some m[i]) ⟨ar,ko.symm⟩ (by simp only;omega) ?_;simp[bC]
    ·simp +contextual[-Bool.and_eq_false_imp,ar,bA rfl];refine tY _ _ ?_;simp +contextual[-Bool.and_eq_false_imp];refine tY _ _ ?_;simp +contextual[-Bool.and_eq_false_imp];refine bt.of (i+1,some m[i]) ⟨ar,ko.symm⟩ (by simp only;omega) ?_;simp[bC]
    ·simp +contextual[-Bool.and_eq_false_imp,ar,cJ rfl];refine tY _ _ ?_;simp +contextual[-Bool.and_eq_false_imp];refine tY _ _ ?_;simp +contextual[-Bool.and_eq_false_imp];refine bt.of (i+1,some m[i]) ⟨ar,ko.symm⟩ (by simp only;omega) ?_;simp[bC]
   |some x=>
    have ai:=bv x (Bz x rfl);by_cases c:m[i].time=x.time
    ·have nQ:(m[i].time==x.time)=true:=by simp[c]
     simp only[bW c,true_or,gW]at ko;rcases hw with rfl|rfl|rfl
     ·simp +contextual[-Bool.and_eq_false_imp,ar,nQ];refine tY _ _ ?_;simp +contextual[-Bool.and_eq_false_imp];refine tY _ _ ?_;simp +contextual[-Bool.and_eq_false_imp];refine bt.of (i+1,some m[i]) ⟨ar,ko.symm⟩ (by simp only;omega) ?_;simp[bC]
     ·simp +contextual[-Bool.and_eq_false_imp,ar,nQ,bA rfl];refine tY _ _ ?_;simp +contextual[-Bool.and_eq_false_imp];refine tY _ _ ?_;simp +contextual[-Bool.and_eq_false_imp];refine bt.of (i+1,some m[i]) ⟨ar,ko.symm⟩ (by simp only;omega) ?_;simp[bC]
     ·simp +contextual[-Bool.and_eq_false_imp,ar,nQ,cJ rfl];refine tY _ _ ?_;simp +contextual[-Bool.and_eq_false_imp];refine tY _ _ ?_;simp +contextual[-Bool.and_eq_false_imp];refine bt.of (i+1,some m[i]) ⟨ar,ko.symm⟩ (by simp only;omega) ?_;simp[bC]
    ·have nQ:(m[i].time==x.time)=false:=by simp[c]
     simp only[bz c,false_or]at ko;rcases hw with rfl|rfl|rfl
     ·simp +contextual[-Bool.and_eq_false_imp,ar,nQ];refine b_.of (fun _=>Fs _ _ wt a1) rfl ?_;simp +contextual[-Bool.and_eq_false_imp];refine b_.of (fun _=>Fs _ _ ai a1) rfl ?_;simp +contextual[-Bool.and_eq_false_imp];refine⟨fun aA=>?_,fun aA=>?_⟩
      ·rw[av aA]at ko;refine bt.of (i+1,some m[i]) ⟨ar,ko.symm⟩ (by simp only;omega) ?_;simp[bC]
      ·rw[an (by omega)]at ko;refine bt.of (i+1,some x) ⟨ar,ko.symm⟩ (by simp only;omega) ?_;simp[bC]
     ·simp +contextual[-Bool.and_eq_false_imp,ar,nQ,bA rfl];refine b_.of (fun _=>Fs _ _ wt a1) rfl ?_;simp +contextual[-Bool.and_eq_false_imp];refine b_.of (fun _=>Fs _ _ ai a1) rfl ?_;simp +contextual[-Bool.and_eq_false_imp];refine⟨fun aA=>?_,fun aA=>?_⟩
      ·rw[av aA]at ko;refine bt.of (i+1,some m[i]) ⟨ar,ko.symm⟩ (by simp only;omega) ?_;simp[bC]
      ·rw[an (by omega)]at ko;refine bt.of (i+1,some x) ⟨ar,ko.symm⟩ (by simp only;omega) ?_;simp[bC]
     ·simp +contextual[-Bool.and_eq_false_imp,ar,nQ,cJ rfl];refine b_.of (fun _=>Fs _ _ wt a1) rfl ?_;simp +contextual[-Bool.and_eq_false_imp];refine b_.of (fun _=>Fs _ _ ai a1) rfl ?_;simp +contextual[-Bool.and_eq_false_imp];refine⟨fun aA=>?_,fun aA=>?_⟩
      ·rw[av aA]at ko;refine bt.of (i+1,some m[i]) ⟨ar,ko.symm⟩ (by simp only;omega) ?_;simp[bC]
      ·rw[an (by omega)]at ko;refine bt.of (i+1,some x) ⟨ar,ko.symm⟩ (by simp only;omega) ?_;simp[bC]
 ·simp[ar];rw[show m.take i=m from k4 (by omega)]at aB;subst aB;exact⟨zfS rfl,rfl⟩
end
section
variable [bn][c1 0][cF prog]
def zcD(e:Entry)(t:Int)(aa:0<=e.time/\e.time<=253402300799)(ab:0<=t/\t<=253402300799):az prog 29 [.one (.int .i64 e.time),.one (.int .i64 t)] (.x (.one (.int .i64 (fD e.time t)))):=by have ds:=bc (e.time-t);have dV:=bc (t-e.time);refine az.bd f29 mixed fun aD=>?_;simp[ds,dV];unfold fD;omega
def Uk(l:List Entry)(k:aq)(t way:Int)(eW:iq l=0)(ak:j2 k=true)(bv:fM t=true)(hw:way=1\/way=2\/way=3) :
  az prog 30 [entries l,.one (.str k),.one (.int .i64 t),.one (.int .i64 way)] (.b2 [.agg ((lv l k t way).getD vp).row,.one (.bool (lv l k t way).isSome)]):=by
 have hm:=bv;unfold fM dh at hm;rw[b7,mA,mA]at hm;obtain⟨aa,ab⟩:=R2 k eW;have aX:lv l k t way=sD (j7 l k) t way:=by
  have a1:Av l k t way=0:=by unfold Av z_;rcases hw with rfl|rfl|rfl<;>simp[eW,ak,bv,dh]
  unfold lv;rw[av a1,zky hw _ ab]
 rw[aX];exact zls l k t way (Mw eW) aa hm hw
def zrY(s:c9)(k:aq)(t d:Int)(eW:iq s.entries=0)(ak:j2 k=true)(bv:fM t=true):az prog 28 [.one (.ref s.ly),.one (.str k),.one (.int .i64 t),.one (.int .i64 d)] (.b2 [.agg ((vC s.entries k t d).getD vp).row,.one (.bool (vC s.entries k t d).isSome)]):=by
 have aE:=Uk s.entries k t 1 eW ak bv (.inl rfl);have hs:=fun e=>Nq (l:=s.entries) (k:=k) (t:=t) (way:=1) (e:=e);unfold vC;generalize lv s.entries k t 1=o at*;have a_:∀e:Entry,e.row=[.str e.key,.int .i64 e.time,.int .i64 e.status,.str e.type,.str e.ee,.str e.file,.int .i64 e.aO,.int .i64 e.ah,.bool e.same]:=fun _=>rfl;unfold entries at aE;unfold c9.ly at*;cases o with
 |none=>dsimp only;simp only[FY]at aE⊢;refine az.bd f28 mixed fun aD=>?_;simp;refine aH.of aE ?_;simp;refine gH 0 ?_;simp[mo]
 |some e=>
  obtain⟨_,aa,ab,_⟩:=hs e rfl;have aQ:=zcD e t ab aa;rw[oa,a_]at aE;dsimp only;refine az.bd f28 mixed fun aD=>?_;simp;refine aH.of aE ?_;simp;refine b_.of (fun _=>aQ) rfl ?_;by_cases aA:d<fD e.time t
  ·have e2:(d<fD e.time t)=True:=bW aA;rw[av aA];simp[e2,mo]
  ·have e2:(d<fD e.time t)=False:=bz aA;rw[an aA];simp[e2,a_]
def Gg(hs:List Head)(t:Int):Bool:=match dC hs uh with
 |v::_=>hn v&&decide (t<h9 v)
 |[]=>false
def zrZ(a:hp)(t:Int)(al:a.hs.length<=1000000000):az prog 32 [.agg a.row,.one (.int .i64 t)] (.x (.one (.bool (Gg a.hs t)))):=by
 have aE:=C5 a.hs uh al;unfold Gg;generalize dC a.hs uh=V at*;have a_:a.row=[.int .i64 a.st,.str a.io,.list 2 (a.hs.map Head.row),b5 a.mt]:=rfl;rw[a_];unfold uh at aE;refine az.bd f32 mixed fun aD=>?_;simp;refine aH.of aE ?_;cases V with
 |nil=>simp
 |cons v r=>
  have bf:=zbX v;have aa:((r.length:Int)+1=0)=False:=a8;simp[aa];refine aH.of bf ?_;cases ao:hn v
  ·simp[ao]
  ·simp[ao]
def zsa(s:c9)(m:iv)(k:aq)(t d:Int)(eW:iq s.entries=0)(ak:j2 k=true)(bv:fM t=true)
  (ct:∀e∈s.entries,∃x:hp×Int,(x.2=0->x.1.hs.length<=1000000000)/\(if x.2≠0 then false else Gg x.1.hs t)=Ax m e t/\az prog 31 [.one (.ref s.ly),.agg e.row] (.b2 [.agg x.1.row,.one (.int .i64 x.2)])) :
  az prog 11 [.one (.ref s.ly),.one (.str k),.one (.int .i64 t),.one (.int .i64 d)] (.x (.agg (yQ s m k t d).row)):=by
 have aE:=zrY s k t d eW ak bv;have aQ:=Uk s.entries k t 2 eW ak bv (.inr (.inl rfl));have bf:=Uk s.entries k t 3 eW ak bv (.inr (.inr rfl));have hs:=fun e=>zbp (l:=s.entries) (k:=k) (t:=t) (d:=d) (e:=e);unfold yQ;generalize vC s.entries k t d=o at*;generalize lv s.entries k t 2=b at*;generalize lv s.entries k t 3=a at*;have a_:∀e:Entry,e.row=[.str e.key,.int .i64 e.time,.int .i64 e.status,.str e.type,.str e.ee,.str e.file,.int .i64 e.aO,.int .i64 e.ah,.bool e.same]:=fun _=>rfl;unfold entries at aQ bf;unfold c9.ly at*;cases o with
 |none=>dsimp only;simp only[FY]at aE;unfold rK.row;refine az.bd f11 mixed fun aD=>?_;simp;refine aH.of aE ?_;simp[mo]
 |some e=>
  obtain⟨aX,aA⟩:=hs e rfl;obtain⟨he,aa,ab,_⟩:=Nq aX;have bM:=zcD e t ab aa;obtain⟨⟨A,f⟩,cH,dl,dz⟩:=ct e he;dsimp only at cH dl;rw[oa]at aE;rw[a_]at aE aQ bf dz;have NY:A.row=[.int .i64 A.st,.str A.io,.list 2 (A.hs.map Head.row),b5 A.mt]:=rfl;have iV:=fun h=>zrZ A t (cH h);rw[NY]at dz iV;dsimp only;unfold rK.row To;rw[<-dl];generalize Gg A.hs t=L at*;generalize fD e.time t=D at*;generalize lW:(if D=0 then (1:Int)else if oV b a=true/\e.time<t then 2 else if oV b a=true then 3 else if t<e.time/\(if f≠0 then false else L)=true then 5 else 4)=Z;refine @az.of _ (x7 [16] [] []) _ _ _ _ _ mixed (fn:=f11) (by kernel_rfl) (by kernel_rfl) rfl (by kernel_rfl) (by simp[f11]) (fun aD=>?_);simp;refine aH.of aE ?_;simp;refine m_.l ⟨by kernel_rfl,?_⟩;simp;refine aH.of bM ?_;simp;by_cases c0:D=0
  ·subst c0;rw[av rfl]at lW;subst lW;simp
  rw[an c0]at lW;have ui:(D=0)=False:=bz c0;simp[ui];refine aH.of aQ ?_;simp;refine aH.of bf ?_;apply b0.share (ι:=Unit) (fun _=>[(0,.x (.one (.ref [.list 9 (s.entries.map Entry.row),.list 2 (s.files.map dT.row),.list 2 (s.rules.map ep.row),AL s.files oY,AL s.files pF]))),(2,.x (.one (.int .i64 t))),(8,.box [.str [],.int .i64 0,.int .i64 0,.int .i64 0,.int .i64 0]),(9,.box [.str k,.int .i64 0,.int .i64 4,.int .i64 e.time,.int .i64 D]),(10,.box [.str e.key,.int .i64 e.time,.int .i64 e.status,.str e.type,.str e.ee,.str e.file,.int .i64 e.aO,.int .i64 e.ah,.bool e.same])]) (fun _=>oV b a=false)
  ·intro K;cases b with
   |none=>simp only[FY,mo];simp;refine b0.fL ?_ (K () rfl);simp
   |some b=>cases a with
    |none=>simp only[FY,oa,mo,a_];simp;refine b0.fL ?_ (K () rfl);simp
    |some a=>
     simp only[oa];by_cases aA:b.ee=a.ee
     ·have hs:oV (some b) (some a)=true:=by simp[oV,aA]
      rw[hs]at lW;by_cases al:e.time<t
      ·have dK:(e.time<t)=True:=bW al;rw[av ⟨rfl,al⟩]at lW;subst lW;simp[aA,dK]
      ·have dK:(e.time<t)=False:=bz al;rw[an (by simp[al]),av rfl]at lW;subst lW;simp[aA,dK]
     ·have e2:(b.ee=a.ee)=False:=bz aA;simp[e2];have hs:oV (some b) (some a)=false:=by simp[oV,aA]
      refine b0.fL ?_ (K () hs);simp
  ·rintro-tl;rw[tl,an (by simp),an (by simp)]at lW;simp;refine aH.of dz ?_;by_cases ay:t<e.time;rotate_left
   ·have dO:(t<e.time)=False:=bz ay;rw[an (by intro h;exact ay h.1)]at lW;subst lW;simp[dO];refine e7 true ?_;simp
   have dO:(t<e.time)=True:=bW ay;by_cases aw:f=0;rotate_left
   ·have hC:(f=0)=False:=bz aw;rw[an (by rw[av aw];simp)]at lW;subst lW;simp[dO,hC];refine b_.of (fun h=>by simp[aw]at h) (r:=.x (.one (.bool true))) rfl ?_;simp[hC]
   subst aw;have iV:=iV rfl;rw[an (show ¬((0:Int)≠0) by simp)]at lW;simp[dO];refine b_.of (fun _=>iV) rfl ?_;cases L
   ·rw[an (by simp)]at lW;subst lW;simp
   ·rw[av ⟨ay,rfl⟩]at lW;subst lW;simp
def vH(s:c9):List Entry->Int
 |[]=>0
 |e::r=>if (n1 s e).2.1<0 then 9 else if (n1 s e).2.2=false\/(n1 s e).1.key≠e.key\/(n1 s e).1.time≠e.time then 12 else vH s r
def zsb{s:c9}{l:List Entry}{i:Nat}(h:i<l.length):vH s (l.drop i)=if (n1 s l[i]).2.1<0 then 9 else if (n1 s l[i]).2.2=false\/(n1 s l[i]).1.key≠l[i].key\/(n1 s l[i]).1.time≠l[i].time then 12 else vH s (l.drop (i+1)):=by rw[jw h];rfl
def n2(s:c9):Int:=
 if qE s.rules≠0 then qE s.rules
 else if 20<s.files.length then 2
 else if (gj none [] s.files).2≠0 then (gj none [] s.files).2
 else if iq s.entries≠0 then iq s.entries
 else vH s s.entries
def Gh(s:c9):ag:=if n2 s=0 then .ref s.ly else .atom (.pointer none)
def JM:∀(F:List dT) (p:Option (aq)) (m:iv),(gj p m F).2=0->∀f∈F,(cE f.bytes).2.2.2=0
 |[],_,_,_,f,aw=>by cases aw
 |x::r,p,m,h,f,aw=>by
  unfold gj at h;split at h
  ·cases h
  split at h
  ·cases h
  split at h
  ·rename_i au;exact absurd h au
  rename_i au;rcases fp.1 aw with rfl|aw
  ·exact nY au
  ·exact JM r _ _ h f aw
def zcE{s:c9}(al:¬20<s.files.length)(h:(gj none [] s.files).2=0):s.nf/\∀f∈s.files,kq (cE f.bytes).1=0:=
 ⟨⟨by omega,fun f aw=>⟨(Ap (JM _ _ _ h f aw)).2,(C1 (Ap (JM _ _ _ h f aw)).1).1⟩⟩,fun f aw=>(Ap (JM _ _ _ h f aw)).1⟩
def uq(E R:List (List ag))(F:List dT)(i:Nat):List (Nat×ae):=
 [(1,.box [.list 9 E,.list 2 (F.map dT.row),.list 2 R]),(5,.ptr 29 0),(6,.x (.one (.int .i64 i))),(999999,.res [(29,3),(29,4)])] ++
 (match i with
 |0=>[(29,.box [.list 9 E,.list 2 (F.map dT.row),.list 2 R,.nil,.nil])]
 |i+1=>[(29,.box [.list 9 E,.list 2 (F.map dT.row),.list 2 R,.any,.any]),(97,.own 69 1 ((F.take (i+1)).map oY)),(107,.own 72 1 ((F.take (i+1)).map pF)),(1029003,.link 29 3 97),(1029004,.link 29 4 107)])
def zsc(s:c9)(hs:s.fit):az prog 9 [.agg s.cs] (.b2 [.one (Gh s),.one (.int .i64 (n2 s))]):=by
 have aE:=zpf s.rules hs;have aQ:=zjI s.entries;have zsd:=fun e ay=>zcz s e ay;obtain⟨V,dB⟩:∃V,V=Gh s:=⟨_,rfl⟩
 obtain⟨O,dM⟩:∃O,O=n2 s:=⟨_,rfl⟩
 unfold Gh at dB;rw[<-dM]at dB;show az prog 9 [.agg [.list 9 (s.entries.map Entry.row),.list 2 (s.files.map dT.row),.list 2 (s.rules.map ep.row)]] (.b2 [.one (Gh s),.one (.int .i64 (n2 s))])
 unfold Gh;rw[<-dM,<-dB];unfold n2 at dM;refine @az.E2 _ (x7 [14,22] [] []) [(29,3),(29,4)] [] _ _ _ _ _ (by simp) mixed (fn:=f9) (by kernel_rfl) (by kernel_rfl) rfl (by kernel_rfl) (by simp[f9]) (fun aD=>?_);simp;refine aH.of aE ?_;by_cases aa:qE s.rules=0;rotate_left
 ·rw[av aa]at dM;rw[dM,an aa]at dB;subst dB;have dd:(qE s.rules=0)=False:=bz aa;simp[dd,dM]
 rw[an (by simp[aa])]at dM;rw[aa];by_cases ab:20<s.files.length
 ·rw[av ab]at dM;rw[dM,an (by decide)]at dB;subst dB;have ny:((20:Int)<(s.files.length:Int))=True:=aY;simp[ny,dM]
 rw[an ab]at dM;have ny:((20:Int)<(s.files.length:Int))=False:=a8;simp[ny];refine ck.of Nat (uq (s.entries.map Entry.row) (s.rules.map ep.row) s.files)
  (fun i=>i<=s.files.length/\gj none [] s.files=gj (oU s.files i) (fF (s.files.take i)) (s.files.drop i)) (fun i=>s.files.length-i) 0 ⟨cj _,by simp[oU,fF]⟩ ?_ ?_
 ·unfold uq;simp
 have gI:∀x:Int,x≠0->(gj none [] s.files).2=x->O=x/\V=.atom (.pointer none):=by intro x ai h;rw[h,av ai]at dM;subst dM;rw[an ai]at dB;exact⟨rfl,dB⟩
 rintro i ⟨ah,a6⟩;by_cases ar:i<s.files.length;rotate_left
 ·have xo:i=s.files.length:=by omega
  have aS:((i:Int)<(s.files.length:Int))=False:=a8;rw[xo,wT]at a6;have au:(gj none [] s.files).2=0:=by rw[a6];rfl
  rw[an (by simp[au])]at dM;have yR:=zcE ab au;apply b0.share (ι:=Unit) (fun _=>[(1,.box [.list 9 (s.entries.map Entry.row),.list 2 (s.files.map dT.row),.list 2 (s.rules.map ep.row)]),(5,.elem s.ly)]) (fun _=>True)
  ·intro K;cases i with
   |zero=>
    have pX:s.files=[]:=n5 xo.symm;have al:(s.files.length:Int)=0:=by omega
    have ap:s.ly=[.list 9 (s.entries.map Entry.row),.list 2 (s.files.map dT.row),.list 2 (s.rules.map ep.row),.nil,.nil]:=by unfold c9.ly AL;rw[av pX,av pX]
    rw[ap]at K;unfold uq;simp[al];refine b0.fold 29 3 (b0.fold 29 4 (b0.freeze [29] ?_));refine b0.fL ?_ (K () trivial);simp
   |succ i=>
    have aS:((i:Int)+1<(s.files.length:Int))=False:=a8;have ap:s.ly=[.list 9 (s.entries.map Entry.row),.list 2 (s.files.map dT.row),.list 2 (s.rules.map ep.row),.list 1 (s.files.map oY),.list 1 (s.files.map pF)]:=by unfold c9.ly;rw[Gf _ (show i<s.files.length by omega),Gf _ (show i<s.files.length by omega)]
    have bv:s.files.take (i+1)=s.files:=k4 (by omega);rw[ap]at K;unfold uq;dsimp only;rw[bv];simp[aS];refine b0.fold 29 3 (b0.fold 29 4 (b0.freeze [29] ?_));refine b0.fL ?_ (K () trivial);simp
  ·rintro - -;simp;refine aH.of aQ ?_;by_cases aN:iq s.entries=0;rotate_left
   ·rw[av aN]at dM;subst dM;rw[an aN]at dB;subst dB;have kB:(iq s.entries=0)=False:=bz aN;simp[kB]
   rw[an (by simp[aN])]at dM;rw[aN];simp;have a_:∀x:Rec,x.row=[.int .i64 x.kind,.str x.id,.str x.of,.int .i64 x.time,.str x.key,.list 2 (x.aT.map Head.row),b5 x.block]:=fun _=>rfl;refine ck.of Nat (fun i=>[(1,.box [.list 9 (s.entries.map Entry.row),.list 2 (s.files.map dT.row),.list 2 (s.rules.map ep.row)]),(5,.elem s.ly),(12,.x (.one (.int .i64 i)))])
    (fun i=>i<=s.entries.length/\vH s s.entries=vH s (s.entries.drop i)) (fun i=>s.entries.length-i) 0 ⟨cj _,rfl⟩ ?_ ?_
   ·simp
   rintro i ⟨ah,en⟩;by_cases ar:i<s.entries.length;rotate_left
   ·have aS:((i:Int)<(s.entries.length:Int))=False:=a8;obtain rfl:i=s.entries.length:=by omega
    rw[wT]at en;have en:vH s s.entries=0:=en;rw[en]at dM;subst dM;rw[av rfl]at dB;subst dB;simp[aS]
   rw[zsb ar]at en;have aS:((i:Int)<(s.entries.length:Int))=True:=aY;have bC:i64.wrap ((i:Int)+1)=(i:Int)+1:=lR _ (by have:=Mw aN;omega);have Aw:s.entries[i].row=[.str s.entries[i].key,.int .i64 s.entries[i].time,.int .i64 s.entries[i].status,.str s.entries[i].type,.str s.entries[i].ee,.str s.entries[i].file,.int .i64 s.entries[i].aO,.int .i64 s.entries[i].ah,.bool s.entries[i].same]:=rfl;have iV:=zsd s.entries[i] yR.1;have NZ:∀x:Int,x≠0->vH s s.entries=x->O=x/\V=.atom (.pointer none):=by intro x ai h;rw[h]at dM;subst dM;rw[an ai]at dB;exact⟨rfl,dB⟩
   rw[a_,Aw]at iV;generalize n1 s s.entries[i]=Q at*;obtain⟨r,k,B⟩:=Q;dsimp only at iV en;simp[ar,aS,Aw];refine aH.of iV ?_;by_cases ak:k<0
   ·rw[av ak]at en;obtain⟨rfl,rfl⟩:=NZ 9 (by decide) en;have dx:(k<0)=True:=bW ak;simp[dx]
   rw[an ak]at en;have dx:(k<0)=False:=bz ak;cases B
   ·rw[av (.inl rfl)]at en;obtain⟨rfl,rfl⟩:=NZ 12 (by decide) en;simp[dx]
   by_cases bw:r.key=s.entries[i].key;rotate_left
   ·rw[av (.inr (.inl bw))]at en;obtain⟨rfl,rfl⟩:=NZ 12 (by decide) en;have c7:(r.key=s.entries[i].key)=False:=bz bw;simp[dx,c7]
   by_cases bA:r.time=s.entries[i].time;rotate_left
   ·rw[av (.inr (.inr bA))]at en;obtain⟨rfl,rfl⟩:=NZ 12 (by decide) en;have eU:(r.time=s.entries[i].time)=False:=bz bA;simp[dx,bw,eU]
   rw[an (by simp[bw,bA])]at en;simp[dx,bw,bA];refine bt.of (i+1) ⟨ar,en⟩ (by omega) ?_;simp[bC]
 rw[zbi ar]at a6;have Mn:=Js ar;rw[<-Mn]at a6;cases i with
 |zero=>
  have aS:((0:Int)<(s.files.length:Int))=True:=aY;have a_:s.files[0].row=[.str s.files[0].name,b5 s.files[0].bytes]:=rfl;have bf:=ID s.files[0].name;have bM:=zcj s.files[0].bytes;have dz:=zck s.files[0].bytes;have pA:oY s.files[0]=[.list 7 ((cE s.files[0].bytes).1.map Rec.row)]:=rfl;have r8:pF s.files[0]=[.list 3 ((cE s.files[0].bytes).2.1.map Mark.row)]:=rfl;unfold fP at bM;unfold rB at dz;unfold uq;simp[ar,a_];refine aH.of bf ?_;cases aX:kl s.files[0].name
  ·rw[av aX]at a6;obtain⟨rfl,rfl⟩:=gI 5 (by decide) (by rw[a6]);simp
  rw[an (by rw[aX];decide)]at a6;have al:¬ug (oU s.files 0) s.files[0].name=true:=by simp[oU,ug]
  rw[an al]at a6;have iZ:i64.wrap (-1)=-1:=by decide
  simp[ar,a_,iZ];refine b0.fL (l:=uq (s.entries.map Entry.row) (s.rules.map ep.row) s.files 0) ?_ ?_
  ·unfold uq;simp
  unfold uq;simp[ar,a_];generalize cE s.files[0].bytes=D at*;obtain⟨L,M,at',rJ⟩:=D;dsimp only at pA r8 bM dz a6;refine aH.of bM ?_;by_cases aw:rJ=0;rotate_left
  ·rw[av aw]at a6;obtain⟨rfl,rfl⟩:=gI rJ aw (by rw[a6]);have hC:(O=0)=False:=bz aw;simp[hC,ar,a_]
  rw[an (by simp[aw])]at a6;subst aw;simp[ar,a_];refine aH.of dz ?_;simp[cU];refine bt.of (0+1) ⟨ar,a6⟩ (by omega) ?_;have JN:(s.files.take (0+1)).map oY=(s.files.take (0)).map oY++[oY s.files[0]]:=by rw[k6 ar,qa];rfl
  have JO:(s.files.take (0+1)).map pF=(s.files.take (0)).map pF++[pF s.files[0]]:=by rw[k6 ar,qa];rfl
  rw[pA]at JN;rw[r8]at JO;simp[JN,JO];decide
 |succ i=>
  have aS:((i:Int)+1<(s.files.length:Int))=True:=aY;have lp:i<s.files.length:=by omega
  have pC:i64.wrap (i:Int)=(i:Int):=bc _;have bC:=bc ((i:Int)+1+1);have iN:(0<=(i:Int)+1)=True:=aY;have pD:s.files[i].row=[.str s.files[i].name,b5 s.files[i].bytes]:=rfl;have am:oU s.files (i+1)=some s.files[i].name:=by show (s.files[i]?).map dT.name=_;rw[cr lp];rfl
  rw[am]at a6;have a_:s.files[i+1].row=[.str s.files[i+1].name,b5 s.files[i+1].bytes]:=rfl;have bf:=ID s.files[i+1].name;have bM:=zcj s.files[i+1].bytes;have dz:=zck s.files[i+1].bytes;have pA:oY s.files[i+1]=[.list 7 ((cE s.files[i+1].bytes).1.map Rec.row)]:=rfl;have r8:pF s.files[i+1]=[.list 3 ((cE s.files[i+1].bytes).2.1.map Mark.row)]:=rfl;unfold fP at bM;unfold rB at dz;unfold uq;simp[ar,aS,iN,a_];refine aH.of bf ?_;cases aX:kl s.files[i+1].name
  ·rw[av aX]at a6;obtain⟨rfl,rfl⟩:=gI 5 (by decide) (by rw[a6]);simp
  rw[an (by rw[aX];decide)]at a6;have vB:ug (some s.files[i].name) s.files[i+1].name=(dD s.files[i+1].name s.files[i].name ||decide (s.files[i+1].name=s.files[i].name)):=rfl;cases al:ug (some s.files[i].name) s.files[i+1].name;rotate_left
  ·obtain⟨rfl,rfl⟩:=gI 8 (by decide) (by rw[a6,av al]);rw[al]at vB;simp[ar,aS,iN,lp,pC,a_,pD];intro aa ab;simp[aa,ab]at vB
  rw[an (by rw[al];decide)]at a6;rw[al]at vB;have vn:dD s.files[i+1].name s.files[i].name=false:=by cases h:dD s.files[i+1].name s.files[i].name<;>simp[h]at vB⊢
  have Tk:(s.files[i+1].name=s.files[i].name)=False:=bz (by intro h;simp[h]at vB);simp[ar,aS,iN,lp,pC,a_,pD,vn,Tk];refine b0.fL (l:=uq (s.entries.map Entry.row) (s.rules.map ep.row) s.files (i+1)) ?_ ?_
  ·unfold uq;simp
  unfold uq;simp[ar,aS,iN,a_];generalize cE s.files[i+1].bytes=D at*;obtain⟨L,M,at',rJ⟩:=D;dsimp only at pA r8 bM dz a6;refine aH.of bM ?_;by_cases aw:rJ=0;rotate_left
  ·rw[av aw]at a6;obtain⟨rfl,rfl⟩:=gI rJ aw (by rw[a6]);have hC:(O=0)=False:=bz aw;simp[hC,ar,aS,iN,a_]
  rw[an (by simp[aw])]at a6;subst aw;simp[ar,aS,iN,a_];refine aH.of dz ?_;simp[cU];refine⟨⟨by omega,by unfold maxLen;omega⟩,?_⟩;refine bt.of (i+1+1) ⟨ar,a6⟩ (by omega) ?_;have JN:(s.files.take (i+1+1)).map oY=(s.files.take (i+1)).map oY++[oY s.files[i+1]]:=by rw[k6 ar,qa];rfl
  have JO:(s.files.take (i+1+1)).map pF=(s.files.take (i+1)).map pF++[pF s.files[i+1]]:=by rw[k6 ar,qa];rfl
  rw[pA]at JN;rw[r8]at JO;simp[bC,JN,JO]
def zcF{s:c9}(h:n2 s=0):qE s.rules=0/\¬20<s.files.length/\(gj none [] s.files).2=0/\iq s.entries=0/\vH s s.entries=0:=by
 unfold n2 at h;split at h
 ·rename_i aa;exact absurd h aa
 rename_i aa;split at h
 ·cases h
 rename_i ab;split at h
 ·rename_i au;exact absurd h au
 rename_i au;split at h
 ·rename_i aN;exact absurd h aN
 rename_i aN;exact⟨nY aa,ab,nY au,nY aN,h⟩
def zse{k:aq}{t d:Int}(h:vD k t d=0):j2 k=true/\fM t=true:=by
 unfold vD at h;split at h
 ·cases h
 rename_i aa;split at h
 ·cases h
 rename_i ab;exact⟨by simpa using aa,by cases hm:fM t;exact absurd (.inl hm) ab;rfl⟩
def Gi(s:c9)(k:aq)(t d:Int):Int:=if n2 s≠0 then n2 s else vD k t d
def zsf(s:c9)(hs:s.fit)(m:iv)(k:aq)(t d:Int)
  (ct:n2 s=0->∀e∈s.entries,∃x:hp×Int,(x.2=0->x.1.hs.length<=1000000000)/\(if x.2≠0 then false else Gg x.1.hs t)=Ax m e t/\az prog 31 [.one (.ref s.ly),.agg e.row] (.b2 [.agg x.1.row,.one (.int .i64 x.2)])) :
  az prog 5 [.agg s.cs,.one (.str k),.one (.int .i64 t),.one (.int .i64 d)] (.b2 [.agg (if Gi s k t d=0 then yQ s m k t d else FZ).row,.one (.int .i64 (Gi s k t d))]):=by
 have aE:=zsc s hs;have aQ:=zpg k t d;unfold Gh at aE;by_cases aa:n2 s=0;rotate_left
 ·rw[an aa]at aE;rw[show Gi s k t d=n2 s from av aa,an aa];have dd:(n2 s=0)=False:=bz aa;generalize n2 s=F at*;unfold c9.cs at*;refine az.bd f5 mixed fun aD=>?_;simp;refine aH.of aE ?_;simp[dd,FZ,rK.row]
 rw[av aa]at aE;rw[show Gi s k t d=vD k t d from an (by simp[aa])];obtain⟨_,_,_,eW,_⟩:=zcF aa;rw[aa]at aE;by_cases ab:vD k t d=0;rotate_left
 ·rw[an ab];have ny:(vD k t d=0)=False:=bz ab;generalize vD k t d=F at*;generalize s.ly=L at*;unfold c9.cs at*;refine az.bd f5 mixed fun aD=>?_;simp;refine aH.of aE ?_;simp;refine aH.of aQ ?_;simp[ny,FZ,rK.row]
 rw[av ab,ab];rw[ab]at aQ;obtain⟨ak,bv⟩:=zse ab;have bf:=zsa s m k t d eW ak bv (ct aa);generalize yQ s m k t d=Z at*;generalize s.ly=L at*;unfold c9.cs rK.row at*;refine az.bd f5 mixed fun aD=>?_;simp;refine aH.of aE ?_;simp;refine aH.of aQ ?_;simp;refine aH.of bf ?_;simp
def zsg{α β:Type}[DecidableEq α]{l:List (α×β)}{k:α}{v:β}(h:∀p∈l,p.1≠k):mB l k v=l++[(k,v)]:=by unfold mB;rw[sF.2 (fun p am=>by simpa using fun e=>h p am e.symm)]
def zcG{α β γ:Type}[DecidableEq α](k:γ->α)(v:γ->β):∀(l:List γ) (m:List (α×β)),l.Pairwise (fun a b=>k a≠k b)->(∀p∈m,∀x∈l,p.1≠k x)->l.foldl (fun m x=>mB m (k x) (v x)) m=m++l.map fun x=>(k x,v x)
 |[],m,_,_=>by simp
 |x::r,m,h,hm=>by
  rw[D4]at h;rw[Dw,zsg (fun p am=>hm p am x (by simp)),zcG k v r _ h.2]
  ·simp
  ·intro p am y aU;rcases hg.1 am with am|am
   ·exact hm p am y (by simp[aU])
   ·rw[nE]at am;subst am;exact h.1 y aU
def zsh{α:Type}(p:α->Bool)(l:List α):l.find? p=match l.findIdx? p with
  |some i=>l[i]?
  |none=>none:=by
 cases h:l.findIdx? p with
 |none=>rw[sF]at h;simpa using h
 |some i=>obtain⟨ah,aa,ab⟩:=kT.1 h;dsimp only;rw[cr ah,RD];exact⟨aa,i,ah,rfl,fun j ac=>by simpa using ab j ac⟩
def zcH{α β γ:Type}[DecidableEq α](k:γ->α)(v:γ->β)(l:List γ)(h:l.Pairwise (fun a b=>k a≠k b))(q:α):nj (l.foldl (fun m x=>mB m (k x) (v x)) []) q=match l.findIdx? (fun x=>decide (q=k x))with
  |some i=>(l[i]?).map v
  |none=>none:=by
 rw[zcG k v l [] h (by simp),List.nil_append];unfold nj;rw[List.find?_map];have:=zsh (fun x=>decide (q=k x)) l;rw[show ((fun p:α×β=>decide (q=p.1))∘fun x=>(k x,v x))=fun x=>decide (q=k x)from rfl,this];cases l.findIdx? (fun x=>decide (q=k x))with
 |none=>rfl
 |some i=>simp[Option.map_map,Function.comp_def]
def zcI:∀(F:List dT) (p:Option (aq)) (m:iv),(gj p m F).2=0->(∀q,p=some q->∀f∈F,dD q f.name=true)/\F.Pairwise (fun a b=>dD a.name b.name=true)/\(gj p m F).1=F.foldl (fun m x=>mB m x.name (nk x.bytes)) m
 |[],_,_,_=>by simp[gj]
 |x::r,p,m,h=>by
  unfold gj at h⊢;split at h
  ·cases h
  rename_i aa;rw[an aa];split at h
  ·cases h
  rename_i ab;rw[an ab];split at h
  ·rename_i au;exact absurd h au
  rename_i au;rw[an au];obtain⟨i1,i2,i3⟩:=zcI r _ _ h;refine⟨?_,D4.2 ⟨i1 _ rfl,i2⟩,i3⟩;rintro q rfl f aw;have bK:dD q x.name=true:=by
   unfold ug at ab;rw[gl,not_or,mA]at ab;cases al:dD q x.name
   ·exact absurd (IU al (by simpa using ab.1)).symm ab.2
   ·rfl
  rcases fp.1 aw with rfl|aw
  ·exact bK
  ·exact Fm bK (i1 _ rfl f aw)
def zcJ:∀(l:List Rec) (seen:List (aq)) (n:Nat),ua seen n l=0->(l.map Rec.id).Nodup/\∀r∈l,r.id∉seen
 |[],_,_,_=>by simp
 |r::l,seen,n,h=>by
  unfold ua at h;split at h
  ·rename_i aa;exact absurd h aa
  split at h
  ·cases h
  rename_i ab;obtain⟨i1,i2⟩:=zcJ l _ _ h;refine⟨?_,?_⟩
  ·rw[kC,wj];refine⟨fun hm=>?_,i1⟩;obtain⟨x,ai,he⟩:=hx.1 hm;exact i2 x ai (by simp[he])
  ·intro x ai;rcases fp.1 ai with rfl|ai
   ·exact ab
   ·exact fun hs=>i2 x ai (by simp[hs])
def zsi{l:List Rec}(h:kq l=0):(l.map Rec.id).Nodup:=by
 unfold kq at h;split at h
 ·cases h
 ·exact(zcJ l _ _ h).1
def zcK{b:aq}(ad:b.length<=16777216):∀(n a:Nat) (L:List Rec) (M:List Mark),a<=b.length->M.map Mark.id=L.map Rec.id->M.Pairwise (fun x y=>x.aO<y.aO)->(∀m∈M,m.aO<a)->(lk n b a L M).2.2.2=0 ->
  (lk n b a L M).2.1.map Mark.id=(lk n b a L M).1.map Rec.id/\(lk n b a L M).2.1.Pairwise (fun x y=>x.aO<y.aO)
 |0,_,_,_,_,_,_,_,_=>by simp[lk]
 |n+1,a,L,M,bj,aa,ab,au,h=>by
  unfold lk at h⊢;split at h
  ·rename_i ar;rw[av ar];split at h
   ·rename_i aw;exact absurd h aw
   ·rename_i aw;rw[an aw];obtain⟨kI,jE,_⟩:=Jc ad bj (nY aw);refine zcK ad n _ _ _ jE (by simp[aa]) ?_ ?_ h
    ·rw[KV];exact⟨ab,by simp,fun x ai y aU=>by rw[nE]at aU;subst aU;exact au x ai⟩
    ·intro m hm;rcases hg.1 hm with hm|hm
     ·have:=au m hm;omega
     ·rw[nE]at hm;subst hm;exact kI
  ·rename_i ar;rw[an ar];split at h
   ·rename_i aw;exact absurd h aw
   ·rename_i aw;rw[an aw];exact⟨aa,ab⟩
def zsj{b:aq}(h:(cE b).2.2.2=0):(cE b).2.1.map Mark.id=(cE b).1.map Rec.id/\(cE b).2.1.Pairwise (fun x y=>x.aO<y.aO):=by
 unfold cE at*;split at h
 ·cases h
 ·rename_i ad;rw[an ad];exact zcK (by omega) _ _ _ _ (cj _) rfl (by simp) (by simp) h
def zsk{l:List Rec}{i:Nat}(ah:i<l.length)(h:(l.map Rec.id).Nodup):h_ l l[i].id=l[i]:=by
 have ai:ng l l[i].id=some i:=by unfold ng;refine Ui ah (by simp) (fun j ac fU=>?_);rw[jj];intro he;rw[List.nodup_iff_pairwise_ne,RS]at h;exact h j i (by simpa using ac) (by simpa using ah) fU (by simpa using he)
 unfold h_;rw[ai];simp[cr ah]
def zsl{b:aq}(h:(cE b).2.2.2=0)(e:Entry):oT (nk b) e.aO e.ah=match (cE b).2.1.findIdx? (yV e)with
  |some i=>((cE b).1[i]?.getD fS,true)
  |none=>(fS,false):=by
 obtain⟨aa,ab⟩:=zsj h;obtain⟨au,aN⟩:=Ap h;have aX:=zsi au;unfold nk oT e5;dsimp only;generalize (cE b).1=L at*;generalize (cE b).2.1=M at*;have am:M.Pairwise (fun x y:Mark=>(((x.aO:Int),(x.ah:Int)):Int×Int)≠((y.aO:Int),(y.ah:Int))):=ab.imp (fun zHO he=>by have:=(cA _ _ _ _▸he:_/\_).1;omega)
 have ay:=zcH (fun x:Mark=>(((x.aO:Int),(x.ah:Int)):Int×Int)) Mark.id M am (e.aO,e.ah);have hm:(fun x:Mark=>decide (((e.aO,e.ah):Int×Int)=((x.aO:Int),(x.ah:Int))))=yV e:=by funext x;unfold yV;rw[decide_eq_decide,cA];exact⟨fun h=>⟨h.1.symm,h.2.symm⟩,fun h=>⟨h.1.symm,h.2.symm⟩⟩
 rw[hm]at ay;rw[ay];cases ap:M.findIdx? (yV e)with
 |none=>rfl
 |some i=>
  have ah:=(kT.1 ap).1;have Ul:i<L.length:=by omega
  have hid:M[i].id=L[i].id:=by have:=pR (fun l=>l[i]?) aa;simpa[cr ah,cr Ul]using this
  simp only[cr ah,uF,hid,cr Ul,oa];rw[zsk Ul aX]
def zcL{s:c9}(h:(gj none [] s.files).2=0)(e:Entry):(nj (gj none [] s.files).1 e.file=none/\n1 s e=(fS,-1,false)) \/
  ∃k,∃ak:k<s.files.length,nj (gj none [] s.files).1 e.file=some (nk s.files[k].bytes)/\(cE s.files[k].bytes).2.2.2=0/\n1 s e=((oT (nk s.files[k].bytes) e.aO e.ah).1,(k:Int),(oT (nk s.files[k].bytes) e.aO e.ah).2):=by
 obtain⟨_,aa,ab⟩:=zcI s.files none [] h;have aD:=JM s.files none [] h;have am:s.files.Pairwise (fun a b:dT=>a.name≠b.name):=aa.imp (fun wS he=>by rw[he,z7]at wS;cases wS);have ay:=zcH dT.name (fun x:dT=>nk x.bytes) s.files am e.file;have hm:(fun x:dT=>decide (e.file=x.name))=fun f=>f.name==e.file:=by funext x;rw[mm,mA,fc];exact eq_comm
 rw[hm]at ay;rw[ab,ay];unfold n1;cases ap:s.files.findIdx? (fun f=>f.name==e.file)with
 |none=>exact .inl ⟨rfl,rfl⟩
 |some k=>
  have ak:=(kT.1 ap).1;have ao:=aD s.files[k] (hS ak);refine .inr ⟨k,ak,?_,ao,?_⟩
  ·simp[cr ak]
  ·simp only[cr ak,oa];rw[zsl ao e];cases (cE s.files[k].bytes).2.1.findIdx? (yV e)<;>rfl
def Um{s:c9}(h:(gj none [] s.files).2=0):∀l:List Entry,qG (gj none [] s.files).1 l=vH s l
 |[]=>rfl
 |e::r=>by
  unfold qG vH;rw[Um h r];rcases zcL h e with⟨aa,ab⟩|⟨k,ak,aa,_,ab⟩
  ·rw[aa,ab];rfl
  ·rw[aa,ab];dsimp only;rw[an (show ¬((k:Int)<0) by omega)]
def zcM(s:c9):(lu s).2=n2 s/\(n2 s=0->(lu s).1=(gj none [] s.files).1):=by
 unfold lu n2;split
 ·exact⟨rfl,fun h=>by rename_i aa;exact absurd h aa⟩
 split
 ·exact⟨rfl,fun h=>by cases h⟩
 split
 ·exact⟨rfl,fun h=>by rename_i aa;exact absurd h aa⟩
 rename_i au;split
 ·exact⟨rfl,fun h=>by rename_i aa;exact absurd h aa⟩
 rw[Um (nY au)];split
 ·exact⟨rfl,fun h=>by rename_i aa;exact absurd h aa⟩
 ·rename_i bE;exact⟨(nY bE).symm,fun _=>rfl⟩
def zsm{t:hp}(h:kX t=0):j8 t.hs=0:=by
 unfold kX at h;split at h
 ·cases h
 ·split at h
  ·cases h
  ·exact h
def zsn(b:aq):j8 (hc b).1.hs=0:=by
 unfold hc;split
 ·rfl
 split
 ·rfl
 unfold lo;split
 ·rfl
 rename_i h;have bo:=zsm (nY h)
 repeat' split
 all_goals first|rfl|exact bo
def zso(f:qF)(w:aq):j8 (w_ f w).1.hs=0:=by
 unfold w_;split
 ·rfl
 ·exact zsn _
def zsp{l:List Rec}{w:aq}(h:∃r∈l,r.id=w):(h_ l w).id=w:=by
 obtain⟨r,ao,he⟩:=h;unfold h_ ng;cases ai:l.findIdx? fun r=>r.id==w with
 |none=>rw[sF]at ai;have:=ai r ao;simp[he]at this
 |some i=>obtain⟨ah,aa,_⟩:=kT.1 ai;simpa[cr ah]using aa
def zsq{α β:Type}[DecidableEq α]{l:List (α×β)}{k:α}{v:β}(h:nj l k=some v):∃p∈l,p.2=v:=by
 unfold nj at h;cases aw:l.find? (fun p=>decide (k=p.1))with
 |none=>rw[aw]at h;cases h
 |some p=>rw[aw]at h;exact⟨p,PE aw,by simpa using h⟩
def zsr{s:c9}(t:Int)(h:n2 s=0)(e:Entry)(he:e∈s.entries):∃x:hp×Int,(x.2=0->x.1.hs.length<=1000000000)/\(if x.2≠0 then false else Gg x.1.hs t)=Ax (lu s).1 e t/\az prog 31 [.one (.ref s.ly),.agg e.row] (.b2 [.agg x.1.row,.one (.int .i64 x.2)]):=by
 obtain⟨_,ab,au,_,bE⟩:=zcF h;rw[(zcM s).2 h];obtain⟨g1,g2⟩:=zcE ab au;rw[<-Um au]at bE;obtain⟨f,w,m1,m2⟩:=Tl bE he;rcases zcL au e with⟨kI,_⟩|⟨k,ak,kI,_,jE⟩
 ·rw[kI]at m1;cases m1
 have aw:nk s.files[k].bytes=f:=by rw[kI]at m1;exact yo m1
 rw[aw]at kI jE;have bj:oT f e.aO e.ah=(h_ f.fE w,true):=by unfold oT;rw[m2]
 rw[bj]at jE;obtain⟨x,cH,dl⟩:=zrX s e g1 ak jE g2;have hw:(h_ f.fE w).id=w:=by obtain⟨p,dr,e4⟩:=zsq m2;subst e4;exact zsp ((aw▸Th s.files[k].bytes).1 p dr)
 rw[hw]at cH;have zss:yP (gj none [] s.files).1 e=w_ ⟨(cE s.files[k].bytes).1,[]⟩ w:=by unfold yP;rw[m1];dsimp only;rw[m2,<-aw];rfl
 have bo:=zso ⟨(cE s.files[k].bytes).1,[]⟩ w;refine⟨x,?_,?_,dl⟩
 ·intro a1;rw[cH.2 a1];exact zbk bo
 ·unfold Ax;rw[zss];obtain⟨i1,i2⟩:=cH;generalize w_ ⟨(cE s.files[k].bytes).1,[]⟩ w=K at*;by_cases a1:x.2=0
  ·rw[an (by simp[a1]),an (by simp[i1.1 a1]),i2 a1];have aF:(C' K.1.hs uh).1=dC K.1.hs uh:=by
    unfold C';rw[an (by simp[bo]),an (by decide),show eN uh=uh by decide]
   rw[aF];rfl
  ·rw[av a1,av (fun h=>a1 (i1.2 h))]
def zst(s:c9)(k:aq)(t d:Int):Gi s k t d=s3 s k t d:=by unfold Gi s3 vD;rw[(zcM s).1]
def zoo(s:c9)(hs:s.fit)(k:aq)(t d:Int):az prog 3 [.agg s.cs,.one (.str k),.one (.int .i64 t),.one (.int .i64 d)] (.x (.one (.bool true))):=by have aE:=zoV s hs k t d;have aQ:=zsf s hs (lu s).1 k t d (fun h e he=>zsr t h e he);rw[zst]at aQ;have e:(if s3 s k t d=0 then yQ s (lu s).1 k t d else FZ)=Nr s k t d:=rfl;rw[e]at aQ;generalize Nr s k t d=Z at*;generalize s3 s k t d=A at*;unfold c9.cs rK.row at*;refine az.bd f3 mixed fun aD=>?_;simp;refine aH.of aE ?_;simp;refine aH.of aQ ?_;simp;refine b_.of (fun _=>zsu) rfl ?_;simp
end
section
variable [bn]
def own:ownKnob prog.godebug=none:=by kernel_rfl
def laidOut:laidOutB prog=true:=by kernel_rfl
def Jo:dm:=.st [.s,.i .i64,.i .i64,.s,.s,.s,.st [.i .i64,.i .i64],.b]
def Nf:dm:=.ye 9 Jo
def znX:dm.has prog (.st [.i .i64,.i .i64]) 48:=
 ⟨_,underlying48,by kernel_rfl,rfl,by kernel_rfl,underlying3,rfl,by kernel_rfl,underlying3,trivial⟩
def znY:Jo.has prog 50:=
 ⟨_,underlying50,by kernel_rfl,rfl,by kernel_rfl,underlying9,rfl,by kernel_rfl,underlying3,rfl,by kernel_rfl,underlying3,rfl,by kernel_rfl,underlying9,rfl,by kernel_rfl,underlying9,rfl,by kernel_rfl,underlying9,
  rfl,by kernel_rfl,znX,rfl,by kernel_rfl,underlying4,trivial⟩
def znZ:Nf.has prog 22:=⟨50,underlying22,by kernel_rfl,rfl,by decide,znY⟩
def zoa{cs:List ag}(h:Jo.fits cs):∃e:Entry,cs=e.row:=by
 simp only[Jo,dm.fits,dm.fits.E4]at h;obtain⟨_,_,rfl,⟨cC,rfl,_⟩,_,_,rfl,⟨ax,rfl,_⟩,_,_,rfl,⟨aK,rfl,_⟩,_,_,rfl,⟨cd,rfl,_⟩,_,_,rfl,⟨fI,rfl,_⟩,_,_,rfl,⟨gp,rfl,_⟩,
  _,_,rfl,⟨_,_,rfl,⟨tH,rfl,_⟩,_,_,rfl,⟨mr,rfl,_⟩,rfl⟩,_,_,rfl,⟨C7,rfl⟩,rfl⟩:=h
 exact⟨⟨cC,ax,aK,cd,fI,gp,tH,mr,C7⟩,rfl⟩
def zob{xs:List (List ag)}(h:∀x∈xs,Jo.fits x):∃l:List Entry,xs=l.map Entry.row:=by
 induction xs with
 |nil=>exact⟨[],rfl⟩
 |cons x r ba=>obtain⟨l,rfl⟩:=ba (fun y aU=>h y (by simp[aU]));obtain⟨f,rfl⟩:=zoa (h x (by simp));exact⟨f::l,rfl⟩
def zkG{x:aG}(h:dm.Ip .s x):∃l,x=.one (.str l):=by
 cases x with
 |agg cs=>exact h.elim
 |one c=>obtain⟨l,ai,_⟩:=h;injection ai with ai;exact⟨l,by rw[ai]⟩
def Zi{x:aG}(h:dm.Ip (.i .i64) x):∃n,x=.one (.int .i64 n):=by
 cases x with
 |agg cs=>exact h.elim
 |one c=>obtain⟨l,ai,_⟩:=h;injection ai with ai;exact⟨l,by rw[ai]⟩
end
section
section
variable [bn]
def S7:dm:=.ye 1 (.i .u8)
def zoc:S7.has prog 51:=⟨5,underlying51,by kernel_rfl,rfl,by decide,underlying5⟩
def zaX{α:Type}{row:α->List ag}{p:List ag->Prop}(am:∀cs,p cs->∃e,cs=row e){xs:List (List ag)}(h:∀x∈xs,p x):∃l:List α,xs=l.map row:=by
 induction xs with
 |nil=>exact⟨[],rfl⟩
 |cons x r ba=>obtain⟨l,rfl⟩:=ba (fun y aU=>h y (by simp[aU]));obtain⟨f,rfl⟩:=am x (h x (by simp));exact⟨f::l,rfl⟩
def zod{cs:List ag}(h:S7.fits cs):∃l:aq,cs=[b5 l]:=by
 obtain⟨xs,rfl,ai⟩:=h;obtain⟨l,rfl⟩:=zaX (row:=ie) (p:=dm.fits (.i .u8)) (fun cs ap=>by
  obtain⟨n,rfl,aX⟩:=ap;have ad:0<=n/\n<256:=by
   simp only[Lit.wf,hk,b7]at aX;have aa:u8.min=0:=by decide
   have ab:u8.max=255:=by decide
   simp only[aa,ab]at aX;omega
  refine⟨UInt8.ofNat n.toNat,?_⟩;simp only[ie,List.cons.injEq,px,ag.int.injEq,mX];have:(UInt8.ofNat n.toNat).toNat=n.toNat:=by simp only[UInt8.toNat_ofNat'];omega
  rw[this];omega) ai
 exact⟨l,rfl⟩
end
def zaY(cs:Array aI):Prop:=∃m,cs[0]?=some (.int .i64 m)
@[reducible]def Fq(P:aM):bn:=bn.Rl P [("internal/strconv.uint64pow10",(·=Rm)),("internal/bytealg.MaxLen",zaY)]
theorem zkC(P:aM):@cF (Fq P) P:=@cF.mk (Fq P) P (fun w h=>by obtain⟨cs,ap,rfl⟩:=h _ kH;exact ap)
def zaZ{P:aM}{w:bb}{n:String}{g:Nat}(ay:P.globalNamed n=some g){m:Int}:(∃cs,w.var? P n=some cs/\cs[0]?=some (.int .i64 m))↔w.cell? ⟨g,0,none⟩=some (.int .i64 m):=by
 unfold World.var? World.cell?;rw[ay];simp only[Option.bind_some];constructor
 ·rintro⟨cs,h,a1⟩;split at h
  ·rename_i bo;cases h;rw[bo];simpa using a1
  ·cases h
 ·intro h;cases bo:w.heap[g]? with
  |none=>rw[bo]at h;cases h
  |some o=>
   rw[bo]at h;cases o with
   |cells cs t f=>exact⟨cs,rfl,by simpa using h⟩
   |_=>simp at h
theorem zkD{P:aM}(g:Nat) (ay:P.globalNamed "internal/bytealg.MaxLen" =some g):@c1 (Fq P) g:=@c1.mk (Fq P) g (fun w h=>by obtain⟨cs,ap,m,hm⟩:=h ("internal/bytealg.MaxLen",zaY) (by simp);exact⟨m,(zaZ ay).1 ⟨cs,ap,hm⟩⟩)
def zkK{W:bb}{l:List (String×DataW Unit)}(j:Nat)(h:laidMetH prog l W)(am:(l.all fun x=>x.2.handleName?.isNone)=true) (ac:l[j]?=some ("internal/strconv.uint64pow10",Lib.tabData .u64 Lib.pow10Tab)) (g9:W.ShapedOpen prog):(Fq prog).holds W:=by
 rw[MakeChecks.laidMetH_plain _ _ _ am]at h;have aa:=Yy (g:=5) (t:=298) (e:=228) (n:=20) (by kernel_rfl) (by kernel_rfl) underlying298 underlying228 (by kernel_rfl) (by kernel_rfl) j h ac;obtain⟨m,hm⟩:=cell_of_shapedOpen_int (P:=prog) (g:=0) (t:=3) (zero:=#[.int .i64 0]) (k:=.i64) g9 (vM (by kernel_rfl)) (by kernel_rfl) rfl (by kernel_rfl) (by kernel_rfl) underlying3;intro x ai;simp only[fp,Fx,lS]at ai;rcases ai with rfl|rfl
 ·exact⟨_,aa,rfl⟩
 ·obtain⟨cs,ap,a1⟩:=(zaZ (P:=prog) (n:= "internal/bytealg.MaxLen") (g:=0) (by kernel_rfl)).2 hm;exact⟨cs,ap,m,a1⟩
def zkJ{H:Type}{enc:aP×aI->H}{a:Assume}{C:Checked}{os:Os}{f:FuncId}{fn:Func}{s:ChangeSpec}{S8:List PathCond}{apart E6 E7 E8:Bool}{X:bb->Array aI->Prop}
  (xC:∀(w w':bb) (args:Array aI),w.heap=w'.heap->X w args->X w' args)
  (own:ownKnob C.prog.godebug=none)(IW:os.Started)(zoe:C.prog.inits.idxOf? f=none)(ix:C.prog.funcs[f]?=some fn)
  (witness:∃(w:bb) (tape:Tape) (i:Input),w.os=os/\(w.forCall tape i).Shaped C.prog/\i.vars=[]/\Input.okWide C.prog (w.forCall tape i) .any w.heap.size f i /\
   ((s.pre enc C.prog fn S8 apart (w.forCall tape i).memory i.args/\X (w.forCall tape i).memory i.args)/\sizedMet enc C.prog fn (OpenSpec.ofChange s) apart (w.forCall tape i).memory i.args)/\a.holds C.prog (lone (Frame.enter C.prog f i.args .normal) [] (w.forCall tape i)))
  (zof:∀(W:bb) (base:Nat) (args:Array aI) (dJ gs:List (DataW H)) (before:List MemPlace),
   (∀(j:Nat) t v,fn.params[j]?=some t->args[j]?=some v->Value.okWide C.prog W .any base t v) ->
   DataW.Whole enc C.prog fn.params.toList s.vars apart W args.toList dJ gs before ->
   S8.all (PathCond.test C.prog ⟨fn.params.toList,dJ,s.plain.varTypes C.prog,gs⟩)=true ->
   (DataW.weightsEach C.prog (fn.params.toList++s.plain.varTypes C.prog) (dJ++gs)).all (·<=reachBytes)=true->X W args->W.ShapedOpen C.prog ->
   Calls C.prog f args W fun e qk=>∃v,e=.returned v/\s.post enc C.prog fn apart E6 E7 E8 W args v qk) :
  ReturnsInHanded a C os f .any (fun w args=>(s.pre enc C.prog fn S8 apart w args/\X w args)/\sizedMet enc C.prog fn (OpenSpec.ofChange s) apart w args) (s.post enc C.prog fn apart E6 E7 E8):=by
 refine returnsInHanded_of_calls own IW zoe witness ?_;intro w tape i _ hf _ aD I9 _;obtain⟨_,_,_,zog,zoh,_,_,_,_,gV⟩:=aD;obtain rfl:zog=fn:=yo (zoh.symm.trans ix);obtain⟨⟨⟨dJ,gs,before,hw,ap⟩,ai⟩,aZ⟩:=I9;have CF:=DataW.Whole.of_heap (w':=w.forCall tape i) (by rfl) hw;refine(zof (w.forCall tape i) w.heap.size i.args dJ gs before gV CF ap (aZ.weights hw) (xC _ _ _ (by rfl) ai) hf).mono fun e qk ⟨v,he,am⟩=>?_;subst he;exact ChangeSpec.post_blind am
end
section
variable [bn]
def Zj{H:Type}{P:aM}{p:Nat->Bool}:∀{ts us:List aP} {dJ gs:List (DataW H)},(DataW.weightsEach P (ts++us) (dJ++gs)).all p=true->(DataW.weightsEach P ts dJ).all p=true
 |[],_,_,_,_=>by rw[DataW.weightsEach];rfl;intros;simp_all
 |_::_,_,[],_,_=>by rw[DataW.weightsEach];rfl;intros;simp_all
 |t::ts,us,d::dJ,gs,h=>by rw[List.cons_append,List.cons_append,DataW.weightsEach,uN,b7]at h;rw[DataW.weightsEach,uN,b7];exact⟨h.1,Zj h.2⟩
end
section
section
variable [bn]
def Ng:dm:=.st [.s,S7]
def Nh:dm:=.st [.i .i64,.s]
def w1:dm:=.st [Nf,.ye 2 Ng,.ye 2 Nh]
def zoi:Ng.has prog 68:=⟨_,underlying68,by kernel_rfl,rfl,by kernel_rfl,underlying9,rfl,by kernel_rfl,zoc,trivial⟩
def zoj:Nh.has prog 109:=⟨_,underlying109,by kernel_rfl,rfl,by kernel_rfl,underlying3,rfl,by kernel_rfl,underlying9,trivial⟩
def zkL:w1.has prog 26:=
 ⟨_,underlying26,by kernel_rfl,rfl,by kernel_rfl,znZ,rfl,by kernel_rfl,⟨68,underlying23,by kernel_rfl,rfl,by decide,zoi⟩,rfl,by kernel_rfl,⟨109,underlying24,by kernel_rfl,rfl,by decide,zoj⟩,trivial⟩
def zok{cs:List ag}(h:Ng.fits cs):∃e:dT,cs=e.row:=by simp only[Ng,dm.fits,dm.fits.E4]at h;obtain⟨_,_,rfl,⟨cC,rfl,_⟩,_,_,rfl,aa,rfl⟩:=h;obtain⟨ax,rfl⟩:=zod aa;exact⟨⟨cC,ax⟩,rfl⟩
def zol{cs:List ag}(h:Nh.sr reachBytes cs):∃e:ep,cs=e.row/\e.fit:=by simp only[Nh,dm.sr,dm.sr.If]at h;obtain⟨_,_,rfl,⟨cC,rfl,_⟩,_,_,rfl,⟨ax,rfl,_,eo⟩,rfl⟩:=h;unfold reachBytes at eo;exact⟨⟨cC,ax⟩,rfl,by unfold ep.fit;simp only;omega⟩
def zom{α:Type}{row:α->List ag}{p:List ag->Prop}{q:α->Prop}(am:∀cs,p cs->∃e,cs=row e/\q e){xs:List (List ag)}(h:∀x∈xs,p x):∃l:List α,xs=l.map row/\∀e∈l,q e:=by
 induction xs with
 |nil=>exact⟨[],rfl,fun e he=>by cases he⟩
 |cons x r ba=>
  obtain⟨l,rfl,al⟩:=ba (fun y aU=>h y (by simp[aU]));obtain⟨f,rfl,aw⟩:=am x (h x (by simp));exact⟨f::l,rfl,fun e he=>by
   rcases fp.1 he with rfl|he
   ·exact aw
   ·exact al e he⟩
def zkF{x:aG}(h:w1.Ip x)(g:w1.Rk reachBytes x):∃s:c9,x=.agg s.cs/\s.fit:=by
 cases x with
 |one c=>exact h.elim
 |agg cs=>have bx:w1.fits cs:=h;have bX:w1.sr reachBytes cs:=g;simp only[w1,Nf,dm.fits,dm.fits.E4]at bx;simp only[w1,Nf,dm.sr,dm.sr.If]at bX;obtain⟨_,_,rfl,⟨xs,rfl,ai⟩,_,_,rfl,⟨aV,rfl,aU⟩,_,_,rfl,⟨c3,rfl,_⟩,rfl⟩:=bx;obtain⟨c_,fa,ax,⟨ea,rfl,_⟩,a2,eV,rfl,⟨pU,rfl,_⟩,a3,q9,rfl,⟨zHy,rfl,zon⟩,rfl⟩:=bX;simp only[List.cons_append,List.nil_append,List.cons.injEq,ag.list.injEq,mX,px]at ax;obtain⟨_,_,rfl⟩:=ax;obtain⟨E,rfl⟩:=zob ai;obtain⟨F,rfl⟩:=zaX (row:=dT.row) (fun cs ap=>zok ap) aU;obtain⟨R,rfl,af⟩:=zom (row:=ep.row) (fun cs ap=>zol ap) zon;exact⟨⟨E,F,R⟩,rfl,af⟩
variable [c1 0][cF prog]
def zkH(s:c9)(k:aq)(t d:Int)(hs:s.fit):az prog 3 [.agg s.cs,.one (.str k),.one (.int .i64 t),.one (.int .i64 d)] (.x (.one (.bool true))):=zoo s hs k t d
end
end
end Go.Proofs.YtmlnbemjmlogiaaGreatDoor
