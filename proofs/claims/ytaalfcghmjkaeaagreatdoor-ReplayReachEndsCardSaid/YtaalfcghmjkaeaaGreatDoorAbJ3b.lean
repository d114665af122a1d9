/- A part of the proof: lemmas and contracts of functions. -/
import Derived.Test.YtaalfcghmjkaeaaGreatDoorAbJ3
set_option linter.all false
namespace Go.Ab
open Go Go.RowKit
variable [bf]
def kp(o:Oper):Bool:=match o.op with
 |.call c=>match c.callee with
  |.builtin .append=>o.guard.isNone
  |_=>false
 |_=>false
def ie(s:ag)(v:ad):Option Nat:=match gx s v with
 |some (some i,_)=>some i
 |_=>none
def kY(s:ag):Option Nat->ag
 |some i=>put s i .dead
 |none=>s
def ad.lz:ad->Bool
 |.own _ _ _=>true
 |.cT _ _ _ _=>true
 |_=>false
def I9{a:ad}(h:a.lz=true):a.aM=true:=by cases a<;>first|rfl|cases h
def I_{s:ag}{v:ad}{i:Nat}(h:ie s v=some i):(s i).lz=true/\v.refs i=true:=by
 unfold ie at h;split at h
 ·rename_i j q ap;injection h with h
  subst h;unfold gx at ap;split at ap
  ·simp at ap
  ·split at ap
   ·rename_i e z xs av;simp only[bS,cc]at ap;obtain⟨rfl,_⟩:=ap;exact⟨by rw[av];rfl,by simp[ad.refs]⟩
   ·rename_i v e z xs av;simp only[bS,cc]at ap;obtain⟨rfl,_⟩:=ap;exact⟨by rw[av];rfl,by simp[ad.refs]⟩
   ·cases ap
  ·split at ap
   ·rename_i e z xs av;simp only[bS,cc]at ap;obtain⟨rfl,_⟩:=ap;exact⟨by rw[av];rfl,by simp[ad.refs]⟩
   ·cases ap
  ·cases ap
 ·cases h
section
variable {P:Program}{s s1:ag}
def xD{t t':TypeId}{x y:Prop×ad}(h:(eK P s t t' x y).1):(eK P s t t' x y).2.1=kY s (ie s x.2)/\∃e z xs,(eK P s t t' x y).2.2=.own e z xs:=by
 unfold eK at h⊢;unfold ie;split at h
 ·rename_i l ch;unfold vu at h⊢;split at h
  ·rename_i av aI;simp only[aI];exact⟨rfl,_,_,_,rfl⟩
  ·rename_i av aI;simp only[aI];exact⟨rfl,_,_,_,rfl⟩
  ·exact h.elim
 ·unfold tO at h⊢;split at h
  ·rename_i av;split at h
   ·rename_i aI b5 eH;simp only[b5];exact⟨rfl,_,_,_,rfl⟩
   ·rename_i aI b5 eH;simp only[b5];exact⟨rfl,_,_,_,rfl⟩
   ·rename_i aI b5 eH;split at h
    ·rename_i dd;simp only[b5];exact⟨rfl,_,_,_,rfl⟩
    ·exact h.elim
   ·exact h.elim
  ·exact h.elim
def I'{t t':TypeId}{x y:Prop×ad}(aa:gx s1 x.2=gx s x.2)(ab:∀size,hy s1 size y.2=hy s size y.2) :
  ((eK P s1 t t' x y).1↔(eK P s t t' x y).1)/\(eK P s1 t t' x y).2.2=(eK P s t t' x y).2.2:=by
 unfold eK;cases strOf y.2 with
 |some l=>dsimp only;unfold vu;rw[aa];split<;>exact⟨iB,rfl⟩
 |none=>
  dsimp only;unfold tO;split
  ·rw[aa,ab];split
   ·exact⟨iB,rfl⟩
   ·exact⟨iB,rfl⟩
   ·split<;>exact⟨iB,rfl⟩
   ·exact⟨iB,rfl⟩
  ·exact⟨iB,rfl⟩
def Ja{v:ad}(h:∀b,v.refs b=true->s1 b=s b):gx s1 v=gx s v:=by
 unfold gx;split
 ·rfl
 ·simp only[h _ (lW _)]
 ·simp only[h _ (lW _)]
 ·rfl
def ei(s:ag):ad->Bool
 |.x _=>true
 |.elem _=>true
 |.ptr i _=>match s i with
  |.box _=>true
  |_=>false
 |.alias i=>match s i with
  |.mp _ _ _=>true
  |_=>false
 |.cond _ v=>ei s v
 |_=>false
def ad.Fw:ad->Bool
 |.box _=>true
 |.mp _ _ _=>true
 |_=>false
def zdz{a:ad}(h:a.Fw=true):a.aM=true:=by cases a<;>first|rfl|cases h
def Fx{a:ad}(h:a.Fw=true):a.lz=false:=by cases a<;>first|rfl|cases h
def T6{a:ad}(h:a.Fw=true)(j:Nat):a.refs j=false:=by cases a<;>first|rfl|cases h
def T7:ad->Bool
 |.x (.one .any)=>false
 |_=>true
def tZ:Op->Option (List Operand)
 |.move x=>some [x]
 |.nilCheck x=>some [x]
 |.load _ x=>some [x]
 |.fieldAddr _ x _=>some [x]
 |.field _ x _=>some [x]
 |.extract x _=>some [x]
 |.unOp _ _ x=>some [x]
 |.convert _ _ x=>some [x]
 |.binOp _ _ x y _=>some [x,y]
 |.index _ x i=>some [x,i]
 |.pick c x y=>some [c,x,y]
 |.build _ pF=>some (pF.toList.map (·.2))
 |.buildSlice _ _ pF=>some (pF.toList.map (·.2))
 |.alloc _=>some []
 |.box _ x=>some [x]
 |.call c=>match c.callee with
  |.value f=>some (f::c.args.toList)
  |.builtin .len=>some c.args.toList
  |_=>none
 |_=>none
def pM(s:ag):List Operand->Bool
 |[]=>true
 |x::r=>ei s (look s x)&&pM s r
def iE(P:Program)(s:ag)(op:Op):Prop:=
 (match tZ op with
  |some l=>pM s l=true
  |none=>False) /\
 match op with
 |.load t x=>T7 (js (tk P t) (ea P t) (aG s x).1 (mem s (aG s x).2)).2=true
 |_=>True
def T8:∀{l:List Operand},pM s l=true->∀x∈l,ei s (look s x)=true
 |[],_,x,h=>by cases h
 |y::r,h,x,aj=>by
  simp only[pM,b4]at h;rcases eT.1 aj with rfl|aj
  ·exact h.1
  ·exact T8 h.2 x aj
def zdA{op:Op}{l:List Operand}(h:tZ op=some l):∀x∈op.operands,x∈l:=by
 intro x aj;cases op<;>simp only[tZ]at h<;>first|(cases h;done)|(injection h with h;subst h;first|(simpa[Op.operands]using aj)|(simp[Op.operands]at aj))|skip
 rename_i c;obtain⟨callee,args,ts⟩:=c;cases callee with
 |value f=>injection h with h;subst h;simpa[Op.operands,Call.operands]using aj
 |builtin b=>cases b<;>first|(cases h;done)|(injection h with h;subst h;simpa[Op.operands,Call.operands]using aj)
 |_=>cases h
def Fy{op:Op}(h:iE P s op):∀x∈op.operands,ei s (look s x)=true:=by
 intro x aj;obtain⟨h,_⟩:=h;split at h
 ·rename_i l e;exact T8 h x (zdA e x aj)
 ·exact h.elim
def Jb:∀{v:ad} {b:Nat},ei s v=true->v.refs b=true->(s b).Fw=true
 |.ptr i off,b,h,an=>by
  obtain rfl:i=b:=by simpa[ad.refs]using an
  unfold ei at h;split at h
  ·rename_i cs e;rw[e];rfl
  ·cases h
 |.alias i,b,h,an=>by
  obtain rfl:i=b:=by simpa[ad.refs]using an
  unfold ei at h;split at h
  ·rename_i e;rw[e];rfl
  ·cases h
 |.cond e v,b,h,an=>Jb (v:=v) h an
 |.x _,b,_,an=>by cases an
 |.elem _,b,_,an=>by cases an
def NJ{x:Operand}(ak:ei s (look s x)=true)(ap:∀t,x=.tmp t->s1 t=s t)(ae:∀i,(s i).Fw=true->s1 i=s i):dy s s1 x:=by
 cases x with
 |tmp t=>
  refine⟨ap t rfl,fun b h2=>?_⟩;have hv:ei s (look s (.tmp t))=true:=ak;simp only[look]at hv;split at hv
  ·rename_i cs e;rw[e]at h2;cases h2
  ·rename_i e;simp only[ei,e]at hv;cases hv
  ·rename_i e;rw[e]at h2;cases h2
  ·cases hv
  ·cases hv
  ·cases hv
  ·exact ae b (Jb hv h2)
 |_=>trivial
def T9:∀{v:ad},(∀b,v.refs b=true->s1 b=s b)->ei s1 v=ei s v
 |.ptr i off,h=>by simp only[ei,h i (by simp[ad.refs])]
 |.alias i,h=>by simp only[ei,h i (by simp[ad.refs])]
 |.cond e v,h=>T9 (v:=v) h
 |.x _,_=>rfl
 |.elem _,_=>rfl
 |.dead,_=>rfl
 |.b2 _,_=>rfl
 |.box _,_=>rfl
 |.dX _ _ _,_=>rfl
 |.own _ _ _,_=>rfl
 |.mp _ _ _,_=>rfl
 |.view _ _ _ _,_=>rfl
 |.cr _ _,_=>rfl
 |.link _ _ _,_=>rfl
 |.res _,_=>rfl
 |.ds _ _,_=>rfl
 |.cf _ _,_=>rfl
 |.cT _ _ _ _,_=>rfl
 |.fc _ _ _ _,_=>rfl
def zdB{x:Operand}(h:dy s s1 x){b:Nat}(ae:(look s x).refs b=true):s1 b=s b:=by
 cases x with
 |tmp t=>
  simp only[look]at ae;split at ae
  ·obtain rfl:t=b:=by simpa[ad.refs]using ae
   exact h.1
  ·obtain rfl:t=b:=by simpa[ad.refs]using ae
   exact h.1
  ·obtain rfl:t=b:=by simpa[ad.refs]using ae
   exact h.1
  ·cases ae
  ·cases ae
  ·cases ae
  ·exact h.2 b ae
 |const v=>
  simp only[look,tp]at ae;split at ae
  ·split at ae<;>cases ae
  ·cases ae
  ·split at ae<;>cases ae
 |_=>cases ae
def T_:∀{l:List Operand},(∀x∈l,dy s s1 x)->pM s1 l=pM s l
 |[],_=>rfl
 |x::r,h=>by have aj:=h x (by simp);simp only[pM,Nn aj,T9 (fun b ae=>zdB aj ae),T_ (l:=r) (fun y aS=>h y (by simp[aS]))]
def zdC{op:Op}{l:List Operand}(h:tZ op=some l):∀x∈l,x∈op.operands:=by
 intro x aj;cases op<;>simp only[tZ]at h<;>first|(cases h;done)|(injection h with h;subst h;first|(simpa[Op.operands]using aj)|(simp[Op.operands]at aj))|skip
 rename_i c;obtain⟨callee,args,ts⟩:=c;cases callee with
 |value f=>injection h with h;subst h;simpa[Op.operands,Call.operands]using aj
 |builtin b=>cases b<;>first|(cases h;done)|(injection h with h;subst h;simpa[Op.operands,Call.operands]using aj)
 |_=>cases h
def Cb{op:Op}(h:∀x∈op.operands,dy s s1 x):iE P s1 op↔iE P s op:=by
 have aa:(match tZ op with|some l=>pM s1 l=true|none=>False)↔(match tZ op with|some l=>pM s l=true|none=>False):=by
  cases e:tZ op with
  |none=>exact iB
  |some l=>dsimp only;rw[T_ (fun x aj=>h x (zdC e x aj))]
 unfold iE;rw[aa];cases op with
 |load t x=>have aj:=h x (by simp[Op.operands]);simp only[dD aj,mem_congr (fun b ae=>iO aj ae)]
 |_=>exact iB
def Cc{op:Op}(h:iE P s op):zl P s s1 op:=by
 cases op with
 |load t x=>
  obtain⟨_,h⟩:=h;unfold zl;dsimp only at h⊢;generalize js (tk P t) (ea P t) (aG s x).1 (mem s (aG s x).2)=v at h;have key:∀(t:ag) (r:ad),iu t r v=v:=by
   intro t r;rcases Ep t r v with e|⟨p,i,off,d,e,_⟩
   ·exact e
   ·rw[e]at h;cases h
  rw[key,key]
 |_=>trivial
def vI(g:Nat):Op->Bool
 |.move (.tmp k)=>k==g
 |_=>false
def nT(g:Nat):List Bool->List Oper->Bool
 |f::bo,o::r=>(!f ||(o.dst != some g&&!vI g o.op))&&nT g bo r
 |_,_=>true
def NK{g:Nat}:∀{fl:List Bool} {l:List Oper} {i:Nat} {o:Oper},nT g fl l=true->fl[i]?=some true->l[i]?=some o->o.dst≠some g/\vI g o.op=false
 |[],l,i,o,_,h,_=>by simp at h
 |f::bo,[],i,o,_,_,h=>by simp at h
 |f::bo,x::r,0,o,h,aa,ab=>by simp only[Ew,bS]at aa ab;subst aa;subst ab;simp only[nT,b4]at h;have:=h.1;simp only[Bool.not_true,va,b4,xE,ne_eq,vf]at this;exact this
 |f::bo,x::r,i+1,o,h,aa,ab=>by simp only[nT,b4]at h;exact NK h.2 (by simpa using aa) (by simpa using ab)
def NL{g:Nat}{fl:List Bool}{l:List Oper}{i:Nat}{o:Oper}(h:nT g fl l=true)(aa:fl[i]?=some true)(ab:l[i]?=some o):o.dst≠some g:=(NK h aa ab).1
def Cd(s:ag)(d:Nat)(fl:List Bool)(ops:Array Oper):Option Nat->Prop
 |some g=>(g=d\/(s d).aM=false)/\nT g fl ops.toList=true
 |none=>(s d).aM=false
def zdD(n:Nat)(s:ag)(d:Nat)(fl:List Bool)(ops:Array Oper)(x:ad)(tk:Option Nat):Prop:=
 Cd s d fl ops tk\/∃g,x=.alias g/\tk=some g/\n<=g/\(s g).kP=true/\(s d).aM=false
def Jc{n a_:Nat}{s:ag}{r:ad}{x bH:Prop×ad}(ac:(s a_).aM=false)(ax:a_<n):B4 n (put s a_ r) x bH↔B4 n s x bH:=by
 have e:∀g,n<=g->put s a_ r g=s g:=fun g aB=>by rw[d_ ac,au (by omega)]
 unfold B4;constructor
 ·rintro (h|⟨p,v,g,av,z,xs,aa,ab,ar,aN⟩)
  ·exact .inl h
  ·exact .inr ⟨p,v,g,av,z,xs,aa,ab,by rw[<-e g ab];exact ar,aN⟩
 ·rintro (h|⟨p,v,g,av,z,xs,aa,ab,ar,aN⟩)
  ·exact .inl h
  ·exact .inr ⟨p,v,g,av,z,xs,aa,ab,by rw[e g ab];exact ar,aN⟩
def Jd{n a_:Nat}{s:ag}{r:ad}{x:Prop×ad}{k:Prop×ad->Prop}(ac:(s a_).aM=false)(ax:a_<n):l' n (put s a_ r) x k↔l' n s x k:=by
 have e:∀g,n<=g->put s a_ r g=s g:=fun g aB=>by rw[d_ ac,au (by omega)]
 unfold l';split
 ·constructor
  ·rintro⟨g,aa,⟨a,b,c,ab⟩,ar⟩;exact⟨g,aa,⟨a,b,c,by rw[<-e g aa];exact ab⟩,ar⟩
  ·rintro⟨g,aa,⟨a,b,c,ab⟩,ar⟩;exact⟨g,aa,⟨a,b,c,by rw[e g aa];exact ab⟩,ar⟩
 ·exact iB
def pN(P:Program)(n:Nat)(fl:List Bool)(ops:Array Oper)(o:Oper)(s s':ag):Prop:=
 ∃d x y t t' bH,o.dst=some d/\d<n/\o.op=.call ⟨.builtin .append,⟨[x,y]⟩,⟨[t,t']⟩⟩/\o.guard=none/\B4 n s (aG s x) bH/\(∀bu,bu bH->l' n s (aG s x) bu)/\zdD n s d fl ops bH.2 (ie s bH.2) /\
  (eK P s t t' bH (aG s y)).1/\s'=put (eK P s t t' bH (aG s y)).2.1 d (eK P s t t' bH (aG s y)).2.2
def Fz(s:ag)(tk:Option Nat)(k:Nat):ad:=match tk with
 |some g=>if k=g then .dead else if (s k).refs g=true then .dead else s k
 |none=>s k
def Je{s:ag}{d:Nat}{tk:Option Nat}{v:ad}(aH:∀j,v.refs j=false)(aw:∀g,tk=some g->(s g).aM=true)(ax:tk=some d\/(s d).aM=false)(k:Nat) :
  put (kY s tk) d v k=if k=d then v else Fz s tk k:=by
 by_cases am:k=d
 ·subst am;rw[aC rfl];exact jo (aH k)
 ·rw[au am];cases tk with
  |none=>
   have fP:(s d).aM=false:=by
    rcases ax with h|h
    ·cases h
    ·exact h
   show put s d v k=s k;rw[d_ fP,au am]
  |some g=>
   have Ce:=aw g rfl;have fP:(put s g .dead d).aM=false:=by
    by_cases aB:d=g
    ·subst aB;have:put s d .dead d=.dead:=jo rfl;rw[this];rfl
    ·rcases ax with h|h
     ·injection h with h;exact absurd h.symm aB
     ·rcases ou (s:=s) (v:=.dead) aB with e|⟨_,_,e⟩
      ·rw[e];exact h
      ·rw[e];rfl
   show put (put s g .dead) d v k=if k=g then .dead else if (s k).refs g=true then .dead else s k
   rw[d_ fP,au am];by_cases aB:k=g
   ·subst aB;rw[aC rfl];exact jo rfl
   ·rw[au aB];cases an:(s k).refs g with
    |true=>rw[Ed aB Ce an,aC rfl]
    |false=>rw[HU aB an,au (by simp)]
end
section
variable {P:Program}{n:Nat}{fl:List Bool}{ops:Array Oper}
def T'{s:ag}{g:Nat}(aB:(s g).lz=true):ei s (look s (.tmp g))=false:=by simp only[look];cases h:s g<;>rw[h]at aB<;>first|(simp[ad.lz]at aB;done)|rfl|(simp only[ei,h])
def Ua{s:ag}(hw:cq s){op:Op}(ak:iE P s op){g:Nat}(aB:(s g).lz=true){r:ad} :
  (fY P s op r->r.refs g=false)/\∀e,kV P s e op r->r.refs g=false:=by
 have tM:(s g).aM=true:=I9 aB;have sm:cq (put s g .dead):=fe hw (fun j h=>by cases h);have eU:∀x∈op.operands,dy s (put s g .dead) x:=by
  intro x aj;have sn:=Fy ak x aj;refine NJ sn (fun t ba=>?_) (fun i ai=>?_)
  ·subst ba;have zdE:t≠g:=by rintro rfl;rw[T' aB]at sn;cases sn
   refine HU zdE ?_;cases an:(s t).refs g with
   |false=>rfl
   |true=>
    exfalso;simp only[look]at sn;split at sn
    ·rename_i cs e;rw[e]at an;cases an
    ·rename_i e;simp only[ei,e]at sn;cases sn
    ·rename_i e;rw[e]at an;cases an
    ·cases sn
    ·cases sn
    ·cases sn
    ·rw[Fx (Jb sn an)]at aB;cases aB
  ·have zw:i≠g:=by rintro rfl;rw[Fx ai]at aB;cases aB
   exact HU zw (T6 ai g)
 have ax:(put s g .dead g).aM=false:=by rw[jo rfl];rfl
 refine⟨fun h=>?_,fun e h=>?_⟩
 ·cases an:r.refs g with
  |false=>rfl
  |true=>have:=I5 sm ((zm op r eU (Cc ak)).2 h) an;rw[ax]at this;cases this
 ·cases an:r.refs g with
  |false=>rfl
  |true=>have:=TY sm ((B7 op r eU (Cc ak)).2 h) an;rw[ax]at this;cases this
def zdF{s:ag}{t g:Nat}(ak:ei s (look s (.tmp t))=true)(aB:(s g).lz=true):t≠g/\(s t).refs g=false:=by
 refine⟨(by rintro rfl;rw[T' aB]at ak;cases ak),?_⟩;cases an:(s t).refs g with
 |false=>rfl
 |true=>
  exfalso;simp only[look]at ak;split at ak
  ·rename_i cs e;rw[e]at an;cases an
  ·rename_i e;simp only[ei,e]at ak;cases ak
  ·rename_i e;rw[e]at an;cases an
  ·cases ak
  ·cases ak
  ·cases ak
  ·rw[Fx (Jb ak an)]at aB;cases aB
def Jf{s:ag}{d a_:Nat}{tk:Option Nat}{v r:ad}(aH:∀j,v.refs j=false)(aw:∀g,tk=some g->(s g).lz=true/\a_≠g/\r.refs g=false)(ax:tk=some d\/(s d).aM=false)
  (ac:(s a_).aM=false)(bC:a_≠d):(∀k,put (kY s tk) d v k=if k=d then v else Fz s tk k)/\(put (kY s tk) d v a_).aM=false/\put (kY (put s a_ r) tk) d v=put (put (kY s tk) d v) a_ r:=by
 have Cf:∀g,tk=some g->(s g).aM=true:=fun g aB=>I9 (aw g aB).1;have bO:=Je aH Cf ax;have Jg:∀k,put s a_ r k=if k=a_ then (match r.refs a_ with|true=>.dead|false=>r)else s k:=fun k=>d_ ac k
 have jc:put s a_ r d=s d:=by rw[Jg,au (mW bC)]
 have NM:=Je (s:=put s a_ r) (d:=d) (tk:=tk) (v:=v) aH (fun g aB=>by rw[Jg,au (mW (aw g aB).2.1)];exact Cf g aB) (by rw[jc];exact ax);have ed:(put (kY s tk) d v a_).aM=false:=by
  rw[bO,au bC];cases tk with
  |none=>exact ac
  |some g=>
   show (if a_=g then ad.dead else if (s a_).refs g=true then .dead else s a_).aM=false;rw[au (aw g rfl).2.1];split
   ·rfl
   ·exact ac
 refine⟨bO,ed,?_⟩;funext k;rw[NM,d_ ed];by_cases h8:k=a_
 ·subst h8;rw[au bC,aC rfl];have xe:put s k r k=(match r.refs k with|true=>.dead|false=>r):=by rw[Jg,aC rfl]
  cases tk with
  |none=>exact xe
  |some g=>
   show (if k=g then ad.dead else if (put s k r k).refs g=true then .dead else put s k r k)=_;rw[au (aw g rfl).2.1,xe];have:ad.refs g (match r.refs k with|true=>ad.dead|false=>r)=false:=by
    cases r.refs k with
    |true=>rfl
    |false=>exact(aw g rfl).2.2
   rw[this,au (by simp)]<;>cases r.refs k<;>rfl
 ·rw[au h8,bO];have zdG:put s a_ r k=s k:=by rw[Jg,au h8]
  unfold Fz;rw[zdG]
def Jh{s:ag}{P:Program}{t t':TypeId}{x y:Prop×ad}(hw:cq s):∀j,(eK P s t t' x y).2.2.refs j=false:=(ND hw).2
def FA{bz bh:Oper}{j:Nat}{s s1 s2:ag}(hw:cq s)(lc:ops[j]?=some bh)(eh:fl[j]?=some true)
  (de:∀d,bh.dst=some d->d∉bz.looksAt ops)(a2:∀d,bz.dst=some d->d∉bh.looksAt ops)(a3:∀d,bh.dst=some d->bz.dst≠some d)
  (ac:gE P n ops bh s s1)(ak:iE P s bh.op)(ai:pN P n fl ops bz s1 s2):∃b7,pN P n fl ops bz s b7/\gE P n ops bh b7 s2/\iE P b7 bh.op:=by
 obtain⟨a_,r,ed,e5,cZ,rfl,gT⟩:=ac;obtain⟨d,x,y,t,t',bH,ax,hdn,cF,tN,io,has,aE,ao,rfl⟩:=ai;have bC:a_≠d:=fun e=>a3 a_ ed (by rw[ax,e]);have eU:∀z∈bz.op.operands,dy s (put s a_ r) z:=fun z aY=>ma hw cZ (kW bz a_ (de a_ ed) z aY);have aj:=eU x (by rw[cF];simp[Op.operands,Call.operands]);have aS:=eU y (by rw[cF];simp[Op.operands,Call.operands]);rw[dD aS]at ao⊢;rw[dD aj]at io has;have FB:=(Jc cZ e5).1 io;have NN:∀bu,bu bH->l' n s (aG s x) bu:=fun bu h=>(Jd cZ e5).1 (has bu h);have so:∀b,bH.2.refs b=true->put s a_ r b=s b:=by
  intro b ae;rcases FB with rfl|⟨p,v,g,e,z,xs,_,jX,_,rfl⟩
  ·exact iO aj ae
  ·obtain rfl:g=b:=by simpa[ad.refs]using ae
   have sq:@LT.lt Nat _ a_ n:=e5;have mc:g≠a_:=by omega
   rw[d_ cZ,au mc]
 have eW:gx (put s a_ r) bH.2=gx s bH.2:=Ja so;have vk:∀size,hy (put s a_ r) size (aG s y).2=hy s size (aG s y).2:=fun size=>Fl (fun b ae=>iO aS ae);obtain⟨mb,t8⟩:=I' (P:=P) (t:=t) (t':=t') (x:=bH) (y:=aG s y) eW vk;have m6:ie (put s a_ r) bH.2=ie s bH.2:=by unfold ie;rw[eW]
 have jc:put s a_ r d=s d:=by rw[d_ cZ,au (mW bC)]
 have sr:=(xD ao).1;have kn:=mb.1 ao;obtain⟨b3,ch,z0,vc,lu⟩:=xD kn;rw[m6]at sr aE;rw[sr,t8];generalize ss:ie s bH.2=tk at*;have fV:(∀g,(s g).lz=true->r.refs g=false):=by
  intro g aB;have h:=Ua (P:=P) hw ak aB (r:=r);cases hl:bh.guard with
  |none=>rw[hl]at gT;exact h.1 gT
  |some su=>rw[hl]at gT;obtain⟨e,_,aH⟩:=gT;exact h.2 e aH
 have aw:∀g,tk=some g->(s g).lz=true/\a_≠g/\r.refs g=false:=by
  intro g aB;have Ce:=(I_ (ss.trans aB)).1;refine⟨Ce,?_,fV g Ce⟩;rcases aE with aE|⟨bQ,_,eJ,jX,dB,_⟩
  ·rw[aB]at aE;have:=NL aE.2 eh (by simpa using lc);rintro rfl;exact this ed
  ·rw[aB]at eJ;injection eJ with eJ
   have sq:@LT.lt Nat _ a_ n:=e5;subst eJ;intro bV;have aI:@Eq Nat a_ g:=bV;omega
 have e1:tk=some d\/(s d).aM=false:=by
  rcases aE with aE|⟨bQ,_,eJ,jX,dB,dI⟩
  ·cases tk with
   |none=>exact .inr (by rw[<-jc];exact aE)
   |some g=>
    rcases aE.1 with h|h
    ·exact .inl (by rw[h])
    ·exact .inr (by rw[<-jc];exact h)
  ·exact .inr (by rw[<-jc];exact dI)
 obtain⟨bO,jY,zx⟩:=Jf (r:=r) (Jh (P:=P) (t:=t) (t':=t') (x:=bH) (y:=aG s y) hw) aw e1 cZ bC;have pi:∀k,k≠d->(∀g,tk=some g->k≠g/\(s k).refs g=false)->put (kY s tk) d (eK P s t t' bH (aG s y)).2.2 k=s k:=by
  intro k am h;rw[bO,au am];cases tk with
  |none=>rfl
  |some g=>show (if k=g then ad.dead else if (s k).refs g=true then .dead else s k)=s k;rw[au (h g rfl).1,(h g rfl).2];simp
 have zy:∀z∈bh.op.operands,dy s (put (kY s tk) d (eK P s t t' bH (aG s y)).2.2) z:=by
  intro z aY;have Cg:=Fy ak z aY;refine NJ Cg (fun t0 ba=>?_) (fun i ai=>?_)
  ·subst ba;refine pi t0 ?_ (fun g aB=>zdF Cg (aw g aB).1);rintro rfl;exact kW bh t0 (a2 t0 ax) _ aY rfl
  ·refine pi i ?_ (fun g aB=>?_)
   ·rintro rfl;rcases e1 with h|h
    ·have e:=(aw i h).1;rw[Fx ai]at e;cases e
    ·rw[zdz ai]at h;cases h
   ·have e:=(aw g aB).1;exact⟨(by rintro rfl;rw[Fx ai]at e;cases e),T6 ai g⟩
 refine⟨put (kY s tk) d (eK P s t t' bH (aG s y)).2.2,⟨d,x,y,t,t',bH,ax,hdn,cF,tN,FB,NN,?_,kn,by rw[b3]⟩,⟨a_,r,ed,e5,jY,zx,?_⟩,(Cb zy).2 ak⟩
 ·rw[ss];rcases aE with aE|⟨bQ,eP,eJ,jX,dB,dI⟩
  ·refine .inl ?_;cases tk with
   |none=>show (s d).aM=false;rw[<-jc];exact aE
   |some g=>refine⟨?_,aE.2⟩;rw[<-jc];exact aE.1
  ·have sq:@LT.lt Nat _ a_ n:=e5;have mc:¬@Eq Nat bQ a_:=by omega
   exact .inr ⟨bQ,eP,eJ,jX,by rw[d_ cZ,au mc]at dB;exact dB,by rw[<-jc];exact dI⟩
 ·cases hl:bh.guard with
  |none=>rw[hl]at gT;exact(zm bh.op r zy (Cc ak)).2 gT
  |some su=>
   rw[hl]at gT;obtain⟨e,he,aH⟩:=gT;refine⟨e,?_,(B7 bh.op r zy (Cc ak)).2 aH⟩;rw[<-he];refine B8 (fun bt e8=>?_);have zdH:=I3 bh d su (a2 d ax) hl bt e8;refine pi bt zdH (fun g aB=>?_);have pG:=(aw g aB).1;unfold c1 at he;rw[e8]at he;simp only at he;split at he
   ·rename_i b ap;exact⟨(by rintro rfl;rw[ap]at pG;simp[ad.lz]at pG),by rw[ap];rfl⟩
   ·rename_i bV b ap;exact⟨(by rintro rfl;rw[ap]at pG;simp[ad.lz]at pG),by rw[ap];rfl⟩
   ·cases he
def FC{bz bh:Oper}{j:Nat}{s s1 s2:ag}(hw:cq s)(lc:ops[j]?=some bh)(eh:fl[j]?=some true)
  (de:∀d,bh.dst=some d->d∉bz.looksAt ops)(a2:∀d,bz.dst=some d->d∉bh.looksAt ops)(a3:∀d,bh.dst=some d->bz.dst≠some d)
  (ai:pN P n fl ops bz s s1)(ac:gE P n ops bh s1 s2)(ak:iE P s1 bh.op):∃b7,gE P n ops bh s b7/\iE P s bh.op/\pN P n fl ops bz b7 s2:=by
 obtain⟨d,x,y,t,t',bH,ax,hdn,cF,tN,io,has,aE,ao,rfl⟩:=ai;obtain⟨a_,r,ed,e5,md,rfl,gT⟩:=ac;have bC:a_≠d:=fun e=>a3 a_ ed (by rw[ax,e]);obtain⟨b3,ch,z0,vc,lu⟩:=xD ao;generalize ss:ie s bH.2=tk at b3 aE;have gw:∀g,tk=some g->(s g).lz=true/\a_≠g:=by
  intro g aB;refine⟨(I_ (ss.trans aB)).1,?_⟩;rcases aE with aE|⟨bQ,_,eJ,jX,dB,_⟩
  ·rw[aB]at aE;have:=NL aE.2 eh (by simpa using lc);rintro rfl;exact this ed
  ·rw[aB]at eJ;injection eJ with eJ
   have sq:@LT.lt Nat _ a_ n:=e5;subst eJ;intro bV;have aI:@Eq Nat a_ g:=bV;omega
 have e1:tk=some d\/(s d).aM=false:=by
  rcases aE with aE|⟨bQ,_,eJ,jX,dB,dI⟩
  ·cases tk with
   |none=>exact .inr aE
   |some g=>
    rcases aE.1 with h|h
    ·exact .inl (by rw[h])
    ·exact .inr h
  ·exact .inr dI
 have rJ:=Jh (P:=P) (t:=t) (t':=t') (x:=bH) (y:=aG s y) hw;have Cf:∀g,tk=some g->(s g).aM=true:=fun g aB=>I9 (gw g aB).1;have bO:=Je rJ Cf e1;rw[b3]at ak md gT⊢;have zk:∀k,k≠d->put (kY s tk) d (eK P s t t' bH (aG s y)).2.2 k=.dead\/put (kY s tk) d (eK P s t t' bH (aG s y)).2.2 k=s k:=by
  intro k am;rw[bO,au am];cases tk with
  |none=>exact .inr rfl
  |some g=>
   show (if k=g then ad.dead else if (s k).refs g=true then .dead else s k)=.dead\/(if k=g then ad.dead else if (s k).refs g=true then .dead else s k)=s k;split
   ·exact .inl rfl
   ·split
    ·exact .inl rfl
    ·exact .inr rfl
 have zy:∀z∈bh.op.operands,dy (put (kY s tk) d (eK P s t t' bH (aG s y)).2.2) s z:=by
  intro z aY;have Cg:=Fy ak z aY;refine NJ Cg (fun t0 ba=>?_) (fun i ai=>?_)
  ·subst ba;rcases zk t0 (by rintro rfl;exact kW bh t0 (a2 t0 ax) _ aY rfl)with e|e
   ·simp only[look,e]at Cg;cases Cg
   ·exact e.symm
  ·rcases zk i (by rintro rfl;rw[bO,aC rfl,lu]at ai;cases ai)with e|e
   ·rw[e]at ai;cases ai
   ·exact e.symm
 have hv:=(Cb zy).2 ak;have jY:(s a_).aM=false:=by
  cases h:(s a_).aM with
  |false=>rfl
  |true=>
   exfalso;rw[bO,au bC]at md;cases tk with
   |none=>rw[show Fz s none a_=s a_ from rfl,h]at md;cases md
   |some g=>
    have:(if a_=g then ad.dead else if (s a_).refs g=true then .dead else s a_).aM=false:=md;rw[au (gw g rfl).2]at this;split at this
    ·rename_i an;rw[kI an]at h;cases h
    ·rw[h]at this;cases this
 have zdI:∀su,bh.guard=some su->∀e,c1 ops (put (kY s tk) d (eK P s t t' bH (aG s y)).2.2) su=some e->c1 ops s su=some e:=by
  intro su hl e he;rw[<-he];refine B8 (fun bt e8=>?_);rcases zk bt (I3 bh d su (a2 d ax) hl bt e8)with av|av
  ·unfold c1 at he;rw[e8]at he;simp only[av]at he;cases he
  ·exact av.symm
 have zz:match bh.guard with
   |none=>fY P s bh.op r
   |some g=>∃e,c1 ops s g=some e/\kV P s e bh.op r:=by
  cases hl:bh.guard with
  |none=>rw[hl]at gT;exact(zm bh.op r zy (Cc ak)).2 gT
  |some su=>rw[hl]at gT;obtain⟨e,he,aH⟩:=gT;exact⟨e,zdI su hl e he,(B7 bh.op r zy (Cc ak)).2 aH⟩
 have fV:(∀g,(s g).lz=true->r.refs g=false):=by
  intro g aB;have h:=Ua (P:=P) hw hv aB (r:=r);cases hl:bh.guard with
  |none=>rw[hl]at zz;exact h.1 zz
  |some su=>rw[hl]at zz;obtain⟨e,_,aH⟩:=zz;exact h.2 e aH
 have aw:∀g,tk=some g->(s g).lz=true/\a_≠g/\r.refs g=false:=fun g aB=>⟨(gw g aB).1,(gw g aB).2,fV g (gw g aB).1⟩
 obtain⟨_,_,zx⟩:=Jf (r:=r) rJ aw e1 jY bC;have eU:∀z∈bz.op.operands,dy s (put s a_ r) z:=fun z aY=>ma hw jY (kW bz a_ (de a_ ed) z aY);have aj:=eU x (by rw[cF];simp[Op.operands,Call.operands]);have aS:=eU y (by rw[cF];simp[Op.operands,Call.operands]);have so:∀b,bH.2.refs b=true->put s a_ r b=s b:=by
  intro b ae;rcases io with rfl|⟨p,v,g,e,z,xs,_,jX,_,rfl⟩
  ·exact iO aj ae
  ·obtain rfl:g=b:=by simpa[ad.refs]using ae
   have sq:@LT.lt Nat _ a_ n:=e5;have mc:g≠a_:=by omega
   rw[d_ jY,au mc]
 have eW:gx (put s a_ r) bH.2=gx s bH.2:=Ja so;have vk:∀size,hy (put s a_ r) size (aG s y).2=hy s size (aG s y).2:=fun size=>Fl (fun b ae=>iO aS ae);obtain⟨mb,t8⟩:=I' (P:=P) (t:=t) (t':=t') (x:=bH) (y:=aG s y) eW vk;have m6:ie (put s a_ r) bH.2=tk:=by unfold ie;rw[eW];exact ss
 have jc:put s a_ r d=s d:=by rw[d_ jY,au (mW bC)]
 have zA:=mb.2 ao;refine⟨put s a_ r,⟨a_,r,ed,e5,jY,rfl,zz⟩,hv,⟨d,x,y,t,t',bH,ax,hdn,cF,tN,?_,?_,?_,?_,?_⟩⟩
 ·rw[dD aj];exact(Jc jY e5).2 io
 ·intro bu h;rw[dD aj];exact(Jd jY e5).2 (has bu h)
 ·rw[m6];rcases aE with aE|⟨bQ,eP,eJ,jX,dB,dI⟩
  ·refine .inl ?_;cases tk with
   |none=>show (put s a_ r d).aM=false;rw[jc];exact aE
   |some g=>refine⟨?_,aE.2⟩;rw[jc];exact aE.1
  ·have sq:@LT.lt Nat _ a_ n:=e5;have mc:¬@Eq Nat bQ a_:=by omega
   exact .inr ⟨bQ,eP,eJ,jX,by rw[d_ jY,au mc];exact dB,by rw[jc];exact dI⟩
 ·rw[dD aS];exact zA
 ·rw[dD aS,(xD zA).1,m6,t8];exact zx.symm
def Ch{s:ag}{k e z:Nat}{xs:List (List af)}(h:s k=.own e z xs):aG s (.tmp k)=(True,.alias k):=by unfold aG;simp only[look,h];rfl
def pO(s:ag)(o:Oper):Prop:=∃k e z xs,o.op=.move (.tmp k)/\o.guard=none/\s k=.own e z xs
def zdJ{bz bh:Oper}{j:Nat}{s s1 s2:ag}(hw:cq s)(lc:ops[j]?=some bh)(eh:fl[j]?=some true)
  (de:∀d,bh.dst=some d->d∉bz.looksAt ops)(a2:∀d,bz.dst=some d->d∉bh.looksAt ops)(a3:∀d,bh.dst=some d->bz.dst≠some d)
  (ac:gE P n ops bh s s1)(ak:pO s bh)(ai:pN P n fl ops bz s1 s2):∃b7,pN P n fl ops bz s b7/\gE P n ops bh b7 s2/\pO b7 bh:=by
 obtain⟨a_,r,ed,e5,cZ,rfl,gT⟩:=ac;obtain⟨fG,av,Ci,FD,l_,hl,d9⟩:=ak;have an:r=.alias fG:=by rw[hl,l_]at gT;have:r=(aG s (.tmp fG)).2:=gT.2;rw[this,Ch d9]
 obtain⟨d,x,y,t,t',bH,ax,hdn,cF,tN,io,has,aE,ao,rfl⟩:=ai;have bC:a_≠d:=fun e=>a3 a_ ed (by rw[ax,e]);have eU:∀z∈bz.op.operands,dy s (put s a_ r) z:=fun z aY=>ma hw cZ (kW bz a_ (de a_ ed) z aY);have aj:=eU x (by rw[cF];simp[Op.operands,Call.operands]);have aS:=eU y (by rw[cF];simp[Op.operands,Call.operands]);rw[dD aS]at ao⊢;rw[dD aj]at io has;have FB:=(Jc cZ e5).1 io;have NN:∀bu,bu bH->l' n s (aG s x) bu:=fun bu h=>(Jd cZ e5).1 (has bu h);have so:∀b,bH.2.refs b=true->put s a_ r b=s b:=by
  intro b ae;rcases FB with rfl|⟨p,v,g,e,z,xs,_,jX,_,rfl⟩
  ·exact iO aj ae
  ·obtain rfl:g=b:=by simpa[ad.refs]using ae
   have sq:@LT.lt Nat _ a_ n:=e5;have mc:g≠a_:=by omega
   rw[d_ cZ,au mc]
 have eW:gx (put s a_ r) bH.2=gx s bH.2:=Ja so;have vk:∀size,hy (put s a_ r) size (aG s y).2=hy s size (aG s y).2:=fun size=>Fl (fun b ae=>iO aS ae);obtain⟨mb,t8⟩:=I' (P:=P) (t:=t) (t':=t') (x:=bH) (y:=aG s y) eW vk;have m6:ie (put s a_ r) bH.2=ie s bH.2:=by unfold ie;rw[eW]
 have jc:put s a_ r d=s d:=by rw[d_ cZ,au (mW bC)]
 have sr:=(xD ao).1;have kn:=mb.1 ao;obtain⟨b3,ch,z0,vc,lu⟩:=xD kn;rw[m6]at sr aE;rw[sr,t8];generalize ss:ie s bH.2=tk at*;have aw:∀g,tk=some g->(s g).lz=true/\a_≠g/\r.refs g=false:=by
  intro g aB;have Ce:=(I_ (ss.trans aB)).1;refine⟨Ce,?_⟩;rcases aE with aE|⟨bQ,_,eJ,jX,dB,_⟩
  ·rw[aB]at aE;obtain⟨aa,ab⟩:=NK aE.2 eh (by simpa using lc);refine⟨?_,?_⟩
   ·rintro rfl;exact aa ed
   ·rw[an];rw[l_]at ab;exact ab
  ·rw[aB]at eJ;injection eJ with eJ
   have sq:@LT.lt Nat _ a_ n:=e5;subst eJ;refine⟨fun bV=>?_,?_⟩
   ·have aI:@Eq Nat a_ g:=bV;omega
   ·rw[an];have mc:¬@Eq Nat g a_:=by omega
    rw[d_ cZ,au mc]at dB;show (fG==g)=false
    rw[jz];rintro rfl;rw[d9]at dB;cases dB
 have e1:tk=some d\/(s d).aM=false:=by
  rcases aE with aE|⟨bQ,_,eJ,jX,dB,dI⟩
  ·cases tk with
   |none=>exact .inr (by rw[<-jc];exact aE)
   |some g=>
    rcases aE.1 with h|h
    ·exact .inl (by rw[h])
    ·exact .inr (by rw[<-jc];exact h)
  ·exact .inr (by rw[<-jc];exact dI)
 obtain⟨bO,jY,zx⟩:=Jf (r:=r) (Jh (P:=P) (t:=t) (t':=t') (x:=bH) (y:=aG s y) hw) aw e1 cZ bC;have pi:∀k,k≠d->(∀g,tk=some g->k≠g/\(s k).refs g=false)->put (kY s tk) d (eK P s t t' bH (aG s y)).2.2 k=s k:=by
  intro k am h;rw[bO,au am];cases tk with
  |none=>rfl
  |some g=>show (if k=g then ad.dead else if (s k).refs g=true then .dead else s k)=s k;rw[au (h g rfl).1,(h g rfl).2];simp
 have NO:put (kY s tk) d (eK P s t t' bH (aG s y)).2.2 fG=s fG:=by
  refine pi fG ?_ (fun g aB=>⟨?_,by rw[d9];rfl⟩)
  ·rintro rfl;exact kW bh fG (a2 fG ax) (.tmp fG) (by rw[l_];simp[Op.operands]) rfl
  ·rintro rfl;have:=(aw fG aB).2.2;rw[an]at this;simp[ad.refs]at this
 refine⟨put (kY s tk) d (eK P s t t' bH (aG s y)).2.2,⟨d,x,y,t,t',bH,ax,hdn,cF,tN,FB,NN,?_,kn,by rw[b3]⟩,⟨a_,r,ed,e5,jY,zx,?_⟩,⟨fG,av,Ci,FD,l_,hl,by rw[NO];exact d9⟩⟩
 ·rw[ss];rcases aE with aE|⟨bQ,eP,eJ,jX,dB,dI⟩
  ·refine .inl ?_;cases tk with
   |none=>show (s d).aM=false;rw[<-jc];exact aE
   |some g=>refine⟨?_,aE.2⟩;rw[<-jc];exact aE.1
  ·have sq:@LT.lt Nat _ a_ n:=e5;have mc:¬@Eq Nat bQ a_:=by omega
   exact .inr ⟨bQ,eP,eJ,jX,by rw[d_ cZ,au mc]at dB;exact dB,by rw[<-jc];exact dI⟩
 ·rw[hl,l_];refine⟨?_,?_⟩
  ·show (aG _ (.tmp fG)).1;rw[Ch (NO.trans d9)];trivial
  ·show r=(aG _ (.tmp fG)).2;rw[an,Ch (NO.trans d9)]
def zdK{bz bh:Oper}{j:Nat}{s s1 s2:ag}(hw:cq s)(lc:ops[j]?=some bh)(eh:fl[j]?=some true)
  (de:∀d,bh.dst=some d->d∉bz.looksAt ops)(a2:∀d,bz.dst=some d->d∉bh.looksAt ops)(a3:∀d,bh.dst=some d->bz.dst≠some d)
  (ai:pN P n fl ops bz s s1)(ac:gE P n ops bh s1 s2)(ak:pO s1 bh):∃b7,gE P n ops bh s b7/\pO s bh/\pN P n fl ops bz b7 s2:=by
 obtain⟨d,x,y,t,t',bH,ax,hdn,cF,tN,io,has,aE,ao,rfl⟩:=ai;obtain⟨a_,r,ed,e5,md,rfl,gT⟩:=ac;have bC:a_≠d:=fun e=>a3 a_ ed (by rw[ax,e]);obtain⟨b3,ch,z0,vc,lu⟩:=xD ao;generalize ss:ie s bH.2=tk at b3 aE;have gw:∀g,tk=some g->(s g).lz=true/\a_≠g:=by
  intro g aB;refine⟨(I_ (ss.trans aB)).1,?_⟩;rcases aE with aE|⟨bQ,_,eJ,jX,dB,_⟩
  ·rw[aB]at aE;have:=NL aE.2 eh (by simpa using lc);rintro rfl;exact this ed
  ·rw[aB]at eJ;injection eJ with eJ
   have sq:@LT.lt Nat _ a_ n:=e5;subst eJ;intro bV;have aI:@Eq Nat a_ g:=bV;omega
 have e1:tk=some d\/(s d).aM=false:=by
  rcases aE with aE|⟨bQ,_,eJ,jX,dB,dI⟩
  ·cases tk with
   |none=>exact .inr aE
   |some g=>
    rcases aE.1 with h|h
    ·exact .inl (by rw[h])
    ·exact .inr h
  ·exact .inr dI
 have rJ:=Jh (P:=P) (t:=t) (t':=t') (x:=bH) (y:=aG s y) hw;have Cf:∀g,tk=some g->(s g).aM=true:=fun g aB=>I9 (gw g aB).1;have bO:=Je rJ Cf e1;rw[b3]at ak md gT⊢;obtain⟨fG,av,Ci,FD,l_,hl,d9⟩:=ak;have zk:∀k,k≠d->put (kY s tk) d (eK P s t t' bH (aG s y)).2.2 k=.dead\/put (kY s tk) d (eK P s t t' bH (aG s y)).2.2 k=s k:=by
  intro k am;rw[bO,au am];cases tk with
  |none=>exact .inr rfl
  |some g=>
   show (if k=g then ad.dead else if (s k).refs g=true then .dead else s k)=.dead\/(if k=g then ad.dead else if (s k).refs g=true then .dead else s k)=s k;split
   ·exact .inl rfl
   ·split
    ·exact .inl rfl
    ·exact .inr rfl
 have tD:fG≠d:=by rintro rfl;exact kW bh fG (a2 fG ax) (.tmp fG) (by rw[l_];simp[Op.operands]) rfl
 have ga:s fG=.own av Ci FD:=by
  rcases zk fG tD with e|e
  ·rw[e]at d9;cases d9
  ·rw[<-e];exact d9
 have an:r=.alias fG:=by rw[hl,l_]at gT;have:r=(aG _ (.tmp fG)).2:=gT.2;rw[this,Ch d9]
 have jY:(s a_).aM=false:=by
  cases h:(s a_).aM with
  |false=>rfl
  |true=>
   exfalso;rw[bO,au bC]at md;cases tk with
   |none=>rw[show Fz s none a_=s a_ from rfl,h]at md;cases md
   |some g=>
    have:(if a_=g then ad.dead else if (s a_).refs g=true then .dead else s a_).aM=false:=md;rw[au (gw g rfl).2]at this;split at this
    ·rename_i an;rw[kI an]at h;cases h
    ·rw[h]at this;cases this
 have zz:match bh.guard with
   |none=>fY P s bh.op r
   |some g=>∃e,c1 ops s g=some e/\kV P s e bh.op r:=by
  rw[hl,l_];refine⟨?_,?_⟩
  ·show (aG s (.tmp fG)).1;rw[Ch ga];trivial
  ·show r=(aG s (.tmp fG)).2;rw[an,Ch ga]
 have fV:∀g,tk=some g->r.refs g=false:=by
  intro g aB;rw[an];show (fG==g)=false
  rw[jz];rintro rfl;rw[bO,au tD,aB]at d9;have:(if fG=fG then ad.dead else if (s fG).refs fG=true then .dead else s fG)=.own av Ci FD:=d9;rw[aC rfl]at this;cases this
 have aw:∀g,tk=some g->(s g).lz=true/\a_≠g/\r.refs g=false:=fun g aB=>⟨(gw g aB).1,(gw g aB).2,fV g aB⟩
 obtain⟨_,_,zx⟩:=Jf (r:=r) rJ aw e1 jY bC;have eU:∀z∈bz.op.operands,dy s (put s a_ r) z:=fun z aY=>ma hw jY (kW bz a_ (de a_ ed) z aY);have aj:=eU x (by rw[cF];simp[Op.operands,Call.operands]);have aS:=eU y (by rw[cF];simp[Op.operands,Call.operands]);have so:∀b,bH.2.refs b=true->put s a_ r b=s b:=by
  intro b ae;rcases io with rfl|⟨p,v,g,e,z,xs,_,jX,_,rfl⟩
  ·exact iO aj ae
  ·obtain rfl:g=b:=by simpa[ad.refs]using ae
   have sq:@LT.lt Nat _ a_ n:=e5;have mc:g≠a_:=by omega
   rw[d_ jY,au mc]
 have eW:gx (put s a_ r) bH.2=gx s bH.2:=Ja so;have vk:∀size,hy (put s a_ r) size (aG s y).2=hy s size (aG s y).2:=fun size=>Fl (fun b ae=>iO aS ae);obtain⟨mb,t8⟩:=I' (P:=P) (t:=t) (t':=t') (x:=bH) (y:=aG s y) eW vk;have m6:ie (put s a_ r) bH.2=tk:=by unfold ie;rw[eW];exact ss
 have jc:put s a_ r d=s d:=by rw[d_ jY,au (mW bC)]
 have zA:=mb.2 ao;refine⟨put s a_ r,⟨a_,r,ed,e5,jY,rfl,zz⟩,⟨fG,av,Ci,FD,l_,hl,ga⟩,⟨d,x,y,t,t',bH,ax,hdn,cF,tN,?_,?_,?_,?_,?_⟩⟩
 ·rw[dD aj];exact(Jc jY e5).2 io
 ·intro bu h;rw[dD aj];exact(Jd jY e5).2 (has bu h)
 ·rw[m6];rcases aE with aE|⟨bQ,eP,eJ,jX,dB,dI⟩
  ·refine .inl ?_;cases tk with
   |none=>show (put s a_ r d).aM=false;rw[jc];exact aE
   |some g=>refine⟨?_,aE.2⟩;rw[jc];exact aE.1
  ·have sq:@LT.lt Nat _ a_ n:=e5;have mc:¬@Eq Nat bQ a_:=by omega
   exact .inr ⟨bQ,eP,eJ,jX,by rw[d_ jY,au mc];exact dB,by rw[jc];exact dI⟩
 ·rw[dD aS];exact zA
 ·rw[dD aS,(xD zA).1,m6,t8];exact zx.symm
end
section
variable {P:Program}{n:Nat}{fl:List Bool}{ops:Array Oper}
def Ub{o:Oper}(h:kp o=true):∃c,o.op=.call c/\c.callee=.builtin .append/\o.guard=none:=by
 unfold kp at h;split at h
 ·rename_i c e;split at h
  ·rename_i ay;exact⟨c,e,ay,by simpa using h⟩
  ·cases h
 ·cases h
def Ji{o:Oper}(h:kp o=true):eX ops o.op=false/\kX o=false:=by
 obtain⟨c,e,ay,_⟩:=Ub h;refine⟨?_,?_⟩
 ·rw[e];simp only[eX,ay]
 ·unfold kX;rw[e]
def vJ(P:Program)(n:Nat)(fl:List Bool)(ops:Array Oper)(i:Nat)(s s':ag):Prop:=
 ∃o,ops[i]?=some o/\match kp o with
  |true=>pN P n fl ops o s s'
  |false=>m' P n false ops i s s'/\(fl[i]?=some true->iE P s o.op)
def FE{o:Oper}{s s':ag}(h:pN P n fl ops o s s'):ft P n ops o s (fun t=>t=s'):=by obtain⟨d,x,y,t,t',bH,ax,hdn,cF,tN,_,has,aE,ao,rfl⟩:=h;unfold ft;rw[tN,ax,cF];exact has (fun z=>(eK P s t t' z (aG s y)).1/\d<n/\put (eK P s t t' z (aG s y)).2.1 d (eK P s t t' z (aG s y)).2.2=put (eK P s t t' bH (aG s y)).2.1 d (eK P s t t' bH (aG s y)).2.2) ⟨ao,hdn,rfl⟩
def Uc{i:Nat}{s s':ag}(h:vJ P n fl ops i s s'):m' P n false ops i s s':=by
 obtain⟨o,aw,h⟩:=h;split at h
 ·rename_i hu;obtain⟨aa,ab⟩:=Ji (ops:=ops) hu;refine⟨o,aw,?_⟩;rw[aa,ab];exact FE h
 ·exact h.1
def Ud{i:Nat}{s s':ag}(hw:cq s)(h:vJ P n fl ops i s s'):cq s':=NF hw (Uc h)
def vK(s:ag)(fl:List Bool)(ops:Array Oper)(o:Oper):Prop:=match o.dst,o.op with
 |some d,.call c=>match c.args.toList with
  |x::_=>Cd s d fl ops (ie s (aG s x).2)
  |[]=>False
 |_,_=>False
def zdL(P:Program)(s:ag)(op:Op):Bool->Prop
 |true=>iE P s op
 |false=>True
def na(P:Program)(n:Nat)(fl:List Bool)(ops:Array Oper):List Bool->List Oper->ag->(ag->Prop)->Prop
 |_,[],s,K=>K s
 |bo,o::r,s,K=>match kp o with
  |true=>vK s fl ops o/\ft P n ops o s (fun s'=>na P n fl ops bo.tail r s' K)
  |false=>zdL P s o.op (bo.headD false)/\gU P n false ops [o] s (fun s'=>na P n fl ops bo.tail r s' K)
def NP{o:Oper}{s:ag}{K:ag->Prop}(hu:kp o=true)(ap:vK s fl ops o)(h:ft P n ops o s K):∃s',pN P n fl ops o s s'/\K s':=by
 obtain⟨c,cF,ay,aB⟩:=Ub hu;obtain⟨callee,args,ts⟩:=c;dsimp only at ay;subst ay;unfold ft at h;rw[aB,cF]at h;unfold vK at ap;rw[cF]at ap;cases ax:o.dst with
 |none=>rw[ax]at ap;exact ap.elim
 |some d=>
  rw[ax]at ap h;obtain⟨args⟩:=args;obtain⟨ts⟩:=ts
  match args,ts,ap,h with
  |[x,y],[t,t'],ap,h=>
   obtain⟨bH,io,bE,has⟩:=IW (n:=n) (s:=s) (x:=aG s x) (k:=fun z=>(eK P s t t' z (aG s y)).1/\d<n/\K (put (eK P s t t' z (aG s y)).2.1 d (eK P s t t' z (aG s y)).2.2)) h;refine⟨_,⟨d,x,y,t,t',bH,ax,bE.2.1,cF,aB,io,has,?_,bE.1,rfl⟩,bE.2.2⟩;rcases io with rfl|⟨p,v,g,e,z,xs,ex,jX,Ue,rfl⟩
   ·exact .inl ap
   ·have ba:ie s (ad.alias g)=some g:=by unfold ie gx;simp only[Ue]
    refine .inr ⟨g,rfl,ba,jX,by rw[Ue];rfl,?_⟩;have cO:Cd s d fl ops (ie s (aG s x).2):=ap;rw[ex]at cO;exact cO
def zdM{o:Oper}{k:Nat}{s:ag}{K:ag->Prop}(hw:cq s)(aW:ops[k]?=some o)(h:gU P n false ops [o] s K):∃s1,m' P n false ops k s s1/\K s1:=by
 simp only[gU]at h;split at h
 ·rename_i ao;simp only[kq]at h;obtain⟨s1,aa,ab⟩:=B_ h.2;exact⟨s1,⟨o,aW,by rw[ao];simp only[kq];exact⟨aa,h.1⟩⟩,ab⟩
 ·rename_i ao;split at h
  ·rename_i hu;obtain⟨s1,aa,ab⟩:=T1 hu h.1 h.2;exact⟨s1,⟨o,aW,by rw[ao];simp only[hu];exact aa⟩,ab⟩
  ·rename_i hu;obtain⟨s1,aa,ab,_⟩:=Fu hw h;exact⟨s1,⟨o,aW,by rw[ao];simp only[hu];exact aa⟩,ab⟩
def zdN{l:List Bool}(h:l[0]?=some true):l.headD false=true:=by
 cases l with
 |nil=>cases h
 |cons b r=>simpa using h
def Uf{K:ag->Prop}:∀(l:List Oper) (bo:List Bool) (k:Nat) (s:ag),cq s->(∀j,l[j]?=ops[k+j]?)->(∀j,bo[j]?=fl[k+j]?)->na P n fl ops bo l s K ->
  ∃s',chain (vJ P n fl ops) (List.range' k l.length) s s'/\K s'
 |[],_,_,s,_,_,_,h=>⟨s,rfl,by simpa[na]using h⟩
 |o::l,bo,k,s,hw,al,ay,h=>by
  have aW:ops[k]?=some o:=by simpa using (al 0).symm
  have l4:∀j,l[j]?=ops[(k+1)+j]?:=fun j=>by have:=al (j+1);simpa[rG,Ca 1 j]using this
  have NQ:∀j,bo.tail[j]?=fl[(k+1)+j]?:=fun j=>by have:=ay (j+1);simpa[rG,Ca 1 j]using this
  simp only[na]at h;have:∃s1,vJ P n fl ops k s s1/\na P n fl ops bo.tail l s1 K:=by
   split at h
   ·rename_i hu;obtain⟨s1,aa,ab⟩:=NP hu h.1 h.2;exact⟨s1,⟨o,aW,by rw[hu];exact aa⟩,ab⟩
   ·rename_i hu;obtain⟨s1,aa,ab⟩:=zdM hw aW h.2;refine⟨s1,⟨o,aW,?_⟩,ab⟩;rw[hu];refine⟨aa,fun am=>?_⟩;have a1:=zdN ((ay 0).trans am);have:=h.1;rw[a1]at this;exact this
  obtain⟨s1,aa,ab⟩:=this;obtain⟨s',ar,aN⟩:=Uf l bo.tail (k+1) s1 (Ud hw aa) l4 NQ ab;exact⟨s',⟨s1,aa,ar⟩,aN⟩
def Jj(fl:List Bool)(i:Nat):Bool:=fl.getD i false
def Ug{i:Nat}(h:Jj fl i=true):fl[i]?=some true:=by
 unfold Jj at h;rw[jQ]at h;cases e:fl[i]? with
 |none=>rw[e]at h;cases h
 |some b=>rw[e]at h;simpa using h
def Jk(fl:List Bool)(ops:Array Oper)(i j:Nat)(bz bh:Oper):Bool:=
 vE false ops bz bh ||(kp bz&&eX ops bh.op&&Jj fl j) ||(kp bh&&eX ops bz.op&&Jj fl i)
def NR(fl:List Bool)(ops:Array Oper)(b:Array Nat)(i j:Nat):Bool:=
 (b.getD i 0).testBit j ||
 match ops[i]?,ops[j]? with
 |some bz,some bh=>Jk fl ops i j bz bh&&bh.apart ops bz
 |_,_=>false
def FF(fl:List Bool)(ops:Array Oper):Bool:=
 let b:=Region.before ops
 ops.toList.all Fv&&(List.range ops.size).all fun i=>
  (match ops[i]? with
   |some o=>o.after.toList.all fun e=>!Region.binds .any e ||decide (e.on<i)
   |none=>false) &&
  (List.range i).all fun j=>NR fl ops b i j
def zdO{m:Bool}{bz bh:Oper}(h:vE m ops bz bh=true):kp bz=false/\kp bh=false:=by
 refine⟨?_,?_⟩
 ·cases hu:kp bz with
  |false=>rfl
  |true=>obtain⟨aa,ab⟩:=Ji (ops:=ops) hu;simp[vE,aa,ab]at h
 ·cases hu:kp bh with
  |false=>rfl
  |true=>obtain⟨aa,ab⟩:=Ji (ops:=ops) hu;simp[vE,aa,ab]at h
def Jl{i:Nat}{o:Oper}{s s':ag}(aw:ops[i]?=some o)(ao:eX ops o.op=true)(h:m' P n false ops i s s'):gE P n ops o s s':=by
 obtain⟨cv,fX,h⟩:=h;rw[aw]at fX;injection fX with fX;subst fX
 rw[ao]at h;exact h.1
def Uh{i:Nat}{o:Oper}{s s':ag}(aw:ops[i]?=some o)(ao:eX ops o.op=true)(h:gE P n ops o s s'):m' P n false ops i s s':=by refine⟨o,aw,?_⟩;rw[ao];exact⟨h,fun h=>by cases h⟩
def Ui{o:Oper}(ao:eX ops o.op=true):kp o=false:=by
 cases hu:kp o with
 |false=>rfl
 |true=>rw[(Ji (ops:=ops) hu).1]at ao;cases ao
def Uj{s s1:ag}:∀{v:ad},(∀k,jx (s k) (s1 k))->ei s1 v=ei s v
 |.ptr i off,h=>by
  rcases h i with e|⟨_,_,av,aI⟩|⟨_,_,_,_,av,aI,_⟩|⟨_,_,_,av,aI⟩
  ·simp only[ei,e]
  ·simp only[ei,av,aI]
  ·simp only[ei,av,aI]
  ·simp only[ei,av,aI]
 |.alias i,h=>by
  rcases h i with e|⟨_,_,av,aI⟩|⟨_,_,_,_,av,aI,_⟩|⟨_,_,_,av,aI⟩
  ·simp only[ei,e]
  ·simp only[ei,av,aI]
  ·simp only[ei,av,aI]
  ·simp only[ei,av,aI]
 |.cond e v,h=>Uj (v:=v) h
 |.x _,_=>rfl
 |.elem _,_=>rfl
 |.dead,_=>rfl
 |.b2 _,_=>rfl
 |.box _,_=>rfl
 |.dX _ _ _,_=>rfl
 |.own _ _ _,_=>rfl
 |.mp _ _ _,_=>rfl
 |.view _ _ _ _,_=>rfl
 |.cr _ _,_=>rfl
 |.link _ _ _,_=>rfl
 |.res _,_=>rfl
 |.ds _ _,_=>rfl
 |.cf _ _,_=>rfl
 |.cT _ _ _ _,_=>rfl
 |.fc _ _ _ _,_=>rfl
def Uk{s s1:ag}{op:Op}(al:mZ op=true)(h:∀k,jx (s k) (s1 k))(ae:iE P s op):iE P s1 op:=by
 have zdP:∀x:Operand,look s1 x=look s x:=fun x=>Nt (by cases x<;>first|exact⟨h _,fun b _=>h b⟩|trivial);have fM:∀l:List Operand,pM s1 l=pM s l:=by
  intro l;induction l with
  |nil=>rfl
  |cons x r aX=>simp only[pM,zdP,Uj h,aX]
 obtain⟨aa,ab⟩:=ae;refine⟨?_,?_⟩
 ·cases e:tZ op with
  |none=>rw[e]at aa;exact aa
  |some l=>rw[e]at aa;simpa only[fM]using aa
 ·cases op<;>first|trivial|(simp[mZ]at al)
def Ul{s s1:ag}{i:Nat}{o:Oper}(aw:ops[i]?=some o)(hu:kX o=true)(ao:eX ops o.op=false)(h:m' P n false ops i s s1):∀k,jx (s k) (s1 k):=by
 obtain⟨cv,fX,h⟩:=h;rw[aw]at fX;injection fX with fX;subst fX
 rw[ao]at h;simp only[hu]at h;obtain⟨W,dz,hw,ax,aT,rfl⟩:=h;obtain⟨t,addr,x,cF,_⟩:=NG hu;have fQ:dz=none:=by unfold writes at hw;rw[cF]at hw;exact hw.2.2.1
 subst fQ;exact fun k=>tV (fun i v aH=>(I2 hw).1 i v aH) k
def Um{s:ag}{o:Oper}(hu:kX o=true)(h:iE P s o.op):False:=by obtain⟨t,addr,x,cF,_⟩:=NG hu;rw[cF]at h;exact h.1
def zdQ{i j:Nat}{bz bh:Oper}{s s1 s2:ag}(vG:∀d,bz.dst=some d->d<bF)(nS:∀d,bh.dst=some d->d<bF)(ai:ops[i]?=some bz)(ac:ops[j]?=some bh)(iD:Jk fl ops i j bz bh=true)(jb:bh.apart ops bz=true)(hw:cq s)
  (aa:vJ P n fl ops j s s1)(ab:vJ P n fl ops i s1 s2):∃b7,vJ P n fl ops i s b7/\vJ P n fl ops j b7 s2:=by
 obtain⟨de,a2,a3⟩:=Oper.apart_spec jb;have jy:∀d,bz.dst=some d->bh.dst≠some d:=fun d h bE=>a2 d bE h;obtain⟨gz,gw,aa⟩:=aa;rw[ac]at gw;injection gw with gw;subst gw
 obtain⟨e4,gS,ab⟩:=ab;rw[ai]at gS;injection gS with gS;subst gS
 unfold Jk at iD;rw[eO,eO]at iD;rcases iD with (iD|iD)|iD
 ·have bl:=iD;obtain⟨pJ,pL⟩:=zdO bl;rw[pL]at aa;rw[pJ]at ab;obtain⟨aa,dm⟩:=aa;obtain⟨ab,dF⟩:=ab;obtain⟨b7,aF,aP⟩:=T4 vG nS ai ac bl jb hw aa ab;unfold vE at bl;rw[eO,eO]at bl;rcases bl with (bl|bl)|bl
  ·simp only[b4,vf]at bl;obtain⟨⟨ci,jW⟩,_⟩:=bl;have mX:∀{t t':ag} {o cv:Oper},cq t->gE P n ops o t t'->(∀d,o.dst=some d->d∉cv.looksAt ops)->∀x∈cv.op.operands,dy t t' x:=by
    rintro t t' o cv tY ⟨d,r,ax,hdn,cp,rfl,_⟩ bj x aj;exact ma (r:=r) tY cp (kW cv d (bj d ax) x aj)
   refine⟨b7,⟨bz,ai,?_⟩,⟨bh,ac,?_⟩⟩
   ·rw[pJ];exact⟨aF,fun ay=>(Cb (mX hw (Jl ac jW aa) de)).1 (dF ay)⟩
   ·rw[pL];exact⟨aP,fun ay=>(Cb (mX hw (Jl ai ci aF) a3)).2 (dm ay)⟩
  ·simp only[b4,vf,va]at bl;obtain⟨⟨⟨⟨FG,cX⟩,NI⟩,jW⟩,_⟩:=bl;refine⟨b7,⟨bz,ai,?_⟩,⟨bh,ac,?_⟩⟩
   ·rw[pJ];exact⟨aF,fun ay=>(Um FG (dF ay)).elim⟩
   ·rw[pL];exact⟨aP,fun ay=>Uk NI (Ul ai FG cX aF) (dm ay)⟩
  ·simp only[b4,vf,va]at bl;obtain⟨⟨⟨⟨FG,cX⟩,li⟩,ci⟩,_⟩:=bl;refine⟨b7,⟨bz,ai,?_⟩,⟨bh,ac,?_⟩⟩
   ·rw[pJ];exact⟨aF,fun ay=>Uk li (fun k=>(Ul ac FG cX aa k).symm) (dF ay)⟩
   ·rw[pL];exact⟨aP,fun ay=>(Um FG (dm ay)).elim⟩
 ·simp only[b4]at iD;obtain⟨⟨pJ,jW⟩,ay⟩:=iD;have Un:=Ug ay;have pL:=Ui jW;rw[pL]at aa;rw[pJ]at ab;obtain⟨b7,aF,aP,a7⟩:=FA hw ac Un de a3 a2 (Jl ac jW aa.1) (aa.2 Un) ab;exact⟨b7,⟨bz,ai,by rw[pJ];exact aF⟩,⟨bh,ac,by rw[pL];exact⟨Uh ac jW aP,fun _=>a7⟩⟩⟩
 ·simp only[b4]at iD;obtain⟨⟨pL,ci⟩,ay⟩:=iD;have lZ:=Ug ay;have pJ:=Ui ci;rw[pL]at aa;rw[pJ]at ab;obtain⟨b7,aF,aP,a7⟩:=FC hw ai lZ a3 de jy aa (Jl ai ci ab.1) (ab.2 lZ);exact⟨b7,⟨bz,ai,by rw[pJ];exact⟨Uh ai ci aF,fun _=>aP⟩⟩,⟨bh,ac,by rw[pL];exact a7⟩⟩
def Uo{step Up:Nat->ag->ag->Prop}{fin:ag->Prop}(ap:∀i s s',step i s s'->Up i s s'):∀(fuel:Nat) (listed:Array Bool) (s:ag),tU ops step fin fuel listed s->tU ops Up fin fuel listed s
 |0,_,_,h=>h
 |fuel+1,_,_,h=>⟨h.1,fun i ai=>by obtain⟨s',aa,ab⟩:=h.2 i ai;exact⟨s',ap _ _ _ aa,Uo ap fuel _ s' ab⟩⟩
def zdR{s:ag}{K:ag->Prop}(aE:FF fl ops=true)(hw:cq s)(h:na P n fl ops fl ops.toList s K):tU ops (m' P n false ops) K ops.size (Array.replicate ops.size false) s:=by
 obtain⟨s',zB,am⟩:=Uf ops.toList fl 0 s hw (fun j=>by simp) (fun j=>by simp) h;refine Uo (step:=vJ P n fl ops) (fun i s s' h=>Uc h) _ _ _ ?_;have sv:∀{i:Nat} {o:Oper},ops[i]?=some o->∀d,o.dst=some d->d<bF:=by intro i o aw;have h:=aE;simp only[FF,b4]at h;exact I7 (fm.1 h.1 o (by have:=xF aw;simpa using this))
 have jd:=aE;simp only[FF,b4]at jd
 replace jd:=jd.2
 have fQ:∀i,i<ops.size->((match ops[i]? with
   |some o=>o.after.toList.all fun e=>!Region.binds .any e ||decide (e.on<i)
   |none=>false)=true/\∀j,j<i->NR fl ops (Region.before ops) i j=true):=by
  intro i ai;have:=fm.1 jd i (by simp[ai]);simp only[b4,fm,Jm]at this;exact⟨this.1,fun j ac=>this.2 j ac⟩
 refine IY (wf:=cq) (indep:=fun j i=>∃bz bh,ops[i]?=some bz/\ops[j]?=some bh/\Jk fl ops i j bz bh=true/\bh.apart ops bz=true)
  (fun i s s' hw h=>Ud hw h) ?_ ?_ ?_ am ops.size (List.range' 0 ops.toList.length) _ s (by simp) (by simp) ?_ ?_ ?_ hw zB
 ·rintro j i s s1 s2 ⟨bz,bh,fF,cZ,hm,jb⟩ hw aa ab;exact zdQ (sv fF) (sv cZ) fF cZ hm jb hw aa ab
 ·intro i o aw e he ae;have:=(fQ i (gM.1 aw).1).1;rw[aw]at this;have:=fm.1 this e (by simpa using he);simpa[ae]using this
 ·intro j i fA ai;have:=(fQ i ai).2 j fA;unfold NR at this;rw[eO]at this;rcases this with h|h
  ·exact .inl (I8 ops i j h)
  ·split at h
   ·rename_i bz bh fF cZ;simp only[b4]at h;exact .inr ⟨bz,bh,fF,cZ,h.1,h.2⟩
   ·cases h
 ·intro i o aw al;have aq:=(gM.1 aw).1;simp[aq]at al
 ·exact Jn
 ·intro i;simp only[FH,iZ,f_,cd,kZ];constructor
  ·intro ai;exact⟨ai,by simp[ai]⟩
  ·intro ai;exact ai.1
end
end Go.Ab
namespace Go.Ab
open Go Go.RowKit
variable [bf]
section
variable {P:Program}{S0:Env}{w0 w:World}{n:Nat}{s:ag}{a:Act}
def Uq(ah:Rel S0 w0 n s a w)(o:Oper){d:Nat}{r:ad}(eu:o.dst=some d)(ax:S0.m<=d/\d<n)(h:fY P s o.op r){bP:Act->World->Prop}{Q:Exit->Act->World->Prop}
  (b6:∀aZ w',Rel S0 w0 n (Ab.put s d r) aZ w'->bP aZ w'):o.wp P a w bP Q:=by
 have plain:(bb P s o.op).1/\r=(bb P s o.op).2->o.wp P a w bP Q:=by rintro⟨ak,rfl⟩;exact Fj ah ax eu (Nc ah o ak) (fun j ac=>qL ah.wf _ ac) b6
 obtain⟨dst,op,type,pos,after,guard⟩:=o;dsimp only at h plain eu;subst eu;cases op<;>try (exact plain h)
 case alloc t=>
  simp only[fY]at h;cases aY:zeroOf P t with
  |none=>rw[aY]at h;exact h.elim
  |some cs=>rw[aY]at h;simp only at h;subst h;exact xv (P:=P) (K:=fun s'=>s'=Ab.put s d (.box cs)) ah _ (fun bt bE=>by injection bE with bE;subst bE;exact ax.1) (by simp only[fs,aY];exact⟨ax.2,trivial⟩) (fun s' aZ w' bM cO=>by subst cO;exact b6 aZ w' bM)
 case box t x=>
  simp only[fY]at h;split at h
  ·rename_i p bK e;obtain⟨ak,rfl⟩:=h;obtain⟨av,aI⟩:=zaZ e;exact xv (P:=P) (K:=fun s'=>s'=Ab.put s d (.box bK.cells)) ah _ (fun bt bE=>by injection bE with bE;subst bE;exact ax.1) (by simp only[fs,e,av,aI,dt,zi];exact⟨ak,ax.2,trivial⟩) (fun s' aZ w' bM cO=>by subst cO;exact b6 aZ w' bM)
  ·exact h.elim
 case convert src dst x=>
  simp only[fY]at h;cases fg:h4 P dst with
  |false=>rw[fg]at h;exact plain h
  |true=>
   rw[fg]at h;obtain⟨ak,rfl⟩:=h;obtain⟨r,w',cx,bM⟩:=Td (P:=P) ah ax (ah.aG x) ak;unfold Oper.wp;have aj:(execOp a.eval ({dst:=some d,op:=.convert src dst x,type:=type,pos:=pos,after:=after,guard:=guard}:Oper)).run P w=.ok (.value r) w':=by simp only[execOp,Sem.run_bind,cx,Result.andThen_ok,Sem.run_pure]
   rw[aj];exact b6 _ _ bM
 case buildSlice t len parts=>
  obtain⟨ak,rfl⟩:=h;obtain⟨v,w',cx,bM⟩:=MM (P:=P) (f:=Ab.aG s) ah (fun x _=>ah.aG x.2) ax ak;unfold Oper.wp;have aj:(execOp a.eval ({dst:=some d,op:=.buildSlice t len parts,type:=type,pos:=pos,after:=after,guard:=guard}:Oper)).run P w=.ok (.value v) w':=by simp only[execOp,Sem.run_bind,cx,Result.andThen_ok,Sem.run_pure]
  rw[aj];exact b6 _ _ bM
 case call c=>
  obtain⟨callee,args,argTypes⟩:=c;simp only[fY]at h;split at h
  ·rename_i f;obtain⟨dE,ao,eh,rfl⟩:=h;have vd:nL s args.toList dE=s:=by
    unfold nL;rw[eO]at eh;cases ay:dE.flat with
    |true=>rfl
    |false=>
     rcases eh with h|h
     ·rw[ay]at h;cases h
     ·have:dc s args.toList=[]:=by simpa using h
      simp only[this];rfl
   refine MO (P:=P) ah ao ⟨argTypes,rfl⟩ ax rfl (fun aZ w' bM=>?_);rw[vd]at bM;exact b6 _ _ bM
  ·exact plain h
def Ur(ah:Rel S0 w0 n s a w)(o:Oper){d:Nat}{r:ad}{e:Bool}(eu:o.dst=some d)(ax:S0.m<=d/\d<n)(h:kV P s e o.op r){bP:Act->World->Prop}{Q:Exit->Act->World->Prop}
  (b6:∀aZ w',Rel S0 w0 n (Ab.put s d r) aZ w'->bP aZ w'):if e then o.wp P a w bP Q else bP (a.put o.dst undef) w:=by
 refine Ts (P:=P) (K:=fun s'=>s'=Ab.put s d r) ah o (fun bt bE=>by rw[eu]at bE;injection bE with bE;subst bE;exact ax.1) ?_ (fun s' aZ w' bM cO=>by subst cO;exact b6 aZ w' bM);obtain⟨dst,op,type,pos,after,guard⟩:=o;dsimp only at h eu⊢;subst eu;cases op<;>try (obtain⟨aa,ab,rfl⟩:=h;exact⟨aa,ab,ax.2,rfl⟩)
 case buildSlice t len parts=>
  cases e with
  |true=>obtain⟨aa,rfl⟩:=h;exact⟨aa,ax.2,rfl⟩
  |false=>obtain rfl:=h;exact⟨ax.2,rfl⟩
 case call c=>
  obtain⟨callee,args,ts⟩:=c;cases callee with
  |value f=>obtain⟨dE,aa,ab⟩:=EU h;exact aa _ ⟨ax.2,by rw[ab]⟩
  |_=>obtain⟨aa,ab,rfl⟩:=h;exact⟨aa,ab,ax.2,rfl⟩
def zdS{m:Bool}{ops:Array Oper}{i:Nat}{s':ag}(dV:∀o∈ops.toList,∀d,o.dst=some d->S0.m<=d)(ah:Rel S0 w0 n s a w)(h:m' P n m ops i s s'){bP:Act->World->Prop}{Q:Exit->Act->World->Prop}
  (b6:∀aZ w',Rel S0 w0 n s' aZ w'->bP aZ w'):wpOp P ops Q i bP a w:=by
 obtain⟨o,aw,h⟩:=h;have lA:=dV o (by have:=xF aw;simpa using this);unfold wpOp;rw[aw];simp only;have calm:gE P n ops o s s'->if Region.wanted o (yielded ops a.tmps)then o.wp P a w bP Q\/(o.asks P a w/\LetsOut Q)else bP (a.put o.dst undef) w:=by
  rintro⟨d,r,eu,ax,_,rfl,aH⟩;cases aB:o.guard with
  |none=>rw[aB]at aH;rw[aC (by simp[Region.wanted,aB])];exact .inl (Uq (P:=P) ah o eu ⟨lA d eu,ax⟩ aH b6)
  |some g=>
   rw[aB]at aH;obtain⟨e,he,aH⟩:=aH;have hw:Region.wanted o (yielded ops a.tmps)=e:=by simp only[Region.wanted,aB];exact zj ah he
   have:=Ur (P:=P) (Q:=Q) ah o eu ⟨lA d eu,ax⟩ aH b6;rw[hw];cases e with
   |true=>exact .inl this
   |false=>exact this
 have wr:sl P n o s s'->if Region.wanted o (yielded ops a.tmps)then o.wp P a w bP Q\/(o.asks P a w/\LetsOut Q)else bP (a.put o.dst undef) w:=by
  intro hw;have aB:o.guard=none:=by obtain⟨_,_,h,_⟩:=hw;exact h.1
  rw[aC (by simp[Region.wanted,aB])];exact .inl (zdn ah o lA hw b6)
 split at h
 ·split at h
  ·exact h.elim calm wr
  ·exact calm h.1
 ·split at h
  ·exact wr h
  ·unfold ft at h;cases aB:o.guard with
   |none=>rw[aB]at h;rw[aC (by simp[Region.wanted,aB])];exact .inl (xv (P:=P) ah o lA h (fun s1 aZ w' bM ap=>by subst ap;exact b6 aZ w' bM))
   |some g=>
    rw[aB]at h;simp only at h;cases he:c1 ops s g with
    |none=>rw[he]at h;exact h.elim
    |some e=>
     rw[he]at h;simp only at h;have hw:Region.wanted o (yielded ops a.tmps)=e:=by simp only[Region.wanted,aB];exact zj ah he
     have:=IX (P:=P) (Q:=Q) ah o lA h (fun s1 aZ w' bM ap=>by subst ap;exact b6 aZ w' bM);rw[hw];cases e with
     |true=>exact .inl this
     |false=>exact this
def NS{m:Bool}{ops:Array Oper}(dV:∀o∈ops.toList,∀d,o.dst=some d->S0.m<=d){fin:ag->Prop}{Q:Exit->Act->World->Prop}(c8:∀s' aZ w',Rel S0 w0 n s' aZ w'->fin s'->Q .normal aZ w') :
  ∀(fuel:Nat) (listed:Array Bool) (s:ag) (a:Act) (w:World),Rel S0 w0 n s a w->tU ops (m' P n m ops) fin fuel listed s->wpAny P .any ops Q fuel listed a w
 |0,_,s,a,w,ah,h=>⟨h.1,c8 s a w ah h.2⟩
 |fuel+1,listed,s,a,w,ah,h=>⟨fun aW=>c8 s a w ah (h.1 aW),fun i ai=>by obtain⟨s',aa,ab⟩:=h.2 i ai;exact zdS dV ah aa (fun aZ w' bM=>NS dV c8 fuel _ s' aZ w' bM ab)⟩
def Rel.drawn(ah:Rel S0 w0 n s a w):Rel S0 w0 n s a {w with drawn:=w.drawn+1}:=by have ae:∀b:Nat,({w with drawn:=w.drawn+1}:World).heap[b]?=w.heap[b]?:=fun _=>rfl;exact⟨ah.defers,ah.size,ah.below.drew _,ah.lt,fun i=>(ah.rep i).mono (fun b ae=>ae) (fun b _=>rfl) (fun b _=>rfl) (fun k _=>⟨rfl,fun h=>⟨h,rfl,rfl,rfl⟩,fun c ao=>ao⟩) (fun _ _ _ cs _ _ ap _=>⟨⟨cs,ap,rfl⟩,rfl⟩),ah.inj,ah.out,ah.wf,ah.lU⟩
def Us{m:Bool}{ops:Array Oper}{id:Nat}{Q:Exit->Act->World->Prop}{K:ag->Prop}(hm:P.follows .mixedOrders=true)(aE:xC m ops=true)(dV:∀o∈ops.toList,∀d,o.dst=some d->S0.m<=d)
  (ah:Rel S0 w0 n s a w)(h:gU P n m ops ops.toList s K)(c8:∀s' aZ w',Rel S0 w0 n s' aZ w'->K s'->Q .normal aZ w'):(Code.region id ops true).wp P Q a w:=by
 obtain⟨s',zB,am⟩:=T2 ops.toList 0 s ah.wf (fun j=>by simp) h;refine wp_region_any hm (NS (m:=m) dV c8 _ _ s a _ ah.drawn ?_);have sv:∀{i:Nat} {o:Oper},ops[i]?=some o->∀d,o.dst=some d->d<bF:=by intro i o aw;have h:=aE;simp only[xC,b4]at h;exact I7 (fm.1 h.1 o (by have:=xF aw;simpa using this))
 have jd:=aE;simp only[xC,b4]at jd
 replace jd:=jd.2
 have fQ:∀i,i<ops.size->((match ops[i]? with
   |some o=>o.after.toList.all fun e=>!Region.binds .any e ||decide (e.on<i)
   |none=>false)=true/\∀j,j<i->NH m ops (Region.before ops) i j=true):=by
  intro i ai;have:=fm.1 jd i (by simp[ai]);simp only[b4,fm,Jm]at this;exact⟨this.1,fun j ac=>this.2 j ac⟩
 refine IY (wf:=cq) (indep:=fun j i=>∃bz bh,ops[i]?=some bz/\ops[j]?=some bh/\vE m ops bz bh=true/\bh.apart ops bz=true)
  (fun i s s' hw h=>NF hw h) ?_ ?_ ?_ am ops.size (List.range' 0 ops.toList.length) _ s (by simp) (by simp) ?_ ?_ ?_ ah.wf zB
 ·rintro j i s s1 s2 ⟨bz,bh,fF,cZ,hm,jb⟩ hw aa ab;exact T4 (sv fF) (sv cZ) fF cZ hm jb hw aa ab
 ·intro i o aw e he ae;have:=(fQ i (gM.1 aw).1).1;rw[aw]at this;have:=fm.1 this e (by simpa using he);simpa[ae]using this
 ·intro j i fA ai;have:=(fQ i ai).2 j fA;unfold NH at this;rw[eO]at this;rcases this with h|h
  ·exact .inl (I8 ops i j h)
  ·split at h
   ·rename_i bz bh fF cZ;simp only[b4]at h;exact .inr ⟨bz,bh,fF,cZ,h.1,h.2⟩
   ·cases h
 ·intro i o aw al;have aq:=(gM.1 aw).1;simp[aq]at al
 ·exact Jn
 ·intro i;simp only[FH,iZ,f_,cd,kZ];constructor
  ·intro ai;exact⟨ai,by simp[ai]⟩
  ·intro ai;exact ai.1
def zdT{fl:List Bool}{ops:Array Oper}{id:Nat}{Q:Exit->Act->World->Prop}{K:ag->Prop}(hm:P.follows .mixedOrders=true)(aE:FF fl ops=true)(dV:∀o∈ops.toList,∀d,o.dst=some d->S0.m<=d)
  (ah:Rel S0 w0 n s a w)(h:na P n fl ops fl ops.toList s K)(c8:∀s' aZ w',Rel S0 w0 n s' aZ w'->K s'->Q .normal aZ w'):(Code.region id ops true).wp P Q a w:=
 wp_region_any hm (NS (m:=false) dV c8 _ _ s a _ ah.drawn (zdR aE ah.wf h))
end
end Go.Ab
namespace Go.Ab
open Go Go.RowKit
variable [bf]
def zC(P:Program)(f g:FuncId):Prop:=
 r6 P f/\∀(w:World) (v:Value),v.oneCell'=true->bf.holds w->Calls P f #[v] w fun e w'=>∃b t,e=.returned (.func (.func g) #[] #[.pointer (some ⟨b,0,none⟩)])/\w.heap.size<=b/\w'.heap[b]?=some (.cells #[v] t (0,0))/\Below w.heap.size w w'
def FI(P:Program)(gn x:Prop×ad)(r:ad):Prop:=
 match iz gn.2,x with
 |some (g,[]),(q,.ptr i off)=>gn.1/\q/\∃bQ,zC P g bQ/\r=.cr bQ [.inr (i,off+1000000)]
 |_,_=>False
def oU(P:Program)(s:ag)(op:Op)(r:ad):Prop:=
 match op with
 |.call c=>match c.callee with
  |.value f=>match c.args.toList with
   |[x]=>FI P (aG s f) (aG s x) r
   |_=>False
  |_=>False
 |_=>False
def xG(P:Program)(s:ag)(e:Bool)(op:Op)(r:ad):Prop:=
 match e with
 |true=>∃k0,oU P s op k0/\r=.cond true k0
 |false=>r=.cond false (.x (.one (.bool false)))
def Ut{P:Program}{s s':ag}(op:Op)(r:ad)(h:∀x∈op.operands,dy s s' x):oU P s' op r↔oU P s op r:=by
 cases op with
 |call c=>
  obtain⟨callee,⟨args⟩,ts⟩:=c;cases callee with
  |value f=>
   have ay:dy s s' f:=h f (by simp[Op.operands,Call.operands]);have bj:∀x∈args,dy s s' x:=fun x aj=>h x (by simp[Op.operands,Call.operands,aj])
   match args,bj with
   |[],_=>exact iB
   |[x],bj=>simp only[oU,dD ay,dD (bj x (by simp))]
   |_::_::_,_=>exact iB
  |_=>exact iB
 |_=>exact iB
def zdU{P:Program}{s s':ag}{e:Bool}(op:Op)(r:ad)(h:∀x∈op.operands,dy s s' x):xG P s' e op r↔xG P s e op r:=by
 cases e with
 |true=>simp only[xG,Ut _ _ h]
 |false=>exact iB
def t_(n:Nat)(ops:Array Oper)(o:Oper)(V:ag->ad->Prop)(sw:ag->Bool->ad->Prop)(s s':ag):Prop:=
 ∃d r,o.dst=some d/\d<n/\(s d).aM=false/\s'=put s d r/\match o.guard with
  |none=>V s r
  |some g=>∃e,c1 ops s g=some e/\sw s e r
def okV(P:Program)(o:Oper)(V:ag->ad->Prop)(sw:ag->Bool->ad->Prop):Prop:=
 ∀s s',(∀x∈o.op.operands,dy s s' x)->zl P s s' o.op->(∀r,V s' r↔V s r)/\∀e r,sw s' e r↔sw s e r
def Jo(P:Program)(o:Oper):okV P o (fun s r=>fY P s o.op r) (fun s e r=>kV P s e o.op r):=fun _ _ h al=>⟨fun r=>zm _ r h al,fun e r=>B7 _ r h al⟩
def zdV(P:Program)(o:Oper):okV P o (fun s r=>oU P s o.op r) (fun s e r=>xG P s e o.op r):=fun _ _ h _=>⟨fun r=>Ut _ r h,fun e r=>zdU _ r h⟩
def zdW{P:Program}{n:Nat}{ops:Array Oper}{bz bh:Oper}{Jp Jq:ag->ad->Prop}{Jr Js:ag->Bool->ad->Prop}{s s1 s2:ag}(oV:okV P bz Jp Jr)(oW:okV P bh Jq Js)(gC:∀d,bz.dst=some d->d<bF)(gB:∀d,bh.dst=some d->d<bF)(jb:bz.apart ops bh=true)(hw:cq s)
  (ai:t_ n ops bz Jp Jr s s1)(ac:t_ n ops bh Jq Js s1 s2):∃b7,t_ n ops bh Jq Js s b7/\t_ n ops bz Jp Jr b7 s2:=by
 obtain⟨iC,Fo,l9,fH,fF,rfl,vA⟩:=ai;obtain⟨a_,vB,ed,e5,cZ,rfl,gT⟩:=ac;obtain⟨aa,ab,ar⟩:=Oper.apart_spec jb;have bC:a_≠iC:=fun e=>ab iC l9 (by rw[ed,e]);have nR:(s a_).aM=false:=by rw[d_ fF,au bC]at cZ;exact cZ
 have Fp:(put s a_ vB iC).aM=false:=by rw[d_ nR,au (mW bC)];exact fF
 have mX:∀(o:Oper) (d:Nat),d∉o.looksAt ops->∀x∈o.op.operands,x≠.tmp d:=by intro o d ax x aj e;subst e;exact ax (by simp only[Oper.looksAt,gv,vh];exact .inl ⟨.tmp d,by simpa using aj,rfl⟩)
 have zn:∀(o:Oper) (d:Nat) (g:Nat×Bool),d∉o.looksAt ops->o.guard=some g->∀bt,(ops[g.1]?).bind (·.dst)=some bt->bt≠d:=by intro o d g ax aB bt e8 e;subst e;refine ax ?_;simp only[Oper.looksAt,gv,aB,e8];exact .inr (by simp)
 refine⟨put s a_ vB,⟨a_,vB,ed,e5,nR,rfl,?_⟩,⟨iC,Fo,l9,fH,Fp,?_,?_⟩⟩
 ·have eU:∀x∈bh.op.operands,dy s (put s iC Fo) x:=fun x aj=>ma hw fF (mX bh iC (aa iC l9) x aj);cases aB:bh.guard with
  |none=>rw[aB]at gT;exact((oW _ _ eU (xy (vz fF (gC iC l9)) _)).1 _).1 gT
  |some g=>rw[aB]at gT;obtain⟨e,he,aH⟩:=gT;refine⟨e,?_,((oW _ _ eU (xy (vz fF (gC iC l9)) _)).2 _ _).1 aH⟩;rw[<-he];exact(B8 (fun bt e8=>by rw[d_ fF,au (zn bh iC g (aa iC l9) aB bt e8)])).symm
 ·funext k;rw[d_ cZ,d_ fF,d_ Fp,d_ nR];by_cases h8:k=a_
  ·subst h8;simp[bC]
  ·by_cases dY:k=iC
   ·subst dY;simp[h8]
   ·simp[h8,dY]
 ·have eU:∀x∈bz.op.operands,dy s (put s a_ vB) x:=fun x aj=>ma hw nR (mX bz a_ (ar a_ ed) x aj);cases aB:bz.guard with
  |none=>rw[aB]at vA;exact((oV _ _ eU (xy (vz nR (gB a_ ed)) _)).1 _).2 vA
  |some g=>rw[aB]at vA;obtain⟨e,he,aH⟩:=vA;refine⟨e,?_,((oV _ _ eU (xy (vz nR (gB a_ ed)) _)).2 _ _).2 aH⟩;rw[<-he];exact B8 (fun bt e8=>by rw[d_ nR,au (zn bz a_ g (ar a_ ed) aB bt e8)])
def Uu{d:Nat}(h:d<bF):¬(bF=d):=by unfold bF at*;omega
def Uv{d:Nat}(h:d<bF)(i off:Nat):b0 i off≠d:=by unfold b0;unfold bF at h;omega
def xH(o:Oper):Bool:=match o.op with
 |.move _=>o.guard.isNone
 |_=>false
def Uw{o:Oper}(h:xH o=true):∃x,o.op=.move x/\o.guard=none:=by
 unfold xH at h;split at h
 ·rename_i x e;exact⟨x,e,by simpa using h⟩
 ·cases h
def zD(P:Program)(o:Oper)(s s':ag):Prop:=
 ∃t addr x p i off d,o.op=.store t addr x/\o.guard=none/\o.dst=none/\jv s (aG s addr) (aG s x)=some (p,i,off,d)/\hS P t=true/\p/\(fr P s t i off d).1/\s'=(fr P s t i off d).2
def FJ(P:Program)(n:Nat)(ops:Array Oper)(o:Oper)(s s':ag):Prop:=gE P n ops o s s'/\iE P s o.op/\xH o=true
def NT{s:ag}{i off m:Nat}:∀{v:ad},ei s v=true->v.lk i off m=false
 |.x _,_=>rfl
 |.elem _,_=>rfl
 |.ptr _ _,_=>rfl
 |.alias _,_=>rfl
 |.cond _ v,h=>NT (v:=v) h
def FK{P:Program}{s:ag}{t:TypeId}{i off d:Nat}(h:(fr P s t i off d).1):∃(B:List af->ad) (cs:List af),(B=.box\/∃b,B=.cf b)/\s i=B cs/\tk P t=.one/\(s d).tight=true/\(s (b0 i off)).free=true/\off<cs.length /\
  ∀k,(fr P s t i off d).2 k=if k=i then B (cs.set off .any)else if k=b0 i off then .link i off d else unlink s i off 1 k:=by
 unfold fr at h⊢;split at h
 ·rename_i cs am ap;obtain⟨aa,ab,ar⟩:=h;simp only[am,ap];exact⟨.box,cs,.inl rfl,rfl,trivial,ab,ar,aa,fun k=>rfl⟩
 ·rename_i b cs am ap;obtain⟨aa,ab,ar⟩:=h;simp only[am,ap];exact⟨.cf b,cs,.inr ⟨b,rfl⟩,rfl,trivial,ab,ar,aa,fun k=>rfl⟩
 ·exact h.elim
def Ux{P:Program}{s:ag}{t:TypeId}{i off d:Nat}{cs:List af}(aa:(s i).fz=some cs)(ab:tk P t=.one)(ar:(s d).tight=true)(aN:(s (b0 i off)).free=true)(bD:off<cs.length):(fr P s t i off d).1:=by
 unfold fr;cases ap:s i<;>rw[ap]at aa<;>first|(cases aa;done)|skip
 ·rename_i c;obtain rfl:c=cs:=by simpa[ad.fz]using aa
  simp only[ab];exact⟨bD,ar,aN⟩
 ·rename_i b c;obtain rfl:c=cs:=by simpa[ad.fz]using aa
  simp only[ab];exact⟨bD,ar,aN⟩
def Uy{P:Program}{s:ag}{t:TypeId}{i off d:Nat}(h:(fr P s t i off d).1){x:Operand}:(ei s (look s x)=true\/ei (fr P s t i off d).2 (look (fr P s t i off d).2 x)=true) ->
  look (fr P s t i off d).2 x=look s x/\ei s (look s x)=true/\ei (fr P s t i off d).2 (look (fr P s t i off d).2 x)=true:=by
 obtain⟨B,cs,bl,ap,_,_,ja,_,bO⟩:=FK h;generalize (fr P s t i off d).2=S at bO;have zoN:b0 i off≠i:=by intro e;rw[e,ap]at ja;rcases bl with rfl|⟨_,rfl⟩<;>cases ja
 have u_:∀k,(∃c,S k=.box c)↔∃c,s k=.box c:=by
  intro k;rw[bO];by_cases am:k=i
  ·subst am;rw[aC rfl,ap];rcases bl with rfl|⟨_,rfl⟩<;>simp
  ·rw[au am];by_cases al:k=b0 i off
   ·subst al;rw[aC rfl];constructor
    ·rintro⟨c,h⟩;cases h
    ·rintro⟨c,h⟩;rw[h]at ja;cases ja
   ·rw[au al];constructor
    ·rintro⟨c,h⟩;rcases hi s i off 1 k with e|e<;>rw[e]at h
     ·exact⟨c,h⟩
     ·cases h
    ·rintro⟨c,h⟩;exact⟨c,by rw[jq (by rw[h];rfl)];exact h⟩
 have NU:∀k,(∃c bs es,S k=.mp c bs es)↔∃c bs es,s k=.mp c bs es:=by
  intro k;rw[bO];by_cases am:k=i
  ·subst am;rw[aC rfl,ap];rcases bl with rfl|⟨_,rfl⟩<;>simp
  ·rw[au am];by_cases al:k=b0 i off
   ·subst al;rw[aC rfl];constructor
    ·rintro⟨c,_,_,h⟩;cases h
    ·rintro⟨c,_,_,h⟩;rw[h]at ja;cases ja
   ·rw[au al];constructor
    ·rintro⟨c,bs,es,h⟩;rcases hi s i off 1 k with e|e<;>rw[e]at h
     ·exact⟨c,bs,es,h⟩
     ·cases h
    ·rintro⟨c,bs,es,h⟩;exact⟨c,bs,es,by rw[jq (by rw[h];rfl)];exact h⟩
 have mS:∀v:ad,ei S v=ei s v:=by
  intro v;induction v with
  |alias k=>have:=NU k;simp only[ei];cases av:S k<;>cases aI:s k<;>first|rfl|(rw[av,aI]at this;simp at this)
  |ptr k o=>have:=u_ k;simp only[ei];cases av:S k<;>cases aI:s k<;>first|rfl|(rw[av,aI]at this;simp at this)
  |cond e v aX=>exact aX
  |_=>rfl
 cases x with
 |tmp k=>
  have am:look S (.tmp k)=look s (.tmp k)\/(ei s (look s (.tmp k))=false/\ei s (look S (.tmp k))=false):=by
   simp only[look,bO];by_cases dY:k=i
   ·subst dY;left;rw[aC rfl,ap];rcases bl with rfl|⟨_,rfl⟩<;>rfl
   ·rw[au dY];by_cases al:k=b0 i off
    ·subst al;rw[aC rfl];right;refine⟨?_,rfl⟩;cases e:s (b0 i off)<;>rw[e]at ja<;>first|rfl|cases ja
    ·rw[au al];unfold unlink;cases ua:(s k).lk i off 1 with
     |false=>exact .inl rfl
     |true=>
      right;refine⟨?_,rfl⟩;cases ae:ei s (s k)with
      |true=>rw[NT ae]at ua;cases ua
      |false=>have cp:=ad.RL ua;cases e:s k<;>rw[e]at ae cp<;>first|exact ae|cases cp
  rintro (ae|ae)
  ·rcases am with e|⟨e,_⟩
   ·exact⟨e,ae,by rw[e,mS];exact ae⟩
   ·rw[e]at ae;cases ae
  ·rw[mS]at ae;rcases am with e|⟨_,e⟩
   ·rw[e]at ae;exact⟨e,ae,by rw[e,mS];exact ae⟩
   ·rw[e]at ae;cases ae
 |_=>
  rintro (ae|ae)
  ·exact⟨rfl,ae,by rw[mS];exact ae⟩
  ·rw[mS]at ae;exact⟨rfl,ae,by rw[mS];exact ae⟩
def Uz{P:Program}{s:ag}{t:TypeId}{i off d a_:Nat}{r:ad}(h:(fr P s t i off d).1)(ac:(s a_).aM=false)(ax:d≠a_)(hm:a_<bF)(an:∀i off m,r.lk i off m=false) :
  (fr P (put s a_ r) t i off d).1/\((fr P s t i off d).2 a_).aM=false/\(fr P (put s a_ r) t i off d).2=put (fr P s t i off d).2 a_ r:=by
 obtain⟨B,cs,bl,ap,am,nv,ja,aq,bO⟩:=FK h;have ub:(s i).fz=some cs:=by rw[ap];rcases bl with rfl|⟨_,rfl⟩<;>rfl
 have ct:i≠a_:=by rintro rfl;rw[ad.mB ub]at ac;cases ac
 have zE:b0 i off≠a_:=Uv hm i off;have ak:∀k,put s a_ r k=if k=a_ then (match r.refs a_ with|true=>.dead|false=>r)else s k:=d_ ac
 have bE:(fr P (put s a_ r) t i off d).1:=Ux (cs:=cs) (by rw[ak,au ct];exact ub) am (by rw[ak,au ax];exact nv) (by rw[ak,au zE];exact ja) aq;obtain⟨zdX,cs',nD,cO,_,_,_,_,H4⟩:=FK bE;rw[ak,au ct,ap]at cO;obtain⟨rfl,rfl⟩:zdX=B/\cs'=cs:=by
  rcases bl with rfl|⟨b,rfl⟩<;>rcases nD with rfl|⟨bg,rfl⟩<;>first|(cases cO;done)|skip
  ·injection cO with cO;exact⟨rfl,cO.symm⟩
  ·injection cO with iM gc;exact⟨by rw[iM],gc.symm⟩
 have cp:((fr P s t i off d).2 a_).aM=false:=by
  rw[bO,au (mW ct),au (mW zE)];rcases hi s i off 1 a_ with e|e<;>rw[e]
  ·exact ac
  ·rfl
 refine⟨bE,cp,?_⟩;funext k;rw[H4,d_ cp,bO];by_cases dY:k=i
 ·subst dY;rw[aC rfl,au ct,aC rfl]
 ·rw[au dY,au dY];by_cases hQ:k=b0 i off
  ·subst hQ;rw[aC rfl,au zE,aC rfl]
  ·rw[au hQ,au hQ];unfold unlink;rw[ak];by_cases h8:k=a_
   ·subst h8;rw[aC rfl,aC rfl];cases r.refs k with
    |true=>rfl
    |false=>simp only[an]
   ·rw[au h8,au h8]
def UA{P:Program}{s:ag}{x:Operand}(ae:ei s (look s x)=true)(i off m:Nat):(aG s x).2.lk i off m=false:=by
 unfold aG;have:∀v:ad,ei s v=true->(strip v).2.lk i off m=false:=by
  intro v aH;cases v<;>first|(simp[ei]at aH;done)|skip
  ·rename_i bK;cases bK with
   |one c=>cases c<;>rfl
   |agg cs=>rfl
  ·rfl
  ·rfl
  ·rfl
  ·exact NT (s:=s) aH
 exact this _ ae
def zdY{P:Program}{n:Nat}{ops:Array Oper}{bz bh:Oper}{s s1 s2:ag}(hw:cq s)(nS:∀d,bh.dst=some d->d<bF)(de:∀d,bh.dst=some d->d∉bz.looksAt ops)
  (ac:FJ P n ops bh s s1)(ai:zD P bz s1 s2):∃b7,zD P bz s b7/\FJ P n ops bh b7 s2:=by
 obtain⟨⟨a_,r,ed,e5,cZ,rfl,aH⟩,ae,FL⟩:=ac;obtain⟨x,cF,aB⟩:=Uw FL;rw[aB,cF]at aH;obtain⟨Jt,an⟩:(aG s x).1/\r=(aG s x).2:=aH;rw[cF]at ae;have mS:ei s (look s x)=true:=Fy ae x (by simp[Op.operands]);obtain⟨t,addr,y,p,i,off,d,zF,oT,NV,al,aw,ak,Cj,rfl⟩:=ai;have eU:∀z∈bz.op.operands,dy s (put s a_ r) z:=fun z aY=>ma hw cZ (kW bz a_ (de a_ ed) z aY);have bj:=eU addr (by rw[zF];simp[Op.operands]);have aS:=eU y (by rw[zF];simp[Op.operands]);have NW:put s a_ r bF=s bF:=by rw[d_ cZ,au (Uu (nS a_ ed))]
 have UB:jv (put s a_ r) (aG (put s a_ r) addr) (aG (put s a_ r) y)=jv s (aG s addr) (aG s y):=by rw[dD bj,dD aS];unfold jv;rw[NW]
 rw[UB]at al;obtain⟨dm,q,gt,UC,rfl⟩:=E8 al;have gp:put s a_ r i=s i:=iO bj (by rw[gt];simp[ad.refs]);have h9:put s a_ r d=s d:=iO aS (by rw[UC];simp[ad.refs]);obtain⟨B,cs,bl,ap,am,nv,ja,aq,_⟩:=FK Cj;have fk:put s a_ r (b0 i off)=s (b0 i off):=vz cZ (nS a_ ed) i off;have NX:(fr P s t i off d).1:=Ux (cs:=cs) (by rw[<-gp,ap];rcases bl with rfl|⟨_,rfl⟩<;>rfl) am (by rw[<-h9];exact nv) (by rw[<-fk];exact ja) aq;have ax:d≠a_:=by rintro rfl;have:=ad.y9 nv;rw[h9,cZ]at this;cases this
 obtain⟨_,ab,ar⟩:=Uz (r:=r) NX cZ ax (nS a_ ed) (fun i off m=>by rw[an];exact UA (P:=P) mS i off m);obtain⟨av,_,b5⟩:=Uy NX (.inl mS);refine⟨_,⟨t,addr,y,_,i,off,d,zF,oT,NV,al,aw,ak,NX,rfl⟩,⟨a_,r,ed,e5,ab,ar,?_⟩,?_,FL⟩
 ·rw[aB,cF];have e:aG (fr P s t i off d).2 x=aG s x:=by unfold aG;rw[av]
  exact⟨by show (aG _ x).1;rw[e];exact Jt,by show r=(aG _ x).2;rw[e];exact an⟩
 ·rw[cF];refine⟨?_,trivial⟩;show (ei _ (look _ x)&&true)=true
  rw[b5];rfl
def zdZ{P:Program}{n:Nat}{ops:Array Oper}{bz bh:Oper}{s s1 s2:ag}(hw:cq s)(nS:∀d,bh.dst=some d->d<bF)(de:∀d,bh.dst=some d->d∉bz.looksAt ops)
  (ai:zD P bz s s1)(ac:FJ P n ops bh s1 s2):∃b7,FJ P n ops bh s b7/\zD P bz b7 s2:=by
 obtain⟨t,addr,y,p,i,off,d,zF,oT,NV,al,aw,ak,Cj,rfl⟩:=ai;obtain⟨⟨a_,r,ed,e5,md,rfl,aH⟩,ae,FL⟩:=ac;obtain⟨x,cF,aB⟩:=Uw FL;rw[aB,cF]at aH;obtain⟨Jt,an⟩:(aG (fr P s t i off d).2 x).1/\r=(aG (fr P s t i off d).2 x).2:=aH;rw[cF]at ae;have mS:ei (fr P s t i off d).2 (look (fr P s t i off d).2 x)=true:=Fy ae x (by simp[Op.operands]);obtain⟨av,aI,_⟩:=Uy Cj (.inr mS);have e:aG (fr P s t i off d).2 x=aG s x:=by unfold aG;rw[av]
 rw[e]at Jt an;obtain⟨B,cs,bl,ap,am,nv,ja,aq,bO⟩:=FK Cj;obtain⟨dm,q,gt,UC,rfl⟩:=E8 al;have hm:=nS a_ ed;have ct:i≠a_:=by rintro rfl;rw[bO,aC rfl]at md;rcases bl with rfl|⟨_,rfl⟩<;>cases md
 have zE:b0 i off≠a_:=Uv hm i off;have cZ:(s a_).aM=false:=by
  rw[bO,au (mW ct),au (mW zE)]at md;cases aj:(s a_).aM with
  |false=>rfl
  |true=>rw[jq aj,aj]at md;cases md
 have ax:d≠a_:=by rintro rfl;have:=ad.y9 nv;rw[cZ]at this;cases this
 obtain⟨aa,_,ar⟩:=Uz (r:=r) Cj cZ ax hm (fun i off m=>by rw[an];exact UA (P:=P) aI i off m);have eU:∀z∈bz.op.operands,dy s (put s a_ r) z:=fun z aY=>ma hw cZ (kW bz a_ (de a_ ed) z aY);have bj:=eU addr (by rw[zF];simp[Op.operands]);have aS:=eU y (by rw[zF];simp[Op.operands]);have NW:put s a_ r bF=s bF:=by rw[d_ cZ,au (Uu hm)]
 refine⟨put s a_ r,⟨⟨a_,r,ed,e5,cZ,rfl,?_⟩,?_,FL⟩,t,addr,y,_,i,off,d,zF,oT,NV,?_,aw,ak,aa,ar.symm⟩
 ·rw[aB,cF];exact⟨Jt,an⟩
 ·rw[cF];refine⟨?_,trivial⟩;show (ei _ (look _ x)&&true)=true
  rw[aI];rfl
 ·rw[dD bj,dD aS];rw[<-al];unfold jv;rw[NW]
def xI(fl:List Nat):List Bool:=fl.map fun k=>k==6 ||k==7 ||k==8
def vL(fl:List Nat):List Bool:=fl.map fun k=>k==6 ||k==7
def sx(P:Program)(n:Nat)(fl:List Nat)(ops:Array Oper)(o:Oper)(k:Nat)(s s':ag):Prop:=
 match k with
 |0=>ft P n ops o s (fun t=>t=s')
 |1=>gE P n ops o s s'
 |4=>pN P n (xI fl) ops o s s'
 |5=>zD P o s s'
 |6=>FJ P n ops o s s'
 |7=>gE P n ops o s s'/\iE P s o.op
 |8=>gE P n ops o s s'/\pO s o
 |9=>pN P n (vL fl) ops o s s'
 |_=>t_ n ops o (fun s r=>oU P s o.op r) (fun s e r=>xG P s e o.op r) s s'
def Ck(P:Program)(n:Nat)(fl:List Nat)(ops:Array Oper)(i:Nat)(s s':ag):Prop:=
 ∃o,ops[i]?=some o/\sx P n fl ops o (fl.getD i 0) s s'
def Cl(s:ag)(o:Oper):Prop:=match o.op with
 |.store _ a x=>o.guard=none/\o.dst=none/\(jv s (aG s a) (aG s x)).isSome=true
 |_=>False
def zea{P:Program}{n:Nat}{ops:Array Oper}{o:Oper}{s:ag}{K:ag->Prop}(al:Cl s o)(h:ft P n ops o s K):∃s',zD P o s s'/\K s':=by
 unfold Cl at al;split at al
 ·rename_i t a x cF;obtain⟨aB,ax,am⟩:=al;obtain⟨⟨p,i,off,d⟩,e⟩:=tx.1 am;unfold ft at h;rw[aB,ax,cF]at h;simp only[fs,e]at h;exact⟨_,⟨t,a,x,p,i,off,d,cF,aB,ax,e,h.1,h.2.1,h.2.2.1,rfl⟩,h.2.2.2⟩
 ·exact al.elim
def UD{P:Program}{n:Nat}{ops:Array Oper}{o:Oper}{s s':ag}(h:zD P o s s'):ft P n ops o s (fun t=>t=s'):=by obtain⟨t,a,x,p,i,off,d,cF,aB,ax,e,aa,ab,ar,rfl⟩:=h;unfold ft;rw[aB,ax,cF];simp only[fs,e];exact⟨aa,ab,ar,trivial⟩
def vM(P:Program)(n:Nat)(ops:Array Oper)(o:Oper)(s:ag)(K:ag->Prop):Prop:=
 match o.dst with
 |none=>False
 |some d=>d<n/\(s d).aM=false/\match o.guard with
  |none=>∃r,oU P s o.op r/\K (put s d r)
  |some g=>match c1 ops s g with
   |some true=>∃r,oU P s o.op r/\K (put s d (.cond true r))
   |some false=>K (put s d (.cond false (.x (.one (.bool false)))))
   |none=>False
def NY{P:Program}{n:Nat}{ops:Array Oper}{o:Oper}{s:ag}{K:ag->Prop}(h:vM P n ops o s K):∃s',t_ n ops o (fun s r=>oU P s o.op r) (fun s e r=>xG P s e o.op r) s s'/\K s':=by
 unfold vM at h;split at h
 ·exact h.elim
 ·rename_i d ax;obtain⟨aT,aw,h⟩:=h;cases aB:o.guard with
  |none=>rw[aB]at h;obtain⟨r,aa,ab⟩:=h;exact⟨_,⟨d,r,ax,aT,aw,rfl,by rw[aB];exact aa⟩,ab⟩
  |some g=>
   rw[aB]at h;simp only at h;split at h
   ·rename_i e;obtain⟨r,aa,ab⟩:=h;exact⟨_,⟨d,_,ax,aT,aw,rfl,by rw[aB];exact⟨true,e,r,aa,rfl⟩⟩,ab⟩
   ·rename_i e;exact⟨_,⟨d,_,ax,aT,aw,rfl,by rw[aB];exact⟨false,e,rfl⟩⟩,h⟩
   ·exact h.elim
def ew(P:Program)(n:Nat)(fl:List Nat)(ops:Array Oper):List Nat->List Oper->ag->(ag->Prop)->Prop
 |_,[],s,K=>K s
 |bo,o::r,s,K=>match bo.headD 0 with
  |0=>ft P n ops o s (fun s'=>ew P n fl ops bo.tail r s' K)
  |1=>dn P n ops o s (fun s'=>ew P n fl ops bo.tail r s' K)
  |4=>kp o=true/\vK s (xI fl) ops o/\ft P n ops o s (fun s'=>ew P n fl ops bo.tail r s' K)
  |5=>Cl s o/\ft P n ops o s (fun s'=>ew P n fl ops bo.tail r s' K)
  |6=>xH o=true/\iE P s o.op/\dn P n ops o s (fun s'=>ew P n fl ops bo.tail r s' K)
  |7=>iE P s o.op/\dn P n ops o s (fun s'=>ew P n fl ops bo.tail r s' K)
  |8=>pO s o/\dn P n ops o s (fun s'=>ew P n fl ops bo.tail r s' K)
  |9=>kp o=true/\vK s (vL fl) ops o/\ft P n ops o s (fun s'=>ew P n fl ops bo.tail r s' K)
  |_=>vM P n ops o s (fun s'=>ew P n fl ops bo.tail r s' K)
def Ju{P:Program}{s:ag}(hw:cq s){op:Op}{r:ad}(h:oU P s op r):(∀j,r.refs j=true->(s j).aM=true)/\r.aM=false:=by
 unfold oU at h;split at h
 ·split at h
  ·split at h
   ·rename_i x _;unfold FI at h;split at h
    ·rename_i av aI;obtain⟨_,_,bQ,_,rfl⟩:=h;refine⟨fun j ac=>si hw x ?_,rfl⟩;rw[aI];simpa[ad.refs,j_]using ac
    ·exact h.elim
   ·exact h.elim
  ·exact h.elim
 ·exact h.elim
def zeb{P:Program}{n:Nat}{ops:Array Oper}{o:Oper}{s s':ag}(hw:cq s)(h:t_ n ops o (fun s r=>oU P s o.op r) (fun s e r=>xG P s e o.op r) s s'):cq s':=by
 obtain⟨d,r,_,_,_,rfl,h⟩:=h;refine fe hw (fun j ac=>?_);split at h
 ·exact(Ju hw h).1 j ac
 ·obtain⟨e,_,h⟩:=h;unfold xG at h;split at h
  ·obtain⟨k0,aa,rfl⟩:=h;exact(Ju hw aa).1 j ac
  ·subst h;cases ac
def NZ{P:Program}{n:Nat}{fl:List Nat}{ops:Array Oper}{o:Oper}{k:Nat}{s s':ag}(hw:cq s)(h:sx P n fl ops o k s s'):cq s':=by
 have bj:ft P n ops o s (fun t=>t=s')->cq s':=by intro h;obtain⟨s1,_,ab,ar⟩:=Fu hw h;rw[<-ab];exact ar
 unfold sx at h;split at h
 ·exact bj h
 ·exact B' hw h
 ·exact bj (FE h)
 ·exact bj (UD h)
 ·exact B' hw h.1
 ·exact B' hw h.1
 ·exact B' hw h.1
 ·exact bj (FE h)
 ·exact zeb hw h
section
variable {P:Program}{S0:Env}{w0 w:World}{n:Nat}{s:ag}{a:Act}{ops:Array Oper}{fl:List Nat}
def N0{K:ag->Prop}:∀(l:List Oper) (bo:List Nat) (k:Nat) (s:ag),cq s->(∀j o,l[j]?=some o->ops[k+j]?=some o)->(∀j,bo[j]?=fl[k+j]?)->ew P n fl ops bo l s K ->
  ∃s',chain (Ck P n fl ops) (List.range' k l.length) s s'/\K s'
 |[],_,_,s,_,_,_,h=>⟨s,rfl,by simpa[ew]using h⟩
 |o::l,bo,k,s,hw,al,ay,h=>by
  have aW:ops[k]?=some o:=by simpa using al 0 o rfl
  have l4:∀j o,l[j]?=some o->ops[(k+1)+j]?=some o:=fun j o aw=>by have:=al (j+1) o (by simpa using aw);simpa[rG,Ca 1 j]using this
  have NQ:∀j,bo.tail[j]?=fl[(k+1)+j]?:=fun j=>by have:=ay (j+1);simpa[rG,Ca 1 j]using this
  have zec:bo.headD 0=fl.getD k 0:=by have:=ay 0;rw[ti]at this;rw[jQ,<-this];cases bo<;>rfl
  simp only[ew,zec]at h;have:∃s1,sx P n fl ops o (fl.getD k 0) s s1/\ew P n fl ops bo.tail l s1 K:=by
   generalize fl.getD k 0=m at h
   match m,h with
   |0,h=>obtain⟨s1,aa,ab,_⟩:=Fu hw h;exact⟨s1,aa,ab⟩
   |1,h=>obtain⟨s1,aa,ab⟩:=B_ h;exact⟨s1,aa,ab⟩
   |2,h=>obtain⟨s1,aa,ab⟩:=NY h;exact⟨s1,aa,ab⟩
   |3,h=>obtain⟨s1,aa,ab⟩:=NY h;exact⟨s1,aa,ab⟩
   |4,h=>obtain⟨s1,aa,ab⟩:=NP h.1 h.2.1 h.2.2;exact⟨s1,aa,ab⟩
   |5,h=>obtain⟨s1,aa,ab⟩:=zea h.1 h.2;exact⟨s1,aa,ab⟩
   |6,h=>obtain⟨s1,aa,ab⟩:=B_ h.2.2;exact⟨s1,⟨aa,h.2.1,h.1⟩,ab⟩
   |7,h=>obtain⟨s1,aa,ab⟩:=B_ h.2;exact⟨s1,⟨aa,h.1⟩,ab⟩
   |8,h=>obtain⟨s1,aa,ab⟩:=B_ h.2;exact⟨s1,⟨aa,h.1⟩,ab⟩
   |9,h=>obtain⟨s1,aa,ab⟩:=NP h.1 h.2.1 h.2.2;exact⟨s1,aa,ab⟩
   |m+10,h=>obtain⟨s1,aa,ab⟩:=NY h;exact⟨s1,aa,ab⟩
  obtain⟨s1,aa,ab⟩:=this;obtain⟨s',ar,aN⟩:=N0 l bo.tail (k+1) s1 (NZ hw aa) l4 NQ ab;exact⟨s',⟨s1,⟨o,aW,aa⟩,ar⟩,aN⟩
def zG(k:Nat):Bool:=k==1 ||k==2 ||k==6 ||k==7 ||k==8
def vN(oV oW:Nat):Bool:=(zG oV&&zG oW) ||((oV==4 ||oV==5)&&oW==6) ||((oW==4 ||oW==5)&&oV==6) ||(oV==4&&oW==7) ||(oW==4&&oV==7) ||(oV==4&&oW==8) ||(oW==4&&oV==8) ||(oV==9&&(oW==6 ||oW==7)) ||(oW==9&&(oV==6 ||oV==7))
def FM(fl:List Nat)(ops:Array Oper)(b:Array Nat)(i j:Nat):Bool:=
 (b.getD i 0).testBit j ||(vN (fl.getD i 0) (fl.getD j 0) &&
 match ops[i]?,ops[j]? with
 |some bz,some bh=>bh.apart ops bz
 |_,_=>false)
def uc(fl:List Nat)(ops:Array Oper):Bool:=
 let b:=Region.before ops
 ops.toList.all Fv&&(List.range ops.size).all fun i=>
  (match ops[i]? with
   |some o=>o.after.toList.all fun e=>!Region.binds .any e ||decide (e.on<i)
   |none=>false) &&
  (List.range i).all fun j=>FM fl ops b i j
def Cm{i:Nat}(h:fl.getD i 0=6\/fl.getD i 0=7\/fl.getD i 0=8):(xI fl)[i]?=some true:=by
 rw[jQ]at h;unfold xI;rw[dO];cases e:fl[i]? with
 |none=>rw[e]at h;rcases h with h|h|h<;>cases h
 |some k=>rw[e]at h;simp at h;rcases h with h|h|h<;>simp[h]
def UE{i:Nat}(h:fl.getD i 0=6\/fl.getD i 0=7):(vL fl)[i]?=some true:=by
 rw[jQ]at h;unfold vL;rw[dO];cases e:fl[i]? with
 |none=>rw[e]at h;rcases h with h|h<;>cases h
 |some k=>rw[e]at h;simp at h;rcases h with h|h<;>simp[h]
def UF{i j:Nat}{bz bh:Oper}{s s1 s2:ag}(ai:ops[i]?=some bz)(ac:ops[j]?=some bh)(hm:vN (fl.getD i 0) (fl.getD j 0)=true)(vG:∀d,bz.dst=some d->d<bF)(nS:∀d,bh.dst=some d->d<bF)(jb:bh.apart ops bz=true)(hw:cq s)
  (aa:sx P n fl ops bh (fl.getD j 0) s s1)(ab:sx P n fl ops bz (fl.getD i 0) s1 s2):∃b7,sx P n fl ops bz (fl.getD i 0) s b7/\sx P n fl ops bh (fl.getD j 0) b7 s2:=by
 obtain⟨de,a2,a3⟩:=Oper.apart_spec jb;have jy:∀d,bz.dst=some d->bh.dst≠some d:=fun d h bE=>a2 d bE h;have key:∀{k:Nat},k=4\/k=5\/zG k=true->True:=fun _=>trivial;unfold vN at hm;rw[eO,eO,eO,eO,eO,eO,eO,eO]at hm;rcases hm with (((((((hm|hm)|hm)|hm)|hm)|hm)|hm)|hm)|hm
 ·rw[b4]at hm;obtain⟨ci,jW⟩:=hm;have look:∀{m:Nat} {o:Oper} {k:Nat},ops[m]?=some o->zG k=true->∃V sw,okV P o V sw/\(∀t t',sx P n fl ops o k t t'->t_ n ops o V sw t t'/\((k=6\/k=7->iE P t o.op)/\(k=6->xH o=true)/\(k=8->pO t o)))/\(∀t t',t_ n ops o V sw t t'->((k=6\/k=7->iE P t o.op)/\(k=6->xH o=true)/\(k=8->pO t o))->sx P n fl ops o k t t'):=by
   intro m o k _ am;unfold zG at am;simp only[eO,fB]at am;rcases am with (((rfl|rfl)|rfl)|rfl)|rfl
   ·exact⟨_,_,Jo P o,fun t t' h=>⟨h,(fun h=>by rcases h with h|h<;>cases h),(fun h=>by cases h),(fun h=>by cases h)⟩,fun t t' h _=>h⟩
   ·exact⟨_,_,zdV P o,fun t t' h=>⟨h,(fun h=>by rcases h with h|h<;>cases h),(fun h=>by cases h),(fun h=>by cases h)⟩,fun t t' h _=>h⟩
   ·exact⟨_,_,Jo P o,fun t t' h=>⟨h.1,fun _=>h.2.1,fun _=>h.2.2,(fun h=>by cases h)⟩,fun t t' h ae=>⟨h,ae.1 (.inl rfl),ae.2.1 rfl⟩⟩
   ·exact⟨_,_,Jo P o,fun t t' h=>⟨h.1,(fun _=>h.2),(fun h=>by cases h),(fun h=>by cases h)⟩,fun t t' h ae=>⟨h,ae.1 (.inr rfl)⟩⟩
   ·exact⟨_,_,Jo P o,fun t t' h=>⟨h.1,(fun h=>by rcases h with h|h<;>cases h),(fun h=>by cases h),fun _=>h.2⟩,fun t t' h ae=>⟨h,ae.2.2 rfl⟩⟩
  obtain⟨Jp,Jr,zed,zee,zef⟩:=look ai ci;obtain⟨Jq,Js,zeg,m7,zeh⟩:=look ac jW;obtain⟨g1,dm⟩:=m7 _ _ aa;obtain⟨g2,dF⟩:=zee _ _ ab;obtain⟨b7,aF,aP⟩:=zdW zeg zed nS vG jb hw g1 g2;have mX:∀{t t':ag} {o cv:Oper} {V:ag->ad->Prop} {sw:ag->Bool->ad->Prop},cq t->t_ n ops o V sw t t'->(∀d,o.dst=some d->d∉cv.looksAt ops)->∀x∈cv.op.operands,dy t t' x:=by rintro t t' o cv V sw tY ⟨d,r,ax,hdn,cp,rfl,_⟩ bj x aj;exact ma (r:=r) tY cp (kW cv d (bj d ax) x aj)
  have B3:∀{t t':ag} {o:Oper},(∀x∈o.op.operands,dy t t' x)->(pO t o↔pO t' o):=by
   intro t t' o h;constructor
   ·rintro⟨k,e,z,xs,aa,ab,ar⟩;exact⟨k,e,z,xs,aa,ab,by rw[(h (.tmp k) (by rw[aa];simp[Op.operands])).1];exact ar⟩
   ·rintro⟨k,e,z,xs,aa,ab,ar⟩;exact⟨k,e,z,xs,aa,ab,by rw[<-(h (.tmp k) (by rw[aa];simp[Op.operands])).1];exact ar⟩
  exact⟨b7,zef _ _ aF ⟨fun h=>(Cb (mX hw g1 de)).1 (dF.1 h),dF.2.1,fun h=>(B3 (mX hw g1 de)).2 (dF.2.2 h)⟩,zeh _ _ aP ⟨fun h=>(Cb (mX hw aF a3)).2 (dm.1 h),dm.2.1,fun h=>(B3 (mX hw aF a3)).1 (dm.2.2 h)⟩⟩
 ·simp only[b4,eO,fB]at hm;obtain⟨xJ,UG⟩:=hm;have ay:=Cm (.inl UG);rw[UG]at aa⊢;obtain⟨bA,c2,c3⟩:=aa;rcases xJ with xJ|xJ<;>rw[xJ]at ab⊢
  ·obtain⟨b7,aF,aP,a7⟩:=FA hw ac ay de a3 a2 bA c2 ab;exact⟨b7,aF,aP,a7,c3⟩
  ·obtain⟨b7,aF,aP⟩:=zdY hw nS de ⟨bA,c2,c3⟩ ab;exact⟨b7,aF,aP⟩
 ·simp only[b4,eO,fB]at hm;obtain⟨xK,UH⟩:=hm;have ay:=Cm (.inl UH);rw[UH]at ab⊢;obtain⟨bA,c2,c3⟩:=ab;rcases xK with xK|xK<;>rw[xK]at aa⊢
  ·obtain⟨b7,aF,aP,a7⟩:=FC hw ai ay a3 de jy aa bA c2;exact⟨b7,⟨aF,aP,c3⟩,a7⟩
  ·obtain⟨b7,aF,aP⟩:=zdZ hw vG a3 aa ⟨bA,c2,c3⟩;exact⟨b7,aF,aP⟩
 ·simp only[b4,fB]at hm;obtain⟨xJ,UI⟩:=hm;have ay:=Cm (.inr (.inl UI));rw[UI]at aa⊢;rw[xJ]at ab⊢;obtain⟨bA,c2⟩:=aa;obtain⟨b7,aF,aP,a7⟩:=FA hw ac ay de a3 a2 bA c2 ab;exact⟨b7,aF,aP,a7⟩
 ·simp only[b4,fB]at hm;obtain⟨xK,UJ⟩:=hm;have ay:=Cm (.inr (.inl UJ));rw[UJ]at ab⊢;rw[xK]at aa⊢;obtain⟨bA,c2⟩:=ab;obtain⟨b7,aF,aP,a7⟩:=FC hw ai ay a3 de jy aa bA c2;exact⟨b7,⟨aF,aP⟩,a7⟩
 ·simp only[b4,fB]at hm;obtain⟨xJ,UK⟩:=hm;have ay:=Cm (.inr (.inr UK));rw[UK]at aa⊢;rw[xJ]at ab⊢;obtain⟨bA,c2⟩:=aa;obtain⟨b7,aF,aP,a7⟩:=zdJ hw ac ay de a3 a2 bA c2 ab;exact⟨b7,aF,aP,a7⟩
 ·simp only[b4,fB]at hm;obtain⟨xK,UL⟩:=hm;have ay:=Cm (.inr (.inr UL));rw[UL]at ab⊢;rw[xK]at aa⊢;obtain⟨bA,c2⟩:=ab;obtain⟨b7,aF,aP,a7⟩:=zdK hw ai ay a3 de jy aa bA c2;exact⟨b7,⟨aF,aP⟩,a7⟩
 ·simp only[b4,eO,fB]at hm;obtain⟨zei,eI⟩:=hm;have ay:=UE eI;rw[zei]at ab⊢;rcases eI with eI|eI<;>rw[eI]at aa⊢
  ·obtain⟨bA,c2,c3⟩:=aa;obtain⟨b7,aF,aP,a7⟩:=FA hw ac ay de a3 a2 bA c2 ab;exact⟨b7,aF,aP,a7,c3⟩
  ·obtain⟨bA,c2⟩:=aa;obtain⟨b7,aF,aP,a7⟩:=FA hw ac ay de a3 a2 bA c2 ab;exact⟨b7,aF,aP,a7⟩
 ·simp only[b4,eO,fB]at hm;obtain⟨zej,eN⟩:=hm;have ay:=UE eN;rw[zej]at aa⊢;rcases eN with eN|eN<;>rw[eN]at ab⊢
  ·obtain⟨bA,c2,c3⟩:=ab;obtain⟨b7,aF,aP,a7⟩:=FC hw ai ay a3 de jy aa bA c2;exact⟨b7,⟨aF,aP,c3⟩,a7⟩
  ·obtain⟨bA,c2⟩:=ab;obtain⟨b7,aF,aP,a7⟩:=FC hw ai ay a3 de jy aa bA c2;exact⟨b7,⟨aF,aP⟩,a7⟩
def zek{s:ag}{K:ag->Prop}(aE:uc fl ops=true)(hw:cq s)(h:ew P n fl ops fl ops.toList s K):tU ops (Ck P n fl ops) K ops.size (Array.replicate ops.size false) s:=by
 obtain⟨s',zB,am⟩:=N0 (fl:=fl) ops.toList fl 0 s hw (fun j o aw=>by simpa using aw) (fun j=>by simp) h;have sv:∀{i:Nat} {o:Oper},ops[i]?=some o->∀d,o.dst=some d->d<bF:=by intro i o aw;have h:=aE;simp only[uc,b4]at h;exact I7 (fm.1 h.1 o (by have:=xF aw;simpa using this))
 have jd:=aE;simp only[uc,b4]at jd
 replace jd:=jd.2
 have fQ:∀i,i<ops.size->((match ops[i]? with
   |some o=>o.after.toList.all fun e=>!Region.binds .any e ||decide (e.on<i)
   |none=>false)=true/\∀j,j<i->FM fl ops (Region.before ops) i j=true):=by
  intro i ai;have:=fm.1 jd i (by simp[ai]);simp only[b4,fm,Jm]at this;exact⟨this.1,fun j ac=>this.2 j ac⟩
 refine IY (wf:=cq) (indep:=fun j i=>∃bz bh,ops[i]?=some bz/\ops[j]?=some bh/\vN (fl.getD i 0) (fl.getD j 0)=true/\bh.apart ops bz=true)
  (fun i s s' hw h=>by obtain⟨o,_,h⟩:=h;exact NZ hw h) ?_ ?_ ?_ am ops.size (List.range' 0 ops.toList.length) _ s (by simp) (by simp) ?_ ?_ ?_ hw zB
 ·rintro j i s s1 s2 ⟨bz,bh,fF,cZ,zH,jb⟩ hw ⟨gz,gw,aa⟩ ⟨e4,gS,ab⟩;rw[cZ]at gw;injection gw with gw;subst gw
  rw[fF]at gS;injection gS with gS;subst gS
  obtain⟨b7,aF,aP⟩:=UF fF cZ zH (sv fF) (sv cZ) jb hw aa ab;exact⟨b7,⟨bz,fF,aF⟩,⟨bh,cZ,aP⟩⟩
 ·intro i o aw e he ae;have:=(fQ i (gM.1 aw).1).1;rw[aw]at this;have:=fm.1 this e (by simpa using he);simpa[ae]using this
 ·intro j i fA ai;have:=(fQ i ai).2 j fA;unfold FM at this;rw[eO]at this;rcases this with h|h
  ·exact .inl (I8 ops i j h)
  ·rw[b4]at h;obtain⟨f1,h⟩:=h;split at h
   ·rename_i bz bh fF cZ;exact .inr ⟨bz,bh,fF,cZ,f1,h⟩
   ·cases h
 ·intro i o aw al;have aq:=(gM.1 aw).1;simp[aq]at al
 ·exact Jn
 ·intro i;simp only[FH,iZ,f_,cd,kZ];constructor
  ·intro ai;exact⟨ai,by simp[ai]⟩
  ·intro ai;exact ai.1
def UM(ah:Rel S0 w0 n s a w)(o:Oper){d:Nat}{r:ad}(eu:o.dst=some d)(ax:S0.m<=d/\d<n)(h:oU P s o.op r){bP:Act->World->Prop}{Q:Exit->Act->World->Prop}
  (b6:∀aZ w',Rel S0 w0 n (Ab.put s d r) aZ w'->bP aZ w'):o.wp P a w bP Q:=by
 obtain⟨dst,op,type,pos,after,guard⟩:=o;dsimp only at h eu;subst eu;have oA:=(Ju ah.wf h).1;unfold oU at h;split at h
 ·rename_i c;obtain⟨callee,⟨args⟩,ts⟩:=c;dsimp only at h;split at h
  ·rename_i f;split at h
   ·rename_i x;unfold FI at h;split at h
    ·rename_i g q i off av aI;obtain⟨ak,br,bQ,⟨⟨fn,hL,fO,r7⟩,hm⟩,rfl⟩:=h;have ay:=ah.aG f ak;obtain⟨us,nM,lr⟩:=EV ay av;obtain rfl:us=#[]:=Array.eq_empty_of_size_eq_zero (by simpa using lr.1);have aj:=ah.aG x (by rw[aI];exact br);rw[aI]at aj;obtain⟨b,aH,ae⟩:=aj;have cx:(execOp a.eval ({dst:=some d,op:=.call {callee:=.value f,args:=⟨[x]⟩,argTypes:=ts},type:=type,pos:=pos,after:=after,guard:=guard}:Oper)).run P w=.ok (.enter g #[a.eval x]) w:=by
      simp only[execOp,resolve,nM,Deferred.ofValue,Sem.run_bind,Sem.run_pure,Result.andThen_ok,invoke,callFunc,run_program,hL,fO,r7,kg,h6];simp
     unfold Oper.wp;rw[cx];simp only[Oper.upon];refine(hm w (a.eval x) (by rw[aH];rfl) (ah.lt.Bk ah.below)).mono ?_;rintro e w' ⟨bg,t,rfl,aa,ab,ar⟩;refine b6 _ _ (ah.put ax (It ar) oA ?_ (fun c ao=>by cases ao) (fun c ao=>by cases ao));refine⟨_,rfl,rfl,fun j c ac=>?_⟩;cases j with
     |succ j=>simp at ac
     |zero=>
      simp at ac;subst ac;refine⟨_,rfl,?_⟩;rw[qm,au (by simp),yU];refine⟨bg,b,rfl,⟨.inr (.inl (iJ ah.below.size aa)),(gM.1 ab).1,fun k am=>?_⟩,?_,ae⟩
      ·have:=((ah.rep k).gi am).2;omega
      ·rw[cell_of_row _ bg 0 _ t (0,0) ab,aH];rfl
    ·exact h.elim
   ·exact h.elim
  ·exact h.elim
 ·exact h.elim
def Jv(ah:Rel S0 w0 n s a w)(o:Oper)(lA:∀d,o.dst=some d->S0.m<=d){s':ag}(h:gE P n ops o s s'){bP:Act->World->Prop}{Q:Exit->Act->World->Prop}
  (b6:∀aZ w',Rel S0 w0 n s' aZ w'->bP aZ w'):if Region.wanted o (yielded ops a.tmps)then o.wp P a w bP Q\/(o.asks P a w/\LetsOut Q)else bP (a.put o.dst undef) w:=by
 obtain⟨d,r,eu,ax,_,rfl,aH⟩:=h;cases aB:o.guard with
 |none=>rw[aB]at aH;rw[aC (by simp[Region.wanted,aB])];exact .inl (Uq (P:=P) ah o eu ⟨lA d eu,ax⟩ aH b6)
 |some g=>
  rw[aB]at aH;obtain⟨e,he,aH⟩:=aH;have hw:Region.wanted o (yielded ops a.tmps)=e:=by simp only[Region.wanted,aB];exact zj ah he
  have:=Ur (P:=P) (Q:=Q) ah o eu ⟨lA d eu,ax⟩ aH b6;rw[hw];cases e with
  |true=>exact .inl this
  |false=>exact this
def UN{i:Nat}{s':ag}(dV:∀o∈ops.toList,∀d,o.dst=some d->S0.m<=d)(ah:Rel S0 w0 n s a w)(h:Ck P n fl ops i s s'){bP:Act->World->Prop}{Q:Exit->Act->World->Prop}
  (b6:∀aZ w',Rel S0 w0 n s' aZ w'->bP aZ w'):wpOp P ops Q i bP a w:=by
 obtain⟨o,aw,h⟩:=h;have lA:=dV o (by have:=xF aw;simpa using this);unfold wpOp;rw[aw];simp only;have bj:ft P n ops o s (fun t=>t=s')->if Region.wanted o (yielded ops a.tmps)then o.wp P a w bP Q\/(o.asks P a w/\LetsOut Q)else bP (a.put o.dst undef) w:=by
  intro h;unfold ft at h;cases aB:o.guard with
  |none=>rw[aB]at h;rw[aC (by simp[Region.wanted,aB])];exact .inl (xv (P:=P) ah o lA h (fun s1 aZ w' bM ap=>by subst ap;exact b6 aZ w' bM))
  |some g=>
   rw[aB]at h;simp only at h;cases he:c1 ops s g with
   |none=>rw[he]at h;exact h.elim
   |some e=>
    rw[he]at h;simp only at h;have hw:Region.wanted o (yielded ops a.tmps)=e:=by simp only[Region.wanted,aB];exact zj ah he
    have:=IX (P:=P) (Q:=Q) ah o lA h (fun s1 aZ w' bM ap=>by subst ap;exact b6 aZ w' bM);rw[hw];cases e with
    |true=>exact .inl this
    |false=>exact this
 unfold sx at h;split at h
 ·exact bj h
 ·exact Jv ah o lA h b6
 ·exact bj (FE h)
 ·exact bj (UD h)
 ·exact Jv ah o lA h.1 b6
 ·exact Jv ah o lA h.1 b6
 ·exact Jv ah o lA h.1 b6
 ·exact bj (FE h)
 ·obtain⟨d,r,eu,ax,cp,rfl,aH⟩:=h;cases aB:o.guard with
  |none=>rw[aB]at aH;rw[aC (by simp[Region.wanted,aB])];exact .inl (UM (P:=P) ah o eu ⟨lA d eu,ax⟩ aH b6)
  |some g=>
   rw[aB]at aH;obtain⟨e,he,aH⟩:=aH;have hw:Region.wanted o (yielded ops a.tmps)=e:=by simp only[Region.wanted,aB];exact zj ah he
   rw[hw];cases e with
   |false=>have gb:r=.cond false (.x (.one (.bool false))):=aH;subst gb;simp only[kg,h6];rw[eu];exact b6 _ _ (Fk (r:=.x (.one (.bool false))) ah ⟨lA d eu,ax⟩ rfl (fun j ac=>by cases ac))
   |true=>
    obtain⟨k0,aH,rfl⟩:=aH;refine .inl (UM (P:=P) ah o eu ⟨lA d eu,ax⟩ aH (fun aZ w' bM=>?_));obtain⟨oA,xf⟩:=Ju ah.wf aH;have BT:∀j,k0.refs j=true->j≠d:=by rintro j ac rfl;have:=oA j ac;rw[cp]at this;cases this
    have Cn:k0.refs d=false:=by
     cases h:k0.refs d with
     |false=>rfl
     |true=>exact absurd rfl (BT d h)
    have av:Ab.put s d (.cond true k0)=fun k=>if k=d then .cond true (Ab.put s d k0 d)else Ab.put s d k0 k:=by
     funext k;by_cases am:k=d
     ·subst am;rw[aC rfl,jo Cn,jo (show (ad.cond true k0).refs k=false from Cn)]
     ·rw[au am];unfold Ab.put;cases (s d).aM<;>simp[am]
    refine b6 _ _ ?_;rw[av];exact(bM.Nk ax (by rw[jo Cn];exact xf) (fun i=>rfl))
def UO(dV:∀o∈ops.toList,∀d,o.dst=some d->S0.m<=d){fin:ag->Prop}{Q:Exit->Act->World->Prop}(c8:∀s' aZ w',Rel S0 w0 n s' aZ w'->fin s'->Q .normal aZ w') :
  ∀(fuel:Nat) (listed:Array Bool) (s:ag) (a:Act) (w:World),Rel S0 w0 n s a w->tU ops (Ck P n fl ops) fin fuel listed s->wpAny P .any ops Q fuel listed a w
 |0,_,s,a,w,ah,h=>⟨h.1,c8 s a w ah h.2⟩
 |fuel+1,listed,s,a,w,ah,h=>⟨fun aW=>c8 s a w ah (h.1 aW),fun i ai=>by obtain⟨s',aa,ab⟩:=h.2 i ai;exact UN dV ah aa (fun aZ w' bM=>UO dV c8 fuel _ s' aZ w' bM ab)⟩
def zel{id:Nat}{Q:Exit->Act->World->Prop}{K:ag->Prop}(hm:P.follows .mixedOrders=true)(aE:uc fl ops=true)(dV:∀o∈ops.toList,∀d,o.dst=some d->S0.m<=d)
  (ah:Rel S0 w0 n s a w)(h:ew P n fl ops fl ops.toList s K)(c8:∀s' aZ w',Rel S0 w0 n s' aZ w'->K s'->Q .normal aZ w'):(Code.region id ops true).wp P Q a w:=
 wp_region_any hm (UO dV c8 _ _ s a _ ah.drawn (zek aE ah.wf h))
end
end Go.Ab
namespace Go.Ab
open Go Go.RowKit
variable [bf]
section
variable {P:Program}{S0:Env}{w0 w:World}{n:Nat}{s:ag}{a:Act}{ops:Array Oper}{fl:List Nat}
def UP{l2:List Oper}{c7:Exit->Act->World->Prop}{K:ag->Prop}:∀(l:List Oper) (s:ag) (a:Act) (w:World),(∀o∈l,∀d,o.dst=some d->S0.m<=d)->Rel S0 w0 n s a w->bN P n ops l s K ->
  (∀s' aZ w',Rel S0 w0 n s' aZ w'->K s'->wpList P ops c7 l2 aZ w')->wpList P ops c7 (l++l2) a w:=by
 intro l;induction l with
 |nil=>intro s a w _ ah h c8;exact c8 s a w ah h
 |cons o l aX=>
  intro s a w al ah h c8;have du:∀o∈l,∀d,o.dst=some d->S0.m<=d:=fun o aw=>al o (l3 _ aw);have aw:=al o kl;simp only[bN,ft]at h;rw[gO];unfold wpList;cases aB:o.guard with
  |none=>
   rw[aB]at h;have hw:Region.wanted o (yielded ops a.tmps)=true:=by simp[Region.wanted,aB]
   rw[aC hw];exact .inl (xv (P:=P) ah o aw h (fun s' aZ w' bM am=>aX s' aZ w' du bM am c8))
  |some g=>
   rw[aB]at h;simp only at h;cases aH:c1 ops s g with
   |none=>rw[aH]at h;exact h.elim
   |some e=>
    rw[aH]at h;have hw:Region.wanted o (yielded ops a.tmps)=e:=by simp only[Region.wanted,aB];exact zj ah aH
    have:=IX (P:=P) (Q:=c7) ah o aw h (fun s' aZ w' bM am=>aX s' aZ w' du bM am c8);rw[hw];cases e with
    |true=>exact .inl this
    |false=>exact this
def zem(P:Program)(n:Nat)(ops:Array Oper)(o:Oper)(s:ag)(K:ag->Prop):Prop:=
 o.guard=none/\∃j g e z xs,s j=.own e z xs/\n<=g/\(s g).free=true/\∀v,ft P n ops o (qz s j g v e z xs) K
def Co(P:Program)(n:Nat)(ops:Array Oper)(o:Oper)(s:ag)(K:ag->Prop):Prop:=match o.op with
 |.call _=>SV P n o s K
 |_=>zem P n ops o s K
def UQ{o:Oper}{K:ag->Prop}(h:Co P n ops o s K):o.guard=none:=by
 unfold Co at h;split at h
 ·exact h.1
 ·exact h.1
def UR(ah:Rel S0 w0 n s a w)(o:Oper)(dV:∀d,o.dst=some d->S0.m<=d){K:ag->Prop}(h:Co P n ops o s K){bP:Act->World->Prop}{Q:Exit->Act->World->Prop}
  (b6:∀s' aZ w',Rel S0 w0 n s' aZ w'->K s'->bP aZ w'):o.wp P a w bP Q:=by
 unfold Co at h;split at h
 ·exact zcb ah o dV h b6
 ·obtain⟨aB,j,g,e,z,xs,ac,aT,ay,h⟩:=h;have h:=h (aJ a j);unfold ft at h;rw[aB]at h;exact xv (P:=P) (ah.name ac aT ay) o dV h b6
def sy:List Oper->Option Oper
 |[]=>none
 |[o]=>some o
 |_::r=>sy r
def Cp(P:Program)(n:Nat)(ops:Array Oper)(s:ag)(K:ag->Prop):Option Oper->Prop
 |some o=>Co P n ops o s K
 |none=>False
def N1:∀{l:List Oper} {o:Oper},sy l=some o->l=l.dropLast++[o]
 |[],o,h=>by cases h
 |[x],o,h=>by simp only[sy,bS]at h;subst h;rfl
 |x::y::r,o,h=>by have:=N1 (l:=y::r) (o:=o) h;rw[List.dropLast_cons_cons,gO,<-this]
def zen{c7:Exit->Act->World->Prop}{K:ag->Prop}(dV:∀o∈ops.toList,∀d,o.dst=some d->S0.m<=d)(ah:Rel S0 w0 n s a w)
  (h:bN P n ops ops.toList.dropLast s (fun s1=>Cp P n ops s1 K (sy ops.toList)))(c8:∀s' aZ w',Rel S0 w0 n s' aZ w'->K s'->c7 .normal aZ w'):wpList P ops c7 ops.toList a w:=by
 cases al:sy ops.toList with
 |none=>
  rw[al]at h;have u5:ops.toList=[]:=by
   cases ba:ops.toList with
   |nil=>rfl
   |cons x r=>
    exfalso;rw[ba]at al;clear h ba;induction r generalizing x with
    |nil=>cases al
    |cons y r aX=>exact aX y al
  rw[u5]at h;exact h.elim
 |some o=>
  have cU:=N1 al;rw[al]at h;rw[cU];refine UP _ s a w (fun o aw d ax=>dV o (by rw[cU];exact List.mem_append_left _ aw) d ax) ah h (fun s1 de cH se aB=>?_);unfold wpList;have hw:Region.wanted o (yielded ops de.tmps)=true:=by simp[Region.wanted,UQ aB]
  rw[aC hw];refine .inl (UR se o (dV o (by rw[cU];simp)) aB (fun s' aZ w' bM am=>?_));exact c8 s' aZ w' bM am
def stepG(P:Program)(n:Nat)(fl:List Nat)(ops:Array Oper)(K:ag->Prop)(i:Nat)(x y:Bool×ag):Prop:=
 x.1=false/\((i+1=ops.size/\y.1=true/\y.2=x.2/\∃o,ops[i]?=some o/\Co P n ops o x.2 K)\/(i+1<ops.size/\y.1=false/\Ck P n fl ops i x.2 y.2))
def US{K:ag->Prop}:∀(l:List Nat) (s s':ag),(∀i∈l,i+1<ops.size)->chain (Ck P n fl ops) l s s'->∀(r:List Nat) (y:Bool×ag),chain (stepG P n fl ops K) r (false,s') y->chain (stepG P n fl ops K) (l++r) (false,s) y
 |[],s,s',_,h,r,y,an=>by have:s=s':=h;subst this;exact an
 |i::l,s,s',ai,⟨s1,aa,ab⟩,r,y,an=>⟨(false,s1),⟨rfl,.inr ⟨ai i (by simp),rfl,aa⟩⟩,US l s1 s' (fun j ac=>ai j (by simp[ac])) ab r y an⟩
def zeo{K:ag->Prop}(aE:uc fl ops=true)(m8:fl.getD (ops.size-1) 0=0)(hw:cq s)(h:ew P n fl ops fl ops.toList.dropLast s (fun s1=>Cp P n ops s1 K (sy ops.toList))) :
  tU ops (stepG P n fl ops K) (fun x=>x.1=true) ops.size (Array.replicate ops.size false) (false,s):=by
 obtain⟨s',zB,am⟩:=N0 (fl:=fl) ops.toList.dropLast fl 0 s hw (fun j o aw=>by
  rw[List.getElem?_dropLast]at aw;split at aw
  ·simpa using aw
  ·cases aw) (fun j=>by simp) h
 cases al:sy ops.toList with
 |none=>rw[al]at am;exact am.elim
 |some o=>
 rw[al]at am;have cU:=N1 al;have tj:ops.size=ops.toList.dropLast.length+1:=by have:=mH List.length cU;simpa using this
 have zep:ops[ops.size-1]?=some o:=by
  have:ops.toList[ops.size-1]?=some o:=by rw[cU,kb (by omega),show ops.size-1-ops.toList.dropLast.length=0 by omega];rfl
  simpa using this
 have sv:∀{i:Nat} {o:Oper},ops[i]?=some o->∀d,o.dst=some d->d<bF:=by intro i o aw;have h:=aE;simp only[uc,b4]at h;exact I7 (fm.1 h.1 o (by have:=xF aw;simpa using this))
 have jd:=aE;simp only[uc,b4]at jd
 replace jd:=jd.2
 have fQ:∀i,i<ops.size->((match ops[i]? with
   |some o=>o.after.toList.all fun e=>!Region.binds .any e ||decide (e.on<i)
   |none=>false)=true/\∀j,j<i->FM fl ops (Region.before ops) i j=true):=by
  intro i ai;have:=fm.1 jd i (by simp[ai]);simp only[b4,fm,Jm]at this;exact⟨this.1,fun j ac=>this.2 j ac⟩
 have zeq:chain (stepG P n fl ops K) (List.range' 0 ops.toList.length) (false,s) (true,s'):=by
  have e:List.range' 0 ops.toList.length=List.range' 0 ops.toList.dropLast.length++[ops.size-1]:=by rw[iZ,tj,yU,List.range'_1_concat];simp
  rw[e];refine US _ s s' (fun i ai=>?_) zB _ _ ⟨(true,s'),⟨rfl,.inl ⟨by omega,rfl,rfl,o,zep,am⟩⟩,rfl⟩;rw[FH]at ai;omega
 refine IY (wf:=fun x:Bool×ag=>cq x.2) (indep:=fun j i=>∃bz bh,ops[i]?=some bz/\ops[j]?=some bh/\vN (fl.getD i 0) (fl.getD j 0)=true/\bh.apart ops bz=true) ?_ ?_ ?_ ?_ (fin:=fun x=>x.1=true) (s':=(true,s')) rfl ops.size (List.range' 0 ops.toList.length) _ (false,s) (by simp) (by simp) ?_ ?_ ?_ hw zeq
 ·rintro i ⟨b,s⟩ ⟨bg,s'⟩ hw ⟨_,(⟨_,_,h,_⟩|⟨_,_,h⟩)⟩
  ·dsimp only at h hw⊢;rw[h];exact hw
  ·obtain⟨o,_,h⟩:=h;exact NZ hw h
 ·rintro j i ⟨b,s⟩ ⟨ef,s1⟩ ⟨dv,s2⟩ ⟨bz,bh,fF,cZ,zH,jb⟩ hw ⟨av,aa⟩ ⟨aI,ab⟩;have Cq:∀k,vN k 0=false/\vN 0 k=false:=by
   intro k
   match k with
   |0=>exact⟨rfl,rfl⟩
   |1=>exact⟨rfl,rfl⟩
   |2=>exact⟨rfl,rfl⟩
   |3=>exact⟨rfl,rfl⟩
   |4=>exact⟨rfl,rfl⟩
   |5=>exact⟨rfl,rfl⟩
   |6=>exact⟨rfl,rfl⟩
   |7=>exact⟨rfl,rfl⟩
   |8=>exact⟨rfl,rfl⟩
   |9=>exact⟨rfl,rfl⟩
   |k+10=>exact⟨by simp[vN,zG],by simp[vN,zG]⟩
  rcases aa with⟨ac,_⟩|⟨ac,f1,gz,gw,aa⟩
  ·rw[show j=ops.size-1 by omega,m8,(Cq _).1]at zH;cases zH
  rcases ab with⟨ai,_⟩|⟨ai,f2,e4,gS,ab⟩
  ·rw[show i=ops.size-1 by omega,m8,(Cq _).2]at zH;cases zH
  rw[cZ]at gw;injection gw with gw;subst gw
  rw[fF]at gS;injection gS with gS;subst gS
  obtain⟨b7,aF,aP⟩:=UF fF cZ zH (sv fF) (sv cZ) jb hw aa ab;exact⟨(false,b7),⟨av,.inr ⟨ai,rfl,bz,fF,aF⟩⟩,⟨rfl,.inr ⟨ac,f2,bh,cZ,aP⟩⟩⟩
 ·intro i o aw e he ae;have:=(fQ i (gM.1 aw).1).1;rw[aw]at this;have:=fm.1 this e (by simpa using he);simpa[ae]using this
 ·intro j i fA ai;have:=(fQ i ai).2 j fA;unfold FM at this;rw[eO]at this;rcases this with h|h
  ·exact .inl (I8 ops i j h)
  ·rw[b4]at h;obtain⟨f1,h⟩:=h;split at h
   ·rename_i bz bh fF cZ;exact .inr ⟨bz,bh,fF,cZ,f1,h⟩
   ·cases h
 ·intro i o aw al;have aq:=(gM.1 aw).1;simp[aq]at al
 ·exact Jn
 ·intro i;simp only[FH,iZ,f_,cd,kZ];constructor
  ·intro ai;exact⟨ai,by simp[ai]⟩
  ·intro ai;exact ai.1
def UT(dV:∀o∈ops.toList,∀d,o.dst=some d->S0.m<=d){K:ag->Prop}{Q:Exit->Act->World->Prop}(c8:∀s' aZ w',Rel S0 w0 n s' aZ w'->K s'->Q .normal aZ w') :
  ∀(fuel:Nat) (listed:Array Bool) (s:ag) (a:Act) (w:World),Rel S0 w0 n s a w->tU ops (stepG P n fl ops K) (fun x=>x.1=true) fuel listed (false,s)->wpAny P .any ops Q fuel listed a w
 |0,_,s,a,w,_,h=>by cases h.2
 |fuel+1,listed,s,a,w,ah,h=>⟨fun aW=>(by cases h.1 aW),fun i ai=>by
   obtain⟨⟨bg,s'⟩,⟨_,(⟨_,ae,ap,o,aw,aB⟩|⟨_,ae,aa⟩)⟩,ab⟩:=h.2 i ai
   ·dsimp only at ae ap aB;subst ae;subst ap;unfold wpOp;rw[aw];simp only;rw[aC (by simp[Region.wanted,UQ aB])];refine .inl (UR ah o (dV o (by have:=xF aw;simpa using this)) aB (fun s1 de cH se am=>?_));have br:=c8 s1 de cH se am;have an:Region.ready .any ops (listed.setIfInBounds i true)=[]:=by
     cases fuel with
     |zero=>exact ab.1
     |succ fuel=>
      cases an:Region.ready .any ops (listed.setIfInBounds i true)with
      |nil=>rfl
      |cons j r=>obtain⟨_,⟨e,_⟩,_⟩:=ab.2 j (by rw[an];simp);cases e
    cases fuel with
    |zero=>exact⟨an,br⟩
    |succ fuel=>exact⟨fun _=>br,fun j ac=>by rw[an]at ac;cases ac⟩
   ·dsimp only at ae aa;subst ae;exact UN dV ah aa (fun aZ w' bM=>UT dV c8 fuel _ s' aZ w' bM ab)⟩
def zer{id:Nat}{Q:Exit->Act->World->Prop}{K:ag->Prop}(hm:P.follows .mixedOrders=true)(aE:uc fl ops=true)(m8:fl.getD (ops.size-1) 0=0)(dV:∀o∈ops.toList,∀d,o.dst=some d->S0.m<=d)
  (ah:Rel S0 w0 n s a w)(h:ew P n fl ops fl ops.toList.dropLast s (fun s1=>Cp P n ops s1 K (sy ops.toList)))(c8:∀s' aZ w',Rel S0 w0 n s' aZ w'->K s'->Q .normal aZ w'):(Code.region id ops true).wp P Q a w:=
 wp_region_any hm (UT dV c8 _ _ s a _ ah.drawn (zeo aE m8 ah.wf h))
end
end Go.Ab
namespace Go.Ab
open Go Go.RowKit
variable [bf]
def qQ(next:ag->Prop)(Q:Exit->ag->Prop):Exit->ag->Prop
 |.normal,s=>next s
 |e,s=>Q e s
def qR(id:Nat)(Q:Exit->ag->Prop):Exit->ag->Prop
 |.exit Cr,s=>if Cr=id then Q .normal s else Q (.exit Cr) s
 |e,s=>Q e s
def FN(s:ag)(i off d:Nat)(b o:ad):ag:=
 match o,b with
 |.own _ z xs,.box cs=>fun j=>if j=i then .box (cs.set off (.list z xs))else unlink (freeze s d) i off 1 j
 |_,_=>s
def N2(s:ag)(i off:Nat)(l:ad):ag:=
 match l with
 |.link bB o d=>match bB==i&&o==off with
  |true=>FN s i off d (s i) (s d)
  |false=>s
 |_=>s
def ud(s:ag)(i off:Nat):ag:=N2 s i off (s (b0 i off))
def me(s:ag):List (Nat×Nat)->ag
 |[]=>s
 |(i,off)::r=>me (ud s i off) r
def UU(s s':ag):Prop:=
 (∀i,s' i=s i\/s' i=.dead\/(s i=.x (.one .nil)/\∃e size,s' i=.own e size []))/\∀i j,(s' i).refs j=true->s' j=s j
def zes(s t:ag):Prop:=t=s\/∃i c bs es hP,s i=.mp c bs es/\Ih s es hP/\t=u9 s i c bs hP
def xL(s s':ag):Prop:=∃t,zes s t/\∃l,UU (me t l) s'
def sz(c:Prop×ad)(A B:Prop):Prop:=
 match c with
 |(p,.x (.one (.bool b)))=>p/\(b=true->A)/\(b=false->B)
 |_=>False
def N3(body:(Exit->ag->Prop)->ag->Prop)(Q:Exit->ag->Prop)(s:ag):Prop:=
 ∃(ι:Type) (I:ι->ag) (ok:ι->Prop) (μ:ι->Nat),(∃x,ok x/\xL s (I x))/\∀x,ok x->body (qQ (fun s'=>∃y,ok y/\μ y<μ x/\xL s' (I y)) Q) (I x)
class Hint where
 hint:Nat->List Bool
 lB:Nat->List Nat
 grow:Nat->Bool
 conv:Nat->Bool
 cut:Nat->Nat
instance (priority:=low) Jw:Hint:=⟨fun _=>[],fun _=>[],fun _=>false,fun _=>false,fun _=>0⟩
def pP{α:Type}:List (Nat×List α)->Nat->List α
 |[],_=>[]
 |(k,fl)::r,i=>if k=i then fl else pP r i
@[reducible]def hints(l:List (Nat×List Bool)):Hint:=⟨pP l,fun _=>[],fun _=>false,fun _=>false,fun _=>0⟩
@[reducible]def xM(l:List (Nat×List Nat)):Hint:=⟨fun _=>[],pP l,fun _=>false,fun _=>false,fun _=>0⟩
@[reducible]def Jx(g:List Nat)(l:List (Nat×List Nat)):Hint:=⟨fun _=>[],pP l,fun i=>g.contains i,fun _=>false,fun _=>0⟩
@[reducible]def FO(c g:List Nat)(l:List (Nat×List Nat)):Hint:=⟨fun _=>[],pP l,fun i=>g.contains i,fun i=>c.contains i,fun _=>0⟩
def Cs:List (Nat×Nat)->Nat->Nat
 |[],_=>0
 |(k,m)::r,i=>if k=i then m else Cs r i
@[reducible]def Ct(q:List (Nat×Nat))(c g:List Nat)(l:List (Nat×List Nat)):Hint:=⟨fun _=>[],pP l,fun i=>g.contains i,fun i=>c.contains i,Cs q⟩
def N4(n:Nat)(s:ag)(X:ag->Prop):Prop:=∀(S0:Env) (w0:World) (a:Act) (w:World),Rel S0 w0 n s a w->∃s',Rel S0 w0 n s' a w/\X s'
def ue[Hint](P:Program)(n:Nat)(id:Nat)(ops:Array Oper)(draw:Bool)(Q:Exit->ag->Prop)(s:ag):Prop:=
 match Hint.grow id with
  |true=>match draw with
   |false=>bN P n ops ops.toList.dropLast s (fun s1=>Cp P n ops s1 (Q .normal) (sy ops.toList))
   |true=>ew P n (Hint.lB id) ops (Hint.lB id) ops.toList.dropLast s (fun s1=>Cp P n ops s1 (Q .normal) (sy ops.toList))
  |false=>match draw with
   |false=>bN P n ops ops.toList s (Q .normal)
   |true=>match Hint.lB id with
    |k::fl=>ew P n (k::fl) ops (k::fl) ops.toList s (Q .normal)
    |[]=>match Hint.hint id with
     |b::fl=>na P n (b::fl) ops (b::fl) ops.toList s (Q .normal)
     |[]=>match vF ops with
      |true=>(xC false ops=true/\gU P n false ops ops.toList s (Q .normal))\/(∃l:List Nat,xC true ops=true/\gU P n true ops ops.toList (dt s l) (Q .normal))
      |false=>gU P n false ops ops.toList s (Q .normal)
def uf(P:Program)(n:Nat)(ops:Array Oper):Nat->List Oper->ag->(ag->Prop)->Prop
 |0,l,s,K=>N4 n s (fun s2=>bN P n ops l s2 K)
 |k+1,o::l,s,K=>bN P n ops [o] s (fun s1=>uf P n ops k l s1 K)
 |_+1,[],s,K=>K s
def UW[Hint](P:Program)(n:Nat)(id:Nat)(ops:Array Oper)(draw:Bool)(Q:Exit->ag->Prop)(s:ag):Nat->Prop
 |0=>N4 n s (ue P n id ops draw Q)
 |k+1=>uf P n ops (k+1) ops.toList s (Q .normal)
def e2[Hint](P:Program)(n:Nat):Code->(Exit->ag->Prop)->ag->Prop
 |.skip,Q,s=>Q .normal s
 |.label _,Q,s=>Q .normal s
 |.region id ops draw,Q,s=>match Hint.conv id with
  |true=>UW P n id ops draw Q s (Hint.cut id)
  |false=>ue P n id ops draw Q s
 |.seq a b,Q,s=>e2 P n a (qQ (e2 P n b Q) Q) s
 |.cond c a b,Q,s=>sz (aG s c) (e2 P n a Q s) (e2 P n b Q s)
 |.block id c,Q,s=>e2 P n c (qR id Q) s
 |.loop c,Q,s=>N3 (e2 P n c) Q s
 |.exit id,Q,s=>Q (.exit id) s
 |.ret,Q,s=>Q .ret s
 |_,_,_=>False
def Jy[Hint](id:Nat)(ops:Array Oper)(draw:Bool):Bool:=match Hint.grow id with
  |true=>!draw ||(uc (Hint.lB id) ops&&(Hint.lB id).getD (ops.size-1) 0==0)
  |false=>match draw with
   |true=>match Hint.lB id with
    |k::fl=>uc (k::fl) ops
    |[]=>match Hint.hint id with
     |[]=>xC false ops ||vF ops
     |b::fl=>FF (b::fl) ops
   |false=>true
def codeOk[Hint]:Code->Bool
 |.region id ops draw=>(Hint.cut id==0 ||!draw)&&Jy id ops draw
 |.seq a b=>codeOk a&&codeOk b
 |.cond _ a b=>codeOk a&&codeOk b
 |.block _ c=>codeOk c
 |.loop c=>codeOk c
 |_=>true
def Jz(m:Nat)(o:Oper):Bool:=match o.dst with
 |some d=>decide (m<=d)
 |none=>true
def jZ(m:Nat):Code->Bool
 |.region _ ops _=>ops.toList.all (Jz m)
 |.seq a b=>jZ m a&&jZ m b
 |.cond _ a b=>jZ m a&&jZ m b
 |.block _ c=>jZ m c
 |.loop c=>jZ m c
 |_=>true
def xN{m:Nat}{l:List Oper}(h:l.all (Jz m)=true):∀o∈l,∀d,o.dst=some d->m<=d:=by intro o aw d ax;have:=fm.1 h o aw;unfold Jz at this;rw[ax]at this;exact wV this
def JA:∀c:Code,jZ 0 c=true:=by
 intro c;induction c with
 |region id ops draw=>refine fm.2 (fun o _=>?_);unfold Jz;cases o.dst<;>simp
 |seq a b N5 N6=>simp[jZ,N5,N6]
 |cond c a b N5 N6=>simp[jZ,N5,N6]
 |block id c aX=>simpa[jZ]using aX
 |loop c aX=>simpa[jZ]using aX
 |_=>rfl
section
variable {P:Program}{S0:Env}{w0 w:World}{n:Nat}{s:ag}{a:Act}
def Rel.ud(ah:Rel S0 w0 n s a w)(i off:Nat):Rel S0 w0 n (ud s i off) a w:=by
 unfold Ab.ud N2;split
 ·rename_i bB o d fk;split
  ·rename_i xw;simp only[b4,fB]at xw;obtain⟨rfl,rfl⟩:=xw;unfold FN;split
   ·rename_i e z xs cs ax ai;have hid:bB≠d:=by rintro rfl;rw[ai]at ax;cases ax
    have al:=ah.rep (b0 bB o);rw[fk]at al;obtain⟨_,kQ,dv,aF,aP,a7,b1⟩:=al;rw[ai]at aF;injection aF with aF
    subst aF;have aq:o<cs.length:=(ep.1 aP).1;have aa:=ah.freeze (i:=d) (.inl ⟨e,z,xs,ax⟩);have av:Ab.freeze s d bB=.box cs:=by unfold Ab.freeze;have:(ad.box cs).refs d=false:=rfl;simp[hid,ai,this]
    have aI:Ab.freeze s d d=.x (.one (.list z xs)):=by simp[Ab.freeze,ax,r1]
    have ab:Rel S0 w0 n (unlink (Ab.freeze s d) bB o 1) a w:=by
     refine aa.forget (fun j=>hi _ bB o 1 j) (fun j k bY=>?_);rcases hi (Ab.freeze s d) bB o 1 j with e|e<;>rw[e]at bY
     ·exact jq (aa.wf j k bY)
     ·cases bY
    have b5:unlink (Ab.freeze s d) bB o 1 bB=.box cs:=by rw[jq (by rw[av];rfl),av]
    have eH:unlink (Ab.freeze s d) bB o 1 d=.x (.one (.list z xs)):=by unfold unlink;rw[aI];rfl
    have ae:=ab.rep bB;rw[b5]at ae;obtain⟨b,arr,t,aH,a1,dA,bl⟩:=ae;have et:dv=b:=by rw[ai,aH]at a7;have:some b=some dv:=a7;injection this with this;exact this.symm
    subst et;rw[cell_of_row w dv o arr t (0,0) a1,ax]at b1;have b1:_=some (aJ a d):=b1;have IR:=ab.rep d;rw[eH]at IR;refine ab.write (r:=.box (cs.set o (.list z xs))) (b:=dv) (by rw[b5,aH];rfl) (World.grownBy.refl w _) rfl (by rw[aH];rfl) rfl (by rw[b5];rfl) (by rw[b5];rfl) (by rw[b5];rfl) (fun s'=>?_) (fun j cv bt kQ al gc=>?_)
    ·refine⟨dv,arr,t,aH,a1,⟨by simpa using dA.1,fun j c ac=>?_⟩,bl⟩;rw[w2]at ac;split at ac
     ·rename_i he;subst he;simp only[bS]at ac;subst ac;exact⟨_,by simpa using b1,IR⟩
     ·exact dA.2 j c ac
    ·rw[b5]at gc;obtain rfl:=(by simpa[ad.fz]using gc:_=kQ)
     refine⟨⟨_,rfl,?_⟩,rfl⟩;rw[w2];split
     ·rename_i he;exfalso;subst he;have:unlink (Ab.freeze s d) bB o 1 j=.dead:=by
       unfold unlink;have:(Ab.freeze s d j).lk bB o 1=true:=by
        rcases hi (Ab.freeze s d) bB o 1 j with e|e
        ·rw[e]at al;exact ad.Bn al (by omega) (by omega)
        ·rw[e]at al;exact al.elim
       rw[this]
      rw[this]at al;exact al.elim
     ·rfl
   ·exact ah
  ·exact ah
 ·exact ah
def Rel.me:∀(l:List (Nat×Nat)) {s:ag},Rel S0 w0 n s a w->Rel S0 w0 n (me s l) a w
 |[],_,h=>h
 |(i,off)::r,_,h=>Rel.me r (h.ud i off)
def Rel.N7{i off:Nat}{cs:List af}{c:af}{v:Value}{b:Nat}(ah:Rel S0 w0 n s a w)(ai:s i=.box cs)(ae:a' (s i) (aJ a i)=some b)(aH:w.cell? ⟨b,off,none⟩=some v)(aq:off<cs.length)
  (ao:bn w (bR S0 w0.heap.size w s (aJ a)) c v)(cp:∀j o d,(s j).mC i o d->o≠off):Rel S0 w0 n (fun k=>if k=i then .box (cs.set off c)else s k) a w:=by
 have bU:=ah.rep i;rw[ai]at bU ae;obtain⟨bg,arr,t,pw,a1,dA,bl⟩:=bU;have et:bg=b:=by rw[pw]at ae;simpa[a']using ae
 subst et;rw[cell_of_row w bg off arr t (0,0) a1]at aH;refine ah.write (r:=.box (cs.set off c)) (b:=bg) (by rw[ai,pw];rfl) (World.grownBy.refl w _) rfl (by rw[pw];rfl) rfl (by rw[ai];rfl) (by rw[ai];rfl) (by rw[ai];rfl) (fun s'=>?_) (fun j cv bt kQ al gc=>?_)
 ·refine⟨bg,arr,t,pw,a1,⟨by simpa using dA.1,fun j x ac=>?_⟩,bl⟩;rw[w2]at ac;split at ac
  ·rename_i he;subst he;simp only[bS]at ac;subst ac;exact⟨_,by simpa using aH,ao⟩
  ·exact dA.2 j x ac
 ·rw[ai]at gc;obtain rfl:=(by simpa[ad.fz]using gc:_=kQ)
  refine⟨⟨_,rfl,?_⟩,rfl⟩;rw[w2,au (fun e=>cp j cv bt al e.symm)]
def Rel.N8(ah:Rel S0 w0 n s a w)(i off:Nat):Rel S0 w0 n (unlink s i off 1) a w:=by
 refine ah.forget (fun j=>hi _ i off 1 j) (fun j k bY=>?_);rcases hi s i off 1 j with e|e<;>rw[e]at bY
 ·exact jq (ah.wf j k bY)
 ·cases bY
def N9{i off:Nat}(s:ag):∀j o d,(unlink s i off 1 j).mC i o d->o≠off:=by
 intro j o d h aw;subst aw;unfold unlink at h;cases al:(s j).lk i o 1 with
 |true=>rw[al]at h;exact h.elim
 |false=>rw[al]at h;rw[ad.Bn (off:=o) (m:=1) h (eG _) (by omega)]at al;cases al
def N_(s:ag)(i off j g:Nat)(v:Value)(cs:List af)(e z:Nat)(xs:List (List af)):ag:=fun k=>if k=i then .box (cs.set off (.atom v))else unlink (qz s j g v e z xs) i off 1 k
def Rel.zet{i off j g e z:Nat}{cs:List af}{xs:List (List af)}(ah:Rel S0 w0 n s a w)(ai:s i=.box cs)(al:s (b0 i off)=.link i off j)(ac:s j=.own e z xs)(aT:n<=g)(aB:(s g).free=true):Rel S0 w0 n (N_ s i off j g (aJ a j) cs e z xs) a w:=by
 have fk:=ah.rep (b0 i off);rw[al]at fk;obtain⟨_,kQ,b,aF,aP,a7,b1⟩:=fk;rw[ai]at aF;injection aF with aF
 subst aF;rw[ac]at b1;have b1:w.cell? ⟨b,off,none⟩=some (aJ a j):=b1;have aa:=(ah.name ac aT aB).N8 i off;have ct:i≠j:=by rintro rfl;rw[ai]at ac;cases ac
 have zw:i≠g:=by rintro rfl;rw[ai]at aB;cases aB
 have ch:qz s j g (aJ a j) e z xs i=.box cs:=by unfold qz;rw[au ct,au zw,ai];simp[ad.refs]
 have av:unlink (qz s j g (aJ a j) e z xs) i off 1 i=.box cs:=by rw[jq (by rw[ch];rfl),ch]
 have lV:(aJ a j).oneCell'=true:=by have:=ah.rep j;rw[ac]at this;obtain⟨us,aw,_⟩:=this;rcases aw.2 with⟨h,_⟩|⟨_,_,_,h,_⟩<;>rw[h]<;>rfl
 exact aa.N7 av (b:=b) (v:=aJ a j) (by rw[av,<-ai];exact a7) b1 (ep.1 aP).1 (bn.atom _ lV) (N9 _)
def N'(s:ag)(i off j g e z:Nat)(cs:List af)(xs:List (List af)):ag:=fun k=>if k=b0 i off then .link i off j else if k=i then .box (cs.set off .any)else unlink (oF s j g e z xs) i off 1 k
def Rel.zeu{i off j g e z:Nat}{v:Value}{cs:List af}{xs:List (List af)}(ah:Rel S0 w0 n s a w)(ai:s i=.box cs)(ao:cs[off]?=some (.atom v))(ac:s j=.x (.one (.atom v)))(aB:s g=.cT v e z xs)(ay:(s (b0 i off)).free=true):Rel S0 w0 n (N' s i off j g e z cs xs) a w:=by
 have aH:aJ a j=v:=by have h:=ah.rep j;rw[ac]at h;have h:bn w _ (.atom v) (aJ a j):=h;generalize aJ a j=u at h;cases h;rfl
 have ct:i≠j:=by rintro rfl;rw[ai]at ac;cases ac
 have zw:i≠g:=by rintro rfl;rw[ai]at aB;cases aB
 have xx:b0 i off≠j:=by intro h;rw[h,ac]at ay;cases ay
 have zev:b0 i off≠g:=by intro h;rw[h,aB]at ay;cases ay
 have ua:b0 i off≠i:=by intro h;rw[h,ai]at ay;cases ay
 have aa:=(ah.zaS ac aB).N8 i off;have ch:oF s j g e z xs i=.box cs:=by unfold oF;rw[au ct,au zw,ai];simp[ad.refs]
 have av:unlink (oF s j g e z xs) i off 1 i=.box cs:=by rw[jq (by rw[ch];rfl),ch]
 have UV:oF s j g e z xs j=.own e z xs:=by unfold oF;rw[aC rfl]
 have m7:unlink (oF s j g e z xs) i off 1 j=.own e z xs:=by rw[jq (by rw[UV];rfl),UV]
 have bU:=ah.rep i;rw[ai]at bU;obtain⟨b,arr,t,pw,a1,dA,bl⟩:=bU;obtain⟨u,hu,w6⟩:=dA.2 off _ ao;have tK:u=v:=by cases w6;rfl
 subst tK;have gN:w.cell? ⟨b,off,none⟩=some u:=by rw[cell_of_row w b off arr t (0,0) a1];simpa using hu
 have aq:off<cs.length:=(ep.1 ao).1;have lV:u.oneCell'=true:=bn.LX w6;have ab:=aa.N7 av (b:=b) (v:=u) (by rw[av,pw];rfl) gN aq (bn.any _ lV) (N9 _);have ar:=ab.E9 (k:=b0 i off) (i:=i) (off:=off) (d:=j) (b:=b) (cs:=cs.set off .any) ?_ ?_ ?_ ?_ ?_ ?_
 ·exact ar
 ·rw[au ua];rcases hi (oF s j g e z xs) i off 1 (b0 i off)with h|h<;>rw[h]
  ·unfold oF;rw[au xx,au zev];split
   ·rfl
   ·exact ay
  ·rfl
 ·rw[au (mW ct),m7];rfl
 ·rw[aC rfl];rfl
 ·rw[w2,aC rfl,aC aq]
 ·rw[aC rfl,pw];rfl
 ·rw[au (mW ct),m7,gN];show some u=some (aJ a j)
  rw[aH]
def lC(s:ag)(g:Nat):ag:=fun k=>if k=g then .dead else if (s k).refs g then .dead else s k
def Oa(s:ag)(i off g:Nat)(cs:List af)(x:af):ag:=fun k=>if k=i then .box (cs.set off x)else unlink (lC s g) i off 1 k
def Rel.lC(ah:Rel S0 w0 n s a w)(g:Nat):Rel S0 w0 n (lC s g) a w:=by
 refine ah.forget (fun k=>?_) (fun k m am=>?_)
 ·unfold Ab.lC;split
  ·exact .inr rfl
  ·split
   ·exact .inr rfl
   ·exact .inl rfl
 ·unfold Ab.lC at am⊢;split at am
  ·cases am
  ·split at am
   ·cases am
   ·rename_i aa ab;have hn:=ah.wf k m am;have yZ:m≠g:=by rintro rfl;exact ab am
    rw[au yZ,au];intro h;rw[kI h]at hn;cases hn
def Rel.FP{i off g b c:Nat}{cs:List af}{bs:List Nat}{es:List (az×az)}{fi fj:Bool}{aU vs:List (List af)}(ah:Rel S0 w0 n s a w)(ai:s i=.box cs)(ao:cs[off]?=some (.atom (.map (some b))))(aB:s g=.fc b c bs es)
  (he:es=gj fi fj aU vs)(hlen:vs.length=aU.length)(am:fi=true\/∀k∈aU,k.length=1)(aH:fj=true\/∀k∈vs,k.length=1):Rel S0 w0 n (Oa s i off g cs (.g8 fi fj aU vs)) a w:=by
 have zw:i≠g:=by rintro rfl;rw[ai]at aB;cases aB
 have aa:=(ah.lC g).N8 i off;have ch:Ab.lC s g i=.box cs:=by unfold Ab.lC;rw[au zw,ai];simp[ad.refs]
 have av:unlink (Ab.lC s g) i off 1 i=.box cs:=by rw[jq (by rw[ch];rfl),ch]
 have tD:∀k,unlink (Ab.lC s g) i off 1 k=.dead\/(k≠g/\unlink (Ab.lC s g) i off 1 k=s k):=by
  intro k;rcases hi (Ab.lC s g) i off 1 k with h|h
  ·rw[h];unfold Ab.lC;by_cases Ob:k=g
   ·rw[aC Ob];exact .inl rfl
   ·rw[au Ob];split
    ·exact .inl rfl
    ·exact .inr ⟨Ob,rfl⟩
  ·exact .inl h
 have cb:∀k bg,a' (unlink (Ab.lC s g) i off 1 k) (aJ a k)=some bg->k≠g/\a' (s k) (aJ a k)=some bg:=by
  intro k bg ae;rcases tD k with h|⟨ab,h⟩<;>rw[h]at ae
  ·cases ae
  ·exact⟨ab,ae⟩
 have da:∀c,bR S0 w0.heap.size w s (aJ a) c->bR S0 w0.heap.size w (unlink (Ab.lC s g) i off 1) (aJ a) c:=fun c ao=>⟨ao.1,ao.2.1,fun k am=>ao.2.2 k (cb k c am).2⟩
 have EM:=ah.rep g;rw[aB]at EM;obtain⟨ents,a1,bl,fE⟩:=EM;have aq:b<w.heap.size:=(gM.1 a1).1;have HV:bR S0 w0.heap.size w (unlink (Ab.lC s g) i off 1) (aJ a) b:=⟨.inr bl,aq,fun k am=>by obtain⟨ab,ar⟩:=cb k b am;exact ab (ah.inj k g b ar (by rw[aB];rfl))⟩
 subst he;have l_:=zaT HV a1 (fE.mono da (fun _ _=>rfl)) hlen am aH;have bU:=ah.rep i;rw[ai]at bU;obtain⟨bi,arr,t,pw,zew,dA,_⟩:=bU;obtain⟨u,hu,w6⟩:=dA.2 off _ ao;have tK:u=.map (some b):=by cases w6;rfl
 subst tK;exact aa.N7 av (b:=bi) (v:=.map (some b)) (by rw[av,pw];rfl) (by rw[cell_of_row w bi off arr t (0,0) zew];simpa using hu) (ep.1 ao).1 l_ (N9 _)
def Rel.zex{s':ag}(ah:Rel S0 w0 n s a w)(h:UU s s'):Rel S0 w0 n s' a w:=by
 obtain⟨aa,ab⟩:=h;have cb:∀j c,a' (s' j) (aJ a j)=some c->a' (s j) (aJ a j)=some c:=by
  intro j c ao;rcases aa j with e|e|⟨e,bV,size,aI⟩
  ·rw[e]at ao;exact ao
  ·rw[e]at ao;cases ao
  ·rw[aI]at ao;have aT:=ah.rep j;rw[e]at aT;have:=qq aT;rw[this]at ao;simp[a',Value.ownBlock]at ao
 have da:∀c,bR S0 w0.heap.size w s (aJ a) c->bR S0 w0.heap.size w s' (aJ a) c:=fun c ao=>⟨ao.1,ao.2.1,fun j ac=>ao.2.2 j (cb j c ac)⟩
 refine⟨ah.defers,ah.size,ah.below,ah.lt,fun i=>?_,fun i j b ai ac=>ah.inj i j b (cb i b ai) (cb j b ac),fun i ai=>?_,fun i j ct=>?_,ah.lU⟩
 ·rcases aa i with e|e|⟨e,bV,size,aI⟩
  ·rw[e];refine(ah.rep i).mono da (fun _ _=>rfl) (fun _ _=>rfl) (fun k am=>?_) (fun bB off bt cs b al cO _=>⟨⟨cs,by rw[ab i bB (by rw[e];exact(ad.nu al).1)];exact cO,rfl⟩,rfl⟩);have:=ab i k (by rw[e];exact ad.ot am);exact⟨rfl,fun h=>by rw[this];exact⟨h,rfl,rfl,rfl⟩,fun c ao=>by rw[this];exact ao⟩
  ·rw[e];trivial
  ·rw[aI];have aT:=ah.rep i;rw[e]at aT;rw[qq aT];exact⟨[],World.yH w _ _ _,⟨rfl,fun j c ac=>by simp at ac⟩,fun x aj=>(by cases aj),by simp,fun b ae=>by cases ae⟩
 ·rcases aa i with e|e|⟨e,bV,size,aI⟩
  ·rw[e];exact ah.out i ai
  ·rw[e];rfl
  ·have:=ah.out i ai;rw[e]at this;cases this
 ·rw[ab i j ct];rcases aa i with e|e|⟨e,bV,size,aI⟩
  ·rw[e]at ct;exact ah.wf i j ct
  ·rw[e]at ct;cases ct
  ·rw[aI]at ct;cases ct
def Rel.UX{s':ag}(ah:Rel S0 w0 n s a w)(h:xL s s'):Rel S0 w0 n s' a w:=by
 obtain⟨t,ba,l,al⟩:=h;have zey:Rel S0 w0 n t a w:=by
  rcases ba with rfl|⟨i,c,bs,es,hP,aa,ab,rfl⟩
  ·exact ah
  ·exact ah.u9 aa ab
 exact(zey.me l).zex al
def sA(s:ag):List (Nat×Nat)->ag
 |[]=>s
 |l=>fun j=>if j=bF then .res l else s j
def Rel.sA(ah:Rel S0 w0 n s a w)(h:(s bF).free=true)(l:List (Nat×Nat)):Rel S0 w0 n (sA s l) a w:=by
 unfold Ab.sA;split
 ·exact ah
 ·have ff:∀j,(s j).aM=true->j≠bF:=by rintro j bE rfl;rw[wP h]at bE;cases bE
  have cb:∀j c,a' (if j=bF then ad.res l else s j) (aJ a j)=some c->a' (s j) (aJ a j)=some c:=by
   intro j c ac;by_cases bY:j=bF
   ·rw[aC bY]at ac;cases ac
   ·rw[au bY]at ac;exact ac
  have da:∀c,bR S0 w0.heap.size w s (aJ a) c->bR S0 w0.heap.size w (fun j=>if j=bF then .res l else s j) (aJ a) c:=fun c ao=>⟨ao.1,ao.2.1,fun j ac=>ao.2.2 j (cb j c ac)⟩
  refine⟨ah.defers,ah.size,ah.below,ah.lt,fun j=>?_,fun j m c ac hm=>ah.inj j m c (cb j c ac) (cb m c hm),fun j ac=>?_,fun j m gq=>?_,ah.lU⟩
  ·by_cases bY:j=bF
   ·simp only[aC bY];trivial
   ·simp only[au bY];refine(ah.rep j).mono da (fun _ _=>rfl) (fun _ _=>rfl) (fun m hm=>?_) (fun bB Bj bt cs' bg al cO _=>⟨⟨cs',by simp only[au (ff bB (ad.mB cO))];exact cO,rfl⟩,rfl⟩);have IE:=ff m ((ah.rep j).leads hm);simp only[au IE];exact⟨trivial,fun h=>⟨h,trivial,trivial,trivial⟩,fun c ao=>ao⟩
  ·by_cases bY:j=bF
   ·simp only[aC bY];rfl
   ·simp only[au bY];exact ah.out j ac
  ·by_cases bY:j=bF
   ·simp only[aC bY]at gq;cases gq
   ·simp only[au bY]at gq;have:=ah.wf j m gq;simp only[au (ff m this)];exact this
def UY{ops:Array Oper}{K:ag->Prop}{c7:Exit->Act->World->Prop}:∀(k:Nat) (l:List Oper) (s:ag) (a:Act) (w:World),(∀o∈l,∀d,o.dst=some d->S0.m<=d)->Rel S0 w0 n s a w->uf P n ops k l s K ->
  (∀s' aZ w',Rel S0 w0 n s' aZ w'->K s'->c7 .normal aZ w')->wpList P ops c7 l a w
 |0,l,s,a,w,al,ah,h,c8=>by obtain⟨s2,kU,ab⟩:=h _ _ _ _ ah;exact Tt l s2 a w al kU ab c8
 |k+1,o::l,s,a,w,al,ah,h,c8=>
  UP (l2:=l) [o] s a w (fun cv fX=>al cv (by rw[qN]at fX;subst fX;exact kl)) ah h (fun s' aZ w' bM bE=>UY k l s' aZ w' (fun cv fX=>al cv (l3 _ fX)) bM bE c8)
 |_+1,[],s,a,w,_,ah,h,c8=>c8 s a w ah h
def Oc[Hint](hm:P.follows .mixedOrders=true):∀(c:Code) (Q:Exit->ag->Prop) (c7:Exit->Act->World->Prop) (s:ag) (a:Act) (w:World),codeOk c=true->jZ S0.m c=true->Rel S0 w0 n s a w->e2 P n c Q s ->
  (∀e s' aZ w',Rel S0 w0 n s' aZ w'->Q e s'->c7 e aZ w')->c.wp P c7 a w:=by
 intro c;induction c with
 |skip=>intro Q c7 s a w _ _ ah h c8;exact wp_skip (c8 _ s a w ah h)
 |label l=>intro Q c7 s a w _ _ ah h c8;exact wp_label (c8 _ s a w ah h)
 |exit id=>intro Q c7 s a w _ _ ah h c8;exact wp_exit (c8 _ s a w ah h)
 |ret=>intro Q c7 s a w _ _ ah h c8;exact wp_ret (c8 _ s a w ah h)
 |region id ops draw=>
  intro Q c7 s a w aE dI ah h c8;have JB:(Hint.cut id==0 ||!draw)=true:=by simp only[codeOk,b4]at aE;exact aE.1
  replace aE:Jy id ops draw=true:=by simp only[codeOk,b4]at aE;exact aE.2
  obtain⟨s,ah,h⟩|⟨fQ,k,ao⟩:(∃s,Rel S0 w0 n s a w/\ue P n id ops draw Q s)\/(draw=false/\∃k,uf P n ops k ops.toList s (Q .normal)):=by
   cases t8:(Hint.conv id:Bool)with
   |true=>
    simp only[e2,t8]at h;cases nE:(Hint.cut id:Nat)with
    |zero=>rw[nE]at h;exact .inl (h _ _ _ _ ah)
    |succ k=>
     rw[nE]at h JB;refine .inr ⟨?_,_,h⟩;cases draw with
     |false=>rfl
     |true=>simp at JB
   |false=>simp only[e2,t8]at h;exact .inl ⟨s,ah,h⟩
  rotate_left
  ·subst fQ;exact wp_region_list (UY k ops.toList s a w (xN dI) ah ao (fun s' aZ w' bM am=>c8 _ s' aZ w' bM am))
  cases lT:(Hint.grow id:Bool)with
  |true=>
   simp only[ue,lT]at h;simp only[Jy,lT]at aE;cases draw with
   |false=>exact wp_region_list (zen (P:=P) (xN dI) ah h (fun s' aZ w' bM am=>c8 _ s' aZ w' bM am))
   |true=>simp only[Bool.not_true,va,b4,fB]at aE;exact zer (P:=P) (id:=id) (Q:=c7) hm aE.1 aE.2 (xN dI) ah (K:=Q .normal) h (fun s' aZ w' bM am=>c8 _ s' aZ w' bM am)
  |false=>
  simp only[ue,lT]at h;simp only[Jy,lT]at aE;cases draw with
  |false=>exact wp_region_list (Tt ops.toList s a w (xN dI) ah h (fun s' aZ w' bM am=>c8 _ s' aZ w' bM am))
  |true=>
   have plain:=fun aE h=>Us (P:=P) (m:=false) (id:=id) (Q:=c7) hm aE (xN dI) ah (K:=Q .normal) h (fun s' aZ w' bM am=>c8 _ s' aZ w' bM am);cases hw:(Hint.lB id:List Nat)with
   |cons k fl=>rw[hw]at h aE;exact zel (P:=P) (id:=id) (Q:=c7) hm aE (xN dI) ah (K:=Q .normal) h (fun s' aZ w' bM am=>c8 _ s' aZ w' bM am)
   |nil=>
   rw[hw]at h aE;dsimp only at h aE;cases a1:(Hint.hint id:List Bool)with
   |cons b fl=>rw[a1]at h aE;exact zdT (P:=P) (id:=id) (Q:=c7) hm aE (xN dI) ah (K:=Q .normal) h (fun s' aZ w' bM am=>c8 _ s' aZ w' bM am)
   |nil=>
    rw[a1]at h aE;dsimp only at h aE;split at h
    ·rcases h with h|⟨l,aa,ab⟩
     ·exact plain h.1 h.2
     ·exact Us (m:=true) hm aa (xN dI) (tF l s ah) ab (fun s' aZ w' bM am=>c8 _ s' aZ w' bM am)
    ·rename_i Od;simp only[Od,Bool.or_false]at aE;exact plain aE h
 |seq x y zI zJ=>
  intro Q c7 s a w aE dI ah h c8;simp only[codeOk,b4]at aE;simp only[jZ,b4]at dI;refine wp_seq (zI _ _ s a w aE.1 dI.1 ah h (fun e s' aZ w' bM br=>?_));cases e with
  |normal=>exact zJ Q c7 s' aZ w' aE.2 dI.2 bM br c8
  |_=>exact c8 _ s' aZ w' bM br
 |cond c x y zI zJ=>
  intro Q c7 s a w aE dI ah h c8;simp only[codeOk,b4]at aE;simp only[jZ,b4]at dI;simp only[e2]at h;unfold sz at h;split at h
  ·rename_i p b e;obtain⟨ak,ba,ay⟩:=h;have aH:=ah.aG c (zcI e ak);rw[e]at aH;have gb:=ny aH;exact wp_cond_split gb (fun ae=>zI Q c7 s a w aE.1 dI.1 ah (ba ae) c8) (fun ae=>zJ Q c7 s a w aE.2 dI.2 ah (ay ae) c8)
  ·exact h.elim
 |block id c aX=>
  intro Q c7 s a w aE dI ah h c8;refine wp_block (aX _ _ s a w aE dI ah h (fun e s' aZ w' bM br=>?_));cases e with
  |exit Cr=>
   simp only[qR]at br;simp only[Exit.inBlock];split
   ·rename_i hid;rw[aC hid]at br;exact c8 _ s' aZ w' bM br
   ·rename_i hid;rw[au hid]at br;exact c8 _ s' aZ w' bM br
  |_=>exact c8 _ s' aZ w' bM br
 |loop c aX=>
  intro Q c7 s a w aE dI ah h c8;obtain⟨ι,I,ok,μ,⟨ck,kr,vO⟩,Oe⟩:=h;refine wp_loop_ghost (fun m a w=>∃x,ok x/\μ x=m/\Rel S0 w0 n (I x) a w) (μ ck) ⟨ck,kr,rfl,ah.UX vO⟩ ?_;rintro m de cH ⟨x,aj,rfl,se⟩;refine aX _ _ (I x) de cH aE dI se (Oe x aj) (fun e s' aZ w' bM br=>?_);cases e with
  |normal=>obtain⟨y,aS,aq,FQ⟩:=br;exact⟨μ y,aq,y,aS,rfl,bM.UX FQ⟩
  |_=>exact c8 _ s' aZ w' bM br
 |_=>intro Q c7 s a w _ _ _ h _;exact h.elim
def Cu(P:Program)(s:ag):ResultVar->Prop×Option az
 |.tmp t=>l1 s (.tmp t)
 |.cell t ty=>match js (tk P ty) (ea P ty) (aG s (.tmp t)).1 (mem s (aG s (.tmp t)).2)with
  |(p,.x bK)=>(p,some bK)
  |_=>(False,none)
def oX(P:Program)(s:ag):List ResultVar->Prop×Option (List az)
 |[]=>(True,some [])
 |x::r=>match Cu P s x,oX P s r with
  |(p,some v),(q,some vs)=>(p/\q,some (v::vs))
  |_,_=>(False,none)
def Of(P:Program)(s:ag)(rs:List ResultVar)(r:bw):Prop:=
 match oX P s rs with
 |(p,some [x])=>p/\r=.x x
 |(p,some xs)=>p/\r=.b2 xs
 |_=>False
def FR(tmps:Array Value):ResultVar->Sem Value
 |.tmp t=>pure (tmps.getD t undef)
 |.cell t ty=>do loadVar ty (<-asAddr (tmps.getD t undef))
def Og(fn:Func)(tmps:Array Value):results fn tmps=(do
  let vs <-fn.results.mapM (FR tmps)
  pure (if h:vs.size=1 then vs[0]else .tuple vs)):=rfl
def ug:List az->Nat->ag
 |[],_=>fun _=>.dead
 |x::r,k=>fun i=>if i=k then .x x else ug r (k+1) i
mutual
def af.ok:af->Prop
 |.str l=>l.length<=maxLen
 |.list size xs=>xs.length<=maxLen/\af.zK size xs
 |_=>True
def af.zK(size:Nat):List (List af)->Prop
 |[]=>True
 |x::r=>x.length=size/\af.uh x/\af.zK size r
def af.uh:List af->Prop
 |[]=>True
 |c::r=>c.ok/\af.uh r
end
def az.ok:az->Prop
 |.one c=>c.ok
 |.agg cs=>af.uh cs
def JC:∀{cs:List af},(∀c∈cs,c.ok)->af.uh cs
 |[],_=>by simp[af.uh]
 |c::r,h=>by simp only[af.uh];exact⟨h c (by simp),JC (fun c' ao=>h c' (by simp[ao]))⟩
def Oh{size:Nat}:∀{xs:List (List af)},(∀x∈xs,x.length=size)->(∀x∈xs,∀c∈x,af.ok c)->af.zK size xs
 |[],_,_=>by simp[af.zK]
 |x::r,h,k=>by simp only[af.zK];exact⟨h x (by simp),JC (k x (by simp)),Oh (fun y aS=>h y (by simp[aS])) (fun y aS=>k y (by simp[aS]))⟩
def bn.ok{S:Nat->Prop}{c:af}{v:Value}(h:bn w S c v):c.ok:=by
 induction h with
 |str l h=>simpa only[af.ok]using h
 |empty a cap size h=>simp only[af.ok]
 |ht f caps U h aX=>simp only[af.ok]
 |kH a cap size h aT=>simp only[af.ok,af.zK,rF];exact⟨cd _,trivial⟩
 |list bT cap size xs U ap cU ao hm aj d7 an aX=>simp only[af.ok];refine⟨by omega,Oh aj (fun x eP c kn=>?_)⟩;obtain⟨j,ac⟩:=lh (List.mem_flatten.2 ⟨x,eP,kn⟩:c∈xs.flatten);exact aX j c ac
 |_=>simp only[af.ok]
def cg.ok{S:Nat->Prop}{x:az}{v:Value}(h:cg w S x v):x.ok:=by
 cases x with
 |one c=>exact bn.ok h
 |agg cs=>obtain⟨us,_,al⟩:=h;refine JC (fun c ao=>?_);obtain⟨j,ac⟩:=lh ao;obtain⟨u,_,an⟩:=al.2 j c ac;exact an.ok
def pQ(r:bw)(q:Prop×Option (List az)):Prop:=match q with
 |(p,some [x])=>p/\tP r (.x x)
 |(p,some xs)=>p/\tP r (.b2 xs)
 |_=>False
def zez{s:ag}{rs:List ResultVar}{r:bw}(h:pQ r (oX P s rs)):∃ca,Of P s rs ca/\tP r ca:=by
 unfold pQ at h;unfold Of;split at h
 ·exact⟨_,⟨h.1,rfl⟩,h.2⟩
 ·rename_i p xs bC e;refine⟨.b2 xs,?_,h.2⟩;cases xs with
  |nil=>exact⟨h.1,rfl⟩
  |cons x r=>cases r with
   |nil=>exact absurd rfl (bC x)
   |cons y r=>exact⟨h.1,rfl⟩
 ·exact h.elim
def nU:ResultVar->Operand
 |.tmp t=>.tmp t
 |.cell _ _=>.const (.bool true)
def pR:List ad->Nat->Prop
 |[],_=>True
 |o::_,0=>o=.dead
 |_::r,i+1=>pR r i
def vP(outs:List ad)(e z:Nat)(xs:List (List af))(i:Nat)(len:Option Nat):ad->Prop
 |.own bV h7 dS=>bV=e/\h7=z/\xs=(match len with|some k=>dS.take k|none=>dS)/\pR outs i
 |_=>False
def xO(s:ag)(outs:List ad)(e z:Nat)(xs:List (List af))(t:Nat):ad->Prop
 |.own bV h7 dS=>vP outs e z xs t none (.own bV h7 dS)
 |.alias i=>vP outs e z xs i none (s i)
 |.view i _ len true=>vP outs e z xs i (some len) (s i)
 |.x (.one .nil)=>xs=[]
 |_=>False
def jA(P:Program)(s:ag)(rs:List ResultVar)(outs:List ad)(r:bw):Prop:=
 match r with
 |.own e z xs=>match rs with
  |[.tmp t]=>xO s outs e z xs t (s t)
  |_=>False
 |r=>pQ r (oX P s rs)
def hT(s:ag)(rs:List ResultVar)(r:bw):ag:=
 match r with
 |.own _ _ _=>s
 |_=>dt s (dc s (rs.map nU))
def hU(s:ag):Nat->List ad->Prop
 |_,[]=>True
 |k,o::r=>(match o with|.dead=>True|o=>s k=o)/\hU s (k+1) r
def Oi{s:ag}:∀{k:Nat} {l:List ad},hU s k l->∀(j:Nat) (o:ad),l[j]?=some o->o≠.dead->s (k+j)=o
 |k,[],_,j,o,h,_=>by simp at h
 |k,o::r,h,j,cv,ac,bC=>by
  obtain⟨aa,ab⟩:=h;cases j with
  |zero=>simp at ac;subst ac;cases o<;>first|exact aa|exact absurd rfl bC
  |succ j=>simp at ac;have:=Oi ab j cv ac bC;rw[<-this];congr 1;omega
def UZ:∀{l:List ad} {i:Nat} {o:ad},pR l i->l[i]?=some o->o=.dead
 |[],i,o,_,h=>by simp at h
 |a::r,0,o,h,bE=>by simp at bE;subst bE;exact h
 |a::r,i+1,o,h,bE=>by simp at bE;exact UZ (l:=r) h bE
def ig:List ad->Nat->ag
 |[],_=>fun _=>.dead
 |x::r,k=>fun i=>if i=k then x else ig r (k+1) i
def JD:∀(args:List ad) (k i:Nat),ig args k i=((if k<=i then args[i-k]? else none).getD .dead)
 |[],k,i=>by simp[ig]
 |x::r,k,i=>by
  simp only[ig];by_cases h:i=k
  ·subst h;simp
  ·rw[au h,JD r (k+1) i];by_cases am:k<=i
   ·have aa:k+1<=i:=by omega
    have ab:i-k=(i-(k+1))+1:=by omega
    rw[aC aa,aC am,ab];simp
   ·rw[au (by omega),au am]
def Oj:∀(args:List az) (k:Nat),ug args k=ig (args.map .x) k
 |[],k=>rfl
 |x::r,k=>by funext i;simp only[ug,ig,iw,Oj r (k+1)]
def ad.ok:ad->Prop
 |.x v=>v.ok
 |.box cs=>af.uh cs
 |.own _ size xs=>xs.length<=maxLen/\af.zK size xs
 |_=>True
def cj.uh{S:Nat->Prop}{cs:List af}{us:List Value}(h:cj w S cs us):af.uh cs:=by refine JC (fun c ao=>?_);obtain⟨j,ac⟩:=lh ao;obtain⟨u,_,an⟩:=h.2 j c ac;exact an.ok
def cV.ok{S:Nat->Prop}{B:Nat->Prop}{s:ag}{tm:Nat->Value}{x:ad}{v:Value}(h:cV w S B s tm x v):x.ok:=by
 cases x with
 |x v=>exact cg.ok h
 |box cs=>obtain⟨b,arr,t,_,_,al,_⟩:=h;exact al.uh
 |own e z xs=>obtain⟨us,_,al,aj,hm,_⟩:=h;refine⟨hm,Oh aj (fun y aS c ao=>?_)⟩;obtain⟨j,ac⟩:=lh (List.mem_flatten.2 ⟨y,aS,ao⟩:c∈xs.flatten);obtain⟨u,_,an⟩:=al.2 j c ac;exact an.ok
 |_=>trivial
def zeA(ah:Rel S0 w0 n s a w){x:ResultVar}{p:Prop}{bK:az}(h:Cu P s x=(p,some bK))(ak:p)(l:List Nat)(al:∀i∈dc s [nU x],i∈l) :
  ∃v,(FR a.tmps x).run P w=.ok v w/\cg w (bR S0 w0.heap.size w (dt s l) (aJ a)) bK v:=by
 cases x with
 |tmp t=>exact⟨_,rfl,MI ah h ak l (fun i ai=>al i (Im (x:=.tmp t) (by simp[nU]) ai))⟩
 |cell t ty=>
  have da:∀b,bR S0 w0.heap.size w s (aJ a) b->bR S0 w0.heap.size w (dt s l) (aJ a) b:=fun b ae=>⟨ae.1,ae.2.1,fun k am=>by
   have aw:(dt s l k).aM=true:=by
    cases aw:(dt s l k).aM with
    |true=>rfl
    |false=>rw[jm aw]at am;cases am
   rw[EP l s k aw]at am;exact ae.2.2 k am⟩
  simp only[Cu]at h;split at h
  ·rename_i q So e;simp only[cc,bS]at h;obtain⟨rfl,rfl⟩:=h;obtain⟨v,cx,bU,_⟩:=R_ (P:=P) (t:=ty) (v:=a.eval (.tmp t)) (fun ak cs hm=>ah.mem (ah.aG (.tmp t) ak) hm) (by rw[e];exact ak);rw[e]at bU;refine⟨v,?_,cg.mono bU da (fun _ _=>rfl)⟩;have he:a.eval (.tmp t)=a.tmps.getD t undef:=rfl;rw[he]at cx;show (do loadVar ty (<-asAddr (a.tmps.getD t undef)):Sem Value).run P w=.ok v w
   generalize a.tmps.getD t undef=u at cx⊢;unfold Instr.loadAt Instr.sureAddr at cx;unfold asAddr;cases u with
   |pointer o=>cases o with
    |some bT=>exact cx
    |none=>simp at cx
   |_=>simp at cx
  ·simp at h
def zeB(ah:Rel S0 w0 n s a w)(l:List Nat):∀{rs:List ResultVar} {p:Prop} {xs:List az},oX P s rs=(p,some xs)->p->(∀i∈dc s (rs.map nU),i∈l) ->
  ∃vs:List Value,(rs.mapM (FR a.tmps)).run P w=.ok vs w/\vs.length=xs.length/\∀(j:Nat) (x:az),xs[j]?=some x->∃u,vs[j]?=some u/\cg w (bR S0 w0.heap.size w (dt s l) (aJ a)) x u:=by
 intro rs;induction rs with
 |nil=>intro p xs h _ _;simp only[oX,cc,bS]at h;obtain⟨_,rfl⟩:=h;exact⟨[],rfl,rfl,fun j x ac=>by simp at ac⟩
 |cons x r aX=>
  intro p xs h ak al;simp only[oX]at h;split at h
  ·rename_i q v dQ vs av aI;simp only[cc,bS]at h;obtain⟨rfl,rfl⟩:=h;have pq:∀i∈dc s [nU x],i∈l:=by
    intro i ai;refine al i ?_;simp only[iw,dc,wO,gv]at ai⊢;exact .inl ai
   have gk:∀i∈dc s (r.map nU),i∈l:=by intro i ai;refine al i ?_;simp only[iw,dc,gv];exact .inr ai
   obtain⟨u,aa,ab⟩:=zeA ah av ak.1 l pq;obtain⟨us,ar,aN,bD⟩:=aX aI ak.2 gk;refine⟨u::us,?_,by simp[aN],fun j bH ac=>?_⟩
   ·simp only[List.mapM_cons,Sem.run_bind,aa,ar,Result.andThen_ok,Sem.run_pure]
   ·cases j with
    |zero=>simp at ac;subst ac;exact⟨u,rfl,ab⟩
    |succ j=>simp only[BN]at ac;exact bD j bH ac
  ·simp at h
def zeC(ah:Rel S0 w0 n s a w){fn:Func}{r:bw}(h:pQ r (oX P s fn.results.toList)):∃v,(results fn a.tmps).run P w=.ok v w/\iy w (bR S0 w0.heap.size w (dt s (dc s (fn.results.toList.map nU))) (aJ a)) r v:=by
 have key:∀{p:Prop} {xs:List az},oX P s fn.results.toList=(p,some xs)->p->∃vs:List Value,(results fn a.tmps).run P w=.ok (if h:vs.length=1 then vs[0]else .tuple vs.toArray) w /\
   vs.length=xs.length/\∀(j:Nat) (x:az),xs[j]?=some x->∃u,vs[j]?=some u/\cg w (bR S0 w0.heap.size w (dt s (dc s (fn.results.toList.map nU))) (aJ a)) x u:=by
  intro p xs e ak;obtain⟨vs,aa,ab,ar⟩:=zeB ah (dc s (fn.results.toList.map nU)) e ak (fun i ai=>ai);refine⟨vs,?_,ab,ar⟩;rw[Og,<-HQ (xs:=fn.results),List.mapM_toArray];simp only[Sem.run_bind,Sem.run_map,aa,Result.andThen_ok,Sem.run_pure];congr 1
 obtain⟨ca,aB,aE⟩:=zez h;refine(fun ⟨v,aa,ab⟩=>⟨v,aa,zcz aE ab⟩:(∃v,(results fn a.tmps).run P w=.ok v w/\iy w (bR S0 w0.heap.size w (dt s (dc s (fn.results.toList.map nU))) (aJ a)) ca v)->_) ?_;unfold Of at aB;split at aB
 ·rename_i p x e;obtain⟨ak,rfl⟩:=aB;obtain⟨vs,aa,ab,ar⟩:=key e ak;have al:vs.length=1:=by simpa using ab
  rw[dif_pos al]at aa;obtain⟨u,hu,an⟩:=ar 0 x rfl;refine⟨_,aa,?_⟩;have:vs[0]=u:=by rw[cn (by omega)]at hu;injection hu
  rw[this];exact an
 ·rename_i p xs bC e;obtain⟨ak,rfl⟩:=aB;obtain⟨vs,aa,ab,ar⟩:=key e ak;have al:¬vs.length=1:=by
   intro al;rw[al]at ab;obtain⟨y,aS⟩:=Ex.1 ab.symm;exact bC y aS
  rw[dif_neg al]at aa;exact⟨_,aa,vs.toArray,rfl,by simpa using ab,fun j x ac=>by simpa using ar j x ac⟩
 ·exact aB.elim
def zeD{r:bw}{q:Prop×Option (List az)}(h:pQ r q)(v:Value):r.ha v=none:=by
 cases r with
 |own e z xs=>
  unfold pQ at h;split at h
  ·exact h.2.elim
  ·exact h.2.elim
  ·exact h.elim
 |_=>rfl
def U0{cH:World}(ah:Rel S0 cH n s a w){fn:Func}{r:bw}{outs:List ad}(h:jA P s fn.results.toList outs r) :
  ∃v,(results fn a.tmps).run P w=.ok v w/\Rel S0 cH n (hT s fn.results.toList r) a w/\iy w (fun b=>(bR S0 cH.heap.size w (hT s fn.results.toList r) (aJ a) b\/r.ha v=some b)) r v /\
   ∀b,r.ha v=some b->∃i,a' (hT s fn.results.toList r i) (aJ a i)=some b/\pR outs i:=by
 unfold jA at h;split at h
 ·rename_i e z xs;split at h
  ·rename_i t yV;have rP:(results fn a.tmps).run P w=.ok (aJ a t) w:=by
    rw[Og,<-HQ (xs:=fn.results),List.mapM_toArray,yV];simp[FR]
   have fin:∀{v:Value} {us:List Value} (i:Nat) ,v=aJ a t->w.h0 0 e z v xs.length us->cj w (bR S0 cH.heap.size w s (aJ a)) xs.flatten us->(∀x∈xs,x.length=z)->xs.length<=maxLen ->
     (∀b,v.ownBlock=some b->a' (s i) (aJ a i)=some b/\pR outs i) ->
     ∃v,(results fn a.tmps).run P w=.ok v w/\Rel S0 cH n (hT s [.tmp t] (.own e z xs)) a w/\iy w (fun b=>(bR S0 cH.heap.size w (hT s [.tmp t] (.own e z xs)) (aJ a) b\/(bw.own e z xs).ha v=some b)) (.own e z xs) v /\
      ∀b,(bw.own e z xs).ha v=some b->∃i,a' (hT s [.tmp t] (.own e z xs) i) (aJ a i)=some b/\pR outs i:=by
    intro v us i aH bq al aj hm ae;refine⟨v,by rw[aH];exact rP,ah,⟨us,bq,al.mono (fun b et=>⟨.inl et,fun h=>et.2.2 i (ae b h).1⟩) (fun _ _=>rfl),aj,hm,fun b h=>.inr h⟩,fun b h=>⟨i,ae b h⟩⟩
   rw[yV];have ba:=ah.rep t;revert h ba;generalize b3:s t=q;intro h ba;unfold xO at h;split at h
   ·rename_i bV h7 dS;obtain⟨rfl,rfl,rfl,dI⟩:=h;obtain⟨us,bq,al,aj,hm,_⟩:=ba;exact fin t rfl bq al aj hm (fun b ae=>⟨by rw[b3];exact ae,dI⟩)
   ·rename_i i;obtain⟨aH,_⟩:=ba;have ai:=ah.rep i;revert h ai;generalize gp:s i=q;intro h ai;unfold vP at h;split at h
    ·obtain⟨rfl,rfl,rfl,dI⟩:=h;obtain⟨us,bq,al,aj,hm,_⟩:=ai;have BZ:aJ a t=aJ a i:=by rw[aH,gp];rfl
     exact fin i BZ.symm bq al aj hm (fun b ae=>⟨by rw[gp];exact ae,dI⟩)
    ·exact h.elim
   ·rename_i i aK len;have ai:=ah.rep i;revert h ai;generalize gp:s i=q;intro h ai;unfold vP at h;split at h
    ·obtain⟨rfl,rfl,rfl,dI⟩:=h;obtain⟨us,bq,al,aj,hm,_⟩:=ai;obtain⟨aa,ab,ar,aN⟩:=MC gp ba bq al aj;exact fin i rfl aa ar (fun x eP=>aj x (rU eP)) (by rw[d'];omega) (fun b ae=>⟨by rw[gp];exact ab b ae,dI⟩)
    ·exact h.elim
   ·subst h;have aH:=qq ba;exact fin t (us:=[]) rfl (by rw[aH];exact World.yH w 0 e z) ⟨rfl,fun j c ac=>by simp at ac⟩ (fun x aj=>by cases aj) (by simp) (fun b ae=>by rw[aH]at ae;cases ae)
   ·exact h.elim
  ·exact h.elim
 ·rename_i bC;have he:hT s fn.results.toList r=dt s (dc s (fn.results.toList.map nU)):=by
   unfold hT;split
   ·exact absurd rfl (bC _ _ _)
   ·rfl
  obtain⟨v,aa,ab⟩:=zeC ah h;rw[he];refine⟨v,aa,tF _ _ ah,ab.mono (fun b ae=>.inl ae) (fun _ _=>rfl),fun b ae=>?_⟩;rw[zeD h]at ae;cases ae
def ks:List ad->Nat
 |[]=>0
 |o::r=>match o with
  |.dead=>match ks r with
   |0=>0
   |n+1=>n+2
  |_=>ks r+1
def Ol:∀{l:List ad} {j:Nat} {o:ad},l[j]?=some o->o≠.dead->j<ks l
 |[],j,o,h,_=>by simp at h
 |a::r,0,o,h,bC=>by simp at h;subst h;unfold ks;cases a<;>first|exact absurd rfl bC|simp
 |a::r,j+1,o,h,bC=>by
  have:=Ol (l:=r) (j:=j) (by simpa using h) bC;unfold ks;split
  ·split
   ·rename_i e;rw[e]at this;omega
   ·rename_i e;rw[e]at this;omega
  ·omega
def JE{α:Type}:∀(l:List α),ks (l.map fun _=>ad.dead)=0
 |[]=>rfl
 |a::r=>by simp only[iw,ks,JE r]
def cB.Om[Hint]{f:FuncId}{fn:Func}{c:Code}{args:List ad}{r:bw}{outs:List ad}(hm:P.follows .mixedOrders=true)(ay:P.funcs[f]?=some fn) (fO:(fn.name== "runtime.NumGoroutine")=false)
  (ae:fn.body=some c)(aE:codeOk c=true)(dI:jZ (ks outs) c=true)(al:args.length<=fn.ntmps)(eF:gd args outs=true){Qa:Exit->ag->Prop}(cG kt:List (Nat×Nat))(fk:cG=[]\/args.length<=999999)
  (Ok:∀e s,Qa e s->(e=.normal\/e=.ret)/\jA P (me s kt) fn.results.toList outs r/\hU (hT (me s kt) fn.results.toList r) 0 outs)
  (h:(∀x∈args,x.ok)->e2 P fn.ntmps c Qa (sA (ig args 0) cG)):cB P f args r outs:=by
 refine⟨⟨fn,ay,fO,by rw[ae];rfl⟩,eF,fun w fR vs k1 fJ=>?_⟩;have On:∀x∈args,x.ok:=by intro x aj;obtain⟨j,ac⟩:=lh aj;exact(fJ.rep j x ac).2.ok
 refine calls_of_wp ay ae ?_;have b':vs.size<=fn.ntmps:=iJ fJ.size al;have g9:∀i,aJ {tmps:=vs++Array.replicate (fn.ntmps-vs.size) undef,defers:=[]} i=b8 vs i:=by
  intro i;simp only[aJ,b8,lg,Oo];split
  ·rfl
  ·rename_i ai;rw[Cv (by omega:vs.size<=i),Oq];split<;>rfl
 have Ot:aJ {tmps:=vs++Array.replicate (fn.ntmps-vs.size) undef,defers:=[]}=b8 vs:=funext g9
 let E:Env:=⟨fR.rd,fR.eA,ks outs,b8 vs⟩
 have fE:ph E w:=⟨k1.rd,k1.eA,k1.apart,k1.wR,k1.wS⟩
 have zL:∀i,ig args 0 i=eb args i:=fun i=>by rw[JD];simp[eb]
 have Ou:ig args 0=eb args:=funext zL;have ju:∀i,eb args i=.dead\/∃x,args[i]?=some x/\eb args i=x/\oL args x=true/\cV w fR.rd fR.eA (eb args) (b8 vs) x (b8 vs i):=by
  intro i;cases aj:args[i]? with
  |none=>left;unfold eb;rw[aj];rfl
  |some x=>obtain⟨h2,an⟩:=fJ.rep i x aj;exact .inr ⟨x,rfl,by unfold eb;rw[aj];rfl,h2,an⟩
 have cb:∀i b,a' (eb args i) (b8 vs i)=some b->fR.eA b:=by
  intro i b et;rcases ju i with h|⟨x,aa,ar,aN,bD⟩
  ·rw[h]at et;cases et
  ·rw[ar]at et;exact(bD.gi et).1
 have ah:Rel E w fn.ntmps (ig args 0) {tmps:=vs++Array.replicate (fn.ntmps-vs.size) undef,defers:=[]} w:=by
  rw[Ou];refine⟨rfl,by simp;omega,Kept.refl _ _,fE,fun i=>?_,fun i j b ai ac=>?_,fun i ai=>?_,fun i j ct=>?_,fun j ac=>g9 j⟩
  ·rw[Ot];rcases ju i with h|⟨x,aa,ar,aN,bD⟩
   ·rw[h];trivial
   ·rw[ar];refine bD.oL aN (fun b ae=>⟨.inl ae,k1.rd b ae,fun k am=>?_⟩) (fun b _ ae=>.inr ae);exact k1.apart b ae (cb k b am)
  ·rw[g9]at ai ac;rcases ju i with h|⟨x,aa,ar,aN,bD⟩
   ·rw[h]at ai;cases ai
   rcases ju j with h|⟨y,aF,a7,b1,dZ⟩
   ·rw[h]at ac;cases ac
   rw[ar]at ai;rw[a7]at ac;exact fJ.inj i j x y b aa ai aF ac
  ·unfold eb;rw[lX (by omega)];rfl
  ·rcases ju i with h|⟨x,aa,ar,aN,bD⟩
   ·rw[h]at ct;cases ct
   ·rw[ar]at ct;exact Sy aN ct
 have Ov:Rel E w fn.ntmps (Ab.sA (ig args 0) cG) {tmps:=vs++Array.replicate (fn.ntmps-vs.size) undef,defers:=[]} w:=by
  rcases fk with rfl|fk
  ·exact ah
  ·exact ah.sA (by rw[zL];unfold eb;rw[lX (show args.length<=bF from fk)];rfl) cG
 refine Oc hm c _ _ _ _ _ aE dI Ov (h On) (fun e zeE aZ w' zeF br=>?_);obtain⟨he,aB,kT⟩:=Ok _ _ br;have bM:=zeF.me kt;generalize Ab.me zeE kt=s' at bM aB kT;obtain⟨v,cx,kU,bU,pB⟩:=U0 bM aB;obtain⟨eh,E3⟩:=nN eF;generalize hT s' fn.results.toList r=s2 at kU bU pB kT;have EX:∀j,j<ks outs->aJ aZ j=b8 vs j:=fun j ac=>kU.lU j ac;have Cw:∀(j:Nat) (o:ad),outs[j]?=some o->o≠.dead->s2 j=o/\aJ aZ j=b8 vs j:=by intro j o aa ar;have:=Oi kT j o aa ar;rw[f_]at this;exact⟨this,EX j (Ol aa ar)⟩
 have cp:∀(b:Nat),r9 outs vs b->∃(j:Nat) (o:ad),outs[j]?=some o/\o≠.dead/\a' (s2 j) (aJ aZ j)=some b:=by
  rintro b ⟨j,o,aa,ar⟩;have bC:o≠.dead:=by rintro rfl;cases ar
  obtain⟨aN,bD⟩:=Cw j o aa bC;exact⟨j,o,aa,bC,by rw[aN,bD];exact ar⟩
 have oO:∀b,bR E w.heap.size w' s2 (aJ aZ) b->h' w w' fR outs vs b:=by
  intro b ae;refine⟨?_,fun aw=>?_⟩
  ·rcases ae.1 with h|h|h
   ·exact .inl h
   ·exact .inr (.inr ⟨h,ae.2.1⟩)
   ·exact .inr (.inl h)
  ·obtain⟨j,o,_,_,h⟩:=cp b aw;exact ae.2.2 j h
 have U1:∀b,r.ha v=some b->h' w w' fR outs vs b/\¬fR.rd b:=by
  intro b ae;obtain⟨i,ai,zeG⟩:=pB b ae;obtain⟨aa,ab⟩:=(kU.rep i).gi ai;refine⟨⟨?_,fun aw=>?_⟩,fun Cn=>?_⟩
  ·rcases aa with h|h
   ·exact .inr (.inr ⟨h,ab⟩)
   ·exact .inr (.inl h)
  ·obtain⟨j,o,ar,aN,bD⟩:=cp b aw;have:=kU.inj i j b ai bD;subst this;exact aN (UZ zeG ar)
  ·rcases aa with h|h
   ·have:=k1.rd b Cn;omega
   ·exact k1.apart b Cn h
 have MH:∀b,bR E w.heap.size w' s2 (aJ aZ) b->r.ha v≠some b:=by intro b ae h;obtain⟨i,ai,_⟩:=pB b h;exact ae.2.2 i ai
 have kR:aZ.defers=[]/\∃v,(results fn aZ.tmps).run P w'=.ok v w'/\∃cz,Ending.returned v=.returned cz/\Kept fR.eA w w'/\iy w' (h' w w' fR outs vs) r cz/\(∀b,r.ha cz=some b->h' w w' fR outs vs b/\¬fR.rd b) /\
   ∀(j:Nat) (o:ad),outs[j]?=some o->cV w' (fun b=>h' w w' fR outs vs b/\r.ha cz≠some b) fR.eA xg xh o (b8 vs j):=by
  refine⟨bM.defers,v,cx,v,rfl,bM.below,bU.mono (fun b ae=>ae.elim (oO b) (fun h=>(U1 b h).1)) (fun _ _=>rfl),U1,fun j o aa=>?_⟩;by_cases bC:o=.dead
  ·subst bC;trivial
  obtain⟨ar,aN⟩:=Cw j o aa bC;have aq:j<args.length:=by rw[eh];exact(ep.1 aa).1
  obtain⟨x,aj⟩:∃x,args[j]?=some x:=⟨_,cn aq⟩
  have zv:=E3 j x o aj aa;obtain⟨l0,U2⟩:=fJ.rep j x aj;have an:=kU.rep j;rw[ar,aN]at an;have tW:o.bare=true:=by cases x<;>cases o<;>first|rfl|(simp[dR]at zv)
  exact an.bare tW (fun b ae=>⟨oO b ae,MH b ae⟩) (fun b ae _=>(U2.gi (Sz zv U2 ae)).1)
 rcases he with rfl|rfl
 ·exact kR
 ·exact kR
def aD.ofM{f:FuncId}{args:List az}{r:bw}(h:cB P f (args.map .x) r (args.map fun _=>.dead)):aD P f args r:=by
 refine⟨h.1,fun w S vs bW fJ=>?_⟩;have zeH:∀(j:Nat) (x:ad) (u:Value) (b:Nat),(args.map ad.x)[j]?=some x->a' x u=some b->False:=by
  intro j x u b ac ae;rw[dO]at ac;cases aj:args[j]? with
  |none=>rw[aj]at ac;cases ac
  |some y=>rw[aj]at ac;injection ac with ac;subst ac;cases ae
 have zoO:∀b,¬r9 (args.map fun _=>ad.dead) vs b:=by
  rintro b ⟨j,o,aa,ar⟩;rw[dO]at aa;cases aj:args[j]? with
  |none=>rw[aj]at aa;cases aa
  |some y=>rw[aj]at aa;injection aa with aa;subst aa;cases ar
 refine(h.2.2 w ⟨S,fun _=>False,0,fun _=>undef⟩ vs bW ⟨by simp[fJ.1],fun j x ac=>?_,fun i j x y b aa ar=>(zeH i x _ b aa ar).elim,fun b ae=>ae.elim⟩).mono ?_
 ·rw[dO]at ac;cases aj:args[j]? with
  |none=>rw[aj]at ac;cases ac
  |some y=>
   rw[aj]at ac;injection ac with ac
   subst ac;obtain⟨u,hu,an⟩:=fJ.2 j y aj;exact⟨rfl,by rw[r8 hu];exact an⟩
 ·rintro e w' ⟨v,rfl,am,an,ae,_⟩;refine⟨v,rfl,am.below (fun _ h=>h),an.mono (fun b ae=>?_) (fun _ _=>rfl),fun b et=>?_⟩
  ·rcases ae.1 with h|h|h
   ·exact .inl h
   ·exact h.elim
   ·exact .inr h
  ·obtain⟨⟨aa,_⟩,ab⟩:=ae b et;rcases aa with h|h|h
   ·exact absurd h ab
   ·exact h.elim
   ·exact h.1
def U3{s:ag}{α:Type}:∀(l:List α) (k:Nat),hU s k (l.map fun _=>ad.dead)
 |[],_=>trivial
 |_::r,k=>⟨trivial,U3 r (k+1)⟩
def JF{α:Type}:∀(l:List α) (i:Nat),pR (l.map fun _=>ad.dead) i
 |[],_=>by unfold pR;trivial
 |_::r,0=>rfl
 |_::r,i+1=>JF r i
def JG:∀l:List az,gd (l.map .x) (l.map fun _=>ad.dead)=true
 |[]=>rfl
 |_::r=>by simp[gd,dR,JG r]
def cB.mk[Hint]{f:FuncId}{fn:Func}{c:Code}{args:List ad}{r:bw}{outs:List ad}(hm:P.follows .mixedOrders=true)(ay:P.funcs[f]?=some fn) (fO:(fn.name== "runtime.NumGoroutine")=false)
  (ae:fn.body=some c)(aE:codeOk c=true)(dI:jZ (ks outs) c=true)(al:args.length<=fn.ntmps)(eF:gd args outs=true){Qa:Exit->ag->Prop}
  (Ok:∀e s,Qa e s->(e=.normal\/e=.ret)/\jA P s fn.results.toList outs r/\hU (hT s fn.results.toList r) 0 outs)
  (h:(∀x∈args,x.ok)->e2 P fn.ntmps c Qa (ig args 0)):cB P f args r outs:=cB.Om hm ay fO ae aE dI al eF [] [] (.inl rfl) Ok h
def aD.mk[Hint]{f:FuncId}{fn:Func}{c:Code}{args:List az}{r:bw}(hm:P.follows .mixedOrders=true)(ay:P.funcs[f]?=some fn) (fO:(fn.name== "runtime.NumGoroutine")=false)
  (ae:fn.body=some c)(aE:codeOk c=true)(al:args.length<=fn.ntmps)
  (h:(∀x∈args,x.ok)->e2 P fn.ntmps c (fun e s=>(e=.normal\/e=.ret)/\jA P s fn.results.toList [] r) (ug args 0)):aD P f args r:=by
 refine aD.ofM (cB.mk hm ay fO ae aE (by rw[JE];exact JA c) (by simpa using al) (JG args) (Qa:=fun e s=>(e=.normal\/e=.ret)/\jA P s fn.results.toList [] r) (fun e s br=>⟨br.1,?_,U3 args 0⟩) (fun aj=>by rw[<-Oj];exact h (fun x eP=>aj (.x x) (hh.2 ⟨x,eP,rfl⟩))));have iP:=br.2;unfold jA at iP⊢;split at iP
 ·split at iP
  ·unfold xO at iP⊢;split at iP
   ·exact⟨iP.1,iP.2.1,iP.2.2.1,JF args _⟩
   ·unfold vP at iP⊢;split at iP
    ·exact⟨iP.1,iP.2.1,iP.2.2.1,JF args _⟩
    ·exact iP.elim
   ·unfold vP at iP⊢;split at iP
    ·exact⟨iP.1,iP.2.1,iP.2.2.1,JF args _⟩
    ·exact iP.elim
   ·exact iP
   ·exact iP.elim
  ·exact iP.elim
 ·exact iP
end
end Go.Ab
