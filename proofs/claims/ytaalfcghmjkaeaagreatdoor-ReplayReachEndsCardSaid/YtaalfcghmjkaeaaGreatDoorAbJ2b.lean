/- A part of the proof: lemmas and contracts of functions. -/
import Derived.Test.YtaalfcghmjkaeaaGreatDoorAbJ2
set_option linter.all false
namespace Go.Ab
open Go Go.RowKit
variable [bf]
def ad.bare:ad->Bool
 |.x _=>true
 |.box _=>true
 |.own _ _ _=>true
 |.mp _ _ _=>true
 |.cf _ _=>true
 |.cT _ _ _ _=>true
 |.dead=>true
 |_=>false
def ad.MP{a:ad}(h:a.bare=true)(j:Nat):a.refs j=false:=by cases a<;>first|rfl|(simp[ad.bare]at h)
def cV.bare{w:World}{S S' O O':Nat->Prop}{s s':ag}{tm tm':Nat->Value}{a:ad}{v:Value}(h:cV w S O s tm a v)(ae:a.bare=true)(bW:∀b,S b->S' b)(cL:∀b,a' a v=some b->O b->O' b):cV w S' O' s' tm' a v:=by
 cases a with
 |dead=>trivial
 |x bK=>exact cg.mono h bW (fun _ _=>rfl)
 |box cs=>obtain⟨b,arr,t,rfl,a1,al,bl⟩:=h;exact⟨b,arr,t,rfl,a1,al.mono bW (fun _ _=>rfl),cL b rfl bl⟩
 |own e size xs=>obtain⟨us,bq,al,aj,hm,bl⟩:=h;exact⟨us,bq,al.mono bW (fun _ _=>rfl),aj,hm,fun b ae=>cL b ae (bl b ae)⟩
 |mp c bs es=>obtain⟨b,ents,rfl,a1,bl,he⟩:=h;exact⟨b,ents,rfl,a1,cL b rfl bl,he.mono bW (fun _ _=>rfl)⟩
 |cf b cs=>obtain⟨arr,t,a1,al,bl⟩:=h;exact⟨arr,t,a1,al.mono bW (fun _ _=>rfl),cL b rfl bl⟩
 |cT g e size xs=>obtain⟨us,bq,al,aj,hm,bl⟩:=h;exact⟨us,bq,al.mono bW (fun _ _=>rfl),aj,hm,fun b ae=>cL b ae (bl b ae)⟩
 |_=>simp[ad.bare]at ae
abbrev xg:ag:=fun _=>.dead
abbrev xh:Nat->Value:=fun _=>undef
def eb(args:List ad):ag:=fun i=>(args[i]?).getD .dead
def b8(vs:Array Value):Nat->Value:=fun j=>(vs[j]?).getD undef
def r8{vs:Array Value}{j:Nat}{u:Value}(h:vs[j]?=some u):b8 vs j=u:=by unfold b8;rw[h];rfl
def oL(args:List ad):ad->Bool
 |.ds i _=>(eb args i).aM
 |.cr _ caps=>caps.all fun c=>match c with
  |.inl _=>true
  |.inr p=>(eb args p.1).aM
 |a=>a.bare
def zbk{args:List ad}{a:ad}(h:a.bare=true):oL args a=true:=by cases a<;>first|exact h|(simp[ad.bare]at h)
def Sy{args:List ad}{a:ad}(h:oL args a=true){j:Nat}(an:a.refs j=true):(eb args j).aM=true:=by
 cases a<;>first|(simp[ad.refs]at an;done)|(simp[oL,ad.bare]at h;done)|skip
 ·rename_i f caps;simp only[ad.refs]at an;obtain⟨c,ao,ax⟩:=Ee.1 an;simp only[oL]at h;have:=fm.1 h c ao;cases c with
  |inl c=>cases ax
  |inr p=>
   obtain rfl:p.1=j:=by simpa[j_]using ax
   exact this
 ·rename_i i off;obtain rfl:i=j:=by simpa[ad.refs]using an
  exact h
def uZ.zbl{w:World}{S S':Nat->Prop}{s:ag}{tm:Nat->Value}{c:af⊕(Nat×Nat)}{u:Value}(h:uZ w S s tm c u)(bW:∀b,S b->S' b):uZ w S' s tm c u:=by
 cases c with
 |inl c=>exact bn.mono h bW (fun _ _=>rfl)
 |inr p=>
  rw[qm]at h⊢;split at h
  ·rename_i ai;rw[aC ai];exact h
  ·rename_i ai;rw[au ai];exact h.mono bW (fun _ _=>rfl) (fun _ h=>h)
def cV.oL{w:World}{S S' O O':Nat->Prop}{s:ag}{tm:Nat->Value}{args:List ad}{a:ad}{v:Value}(h:cV w S O s tm a v)(bj:Ab.oL args a=true)(bW:∀b,S b->S' b)(cL:∀b,a' a v=some b->O b->O' b):cV w S' O' s tm a v:=by
 cases ae:a.bare with
 |true=>exact h.bare ae bW cL
 |false=>
  cases a<;>first|(simp[ad.bare]at ae;done)|(simp[Ab.oL,ad.bare]at bj;done)|skip
  ·obtain⟨us,aH,al,ao⟩:=h;exact⟨us,aH,al,fun j c ac=>let ⟨u,hu,an⟩:=ao j c ac;⟨u,hu,an.zbl bW⟩⟩
  ·exact wQ.mono h bW (fun _ _=>rfl) (fun _ h=>h)
structure BP(w:World)(E:Env)(args:List ad)(vs:Array Value):Prop where
 size:vs.size<=args.length
 rep:∀(j:Nat) (a:ad),args[j]?=some a->oL args a=true/\cV w E.rd E.eA (eb args) (b8 vs) a (b8 vs j)
 inj:∀(i j:Nat) (x y:ad) (b:Nat),args[i]?=some x->a' x (b8 vs i)=some b->args[j]?=some y->a' y (b8 vs j)=some b->i=j
 all:∀b,E.eA b->∃(j:Nat) (x:ad),args[j]?=some x/\a' x (b8 vs j)=some b
def r9(outs:List ad)(vs:Array Value)(b:Nat):Prop:=∃(j:Nat) (o:ad),outs[j]?=some o/\a' o (b8 vs j)=some b
def h'(w w':World)(E:Env)(outs:List ad)(vs:Array Value):Nat->Prop:=
 fun b=>(E.rd b\/E.eA b\/(w.heap.size<=b/\b<w'.heap.size))/\¬r9 outs vs b
def dR:ad->ad->Bool
 |.x _,.dead=>true
 |.box _,.box _=>true
 |.box _,.dead=>true
 |.own _ _ _,.own _ _ _=>true
 |.own _ _ _,.x _=>true
 |.own _ _ _,.dead=>true
 |.mp _ _ _,.mp _ _ _=>true
 |.mp _ _ _,.dead=>true
 |.cf b _,.cf bg _=>b==bg
 |.cf _ _,.dead=>true
 |.cr _ _,.dead=>true
 |.ds _ _,.dead=>true
 |_,_=>false
def gd:List ad->List ad->Bool
 |[],[]=>true
 |a::r,o::q=>dR a o&&gd r q
 |_,_=>false
def l5:ad->ad->Bool
 |.own _ _ _,.cT _ _ _ _=>true
 |.cT _ _ _ _,.cT _ _ _ _=>true
 |a,o=>dR a o
def Iw{a o:ad}(h:dR a o=true):l5 a o=true:=by cases a<;>cases o<;>first|rfl|exact h
def nN:∀{args outs:List ad},gd args outs=true->args.length=outs.length/\∀(j:Nat) (a o:ad),args[j]?=some a->outs[j]?=some o->dR a o=true
 |[],[],_=>⟨rfl,fun j a o h=>by simp at h⟩
 |a::r,o::q,h=>by
  simp only[gd,b4]at h;obtain⟨aa,ab⟩:=nN h.2;refine⟨by simp[aa],fun j aZ cv bj aw=>?_⟩;cases j with
  |zero=>simp at bj aw;subst bj;subst aw;exact h.1
  |succ j=>simp at bj aw;exact ab j aZ cv bj aw
def cB(P:Program)(f:FuncId)(args:List ad)(r:bw)(outs:List ad):Prop:=
 r6 P f/\gd args outs=true/\∀(w:World) (E:Env) (vs:Array Value),ph E w->BP w E args vs ->
  Calls P f vs w fun e w'=>∃v,e=.returned v/\Kept E.eA w w'/\iy w' (h' w w' E outs vs) r v/\(∀b,r.ha v=some b->h' w w' E outs vs b/\¬E.rd b) /\
   ∀(j:Nat) (o:ad),outs[j]?=some o->cV w' (fun b=>h' w w' E outs vs b/\r.ha v≠some b) E.eA xg xh o (b8 vs j)
def Sz{a o:ad}{u:Value}{b:Nat}{w:World}{S O:Nat->Prop}{s:ag}{tm:Nat->Value}(ay:dR a o=true)(an:cV w S O s tm a u)(h:a' o u=some b):a' a u=some b:=by
 cases a with
 |box cs=>cases o with
  |box cs'=>obtain⟨bg,arr,t,rfl,_⟩:=an;exact h
  |dead=>cases h
  |_=>simp[dR]at ay
 |mp c bs es=>cases o with
  |mp c' My hP=>obtain⟨bg,ents,rfl,_⟩:=an;exact h
  |dead=>cases h
  |_=>simp[dR]at ay
 |own e z xs=>cases o with
  |own bV h7 dS=>exact h
  |dead=>cases h
  |x v=>cases h
  |_=>simp[dR]at ay
 |cf ef cs=>cases o with
  |cf dv cs'=>obtain rfl:ef=dv:=by simpa[dR]using ay
              exact h
  |dead=>cases h
  |_=>simp[dR]at ay
 |_=>cases o<;>first|(simp[dR]at ay;done)|(cases h)
def MQ{a o:ad}{u:Value}{b:Nat}{w:World}{S O:Nat->Prop}{s:ag}{tm:Nat->Value}(ay:dR a o=true)(aw:o.aM=true)(an:cV w S O s tm a u)(h:a' a u=some b):a' o u=some b:=by
 cases a with
 |box cs=>cases o with
  |box cs'=>obtain⟨bg,arr,t,rfl,_⟩:=an;exact h
  |dead=>cases aw
  |_=>simp[dR]at ay
 |mp c bs es=>cases o with
  |mp c' My hP=>obtain⟨bg,ents,rfl,_⟩:=an;exact h
  |dead=>cases aw
  |_=>simp[dR]at ay
 |own e z xs=>cases o with
  |own bV h7 dS=>exact h
  |dead=>cases aw
  |x v=>cases aw
  |_=>simp[dR]at ay
 |cf ef cs=>cases o with
  |cf dv cs'=>obtain rfl:ef=dv:=by simpa[dR]using ay
              exact h
  |dead=>cases aw
  |_=>simp[dR]at ay
 |_=>cases o<;>first|(simp[dR]at ay;done)|(cases aw)
def SA{a o:ad}(aT:∀g e z xs,o≠.cT g e z xs)(h:l5 a o=true):dR a o=true:=by cases o<;>first|(cases a<;>exact h)|exact absurd rfl (aT _ _ _ _)
def zbm{a o:ad}{u:Value}{b:Nat}{w:World}{S O:Nat->Prop}{s:ag}{tm:Nat->Value}(ay:l5 a o=true)(aw:o.aM=true)(aH:o.valOf=a.valOf)(an:cV w S O s tm a u)(h:a' a u=some b):a' o u=some b:=by
 cases a with
 |own e z xs=>cases o with
  |cT g bV h7 dS=>have aa:g=Value.bool true:=congrFun aH (.bool true);have ab:g=Value.bool false:=congrFun aH (.bool false);rw[aa]at ab;cases ab
  |_=>exact MQ (a:=.own e z xs) (SA (by rintro _ _ _ _ ⟨⟩) ay) aw an h
 |cT g e z xs=>cases o with
  |cT bQ bV h7 dS=>have aa:bQ=g:=congrFun aH undef;rw[aa];exact h
  |_=>exact MQ (a:=.cT g e z xs) (SA (by rintro _ _ _ _ ⟨⟩) ay) aw an h
 |_=>refine MQ ?_ aw an h;cases o<;>first|exact ay|skip
section
variable {P:Program}{S0:Env}{w0 w:World}{n:Nat}{s:ag}{a:Act}
def qG(s:ag)(x:Operand):Prop×Option (ad×Option Nat):=
 match aG s x with
 |(p,.x bK)=>(p,some (.x bK,none))
 |(p,.alias i)=>match s i with
  |.own e z xs=>(p,some (.own e z xs,some i))
  |.mp c bs es=>(p,some (.mp c bs es,some i))
  |_=>(False,none)
 |(p,.ptr i 0)=>match s i with
  |.box cs=>(p,some (.box cs,some i))
  |_=>(False,none)
 |(p,.cr f caps)=>(p,some (.cr f caps,none))
 |(p,.ds i off)=>(p,some (.ds i off,none))
 |_=>(False,none)
def jt(s:ag):List Operand->Prop×Option (List (ad×Option Nat))
 |[]=>(True,some [])
 |x::r=>match qG s x,jt s r with
  |(p,some v),(q,some vs)=>(p/\q,some (v::vs))
  |_,_=>(False,none)
def r_(s:ag):af⊕(Nat×Nat)->Option (ad×Option Nat)
 |.inl c=>some (.x (.one c),none)
 |.inr (i,0)=>match s i with
  |.box cs=>some (.box cs,some i)
  |_=>none
 |.inr (i,off)=>bif decide (1000000<=off)then some (.ds i (off-1000000),none)else none
def jT(s:ag):List (af⊕(Nat×Nat))->Option (List (ad×Option Nat))
 |[]=>some []
 |c::r=>match r_ s c,jT s r with
  |some x,some xs=>some (x::xs)
  |_,_=>none
def l6(s:ag):ad->Option (FuncId×List (ad×Option Nat))
 |.cr f caps=>(jT s caps).map fun xs=>(f,xs)
 |a=>(iz a).map fun p=>(p.1,p.2.map fun x=>(.x x,none))
def fW(s:ag)(f:Operand)(args:List Operand):Prop×Option (FuncId×List (ad×Option Nat)):=
 match aG s f,jt s args with
 |(p,a),(q,some xs)=>match l6 s a with
  |some (g,caps)=>(p/\q,some (g,xs++caps))
  |none=>(False,none)
 |_,_=>(False,none)
def r'(s:ag)(i:Nat)(o:ad):ag:=
 match o with
 |.box _=>fun j=>if j=i then o else s j
 |.mp _ _ _=>fun j=>if j=i then o else s j
 |_=>fun j=>if j=i then o else if (s j).refs i then .dead else s j
def e6(s:ag):List (ad×Option Nat)->List ad->ag
 |(_,some i)::l,o::outs=>e6 (r' s i o) l outs
 |(_,none)::l,_::outs=>e6 s l outs
 |_,_=>s
def slotsOf(l:List (ad×Option Nat)):List Nat:=l.filterMap (·.2)
def ve(xs:List (ad×Option Nat)):Bool:=xs.all fun y=>y.1.told
def SB{cs:List af}(h:(ad.box cs).told=true){j:Nat}(ac:cs[j]?=some .any):False:=by simp only[ad.told,vf]at h;rw[Bm]at h;exact h _ (iq ac) rfl
def zbn{x:ad}{cs:List af}(aj:x.fz=some cs)(h:x.told=true){j:Nat}(ac:cs[j]?=some .any):False:=by
 cases x with
 |box c=>
  obtain rfl:c=cs:=by simpa[ad.fz]using aj
  exact SB h ac
 |cf b c=>
  obtain rfl:c=cs:=by simpa[ad.fz]using aj
  exact SB (cs:=c) h ac
 |_=>cases aj
def ad.zbo:ad->Bool
 |.cr _ _=>true
 |.ds _ _=>true
 |_=>false
def oM(S0:Env)(w0:World)(s:ag)(a:Act)(w:World)(x:ad×Option Nat)(u:Value):Prop:=
 match x.2 with
 |none=>((∃bK,x.1=.x bK)\/x.1.zbo=true)/\ll S0 w0 s a w x.1 u
 |some i=>s i=x.1/\x.1.bare=true/\x.1.aM=true/\u=aJ a i
def zbp(ah:Rel S0 w0 n s a w){x:Operand}{p:Prop}{y:ad×Option Nat}(h:qG s x=(p,some y))(ak:p):oM S0 w0 s a w y (a.eval x):=by
 have cW:=ah.aG x;unfold qG at h;split at h
 ·rename_i q bK e;simp only[cc,bS]at h;obtain⟨rfl,rfl⟩:=h;rw[e]at cW;exact⟨.inl ⟨bK,rfl⟩,cW ak⟩
 ·rename_i q i e;rw[e]at cW;split at h
  ·rename_i ap;simp only[cc,bS]at h;obtain⟨rfl,rfl⟩:=h;exact⟨ap,rfl,rfl,(cV.wT (cW ak) ap).1⟩
  ·rename_i ap;simp only[cc,bS]at h;obtain⟨rfl,rfl⟩:=h;exact⟨ap,rfl,rfl,(cV.HW (cW ak) ap).1⟩
  ·simp at h
 ·rename_i q i e;rw[e]at cW;split at h
  ·rename_i cs ap;simp only[cc,bS]at h;obtain⟨rfl,rfl⟩:=h;obtain⟨b,aH,am⟩:=cW ak;have ai:=ah.rep i;rw[ap]at ai am;obtain⟨bg,arr,t,gb,_⟩:=ai;rw[gb]at am;obtain rfl:bg=b:=by simpa[a']using am
   exact⟨ap,rfl,rfl,by rw[aH,gb]⟩
  ·simp at h
 ·rename_i q f caps e;simp only[cc,bS]at h;obtain⟨rfl,rfl⟩:=h;rw[e]at cW;exact⟨.inr rfl,cW ak⟩
 ·rename_i q i off e;simp only[cc,bS]at h;obtain⟨rfl,rfl⟩:=h;rw[e]at cW;exact⟨.inr rfl,cW ak⟩
 ·simp at h
def SC(ah:Rel S0 w0 n s a w):∀{args:List Operand} {p:Prop} {aQ:List (ad×Option Nat)},jt s args=(p,some aQ)->p->aQ.length=args.length/\∀(j:Nat) (y:ad×Option Nat),aQ[j]?=some y->∃u,(args.map a.eval)[j]?=some u/\oM S0 w0 s a w y u:=by
 intro args;induction args with
 |nil=>intro p aQ h _;simp only[jt,cc,bS]at h;obtain⟨_,rfl⟩:=h;exact⟨rfl,fun j y ac=>by simp at ac⟩
 |cons x r aX=>
  intro p aQ h ak;simp only[jt]at h;split at h
  ·rename_i q v dQ vs av aI;simp only[cc,bS]at h;obtain⟨rfl,rfl⟩:=h;obtain⟨aa,ab⟩:=aX aI ak.2;refine⟨by simp[aa],fun j y ac=>?_⟩;cases j with
   |zero=>simp at ac;subst ac;exact⟨_,rfl,zbp ah av ak.1⟩
   |succ j=>simp at ac;simpa using ab j y ac
  ·simp at h
def SD:∀{caps:List (af⊕(Nat×Nat))} {us:List Value} {aQ:List (ad×Option Nat)},Rel S0 w0 n s a w->us.length=caps.length ->
  (∀(j:Nat) (c:af⊕(Nat×Nat)),caps[j]?=some c->∃u,us[j]?=some u/\uZ w (bR S0 w0.heap.size w s (aJ a)) s (aJ a) c u)->jT s caps=some aQ->aQ.length=us.length/\∀(j:Nat) (y:ad×Option Nat),aQ[j]?=some y->∃u,us[j]?=some u/\oM S0 w0 s a w y u
 |[],us,aQ,_,al,_,h=>by simp only[jT,bS]at h;subst h;exact⟨by simpa using al.symm,fun j y ac=>by simp at ac⟩
 |c::caps,us,aQ,ah,al,ao,h=>by
  cases us with
  |nil=>simp at al
  |cons u us=>
   simp only[jT]at h;split at h
   ·rename_i x xs av aI;injection h with h
    subst h;obtain⟨aa,ab⟩:=SD (us:=us) ah (by simpa using al) (fun j c ac=>by simpa using ao (j+1) c (by simpa using ac)) aI;refine⟨by simp[aa],fun j y ac=>?_⟩;cases j with
    |succ j=>simp at ac;simpa using ab j y ac
    |zero=>
     simp at ac;subst ac;obtain⟨mG,hu,nE⟩:=ao 0 c rfl;simp at hu;subst hu;refine⟨u,rfl,?_⟩;unfold r_ at av;split at av
     ·injection av with av;subst av
      exact⟨.inl ⟨_,rfl⟩,nE⟩
     ·rename_i i;split at av
      ·rename_i cs ap;injection av with av;subst av
       rw[qm,aC (by simp)]at nE;obtain⟨b,aH,am⟩:=nE;have ai:=ah.rep i;dsimp only at am;rw[ap]at ai am;obtain⟨bg,arr,t,gb,_⟩:=ai;rw[gb]at am;obtain rfl:bg=b:=by simpa[a']using am
       exact⟨ap,rfl,rfl,by rw[aH,gb]⟩
      ·cases av
     ·rename_i i off _;by_cases jP:1000000<=off
      ·simp only[jP,decide_true,cond_true,bS]at av;subst av;rw[qm,au (by simp only;omega)]at nE;exact⟨.inr rfl,nE⟩
      ·simp[jP]at av
   ·cases h
structure mQ(s s1:ag)(L:List (Nat×ad)):Prop where
 new:∀i o,(i,o)∈L->s1 i=o
 j8:∀j,(∀o,(j,o)∉L)->s1 j=s j\/(s1 j=.dead/\∃k,(s j).refs k=true)
 ref:∀j k,(s1 j).refs k=true->s1 j=s j/\(∀o,(k,o)∈L->o.aM=true/\o.size=(s k).size/\o.len=(s k).len/\o.valOf=(s k).valOf)/\((∀o,(k,o)∉L)->s1 k=s k)
def mQ.nil(s:ag):mQ s s []:=
 ⟨fun i o h=>(by cases h),fun j _=>.inl rfl,fun j k h=>⟨rfl,fun o h=>(by cases h),fun _=>rfl⟩⟩
def zbq{s:ag}{i:Nat}{o:ad}(ka:∀i j,(s i).refs j=true->(s j).aM=true)(ay:l5 (s i) o=true)(r0:(s i).aM=true)(ae:o.bare=true):mQ s (r' s i o) [(i,o)]:=by
 have bq:∀j,(s j).refs i=true->j≠i:=by rintro j h rfl;rw[kI h]at r0;cases r0
 have plain:(o.aM=true/\o.size=(s i).size/\o.len=(s i).len/\o.valOf=(s i).valOf)->mQ s (fun j=>if j=i then o else s j) [(i,o)]:=by
  intro am;refine⟨fun bB cv h=>?_,fun j h=>.inl ?_,fun j k h=>?_⟩
  ·simp at h;obtain⟨rfl,rfl⟩:=h;simp
  ·have:j≠i:=by rintro rfl;exact h o (by simp)
   simp[this]
  ·by_cases ac:j=i
   ·subst ac;simp only[aC]at h;rw[ad.MP ae]at h;cases h
   ·simp only[au ac]at h⊢;refine⟨trivial,fun cv aw=>?_,fun eV=>?_⟩
    ·simp at aw;obtain⟨rfl,rfl⟩:=aw;exact am
    ·have:k≠i:=by rintro rfl;exact eV o (by simp)
     simp[this]
 have kill:mQ s (fun j=>if j=i then o else if (s j).refs i then .dead else s j) [(i,o)]:=by
  refine⟨fun bB cv h=>?_,fun j h=>?_,fun j k h=>?_⟩
  ·simp at h;obtain⟨rfl,rfl⟩:=h;simp
  ·have:j≠i:=by rintro rfl;exact h o (by simp)
   simp only[au this];cases an:(s j).refs i with
   |true=>exact .inr ⟨by simp,i,an⟩
   |false=>exact .inl (by simp)
  ·by_cases ac:j=i
   ·subst ac;simp only[aC]at h;rw[ad.MP ae]at h;cases h
   ·simp only[au ac]at h⊢;cases an:(s j).refs i with
    |true=>rw[an]at h;cases h
    |false=>
     rw[an]at h;simp only[kg,h6]at h⊢;have dY:k≠i:=by rintro rfl;rw[an]at h;cases h
     refine⟨trivial,fun cv aw=>?_,fun _=>?_⟩
     ·simp at aw;exact absurd aw.1 dY
     ·simp only[au dY];have ff:=ka j k h;cases xi:(s k).refs i with
      |true=>rw[kI xi]at ff;cases ff
      |false=>simp
 unfold r';cases o with
 |box cs=>refine plain ⟨rfl,?_⟩;cases ap:s i<;>rw[ap]at ay<;>first|exact⟨rfl,rfl,rfl⟩|(simp[l5,dR]at ay)
 |mp c bs es=>refine plain ⟨rfl,?_⟩;cases ap:s i<;>rw[ap]at ay<;>first|exact⟨rfl,rfl,rfl⟩|(simp[l5,dR]at ay)
 |_=>exact kill
def mQ.wf{s s1:ag}{L:List (Nat×ad)}(h:mQ s s1 L)(ka:∀i j,(s i).refs j=true->(s j).aM=true):∀i j,(s1 i).refs j=true->(s1 j).aM=true:=by
 intro i j ct;obtain⟨aa,ab,ar⟩:=h.ref i j ct;by_cases ac:∃o,(j,o)∈L
 ·obtain⟨o,aw⟩:=ac;rw[h.new j o aw];exact(ab o aw).1
 ·rw[ar (fun o aw=>ac ⟨o,aw⟩)];rw[aa]at ct;exact ka i j ct
def mQ.trans{s s' s1:ag}{i:Nat}{o:ad}{L:List (Nat×ad)}(h:mQ s s' [(i,o)])(k:mQ s' s1 L)(ae:o.bare=true)(ai:∀cv,(i,cv)∉L):mQ s s1 ((i,o)::L):=by
 have gp:s' i=o:=h.new i o (by simp);have zbr:s1 i=o:=by
  rcases k.j8 i ai with e|⟨_,m,e⟩
  ·rw[e,gp]
  ·rw[gp,ad.MP ae]at e;cases e
 refine⟨fun j cv ac=>?_,fun j ac=>?_,fun j m gq=>?_⟩
 ·rcases eT.1 ac with e|e
  ·injection e with av aI;subst av;subst aI;exact zbr
  ·exact k.new j cv e
 ·have fA:j≠i:=by rintro rfl;exact ac o (by simp)
  have SE:∀cv,(j,cv)∉L:=fun cv bE=>ac cv (by simp[bE]);rcases h.j8 j (fun cv bE=>by simp at bE;exact fA bE.1)with e|⟨av,m,aI⟩
  ·rcases k.j8 j SE with bV|⟨av,m,aI⟩
   ·exact .inl (by rw[bV,e])
   ·exact .inr ⟨av,m,by rw[<-e];exact aI⟩
  ·rcases k.j8 j SE with bV|⟨b5,_⟩
   ·exact .inr ⟨by rw[bV,av],m,aI⟩
   ·exact .inr ⟨b5,m,aI⟩
 ·obtain⟨aa,ab,ar⟩:=k.ref j m gq;obtain⟨aN,bD,b9⟩:=h.ref j m (by rw[<-aa];exact gq);refine⟨by rw[aa,aN],fun cv aw=>?_,fun aw=>?_⟩
  ·rcases eT.1 aw with e|e
   ·injection e with av aI;subst av;subst aI;exact bD _ (by simp)
   ·have gC:m≠i:=by rintro rfl;exact ai cv e
    have:=ab cv e;rw[b9 (fun zbs bE=>by simp at bE;exact gC bE.1)]at this;exact this
  ·have gC:m≠i:=by rintro rfl;exact aw o (by simp)
   rw[ar (fun cv bE=>aw cv (by simp[bE])),b9 (fun zbs bE=>by simp at bE;exact gC bE.1)]
def dC:List (ad×Option Nat)->List ad->List (Nat×ad)
 |(_,some i)::l,o::outs=>(i,o)::dC l outs
 |(_,none)::l,_::outs=>dC l outs
 |_,_=>[]
def vg:∀{l:List (ad×Option Nat)} {outs:List ad} {i:Nat} {o:ad},(i,o)∈dC l outs->∃(j:Nat) (x:ad),l[j]?=some (x,some i)/\outs[j]?=some o
 |[],_,i,o,h=>by simp[dC]at h
 |(x,none)::l,[],i,o,h=>by simp[dC]at h
 |(x,some k)::l,[],i,o,h=>by simp[dC]at h
 |(x,none)::l,q::outs,i,o,h=>by simp only[dC]at h;obtain⟨j,y,aa,ab⟩:=vg h;exact⟨j+1,y,by simpa using aa,by simpa using ab⟩
 |(x,some k)::l,q::outs,i,o,h=>by
  simp only[dC]at h;rcases eT.1 h with e|e
  ·injection e with av aI;subst av;subst aI;exact⟨0,x,rfl,rfl⟩
  ·obtain⟨j,y,aa,ab⟩:=vg e;exact⟨j+1,y,by simpa using aa,by simpa using ab⟩
def Ix:∀{l:List (ad×Option Nat)} {outs:List ad} {i j:Nat} {x o:ad},l[j]?=some (x,some i)->outs[j]?=some o->(i,o)∈dC l outs
 |[],_,i,j,x,o,h,_=>by simp at h
 |p::l,[],i,j,x,o,_,h=>by simp at h
 |(y,q)::l,p::outs,i,0,x,o,h,k=>by simp at h k;obtain⟨rfl,rfl⟩:=h;subst k;simp[dC]
 |(y,q)::l,p::outs,i,j+1,x,o,h,k=>by
  simp at h k;have:=Ix h k;cases q with
  |none=>simpa[dC]using this
  |some m=>simp[dC,this]
def xj{l:List (ad×Option Nat)}{i j:Nat}{x:ad}(h:l[j]?=some (x,some i)):i∈slotsOf l:=by unfold slotsOf;rw[vh];exact⟨_,iq h,rfl⟩
def MR:∀{l:List (ad×Option Nat)} {i j k:Nat} {x y:ad},(slotsOf l).Nodup->l[j]?=some (x,some i)->l[k]?=some (y,some i)->j=k
 |[],i,j,k,x,y,_,h,_=>by simp at h
 |p::l,i,0,0,x,y,_,_,_=>rfl
 |(p,q)::l,i,0,k+1,x,y,aT,h,bE=>by simp at h bE;obtain⟨rfl,rfl⟩:=h;simp only[slotsOf,qC]at aT;exact absurd (xj bE) (vi.1 aT).1
 |(p,q)::l,i,j+1,0,x,y,aT,h,bE=>by simp at h bE;obtain⟨rfl,rfl⟩:=bE;simp only[slotsOf,qC]at aT;exact absurd (xj h) (vi.1 aT).1
 |(p,q)::l,i,j+1,k+1,x,y,aT,h,bE=>by
  simp at h bE;have BQ:(slotsOf l).Nodup:=by
   cases q with
   |none=>simpa[slotsOf]using aT
   |some m=>simp only[slotsOf,qC]at aT;exact(vi.1 aT).2
  rw[MR BQ h bE]
def EW:∀(l:List (ad×Option Nat)) (outs:List ad) (s:ag),(∀i j,(s i).refs j=true->(s j).aM=true)->(slotsOf l).Nodup->l.length=outs.length ->
  (∀(j:Nat) (x:ad) (i:Nat) (o:ad),l[j]?=some (x,some i)->outs[j]?=some o->l5 (s i) o=true/\(s i).aM=true/\o.bare=true)->mQ s (e6 s l outs) (dC l outs)
 |[],outs,s,ka,_,_,_=>by cases outs<;>exact mQ.nil s
 |(x,q)::l,[],s,_,_,h,_=>by simp at h
 |(x,none)::l,o::outs,s,ka,aT,al,h=>by simp only[e6,dC];exact EW l outs s ka (by simpa[slotsOf]using aT) (by simpa using al) (fun j y i cv aa ab=>h (j+1) y i cv (by simpa using aa) (by simpa using ab))
 |(x,some i)::l,o::outs,s,ka,aT,al,h=>by
  simp only[e6,dC];obtain⟨aa,ab,ar⟩:=h 0 x i o rfl rfl;have cY:=zbq ka aa ab ar;simp only[slotsOf,qC]at aT;have Iy:=(vi.1 aT).1;have pi:∀j,j∈slotsOf l->(s j).aM=true->r' s i o j=s j:=by
   intro j ac aw;have fA:j≠i:=by rintro rfl;exact Iy ac
   rcases cY.j8 j (fun cv bE=>by simp at bE;exact fA bE.1)with e|⟨_,k,e⟩
   ·exact e
   ·rw[kI e]at aw;cases aw
  refine cY.trans (EW l outs _ (cY.wf ka) (vi.1 aT).2 (by simpa using al) (fun j y m cv aF aP=>?_)) ar (fun cv bE=>?_)
  ·obtain⟨av,aI,b5⟩:=h (j+1) y m cv (by simpa using aF) (by simpa using aP);rw[pi m (xj aF) aI];exact⟨av,aI,b5⟩
  ·obtain⟨j,y,aN,_⟩:=vg bE;exact Iy (xj aN)
def Rel.zbt{X:Nat->Prop}{d:Nat}{r:ad}{v:Value}(ax:S0.m<=d/\d<n)(EX:∀j,j<S0.m->aJ a j=S0.val j)(zbu:a.defers=[])(b':a.tmps.size=n)(EY:Kept S0.eA w0 w)(aq:ph S0 w0)
  (bU:∀i,cV w (fun b=>bR S0 w0.heap.size w s (aJ a) b/\¬X b) (lf S0 w0.heap.size) s (aJ a) (s i) (aJ a i))
  (vj:∀i j b,a' (s i) (aJ a i)=some b->a' (s j) (aJ a j)=some b->i=j)(kT:∀i,n<=i->(s i).apart=true)(ka:∀i j,(s i).refs j=true->(s j).aM=true)
  (jp:∀j,r.refs j=false)(an:cV w (fun b=>bR S0 w0.heap.size w s (aJ a) b/\¬X b) (lf S0 w0.heap.size) s (aJ a) r v)(hR:∀b,a' r v=some b->X b)(Iz:∀i b,a' (s i) (aJ a i)=some b->¬X b) :
  Rel S0 w0 n (Ab.put s d r) (a.put (some d) v) w:=by
 have nv:d<a.tmps.size:=by rw[b'];exact ax.2
 have g9:=yK a d v nv;have nw:∀i,i≠d->aJ (a.put (some d) v) i=aJ a i:=fun i ai=>by rw[g9,au ai]
 have wU:aJ (a.put (some d) v) d=v:=by rw[g9,aC rfl]
 have cb:∀i b,a' (Ab.put s d r i) (aJ (a.put (some d) v) i)=some b->(i=d/\a' r v=some b)\/(i≠d/\a' (s i) (aJ a i)=some b):=by
  intro i b ae;by_cases ai:i=d
  ·subst ai;rw[wU,jo (jp i)]at ae;exact .inl ⟨rfl,ae⟩
  ·rw[nw i ai]at ae;exact .inr ⟨ai,RH ai ae⟩
 have da:∀b,(bR S0 w0.heap.size w s (aJ a) b/\¬X b)->bR S0 w0.heap.size w (Ab.put s d r) (aJ (a.put (some d) v)) b:=by
  rintro b ⟨⟨aa,ab,ar⟩,aj⟩;refine⟨aa,ab,fun i ai=>?_⟩;rcases cb i b ai with⟨_,h⟩|⟨_,h⟩
  ·exact aj (hR b h)
  ·exact ar i h
 refine⟨zbu,by simp[Act.put,b'],EY,aq,fun i=>?_,fun i j b lj Eg=>?_,fun i ai=>?_,fe ka (fun j ac=>by rw[jp]at ac;cases ac),fun j ac=>by rw[nw j (by omega)];exact EX j ac⟩
 ·by_cases ai:i=d
  ·subst ai;rw[wU,jo (jp i)];refine an.mono da (fun _ _=>rfl) (fun _ _=>rfl) (fun j ac=>?_) (fun bB _ _ _ _ al _ _=>by have:=(ad.nu al).1;rw[jp]at this;cases this);have:=jp j;rw[ad.ot ac]at this;cases this
  ·rw[nw i ai];rcases ou (s:=s) (v:=r) ai with ak|⟨_,_,ak⟩
   ·rw[ak];have j':∀j,(s i).refs j=true->j≠d:=by
     rintro j kk rfl;have:Ab.put s j r i=.dead:=Ed ai (ka i j kk) kk;rw[ak]at this;rw[this]at kk;cases kk
    refine(bU i).mono da (fun _ _=>rfl) (fun _ _=>rfl) (fun j ac=>?_) (fun bB off bt cs b al cO _=>⟨⟨cs,by rw[mD (j' bB (ad.nu al).1) (ad.mB cO)];exact cO,rfl⟩,rfl⟩);have kk:=ad.ot ac;have lc:=ka i j kk;have j':=j' j kk;exact⟨nw j j',fun _=>by rw[mD j' lc];exact⟨lc,rfl,rfl,rfl⟩,fun b ae=>by rw[mD j' lc];exact ae⟩
   ·rw[ak];trivial
 ·rcases cb i b lj with⟨ai,aa⟩|⟨ai,aa⟩<;>rcases cb j b Eg with⟨ac,ab⟩|⟨ac,ab⟩
  ·rw[ai,ac]
  ·exact absurd (hR b aa) (Iz j b ab)
  ·exact absurd (hR b ab) (Iz i b aa)
  ·exact vj i j b aa ab
 ·have hid:i≠d:=by omega
  rcases ou (s:=s) (v:=r) hid with ak|⟨_,_,ak⟩
  ·rw[ak];exact kT i ai
  ·rw[ak];rfl
def Rel.SF(ah:Rel S0 w0 n s a w){aQ:List (ad×Option Nat)}{outs:List ad}{vs:Array Value}{r:bw}{v:Value}{w':World}{s1:ag}{d:Nat}{E:Env}(ax:S0.m<=d/\d<n)
  (fp:∀(j:Nat) (y:ad×Option Nat),aQ[j]?=some y->∃u,vs[j]?=some u/\oM S0 w0 s a w y u)(al:aQ.length=outs.length)(y5:∀(j:Nat) (x:ad×Option Nat) (o:ad),aQ[j]?=some x->outs[j]?=some o->l5 x.1 o=true)(kh:∀(j i off d:Nat),(s j).mC i off d->i∈slotsOf aQ->False)
  (vj:∀(i j:Nat) (x y:ad) (b:Nat),outs[i]?=some x->a' x (b8 vs i)=some b->outs[j]?=some y->a' y (b8 vs j)=some b->i=j)
  (oN:E.rd=bR S0 w0.heap.size w s (aJ a))(qH:∀b,E.eA b↔∃i,i∈slotsOf aQ/\a' (s i) (aJ a i)=some b)
  (am:Kept E.eA w w')(an:iy w' (h' w w' E outs vs) r v)(pB:∀b,r.ha v=some b->h' w w' E outs vs b/\¬E.rd b)
  (kT:∀(j:Nat) (o:ad),outs[j]?=some o->cV w' (fun b=>h' w w' E outs vs b/\r.ha v≠some b) (fun b=>E.eA b\/w.heap.size<=b) xg xh o (b8 vs j))
  (cY:mQ s s1 (dC aQ outs)):Rel S0 w0 n (Ab.put s1 d r.cP) (a.put (some d) v) w':=by
 have tI:∀i,i∈slotsOf aQ->∃(j:Nat) (x:ad) (o:ad),aQ[j]?=some (x,some i)/\outs[j]?=some o/\vs[j]?=some (aJ a i)/\s i=x/\x.bare=true/\x.aM=true/\l5 x o=true:=by
  intro i ai;unfold slotsOf at ai;rw[vh]at ai;obtain⟨⟨x,q⟩,hm,br⟩:=ai;dsimp only at br;subst br;obtain⟨j,ac⟩:=lh hm;have aq:j<outs.length:=by rw[<-al];exact(ep.1 ac).1
  obtain⟨u,hu,ap,ae,aw,rfl⟩:=fp j _ ac;exact⟨j,x,outs[j],ac,cn aq,hu,ap,ae,aw,y5 j _ _ ac (cn aq)⟩
 have xk:∀i o,(i,o)∈dC aQ outs->i∈slotsOf aQ/\∃(j:Nat),outs[j]?=some o/\vs[j]?=some (aJ a i)/\(s i).bare=true/\(s i).aM=true/\l5 (s i) o=true:=by intro i o h;obtain⟨j,x,aa,ab⟩:=vg h;obtain⟨u,hu,ap,ae,aw,rfl⟩:=fp j _ aa;dsimp only at ap ae aw;subst ap;exact⟨xj aa,j,ab,hu,ae,aw,y5 j _ o aa ab⟩
 have kM:∀i,i∈slotsOf aQ->∃o,(i,o)∈dC aQ outs:=by intro i ai;obtain⟨j,x,o,aa,ab,_⟩:=tI i ai;exact⟨o,Ix aa ab⟩
 have zbv:∀{x o:ad},l5 x o=true->o.bare=true:=by intro x o h;cases x<;>cases o<;>first|rfl|(simp[l5,dR]at h)
 have vk:∀j o b,(j,o)∈dC aQ outs->a' o (aJ a j)=some b->E.eA b\/w.heap.size<=b:=by intro j o b aw ae;obtain⟨_,k,aa,ab,_,_,ay⟩:=xk j o aw;have cZ:=kT k o aa;rw[r8 ab]at cZ;exact(cZ.gi ae).1
 have MS:∀j b,a' (s1 j) (aJ a j)=some b->(∃o,(j,o)∈dC aQ outs/\a' o (aJ a j)=some b)\/((∀o,(j,o)∉dC aQ outs)/\a' (s j) (aJ a j)=some b):=by
  intro j b ae;by_cases ac:∃o,(j,o)∈dC aQ outs
  ·obtain⟨o,aw⟩:=ac;rw[cY.new j o aw]at ae;exact .inl ⟨o,aw,ae⟩
  ·have cp:∀o,(j,o)∉dC aQ outs:=fun o aw=>ac ⟨o,aw⟩;rcases cY.j8 j cp with e|⟨e,_⟩<;>rw[e]at ae
   ·exact .inr ⟨cp,ae⟩
   ·cases ae
 have MT:∀b,r9 outs vs b->E.eA b\/w.heap.size<=b:=by rintro b ⟨j,o,aa,ar⟩;exact((kT j o aa).gi ar).1
 have zbw:∀i o b,(i,o)∈dC aQ outs->a' o (aJ a i)=some b->r9 outs vs b:=by intro i o b h ae;obtain⟨_,j,aa,ab,_⟩:=xk i o h;exact⟨j,o,aa,by rw[r8 ab];exact ae⟩
 have IA:∀b,E.eA b->lf S0 w0.heap.size b/\b<w.heap.size:=by intro b ae;obtain⟨i,_,ai⟩:=(qH b).1 ae;exact(ah.rep i).gi ai
 have oO:∀b,h' w w' E outs vs b->bR S0 w0.heap.size w' s1 (aJ a) b:=by
  rintro b ⟨h,cp⟩;have BR:∀i,a' (s1 i) (aJ a i)=some b->(∀o,(i,o)∉dC aQ outs)/\a' (s i) (aJ a i)=some b:=by
   intro i ai;rcases MS i b ai with⟨o,aw,ae⟩|h
   ·exact absurd (zbw i o b aw ae) cp
   ·exact h
  rcases h with h|h|⟨aa,ab⟩
  ·rw[oN]at h;exact⟨h.1,u0 h.2.1 am.size,fun i ai=>h.2.2 i (BR i ai).2⟩
  ·obtain⟨aF,aP⟩:=IA b h;refine⟨.inr aF,u0 aP am.size,fun i ai=>?_⟩;obtain⟨ar,aN⟩:=BR i ai;obtain⟨m,hm,y6⟩:=(qH b).1 h;have:=ah.inj i m b aN y6;subst this;obtain⟨o,aw⟩:=kM i hm;exact ar o aw
  ·refine⟨.inr (.inl (iJ ah.below.size aa)),ab,fun i ai=>?_⟩;have:=((ah.rep i).gi (BR i ai).2).2;omega
 have i7:∀b,bR S0 w0.heap.size w s (aJ a) b->bR S0 w0.heap.size w' s1 (aJ a) b/\¬r.ha v=some b:=by
  intro b ae;refine⟨oO b ⟨.inl (by rw[oN];exact ae),fun aw=>?_⟩,fun h=>(pB b h).2 (by rw[oN];exact ae)⟩;rcases MT b aw with h|h
  ·obtain⟨i,_,ai⟩:=(qH b).1 h;exact ae.2.2 i ai
  ·have:=ae.2.1;omega
 have zbx:∀b,bR S0 w0.heap.size w s (aJ a) b->¬E.eA b:=by intro b ae al;obtain⟨i,_,ai⟩:=(qH b).1 al;exact ae.2.2 i ai
 have bU:∀i,cV w' (fun b=>bR S0 w0.heap.size w' s1 (aJ a) b/\¬r.ha v=some b) (lf S0 w0.heap.size) s1 (aJ a) (s1 i) (aJ a i):=by
  intro i;by_cases ai:∃o,(i,o)∈dC aQ outs
  ·obtain⟨o,aw⟩:=ai;obtain⟨_,j,aa,ab,_,_,ay⟩:=xk i o aw;rw[cY.new i o aw];have cZ:=kT j o aa;rw[r8 ab]at cZ;refine cZ.bare (zbv ay) (fun b ae=>⟨oO b ae.1,ae.2⟩) (fun b _ ae=>ae.elim (fun h=>(IA b h).1) (fun h=>.inl (iJ ah.below.size h)))
  ·have cp:∀o,(i,o)∉dC aQ outs:=fun o aw=>ai ⟨o,aw⟩;rcases cY.j8 i cp with e|⟨e,_⟩
   ·rw[e];refine(ah.rep i).mono i7 (fun b ae=>am.block b ae.2.1 (zbx b ae)) (fun b ae=>?_) (fun k oq=>?_) (fun bB off bt cs b al cO cm=>?_)
    rotate_right
    ·have BS:∀o,(bB,o)∉dC aQ outs:=by
      intro o aw;exact kh i bB off bt al (xk bB o aw).1
     obtain⟨_,_,ar⟩:=cY.ref i bB (by rw[e];exact(ad.nu al).1);refine⟨⟨cs,by rw[ar BS];exact cO,rfl⟩,World.cell?_of_block (am.block b ((ah.rep bB).gi cm).2 (fun zby=>?_))⟩;obtain⟨m,hm,y6⟩:=(qH b).1 zby;have:=ah.inj bB m b cm y6;subst this;obtain⟨o,aw⟩:=kM bB hm;exact BS o aw
    ·refine am.block b ((ah.rep i).gi ae).2 (fun al=>?_);obtain⟨m,hm,y6⟩:=(qH b).1 al;have:=ah.inj i m b ae y6;subst this;exact ai (kM i hm)
    ·obtain⟨_,ab,ar⟩:=cY.ref i k (by rw[e];exact ad.ot oq);by_cases SG:∃o,(k,o)∈dC aQ outs
     ·obtain⟨o,aw⟩:=SG;have aN:=ab o aw;rw[cY.new k o aw];refine⟨rfl,fun _=>aN,fun b ae=>?_⟩;obtain⟨_,j,aF,aP,zbz,zot,lq⟩:=xk k o aw;have zbA:=(ah.rep k).bare (S':=fun _=>True) (O':=fun _=>True) (s':=xg) (tm':=xh) zbz (fun _ _=>trivial) (fun _ _ _=>trivial);exact zbm lq aN.1 aN.2.2.2 zbA ae
     ·have aN:=ar (fun o aw=>SG ⟨o,aw⟩);exact⟨rfl,fun h=>by rw[aN];exact⟨h,rfl,rfl,rfl⟩,fun b ae=>by rw[aN];exact ae⟩
   ·rw[e];trivial
 have EY:Kept S0.eA w0 w':=by
  refine⟨am.os.trans ah.below.os,am.tape.trans ah.below.tape,am.output.trans ah.below.output,iJ ah.below.size am.size,fun b ae aT=>?_⟩;rw[am.block b (u0 ae ah.below.size) (fun al=>?_)]
  ·exact ah.below.block b ae aT
  ·rcases (IA b al).1 with h|h
   ·omega
   ·exact aT h
 have zbB:∀i,n<=i->(s1 i).apart=true:=by
  intro i ai;have gp:=ah.out i ai;by_cases jn:∃o,(i,o)∈dC aQ outs
  ·obtain⟨o,aw⟩:=jn;obtain⟨_,_,_,_,_,bq,ay⟩:=xk i o aw;rw[cY.new i o aw];rcases RF gp bq with⟨_,_,_,_,e⟩|⟨_,_,_,_,e⟩<;>rw[e]at ay
   ·cases o<;>first|rfl|(simp[l5,dR]at ay)
   ·cases o<;>first|rfl|(simp[l5,dR]at ay)
  ·rcases cY.j8 i (fun o aw=>jn ⟨o,aw⟩)with e|⟨e,_⟩
   ·rw[e,gp]
   ·rw[e];rfl
 have Iz:∀i b,a' (s1 i) (aJ a i)=some b->¬r.ha v=some b:=by intro i b ae u7;exact(oO b (pB b u7).1).2.2 i ae
 have zbC:cV w' (fun b=>bR S0 w0.heap.size w' s1 (aJ a) b/\¬r.ha v=some b) (lf S0 w0.heap.size) s1 (aJ a) r.cP v:=by
  cases r with
  |x bK=>exact cg.mono an (fun b ae=>⟨oO b ae,fun h=>by cases h⟩) (fun _ _=>rfl)
  |b2 us=>exact⟨an.choose,an.choose_spec.1,an.choose_spec.2.1,fun j x ac=>let ⟨u,hu,aj⟩:=an.choose_spec.2.2 j x ac;⟨u,hu,cg.mono aj (fun b ae=>⟨oO b ae,fun h=>by cases h⟩) (fun _ _=>rfl)⟩⟩
  |own e z xs=>
   obtain⟨us,bq,du,aj,hm,bl⟩:=an;refine⟨us,bq,du.mono (fun b ae=>⟨oO b ae.1,ae.2⟩) (fun _ _=>rfl),aj,hm,fun b ae=>?_⟩;obtain⟨aa,ab⟩:=pB b ae;rcases aa.1 with h|h|h
   ·exact absurd h ab
   ·exact(IA b h).1
   ·exact .inl (iJ ah.below.size h.1)
 have zbD:∀i j b,a' (s1 i) (aJ a i)=some b->a' (s1 j) (aJ a j)=some b->i=j:=by
  have mix:∀i j o b,(i,o)∈dC aQ outs->a' o (aJ a i)=some b->(∀o,(j,o)∉dC aQ outs)->a' (s j) (aJ a j)=some b->False:=by
   intro i j o b aw ae cp ac;rcases vk i o b aw ae with h|h
   ·obtain⟨m,hm,y6⟩:=(qH b).1 h;have:=ah.inj j m b ac y6;subst this;obtain⟨cv,fX⟩:=kM j hm;exact cp cv fX
   ·have:=((ah.rep j).gi ac).2;omega
  intro i j b ai ac;rcases MS i b ai with⟨o,aw,ae⟩|⟨cp,ae⟩<;>rcases MS j b ac with⟨cv,fX,cm⟩|⟨BT,cm⟩
  ·obtain⟨aF,cA,av,aI⟩:=vg aw;obtain⟨aP,db,f1,f2⟩:=vg fX;obtain⟨zbE,vl,_,_,_,rfl⟩:=fp aF _ av;obtain⟨zou,MU,_,_,_,rfl⟩:=fp aP _ f1;have:=vj aF aP o cv b aI (by rw[r8 vl];exact ae) f2 (by rw[r8 MU];exact cm);subst this;rw[av]at f1;simp only[bS,cc]at f1;exact f1.2
  ·exact(mix i j o b aw ae BT cm).elim
  ·exact(mix j i cv b fX cm cp ae).elim
  ·exact ah.inj i j b ae cm
 refine Rel.zbt (X:=fun b=>r.ha v=some b) ax ah.lU ah.defers ah.size EY ah.lt bU zbD zbB (cY.wf ah.wf) (fun j=>by cases r<;>rfl) zbC (fun b ae=>?_) Iz;cases r with
 |own e z xs=>exact ae
 |_=>cases ae
def posOf(i:Nat):List (ad×Option Nat)->Nat->Option Nat
 |[],_=>none
 |(_,some k)::l,j=>bif k==i then some j else posOf i l (j+1)
 |(_,none)::l,j=>posOf i l (j+1)
def qI(L:List (ad×Option Nat)):List (af⊕(Nat×Nat))->Option (List (af⊕(Nat×Nat)))
 |[]=>some []
 |.inl c::r=>match qI L r with
  |some cs=>some (.inl c::cs)
  |none=>none
 |.inr (i,off)::r=>match posOf i L 0,qI L r with
  |some j,some cs=>some (.inr (j,off)::cs)
  |_,_=>none
def i'(L:List (ad×Option Nat)):ad->ad
 |.cr f caps=>match qI L caps with
  |some cs=>.cr f cs
  |none=>.dead
 |.ds i off=>match posOf i L 0 with
  |some j=>.ds j off
  |none=>.dead
 |a=>a
def gr(L:List (ad×Option Nat)):List (ad×Option Nat)->List ad
 |[]=>[]
 |y::r=>i' L y.1::gr L r
def y7(L:List (ad×Option Nat)):∀(l:List (ad×Option Nat)) (j:Nat),(gr L l)[j]?=(l[j]?).map fun y=>i' L y.1
 |[],j=>by simp[gr]
 |y::r,0=>rfl
 |y::r,j+1=>by simpa[gr]using y7 L r j
def ad.mR:ad->List Nat
 |.cr _ caps=>caps.filterMap mO
 |.ds i _=>[i]
 |_=>[]
def addN(l:List Nat):List Nat->List Nat->List Nat
 |[],r=>r
 |i::t,r=>bif l.contains i then addN l t r else i::addN l t r
def xl(l:List Nat):List (ad×Option Nat)->List Nat
 |[]=>[]
 |(x,_)::r=>addN l x.mR (xl l r)
def ghost(s:ag)(xs:List (ad×Option Nat)):Option (Nat×List af):=
 match xl (slotsOf xs) xs with
 |[]=>none
 |i::_=>match s i with
  |.box cs=>some (i,cs)
  |_=>none
def BU(P:Program)(g:FuncId)(xs:List (ad×Option Nat))(k:List (ad×Option Nat)->bw->List ad->Prop):Option (Nat×List af)->Prop
 |none=>∃r outs,cB P g (gr xs xs) r outs/\k xs r outs
 |some (i,cs)=>(ad.box cs).told=true/\(slotsOf (xs++[(.box cs,some i)])).Nodup/\∃r outs co,(∀b,cB P g (gr (xs++[(.box cs,some i)]) xs++[.cf b cs]) r (outs++[.cf b co]))/\k (xs++[(.box cs,some i)]) r (outs++[.box co])
def iA(P:Program)(s:ag)(c:Prop×Option (FuncId×List (ad×Option Nat)))(k:List (ad×Option Nat)->bw->List ad->Prop):Prop:=
 match c with
 |(p,some (g,xs))=>p/\ve xs=true/\(slotsOf xs).Nodup/\BU P g xs k (ghost s xs)
 |_=>False
def sa(P:Program)(s:ag)(c:Prop×Option (FuncId×List (ad×Option Nat)))(cC:List (ad×Option Nat))(r:bw)(outs:List ad):Prop:=
 match c with
 |(p,some (g,xs))=>p/\ve xs=true/\(slotsOf xs).Nodup/\((ghost s xs=none/\cC=xs/\cB P g (gr xs xs) r outs) \/
   ∃i cs,ghost s xs=some (i,cs)/\cC=xs++[(.box cs,some i)]/\(ad.box cs).told=true/\(slotsOf cC).Nodup/\∃BV co,outs=BV++[.box co]/\∀b,cB P g (gr cC xs++[.cf b cs]) r (BV++[.cf b co]))
 |_=>False
def tJ{P:Program}{s:ag}{c:Prop×Option (FuncId×List (ad×Option Nat))}{k:List (ad×Option Nat)->bw->List ad->Prop}:iA P s c k↔∃cC r outs,sa P s c cC r outs/\k cC r outs:=by
 unfold iA sa;obtain⟨p,q⟩:=c;cases q with
 |none=>exact⟨fun h=>h.elim,fun ⟨_,_,_,h,_⟩=>h.elim⟩
 |some q=>
  obtain⟨g,xs⟩:=q;dsimp only;cases aB:ghost s xs with
  |none=>
   constructor
   ·rintro⟨aa,ab,ar,r,outs,aN,bD⟩;exact⟨xs,r,outs,⟨aa,ab,ar,.inl ⟨rfl,rfl,aN⟩⟩,bD⟩
   ·rintro⟨cC,r,outs,⟨aa,ab,ar,⟨_,rfl,aN⟩|⟨i,cs,h,_⟩⟩,bD⟩
    ·exact⟨aa,ab,ar,r,outs,aN,bD⟩
    ·cases h
  |some q=>
   obtain⟨i,cs⟩:=q;constructor
   ·rintro⟨aa,ab,ar,aN,bD,r,outs,co,b9,dw⟩;exact⟨_,r,_,⟨aa,ab,ar,.inr ⟨i,cs,rfl,rfl,aN,bD,outs,co,rfl,b9⟩⟩,dw⟩
   ·rintro⟨cC,r,outs,⟨aa,ab,ar,⟨h,_⟩|⟨bB,cs',h,rfl,aN,bD,BV,co,rfl,b9⟩⟩,dw⟩
    ·cases h
    ·simp only[bS,cc]at h;obtain⟨rfl,rfl⟩:=h;exact⟨aa,ab,ar,aN,bD,r,BV,co,b9,dw⟩
def zbF{P:Program}{s:ag}{c:Prop×Option (FuncId×List (ad×Option Nat))}{k bu:List (ad×Option Nat)->bw->List ad->Prop}(h:iA P s c k)(am:∀cC r outs,k cC r outs->bu cC r outs):iA P s c bu:=by obtain⟨cC,r,outs,aa,ab⟩:=tJ.1 h;exact tJ.2 ⟨cC,r,outs,aa,am _ _ _ ab⟩
def MV:∀{args outs:List ad},args.length=outs.length->(∀(j:Nat) (a o:ad),args[j]?=some a->outs[j]?=some o->dR a o=true)->gd args outs=true
 |[],[],_,_=>rfl
 |a::r,[],h,_=>by simp at h
 |[],o::q,h,_=>by simp at h
 |a::r,o::q,h,k=>by simp only[gd,b4];exact⟨k 0 a o rfl rfl,MV (by simpa using h) (fun j aZ cv aa ab=>k (j+1) aZ cv (by simpa using aa) (by simpa using ab))⟩
def vm(L:List (ad×Option Nat)):∀(l:List (ad×Option Nat)),(gr L l).length=l.length
 |[]=>rfl
 |_::r=>by simp[gr,vm L r]
def SH{L:List (ad×Option Nat)}{x o:ad}(h:dR (i' L x) o=true):dR x o=true:=by
 cases x<;>first|exact h|skip
 ·simp only[i']at h;split at h
  ·cases o<;>first|rfl|(simp[dR]at h)
  ·simp[dR]at h
 ·simp only[i']at h;split at h
  ·cases o<;>first|rfl|(simp[dR]at h)
  ·simp[dR]at h
def IB{P:Program}{s:ag}{c:Prop×Option (FuncId×List (ad×Option Nat))}{cC:List (ad×Option Nat)}{r:bw}{outs:List ad}(h:sa P s c cC r outs):gd (cC.map (·.1)) outs=true/\(slotsOf cC).Nodup/\∃p g xs,c=(p,some (g,xs))/\(cC=xs\/∃i cs,ghost s xs=some (i,cs)/\cC=xs++[(.box cs,some i)]):=by
 have one:∀{L xs:List (ad×Option Nat)} {outs:List ad},gd (gr L xs) outs=true->gd (xs.map (·.1)) outs=true:=by
  intro L xs outs h;obtain⟨aa,ab⟩:=nN h;refine MV (by simpa[vm]using aa) (fun j a o bj aw=>?_);rw[dO]at bj;cases aS:xs[j]? with
  |none=>rw[aS]at bj;cases bj
  |some y=>
   rw[aS]at bj;injection bj with bj
   dsimp only at bj;subst bj;exact SH (ab j _ o (by rw[y7,aS];rfl) aw)
 have app:∀{xs outs:List ad} {x o:ad},gd (xs++[x]) (outs++[o])=true->xs.length=outs.length->gd xs outs=true:=by
  intro xs;induction xs with
  |nil=>intro outs x o _ h;cases outs with|nil=>rfl|cons _ _=>simp at h
  |cons y aQ aX=>
   intro outs x o h al;cases outs with
   |nil=>simp at al
   |cons q zbG=>simp only[gO,gd,b4]at h⊢;exact⟨h.1,aX h.2 (by simpa using al)⟩
 have zbH:∀{xs outs:List ad} {x o:ad},gd xs outs=true->dR x o=true->gd (xs++[x]) (outs++[o])=true:=by
  intro xs;induction xs with
  |nil=>intro outs x o h k;cases outs with|nil=>simp[gd,k]|cons _ _=>simp[gd]at h
  |cons y aQ aX=>
   intro outs x o h k;cases outs with
   |nil=>simp[gd]at h
   |cons q zbG=>simp only[gO,gd,b4]at h⊢;exact⟨h.1,aX h.2 k⟩
 unfold sa at h;split at h
 ·rename_i p g xs;obtain⟨_,_,ar,⟨_,rfl,aN⟩|⟨i,cs,aB,rfl,_,bD,BV,co,rfl,b9⟩⟩:=h
  ·exact⟨one aN.2.1,ar,p,g,_,rfl,.inl rfl⟩
  ·refine⟨?_,bD,p,g,xs,rfl,.inr ⟨i,cs,aB,rfl⟩⟩;have ay:=(b9 0).2.1;have al:(gr (xs++[(ad.box cs,some i)]) xs).length=BV.length:=by
    have:=(nN ay).1;simpa using this
   rw[vn];exact zbH (one (app ay al)) rfl
 ·exact h.elim
def EZ{i:Nat}:∀{L:List (ad×Option Nat)} {k j:Nat},posOf i L k=some j->k<=j/\∃x,L[j-k]?=some (x,some i)
 |[],k,j,h=>by cases h
 |(x,none)::l,k,j,h=>by obtain⟨aa,y,ab⟩:=EZ (L:=l) h;refine⟨by omega,y,?_⟩;rw[show j-k=(j-(k+1))+1 by omega];simpa using ab
 |(x,some m)::l,k,j,h=>by
  simp only[posOf]at h;cases hm:m==i with
  |true=>rw[hm]at h;simp only[cond_true,bS]at h;subst h;rw[fB]at hm;subst hm;exact⟨eG _,x,by simp⟩
  |false=>rw[hm]at h;obtain⟨aa,y,ab⟩:=EZ (L:=l) h;refine⟨by omega,y,?_⟩;rw[show j-k=(j-(k+1))+1 by omega];simpa using ab
def MW{L:List (ad×Option Nat)}:∀{caps cs:List (af⊕(Nat×Nat))},qI L caps=some cs->cs.length=caps.length/\∀(m:Nat) (c:af⊕(Nat×Nat)),cs[m]?=some c ->
  (∃x,c=.inl x/\caps[m]?=some (.inl x))\/∃i j off x,c=.inr (j,off)/\caps[m]?=some (.inr (i,off))/\L[j]?=some (x,some i)
 |[],cs,h=>by simp only[qI,bS]at h;subst h;exact⟨rfl,fun m c hm=>by simp at hm⟩
 |.inl x::r,cs,h=>by
  simp only[qI]at h;split at h
  ·rename_i cs' e;injection h with h
   subst h;obtain⟨aa,ab⟩:=MW e;refine⟨by simp[aa],fun m c hm=>?_⟩;cases m with
   |zero=>simp at hm;subst hm;exact .inl ⟨x,rfl,rfl⟩
   |succ m=>simp at hm;simpa using ab m c hm
  ·cases h
 |.inr (i,off)::r,cs,h=>by
  simp only[qI]at h;split at h
  ·rename_i j cs' av e;injection h with h
   subst h;obtain⟨aa,ab⟩:=MW e;refine⟨by simp[aa],fun m c hm=>?_⟩;cases m with
   |zero=>simp at hm;subst hm;obtain⟨_,x,aj⟩:=EZ av;exact .inr ⟨i,j,off,x,rfl,rfl,by simpa using aj⟩
   |succ m=>simp at hm;simpa using ab m c hm
  ·cases h
def SI(ah:Rel S0 w0 n s a w){v:ad}{u:Value}{g:FuncId}{caps:List (ad×Option Nat)}(h:ll S0 w0 s a w v u)(ay:l6 s v=some (g,caps)) :
  ∃us:Array Value,u=.func (.func g) #[] us/\us.size=caps.length/\∀(j:Nat) (y:ad×Option Nat),caps[j]?=some y->∃x,us[j]?=some x/\oM S0 w0 s a w y x:=by
 have plain:∀{q:FuncId×List az},iz v=some q->g=q.1->caps=q.2.map (fun x=>(ad.x x,none))->∃us:Array Value,u=.func (.func g) #[] us/\us.size=caps.length/\∀(j:Nat) (y:ad×Option Nat),caps[j]?=some y->∃x,us[j]?=some x/\oM S0 w0 s a w y x:=by
  rintro⟨bQ,xs⟩ br rfl rfl;obtain⟨us,aa,ab,ar⟩:=EV h br;refine⟨us,aa,by simp[ab],fun j y ac=>?_⟩;rw[dO]at ac;cases aj:xs[j]? with
  |none=>rw[aj]at ac;cases ac
  |some x=>
   rw[aj]at ac;injection ac with ac
   subst ac;obtain⟨z,aY,an⟩:=ar j x aj;exact⟨z,aY,.inl ⟨x,rfl⟩,an⟩
 cases v with
 |cr f cs=>
  obtain⟨us,rfl,al,ao⟩:=h;simp only[l6]at ay;cases fT:jT s cs with
  |none=>rw[fT]at ay;cases ay
  |some aQ=>rw[fT]at ay;simp only[tC,bS,cc]at ay;obtain⟨rfl,rfl⟩:=ay;obtain⟨aa,ab⟩:=SD (us:=us.toList) ah (by simpa using al) (fun j c ac=>by simpa using ao j c ac) fT;exact⟨us,rfl,by simpa using aa.symm,fun j y ac=>by simpa using ab j y ac⟩
 |_=>
  simp only[l6]at ay;cases br:iz _ with
  |none=>rw[br]at ay;cases ay
  |some q=>rw[br]at ay;simp only[tC,bS,cc]at ay;exact plain br ay.1.symm ay.2.symm
structure BW(S0:Env)(w0:World)(s:ag)(a:Act)(w:World)(cC:List (ad×Option Nat))(gD:Array Value)(args:List ad)(vs:Array Value):Prop where
 val:∀(j:Nat) (y:ad×Option Nat),cC[j]?=some y->∃u,gD[j]?=some u/\oM S0 w0 s a w y u
 len:args.length=cC.length
 size:vs.size<=cC.length
 at_:∀(j:Nat) (y:ad×Option Nat),cC[j]?=some y->(args[j]?=some (i' cC y.1)/\b8 vs j=b8 gD j)\/(∃cs b,y.1=.box cs/\args[j]?=some (.cf b cs)/\b8 gD j=.pointer (some ⟨b,0,none⟩)) \/
  (∃g e z xs,(y.1=.own e z xs\/∃bQ,y.1=.cT bQ e z xs)/\args[j]?=some (.cT g e z xs)/\g=y.1.valOf (b8 gD j))
def BW.rep(ah:Rel S0 w0 n s a w){cC:List (ad×Option Nat)}{gD:Array Value}{args:List ad}{vs:Array Value}(h:BW S0 w0 s a w cC gD args vs)(fP:(slotsOf cC).Nodup){E:Env}(oN:E.rd=bR S0 w0.heap.size w s (aJ a))(qH:∀b,E.eA b↔∃i,i∈slotsOf cC/\a' (s i) (aJ a i)=some b):BP w E args vs:=by
 have tI:∀{i j:Nat} {x:ad},cC[j]?=some (x,some i)->∃y,args[j]?=some y/\(y.aM=true/\oL args y=true)/\(∀b,a' (s i) (aJ a i)=some b↔a' y (b8 vs j)=some b)/\cV w E.rd E.eA (eb args) (b8 vs) y (b8 vs j):=by
  intro i j x ac;obtain⟨u,hu,ap,h2,bq,zbI⟩:=h.val j _ ac;dsimp only at ap h2 bq;have tK:b8 gD j=aJ a i:=by rw[r8 hu,zbI]
  have bU:=ah.rep i;have al:∀b,a' (s i) (aJ a i)=some b->E.eA b:=fun b ae=>(qH b).2 ⟨i,xj ac,ae⟩;rcases h.at_ j _ ac with⟨aa,ab⟩|⟨cs,bg,aa,ab,ar⟩|⟨g,e,z,dS,aa,ab,ar⟩
  ·have:i' cC x=x:=by cases x<;>first|rfl|(simp[ad.bare]at h2)
   dsimp only at aa;rw[this]at aa;refine⟨x,aa,⟨bq,zbk h2⟩,fun b=>by rw[ab,tK,ap],?_⟩;rw[ab,tK,<-ap];rw[<-ap]at h2;exact bU.bare h2 (fun b ae=>by rw[oN];exact ae) (fun b ae _=>al b ae)
  ·dsimp only at aa;rw[tK]at ar;rw[ap,aa,ar]at bU al;refine⟨_,ab,⟨rfl,rfl⟩,fun b=>by rw[ap,aa,ar];rfl,?_⟩;obtain⟨dv,arr,t,e,a1,dA,cL⟩:=bU;obtain rfl:dv=bg:=by simpa using e.symm
   exact⟨arr,t,a1,dA.mono (fun b ae=>by rw[oN];exact ae) (fun _ _=>rfl),al _ rfl⟩
  ·dsimp only at aa ar;rw[tK]at ar;refine⟨_,ab,⟨rfl,rfl⟩,fun b=>?_,?_⟩
   ·rw[ap];rcases aa with aa|⟨bQ,aa⟩
    ·rw[aa]at ar⊢;rw[ar];exact iB
    ·rw[aa]at ar⊢;rw[ar];exact iB
   ·rw[ap]at bU al;rcases aa with aa|⟨bQ,aa⟩
    ·rw[aa]at ar bU al;obtain rfl:g=aJ a i:=ar;obtain⟨us,kN,dA,aj,hm,cL⟩:=bU;exact⟨us,kN,dA.mono (fun b ae=>by rw[oN];exact ae) (fun _ _=>rfl),aj,hm,fun b ae=>al b ae⟩
    ·rw[aa]at ar bU al;obtain rfl:g=bQ:=ar;obtain⟨us,kN,dA,aj,hm,cL⟩:=bU;exact⟨us,kN,dA.mono (fun b ae=>by rw[oN];exact ae) (fun _ _=>rfl),aj,hm,fun b ae=>al b ae⟩
 have u_:∀{i j:Nat} {x:ad} {b:Nat},cC[j]?=some (x,some i)->a' (s i) (aJ a i)=some b->(eb args j).aM=true/\a' (eb args j) (b8 vs j)=some b:=by
  intro i j x b ac ae;obtain⟨y,aa,ab,ar,_⟩:=tI ac;have e:eb args j=y:=by unfold eb;rw[aa];rfl
  rw[e];exact⟨ab.1,(ar b).1 ae⟩
 have SJ:∀{j:Nat} {x:ad},args[j]?=some x->∃y,cC[j]?=some y:=fun ac=>⟨_,cn (by rw[<-h.len];exact(ep.1 ac).1)⟩
 have E0:∀{j:Nat} {x y:ad} {u:Value},cC[j]?=some (y,none)->args[j]?=some x->a' x u=none:=by
  intro j x y u aS aj;obtain⟨mG,hu,ai⟩:=h.val j _ aS;rcases h.at_ j _ aS with⟨aa,_⟩|⟨cs,b,aa,_⟩|⟨g,e,z,dS,aa,_⟩
  ·rw[aa]at aj;injection aj with aj
   subst aj;rcases ai.1 with⟨bK,aj⟩|aj
   ·dsimp only at aj⊢;rw[aj];rfl
   ·dsimp only at aj⊢;cases y<;>first|(cases aj;done)|skip
    ·simp only[i'];split<;>rfl
    ·simp only[i'];split<;>rfl
  ·rcases ai.1 with⟨bK,aj⟩|aj
   ·rw[aa]at aj;cases aj
   ·rw[aa]at aj;cases aj
  ·dsimp only at aa;rcases ai.1 with⟨bK,aj⟩|aj<;>dsimp only at aj
   ·rw[aj]at aa;rcases aa with aa|⟨_,aa⟩<;>cases aa
   ·rcases aa with aa|⟨_,aa⟩<;>rw[aa]at aj<;>cases aj
 have SK:∀{j:Nat} {x:ad} {b:Nat},args[j]?=some x->a' x (b8 vs j)=some b->∃i y,cC[j]?=some (y,some i)/\a' (s i) (aJ a i)=some b:=by
  intro j x b ac ae;obtain⟨⟨y,q⟩,aS⟩:=SJ ac;cases q with
  |none=>rw[E0 aS ac]at ae;cases ae
  |some i=>
   obtain⟨y8,aa,_,ar,_⟩:=tI aS;rw[ac]at aa;injection aa with aa;subst aa
   exact⟨i,y,aS,(ar b).2 ae⟩
 refine⟨by rw[h.len];exact h.size,fun j x ac=>?_,fun i j x y b aa ar aN b9=>?_,fun b ae=>?_⟩
 ·obtain⟨⟨y,q⟩,aS⟩:=SJ ac;cases q with
  |some i=>
   obtain⟨y8,aa,ab,_,aN⟩:=tI aS;rw[ac]at aa;injection aa with aa;subst aa
   exact⟨ab.2,aN⟩
  |none=>
   obtain⟨u,hu,ai⟩:=h.val j _ aS;rcases h.at_ j _ aS with⟨aa,ab⟩|⟨cs,b,aa,_⟩|⟨g,e,z,dS,aa,_⟩
   ·rw[aa]at ac;injection ac with ac
    subst ac;rw[ab,r8 hu];obtain⟨am,an⟩:=ai;dsimp only at am an⊢;rcases am with⟨bK,aj⟩|aj
    ·subst aj;exact⟨rfl,cg.mono an (fun b ae=>by rw[oN];exact ae) (fun _ _=>rfl)⟩
    ·cases y<;>first|(cases aj;done)|skip
     ·rename_i f caps;simp only[i'];cases ao:qI cC caps with
      |none=>exact⟨rfl,trivial⟩
      |some cs=>
       obtain⟨us,aH,al,gA⟩:=an;obtain⟨aF,aP⟩:=MW ao;have bq:∀{i:Nat} {off:Nat} {mG:Value},uZ w (bR S0 w0.heap.size w s (aJ a)) s (aJ a) (.inr (i,off)) mG->∃b,a' (s i) (aJ a i)=some b:=by
        intro i off mG ao;rw[qm]at ao;split at ao
        ·obtain⟨b,_,e⟩:=ao;exact⟨b,e⟩
        ·obtain⟨_,b,_,_,_,e⟩:=ao;exact⟨b,e⟩
       refine⟨?_,us,aH,by rw[al,aF],fun m c hm=>?_⟩
       ·simp only[oL];rw[fm];intro c kn;obtain⟨m,hm⟩:=lh kn;rcases aP m c hm with⟨x,rfl,_⟩|⟨i,kj,off,x,rfl,nO,aY⟩
        ·rfl
        ·obtain⟨mG,_,eZ⟩:=gA m _ nO;obtain⟨b,ae⟩:=bq eZ;exact(u_ aY ae).1
       ·rcases aP m c hm with⟨x,rfl,nO⟩|⟨i,kj,off,x,rfl,nO,aY⟩
        ·obtain⟨mG,bD,b9⟩:=gA m _ nO;exact⟨mG,bD,bn.mono b9 (fun b ae=>by rw[oN];exact ae) (fun _ _=>rfl)⟩
        ·obtain⟨mG,bD,b9⟩:=gA m _ nO;refine⟨mG,bD,?_⟩;rw[qm]at b9⊢;split at b9
         ·rename_i ai;rw[aC ai];obtain⟨b,av,aI⟩:=b9;exact⟨b,av,(u_ aY aI).2⟩
         ·rename_i ai;rw[au ai];obtain⟨ef,b,av,aI,b5,eH⟩:=b9;exact⟨ef,b,av,by rw[oN];exact aI,b5,(u_ aY eH).2⟩
     ·rename_i i off;simp only[i'];cases ao:posOf i cC 0 with
      |none=>exact⟨rfl,trivial⟩
      |some kj=>obtain⟨_,x,aY⟩:=EZ ao;obtain⟨ef,b,av,aI,b5,eH⟩:=an;exact⟨(u_ aY eH).1,ef,b,av,by rw[oN];exact aI,b5,(u_ aY eH).2⟩
   ·rcases ai.1 with⟨bK,aj⟩|aj
    ·rw[aa]at aj;cases aj
    ·rw[aa]at aj;cases aj
   ·dsimp only at aa;rcases ai.1 with⟨bK,aj⟩|aj<;>dsimp only at aj
    ·rw[aj]at aa;rcases aa with aa|⟨_,aa⟩<;>cases aa
    ·rcases aa with aa|⟨_,aa⟩<;>rw[aa]at aj<;>cases aj
 ·obtain⟨i1,E1,av,aI⟩:=SK aa ar;obtain⟨i2,E2,f1,f2⟩:=SK aN b9;have:=ah.inj i1 i2 b aI f2;subst this;exact MR fP av f1
 ·obtain⟨i,ai,cm⟩:=(qH b).1 ae;unfold slotsOf at ai;rw[vh]at ai;obtain⟨⟨x,q⟩,hm,br⟩:=ai;dsimp only at br;subst br;obtain⟨j,ac⟩:=lh hm;obtain⟨y,aa,_,ar,_⟩:=tI ac;exact⟨j,y,aa,(ar b).1 cm⟩
structure SL(cC:List (ad×Option Nat))(gD:Array Value)(args:List ad)(vs:Array Value)(outs xm:List ad):Prop where
 len:outs.length=xm.length
 at_:∀(j:Nat) (o:ad) (y:ad×Option Nat),outs[j]?=some o->cC[j]?=some y->(xm[j]?=some o/\args[j]?=some (i' cC y.1)/\b8 vs j=b8 gD j) \/
  (∃cs b co,y.1=.box cs/\args[j]?=some (.cf b cs)/\b8 gD j=.pointer (some ⟨b,0,none⟩)/\o=.box co/\xm[j]?=some (.cf b co))
def SM(ah:Rel S0 w0 n s a w){g:FuncId}{cC:List (ad×Option Nat)}{gD:Array Value}{args:List ad}{vs:Array Value}{r:bw}{outs xm:List ad}{d:Nat}(cY:BW S0 w0 s a w cC gD args vs)(fP:(slotsOf cC).Nodup)(kh:ve cC=true)
  (gQ:cB P g args r xm)(cL:SL cC gD args vs outs xm)(ax:S0.m<=d/\d<n) :
  Calls P g vs w fun e w'=>∃v,e=.returned v/\Rel S0 w0 n (Ab.put (e6 s cC outs) d r.cP) (a.put (some d) v) w':=by
 obtain⟨_,eF,oJ⟩:=gQ;obtain⟨pq,E3⟩:=nN eF;have hD:cC.length=outs.length:=by rw[cL.len,<-pq,cY.len]
 let E:Env:=⟨bR S0 w0.heap.size w s (aJ a),fun b=>∃i,i∈slotsOf cC/\a' (s i) (aJ a i)=some b,0,fun _=>undef⟩
 have fE:ph E w:=by
  refine⟨fun b ae=>ae.2.1,fun b ⟨i,_,ai⟩=>((ah.rep i).gi ai).2,fun b ae ⟨i,_,ai⟩=>ae.2.2 i ai,ah.lt.Bk ah.below,fun b ae ⟨i,_,ai⟩=>?_⟩;rcases ((ah.rep i).gi ai).1 with h|h
  ·have:=bf.lt ah.lt.wR ae;omega
  ·exact ah.lt.wS b ae h
 have y5:gd (cC.map (·.1)) outs=true:=by
  refine MV (by simpa using hD) (fun j x o aa ab=>?_);rw[dO]at aa;cases aS:cC[j]? with
  |none=>rw[aS]at aa;cases aa
  |some y=>
   rw[aS]at aa;injection aa with aa
   dsimp only at aa;rcases cL.at_ j o y ab aS with⟨aF,aP,_⟩|⟨cs,b,co,aF,_,_,rfl,_⟩
   ·have:=E3 j _ o aP aF;rw[aa]at this;cases x<;>first|exact this|skip
    ·simp only[i']at this;split at this
     ·cases o<;>first|rfl|(simp[dR]at this)
     ·simp[dR]at this
    ·simp only[i']at this;split at this
     ·cases o<;>first|rfl|(simp[dR]at this)
     ·simp[dR]at this
   ·rw[<-aa,aF];rfl
 have MT:∀b,r9 xm vs b↔r9 outs gD b:=by
  have aY:∀{j:Nat} {o:ad},outs[j]?=some o->∃y,cC[j]?=some y:=fun h=>⟨_,cn (by rw[hD];exact(ep.1 h).1)⟩
  refine fun b=>⟨fun ⟨j,zov,aa,ab⟩=>?_,fun ⟨j,o,aa,ab⟩=>?_⟩
  ·obtain⟨o,aw⟩:∃o,outs[j]?=some o:=⟨_,cn (by rw[cL.len];exact(ep.1 aa).1)⟩
   obtain⟨y,aS⟩:=aY aw;refine⟨j,o,aw,?_⟩;rcases cL.at_ j o y aw aS with⟨aF,_,a7⟩|⟨cs,bg,co,_,_,a7,rfl,dZ⟩
   ·rw[aa]at aF;injection aF with aF
    rw[<-aF,<-a7];exact ab
   ·rw[aa]at dZ;injection dZ with dZ
    subst dZ;rw[a7];exact ab
  ·obtain⟨y,aS⟩:=aY aa;rcases cL.at_ j o y aa aS with⟨aF,_,a7⟩|⟨cs,bg,co,_,_,a7,rfl,dZ⟩
   ·exact⟨j,o,aF,by rw[a7];exact ab⟩
   ·rw[a7]at ab;exact⟨j,_,dZ,ab⟩
 have MX:∀w',h' w w' E xm vs=h' w w' E outs gD:=by intro w';funext b;simp only[h',MT b]
 refine(oJ w E vs fE (cY.rep ah fP rfl (fun b=>iB))).mono ?_;rintro e w' ⟨v,rfl,E4,an,pB,kT⟩;rw[MX w']at an pB kT;refine⟨v,rfl,?_⟩;have BX:mQ s (e6 s cC outs) (dC cC outs):=by refine EW cC outs s ah.wf fP hD (fun j x i o aa ab=>?_);obtain⟨u,hu,ap,ae,aw,_⟩:=cY.val j _ aa;dsimp only at ap ae aw;subst ap;have ay:=(nN y5).2 j _ o (by rw[dO,aa];rfl) ab;refine⟨Iw ay,aw,?_⟩;revert ay;dsimp only;generalize s i=z;intro ay;cases z<;>cases o<;>first|rfl|(simp[dR]at ay)
 have SN:∀{j:Nat} {o:ad} {b:Nat},outs[j]?=some o->a' o (b8 gD j)=some b->∃i x,cC[j]?=some (x,some i)/\a' (s i) (aJ a i)=some b:=by
  intro j o b aa ab;obtain⟨⟨x,q⟩,aS⟩:∃y,cC[j]?=some y:=⟨_,cn (by rw[hD];exact(ep.1 aa).1)⟩
  have ay:=(nN y5).2 j x o (by rw[dO,aS];rfl) aa;obtain⟨u,hu,br⟩:=cY.val j _ aS;cases q with
  |none=>
   have:o=.dead:=by
    rcases br.1 with⟨bK,aj⟩|aj
    ·dsimp only at aj;subst aj;cases o<;>first|rfl|(simp[dR]at ay)
    ·cases x<;>first|(cases aj;done)|(cases o<;>first|rfl|(simp[dR]at ay))
   rw[this]at ab;cases ab
  |some i=>obtain⟨ap,ae,aw,rfl⟩:=br;dsimp only at ap;rw[r8 hu]at ab;refine⟨i,x,aS,?_⟩;subst ap;exact Sz ay (ah.rep i) ab
 have vj:∀(i j:Nat) (x y:ad) (b:Nat),outs[i]?=some x->a' x (b8 gD i)=some b->outs[j]?=some y->a' y (b8 gD j)=some b->i=j:=by intro i j x y b aa ab ar aN;obtain⟨i1,cA,av,aI⟩:=SN aa ab;obtain⟨i2,db,f1,f2⟩:=SN ar aN;have:=ah.inj i1 i2 b aI f2;subst this;exact MR fP av f1
 refine ah.SF ax cY.val hD (fun j x o aa ab=>Iw ((nN y5).2 j x.1 o (by rw[dO,aa];rfl) ab)) (fun j i off d al ai=>?_) vj rfl (fun b=>iB) E4 an pB (fun j o aw=>?_) BX
 ·obtain⟨_,kQ,dv,aF,aP,_⟩:=(ah.rep j).Ef al;unfold slotsOf at ai;rw[vh]at ai;obtain⟨⟨x,q⟩,hm,br⟩:=ai;dsimp only at br;subst br;obtain⟨kj,eI⟩:=lh hm;obtain⟨u,hu,ap,_⟩:=cY.val kj _ eI;dsimp only at ap;have ba:=fm.1 kh _ hm;dsimp only at ba;rw[<-ap]at ba;exact zbn aF ba aP
 obtain⟨y,aS⟩:∃y,cC[j]?=some y:=⟨_,cn (by rw[hD];exact(ep.1 aw).1)⟩
 rcases cL.at_ j o y aw aS with⟨aF,_,a7⟩|⟨cs,bg,co,_,_,a7,rfl,dZ⟩
 ·rw[<-a7];have:=kT j o aF;refine this.bare ?_ (fun _ h=>h) (fun b _ h=>.inl h);have ay:=(nN y5).2 j y.1 o (by rw[dO,aS];rfl) aw;revert ay;generalize y.1=z;intro ay;cases z<;>cases o<;>first|rfl|(simp[dR]at ay)
 ·rw[a7];obtain⟨arr,t,a1,al,bl⟩:=kT j _ dZ;exact⟨bg,arr,t,rfl,a1,al,.inl bl⟩
def SO{s:ag}{xs:List (ad×Option Nat)}{i:Nat}{cs:List af}(h:ghost s xs=some (i,cs)):s i=.box cs:=by
 unfold ghost at h;split at h
 ·cases h
 ·split at h
  ·rename_i ap;simp only[bS,cc]at h;obtain⟨rfl,rfl⟩:=h;exact ap
  ·cases h
def MY(ah:Rel S0 w0 n s a w){f:Operand}{args:Array Operand}{d:Nat}{K:ag->Prop}(ao:iA P s (fW s f args.toList) (fun xs r outs=>d<n/\K (Ab.put (e6 s xs outs) d r.cP)))
  {o:Oper}(aw:∃ts,o.op=.call {callee:=.value f,args:=args,argTypes:=ts})(eu:o.dst=some d)(dV:S0.m<=d){bP:Act->World->Prop}{Q:Exit->Act->World->Prop}
  (b6:∀s' aZ w',Rel S0 w0 n s' aZ w'->K s'->bP aZ w'):o.wp P a w bP Q:=by
 obtain⟨ts,cF⟩:=aw;unfold iA at ao;split at ao
 ·rename_i pp g aQ ch;obtain⟨qF,IC,fP,sb⟩:=ao;obtain⟨caps,xs,p,q,gn,gP,aI,av,rfl,rfl⟩:∃caps xs p q gn,aG s f=(p,gn)/\jt s args.toList=(q,some xs)/\l6 s gn=some (g,caps)/\pp=(p/\q)/\aQ=xs++caps:=by
   unfold fW at ch;split at ch
   ·rename_i p gn q xs gP aI;split at ch
    ·rename_i bQ caps av;simp only[cc,bS]at ch;obtain⟨rfl,rfl,rfl⟩:=ch;exact⟨caps,xs,p,q,gn,gP,aI,av,rfl,rfl⟩
    ·simp at ch
   ·simp at ch
  obtain⟨kS,ak⟩:=qF;have oK:=ah.aG f (by rw[gP];exact kS);rw[gP]at oK;obtain⟨us,nM,gl,gA⟩:=SI ah oK av;obtain⟨pC,MZ⟩:=SC ah aI ak;have hm:args.map a.eval=(args.toList.map a.eval).toArray:=by apply qk;simp
  have fp:∀(j:Nat) (y:ad×Option Nat),(xs++caps)[j]?=some y->∃u,((args.toList.map a.eval).toArray++us)[j]?=some u/\oM S0 w0 s a w y u:=by
   intro j y ac;by_cases aq:j<xs.length
   ·rw[jr aq]at ac;obtain⟨u,hu,ai⟩:=MZ j y ac;refine⟨u,?_,ai⟩;rw[y4 (by simp[<-pC];exact aq)];simpa using hu
   ·rw[kb (by omega)]at ac;obtain⟨u,hu,ai⟩:=gA _ y ac;refine⟨u,?_,ai⟩;rw[Iu (by simp[<-pC];omega)];simpa[pC]using hu
  have b':((args.toList.map a.eval).toArray++us).size=(xs++caps).length:=by simp[pC,gl]
  have fin:r6 P g->(Calls P g ((args.toList.map a.eval).toArray++us) w fun e w'=>∃v s',e=.returned v/\K s'/\Rel S0 w0 n s' (a.put (some d) v) w')->o.wp P a w bP Q:=by
   rintro⟨fn,hL,fO,r7⟩ oJ;have cx:(execOp a.eval o).run P w=.ok (.enter g (args.map a.eval++us)) w:=by simp only[execOp,cF,resolve,nM,Deferred.ofValue,Sem.run_bind,Sem.run_pure,Result.andThen_ok,invoke,callFunc,run_program,hL,fO,r7,kg,h6];simp
   unfold Oper.wp;rw[cx];simp only[Oper.upon];rw[hm,eu];refine oJ.mono ?_;rintro e w' ⟨v,s',rfl,am,bM⟩;exact b6 _ _ _ bM am
  generalize ((args.toList.map a.eval).toArray++us)=vs at fp b' fin;generalize xs++caps=aQ at fp b' IC fP sb;cases M0:ghost s aQ with
  |none=>
   rw[M0]at sb;obtain⟨r,outs,gQ,ax,am⟩:=sb;have cY:BW S0 w0 s a w aQ vs (gr aQ aQ) vs:=⟨fp,by
    have aa:∀(L l:List (ad×Option Nat)),(gr L l).length=l.length:=fun L l=>by induction l<;>simp_all [gr]
    exact aa _ _,by omega,fun j y aS=>.inl ⟨by rw[y7,aS];rfl,rfl⟩⟩
   refine fin gQ.1 ((SM ah cY fP IC gQ ⟨rfl,fun j o y aa ab=>.inl ⟨aa,by rw[y7,ab];rfl,rfl⟩⟩ ⟨dV,ax⟩).mono ?_);rintro e w' ⟨v,rfl,bM⟩;exact⟨v,_,rfl,am,bM⟩
  |some q=>
   obtain⟨i,cs⟩:=q;have gp:=SO M0;rw[M0]at sb;obtain⟨b3,zbJ,r,outs,co,gQ,ax,am⟩:=sb;have bU:=ah.rep i;rw[gp]at bU;obtain⟨b,arr,t,g9,a1,al,bl⟩:=bU;have M1:=gQ b;have aa:∀(L l:List (ad×Option Nat)),(gr L l).length=l.length:=fun L l=>by induction l<;>simp_all [gr]
   have M2:∀(j:Nat) (y:ad×Option Nat),(aQ++[(ad.box cs,some i)])[j]?=some y->∃u,(vs.push (aJ a i))[j]?=some u/\oM S0 w0 s a w y u:=by
    intro j y ac;by_cases aq:j<aQ.length
    ·rw[jr aq]at ac;obtain⟨u,hu,ai⟩:=fp j y ac;exact⟨u,by rw[Array.getElem?_push_lt (by omega)];rw[qs (by omega)]at hu;exact hu,ai⟩
    ·rw[kb (by omega)]at ac;have yS:j-aQ.length=0:=by
      have:=(ep.1 ac).1;simp at this;omega
     rw[yS]at ac;simp only[Ew,bS]at ac;subst ac;refine⟨aJ a i,?_,gp,rfl,rfl,rfl⟩;rw[show j=vs.size by omega];simp
   have ju:∀(j:Nat) (y:ad×Option Nat),(aQ++[(ad.box cs,some i)])[j]?=some y->(j<aQ.length/\aQ[j]?=some y)\/(j=aQ.length/\y=(.box cs,some i)):=by
    intro j y ac;by_cases aq:j<aQ.length
    ·rw[jr aq]at ac;exact .inl ⟨aq,ac⟩
    ·rw[kb (by omega)]at ac;have yS:j-aQ.length=0:=by
      have:=(ep.1 ac).1;simp at this;omega
     rw[yS]at ac;simp only[Ew,bS]at ac;exact .inr ⟨by omega,ac.symm⟩
   have SP:∀(j:Nat) (y:ad×Option Nat),j<aQ.length->aQ[j]?=some y->(gr (aQ++[(ad.box cs,some i)]) aQ++[ad.cf b cs])[j]?=some (i' (aQ++[(ad.box cs,some i)]) y.1)/\b8 vs j=b8 (vs.push (aJ a i)) j:=by intro j y aq aS;refine⟨by rw[jr (by rw[aa];exact aq),y7,aS];rfl,?_⟩;unfold b8;rw[Array.getElem?_push_lt (by omega),qs (by omega)]
   have ID:(gr (aQ++[(ad.box cs,some i)]) aQ++[ad.cf b cs])[aQ.length]?=some (.cf b cs)/\b8 (vs.push (aJ a i)) aQ.length=.pointer (some ⟨b,0,none⟩):=by refine⟨by rw[kb (by rw[aa];omega),aa];simp,?_⟩;unfold b8;rw[show aQ.length=vs.size by omega];simp[g9]
   have cY:BW S0 w0 s a w (aQ++[(.box cs,some i)]) (vs.push (aJ a i)) (gr (aQ++[(.box cs,some i)]) aQ++[.cf b cs]) vs:=by
    refine⟨M2,by simp[aa],by simp;omega,fun j y aS=>?_⟩;rcases ju j y aS with⟨aF,aP⟩|⟨rfl,rfl⟩
    ·exact .inl (SP j y aF aP)
    ·exact .inr (.inl ⟨cs,b,rfl,ID.1,ID.2⟩)
   have qv:outs.length=aQ.length:=by have:=(nN M1.2.1).1;simp[aa]at this;omega
   have cL:SL (aQ++[(.box cs,some i)]) (vs.push (aJ a i)) (gr (aQ++[(.box cs,some i)]) aQ++[.cf b cs]) vs (outs++[.box co]) (outs++[.cf b co]):=by
    refine⟨by simp,fun j o y aw aS=>?_⟩;rcases ju j y aS with⟨aF,aP⟩|⟨rfl,rfl⟩
    ·rw[jr (by omega)]at aw;exact .inl ⟨by rw[jr (by omega)];exact aw,SP j y aF aP⟩
    ·rw[kb (by omega)]at aw;simp only[qv,Nat.sub_self,Ew,bS]at aw;exact .inr ⟨cs,b,co,rfl,ID.1,ID.2,aw.symm,by rw[kb (by omega)];simp[qv]⟩
   have zbK:ve (aQ++[(ad.box cs,some i)])=true:=by unfold ve at IC⊢;rw[tL,IC];simp[b3]
   refine fin M1.1 ((SM ah cY zbJ zbK M1 cL ⟨dV,ax⟩).mono ?_);rintro e w' ⟨v,rfl,bM⟩;exact⟨v,_,rfl,am,bM⟩
 ·exact ao.elim
end
end Go.Ab
namespace Go.Ab
open Go Go.RowKit
variable [bf]
section
variable {P:Program}{S0:Env}{w0 w:World}{n:Nat}{s:ag}{a:Act}
def xn{α:Type}(cs vs:List α)(o j:Nat)(h:o+vs.length<=cs.length) :
  (cl cs o vs)[j]?=if j<o then cs[j]? else if j<o+vs.length then vs[j-o]? else cs[j]?:=by
 simp only[cl,pg];rw[xc];simp only[d'];by_cases aa:j<o
 ·rw[aC (by omega),aC aa,jl,aC aa]
 ·rw[au (by omega),au aa,xc];by_cases ab:j<o+vs.length
  ·rw[aC (by omega),aC ab];congr 1;omega
  ·rw[au (by omega),au ab,h3];congr 1;omega
def zbL{α:Type}(f c:List α)(o size off:Nat)(h:o+size<=f.length)(ao:off+c.length<=size) :
  cl f o (cl ((f.drop o).take size) off c)=cl f (o+off) c:=by
 have al:((f.drop o).take size).length=size:=by rw[d',eo];omega
 apply tz;intro j;have fg:(cl ((f.drop o).take size) off c).length=size:=by rw[u' _ _ _ (by omega),al]
 rw[xn f _ o j (by omega),xn ((f.drop o).take size) c off (j-o) (by omega),xn f c (o+off) j (by omega),fg];have cY:((f.drop o).take size)[j-o]?=if j-o<size then f[o+(j-o)]? else none:=by rw[jl];split<;>simp
 rw[cY]
 repeat' split
 all_goals first|rfl|(exfalso;omega)|(congr 1;omega)
def SQ{α:Type}(f c:List α)(o m:Nat)(h:o+c.length<=m)(hm:m<=f.length):(cl f o c).take m=cl (f.take m) o c:=by
 apply tz;intro j;have al:(f.take m).length=m:=by rw[d'];omega
 rw[jl,xn _ _ _ _ (by omega),xn _ _ _ _ (by omega)];by_cases aa:j<m
 ·rw[aC aa];simp only[jl,aC aa]
 ·rw[au aa,au (by omega),au (by omega),jl,au aa]
def bZ.cells:bZ->Option Nat
 |.one=>some 1
 |.agg n=>some n
 |.bad=>none
def jU(P:Program)(s:ag)(t:TypeId)(addr x:Prop×ad):Prop×ag:=
 match addr,x,(tk P t).cells with
 |(p,.ptr i off),(q,.x bK),some m=>match s i with
  |.box cs=>(p/\q/\bK.cells.length=m/\off+m<=cs.length,match i_ cs off m with
   |false=>fun j=>if j=i then .box (cl cs off bK.cells)else s j
   |true=>fun j=>if j=i then .box (cl cs off bK.cells)else unlink s i off m j)
  |.cf b cs=>(p/\q/\bK.cells.length=m/\off+m<=cs.length,match i_ cs off m with
   |false=>fun j=>if j=i then .cf b (cl cs off bK.cells)else s j
   |true=>fun j=>if j=i then .cf b (cl cs off bK.cells)else unlink s i off m j)
  |_=>(False,s)
 |(p,.dX i k off),(q,.x bK),some m=>match s i with
  |.own e size xs=>(p/\q/\bK.cells.length=m/\k<xs.length/\off+m<=size,fun j=>if j=i then .own e size (xs.set k (cl (xs.getD k []) off bK.cells))else s j)
  |_=>(False,s)
 |_,_,_=>(False,s)
def E5{t:TypeId}{m:Nat}(h:(tk P t).cells=some m)(ap:∀i,P.info? t=some i->tk P t=.one->i.size=1):(sizeOf t).run P w=.ok m w:=by
 cases am:tk P t with
 |bad=>rw[am]at h;cases h
 |agg k=>
  rw[am]at h;injection h with h
  subst h;obtain⟨i,ai,b',_⟩:=Mf (w:=w) am;rw[run_sizeOf ai,b']
 |one=>
  rw[am]at h;injection h with h
  subst h;have:∃ty,P.underlying t=some ty:=by
   unfold tk at am;split at am<;>first|cases am|skip
   rename_i ty hu _ _ _ _;exact⟨ty,hu⟩
  obtain⟨ty,hu⟩:=this;obtain⟨i,ai⟩:=info_of_underlying hu;rw[run_sizeOf ai,ap i ai am]
def hS(P:Program)(t:TypeId):Bool:=
 match P.info? t,tk P t with
 |some i,.one=>i.size==1
 |_,_=>true
def E6{t:TypeId}(h:hS P t=true):∀i,P.info? t=some i->tk P t=.one->i.size=1:=by intro i ai am;unfold hS at h;rw[ai,am]at h;simpa using h
def E7(t:TypeId)(g o:Nat)(ty:TypeId)(cur:Array Value)(v:Value){m:Nat}(b':(sizeOf t).run P w=.ok m w)(hm:v.cells.size=m)
  {dl:Nat×Nat}(aB:w.heap[g]?=some (.cells cur ty dl))(hI:D' dl cur.size)(al:o+m<=cur.size)(aa:∀u∈v.cells.toList,u.oneCell'=true) :
  (Instr.storeAt t (.pointer (some ⟨g,o,none⟩)) v).run P w=.ok () (w.setRow g (cl cur.toList o v.cells.toList).toArray):=by
 have b3:=Bh P g o ty dl v.cells.toList 0 cur w aB hI (by simp;omega) aa;simp only[ti]at b3;simp only[Instr.storeAt,Instr.sureAddr,storeVar,Sem.run_bind,Sem.run_pure,Result.andThen_ok,b',hm,ne_eq,Bx,h6,b3,cl]
def BY(g:Nat)(cs:Array Value):w.grownBy (w.setRow g cs) (some g)/\(w.setRow g cs).heap.size=w.heap.size:=by refine⟨⟨rfl,rfl,rfl,by simp[World.setRow],fun k _ am=>setRow_other w g k cs (fun e=>am (by rw[e]))⟩,by simp[World.setRow]⟩
def M3(ah:Rel S0 w0 n s a w){t:TypeId}{x y:Prop×ad}{u v:Value}(aj:dM S0 w0 s a w x u)(aS:dM S0 w0 s a w y v)(ba:hS P t=true)(ak:(jU P s t x y).1) :
  ∃w',(Instr.storeAt t u v).run P w=.ok () w'/\Rel S0 w0 n (jU P s t x y).2 a w':=by
 obtain⟨p,x⟩:=x;obtain⟨q,y⟩:=y;unfold jU at ak⊢;split at ak
 ·rename_i i6 i off dQ bK m av aI b5;injection av with av sc;subst av;subst sc
  injection aI with aI vo;subst aI;subst vo
  split at ak
  ·rename_i cs ap;obtain⟨aa,ab,ar,aN⟩:=ak;have b':=E5 (P:=P) (w:=w) b5 (E6 ba);obtain⟨b,rfl,ae⟩:=aj aa;have bU:=cg.cells (aS ab);have ai:=ah.rep i;rw[ap]at ai ae;obtain⟨bg,arr,ty,aH,a1,pq,bl⟩:=ai;rw[aH]at ae;obtain rfl:bg=b:=by simpa[a']using ae
   have al:=pq;have fp:v.cells.size=m:=by have:=bU.1;rw[ar]at this;simpa using this
   have nI:arr.size=cs.length:=by have:=al.1;simpa using this
   refine⟨_,E7 t bg off ty arr v b' fp a1 (.inl rfl) (by omega) bU.xb,?_⟩;obtain⟨aB,sd⟩:=BY (w:=w) bg (cl arr.toList off v.cells.toList).toArray;have key:∀s1:ag,Rel S0 w0 n s1 a w->s1 i=.box cs->(∀c,bR S0 w0.heap.size w s1 (aJ a) c↔bR S0 w0.heap.size w s (aJ a) c)->(∀j o d,(s1 j).mC i o d->o<off\/off+m<=o) ->
     Rel S0 w0 n (fun j=>if j=i then .box (cl cs off bK.cells)else s1 j) a (w.setRow bg (cl arr.toList off v.cells.toList).toArray):=by
    intro s1 se iM i7 fk;refine se.write (r:=.box (cl cs off bK.cells)) (b:=bg) (by rw[iM,aH];rfl) aB sd (by rw[aH];rfl) rfl (by rw[iM];rfl) (by rw[iM];rfl) (by rw[iM];rfl) (fun s'=>?_) (fun j o d kQ al gc=>?_)
    ·have jR:∀c,bR S0 w0.heap.size w s1 (aJ a) c->(w.setRow bg (cl arr.toList off v.cells.toList).toArray).heap[c]?=w.heap[c]?:=by
      intro c ao;refine aB.block c ao.2.1 (fun e=>?_);injection e with e
      subst e;exact ao.2.2 i (by rw[iM,aH];rfl)
     refine⟨bg,_,ty,aH,setRow_heap w bg arr _ ty _ a1,?_,bl⟩;exact(pq.cl bU off).mono (fun b ae=>(i7 b).2 ae) (fun b ae=>jR b ((i7 b).2 ae))
    ·rw[iM]at gc;obtain rfl:cs=kQ:=by simpa[ad.fz]using gc
     have aw:=fk j o d al;have bC:∀{α:Type} (l c:List α),off+c.length<=l.length->c.length=m->(cl l off c)[o]?=l[o]?:=by
      intro α l c aa ab;rw[xn _ _ _ _ aa];rcases aw with aw|aw
      ·rw[aC aw]
      ·rw[au (by omega),au (by omega)]
     refine⟨⟨_,rfl,bC _ _ (by rw[ar];exact aN) ar⟩,?_⟩;rw[cell_of_row w bg o arr ty (0,0) a1,cell_of_row _ bg o _ ty (0,0) (setRow_heap w bg arr _ ty _ a1)];have:=bC arr.toList v.cells.toList (by simp[nI,fp];omega) (by simp[fp]);simpa using this
   cases l7:i_ cs off m with
   |false=>
    refine key s ah ap (fun _=>iB) (fun j o d al=>?_);obtain⟨_,kQ,dv,aF,aP,_⟩:=(ah.rep j).Ef al;rw[ap]at aF;obtain rfl:cs=kQ:=by simpa[ad.fz]using aF
    exact RJ l7 aP
   |true=>
    have gp:unlink s i off m i=.box cs:=by rw[jq (by rw[ap];rfl),ap]
    have bq:∀j,(s j).aM=true->unlink s i off m j=s j:=fun j=>jq;refine key _ (ah.forget (fun j=>hi s i off m j) (fun j k bY=>?_)) gp (fun c=>?_) (fun j o d al=>?_)
    ·have e:(s j).refs k=true:=by
      rcases hi s i off m j with e|e<;>rw[e]at bY
      ·exact bY
      ·cases bY
     exact bq k (ah.wf j k e)
    ·constructor
     ·rintro⟨aF,aP,a7⟩;refine⟨aF,aP,fun j ac=>a7 j ?_⟩;have aw:(s j).aM=true:=by
       cases h:(s j).aM with
       |true=>rfl
       |false=>rw[jm h]at ac;cases ac
      rw[bq j aw];exact ac
     ·rintro⟨aF,aP,a7⟩;refine⟨aF,aP,fun j ac=>a7 j ?_⟩;rcases hi s i off m j with e|e<;>rw[e]at ac
      ·exact ac
      ·cases ac
    ·rcases kJ o off with h|h
     ·exact .inl h
     ·rcases kJ o (off+m)with bE|bE
      ·exfalso;have ab:unlink s i off m j=.dead:=by
        unfold unlink;have:(s j).lk i off m=true:=by
         rcases hi s i off m j with e|e
         ·rw[e]at al;exact ad.Bn al h bE
         ·rw[e]at al;exact al.elim
        rw[this]
       rw[ab]at al;exact al.elim
      ·exact .inr bE
  ·rename_i b cs ap;obtain⟨aa,ab,ar,aN⟩:=ak;have b':=E5 (P:=P) (w:=w) b5 (E6 ba);obtain⟨bg,rfl,ae⟩:=aj aa;have bU:=cg.cells (aS ab);have ai:=ah.rep i;rw[ap]at ai ae;obtain⟨arr,ty,a1,al,bl⟩:=ai;obtain rfl:b=bg:=by simpa[a']using ae
   have fp:v.cells.size=m:=by have:=bU.1;rw[ar]at this;simpa using this
   have nI:arr.size=cs.length:=by have:=al.1;simpa using this
   refine⟨_,E7 t b off ty arr v b' fp a1 (.inl rfl) (by omega) bU.xb,?_⟩;obtain⟨aB,sd⟩:=BY (w:=w) b (cl arr.toList off v.cells.toList).toArray;have key:∀s1:ag,Rel S0 w0 n s1 a w->s1 i=.cf b cs->(∀c,bR S0 w0.heap.size w s1 (aJ a) c↔bR S0 w0.heap.size w s (aJ a) c)->(∀j o d,(s1 j).mC i o d->o<off\/off+m<=o) ->
     Rel S0 w0 n (fun j=>if j=i then .cf b (cl cs off bK.cells)else s1 j) a (w.setRow b (cl arr.toList off v.cells.toList).toArray):=by
    intro s1 se iM i7 fk;refine se.write (r:=.cf b (cl cs off bK.cells)) (b:=b) (by rw[iM];rfl) aB sd rfl rfl (by rw[iM];rfl) (by rw[iM];rfl) (by rw[iM];rfl) (fun s'=>?_) (fun j o d kQ al gc=>?_)
    ·have jR:∀c,bR S0 w0.heap.size w s1 (aJ a) c->(w.setRow b (cl arr.toList off v.cells.toList).toArray).heap[c]?=w.heap[c]?:=by
      intro c ao;refine aB.block c ao.2.1 (fun e=>?_);injection e with e
      subst e;exact ao.2.2 i (by rw[iM];rfl)
     refine⟨_,ty,setRow_heap w b arr _ ty _ a1,?_,bl⟩;exact(al.cl bU off).mono (fun b ae=>(i7 b).2 ae) (fun b ae=>jR b ((i7 b).2 ae))
    ·rw[iM]at gc;obtain rfl:cs=kQ:=by simpa[ad.fz]using gc
     have aw:=fk j o d al;have bC:∀{α:Type} (l c:List α),off+c.length<=l.length->c.length=m->(cl l off c)[o]?=l[o]?:=by
      intro α l c aa ab;rw[xn _ _ _ _ aa];rcases aw with aw|aw
      ·rw[aC aw]
      ·rw[au (by omega),au (by omega)]
     refine⟨⟨_,rfl,bC _ _ (by rw[ar];exact aN) ar⟩,?_⟩;rw[cell_of_row w b o arr ty (0,0) a1,cell_of_row _ b o _ ty (0,0) (setRow_heap w b arr _ ty _ a1)];have:=bC arr.toList v.cells.toList (by simp[nI,fp];omega) (by simp[fp]);simpa using this
   cases l7:i_ cs off m with
   |false=>
    refine key s ah ap (fun _=>iB) (fun j o d al=>?_);obtain⟨_,kQ,dv,aF,aP,_⟩:=(ah.rep j).Ef al;rw[ap]at aF;obtain rfl:cs=kQ:=by simpa[ad.fz]using aF
    exact RJ l7 aP
   |true=>
    have gp:unlink s i off m i=.cf b cs:=by rw[jq (by rw[ap];rfl),ap]
    have bq:∀j,(s j).aM=true->unlink s i off m j=s j:=fun j=>jq;refine key _ (ah.forget (fun j=>hi s i off m j) (fun j k bY=>?_)) gp (fun c=>?_) (fun j o d al=>?_)
    ·have e:(s j).refs k=true:=by
      rcases hi s i off m j with e|e<;>rw[e]at bY
      ·exact bY
      ·cases bY
     exact bq k (ah.wf j k e)
    ·constructor
     ·rintro⟨aF,aP,a7⟩;refine⟨aF,aP,fun j ac=>a7 j ?_⟩;have aw:(s j).aM=true:=by
       cases h:(s j).aM with
       |true=>rfl
       |false=>rw[jm h]at ac;cases ac
      rw[bq j aw];exact ac
     ·rintro⟨aF,aP,a7⟩;refine⟨aF,aP,fun j ac=>a7 j ?_⟩;rcases hi s i off m j with e|e<;>rw[e]at ac
      ·exact ac
      ·cases ac
    ·rcases kJ o off with h|h
     ·exact .inl h
     ·rcases kJ o (off+m)with bE|bE
      ·exfalso;have ab:unlink s i off m j=.dead:=by
        unfold unlink;have:(s j).lk i off m=true:=by
         rcases hi s i off m j with e|e
         ·rw[e]at al;exact ad.Bn al h bE
         ·rw[e]at al;exact al.elim
        rw[this]
       rw[ab]at al;exact al.elim
      ·exact .inr bE
  ·exact ak.elim
 ·rename_i i6 i k off dQ bK m av aI b5;injection av with av sc;subst av;subst sc
  injection aI with aI vo;subst aI;subst vo
  split at ak
  ·rename_i e size xs ap;obtain⟨aa,ab,ar,aN,bD⟩:=ak;have b':=E5 (P:=P) (w:=w) b5 (E6 ba);obtain⟨b,rfl,ae⟩:=aj aa;have bU:=cg.cells (aS ab);have ai:=ah.rep i;rw[ap]at ai ae;obtain⟨us,bq,al,fD,hm,cL⟩:=ai;have fp:v.cells.size=m:=by have:=bU.1;rw[ar]at this;simpa using this
   rcases bq.2 with⟨u5,_⟩|⟨g,cap,cur,aH,lb,⟨dl,a1,hI⟩,nl,fT,en,ge⟩
   ·rw[u5]at ae;simp[a',Value.ownBlock]at ae
   ·have et:a' (ad.own e size xs) (aJ a i)=some g:=by rw[aH];rfl
    rw[et]at ae;injection ae with ae
    subst ae;have gp:(s i).size=size:=by rw[ap];rfl
    have hQ:(xs.getD k []).length=size:=zak fD aN;have fH:k*size+size<=xs.length*size:=by have:(k+1)*size<=xs.length*size:=yJ _ aN;rw[j9]at this;omega
    have gA:xs.length*size<=cap*size:=yJ _ nl;refine⟨_,E7 t g _ e cur v b' fp a1 hI (by rw[gp];omega) bU.xb,?_⟩;obtain⟨aB,sd⟩:=BY (w:=w) g (cl cur.toList (k*(s i).size+off) v.cells.toList).toArray;refine ah.write (r:=.own e size (xs.set k (cl (xs.getD k []) off bK.cells))) (b:=g) (by rw[ap];exact et) aB sd (by rw[aH];rfl) rfl (by rw[ap];rfl) (by rw[ap];simp[ad.len]) (by rw[ap];rfl) (fun s'=>?_) (fun j o d kQ gk gc=>by rw[ap]at gc;cases gc);have jR:∀c,bR S0 w0.heap.size w s (aJ a) c->(w.setRow g (cl cur.toList (k*(s i).size+off) v.cells.toList).toArray).heap[c]?=w.heap[c]?:=by
     intro c ao;refine aB.block c ao.2.1 (fun e=>?_);injection e with e
     subst e;exact ao.2.2 i (by rw[ap];exact et)
    have M4:∀x∈xs.set k (cl (xs.getD k []) off bK.cells),x.length=size:=by
     intro x aj;rcases Iq aj with aj|aj
     ·exact fD x aj
     ·rw[aj,u' _ _ _ (by rw[hQ,ar];exact bD),hQ]
    have E0:(xs.set k (cl (xs.getD k []) off bK.cells)).flatten=cl xs.flatten (k*size+off) bK.cells:=by
     rw[Su fD aN (by rw[u' _ _ _ (by rw[hQ,ar];exact bD),hQ])];have eh:=w5 fD;have L6:(xs.flatten.drop (k*size)).take size=xs.getD k []:=by
      apply tz;intro j;by_cases ac:j<size
      ·rw[jl,aC ac,h3];exact L2 fD (c:=(xs.getD k [])[j]'(by omega)) (cn (by omega)) |>.trans (cn (by omega)).symm
      ·rw[lX (by simp;omega),lX (by omega)]
     rw[<-L6];exact zbL _ _ _ _ _ (by omega) (by omega)
    refine⟨cl us (k*size+off) v.cells.toList,⟨?_,.inr ⟨g,cap,_,by rw[List.length_set];exact aH,lb,⟨dl,setRow_heap w g cur _ e _ a1,by rw[lS,u' _ _ _ (by simp[fp];rw[gp];omega),iZ];exact hI⟩,by simpa using nl,fT,?_,?_⟩⟩,?_,M4,by simpa using hm,cL⟩
    ·have gl:us.length=xs.length*size:=by have:=bq.1;exact this
     rw[u' _ _ _ (by simp[fp,gl];omega)];simpa using bq.1
    ·simp only[lS];rw[u' _ _ _ (by simp[fp];rw[gp];omega)];simpa using en
    ·rw[gp];simp only[List.length_set];rw[<-ge];exact SQ _ _ _ _ (by simp[fp];omega) (by simp[en];omega)
    ·rw[E0];exact(al.cl bU _).mono (fun _ h=>h) jR
  ·exact ak.elim
 ·exact ak.elim
def jv(s:ag)(addr x:Prop×ad):Option (Prop×Nat×Nat×Nat):=
 match x with
 |(q,.alias d)=>match addr with
  |(p,.ptr i off)=>match s bF with
   |.res l=>match l.contains (i,off)with
    |true=>some (p/\q,i,off,d)
    |false=>none
   |_=>none
  |_=>none
 |_=>none
def ad.tight:ad->Bool
 |.box _=>true
 |.own _ _ _=>true
 |.mp _ _ _=>true
 |_=>false
def ad.y9{a:ad}(h:a.tight=true):a.aM=true:=by cases a<;>first|rfl|cases h
def fr(P:Program)(s:ag)(t:TypeId)(i off d:Nat):Prop×ag:=
 match tk P t,s i with
 |.one,.box cs=>(off<cs.length/\(s d).tight=true/\(s (b0 i off)).free=true,fun j=>if j=i then .box (cs.set off .any)else if j=b0 i off then .link i off d else unlink s i off 1 j)
 |.one,.cf b cs=>(off<cs.length/\(s d).tight=true/\(s (b0 i off)).free=true,fun j=>if j=i then .cf b (cs.set off .any)else if j=b0 i off then .link i off d else unlink s i off 1 j)
 |_,_=>(False,s)
def E8{s:ag}{addr x:Prop×ad}{p:Prop}{i off d:Nat}(h:jv s addr x=some (p,i,off,d)):∃dm q,addr=(dm,.ptr i off)/\x=(q,.alias d)/\p=(dm/\q):=by
 unfold jv at h;split at h
 ·split at h
  ·split at h
   ·split at h
    ·simp only[bS,cc]at h;obtain⟨rfl,rfl,rfl,rfl⟩:=h;exact⟨_,_,rfl,rfl,rfl⟩
    ·cases h
   ·cases h
  ·cases h
 ·cases h
def Rel.E9{k i off d b:Nat}{cs:List af}(ah:Rel S0 w0 n s a w)(am:(s k).free=true)(ax:(s d).aM=true)(ap:(s i).fz=some cs)(ao:cs[off]?=some .any)(ae:a' (s i) (aJ a i)=some b)(aH:w.cell? ⟨b,off,none⟩=some ((s d).valOf (aJ a d))) :
  Rel S0 w0 n (fun j=>if j=k then .link i off d else s j) a w:=by
 have ff:∀j,(s j).aM=true->j≠k:=by rintro j h rfl;rw[wP am]at h;cases h
 have cb:∀j c,a' (if j=k then ad.link i off d else s j) (aJ a j)=some c->j≠k/\a' (s j) (aJ a j)=some c:=by
  intro j c ac;by_cases bY:j=k
  ·rw[aC bY]at ac;cases ac
  ·rw[au bY]at ac;exact⟨bY,ac⟩
 have da:∀c,bR S0 w0.heap.size w s (aJ a) c->bR S0 w0.heap.size w (fun j=>if j=k then .link i off d else s j) (aJ a) c:=fun c ao=>⟨ao.1,ao.2.1,fun j ac=>ao.2.2 j (cb j c ac).2⟩
 have vp:=ff i (ad.mB ap);refine⟨ah.defers,ah.size,ah.below,ah.lt,fun j=>?_,fun j m c ac hm=>ah.inj j m c (cb j c ac).2 (cb m c hm).2,fun j ac=>?_,fun j m gq=>?_,ah.lU⟩
 ·by_cases bY:j=k
  ·subst bY;simp only[aC];refine⟨?_,cs,b,?_,ao,?_,by simp only[au (ff d ax)];exact aH⟩
   ·simp only[au (ff d ax)];exact ax
   ·simp only[au vp];exact ap
   ·simp only[au vp];exact ae
  ·simp only[au bY];refine(ah.rep j).mono da (fun _ _=>rfl) (fun _ _=>rfl) (fun m hm=>?_) (fun bB Bj bt cs' bg al cO _=>⟨⟨cs',by simp only[au (ff bB (ad.mB cO))];exact cO,rfl⟩,rfl⟩);have IE:=ff m ((ah.rep j).leads hm);simp only[au IE];exact⟨trivial,fun h=>⟨h,trivial,trivial,trivial⟩,fun c ao=>ao⟩
 ·by_cases bY:j=k
  ·simp only[aC bY];rfl
  ·simp only[au bY];exact ah.out j ac
 ·by_cases bY:j=k
  ·simp only[aC bY]at gq;simp only[ad.refs,eO,fB]at gq;rcases gq with rfl|rfl
   ·simp only[au vp];exact ad.mB ap
   ·simp only[au (ff _ ax)];exact ax
  ·simp only[au bY]at gq;have:=ah.wf j m gq;simp only[au (ff m this)];exact this
def IF{α:Type}(l:List α)(o:Nat)(x:α)(h:o<l.length):l.set o x=cl l o [x]:=by
 apply tz;intro j;rw[xn _ _ _ _ (by simp;omega),w2];simp only[rT];by_cases aa:o=j
 ·subst aa;simp[h]
 ·rw[au aa];by_cases ab:j<o
  ·rw[aC ab]
  ·rw[au ab,au (by omega)]
def zbM(ah:Rel S0 w0 n s a w){t:TypeId}{p q:Prop}{i off d:Nat}{u v:Value}(aj:dM S0 w0 s a w (p,.ptr i off) u)(aS:dM S0 w0 s a w (q,.alias d) v)(ba:hS P t=true)(xo:p/\q)(ak:(fr P s t i off d).1) :
  ∃w',(Instr.storeAt t u v).run P w=.ok () w'/\Rel S0 w0 n (fr P s t i off d).2 a w':=by
 unfold fr at ak⊢;split at ak
 ·rename_i cs am ap;obtain⟨aq,sf,ja⟩:=ak;have y_:=ad.y9 sf;have fV:∀u,(s d).valOf u=u:=fun u=>by cases h9:s d<;>rw[h9]at sf<;>first|rfl|cases sf
  obtain⟨aH,_⟩:=aS xo.2;rw[fV]at aH;have lV:v.oneCell'=true:=by
   have h:=ah.rep d;rw[aH];cases h9:s d<;>rw[h9]at h sf<;>first|(cases sf;done)|skip
   ·obtain⟨b,arr,ty,e,_⟩:=h;rw[e];rfl
   ·obtain⟨us,bq,_⟩:=h;rcases bq.2 with⟨e,_⟩|⟨g,cap,cur,e,_⟩<;>rw[e]<;>rfl
   ·obtain⟨b,ents,e,_⟩:=h;rw[e];rfl
  obtain⟨w',aa,ab⟩:=M3 (P:=P) ah (t:=t) (x:=(p,.ptr i off)) (y:=(True,.x (.one .any))) (u:=u) (v:=v) aj (fun _=>bn.any v lV) ba (by unfold jU;simp only[am,bZ.cells,ap];exact⟨xo.1,trivial,rfl,by omega⟩)
  refine⟨w',aa,?_⟩;obtain⟨b,yX,lj⟩:=aj xo.1;have l0:=ah.rep i;rw[ap]at l0 lj;obtain⟨bg,arr,ty,BZ,a1,al,bl⟩:=l0;rw[BZ]at lj;obtain rfl:bg=b:=by simpa[a']using lj
  have nI:arr.size=cs.length:=by have:=al.1;simpa using this
  have vq:v.cells=#[v]:=by cases v<;>first|rfl|(simp[Value.oneCell']at lV)
  have hw:w'=w.setRow bg (cl arr.toList off [v]).toArray:=by
   have b':=E5 (P:=P) (w:=w) (t:=t) (m:=1) (by rw[am];rfl) (E6 ba);have:=E7 (P:=P) t bg off ty arr v b' (by rw[vq];rfl) a1 (.inl rfl) (by omega) (by rw[vq];simpa using lV);rw[yX,this]at aa;injection aa with _ aa
   rw[<-aa,vq]
  have gN:w'.cell? ⟨bg,off,none⟩=some v:=by rw[hw,cell_of_row _ bg off _ ty (0,0) (setRow_heap w bg arr _ ty _ a1)];rw[<-IF _ _ _ (by simpa[nI]using aq)];simp[nI,aq]
  have l8:cl cs off [af.any]=cs.set off .any:=(IF cs off .any aq).symm;have pD:∀j,(s j).aM=true->unlink s i off 1 j=s j:=fun j=>jq;have l9:d≠i\/d=i:=by omega
  have ar:Rel S0 w0 n (fun j=>if j=i then .box (cs.set off .any)else unlink s i off 1 j) a w':=by
   unfold jU at ab;simp only[am,bZ.cells,ap,az.cells,l8]at ab;cases l7:i_ cs off 1 with
   |true=>rw[l7]at ab;exact ab
   |false=>
    rw[l7]at ab;refine ab.forget (fun j=>?_) (fun j m gq=>?_)
    ·by_cases ac:j=i
     ·simp only[aC ac];exact .inl trivial
     ·simp only[au ac];exact hi s i off 1 j
    ·by_cases hm:m=i
     ·simp only[aC hm]
     ·simp only[au hm];refine pD m ?_;by_cases ac:j=i
      ·simp only[aC ac]at gq;cases gq
      ·simp only[au ac]at gq;rcases hi s i off 1 j with e|e<;>rw[e]at gq
       ·exact ah.wf j m gq
       ·cases gq
  have E_:b0 i off≠i:=by intro e;rw[e,ap]at ja;cases ja
  have aN:=ar.E9 (k:=b0 i off) (i:=i) (off:=off) (d:=d) (b:=bg) (cs:=cs.set off .any) (by
    simp only[au E_];rcases hi s i off 1 (b0 i off)with e|e<;>rw[e]
    ·exact ja
    ·rfl) (by
    by_cases ax:d=i
    ·simp only[aC ax];rfl
    ·simp only[au ax];rw[pD d y_];exact y_) (by simp[ad.fz]) (by simp[aq]) (by simp only[aC];rw[BZ];rfl) (by
    rw[gN,aH];by_cases ax:d=i
    ·subst ax;simp only[aC];rfl
    ·simp only[au ax];rw[pD d y_,fV])
  have e:(fun j=>if j=b0 i off then ad.link i off d else if j=i then ad.box (cs.set off .any)else unlink s i off 1 j)=(fun j=>if j=i then .box (cs.set off .any)else if j=b0 i off then .link i off d else unlink s i off 1 j):=by
   funext j;by_cases ac:j=i
   ·subst ac;simp[E_.symm]
   ·simp[ac]
  rw[e]at aN;exact aN
 ·rename_i bg cs am ap;obtain⟨aq,sf,ja⟩:=ak;have y_:=ad.y9 sf;have fV:∀u,(s d).valOf u=u:=fun u=>by cases h9:s d<;>rw[h9]at sf<;>first|rfl|cases sf
  obtain⟨aH,_⟩:=aS xo.2;rw[fV]at aH;have lV:v.oneCell'=true:=by
   have h:=ah.rep d;rw[aH];cases h9:s d<;>rw[h9]at h sf<;>first|(cases sf;done)|skip
   ·obtain⟨b,arr,ty,e,_⟩:=h;rw[e];rfl
   ·obtain⟨us,bq,_⟩:=h;rcases bq.2 with⟨e,_⟩|⟨g,cap,cur,e,_⟩<;>rw[e]<;>rfl
   ·obtain⟨b,ents,e,_⟩:=h;rw[e];rfl
  obtain⟨w',aa,ab⟩:=M3 (P:=P) ah (t:=t) (x:=(p,.ptr i off)) (y:=(True,.x (.one .any))) (u:=u) (v:=v) aj (fun _=>bn.any v lV) ba (by unfold jU;simp only[am,bZ.cells,ap];exact⟨xo.1,trivial,rfl,by omega⟩)
  refine⟨w',aa,?_⟩;obtain⟨b,yX,lj⟩:=aj xo.1;have l0:=ah.rep i;rw[ap]at l0 lj;obtain⟨arr,ty,a1,al,bl⟩:=l0;obtain rfl:bg=b:=by simpa[a']using lj
  have nI:arr.size=cs.length:=by have:=al.1;simpa using this
  have vq:v.cells=#[v]:=by cases v<;>first|rfl|(simp[Value.oneCell']at lV)
  have hw:w'=w.setRow bg (cl arr.toList off [v]).toArray:=by
   have b':=E5 (P:=P) (w:=w) (t:=t) (m:=1) (by rw[am];rfl) (E6 ba);have:=E7 (P:=P) t bg off ty arr v b' (by rw[vq];rfl) a1 (.inl rfl) (by omega) (by rw[vq];simpa using lV);rw[yX,this]at aa;injection aa with _ aa
   rw[<-aa,vq]
  have gN:w'.cell? ⟨bg,off,none⟩=some v:=by rw[hw,cell_of_row _ bg off _ ty (0,0) (setRow_heap w bg arr _ ty _ a1)];rw[<-IF _ _ _ (by simpa[nI]using aq)];simp[nI,aq]
  have l8:cl cs off [af.any]=cs.set off .any:=(IF cs off .any aq).symm;have pD:∀j,(s j).aM=true->unlink s i off 1 j=s j:=fun j=>jq;have l9:d≠i\/d=i:=by omega
  have ar:Rel S0 w0 n (fun j=>if j=i then .cf bg (cs.set off .any)else unlink s i off 1 j) a w':=by
   unfold jU at ab;simp only[am,bZ.cells,ap,az.cells,l8]at ab;cases l7:i_ cs off 1 with
   |true=>rw[l7]at ab;exact ab
   |false=>
    rw[l7]at ab;refine ab.forget (fun j=>?_) (fun j m gq=>?_)
    ·by_cases ac:j=i
     ·simp only[aC ac];exact .inl trivial
     ·simp only[au ac];exact hi s i off 1 j
    ·by_cases hm:m=i
     ·simp only[aC hm]
     ·simp only[au hm];refine pD m ?_;by_cases ac:j=i
      ·simp only[aC ac]at gq;cases gq
      ·simp only[au ac]at gq;rcases hi s i off 1 j with e|e<;>rw[e]at gq
       ·exact ah.wf j m gq
       ·cases gq
  have E_:b0 i off≠i:=by intro e;rw[e,ap]at ja;cases ja
  have aN:=ar.E9 (k:=b0 i off) (i:=i) (off:=off) (d:=d) (b:=bg) (cs:=cs.set off .any) (by
    simp only[au E_];rcases hi s i off 1 (b0 i off)with e|e<;>rw[e]
    ·exact ja
    ·rfl) (by
    by_cases ax:d=i
    ·simp only[aC ax];rfl
    ·simp only[au ax];rw[pD d y_];exact y_) (by simp[ad.fz]) (by simp[aq]) (by simp only[aC];rfl) (by
    rw[gN,aH];by_cases ax:d=i
    ·subst ax;simp only[aC];rfl
    ·simp only[au ax];rw[pD d y_,fV])
  have e:(fun j=>if j=b0 i off then ad.link i off d else if j=i then ad.cf bg (cs.set off .any)else unlink s i off 1 j)=(fun j=>if j=i then .cf bg (cs.set off .any)else if j=b0 i off then .link i off d else unlink s i off 1 j):=by
   funext j;by_cases ac:j=i
   ·subst ac;simp[E_.symm]
   ·simp[ac]
  rw[e]at aN;exact aN
 ·exact ak.elim
end
end Go.Ab
namespace Go.Ab
open Go Go.RowKit
variable [bf]
def c6(g:Nat->Value):Nat->List (Nat×Nat×List (List af))->List ad
 |_,[]=>[]
 |k,(e,z,xs)::r=>.cT (g k) e z xs::c6 g (k+1) r
def IG(g:Nat->Value):∀(l:List (Nat×Nat×List (List af))) (k:Nat),(c6 g k l).length=l.length
 |[],_=>rfl
 |_::r,k=>by simp[c6,IG g r]
def IH(g:Nat->Value):∀(l:List (Nat×Nat×List (List af))) (k j:Nat),(c6 g k l)[j]?=(l[j]?).map fun x=>ad.cT (g (k+j)) x.1 x.2.1 x.2.2
 |[],_,j=>by simp[c6]
 |(e,z,xs)::r,k,0=>by simp[c6]
 |(e,z,xs)::r,k,j+1=>by simp only[c6,BN];rw[IH g r (k+1) j];congr 2;funext x;rw[show k+1+j=k+(j+1) by omega]
def II(w:World)(s:ag)(tm:Nat->Value)(cG:List (Nat×Nat))(base:Nat):Prop:=
 ∀(k i off:Nat),cG[k]?=some (i,off)->(s (base+k)).aM=true/\∃cs b,(s i).fz=some cs/\cs[off]?=some .any/\a' (s i) (tm i)=some b/\w.cell? ⟨b,off,none⟩=some ((s (base+k)).valOf (tm (base+k)))
def vr(P:Program)(f:FuncId)(args:List ad)(e7:List (Nat×Nat×List (List af)))(cG:List (Nat×Nat))(r:bw)(outs:List ad)(go:List (Nat×Nat×List (List af))):Prop:=
 r6 P f/\gd args outs=true/\e7.length=cG.length/\go.length=cG.length/\(∀v,r.ha v=none)/\∀(w:World) (E:Env) (vs:Array Value) (g:Nat->Value),ph E w->BP w E (args++c6 g 0 e7) vs->II w (eb (args++c6 g 0 e7)) (b8 vs) cG args.length ->
  Calls P f vs w fun e w'=>∃v bQ,e=.returned v/\Kept E.eA w w'/\iy w' (h' w w' E (outs++c6 bQ 0 go) vs) r v /\
   (∀(j:Nat) (o:ad),(outs++c6 bQ 0 go)[j]?=some o->cV w' (h' w w' E (outs++c6 bQ 0 go) vs) (fun b=>E.eA b\/w.heap.size<=b) xg xh o (b8 vs j)) /\
   (∀(i j:Nat) (x y:ad) (b:Nat),(outs++c6 bQ 0 go)[i]?=some x->a' x (b8 vs i)=some b->(outs++c6 bQ 0 go)[j]?=some y->a' y (b8 vs j)=some b->i=j) /\
   II w' (eb (outs++c6 bQ 0 go)) (b8 vs) cG args.length
def oP:ad->Option (Nat×Nat×List (List af))
 |.own e z xs=>some (e,z,xs)
 |.cT _ e z xs=>some (e,z,xs)
 |_=>none
def xp(i off:Nat):ad->Option Nat
 |.link bB o d=>if bB=i/\o=off then some d else none
 |_=>none
def SR{i off d:Nat}{a:ad}(h:xp i off a=some d):a=.link i off d:=by
 unfold xp at h;split at h
 ·split at h
  ·rename_i e;injection h with h;rw[e.1,e.2,h]
  ·cases h
 ·cases h
def pE(s:ag)(i:Nat):Nat->List af->List (Nat×Nat×Nat)
 |_,[]=>[]
 |off,c::r=>match c.isAny with
  |true=>match xp i off (s (b0 i off))with
   |some d=>(i,off,d)::pE s i (off+1) r
   |none=>pE s i (off+1) r
  |false=>pE s i (off+1) r
def nP(s:ag):List (ad×Option Nat)->List (Nat×Nat×Nat)
 |[]=>[]
 |(x,some i)::r=>match x.fz with
  |some cs=>pE s i 0 cs++nP s r
  |none=>nP s r
 |(_,none)::r=>nP s r
def IJ{s:ag}{i:Nat}:∀{cs:List af} {off:Nat} {l:Nat×Nat×Nat},l∈pE s i off cs->l.1=i/\s (b0 l.1 l.2.1)=.link l.1 l.2.1 l.2.2
 |[],_,l,h=>by simp[pE]at h
 |c::r,off,l,h=>by
  unfold pE at h;split at h
  ·split at h
   ·rename_i d ax;rcases eT.1 h with rfl|h
    ·exact⟨rfl,SR ax⟩
    ·exact IJ h
   ·exact IJ h
  ·exact IJ h
def E'{s:ag}:∀{xs:List (ad×Option Nat)} {l:Nat×Nat×Nat},l∈nP s xs->s (b0 l.1 l.2.1)=.link l.1 l.2.1 l.2.2
 |[],l,h=>by simp[nP]at h
 |(x,some i)::r,l,h=>by
  simp only[nP]at h;split at h
  ·rcases gv.1 h with h|h
   ·exact(IJ h).2
   ·exact E' h
  ·exact E' h
 |(_,none)::r,l,h=>E' (xs:=r) h
def qJ(s:ag):List (Nat×Nat×Nat)->Option (List (Nat×Nat×List (List af)))
 |[]=>some []
 |l::r=>match oP (s l.2.2),qJ s r with
  |some x,some xs=>some (x::xs)
  |_,_=>none
def SS{s:ag}:∀{L:List (Nat×Nat×Nat)} {e7:List (Nat×Nat×List (List af))},qJ s L=some e7->e7.length=L.length/\∀(k:Nat) (l:Nat×Nat×Nat),L[k]?=some l->∃x,e7[k]?=some x/\oP (s l.2.2)=some x
 |[],e7,h=>by simp only[qJ,bS]at h;subst h;exact⟨rfl,fun k l h=>by simp at h⟩
 |l::r,e7,h=>by
  unfold qJ at h;split at h
  ·rename_i x xs av aI;injection h with h
   subst h;obtain⟨aF,aP⟩:=SS aI;refine⟨by simp[aF],fun k kd am=>?_⟩;cases k with
   |zero=>simp at am;subst am;exact⟨x,rfl,av⟩
   |succ k=>simp at am;exact aP k kd am
  ·cases h
def qK(xs:List (ad×Option Nat)):List (Nat×Nat×Nat)->Option (List (Nat×Nat))
 |[]=>some []
 |l::r=>match posOf l.1 xs 0,qK xs r with
  |some p,some pF=>some ((p,l.2.1)::pF)
  |_,_=>none
def SU{xs:List (ad×Option Nat)}:∀{L:List (Nat×Nat×Nat)} {cG:List (Nat×Nat)},qK xs L=some cG->cG.length=L.length/\∀(k:Nat) (l:Nat×Nat×Nat),L[k]?=some l->∃p x,cG[k]?=some (p,l.2.1)/\xs[p]?=some (x,some l.1)
 |[],cG,h=>by simp only[qK,bS]at h;subst h;exact⟨rfl,fun k l h=>by simp at h⟩
 |l::r,cG,h=>by
  unfold qK at h;split at h
  ·rename_i p pF av aI;injection h with h
   subst h;obtain⟨aF,aP⟩:=SU aI;refine⟨by simp[aF],fun k kd am=>?_⟩;cases k with
   |zero=>simp at am;subst am;obtain⟨_,x,aj⟩:=EZ av;exact⟨p,x,rfl,by simpa using aj⟩
   |succ k=>simp at am;exact aP k kd am
  ·cases h
def eR(s:ag)(L:List (Nat×Nat×Nat)):List (ad×Option Nat):=L.map fun l=>(s l.2.2,some l.2.2)
def gR(s:ag):List (ad×Option Nat)->ag
 |[]=>s
 |(x,some i)::r=>match x.fz with
  |some cs=>gR (unlink s i 0 cs.length) r
  |none=>gR s r
 |(_,none)::r=>gR s r
def IK:∀(xs:List (ad×Option Nat)) (s:ag),(∀j,gR s xs j=s j\/(gR s xs j=.dead/\(s j).aM=false)) /\
  (∀(x:ad) (i:Nat) (cs:List af) (j off d:Nat),(x,some i)∈xs->x.fz=some cs->(gR s xs j).mC i off d->off<cs.length->False)
 |[],s=>⟨fun j=>.inl rfl,fun x i cs j off d h=>by simp at h⟩
 |(x,none)::r,s=>by
  obtain⟨aa,ab⟩:=IK r s;refine⟨aa,fun bH i cs j off d hm=>?_⟩;rcases eT.1 hm with h|h
  ·cases h
  ·exact ab bH i cs j off d h
 |(x,some i)::r,s=>by
  simp only[gR];cases aj:x.fz with
  |some cs=>
   dsimp only;obtain⟨aa,ab⟩:=IK r (unlink s i 0 cs.length);have aW:∀j,unlink s i 0 cs.length j=s j\/(unlink s i 0 cs.length j=.dead/\(s j).aM=false):=by
    intro j;cases aw:(s j).aM with
    |true=>exact .inl (jq aw)
    |false=>rcases hi s i 0 cs.length j with e|e
            ·exact .inl e
            ·exact .inr ⟨e,rfl⟩
   refine⟨fun j=>?_,fun bH bB cs' j off d hm ae al aq=>?_⟩
   ·rcases aa j with e|⟨e,aw⟩
    ·rcases aW j with bV|⟨bV,fX⟩
     ·exact .inl (by rw[e,bV])
     ·exact .inr ⟨by rw[e,bV],fX⟩
    ·refine .inr ⟨e,?_⟩;rcases aW j with bV|⟨bV,fX⟩
     ·rw[<-bV];exact aw
     ·exact fX
   ·rcases eT.1 hm with h|h
    ·injection h with ar aN;injection aN with aN
     subst ar;subst aN;rw[aj]at ae;injection ae with ae
     subst ae;have fk:(unlink s bB 0 cs.length j).mC bB off d:=by
      rcases aa j with e|⟨e,_⟩
      ·rw[<-e];exact al
      ·rw[e]at al;exact al.elim
     have:unlink s bB 0 cs.length j=.dead:=by
      have ap:(s j).mC bB off d:=by
       rcases hi s bB 0 cs.length j with e|e
       ·rw[<-e];exact fk
       ·rw[e]at fk;exact fk.elim
      unfold unlink;rw[ad.Bn ap (cd _) (by omega)]
     rw[this]at fk;exact fk.elim
    ·exact ab bH bB cs' j off d h ae al aq
  |none=>
   dsimp only;obtain⟨aa,ab⟩:=IK r s;refine⟨aa,fun bH bB cs j off d hm ae=>?_⟩;rcases eT.1 hm with h|h
   ·injection h with ar aN;subst ar
    rw[aj]at ae;cases ae
   ·exact ab bH bB cs j off d h ae
def oQ(s:ag):List (Nat×Nat×Nat)->ag
 |[]=>s
 |l::r=>oQ (fun j=>if j=b0 l.1 l.2.1 then .link l.1 l.2.1 l.2.2 else s j) r
def B0(P:Program)(d:Nat)(s:ag)(g:FuncId)(xs:List (ad×Option Nat))(L:List (Nat×Nat×Nat))(K:ag->Prop):Option (List (Nat×Nat×List (List af)))->Option (List (Nat×Nat))->Prop
 |some e7,some cG=>(slotsOf (xs++eR s L)).Nodup/\(slotsOf (xs++eR s L)).contains d=false/\∃r outs go,vr P g (gr (xs++eR s L) xs) e7 cG r outs go /\
   ∀bQ,K (oQ (Ab.put (e6 (gR s xs) (xs++eR s L) (outs++c6 bQ 0 go)) d r.cP) L)
 |_,_=>False
def B1(P:Program)(d:Nat)(s:ag)(g:FuncId)(xs:List (ad×Option Nat))(K:ag->Prop)(L:List (Nat×Nat×Nat)):Prop:=B0 P d s g xs L K (qJ s L) (qK xs L)
def y'(P:Program)(n d:Nat)(s:ag)(c:Prop×Option (FuncId×List (ad×Option Nat)))(K:ag->Prop):Prop:=
 match c with
 |(p,some (g,xs))=>p/\d<n/\d<bF/\B1 P d s g xs K (nP s xs)
 |_=>False
def SV(P:Program)(n:Nat)(o:Oper)(s:ag)(K:ag->Prop):Prop:=
 o.guard=none/\match o.op,o.dst with
 |.call c,some d=>match c.callee with
  |.value f=>y' P n d s (fW s f c.args.toList) K
  |_=>False
 |_,_=>False
section
variable {P:Program}{S0:Env}{w0 w:World}{n:Nat}{s:ag}{a:Act}
def B2{x:ad}{e z:Nat}{xs:List (List af)}(h:oP x=some (e,z,xs)):x=.own e z xs\/∃g,x=.cT g e z xs:=by
 cases x<;>first|(cases h;done)|skip
 ·simp only[oP,bS,cc]at h;obtain⟨rfl,rfl,rfl⟩:=h;exact .inl rfl
 ·simp only[oP,bS,cc]at h;obtain⟨rfl,rfl,rfl⟩:=h;exact .inr ⟨_,rfl⟩
def SW{x:ad}{p:Nat×Nat×List (List af)}(h:oP x=some p):x.bare=true/\x.aM=true:=by obtain⟨e,z,xs⟩:=p;rcases B2 h with rfl|⟨g,rfl⟩<;>exact⟨rfl,rfl⟩
def Rel.oQ:∀(L:List (Nat×Nat×Nat)) {s:ag},Rel S0 w0 n s a w ->
  (∀l∈L,(s (b0 l.1 l.2.1)).free=true/\(s l.2.2).aM=true/\∃cs b,(s l.1).fz=some cs/\cs[l.2.1]?=some .any/\a' (s l.1) (aJ a l.1)=some b/\w.cell? ⟨b,l.2.1,none⟩=some ((s l.2.2).valOf (aJ a l.2.2)))->Rel S0 w0 n (Ab.oQ s L) a w
 |[],_,ah,_=>ah
 |l::r,s,ah,h=>by
  obtain⟨aa,ab,cs,b,ar,aN,bD,b9⟩:=h l (by simp);have ff:∀j,(s j).aM=true->j≠b0 l.1 l.2.1:=by rintro j ac rfl;rw[wP aa]at ac;cases ac
  refine Rel.oQ r (ah.E9 aa ab ar aN bD b9) (fun kd du=>?_);obtain⟨aF,aP,cs',bg,a7,b1,dZ,jV⟩:=h kd (by simp[du]);simp only[au (ff _ aP),au (ff _ (ad.mB a7))];refine⟨?_,aP,cs',bg,a7,b1,dZ,jV⟩;split
  ·rfl
  ·exact aF
def zbN(ah:Rel S0 w0 n s a w){g:FuncId}{xs:List (ad×Option Nat)}{vs:Array Value}{d:Nat}{L:List (Nat×Nat×Nat)}{e7:List (Nat×Nat×List (List af))}{cG:List (Nat×Nat)}{r:bw}{outs:List ad}{go:List (Nat×Nat×List (List af))}(ax:S0.m<=d/\d<n)(M5:d<bF)
  (fp:∀(j:Nat) (y:ad×Option Nat),xs[j]?=some y->∃u,vs[j]?=some u/\oM S0 w0 s a w y u)(b':vs.size=xs.length)(jn:L=nP s xs)(M6:qJ s L=some e7)(fk:qK xs L=some cG)
  (fP:(slotsOf (xs++eR s L)).Nodup)(hdn:(slotsOf (xs++eR s L)).contains d=false)(gQ:vr P g (gr (xs++eR s L) xs) e7 cG r outs go) :
  Calls P g vs w fun e w'=>∃v bQ,e=.returned v/\Rel S0 w0 n (Ab.oQ (Ab.put (e6 (gR s xs) (xs++eR s L) (outs++c6 bQ 0 go)) d r.cP) L) (a.put (some d) v) w':=by
 obtain⟨_,eF,Fa,tM,pB,oJ⟩:=gQ;obtain⟨zbO,Fb⟩:=SS M6;obtain⟨ST,zbP⟩:=SU fk;have zbQ:xs.length=outs.length:=by rw[<-(nN eF).1,vm]
 obtain⟨vl,MU⟩:=IK xs s;have pD:∀j,(s j).aM=true->gR s xs j=s j:=by
  intro j ac;rcases vl j with e|⟨_,e⟩
  ·exact e
  ·rw[e]at ac;cases ac
 have IL:Rel S0 w0 n (gR s xs) a w:=by
  refine ah.forget (fun j=>?_) (fun j k bY=>?_)
  ·rcases vl j with e|⟨e,_⟩
   ·exact .inl e
   ·exact .inr e
  ·refine pD k ?_;rcases vl j with e|⟨e,_⟩<;>rw[e]at bY
   ·exact ah.wf j k bY
   ·cases bY
 have Fc:∀j b,a' (gR s xs j) (aJ a j)=some b↔a' (s j) (aJ a j)=some b:=by
  intro j b;rcases vl j with e|⟨e,aw⟩
  ·rw[e]
  ·rw[e,jm aw];simp[a']
 have SX:∀b,bR S0 w0.heap.size w s (aJ a) b->bR S0 w0.heap.size w (gR s xs) (aJ a) b:=fun b ae=>⟨ae.1,ae.2.1,fun j ac=>ae.2.2 j ((Fc j b).1 ac)⟩
 have zbR:∀{y:ad×Option Nat} {u:Value},oM S0 w0 s a w y u->oM S0 w0 (gR s xs) a w y u:=by
  rintro⟨y,q⟩ u ai;cases q with
  |some i=>obtain⟨aa,ab,ar,aN⟩:=ai;dsimp only at aa;exact⟨by rw[pD i (by rw[aa];exact ar)];exact aa,ab,ar,aN⟩
  |none=>
   obtain⟨aa,ab⟩:=ai;refine⟨aa,cV.mono ab SX (fun _ _=>rfl) (fun _ _=>rfl) (fun i ai=>?_) (fun i off d cs b al ap _=>?_)⟩
   ·refine⟨rfl,fun aw=>by rw[pD i aw];exact⟨aw,rfl,rfl,rfl⟩,fun b ae=>(Fc i b).2 ae⟩
   ·exact⟨⟨cs,by rw[pD i (ad.mB ap)];exact ap,rfl⟩,rfl⟩
 have bq:∀{k:Nat} {l:Nat×Nat×Nat},L[k]?=some l->(s l.2.2).aM=true/\(s l.2.2).bare=true:=by intro k l am;obtain⟨x,_,ab⟩:=Fb k l am;exact⟨(SW ab).2,(SW ab).1⟩
 let gD:Array Value:=vs++(L.map fun l=>aJ a l.2.2).toArray
 have IM:∀j,j<xs.length->gD[j]?=vs[j]?:=fun j ac=>y4 (by omega);have SY:∀k,gD[xs.length+k]?=(L[k]?).map fun l=>aJ a l.2.2:=by
  intro k;show (vs++(L.map fun l=>aJ a l.2.2).toArray)[xs.length+k]?=_
  rw[Iu (by omega),show xs.length+k-vs.size=k by omega];simp
 have SZ:∀j,j<xs.length->(xs++eR s L)[j]?=xs[j]?:=fun j ac=>jr ac;have S1:∀k,(xs++eR s L)[xs.length+k]?=(L[k]?).map fun l=>(s l.2.2,some l.2.2):=by intro k;rw[kb (by omega),show xs.length+k-xs.length=k by omega];simp[eR]
 have ju:∀(j:Nat) (y:ad×Option Nat),(xs++eR s L)[j]?=some y->(j<xs.length/\xs[j]?=some y)\/∃k l,j=xs.length+k/\L[k]?=some l/\y=(s l.2.2,some l.2.2):=by
  intro j y ac;by_cases aq:j<xs.length
  ·rw[SZ j aq]at ac;exact .inl ⟨aq,ac⟩
  ·obtain⟨k,rfl⟩:∃k,j=xs.length+k:=⟨j-xs.length,by omega⟩
   rw[S1]at ac;cases al:L[k]? with
   |none=>rw[al]at ac;cases ac
   |some l=>
    rw[al]at ac;injection ac with ac
    exact .inr ⟨k,l,rfl,al,ac.symm⟩
 have fV:∀(j:Nat) (y:ad×Option Nat),(xs++eR s L)[j]?=some y->∃u,gD[j]?=some u/\oM S0 w0 s a w y u:=by
  intro j y ac;rcases ju j y ac with⟨aq,h⟩|⟨k,l,rfl,al,rfl⟩
  ·obtain⟨u,hu,ai⟩:=fp j y h;exact⟨u,by rw[IM j aq];exact hu,ai⟩
  ·refine⟨aJ a l.2.2,by rw[SY,al];rfl,rfl,(bq al).2,(bq al).1,rfl⟩
 let G:Nat->Value:=fun k=>match L[k]? with
  |some l=>(s l.2.2).valOf (aJ a l.2.2)
  |none=>undef
 have dB:∀{k:Nat} {l:Nat×Nat×Nat},L[k]?=some l->G k=(s l.2.2).valOf (aJ a l.2.2):=by
  intro k l am;show (match L[k]? with|some l=>(s l.2.2).valOf (aJ a l.2.2)|none=>undef)=_
  rw[am]
 let A:List ad:=gr (xs++eR s L) xs++c6 G 0 e7
 have Fd:∀j,j<xs.length->A[j]?=(xs[j]?).map fun y=>i' (xs++eR s L) y.1:=fun j ac=>by show (gr (xs++eR s L) xs++c6 G 0 e7)[j]?=_;rw[jr (by rw[vm];exact ac),y7]
 have za:∀k,A[xs.length+k]?=(e7[k]?).map fun x=>ad.cT (G k) x.1 x.2.1 x.2.2:=by
  intro k;show (gr (xs++eR s L) xs++c6 G 0 e7)[xs.length+k]?=_
  rw[kb (by rw[vm];omega),vm,show xs.length+k-xs.length=k by omega,IH,f_]
 have zbS:BW S0 w0 s a w (xs++eR s L) gD A vs:=by
  refine⟨fV,?_,?_,fun j y ac=>?_⟩
  ·show (gr (xs++eR s L) xs++c6 G 0 e7).length=_;simp[vm,IG,zbO,eR]
  ·simp only[eE];omega
  ·rcases ju j y ac with⟨aq,h⟩|⟨k,l,rfl,al,rfl⟩
   ·refine .inl ⟨by rw[Fd j aq,h];rfl,?_⟩;unfold b8;rw[IM j aq]
   ·obtain⟨⟨e,z,aQ⟩,aa,ab⟩:=Fb k l al;refine .inr (.inr ⟨G k,e,z,aQ,B2 ab,by rw[za,aa];rfl,?_⟩);rw[dB al];unfold b8;rw[SY,al];rfl
 let E:Env:=⟨bR S0 w0.heap.size w s (aJ a),fun b=>∃i,i∈slotsOf (xs++eR s L)/\a' (s i) (aJ a i)=some b,0,fun _=>undef⟩
 have fE:ph E w:=by
  refine⟨fun b ae=>ae.2.1,fun b ⟨i,_,ai⟩=>((ah.rep i).gi ai).2,fun b ae ⟨i,_,ai⟩=>ae.2.2 i ai,ah.lt.Bk ah.below,fun b ae ⟨i,_,ai⟩=>?_⟩;rcases ((ah.rep i).gi ai).1 with h|h
  ·have:=bf.lt ah.lt.wR ae;omega
  ·exact ah.lt.wS b ae h
 have zbT:BP w E A vs:=zbS.rep ah fP rfl (fun b=>iB);have S2:∀{k:Nat} {l:Nat×Nat×Nat},L[k]?=some l->∃cs b p x,(s l.1).fz=some cs/\cs[l.2.1]?=some .any/\a' (s l.1) (aJ a l.1)=some b/\w.cell? ⟨b,l.2.1,none⟩=some ((s l.2.2).valOf (aJ a l.2.2))/\cG[k]?=some (p,l.2.1)/\xs[p]?=some (x,some l.1)/\p<xs.length/\s l.1=x/\x.bare=true/\vs[p]?=some (aJ a l.1):=by intro k l am;have ap:=E' (s:=s) (xs:=xs) (l:=l) (by rw[<-jn];exact iq am);have bU:=ah.rep (b0 l.1 l.2.1);rw[ap]at bU;obtain⟨_,cs,b,aa,ab,ar,aN⟩:=bU;obtain⟨p,x,bD,b9⟩:=zbP k l am;obtain⟨u,dw,d8,hN,_,lY⟩:=fp p _ b9;exact⟨cs,b,p,x,aa,ab,ar,aN,bD,b9,(ep.1 b9).1,d8,hN,by rw[dw,lY]⟩
 have zbU:∀{x:ad} {Z:List (ad×Option Nat)},x.bare=true->i' Z x=x:=by intro x Z aj;cases x<;>first|rfl|(simp[ad.bare]at aj)
 have zbV:∀(k i off:Nat),cG[k]?=some (i,off)->∃l,L[k]?=some l:=fun k i off h=>⟨_,cn (by rw[<-ST];exact(ep.1 h).1)⟩
 have zbW:II w (eb A) (b8 vs) cG (gr (xs++eR s L) xs).length:=by
  rw[vm];intro k i off am;obtain⟨l,al⟩:=zbV k i off am;obtain⟨cs,b,p,x,aa,ab,ar,aN,bD,b9,dw,d8,hN,lY⟩:=S2 al;rw[am]at bD;simp only[bS,cc]at bD;obtain⟨rfl,rfl⟩:=bD;obtain⟨⟨e,z,aQ⟩,g1,g2⟩:=Fb k l al;have gt:eb A i=s l.1:=by unfold eb;rw[Fd i dw,b9];simp[zbU hN,d8]
  have pG:eb A (xs.length+k)=.cT (G k) e z aQ:=by unfold eb;rw[za,g1];rfl
  refine⟨by rw[pG];rfl,cs,b,by rw[gt];exact aa,ab,?_,?_⟩
  ·rw[gt,r8 lY];exact ar
  ·rw[pG,aN,<-dB al];rfl
 refine(oJ w E vs G fE zbT zbW).mono ?_;rintro e w' ⟨v,bQ,rfl,E4,an,kT,vj,zbX⟩;refine⟨v,bQ,rfl,?_⟩;have IN:∀j,j<xs.length->(outs++c6 bQ 0 go)[j]?=outs[j]?:=fun j ac=>jr (by omega);have zb:∀k,(outs++c6 bQ 0 go)[xs.length+k]?=(go[k]?).map fun x=>ad.cT (bQ k) x.1 x.2.1 x.2.2:=by intro k;rw[kb (by omega),show xs.length+k-outs.length=k by omega,IH,f_]
 have hD:(xs++eR s L).length=(outs++c6 bQ 0 go).length:=by simp[IG,eR,tM,ST,zbQ]
 have M7:∀(j:Nat) (x:ad×Option Nat) (o:ad),(xs++eR s L)[j]?=some x->(outs++c6 bQ 0 go)[j]?=some o->l5 x.1 o=true:=by
  intro j x o aa ab;rcases ju j x aa with⟨aq,h⟩|⟨k,l,rfl,al,rfl⟩
  ·rw[IN j aq]at ab;exact Iw (SH ((nN eF).2 j _ o (by rw[y7,h];rfl) ab))
  ·rw[zb]at ab;cases oR:go[k]? with
   |none=>rw[oR]at ab;cases ab
   |some q=>
    rw[oR]at ab;injection ab with ab
    subst ab;obtain⟨⟨e,z,aQ⟩,_,g2⟩:=Fb k l al;dsimp only;rcases B2 g2 with av|⟨_,av⟩<;>rw[av]<;>rfl
 have M8:∀{j:Nat} {x:ad} {i:Nat},(xs++eR s L)[j]?=some (x,some i)->gR s xs i=x/\x.bare=true/\x.aM=true/\s i=x:=by intro j x i h;obtain⟨u,hu,ap,ae,aw,_⟩:=fV j _ h;dsimp only at ap ae aw;exact⟨by rw[pD i (by rw[ap];exact aw)];exact ap,ae,aw,ap⟩
 have BX:mQ (gR s xs) (e6 (gR s xs) (xs++eR s L) (outs++c6 bQ 0 go)) (dC (xs++eR s L) (outs++c6 bQ 0 go)):=by refine EW _ _ _ IL.wf fP hD (fun j x i o aa ab=>?_);obtain⟨av,aI,b5,_⟩:=M8 aa;rw[av];have ay:=M7 j _ o aa ab;refine⟨ay,b5,?_⟩;cases x<;>cases o<;>first|rfl|(simp[l5,dR]at ay)
 have mS:∀(j:Nat) (o:ad),(outs++c6 bQ 0 go)[j]?=some o->∀b,a' o (b8 gD j)=some b↔a' o (b8 vs j)=some b:=by
  intro j o h b;by_cases aq:j<xs.length
  ·have:b8 gD j=b8 vs j:=by unfold b8;rw[IM j aq]
   rw[this]
  ·obtain⟨k,rfl⟩:∃k,j=xs.length+k:=⟨j-xs.length,by omega⟩
   rw[zb]at h;cases oR:go[k]? with
   |none=>rw[oR]at h;cases h
   |some q=>rw[oR]at h;injection h with h;subst h;exact iB
 have MX:h' w w' E (outs++c6 bQ 0 go) vs=h' w w' E (outs++c6 bQ 0 go) gD:=by
  funext b;have:r9 (outs++c6 bQ 0 go) vs b↔r9 (outs++c6 bQ 0 go) gD b:=
   ⟨fun ⟨j,o,aa,ab⟩=>⟨j,o,aa,(mS j o aa b).2 ab⟩,fun ⟨j,o,aa,ab⟩=>⟨j,o,aa,(mS j o aa b).1 ab⟩⟩
  simp only[h',this]
 rw[MX]at an kT;have oN:E.rd=bR S0 w0.heap.size w (gR s xs) (aJ a):=by funext b;exact propext ⟨SX b,fun ae=>⟨ae.1,ae.2.1,fun j ac=>ae.2.2 j ((Fc j b).2 ac)⟩⟩
 have qH:∀b,E.eA b↔∃i,i∈slotsOf (xs++eR s L)/\a' (gR s xs i) (aJ a i)=some b:=
  fun b=>⟨fun ⟨i,aa,ab⟩=>⟨i,aa,(Fc i b).2 ab⟩,fun ⟨i,aa,ab⟩=>⟨i,aa,(Fc i b).1 ab⟩⟩
 have kh:∀(j i off d:Nat),(gR s xs j).mC i off d->i∈slotsOf (xs++eR s L)->False:=by
  intro j i off bt al ai;obtain⟨_,cs,b,aF,aP,_⟩:=(IL.rep j).Ef al;unfold slotsOf at ai;rw[vh]at ai;obtain⟨⟨x,q⟩,hm,br⟩:=ai;dsimp only at br;subst br;obtain⟨kj,eI⟩:=lh hm;obtain⟨av,aI,b5,eH⟩:=M8 eI;rw[av]at aF;rcases ju kj _ eI with⟨aq,h⟩|⟨k,l,rfl,du,e⟩
  ·exact MU x i cs j off bt (iq h) aF al (ep.1 aP).1
  ·injection e with dd iN;injection iN with iN
   obtain⟨⟨e,z,aQ⟩,_,g2⟩:=Fb k l du;rw[dd]at aF;rcases B2 g2 with av|⟨_,av⟩<;>rw[av]at aF<;>cases aF
 have cZ:∀(j:Nat) (o:ad),(outs++c6 bQ 0 go)[j]?=some o->cV w' (fun b=>h' w w' E (outs++c6 bQ 0 go) gD b/\r.ha v≠some b) (fun b=>E.eA b\/w.heap.size<=b) xg xh o (b8 gD j):=by
  intro j o h;have aa:=kT j o h;have zbY:o.bare=true:=by
   obtain⟨y,aS⟩:∃y,(xs++eR s L)[j]?=some y:=⟨_,cn (by rw[hD];exact(ep.1 h).1)⟩
   have ay:=M7 j y o aS h;obtain⟨y,q⟩:=y;dsimp only at ay;cases y<;>cases o<;>first|rfl|(simp[l5,dR]at ay)
  have ab:cV w' (fun b=>h' w w' E (outs++c6 bQ 0 go) gD b/\r.ha v≠some b) (fun b=>E.eA b\/w.heap.size<=b) xg xh o (b8 vs j):=
   aa.bare zbY (fun b ae=>⟨ae,by rw[pB];simp⟩) (fun b _ h=>h)
  by_cases aq:j<xs.length
  ·have:b8 gD j=b8 vs j:=by unfold b8;rw[IM j aq]
   rw[this];exact ab
  ·obtain⟨k,rfl⟩:∃k,j=xs.length+k:=⟨j-xs.length,by omega⟩
   rw[zb]at h;cases oR:go[k]? with
   |none=>rw[oR]at h;cases h
   |some q=>rw[oR]at h;injection h with h;subst h;exact ab
 have zbZ:=IL.SF (E:=E) (vs:=gD) (r:=r) (v:=v) ax (fun j y ac=>let ⟨u,hu,ai⟩:=fV j y ac;⟨u,hu,zbR ai⟩) hD M7 kh
  (fun i j x y b aa ab ar aN=>vj i j x y b aa ((mS i x aa b).1 ab) ar ((mS j y ar b).1 aN)) oN qH E4 an (fun b ae=>by rw[pB]at ae;cases ae) cZ BX
 refine Rel.oQ L zbZ (fun l al=>?_);obtain⟨k,am⟩:=lh al;obtain⟨cs,b,p,x,aa,ab,ar,aN,bD,b9,dw,d8,hN,lY⟩:=S2 am;obtain⟨m1,cs',bg,m2,m3,m4,m5⟩:=zbX k p l.2.1 bD;rw[vm]at m1 m5;have hyp:(xs++eR s L)[p]?=some (x,some l.1):=by rw[SZ p dw];exact b9
 have M9:(xs++eR s L)[xs.length+k]?=some (s l.2.2,some l.2.2):=by rw[S1,am];rfl
 obtain⟨gz,gw⟩:∃o,(outs++c6 bQ 0 go)[p]?=some o:=⟨_,cn (by rw[<-hD];exact(ep.1 hyp).1)⟩
 obtain⟨e4,gS⟩:∃o,(outs++c6 bQ 0 go)[xs.length+k]?=some o:=⟨_,cn (by rw[<-hD];exact(ep.1 M9).1)⟩
 have gt:eb (outs++c6 bQ 0 go) p=gz:=by unfold eb;rw[gw];rfl
 have pG:eb (outs++c6 bQ 0 go) (xs.length+k)=e4:=by unfold eb;rw[gS];rfl
 have iM:=BX.new _ _ (Ix hyp gw);have gc:=BX.new _ _ (Ix M9 gS);have bC:∀{j:Nat} {y:ad} {i:Nat},(xs++eR s L)[j]?=some (y,some i)->i≠d:=by
  rintro j y i h rfl;have:=xj h;have ao:(slotsOf (xs++eR s L)).contains i=true:=by simpa using this
  rw[ao]at hdn;cases hdn
 have S3:=bC hyp;have zzIO:=bC M9;have zca:gz.aM=true:=by rw[<-gt];exact ad.mB m2
 have S4:e4.aM=true:=by rw[<-pG];exact m1
 have hk:Ab.put (e6 (gR s xs) (xs++eR s L) (outs++c6 bQ 0 go)) d r.cP l.1=gz:=by rw[mD S3 (by rw[iM];exact zca),iM]
 have fN:Ab.put (e6 (gR s xs) (xs++eR s L) (outs++c6 bQ 0 go)) d r.cP l.2.2=e4:=by rw[mD zzIO (by rw[gc];exact S4),gc]
 have nv:d<a.tmps.size:=by rw[ah.size];exact ax.2
 have g9:=yK a d v nv;rw[gt]at m2 m4;rw[pG]at m5;rw[hk,fN];have ja:∀{t:ag},(t (b0 l.1 l.2.1)).free=true->(Ab.put t d r.cP (b0 l.1 l.2.1)).free=true:=by
  intro t ba;have tD:b0 l.1 l.2.1≠d:=by unfold b0;unfold bF at M5;omega
  rcases ou (s:=t) (v:=r.cP) tD with e|⟨_,_,e⟩
  ·rw[e];exact ba
  ·rw[e];rfl
 refine⟨ja ?_,S4,cs',bg,m2,m3,?_,?_⟩
 ·have fg:=E' (s:=s) (xs:=xs) (l:=l) (by rw[<-jn];exact al);have BS:∀o,(b0 l.1 l.2.1,o)∉dC (xs++eR s L) (outs++c6 bQ 0 go):=by
   intro o aw;obtain⟨j,y,av,_⟩:=vg aw;obtain⟨_,_,aI,b5⟩:=M8 av;rw[fg]at b5;rw[<-b5]at aI;cases aI
  rcases BX.j8 _ BS with e|⟨e,_⟩
  ·rw[e];rcases vl (b0 l.1 l.2.1)with bV|⟨bV,_⟩
   ·rw[bV,fg];rfl
   ·rw[bV];rfl
  ·rw[e];rfl
 ·rw[g9,au S3];rw[r8 lY]at m4;exact m4
 ·rw[m5];rw[zb]at gS;cases oR:go[k]? with
  |none=>rw[oR]at gS;cases gS
  |some q=>rw[oR]at gS;injection gS with gS;subst gS;rfl
def zcb(ah:Rel S0 w0 n s a w)(o:Oper)(dV:∀d,o.dst=some d->S0.m<=d){K:ag->Prop}(h:SV P n o s K){bP:Act->World->Prop}{Q:Exit->Act->World->Prop}
  (b6:∀s' aZ w',Rel S0 w0 n s' aZ w'->K s'->bP aZ w'):o.wp P a w bP Q:=by
 obtain⟨tN,h⟩:=h;split at h
 ·rename_i c d cF eu;split at h
  ·rename_i f S5;unfold y' at h;split at h
   ·rename_i pp g aQ ch;obtain⟨qF,hdn,M5,h⟩:=h;obtain⟨caps,xs,p,q,gn,gP,aI,av,rfl,rfl⟩:∃caps xs p q gn,aG s f=(p,gn)/\jt s c.args.toList=(q,some xs)/\l6 s gn=some (g,caps)/\pp=(p/\q)/\aQ=xs++caps:=by
     unfold fW at ch;split at ch
     ·rename_i p gn q xs gP aI;split at ch
      ·rename_i bQ caps av;simp only[cc,bS]at ch;obtain⟨rfl,rfl,rfl⟩:=ch;exact⟨caps,xs,p,q,gn,gP,aI,av,rfl,rfl⟩
      ·simp at ch
     ·simp at ch
    obtain⟨kS,ak⟩:=qF;have oK:=ah.aG f (by rw[gP];exact kS);rw[gP]at oK;obtain⟨us,nM,gl,gA⟩:=SI ah oK av;obtain⟨pC,MZ⟩:=SC ah aI ak;have hm:c.args.map a.eval=(c.args.toList.map a.eval).toArray:=by apply qk;simp
    have fp:∀(j:Nat) (y:ad×Option Nat),(xs++caps)[j]?=some y->∃u,((c.args.toList.map a.eval).toArray++us)[j]?=some u/\oM S0 w0 s a w y u:=by
     intro j y ac;by_cases aq:j<xs.length
     ·rw[jr aq]at ac;obtain⟨u,hu,ai⟩:=MZ j y ac;refine⟨u,?_,ai⟩;rw[y4 (by simp[<-pC];exact aq)];simpa using hu
     ·rw[kb (by omega)]at ac;obtain⟨u,hu,ai⟩:=gA _ y ac;refine⟨u,?_,ai⟩;rw[Iu (by simp[<-pC];omega)];simpa[pC]using hu
    have b':((c.args.toList.map a.eval).toArray++us).size=(xs++caps).length:=by simp[pC,gl]
    unfold B1 B0 at h;split at h
    ·rename_i e7 cG M6 fk;obtain⟨fP,sg,r,outs,go,gQ,am⟩:=h;have oJ:=zbN (P:=P) ah ⟨dV d eu,hdn⟩ M5 fp b' rfl M6 fk fP sg gQ;obtain⟨fn,hL,fO,r7⟩:=gQ.1;have cx:(execOp a.eval o).run P w=.ok (.enter g (c.args.map a.eval++us)) w:=by
      obtain⟨callee,args,ts⟩:=c;dsimp only at S5;subst S5;simp only[execOp,cF,resolve,nM,Deferred.ofValue,Sem.run_bind,Sem.run_pure,Result.andThen_ok,invoke,callFunc,run_program,hL,fO,r7,kg,h6];simp
     unfold Oper.wp;rw[cx];simp only[Oper.upon];rw[hm,eu];refine oJ.mono ?_;rintro e w' ⟨v,bQ,rfl,bM⟩;exact b6 _ _ _ bM (am bQ)
    ·exact h.elim
   ·exact h.elim
  ·exact h.elim
 ·exact h.elim
end
end Go.Ab
namespace Go.Ab
open Go Go.RowKit
variable [bf]
section
variable {P:Program}{S0:Env}{w0 w:World}{n:Nat}{s:ag}{a:Act}
def zcc(base:Nat)(t ty e:TypeId)(i:TypeInfo)(size:Nat)(ba:P.underlying t=some (.slice e))(ai:P.info? e=some i)
  (v:Value)(n:Nat)(xs:List Value)(bq:w.h0 base e size v n xs)(c:Nat):(Builtin.append_ #[t,t] ty #[v,.slice none 0 c]).run P w=.ok v w:=by
 rcases bq.2 with⟨rfl,rfl⟩|⟨g,cap,cur,rfl,_,_,nl,_⟩
 ·simp[Builtin.append_,run_underlying ba,sizeOf,typeInfo,ai,Builtin.lenOf,Builtin.firstCells]
 ·simp[Builtin.append_,run_underlying ba,sizeOf,typeInfo,ai,Builtin.lenOf,Builtin.firstCells,nl,storeCells]
def mT(P:Program)(e:TypeId):Option Nat:=(P.info? e).map (·.bytes)
def gx(s:ag):ad->Option (Option Nat×Option TypeId×Nat×List (List af))
 |.x (.one .nil)=>some (none,none,0,[])
 |.alias i=>match s i with
  |.own e size xs=>some (some i,some e,size,xs)
  |.cT _ e size xs=>some (some i,some e,size,xs)
  |_=>none
 |.view i _ len true=>match s i with
  |.own e size xs=>some (some i,some e,size,xs.take len)
  |_=>none
 |_=>none
def IP:ad->Option Int
 |.x (.one (.int _ n))=>some n
 |_=>none
def tO(P:Program)(s:ag)(t t':TypeId)(x y:Prop×ad):Prop×ag×ad:=
 match ix P t with
 |some (e,size,dH)=>
  match mT P e,gx s x.2,hy s size y.2 with
  |some bytes,some (some i,some bV,dU,xs),some aQ=>(x.1/\y.1/\t=t'/\bV=e/\dU=size/\(xs.length+aQ.length)*bytes<=140737488355328/\xs.length+aQ.length<=maxLen,put s i .dead,.own e size (xs++aQ))
  |some bytes,some (none,_,_,_),some aQ=>(x.1/\y.1/\t=t'/\aQ.length*bytes<=140737488355328/\aQ.length<=maxLen,s,.own e size aQ)
  |some bytes,some (none,_,_,_),none=>match IP y.2 with
   |some k=>(x.1/\y.1/\(ov P t').isSome=true/\0<k/\k*bytes<=140737488355328/\k<=maxLen,s,.own e size (List.replicate k.toNat dH))
   |none=>(False,s,.dead)
  |_,_,_=>(False,s,.dead)
 |none=>(False,s,.dead)
def S6{t e:TypeId}{size:Nat}{dH:List af}(h:ix P t=some (e,size,dH)):∃i z,P.underlying t=some (.slice e)/\P.info? e=some i/\i.zero=some z/\i.size=size/\0<size/\z.cells.size=size:=by
 unfold ix at h;split at h
 ·rename_i bV dU b_;split at h
  ·rename_i z aY;split at h
   ·rename_i hD;injection h with h
    simp only[cc]at h;obtain⟨rfl,rfl,rfl⟩:=h;obtain⟨i,hu,ai,ap,ak⟩:=oz b_;unfold zeroOf at aY;rw[ai]at aY;simp only at aY;split at aY
    ·rename_i Ia M2;split at aY
     ·injection aY with aY;subst aY
      exact⟨i,Ia,hu,ai,M2,ap,ak,by simpa using hD⟩
     ·cases aY
    ·cases aY
   ·cases h
  ·cases h
 ·cases h
def S7{t ty e:TypeId}{size bytes:Nat}{dH:List af}(b_:ix P t=some (e,size,dH))(ae:mT P e=some bytes){v:Value}{n:Nat}{xs:List Value}{base:Nat}
  (bq:w.h0 base e size v n xs){b:Option Addr}{m c:Nat}{us:List Value}(gl:us.length=m*size)(hM:b=none->m=0)(gN:∀bT,b=some bT->∀j u,us[j]?=some u->w.cell? (bT.add j)=some u)
  (aa:∀u∈us,u.oneCell'=true)(oo:n+m<=maxLen)(Eb:(n+m)*bytes<=140737488355328)(rH:base<=w.heap.size) :
  ∃cz w',(Builtin.append_ #[t,t] ty #[v,.slice b m c]).run P w=.ok cz w'/\w'.h0 base e size cz (n+m) (xs++us)/\w.grownBy w' v.ownBlock/\(cz.ownBlock=v.ownBlock\/cz.ownBlock=some w.heap.size):=by
 obtain⟨i,z,hu,ai,aY,ap,ke,pf⟩:=S6 b_;have rI:i.bytes=bytes:=by unfold mT at ae;rw[ai]at ae;simpa using ae
 cases b with
 |none=>obtain rfl:=hM rfl;have lr:us=[]:=ld (by simpa using gl);subst lr;exact⟨v,w,zcc base t ty e i size hu ai v n xs bq c,by simpa using bq,World.grownBy.refl w _,.inl rfl⟩
 |some bT=>obtain⟨cz,w',cx,ab,ar,bD⟩:=ZG (P:=P) w base t ty e i z size bytes hu ai aY ap rI pf ke v n xs bq bT m c us gl (gN bT rfl) aa oo Eb rH;exact⟨cz,w',cx,ab,ar,bD⟩
def zcd{t t' ty e:TypeId}{size bytes:Nat}{dH:List af}(b_:ix P t=some (e,size,dH))(ae:mT P e=some bytes)(am:(ov P t').isSome=true)(k:IntKind)(m:Nat)(aW:0<m)(dw:m<=maxLen)(b9:m*bytes<=140737488355328) :
  ∃v w' us,(Builtin.append_ #[t,t'] ty #[.slice none 0 0,.int k m]).run P w=.ok v w'/\w'.h0 0 e size v (List.replicate m dH).length us/\(∀S,cj w S (List.replicate m dH).flatten us)/\(∀x∈List.replicate m dH,x.length=size)/\w.grownBy w' none/\v.ownBlock=some w.heap.size:=by
 obtain⟨i,z,hu,ai,aY,ap,ke,pf⟩:=S6 b_;obtain⟨bB,h7,_,eN,_,_,qu,bU,hD⟩:=ES (w:=w) b_;have IQ:h7=z:=by
  have:(zeroValue e).run P w=.ok z w:=by simp[zeroValue,typeInfo,ai,aY]
  rw[this]at qu;injection qu with h;exact h.symm
 subst IQ;have rI:i.bytes=bytes:=by unfold mT at ae;rw[ai]at ae;simpa using ae
 have M_:∃zc,P.underlying t'=some (.int zc):=by
  unfold ov at am;split at am
  ·rename_i zc h;exact⟨zc,h⟩
  ·cases am
 obtain⟨zc,M_⟩:=M_;have cx:=Go.Lib.run_append_nil_zeros (P:=P) w t t' ty e i h7 k zc hu M_ ai aY m aW (by omega) (by simp only[maxLen]at dw;omega) (by rw[rI];omega);have k':=grownCap_ge w m 0 e;have fT:=grownCap_le_maxLen w m 0 e dw;refine⟨_,_,(Builtin.zeroCells h7.cells m).toList,cx,⟨by simp[size_zeroCells,pf],.inr ⟨w.heap.size,grownCap w m 0 e,_,by rw[List.length_replicate],cd _,⟨_,heap_alloc_new w.drew _,.inl rfl⟩,by simpa using k',fT,?_,?_⟩⟩,fun S=>?_,fun x aj=>by rw[ET aj,hD],⟨rfl,rfl,rfl,by simp,fun k am _=>Lib.alloc_old w.drew _ k am⟩,rfl⟩
 ·simp only[HS,size_zeroCells,pf,<-j9];congr 1;omega
 ·rw[List.length_replicate,LW,List.take_append_of_le_length (by simp[size_zeroCells,pf]),iv (by simp[size_zeroCells,pf])]
 ·have:=Ir (bU S) m;exact this
def S8{S:Nat->Prop}{xs aQ:List (List af)}{us vs:List Value}(al:cj w S xs.flatten us)(am:cj w S aQ.flatten vs):cj w S (xs++aQ).flatten (us++vs):=by
 rw[IS];refine⟨by simp[al.1,am.1],fun j c ac=>?_⟩;rw[xc]at ac⊢;rw[al.1];split at ac
 ·rename_i h;rw[aC h];exact al.2 _ _ ac
 ·rename_i h;rw[au h];exact am.2 _ _ ac
def S9(ah:Rel S0 w0 n s a w){p:Prop}{x:ad}{u:Value}(aj:dM S0 w0 s a w (p,x) u)(ak:p){i e size:Nat}{xs:List (List af)}(h:gx s x=some (some i,some e,size,xs)) :
  (s i).aM=true/\(∀b,u.ownBlock=some b->a' (s i) (aJ a i)=some b)/\(∀b,a' (s i) (aJ a i)=some b->lf S0 w0.heap.size b) /\
   ∃us,w.h0 0 e size u xs.length us/\cj w (bR S0 w0.heap.size w s (aJ a)) xs.flatten us/\(∀x∈xs,x.length=size)/\xs.length<=maxLen:=by
 unfold gx at h;split at h
 ·simp at h
 ·rename_i bB;split at h
  ·rename_i aI S_ Ta ap;simp only[bS,cc]at h;obtain⟨rfl,rfl,rfl,rfl⟩:=h;obtain⟨rfl,_⟩:=cV.wT (aj ak) ap;have ai:=ah.rep bB;rw[ap]at ai;obtain⟨us,bq,al,fD,hm,cL⟩:=ai;exact⟨by rw[ap];rfl,fun b ae=>by rw[ap];exact ae,fun b ae=>cL b (by rw[ap]at ae;exact ae),us,bq,al,fD,hm⟩
  ·rename_i g aI S_ Ta ap;simp only[bS,cc]at h;obtain⟨rfl,rfl,rfl,rfl⟩:=h;obtain⟨aH,_⟩:=aj ak;rw[ap]at aH;obtain rfl:u=g:=aH;have ai:=ah.rep bB;rw[ap]at ai;obtain⟨us,bq,al,fD,hm,cL⟩:=ai;exact⟨by rw[ap];rfl,fun b ae=>by rw[ap];exact ae,fun b ae=>cL b (by rw[ap]at ae;exact ae),us,bq,al,fD,hm⟩
  ·cases h
 ·rename_i bB aK len;split at h
  ·rename_i aI S_ Ta ap;simp only[bS,cc]at h;obtain⟨rfl,rfl,rfl,rfl⟩:=h;have zce:=aj ak;have ai:=ah.rep bB;rw[ap]at ai;obtain⟨us,bq,al,fD,hm,cL⟩:=ai;obtain⟨zcf,sh,aq,_⟩:=MC ap zce bq al fD;exact⟨by rw[ap];rfl,fun b ae=>by rw[ap];exact sh b ae,fun b ae=>cL b (by rw[ap]at ae;exact ae),_,zcf,aq,fun x aj=>fD x (rU aj),by rw[d'];omega⟩
  ·cases h
 ·cases h
def zcg(ah:Rel S0 w0 n s a w){t t' ty:TypeId}{x y:Prop×ad}{u v:Value}{d:Nat}(ax:S0.m<=d/\d<n)(aj:dM S0 w0 s a w x u)(aS:dM S0 w0 s a w y v)(ak:(tO P s t t' x y).1) :
  ∃r w',(Builtin.append_ #[t,t'] ty #[u,v]).run P w=.ok r w'/\Rel S0 w0 n (Ab.put (tO P s t t' x y).2.1 d (tO P s t t' x y).2.2) (a.put (some d) r) w':=by
 unfold tO at ak⊢;split at ak
 ·rename_i e size dH b_;split at ak
  ·rename_i bytes i bV dU xs aQ ae eW la;obtain⟨aa,ab,rfl,rfl,rfl,b9,dw⟩:=ak;obtain⟨p,x⟩:=x;obtain⟨aw,sh,cL,us,bq,al,fD,hm⟩:=S9 ah aj aa eW;obtain⟨b,c,vs,rfl,hM,qt,xq,zch,gN⟩:=Mj ah aS ab la;have M':vs.length=aQ.length*dU:=by rw[qt.1,w5 xq]
   obtain⟨r,w',cx,kN,aB,cb⟩:=S7 (P:=P) (ty:=ty) b_ ae bq M' hM gN qt.xb dw b9 (cd _) (c:=c);refine⟨r,w',cx,?_⟩;have eJ:w.grownBy w' (a' (s i) (aJ a i)):=by refine⟨aB.os,aB.tape,aB.output,aB.size,fun k am bC=>aB.block k am (fun e=>bC ?_)⟩;exact(sh k e.symm).symm
   refine ah.take ax aw eJ (fun bg cm=>?_) (fun j=>rfl) (fun s' tm' S bW=>?_)
   ·have vt:r.ownBlock=some bg:=cm;rcases cb with h|h
    ·exact .inl (sh bg (by rw[<-h];exact vt))
    ·right;rw[h]at vt;injection vt with vt
     omega
   ·have jR:∀c,bR S0 w0.heap.size w s (aJ a) c->w'.heap[c]?=w.heap[c]?:=fun c ao=>aB.block c ao.2.1 (fun e=>ao.2.2 i (sh c e.symm));refine⟨us++vs,by rw[eE];exact kN,(S8 al qt).mono bW jR,fun x aj=>?_,by rw[eE];exact dw,fun bg cm=>?_⟩;rcases gv.1 aj with h|h
    ·exact fD x h
    ·exact xq x h
    ·rcases cb with h|h
     ·exact cL bg (sh bg (by rw[<-h];exact cm))
     ·rw[h]at cm;injection cm with cm;exact .inl (by have:=ah.below.size;omega)
  ·rename_i bytes bV dU xs aQ ae eW la;obtain⟨aa,ab,rfl,b9,dw⟩:=ak;obtain⟨p,x⟩:=x;unfold gx at eW;dsimp only at eW aa;split at eW
   ·obtain rfl:=qq (aj aa);obtain⟨b,c,vs,rfl,hM,qt,xq,zch,gN⟩:=Mj ah aS ab la;have M':vs.length=aQ.length*size:=by rw[qt.1,w5 xq]
    obtain⟨r,w',cx,kN,aB,cb⟩:=S7 (P:=P) (ty:=ty) b_ ae (World.yH w 0 e size) M' hM gN qt.xb (by simpa using dw) (by simpa using b9) (cd _) (c:=c);refine⟨r,w',cx,ah.BI ax aB (by simpa using kN) qt xq dw (fun bg cm=>?_)⟩;rcases cb with h|h
    ·rw[h]at cm;simp[Value.ownBlock]at cm
    ·rw[h]at cm;injection cm with cm;omega
   ·split at eW<;>simp at eW
   ·split at eW<;>simp at eW
   ·simp at eW
  ·rename_i bytes bV dU xs ae eW la;split at ak
   ·rename_i k am;obtain⟨aa,ab,ar,aN,b9,dw⟩:=ak;obtain⟨p,x⟩:=x;obtain⟨q,y⟩:=y;unfold gx at eW;dsimp only at eW aa ab am;unfold IP at am;split at am
    ·rename_i xr bu;injection am with am
     subst am;obtain rfl:=h5 (aS ab);obtain⟨m,rfl⟩:∃m:Nat,bu=m:=⟨bu.toNat,by omega⟩
     split at eW
     ·obtain rfl:=qq (aj aa);obtain⟨r,w',us,cx,kN,al,fD,aB,cb⟩:=zcd (P:=P) (w:=w) (ty:=ty) b_ ae ar xr m (by omega) (by omega) (by rw[<-Int.natCast_mul]at b9;omega);refine⟨r,w',cx,ah.BI ax aB kN (al _) fD (by simp;omega) (fun bg cm=>?_)⟩;rw[cb]at cm;injection cm with cm;omega
     ·split at eW<;>simp at eW
     ·split at eW<;>simp at eW
     ·simp at eW
    ·cases am
   ·exact ak.elim
  ·exact ak.elim
 ·exact ak.elim
def vu(P:Program)(s:ag)(t t':TypeId)(x:Prop×ad)(q:Prop)(l:List UInt8):Prop×ag×ad:=
 match ix P t,gx s x.2 with
 |some (e,size,_),some (some i,some bV,dU,xs)=>(x.1/\q/\hx P t'=true/\pn P e=true/\bV=e/\dU=size/\size=1/\xs.length+l.length<=140737488355328,put s i .dead,.own e size (xs++bL l))
 |some (e,size,_),some (none,_,_,_)=>(x.1/\q/\hx P t'=true/\pn P e=true/\size=1/\l.length<=140737488355328,s,.own e size (bL l))
 |_,_=>(False,s,.dead)
def Tb{t e size:Nat}{dH:List af}(h:ix P t=some (e,size,dH)):P.underlying t=some (.slice e):=by obtain⟨i,z,aa,_⟩:=ES (w:=default) h;exact aa
def zci(ah:Rel S0 w0 n s a w){t t' ty:TypeId}{x y:Prop×ad}{u v:Value}{l:List UInt8}{d:Nat}(ax:S0.m<=d/\d<n)(aj:dM S0 w0 s a w x u)(aS:dM S0 w0 s a w y v)(xq:y.2=.x (.one (.str l)))(ak:(vu P s t t' x y.1 l).1) :
  ∃r w',(Builtin.append_ #[t,t'] ty #[u,v]).run P w=.ok r w'/\Rel S0 w0 n (Ab.put (vu P s t t' x y.1 l).2.1 d (vu P s t t' x y.1 l).2.2) (a.put (some d) r) w':=by
 obtain⟨q,y⟩:=y;dsimp only at xq ak;subst xq;unfold vu at ak⊢;split at ak
 ·rename_i e size dH i bV dU xs b_ eW;obtain⟨aa,ab,ar,aN,rfl,rfl,rfl,d8⟩:=ak;obtain⟨rfl,xt⟩:=lp (aS ab);obtain⟨p,x⟩:=x;obtain⟨aw,sh,cL,us,bq,al,fD,hm⟩:=S9 ah aj aa eW;obtain⟨_,inf,g1,g2,g3,g4⟩:=H9 aN;have b':(⟨l.toArray⟩:ByteArray).size=l.length:=by simp[ByteArray.size]
  obtain⟨r,w',cx,kN,aB,cb⟩:=RE (P:=P) w 0 t t' ty bV inf (Tb b_) (rV ar) g1 g2 g3 g4 u xs.length us bq ⟨l.toArray⟩ (by rw[b'];unfold maxLen;omega) (by rw[b'];exact d8) (cd _);rw[b']at kN;refine⟨r,w',cx,?_⟩;have eJ:w.grownBy w' (a' (s i) (aJ a i)):=by refine⟨aB.os,aB.tape,aB.output,aB.size,fun k am bC=>aB.block k am (fun e=>bC ?_)⟩;exact(sh k e.symm).symm
  refine ah.take ax aw eJ (fun bg cm=>?_) (fun j=>rfl) (fun s' tm' S bW=>?_)
  ·have vt:r.ownBlock=some bg:=cm;rcases cb with h|h
   ·exact .inl (sh bg (by rw[<-h];exact vt))
   ·right;rw[h]at vt;injection vt with vt
    omega
  ·have jR:∀c,bR S0 w0.heap.size w s (aJ a) c->w'.heap[c]?=w.heap[c]?:=fun c ao=>aB.block c ao.2.1 (fun e=>ao.2.2 i (sh c e.symm));refine⟨us++Go.Lib.strCells ⟨l.toArray⟩,by rw[eE,EC];exact kN,(S8 al (Mh _ l)).mono bW jR,fun x aj=>?_,by rw[eE,EC];unfold maxLen;omega,fun bg cm=>?_⟩
   ·rcases gv.1 aj with h|h
    ·exact fD x h
    ·exact Mi l x h
   ·rcases cb with h|h
    ·exact cL bg (sh bg (by rw[<-h];exact cm))
    ·rw[h]at cm;injection cm with cm;exact .inl (by have:=ah.below.size;omega)
 ·rename_i e size dH bV dU xs b_ eW;obtain⟨aa,ab,ar,aN,rfl,d8⟩:=ak;obtain⟨rfl,xt⟩:=lp (aS ab);obtain⟨p,x⟩:=x;obtain⟨_,inf,g1,g2,g3,g4⟩:=H9 aN;have b':(⟨l.toArray⟩:ByteArray).size=l.length:=by simp[ByteArray.size]
  unfold gx at eW;dsimp only at eW aa;split at eW
  ·obtain rfl:=qq (aj aa);obtain⟨r,w',cx,kN,aB,cb⟩:=RE (P:=P) w 0 t t' ty e inf (Tb b_) (rV ar) g1 g2 g3 g4 (.slice none 0 0) 0 [] (World.yH w 0 e 1) ⟨l.toArray⟩ (by rw[b'];unfold maxLen;omega) (by rw[b'];omega) (cd _);rw[b']at kN;refine⟨r,w',cx,ah.BI ax aB (by simpa using kN) (Mh _ l) (Mi l) (by rw[EC];unfold maxLen;omega) (fun bg cm=>?_)⟩;rcases cb with h|h
   ·rw[h]at cm;simp[Value.ownBlock]at cm
   ·rw[h]at cm;injection cm with cm;omega
  ·split at eW<;>simp at eW
  ·split at eW<;>simp at eW
  ·simp at eW
 ·exact ak.elim
def strOf:ad->Option (List UInt8)
 |.x (.one (.str l))=>some l
 |_=>none
def Tc{v:ad}{l:List UInt8}(h:strOf v=some l):v=.x (.one (.str l)):=by
 unfold strOf at h;split at h
 ·injection h with h;subst h;rfl
 ·cases h
def eK(P:Program)(s:ag)(t t':TypeId)(x y:Prop×ad):Prop×ag×ad:=
 match strOf y.2 with
 |some l=>vu P s t t' x y.1 l
 |none=>tO P s t t' x y
def zcj(ah:Rel S0 w0 n s a w){t t' ty:TypeId}{x y:Prop×ad}{u v:Value}{d:Nat}(ax:S0.m<=d/\d<n)(aj:dM S0 w0 s a w x u)(aS:dM S0 w0 s a w y v)(ak:(eK P s t t' x y).1) :
  ∃r w',(Builtin.append_ #[t,t'] ty #[u,v]).run P w=.ok r w'/\Rel S0 w0 n (Ab.put (eK P s t t' x y).2.1 d (eK P s t t' x y).2.2) (a.put (some d) r) w':=by
 unfold eK at ak⊢;cases h:strOf y.2 with
 |some l=>rw[h]at ak;exact zci ah ax aj aS (Tc h) ak
 |none=>rw[h]at ak;exact zcg ah ax aj aS ak
def nQ(P:Program)(src dst:TypeId)(x:Prop×ad):Prop×ad:=
 match strOf x.2,fC P dst with
 |some l,some (e,_)=>(x.1/\hx P src=true/\pn P e=true,.own e 1 (bL l))
 |_,_=>(False,.dead)
def Td(ah:Rel S0 w0 n s a w){src dst:TypeId}{x:Prop×ad}{u:Value}{d:Nat}(ax:S0.m<=d/\d<n)(aj:dM S0 w0 s a w x u)(ak:(nQ P src dst x).1) :
  ∃r w',(convert src dst u).run P w=.ok r w'/\Rel S0 w0 n (Ab.put s d (nQ P src dst x).2) (a.put (some d) r) w':=by
 unfold nQ at ak⊢;split at ak
 ·rename_i l e z al fg;obtain⟨_,hu,_⟩:=oz fg;obtain⟨aa,ab,ar⟩:=ak;obtain⟨p,x⟩:=x;dsimp only at al aa;obtain rfl:=Tc al;obtain⟨rfl,xt⟩:=lp (aj aa);obtain⟨he,_⟩:=H9 ar;have b':(⟨l.toArray⟩:ByteArray).size=l.length:=by simp[ByteArray.size]
  obtain⟨r,w',cx,bq,aB,cb⟩:=ZI (P:=P) w 0 src dst e ⟨l.toArray⟩ (rV ab) hu he (by rw[b'];exact xt) (cd _) none;rw[b']at bq;refine⟨r,w',cx,?_⟩;refine ah.BI ax aB (by rw[EC];exact bq) (Mh _ l) (Mi l) (by rw[EC];exact xt) (fun bg cm=>?_);rw[cb]at cm;injection cm with cm;omega
 ·exact ak.elim
def vv(P:Program)(s:ag)(t:TypeId)(m k x:Prop×ad):Prop×ag:=
 match mE P t,m,k,x with
 |some (bv,_),(p,.alias i),(q,.x bX),(r,.x dp)=>match s i with
  |.mp c bs es=>match er bv bX es 0 with
   |some f=>(p/\q/\r/\fU bv bX=true,fun j=>if j=i then .mp (gZ c bs es bX dp f).1 (gZ c bs es bX dp f).2.1 (gZ c bs es bX dp f).2.2 else s j)
   |none=>(False,s)
  |.fc b c bs es=>match er bv bX es 0 with
   |some f=>(p/\q/\r/\fU bv bX=true,fun j=>if j=i then .fc b (gZ c bs es bX dp f).1 (gZ c bs es bX dp f).2.1 (gZ c bs es bX dp f).2.2 else s j)
   |none=>(False,s)
  |_=>(False,s)
 |_,_,_,_=>(False,s)
def Te(g:Nat)(o:Obj):w.grownBy {w with heap:=w.heap.setIfInBounds g o} (some g)/\({w with heap:=w.heap.setIfInBounds g o}:World).heap.size=w.heap.size:=by refine⟨⟨rfl,rfl,rfl,by simp,fun k _ am=>?_⟩,by simp⟩;exact LZ (fun e=>am (by rw[e]))
def zck(ah:Rel S0 w0 n s a w){t:TypeId}{m k x:Prop×ad}{B3 jO bK:Value}(hm:dM S0 w0 s a w m B3)(am:dM S0 w0 s a w k jO)(aj:dM S0 w0 s a w x bK)(ak:(vv P s t m k x).1) :
  ∃w',(Instr.mapUpdate t B3 jO bK).run P w=.ok () w'/\Rel S0 w0 n (vv P s t m k x).2 a w':=by
 obtain⟨p,m⟩:=m;obtain⟨q,k⟩:=k;obtain⟨r,x⟩:=x;unfold vv at ak⊢;split at ak
 ·rename_i bv e i6 i dQ bX ca dp b_ av aI b5;injection av with pt pu;subst pt;subst pu
  injection aI with nz nA;subst nz;subst nA
  injection b5 with zcl zcm;subst zcl;subst zcm
  split at ak
  ·rename_i c bs es ap;split at ak
   ·rename_i f ay;obtain⟨aa,ab,ar,aN⟩:=ak;obtain⟨eC,hu,EE⟩:=H3 b_;obtain⟨rfl,_⟩:=cV.HW (hm aa) ap;have ac:=ah.rep i;rw[ap]at ac;obtain⟨b,ents,aH,a1,bl,he⟩:=ac;rw[aH];obtain⟨tv,c',cx,kn,oS⟩:=R0 (P:=P) hu EE a1 he (am ab) aN (aj ar) ay;refine⟨_,cx,?_⟩;subst kn;have aq:b<w.heap.size:=(gM.1 a1).1;obtain⟨aB,sd⟩:=Te (w:=w) b (.map tv (gZ c bs es bX dp f).1);refine ah.write (r:=.mp (gZ c bs es bX dp f).1 (gZ c bs es bX dp f).2.1 (gZ c bs es bX dp f).2.2) (b:=b) (by rw[ap,aH];rfl) aB sd (by rw[aH];rfl) rfl (by rw[ap];rfl) (by rw[ap];rfl) (by rw[ap];rfl) (fun s'=>?_) (fun j o d kQ gk gc=>by rw[ap]at gc;cases gc);have jR:∀z,bR S0 w0.heap.size w s (aJ a) z->({w with heap:=w.heap.setIfInBounds b (.map tv (gZ c bs es bX dp f).1)}:World).heap[z]?=w.heap[z]?:=by
     intro z aY;refine aB.block z aY.2.1 (fun e=>?_);injection e with e
     subst e;exact aY.2.2 i (by rw[ap,aH];rfl)
    exact⟨b,tv,aH,by simp[aq],bl,oS.mono (fun _ h=>h) jR⟩
   ·exact ak.elim
  ·rename_i b c bs es ap;split at ak
   ·rename_i f ay;obtain⟨aa,ab,ar,aN⟩:=ak;obtain⟨eC,hu,EE⟩:=H3 b_;obtain⟨l_,_⟩:=hm aa;rw[ap]at l_;have l_:B3=.map (some b):=l_;subst l_;have ac:=ah.rep i;rw[ap]at ac;obtain⟨ents,a1,bl,he⟩:=ac;obtain⟨tv,c',cx,kn,oS⟩:=R0 (P:=P) hu EE a1 he (am ab) aN (aj ar) ay;refine⟨_,cx,?_⟩;subst kn;have aq:b<w.heap.size:=(gM.1 a1).1;obtain⟨aB,sd⟩:=Te (w:=w) b (.map tv (gZ c bs es bX dp f).1);refine ah.write (r:=.fc b (gZ c bs es bX dp f).1 (gZ c bs es bX dp f).2.1 (gZ c bs es bX dp f).2.2) (b:=b) (by rw[ap];rfl) aB sd rfl rfl (by rw[ap];rfl) (by rw[ap];rfl) (by rw[ap];rfl) (fun s'=>?_) (fun j o d kQ gk gc=>by rw[ap]at gc;cases gc);have jR:∀z,bR S0 w0.heap.size w s (aJ a) z->({w with heap:=w.heap.setIfInBounds b (.map tv (gZ c bs es bX dp f).1)}:World).heap[z]?=w.heap[z]?:=by
     intro z aY;refine aB.block z aY.2.1 (fun e=>?_);injection e with e
     subst e;exact aY.2.2 i (by rw[ap];rfl)
    exact⟨tv,by simp[aq],bl,oS.mono (fun _ h=>h) jR⟩
   ·exact ak.elim
  ·exact ak.elim
 ·exact ak.elim
def zd(P:Program)(s:ag)(t:TypeId)(x:Prop×ad):Prop×ag:=
 match ix P t,x with
 |some (_,size,dH),(p,.view i aK len _)=>match s i with
  |.own e dU xs=>(p/\dU=size,fun j=>if j=i then .own e dU (xs.take aK++List.replicate len dH++xs.drop (aK+len))else s j)
  |_=>(False,s)
 |_,_=>(False,s)
def zcn(ah:Rel S0 w0 n s a w){t ty:TypeId}{x:Prop×ad}{u:Value}(aj:dM S0 w0 s a w x u)(ak:(zd P s t x).1) :
  ∃r w',(Builtin.clear_ #[t] ty #[u]).run P w=.ok r w'/\Rel S0 w0 n (zd P s t x).2 a w':=by
 obtain⟨p,x⟩:=x;unfold zd at ak⊢;split at ak
 ·rename_i ch size dH i6 i aK len wh b_ aI;injection aI with nz nA;subst nz;subst nA
  split at ak
  ·rename_i e dU xs ap;obtain⟨aa,rfl⟩:=ak;obtain⟨r0,hle,aH⟩:=aj aa;rw[ap]at hle;have ED:aK+len<=xs.length:=hle;have ai:=ah.rep i;rw[ap]at ai;obtain⟨us,bq,al,fD,hm,cL⟩:=ai;obtain⟨it,z,hu,hit,b',ke,qu,bU,hD⟩:=ES (w:=w) b_;have pf:z.cells.size=dU:=by have:=(bU (fun _=>True)).1;rw[hD]at this;simpa using this
   by_cases aW:len=0
   ·subst aW;have jR:(fun j=>if j=i then ad.own e dU (xs.take aK++List.replicate 0 dH++xs.drop (aK+0))else s j)=s:=by
     funext j;split
     ·rename_i ac;subst ac;rw[ap];simp
     ·rfl
    rw[jR];rcases aH with⟨rfl,_⟩|⟨b,off,cap,rfl,_⟩
    ·exact⟨.tuple #[],w,by simp[Builtin.clear_,run_underlying hu],ah⟩
    ·exact⟨.tuple #[],w,by simp[Builtin.clear_,run_underlying hu],ah⟩
   ·rcases aH with⟨_,h⟩|⟨b,off,cap,rfl,ao,fT,am,aY,_⟩
    ·exact absurd h aW
    ·have jP:=aY (by omega);rw[ap]at am jP;have MB:off=aK*dU:=jP;subst MB;rcases bq.2 with⟨u5,_⟩|⟨g,MD,cur,aH,lb,⟨dl,a1,hI⟩,nl,zco,en,ge⟩
     ·rw[u5]at am;simp[a',Value.ownBlock]at am
     ·have et:a' (ad.own e dU xs) (aJ a i)=some g:=by rw[aH];rfl
      rw[et]at am;injection am with am
      subst am;have Tf:=Ir (bU (bR S0 w0.heap.size w s (aJ a))) len;have Fe:(Builtin.zeroCells z.cells len).toList.length=len*dU:=by simp[size_zeroCells,pf]
      have hmul:aK*dU+len*dU<=xs.length*dU:=by rw[<-j9];exact yJ _ ED
      have gA:xs.length*dU<=MD*dU:=yJ _ nl;have b3:=Bh P g (aK*dU) e dl (Builtin.zeroCells z.cells len).toList 0 cur w a1 hI (by rw[Fe];omega) (cj.xb Tf);simp only[ti]at b3;have l8:cur.toList.take (aK*dU)++(Builtin.zeroCells z.cells len).toList++cur.toList.drop (aK*dU+(Builtin.zeroCells z.cells len).toList.length)=cl cur.toList (aK*dU) (Builtin.zeroCells z.cells len).toList:=rfl;rw[l8]at b3;obtain⟨mK,rfl⟩:∃k,len=k+1:=⟨len-1,by omega⟩
      refine⟨.tuple #[],w.setRow g (cl cur.toList (aK*dU) (Builtin.zeroCells z.cells (mK+1)).toList).toArray,by simp[Builtin.clear_,run_underlying hu,qu,b3],?_⟩;obtain⟨aB,sd⟩:=BY (w:=w) g (cl cur.toList (aK*dU) (Builtin.zeroCells z.cells (mK+1)).toList).toArray;have kh:(xs.take aK++List.replicate (mK+1) dH++xs.drop (aK+(mK+1))).length=xs.length:=by simp;omega
      refine ah.write (r:=.own e dU (xs.take aK++List.replicate (mK+1) dH++xs.drop (aK+(mK+1)))) (b:=g) (by rw[ap];exact et) aB sd (by rw[aH];rfl) rfl (by rw[ap];rfl) (by rw[ap];exact kh) (by rw[ap];rfl) (fun s'=>?_) (fun j o d kQ gk gc=>by rw[ap]at gc;cases gc);have jR:∀c,bR S0 w0.heap.size w s (aJ a) c->(w.setRow g (cl cur.toList (aK*dU) (Builtin.zeroCells z.cells (mK+1)).toList).toArray).heap[c]?=w.heap[c]?:=by
       intro c ao;refine aB.block c ao.2.1 (fun e=>?_);injection e with e
       subst e;exact ao.2.2 i (by rw[ap];exact et)
      have M4:∀x∈xs.take aK++List.replicate (mK+1) dH++xs.drop (aK+(mK+1)),x.length=dU:=by
       intro x aj;rcases gv.1 aj with aj|aj
       ·rcases gv.1 aj with aj|aj
        ·exact fD x (rU aj)
        ·rw[ET aj,hD]
       ·exact fD x (tw aj)
      have dA:(List.replicate (mK+1) dH).flatten.length=(mK+1)*dU:=by rw[w5 (size:=dU) (fun x aj=>by rw[ET aj,hD])];simp
      have E0:(xs.take aK++List.replicate (mK+1) dH++xs.drop (aK+(mK+1))).flatten=cl xs.flatten (aK*dU) (List.replicate (mK+1) dH).flatten:=by rw[IS,IS,BE fD,EB fD];unfold cl;rw[dA,j9]
      refine⟨cl us (aK*dU) (Builtin.zeroCells z.cells (mK+1)).toList,⟨?_,.inr ⟨g,MD,_,by rw[kh];exact aH,lb,⟨dl,setRow_heap w g cur _ e _ a1,by rw[lS,u' _ _ _ (by rw[Fe];simp[en];omega),iZ];exact hI⟩,by rw[kh];exact nl,zco,?_,?_⟩⟩,?_,M4,by rw[kh];exact hm,cL⟩
      ·have gl:us.length=xs.length*dU:=bq.1;rw[u' _ _ _ (by rw[Fe,gl];omega),kh];exact gl
      ·simp only[lS];rw[u' _ _ _ (by rw[Fe];simp[en];omega)];simpa using en
      ·rw[kh,<-ge];exact SQ _ _ _ _ (by rw[Fe];omega) (by simp[en];omega)
      ·rw[E0];exact(al.cl Tf _).mono (fun _ h=>h) jR
  ·exact ak.elim
 ·exact ak.elim
def Rel.zcp{d:Nat}(ah:Rel S0 w0 n s a w)(ax:S0.m<=d/\d<n):Rel S0 w0 n (Ab.put s d (.mp 0 [] [])) (a.put (some d) (.map (some w.heap.size))) (w.alloc (.map #[] 0)):=by
 have he:∀(w':World) (S:Nat->Prop),ql w' S [] [] (#[]:Array MapEntry).toList:=fun _ _=>⟨rfl,rfl,fun j x ac=>by simp at ac⟩
 refine ah.put ax (World.grownBy_alloc w _ none) (fun j h=>by cases h) ⟨_,#[],rfl,heap_alloc_new w _,.inl ah.below.size,he _ _⟩ ?_ ?_
 ·intro b ae;have:w.heap.size=b:=by simpa[a']using ae
  omega
 ·intro b et;have:w.heap.size=b:=by simpa[a']using et
  subst this;exact⟨_,#[],rfl,heap_alloc_new w _,.inl ah.below.size,he _ _⟩
def Ff(p q:Prop)(n m:Int)(e:TypeId)(size:Nat)(z:List af):Option Nat->Prop×ad
 |some b=>(p/\q/\0<=n/\m=n/\(b:Int)*n<=281474976710656/\n.toNat*size<=16777216,.own e size (List.replicate n.toNat z))
 |none=>(False,.dead)
def Fg(P:Program)(p q:Prop)(n m:Int):Option (TypeId×Nat×List af)->Prop×ad
 |some (e,size,z)=>Ff p q n m e size z (mT P e)
 |none=>(False,.dead)
def vw(P:Program)(t:TypeId)(l c:Prop×ad):Prop×ad:=
 match l,c with
 |(p,.x (.one (.int _ n))),(q,.x (.one (.int _ m)))=>Fg P p q n m (ix P t)
 |_,_=>(False,.dead)
def zcq{l c:Operand}{t:TypeId}{d:Nat}{x y:Prop×ad}(ah:Rel S0 w0 n s a w)(aj:dM S0 w0 s a w x (a.eval l))(aS:dM S0 w0 s a w y (a.eval c))(ax:S0.m<=d/\d<n)(ak:(vw P t x y).1) :
  ∃v w',(Instr.makeSlice t (a.eval l) (a.eval c)).run P w=.ok v w'/\Rel S0 w0 n (Ab.put s d (vw P t x y).2) (a.put (some d) v) w':=by
 unfold vw at ak⊢;split at ak
 ·rename_i p k N q bu M;unfold Fg at ak⊢;split at ak
  ·rename_i e size dH b_;unfold Ff at ak⊢;split at ak;rotate_left
   ·exact ak.elim
   rename_i zcr ze;obtain⟨hk,fN,aW,rfl,rI,zbd⟩:=ak;have aj:=aj hk;have aS:=aS fN;obtain⟨i,z,hu,ai,ap,ke,aY,qu,hD⟩:=ES (w:=w) b_;have EQ:z.cells.size=size:=by have:=(qu (fun _=>True)).1;rw[hD]at this;simpa using this
   have bU:=Ir (qu (bR S0 w0.heap.size w s (aJ a))) M.toNat;rw[EQ]at bU;have fD:∀x∈List.replicate M.toNat dH,x.length=size:=fun x aj=>by rw[ET aj,hD]
   have gA:M.toNat<=maxLen:=by have:M.toNat*1<=M.toNat*size:=Nat.mul_le_mul_left _ ke;simp only[maxLen];omega
   have pH:i.zero=some z:=by
    cases IQ:i.zero with
    |none=>simp[zeroValue,typeInfo,ai,IQ,Sem.run_bind]at aY
    |some h7=>
     have:(zeroValue e).run P w=.ok h7 w:=by simp[zeroValue,typeInfo,ai,IQ]
     rw[this]at aY;injection aY with aY
     rw[aY]
   have zcs:i.bytes=zcr:=by unfold mT at ze;rw[ai]at ze;simpa using ze
   have an:=run_make (P:=P) w t e i z hu ai pH k bu M M aW (Int.le_refl _) (by rw[zcs];exact rI) (by simp only[maxLen]at gA;omega);have zct:a.eval l=.int k M:=by generalize a.eval l=zcu at aj;cases aj;rfl
   have zcv:a.eval c=.int bu M:=by generalize a.eval c=zcu at aS;cases aS;rfl
   rw[zct,zcv];refine⟨_,_,an,?_⟩;rw[ap];refine ah.BI ax (World.grownBy_alloc w _ none) (us:=(madeCells z.cells (M.toNat*size)).toList) ⟨by simp[size_madeCells],.inr ⟨w.heap.size,M.toNat,_,by simp,cd _,⟨_,heap_alloc_new w _,.inl rfl⟩,by simp,gA,by simp[size_madeCells],?_⟩⟩ (by unfold madeCells;rw[EQ];exact bU) fD (by simpa using gA) ?_
   ·rw[iv (by simp[size_madeCells])]
   ·intro b ae;have:w.heap.size=b:=by simpa[Value.ownBlock]using ae
    omega
  ·exact ak.elim
 ·exact ak.elim
def zcw{P:Program}{t:TypeId}{x y:Prop×ad}(j:Nat):(vw P t x y).2.refs j=false:=by
 unfold vw;split
 ·unfold Fg;split
  ·unfold Ff;split<;>rfl
  ·rfl
 ·rfl
end
end Go.Ab
